/- The argument's memory, told to the evaluator: a window of a row that it does not write; and what is left of it behind the call. Condition: none. -/
import Derived.Test.YthjfngdhenpgmaaGreatWalk
import Derived.Below
namespace Go.Proofs.YthjfngdhenpgmaaGreat
open Go.Kx Go.RowKit
noncomputable section
variable [Sig]
set_option linter.unusedSectionVars false
theorem iv_rel (μ : Mu) (z : Int) : VRel μ (iv z) (.int .i64 z) := by
  cases z with
  | ofNat m => exact .n m
  | negSucc m => exact .int _ _
theorem str_rel (μ : Mu) (s : ByteArray) : ∃ l : List Nat, VRel μ (.str l.length l) (.string s) := by
  have h := ofCell_ok μ (.string s)
  have e : ofCell (.string s) = .str s.size (s.data.toList.map UInt8.toNat) := by
    show V.str s.size (mapL UInt8.toNat s.data.toList) = _
    rw [mapL_eq]
  rw [e] at h
  have hl : s.size = (s.data.toList.map UInt8.toNat).length := by
    rw [List.length_map, Array.length_toList]; rfl
  exact ⟨s.data.toList.map UInt8.toNat, hl ▸ h⟩
/-- numbers and strings are what they are, wherever -/
theorem iv_det {μ : Mu} {z : Int} {v : Value} (h : VRel μ (iv z) v) : v = .int .i64 z := by
  cases z with
  | ofNat m => cases h; rfl
  | negSucc m => cases h; rfl
theorem str_det {μ μ' : Mu} {n : Nat} {s : List Nat} {v v' : Value} (h : VRel μ (.str n s) v) (h' : VRel μ' (.str n s) v') : v' = v := by
  cases h; cases h'; rfl
def rowW (D : List Wd) : List V := D.flatMap wc
theorem rowW_len (D : List Wd) : (rowW D).length = D.length * 3 := by
  induction D with
  | nil => rfl
  | cons w D ih =>
    have : rowW (w :: D) = wc w ++ rowW D := rfl
    rw [this, List.length_append, ih]
    show 3 + D.length * 3 = (D.length + 1) * 3
    omega
theorem rowW_get : ∀ (D : List Wd) (k p : Nat) (w : Wd), D[k]? = some w → p < 3 → nthV (rowW D) (k * 3 + p) = nthV (wc w) p
  | [], _, _, _, h, _ => by cases h
  | x :: D, 0, p, w, h, hp => by
    injection h with h; subst h
    have : rowW (x :: D) = wc x ++ rowW D := rfl
    rw [this, nthV_eq, nthV_eq, List.getElem?_append_left (by show 0 * 3 + p < 3; omega)]
    congr 2
    omega
  | x :: D, k + 1, p, w, h, hp => by
    have h : D[k]? = some w := h
    have e : rowW (x :: D) = wc x ++ rowW D := rfl
    rw [← rowW_get D k p w h hp, e, nthV_eq, nthV_eq, List.getElem?_append_right (by show 3 ≤ _; omega)]
    congr 2
    show (k + 1) * 3 + p - 3 = _
    omega
theorem rowW_at {D : List Wd} {k : Nat} (hk : k < D.length * 3) : ∃ w, D[k / 3]? = some w ∧ nthV (rowW D) k = nthV (wc w) (k % 3) := by
  have h1 : k / 3 < D.length := by omega
  have h2 := List.getElem?_eq_getElem h1
  refine ⟨D[k / 3], h2, ?_⟩
  have := rowW_get D (k / 3) (k % 3) _ h2 (Nat.mod_lt _ (by omega))
  rwa [show k / 3 * 3 + k % 3 = k by omega] at this
theorem rowW_det {D : List Wd} {k : Nat} (hk : k < D.length * 3) {μ μ' : Mu} {v v' : Value} (h : VRel μ (nthV (rowW D) k) v) (h' : VRel μ' (nthV (rowW D) k) v') : v' = v := by
  obtain ⟨w, _, e⟩ := rowW_at hk
  rw [e] at h h'
  match hm : k % 3, h, h' with
  | 0, h, h' => rw [iv_det h, iv_det h']
  | 1, h, h' => rw [iv_det h, iv_det h']
  | 2, h, h' => exact str_det h h'
  | n + 3, _, _ => have := Nat.mod_lt k (show 0 < 3 by omega); omega
def argB (D : List Wd) : Blk := .big (D.length * 3) (D.length * 3) (rowW D) .nil
theorem argB_cell {D : List Wd} {k : Nat} (hk : k < D.length * 3) : cellOf (argB D) k = nthV (rowW D) k := by
  show (Option.getD (Tr.get (path k) (Tr.nil : Tr V)) (nthV (rowW D) (k % (D.length * 3)))) = _
  rw [Tr.get_nil, Nat.mod_eq_of_lt hk]; rfl
theorem argB_row (D : List Wd) : rowB (argB D) := ⟨trivial, fun _ => Blk.noConfusion⟩
def argH (D : List Wd) : H := H.nil.add (argB D)
theorem argH_at (D : List Wd) : (argH D).at 0 = some (argB D) := H.at_add H.nil (argB D)
theorem argH_ne (D : List Wd) {i : Nat} (hi : i ≠ 0) : (argH D).at i = none := (H.at_add_ne H.nil (argB D) hi).trans (H.nil_at i)
theorem argH_nx (D : List Wd) : (argH D).nx = 1 := rfl
theorem arg_v (D : List Wd) (cap : Nat) : ArgV 3 wc (argH D) (.slice 0 0 D.length (.known cap)) D := by
  have m := mk_add (h := H.nil) (b := argB D) (n := D.length * 3) (f := nthV (rowW D)) (argB_row D) rfl fun p hp => argB_cell hp
  refine .inr ⟨0, .known cap, argB D, rfl, by rw [argH_nx]; omega, argH_at D, argB_row D, m.len 0, fun k w hk => ?_⟩
  have hlt : k < D.length := (List.getElem?_eq_some_iff.1 hk).1
  exact cels_list rfl fun p hp => by
    rw [← rowW_get D k p w hk hp]
    exact m.new _ (by omega)
/-- where it lies -/
def argM (g s : Nat) (D : List Wd) : Mu := mu0.add 0 ⟨g, s, s + D.length * 3, D.length * 3⟩
theorem argM_0 (g s : Nat) (D : List Wd) : argM g s D 0 = some ⟨g, s, s + D.length * 3, D.length * 3⟩ := Mu.add_self _ _ _
theorem argM_ne (g s : Nat) (D : List Wd) {i : Nat} (hi : i ≠ 0) : argM g s D i = none := Mu.add_ne _ _ hi
theorem arg_rel {w : World} {g s : Nat} {c : Array Value} {el : TypeId} {fr : Nat × Nat} (hg : w.heap[g]? = some (.cells c el fr)) (D : List Wd) (hfit : s + D.length * 3 ≤ c.size)
    (hun : ∀ o, s ≤ o → o < s + D.length * 3 → ¬ (fr.1 ≤ o ∧ o < fr.2)) (hc : ∀ k, k < D.length * 3 → ∃ v, c[s + k]? = some v ∧ VRel mu0 (nthV (rowW D) k) v) : Rel (argM g s D) (argH D) w := by
  have hle : mu0.le (argM g s D) := Mu.le_add rfl
  have only : ∀ {i : Nat} {b : Blk}, (argH D).at i = some b → i = 0 ∧ b = argB D := fun {i b} h => by
    by_cases e : i = 0
    · subst e; rw [argH_at] at h; injection h with h; exact ⟨rfl, h.symm⟩
    · rw [argH_ne D e] at h; cases h
  refine ⟨fun i b l h1 h2 => ?_, fun i j b b' l m h1 h2 _ _ _ => by rw [(only h1).1, (only h2).1], fun i l h1 => ?_, fun i hi => argH_ne D (by rw [argH_nx] at hi; omega)⟩
  · obtain ⟨rfl, rfl⟩ := only h1
    rw [argM_0] at h2; injection h2 with h2; subst h2
    refine ⟨_, hg, .cells _ _ c el fr (argB_row D).2 ⟨hfit, rfl, Nat.le_refl _, trivial, .inr ⟨rfl, Nat.le_refl _, hun⟩, fun k hk => ?_⟩⟩
    obtain ⟨v, h3, h4⟩ := hc k hk
    exact ⟨v, h3, by rw [argB_cell hk]; exact h4.mono hle⟩
  · by_cases e : i = 0
    · subst e
      rw [argM_0] at h1; injection h1 with h1; subst h1
      exact (Array.getElem?_eq_some_iff.1 hg).1
    · rw [argM_ne g s D e] at h1; cases h1
/-- behind a call that turns no told row, nothing old has turned -/
theorem arg_below {w w' : World} {g s : Nat} {c : Array Value} {el : TypeId} {fr : Nat × Nat} (hg : w.heap[g]? = some (.cells c el fr)) {D : List Wd} (hr : Rel (argM g s D) (argH D) w)
    {μ' : Mu} {h' : H} (st : Step (argM g s D) (argH D) w μ' h' w') (hr' : Rel μ' h' w') (hat : h'.at 0 = (argH D).at 0) : Below w.heap.size w w' := by
  refine ⟨st.os, st.tape, st.output, st.size, fun β hβ => ?_⟩
  by_cases e : β = g
  · subst e
    have hat' : h'.at 0 = some (argB D) := hat.trans (argH_at D)
    obtain ⟨_, ho⟩ := st.keep 0 (argB D) (argB D) _ (by rw [argH_nx]; omega) (argH_at D) hat' (argM_0 β s D) rfl
    obtain ⟨c', h1, h2, h3⟩ := ho c el fr hg
    obtain ⟨o, h4, h5⟩ := hr.live 0 _ _ (argH_at D) (argM_0 β s D)
    obtain ⟨o', h6, h7⟩ := hr'.live 0 _ _ hat' (st.ext _ _ (argM_0 β s D))
    rw [hg] at h4; injection h4 with h4; subst h4
    rw [h1] at h6; injection h6 with h6; subst h6
    cases h5 with
    | cells _ _ _ _ _ _ r5 =>
      cases h7 with
      | cells _ _ _ _ _ _ r7 =>
        have hcc : c' = c := by
          apply Array.ext_getElem?
          intro k
          by_cases hin : s ≤ k ∧ k < s + D.length * 3
          · have hk : k - s < D.length * 3 := by omega
            obtain ⟨v, a1, a2⟩ := r5.cells (k - s) hk
            obtain ⟨v', b1, b2⟩ := r7.cells (k - s) hk
            rw [argB_cell hk] at a2 b2
            have hs : s + (k - s) = k := by omega
            simp only [hs] at a1 b1
            rw [a1, b1, rowW_det hk a2 b2]
          · exact h3 k (by simp only; omega)
        rw [h1, hg, hcc]
  · exact (st.frame β hβ fun ⟨i, b, l, h1, h2, h3⟩ => by
      by_cases e' : i = 0
      · subst e'; rw [argM_0] at h2; injection h2 with h2; subst h2; exact e h3.symm
      · rw [argM_ne g s D e'] at h2; cases h2).1
end
end Go.Proofs.YthjfngdhenpgmaaGreat
