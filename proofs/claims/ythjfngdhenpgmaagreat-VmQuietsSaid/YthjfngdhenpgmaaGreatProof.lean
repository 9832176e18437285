/-
  VmQuiets holds: whatever list of words it is given, it answers true, and the list reads as before. Condition: none.
  The run is reckoned over an evaluator that is proved sound (Kxa .. Kxd): VmQuiets, Quiet and Place for every list (Walk), 'awake' by the kernel (Awake). The list's memory is a window of a row that nobody writes (Mem).
-/
import Derived.Test.YthjfngdhenpgmaaGreatRows
import Derived.WalkKit
import Derived.ProofKit
import Derived.OpenShut
import Derived.Below
import Derived.ChangeSame
import Derived.WideKeyArgs
import Derived.Deep.Slices
import Derived.Deep.Fields
import Derived.Test.YthjfngdhenpgmaaGreatAwake
import Derived.Test.YthjfngdhenpgmaaGreatMem
namespace Go.Proofs.YthjfngdhenpgmaaGreat.vmQuiets
open Go.ChangeShapes Go.WideShapes Go.ChangeAt Go.RowKit Go.Deep Go.Kx
set_option linter.unusedVariables false
set_option linter.unusedSectionVars false
section
variable {H : Type} {enc : TypeId × Value → H} {P : Program}
theorem post_of_below {f : Func} {s : ChangeSpec} {apart fresh handsOn again : Bool} {W W' : World} {args : Array Value} {v : Value} {ds gs : List (DataW H)} {before pa pv : List MemPlace}
    (hW : DataW.Whole enc P f.params.toList s.vars apart W args.toList ds gs before)
    (hres : ∀ (b : Nat) (sp : Nat → Bool) (hd : Bool), DataW.TrodAll enc P W' b sp hd f.resultTypes.toList (v.resultList f.resultTypes.size) (s.fn H (ds ++ gs)).results [])
    (hargs : ∀ sp : Nat → Bool, (∀ p ∈ before, sp p.block = true) → DataW.TrodAll enc P W' 0 sp true f.params.toList args.toList (s.fn H (ds ++ gs)).args pa)
    (hvars : ∀ sp : Nat → Bool, (∀ p ∈ before, sp p.block = true) → DataW.TrodVars enc P W' sp s.vars (s.fn H (ds ++ gs)).vars pv)
    (hps : before = pa ++ pv) (hb : Below W.heap.size W W')
    (hok : ∀ (j : Nat) (t : TypeId) (r : Value), f.resultTypes[j]? = some t → (v.resultList f.resultTypes.size)[j]? = some r → Value.okWide P W' .any 0 t r) :
    s.post enc P f apart fresh handsOn again W args v W' := by
  have hlt : ∀ p ∈ before, p.block < W.heap.size := fun p hp => hW.lt p hp
  have hold : ∀ p ∈ before, (fun b => decide (b < W.heap.size)) p.block = true := fun p hp => by simpa using hlt p hp
  refine ⟨ds, gs, before, [], pa, pv, hW, hres _ _ _, hargs _ hold, hvars _ hold, World.keptBut_mono (fun p hp => ⟨hp, ?_⟩) (hb.frame (· ∈ before)), fun _ => ?_⟩
  · rw [hps, List.mem_append] at hp
    exact Or.inr hp
  · obtain ⟨_, _, _, _, _, hz, hn⟩ := hW
    refine ⟨hok, _, _, ([] ++ pa) ++ pv, ⟨[] ++ pa, pv, trodAll_append (hargs _ (fun _ _ => rfl)) (hres _ _ _), hvars _ (fun _ _ => rfl), rfl, ?_, ?_⟩, ?_⟩
    · intro b off hp
      have hin : MemPlace.cell b off ∈ before := by rw [hps]; simpa using hp
      rw [hb.frozen (hlt _ hin)]
      exact hz b off hin
    · intro ha
      have := hn ha
      rw [hps] at this
      simpa using this
    · intro p hp _
      rw [hps]
      simpa using hp
end


section
variable {H : Type} {enc : TypeId × Value → H} {P : Program} {w : World} {base : Nat} {spare : Nat → Bool} {held : Bool}
theorem open_slice_fields {t e : TypeId} {fs : Array Field} {fuel : Nat} {cs : List Value} {x : DataW H × List MemPlace} (ht : P.underlying t = some (.slice e)) (he : P.underlying e = some (.struct fs))
    (hone : oneCellFields P fs = true) (hC : P.cellsOf e = fs.size) (h : DataW.trod enc P w base spare held fuel t cs = some x) :
    (cs = [.slice none 0 0] ∧ x = (.nil, [])) ∨
    ∃ (a : Addr) (len cap m : Nat) (D : Nat → DataW H) (Pl : Nat → List MemPlace), cs = [.slice (some a) len cap] ∧ base ≤ a.block ∧ len ≤ cap ∧ cap ≤ maxLen ∧ m = (if spare a.block then cap else len) ∧
      x = (.slice ((List.range len).map D) ((List.range (m - len)).map fun j => D (len + j)), MemPlace.row a (m * fs.size) ++ (List.range m).flatMap Pl) ∧
      ∀ i, i < m → ∃ (ys : List (DataW H × List MemPlace)) (n : Nat), D i = .agg (ys.map (·.1)) ∧ Pl i = ys.flatMap (·.2) ∧ ys.length = fs.size ∧
        ∀ (j : Nat) (f : Field), fs[j]? = some f → ∃ (v : Value) (y : DataW H × List MemPlace), w.cell? (a.add (i * fs.size + j)) = some v ∧ ys[j]? = some y ∧ DataW.trod enc P w base spare held n f.type [v] = some y := by
  rcases open_slice ht h with h0 | ⟨a, len, cap, m, n, D, Pl, hcs, hb, hl, hm, hmm, hx, hi⟩
  · exact .inl h0
  · refine .inr ⟨a, len, cap, m, D, Pl, hcs, hb, hl, hm, hmm, by rw [hC] at hx; exact hx, fun i him => ?_⟩
    obtain ⟨cs', hc, ht'⟩ := hi i him
    rw [hC] at hc
    obtain ⟨ys, n', hn', hy, hlen, hyl, hf⟩ := DataW.trod_struct he ht'
    obtain ⟨_, hcl, hat⟩ := World.cells?_some hc
    simp only [Prod.mk.injEq] at hy
    refine ⟨ys, n', hy.1, hy.2, hyl, fun j f hj => ?_⟩
    obtain ⟨ho, hk⟩ := hone_of hone j f hj
    have hjl : j < fs.size := (Array.getElem?_eq_some_iff.1 hj).1
    have hcell := hat j hjl
    have hv : cs'[j]? = some (cs'[j]'(by omega)) := List.getElem?_eq_getElem (by omega)
    have h1 := hf j f hj
    rw [ho, hk] at h1
    have hone' : (cs'.drop j).take 1 = [cs'[j]'(by omega)] := by
      rw [List.drop_eq_getElem_cons (by omega)]
      rfl
    rw [hone'] at h1
    have hys : ys[j]? = some (ys[j]'(by omega)) := List.getElem?_eq_getElem (by omega)
    refine ⟨_, _, ?_, hys, h1.trans hys⟩
    rw [← Go.Deep.add_add, hcell, hv]
end

theorem own : ownKnob Tryz.prog.godebug = none := by kernel_rfl
theorem laid : laidOutB Tryz.prog = true := by kernel_rfl
def sigB (P : Program) (g : FuncId) (rs np : Nat) : Bool :=
  match P.funcs[g]? with
  | some fn => fn.body.isSome && !(fn.name == "runtime.NumGoroutine") && Nat.beq fn.results.size rs && Nat.beq (fn.params.size + fn.nfree) np
  | none => false
theorem sigB_spec {P : Program} {g : FuncId} {rs np : Nat} (h : sigB P g rs np = true) : ∃ fn, P.funcs[g]? = some fn ∧ fn.body.isSome = true ∧ fn.name ≠ "runtime.NumGoroutine" ∧ rs = fn.results.size ∧ np = fn.params.size + fn.nfree := by
  unfold sigB at h
  split at h
  · next fn hf =>
    simp only [Bool.and_eq_true, Bool.not_eq_true', beq_eq_false_iff_ne] at h
    obtain ⟨⟨⟨h1, h2⟩, h3⟩, h4⟩ := h
    exact ⟨fn, hf, h1, h2, (Nat.eq_of_beq_eq_true h3).symm, (Nat.eq_of_beq_eq_true h4).symm⟩
  · cases h

theorem sig3 : sigB Tryz.prog 3 1 1 = true := by kernel_rfl
theorem sig4 : sigB Tryz.prog 4 1 0 = true := by kernel_rfl
/-- where a row's cells lie, it is long enough -/
theorem row_off {P : Program} {fits : TypeId → Bool} {d : Nat} {e : TypeId} {count off n : Nat} (h : rowAt P fits d e count off n = true) : off ≤ count * P.cellsOf e := by
  cases d with
  | zero => simp [rowAt] at h
  | succ d =>
    unfold rowAt at h
    simp only at h
    by_cases h0 : P.cellsOf e = 0
    · simp [h0] at h
    · rw [if_neg h0, Bool.or_eq_true] at h
      have hd := Nat.div_add_mod off (P.cellsOf e)
      have hm := Nat.mod_lt off (Nat.pos_of_ne_zero h0)
      rcases h with h | h
      · simp only [Bool.and_eq_true, beq_iff_eq, decide_eq_true_eq] at h
        have : off / P.cellsOf e * P.cellsOf e ≤ count * P.cellsOf e := Nat.mul_le_mul_right _ (by omega)
        rw [Nat.mul_comm] at this
        omega
      · simp only [Bool.and_eq_true, decide_eq_true_eq] at h
        have : (off / P.cellsOf e + 1) * P.cellsOf e ≤ count * P.cellsOf e := Nat.mul_le_mul_right _ h.1
        rw [Nat.add_mul, Nat.mul_comm] at this
        omega
theorem lies_off {P : Program} : ∀ {d : Nat} {e : TypeId} {count off : Nat} {u : TypeId} {n : Nat}, liesAt P d e count off u n = true → off ≤ count * P.cellsOf e
  | 0, _, _, _, _, _, h => by simp [liesAt] at h
  | d + 1, e, count, off, u, n, h => by
    unfold liesAt at h
    rw [Bool.or_eq_true] at h
    rcases h with h | h
    · exact row_off h
    · split at h
      · exact lies_off h
      · cases h
section
variable [Sig]
theorem awake_fact (h : H) : CallFact Tryz.prog 4 [] h [.tt] h := by
  obtain ⟨h', hr⟩ := okTT_spec awake_tt
  exact fact_any rfl rfl (run0_ok progOk noPrims hr) h
noncomputable abbrev prims : List (FuncId × CallT) := [(4, constP [] [.tt])]
theorem prims_ok : PrimsOk Tryz.prog (primL prims) := by
  refine primL_ok prims fun x hx => ?_
  rcases List.mem_cons.1 hx with rfl | hx
  · exact constP_ok awake_fact
  · cases hx
theorem fact3 (D : List Wd) (v : V) (h0 : H) (hv : ArgV 3 wc h0 v D) : ∃ h, h0.nx ≤ h.nx ∧ (∀ i, i < h0.nx → h.at i = h0.at i) ∧ CallFact Tryz.prog 3 [v] h0 [.tt] h := by
  obtain ⟨h, h1, h2, h3⟩ := vm3 (primL prims) rfl rfl rfl rfl 0 D v h0 hv
  exact ⟨h, h1, h2, run0_ok progOk prims_ok (h3 _)⟩
theorem walk_nil (w : World) : Calls Tryz.prog 3 #[.slice none 0 0] w fun e w' => e = .returned (.bool true) ∧ Below w.heap.size w w' := by
  obtain ⟨h, _, _, hf⟩ := fact3 [] .nils H.nil (.inl ⟨rfl, rfl⟩)
  obtain ⟨fn, h1, _, _, _, h5⟩ := sigB_spec sig3
  exact calls_tt hf ⟨fn, h1, h5⟩ (vs := [.slice none 0 0]) (.cons .nils .nil) w
theorem walk {w : World} {g s cap : Nat} {c : Array Value} {el : TypeId} {fr : Nat × Nat} (hg : w.heap[g]? = some (.cells c el fr)) (D : List Wd) (hfit : s + D.length * 3 ≤ c.size)
    (hun : ∀ o, s ≤ o → o < s + D.length * 3 → ¬ (fr.1 ≤ o ∧ o < fr.2)) (hc : ∀ k, k < D.length * 3 → ∃ v, c[s + k]? = some v ∧ VRel mu0 (nthV (rowW D) k) v) :
    Calls Tryz.prog 3 #[.slice (some ⟨g, s, none⟩) D.length cap] w fun e w' => e = .returned (.bool true) ∧ Below w.heap.size w w' := by
  have hr := arg_rel hg D hfit hun hc
  obtain ⟨h, h1, h2, hf⟩ := fact3 D _ (argH D) (arg_v D cap)
  obtain ⟨fn, h3, _, _, _, h5⟩ := sigB_spec sig3
  have hv : VRel (argM g s D) (.slice 0 0 D.length (.known cap)) (.slice (some ⟨g, s, none⟩) D.length cap) := .known 0 0 D.length cap _ (argM_0 g s D)
  exact (hf.2 ⟨fn, h3, h5⟩ (argM g s D) w [.slice (some ⟨g, s, none⟩) D.length cap] hr (fun i hi _ => argM_ne g s D (by rw [argH_nx] at hi; omega)) (.cons hv .nil)).mono fun e w' ⟨v, he, μ', st, hr', hres⟩ => by
    have hres : VRel μ' .tt v := hres
    cases hres
    exact ⟨he, arg_below hg hr st hr' (h2 0 (by rw [argH_nx]; omega))⟩
end

/-! ### the row's step -/
theorem under26 : ∃ f0 f1 f2 : Field, Tryz.prog.underlying 26 = some (.struct #[f0, f1, f2]) ∧ oneCellFields Tryz.prog #[f0, f1, f2] = true ∧ Tryz.prog.cellsOf 26 = 3 ∧
    Tryz.prog.underlying f0.type = some (.int .i64) ∧ Tryz.prog.underlying f1.type = some (.int .i64) ∧ Tryz.prog.underlying f2.type = some .string :=
  ⟨_, _, _, Tryz.underlying26, by kernel_rfl, by kernel_rfl, by kernel_rfl, by kernel_rfl, by kernel_rfl⟩
set_option maxRecDepth 100000 in
set_option maxHeartbeats 1000000 in
theorem arg_call [Sig] {H : Type} {enc : TypeId × Value → H} {W : World} {base : Nat} {v0 : Value} {d0 : DataW H} {p0 : List MemPlace} (hok : Value.okWide Tryz.prog W .any base 22 v0)
    (h0 : DataW.Trod enc Tryz.prog W 0 (fun _ => true) true 22 v0 d0 p0) (hfz : W.noneFrozen p0) : Calls Tryz.prog 3 #[v0] W fun e w' => e = .returned (.bool true) ∧ Below W.heap.size W w' := by
  obtain ⟨a, len, cap, rfl⟩ := okWide_slice Tryz.underlying22 hok
  obtain ⟨fuel, hf⟩ := h0
  obtain ⟨f0, f1, f2, hs, hone, hC, hu0, hu1, hu2⟩ := under26
  rcases open_slice_fields Tryz.underlying22 hs hone hC hf with ⟨hcs, _⟩ | ⟨a', len', cap', m, Dt, Pl, hcs, _, hl, _, hm, hx, hi⟩
  · simp [Value.cells] at hcs
    obtain ⟨rfl, rfl, rfl⟩ := hcs
    exact walk_nil W
  · simp [Value.cells] at hcs
    obtain ⟨rfl, rfl, rfl⟩ := hcs
    simp only [if_true] at hm
    have hm' : cap = m := hm.symm
    subst hm'
    have hhas : Cell.ok Tryz.prog W .any base 22 (.slice (some a') len cap) := by
      simpa [Value.okWide, Tryz.underlying22, Cell.okWide] using hok
    have hhas' : W.has Tryz.prog .any base a' 26 cap := by
      simp [Cell.ok, Tryz.underlying22] at hhas
      exact hhas.2.2
    obtain ⟨_, hspot, row, cells, hsh, hlie⟩ := hhas'
    obtain ⟨g, s, sp⟩ := a'
    obtain rfl : sp = none := hspot
    obtain ⟨c, fr, hg, hcsz⟩ : ∃ c fr, W.heap[g]? = some (.cells c row fr) ∧ c.size = cells := by
      simp only [World.shape?] at hsh
      split at hsh
      · next c el fr hh => injection hsh with hsh; injection hsh with e1 e2; subst e1 e2; exact ⟨c, fr, hh, rfl⟩
      · cases hsh
    have hsz : s ≤ c.size := by
      have h9 := lies_off hlie
      rw [hcsz]
      exact Nat.le_trans h9 (Nat.div_mul_le_self _ _)
    have hcell : ∀ o, W.cell? ⟨g, o, none⟩ = c[o]? := fun o => by simp [World.cell?, hg]
    have words : ∀ i, ∃ wd : Wd, i < cap → (∃ u, c[s + i * 3]? = some u ∧ VRel mu0 (iv wd.1) u) ∧ (∃ u, c[s + i * 3 + 1]? = some u ∧ VRel mu0 (iv wd.2.1) u) ∧ (∃ u, c[s + i * 3 + 2]? = some u ∧ VRel mu0 (.str wd.2.2.length wd.2.2) u) := fun i => by
      by_cases hic : i < cap
      · obtain ⟨ys, n, _, _, _, hfl⟩ := hi i hic
        obtain ⟨x0, y0, c0, _, t0⟩ := hfl 0 f0 rfl
        obtain ⟨x1, y1, c1, _, t1⟩ := hfl 1 f1 rfl
        obtain ⟨x2, y2, c2, _, t2⟩ := hfl 2 f2 rfl
        obtain ⟨n0, e0, _, _⟩ := DataW.trod_int hu0 t0
        obtain ⟨n1, e1, _, _⟩ := DataW.trod_int hu1 t1
        obtain ⟨s2, e2, _, _⟩ := DataW.trod_string hu2 t2
        injection e0 with e0 _
        injection e1 with e1 _
        injection e2 with e2 _
        subst e0 e1 e2
        obtain ⟨l, hl2⟩ := str_rel mu0 s2
        have d0 : c[s + i * 3]? = some (.int .i64 n0) := (hcell _).symm.trans (by rw [addr_add] at c0; exact c0)
        have d1 : c[s + i * 3 + 1]? = some (.int .i64 n1) := (hcell _).symm.trans (by rw [addr_add] at c1; exact c1)
        have d2 : c[s + i * 3 + 2]? = some (.string s2) := (hcell _).symm.trans (by rw [addr_add] at c2; exact c2)
        exact ⟨(n0, n1, l), fun _ => ⟨⟨_, d0, iv_rel _ _⟩, ⟨_, d1, iv_rel _ _⟩, ⟨_, d2, hl2⟩⟩⟩
      · exact ⟨(0, 0, []), fun h => absurd h hic⟩
    obtain ⟨F, hF⟩ := Classical.axiomOfChoice words
    have hDl : ((List.range len).map F).length = len := by simp
    have hget : ∀ k, k < len * 3 → ∃ v, c[s + k]? = some v ∧ VRel mu0 (nthV (rowW ((List.range len).map F)) k) v := fun k hk => by
      obtain ⟨wd, hwd, e⟩ := rowW_at (D := (List.range len).map F) (k := k) (by rw [hDl]; exact hk)
      have hk3 : k / 3 < len := by omega
      rw [List.getElem?_map, List.getElem?_range hk3] at hwd
      injection hwd with hwd
      have hw3 := hF (k / 3) (by omega)
      rw [hwd] at hw3
      rw [e]
      obtain ⟨⟨u0, a0, b0⟩, ⟨u1, a1, b1⟩, ⟨u2, a2, b2⟩⟩ := hw3
      match hm : k % 3 with
      | 0 => exact ⟨u0, by rw [← a0]; congr 1; omega, b0⟩
      | 1 => exact ⟨u1, by rw [← a1]; congr 1; omega, b1⟩
      | 2 => exact ⟨u2, by rw [← a2]; congr 1; omega, b2⟩
      | n + 3 => have := Nat.mod_lt k (show 0 < 3 by omega); omega
    have hfit : s + len * 3 ≤ c.size := by
      by_cases h0 : len = 0
      · subst h0; omega
      · obtain ⟨v, hv, _⟩ := hget (len * 3 - 1) (by omega)
        have := (Array.getElem?_eq_some_iff.1 hv).1
        omega
    have hp0 : p0 = MemPlace.row ⟨g, s, none⟩ (cap * 3) ++ (List.range cap).flatMap Pl := by
      have := congrArg Prod.snd hx
      simpa using this
    have hun : ∀ o, s ≤ o → o < s + len * 3 → ¬ (fr.1 ≤ o ∧ o < fr.2) := fun o h1 h2 h3 => by
      have hin : MemPlace.cell g o ∈ MemPlace.row ⟨g, s, none⟩ (cap * 3) := by
        refine List.mem_map.2 ⟨o - s, List.mem_range.2 (by omega), ?_⟩
        show MemPlace.cell g (s + (o - s)) = _
        rw [show s + (o - s) = o by omega]
      have := hfz g o (by rw [hp0]; exact List.mem_append.2 (.inl hin))
      simp [World.frozen?, hg] at this
      exact absurd h3.2 (by have := this h3.1; omega)
    have := walk (cap := cap) hg ((List.range len).map F) (by rw [hDl]; exact hfit) (by rw [hDl]; exact hun) (by rw [hDl]; exact hget)
    rw [hDl] at this
    exact this
set_option maxHeartbeats 1000000 in
set_option maxRecDepth 100000 in
theorem lifted (os : Os) (started : os.Started) (H : Type) (enc : TypeId × Value → H) :
    ReturnsInHanded {} Tryz.checked os 3 .any (Rows.vmQuietsSpec.pre6 enc Tryz.prog Tryz.f3 Rows.vmQuietsRow.domain false) (Rows.vmQuietsSpec.post enc Tryz.prog Tryz.f3 false true false false) := by
  letI : Sig := ⟨fun _ _ => False⟩
  refine returnsInHanded_of_change (C := Tryz.checked) own started (by kernel_rfl) Tryz.func3
    (ChangeSpec.witness6 (enc := enc) (C := Tryz.checked) false ⟨#[], #[.slice none 0 0], []⟩ 8 (by kernel_rfl) (by kernel_rfl) (by kernel_rfl) (by kernel_rfl)) ?_
  intro W base args ds gs before hval0 hW hcnd _
  have hval : ∀ (j : Nat) t v, Tryz.f3.params[j]? = some t → args[j]? = some v → Value.okWide Tryz.prog W .any base t v := hval0
  have hW' := hW
  obtain ⟨p, q, hA0, hV, rfl, hfz, hnd⟩ := hW
  have hA : DataW.TrodAll enc Tryz.prog W 0 (fun _ => true) true Tryz.f3.params.toList args.toList ds p := hA0
  rw [Tryz.params3] at hA hval
  obtain ⟨v0, vs0, d0, ds0, p0, q0, hargs, rfl, rfl, h0, r0⟩ := trodAll_cons hA
  obtain ⟨rfl, rfl, rfl⟩ := trodAll_nil r0
  obtain rfl : args = #[v0] := by cases args; simp_all
  obtain ⟨rfl, rfl⟩ := trodVars_none hV
  have hlt : ∀ x ∈ p0, x.block < W.heap.size := fun x hx => by simpa using hW'.lt x (by simpa using hx)
  have main := arg_call (hval 0 22 v0 rfl rfl) h0 (fun b off hb => hfz b off (by simpa using hb))
  simp only [List.append_nil] at hW'
  refine main.mono fun e W' ⟨he, hb⟩ => ?_
  subst he
  exact ⟨_, rfl, post_of_below (pa := p0) (pv := []) hW' (fun _ _ _ => (trodAll_cons_mk (shut_bool Tryz.underlying4 _) trodAll_mk0))
    (fun sp hsp => by
      have h9 : DataW.Trod enc Tryz.prog W' 0 sp true 22 v0 d0 p0 := WideElems.Trod_stays laid (by kernel_rfl) (of_decide_eq_true (by kernel_rfl)) h0 (fun x hx => hb.same (hlt x hx)) hsp
      have h8 : DataW.TrodAll enc Tryz.prog W' 0 sp true [22] [v0] [d0] p0 := by
        have := trodAll_cons_mk h9 trodAll_mk0
        simpa using this
      exact h8) (fun _ _ => rfl) (by simp)
    hb (ok_one (by kernel_rfl) rfl (okWide_bool_mk Tryz.underlying4 _))⟩

theorem over : Rows.vmQuietsRow.holds Tryz.pinned (OpenSpec.ofChange Rows.vmQuietsSpec) :=
  OpenClaim.holds_of_wide 3 Tryz.f3 rfl rfl rfl rfl rfl rfl rfl ⟨rfl, rfl, rfl, rfl, rfl⟩ rfl rfl rfl rfl rfl (by kernel_rfl) Tryz.func3 (by kernel_rfl)
    (of_decide_eq_true (by kernel_rfl)) (by unfold Func.isWrapper; first | (rw [if_pos (by decide +kernel)]; kernel_rfl) | (rw [if_neg (by decide +kernel)]; exact ⟨rfl, rfl⟩))
    (fun os started H enc _ => lifted os started H enc)

/-- ████ THE STATEMENT ████ -/
theorem proved : Rows.VmQuietsSaid :=
  over
#print axioms proved
end Go.Proofs.YthjfngdhenpgmaaGreat.vmQuiets
