/- The evaluator is sound, part 3: regions that draw, code, functions, calls. Condition: none. -/
import Derived.Test.YthjfngdhenpgmaaGreatKxc
import Derived.LoopN
import Derived.Below
import Derived.KernelRfl
set_option linter.unusedSectionVars false
set_option linter.unusedVariables false
set_option linter.unusedSimpArgs false
namespace Go.Kx
noncomputable section
variable [Sig]
section
variable {P : Program}

/- ## regions that draw their order -/
theorem clsOf_le (o : Op) : clsOf P o ≤ 3 := by
  unfold clsOf
  repeat' split
  all_goals omega
theorem NRel.unapp {μ : Mu} {e : Ev} {f : Fr} {m : Nm} {v : Value} {l : Ev} (h : NRel μ (l ++ e) f m v) (hb : m.below e.length) : NRel μ e f m v := by
  cases h with
  | val h => exact .val (by rw [aoV_app hb] at h; exact h)
  | tup h =>
    refine .tup ?_
    rename_i as vs
    have : as.map (aoV (l ++ e) f) = as.map (aoV e f) := List.map_congr_left fun a ha => aoV_app (hb a ha) l f
    rw [this] at h; exact h
/-- the operations that make memory -/
def MadeAt (P : Program) (ops : Array Oper) (T : Nat → Sn) (j : Nat) (b : Blk) : Prop := ∃ o, ops[j]? = some o ∧ clsOf P o.op = 2 ∧ (T (j + 1)).h = (T j).h.add b
/-- what stands while a region runs: 'S' have run; 'q': all ahead of it that write or call have run, none behind it -/
structure Mid (P : Program) (ops : Array Oper) (T : Nat → Sn) (S : Nat → Prop) (q : Nat) (μ0 : Mu) (w0 : World) (μ : Mu) (w : World) : Prop where
  valid : ∀ p o, ops[p]? = some o → clsOf P o.op = 3 → (S p ↔ p < q)
  rel : Rel μ (T q).h w
  ext : μ0.le μ
  new : ∀ i l, μ i = some l → μ0 i = some l ∨ (μ0 i = none ∧ (T 0).h.nx ≤ i ∧ i < (T ops.size).h.nx)
  phantom : ∀ i, i < (T 0).h.nx → μ0 i = none → (T q).h.at i = (T 0).h.at i
  frame : ∀ β, β < w0.heap.size → ¬ Own μ0 (T 0).h β → w.heap[β]? = w0.heap[β]? ∧ ¬ Own μ (T q).h β
  size : w0.heap.size ≤ w.heap.size
  tape : w.tape = w0.tape
  os : w.os = w0.os
  output : w.output = w0.output
  dead : ∀ i, i < (T 0).h.nx → (T 0).h.at i = none → (T q).h.at i = none
  keep : ∀ i b b' l, i < (T 0).h.nx → (T 0).h.at i = some b → (T q).h.at i = some b' → μ0 i = some l → bigB b = true → bigB b' = true ∧ Outside l w0 w
  fresh : ∀ i l, (T q).h.nx ≤ i → i < (T ops.size).h.nx → μ i = some l → ∃ j b, j < ops.size ∧ S j ∧ MadeAt P ops T j b ∧ (T j).h.nx = i
  late : ∀ j b, j < q → MadeAt P ops T j b → ¬ S j → μ (T j).h.nx = none ∧ (T q).h.at (T j).h.nx = some b
  early : ∀ j b, q ≤ j → MadeAt P ops T j b → S j → ∃ l o, μ (T j).h.nx = some l ∧ w.heap[l.b]? = some o ∧ BRel μ b l o ∧ w0.heap.size ≤ l.b ∧ ¬ Own μ (T q).h l.b
  dist : ∀ i j b c l m, q ≤ i → q ≤ j → MadeAt P ops T i b → MadeAt P ops T j c → S i → S j → μ (T i).h.nx = some l → μ (T j).h.nx = some m → l.b = m.b → i = j
section mid
variable {ops : Array Oper} {lay : Lay} {f : Fr} {T : Nat → Sn} {S : Nat → Prop} {q : Nat} {μ0 μ : Mu} {w0 w : World}
theorem MadeAt.lt {j : Nat} {b : Blk} (h : MadeAt P ops T j b) : j < ops.size := by
  obtain ⟨o, ho, _⟩ := h
  exact (Array.getElem?_eq_some_iff.1 ho).1
theorem nx_le (hstep : ∀ k o, ops[k]? = some o → StepAt P ops lay f T k o) {i j : Nat} (h : i ≤ j) (hj : j ≤ ops.size) : (T i).h.nx ≤ (T j).h.nx := by
  have := nx_mono hstep (j - i) i (by omega)
  rwa [show i + (j - i) = j by omega] at this
theorem MadeAt.nx (hstep : ∀ k o, ops[k]? = some o → StepAt P ops lay f T k o) {j : Nat} {b : Blk} (h : MadeAt P ops T j b) {p : Nat} (hp : j < p) (hpn : p ≤ ops.size) : (T j).h.nx < (T p).h.nx := by
  have h1 := nx_le hstep (show j + 1 ≤ p by omega) hpn
  obtain ⟨o, _, _, h2⟩ := h
  rw [h2, H.nx_add] at h1
  omega
theorem MadeAt.inj (hstep : ∀ k o, ops[k]? = some o → StepAt P ops lay f T k o) {i j : Nat} {b c : Blk} (h : MadeAt P ops T i b) (k : MadeAt P ops T j c) (e : (T i).h.nx = (T j).h.nx) : i = j := by
  rcases Nat.lt_trichotomy i j with hl | hl | hl
  · have := h.nx hstep hl (Nat.le_of_lt k.lt); omega
  · exact hl
  · have := k.nx hstep hl (Nat.le_of_lt h.lt); omega
theorem H.at_lt {h : H} {μ : Mu} {w : World} (r : Rel μ h w) {i : Nat} {b : Blk} (hi : h.at i = some b) : i < h.nx := by
  rcases Nat.lt_or_ge i h.nx with e | e
  · exact e
  · rw [r.wf i e] at hi; cases hi
/-- past an operation that neither writes nor calls -/
theorem Mid.shift (hstep : ∀ k o, ops[k]? = some o → StepAt P ops lay f T k o) (M : Mid P ops T S q μ0 w0 μ w) {o : Oper} (ho : ops[q]? = some o) (hc : clsOf P o.op ≠ 3) : Mid P ops T S (q + 1) μ0 w0 μ w := by
  have hq : q < ops.size := (Array.getElem?_eq_some_iff.1 ho).1
  have hval : ∀ p o, ops[p]? = some o → clsOf P o.op = 3 → (S p ↔ p < q + 1) := fun p o' hp hc' => by
    rw [M.valid p o' hp hc']
    have : p ≠ q := fun e => by subst e; rw [ho] at hp; injection hp with hp; subst hp; exact hc hc'
    omega
  have same : (T (q + 1)).h = (T q).h → Mid P ops T S (q + 1) μ0 w0 μ w := fun e => by
    have hno : ∀ b, ¬ MadeAt P ops T q b := fun b ⟨o', _, _, h⟩ => by
      have := congrArg H.nx (h.symm.trans e)
      rw [H.nx_add] at this; omega
    refine ⟨hval, by rw [e]; exact M.rel, M.ext, M.new, by rw [e]; exact M.phantom, by rw [e]; exact M.frame, M.size, M.tape, M.os, M.output, by rw [e]; exact M.dead, by rw [e]; exact M.keep, by rw [e]; exact M.fresh, ?_, ?_, ?_⟩
    · intro j b hj hm hs
      rw [e]
      rcases Nat.lt_or_ge j q with h | h
      · exact M.late j b h hm hs
      · have : j = q := by omega
        subst this; exact absurd hm (hno b)
    · intro j b hj hm hs; rw [e]; exact M.early j b (by omega) hm hs
    · exact fun i j b c l m h1 h2 => M.dist i j b c l m (by omega) (by omega)
  have hf := (hstep q o ho).fact
  have hle := clsOf_le (P := P) o.op
  rcases hf with (⟨_, hf⟩ | ⟨_, hh, _⟩) | ⟨_, hh, _⟩
  · generalize hcl : clsOf P o.op = cls at hf hc hle
    match cls, hf, hc, hle with
    | 0, hf, _, _ => exact same hf.1
    | 1, hf, _, _ => exact same hf.1
    | 3, _, hc, _ => exact absurd rfl hc
    | n + 4, _, _, h => omega
    | 2, ⟨b, c, _, hh, _⟩, _, _ =>
      have hm : MadeAt P ops T q b := ⟨o, ho, hcl, hh⟩
      have hnew : ¬ S q → μ (T q).h.nx = none := fun hs => by
        cases hμ : μ (T q).h.nx with
        | none => rfl
        | some l =>
          obtain ⟨j, c, _, hsj, hmj, hj⟩ := M.fresh _ l (Nat.le_refl _) (hm.nx hstep hq (Nat.le_refl _)) hμ
          have := hmj.inj hstep hm hj
          subst this; exact absurd hsj hs
      have hown : ∀ β, Own μ ((T q).h.add b) β → Own μ (T q).h β ∨ ∃ l, S q ∧ μ (T q).h.nx = some l ∧ l.b = β := fun β ⟨i, c', l, h1, h2, h3⟩ => by
        by_cases e : i = (T q).h.nx
        · subst e
          refine .inr ⟨l, ?_, h2, h3⟩
          by_cases hs : S q
          · exact hs
          · rw [hnew hs] at h2; cases h2
        · rw [H.at_add_ne _ _ e] at h1; exact .inl ⟨i, c', l, h1, h2, h3⟩
      refine ⟨hval, ?_, M.ext, M.new, ?_, ?_, M.size, M.tape, M.os, M.output, fun k hk0 e0 => by rw [hh, H.at_add_ne _ _ (by have := nx_le hstep (Nat.zero_le q) (Nat.le_of_lt hq); omega)]; exact M.dead k hk0 e0, fun k x y l hk0 hx hy hm0 hb0 => M.keep k x y l hk0 hx (by rw [hh, H.at_add_ne _ _ (by have := nx_le hstep (Nat.zero_le q) (Nat.le_of_lt hq); omega)] at hy; exact hy) hm0 hb0, ?_, ?_, ?_, ?_⟩
      · rw [hh]
        refine ⟨fun i b' l h1 h2 => ?_, fun i j b' c' l m h1 h2 h3 h4 h5 => ?_, M.rel.bnd, fun i hi => ?_⟩
        · by_cases e : i = (T q).h.nx
          · subst e
            rw [H.at_add] at h1; injection h1 with h1; subst h1
            by_cases hs : S q
            · obtain ⟨l', ob, h6, h7, h8, _⟩ := M.early q b (Nat.le_refl _) hm hs
              rw [h2] at h6; injection h6 with h6; subst h6
              exact ⟨ob, h7, h8⟩
            · rw [hnew hs] at h2; cases h2
          · rw [H.at_add_ne _ _ e] at h1; exact M.rel.live i b' l h1 h2
        · by_cases e1 : i = (T q).h.nx <;> by_cases e2 : j = (T q).h.nx
          · rw [e1, e2]
          · subst e1
            rw [H.at_add_ne _ _ e2] at h2
            by_cases hs : S q
            · obtain ⟨l', ob, h6, h7, h8, h9, h10⟩ := M.early q b (Nat.le_refl _) hm hs
              rw [h3] at h6; injection h6 with h6; subst h6
              exact absurd ⟨j, c', m, h2, h4, h5.symm⟩ h10
            · rw [hnew hs] at h3; cases h3
          · subst e2
            rw [H.at_add_ne _ _ e1] at h1
            by_cases hs : S q
            · obtain ⟨l', ob, h6, h7, h8, h9, h10⟩ := M.early q b (Nat.le_refl _) hm hs
              rw [h4] at h6; injection h6 with h6; subst h6
              exact absurd ⟨i, b', l, h1, h3, h5⟩ h10
            · rw [hnew hs] at h4; cases h4
          · rw [H.at_add_ne _ _ e1] at h1; rw [H.at_add_ne _ _ e2] at h2
            exact M.rel.inj i j b' c' l m h1 h2 h3 h4 h5
        · rw [H.nx_add] at hi
          rw [H.at_add_ne _ _ (by omega)]; exact M.rel.wf i (by omega)
      · intro i hi hμ
        have h0 := nx_le hstep (Nat.zero_le q) (Nat.le_of_lt hq)
        rw [hh, H.at_add_ne _ _ (by omega)]; exact M.phantom i hi hμ
      · intro β hβ ho'
        obtain ⟨h1, h2⟩ := M.frame β hβ ho'
        refine ⟨h1, fun h3 => ?_⟩
        rw [hh] at h3
        rcases hown β h3 with h4 | ⟨l, hs, h4, h5⟩
        · exact h2 h4
        · obtain ⟨l', ob, h6, h7, h8, h9, h10⟩ := M.early q b (Nat.le_refl _) hm hs
          rw [h4] at h6; injection h6 with h6; subst h6; omega
      · intro i l hi; rw [hh, H.nx_add] at hi; exact M.fresh i l (by omega)
      · intro j c' hj hmj hs
        by_cases e : j = q
        · subst e
          refine ⟨hnew hs, ?_⟩
          obtain ⟨_, _, _, h1⟩ := hmj
          rw [hh] at h1 ⊢
          rw [← H.at_add (T j).h c', ← h1]
        · obtain ⟨h1, h2⟩ := M.late j c' (by omega) hmj hs
          have := hmj.nx hstep (show j < q by omega) (Nat.le_of_lt hq)
          exact ⟨h1, by rw [hh, H.at_add_ne _ _ (by omega)]; exact h2⟩
      · intro j c' hj hmj hs
        obtain ⟨l, ob, h1, h2, h3, h4, h5⟩ := M.early j c' (by omega) hmj hs
        refine ⟨l, ob, h1, h2, h3, h4, fun h6 => ?_⟩
        rw [hh] at h6
        rcases hown _ h6 with h7 | ⟨l', hsq, h7, h8⟩
        · exact h5 h7
        · have := M.dist q j b c' l' l (Nat.le_refl _) (by omega) hm hmj hsq hs h7 h1 h8
          omega
      · exact fun i j b c l m h1 h2 => M.dist i j b c l m (by omega) (by omega)
  · exact same hh
  · exact same hh
/-- an operation that turns no memory -/
theorem Mid.quiet (M : Mid P ops T S q μ0 w0 μ w) {i : Nat} {o : Oper} (ho : ops[i]? = some o) (hc : clsOf P o.op ≠ 3) (hm : ∀ b, ¬ MadeAt P ops T i b) : Mid P ops T (fun j => S j ∨ j = i) q μ0 w0 μ w := by
  refine ⟨fun p o' hp hc' => ?_, M.rel, M.ext, M.new, M.phantom, M.frame, M.size, M.tape, M.os, M.output, M.dead, M.keep, fun j l h1 h2 h3 => ?_, fun j b h1 h2 h3 => M.late j b h1 h2 (fun h => h3 (.inl h)), fun j b h1 h2 h3 => ?_, fun j k b c l m h1 h2 h3 h4 h5 h6 => ?_⟩
  · rw [← M.valid p o' hp hc']
    have : p ≠ i := fun e => by subst e; rw [ho] at hp; injection hp with hp; subst hp; exact hc hc'
    simp [this]
  · obtain ⟨j, b, h4, h5, h6, h7⟩ := M.fresh j l h1 h2 h3
    exact ⟨j, b, h4, .inl h5, h6, h7⟩
  · rcases h3 with h3 | rfl
    · exact M.early j b h1 h2 h3
    · exact absurd h2 (hm b)
  · rcases h5 with h5 | rfl
    · rcases h6 with h6 | rfl
      · exact M.dist j k b c l m h1 h2 h3 h4 h5 h6
      · exact absurd h4 (hm c)
    · exact absurd h3 (hm b)
/-- one that makes memory -/
theorem Mid.made (hstep : ∀ k o, ops[k]? = some o → StepAt P ops lay f T k o) (M : Mid P ops T S q μ0 w0 μ w) {i : Nat} {b : Blk} (hm : MadeAt P ops T i b) (hS : ¬ S i) (hqi : i ≠ q) {w' : World} {ob : Obj} (s0 top L : Nat) (hp : Push w ob w')
    (hB : ∀ μ', μ.le μ' → μ' (T i).h.nx = some ⟨w.heap.size, s0, top, L⟩ → BRel μ' b ⟨w.heap.size, s0, top, L⟩ ob) :
    μ (T i).h.nx = none ∧ Mid P ops T (fun j => S j ∨ j = i) q μ0 w0 (μ.add (T i).h.nx ⟨w.heap.size, s0, top, L⟩) w' := by
  have hin := hm.lt
  have hnone : μ (T i).h.nx = none := by
    rcases Nat.lt_or_ge i q with h | h
    · exact (M.late i b h hm hS).1
    · cases hμ : μ (T i).h.nx with
      | none => rfl
      | some l =>
        obtain ⟨j, c, _, hsj, hmj, hj⟩ := M.fresh _ l (nx_le hstep h (Nat.le_of_lt hin)) (hm.nx hstep hin (Nat.le_refl _)) hμ
        have := hmj.inj hstep hm hj
        subst this; exact absurd hsj hS
  have hle := Mu.le_add (l := ⟨w.heap.size, s0, top, L⟩) hnone
  have hself := Mu.add_self μ (T i).h.nx ⟨w.heap.size, s0, top, L⟩
  have hBr := hB _ hle hself
  have back : ∀ {k : Nat} {l : Loc}, k ≠ (T i).h.nx → μ.add (T i).h.nx ⟨w.heap.size, s0, top, L⟩ k = some l → μ k = some l := fun hk h => by rwa [Mu.add_ne _ _ hk] at h
  have hat : ∀ c, (T q).h.at (T i).h.nx = some c → i < q ∧ c = b := fun c hc => by
    have h1 := H.at_lt M.rel hc
    rcases Nat.lt_or_ge i q with h | h
    · have := (M.late i b h hm hS).2
      rw [this] at hc; injection hc with hc
      exact ⟨h, hc.symm⟩
    · have := nx_le hstep h (Nat.le_of_lt hin)
      omega
  have hown : ∀ β, Own (μ.add (T i).h.nx ⟨w.heap.size, s0, top, L⟩) (T q).h β → Own μ (T q).h β ∨ (i < q ∧ β = w.heap.size) := fun β ⟨k, c, l, h1, h2, h3⟩ => by
    by_cases e : k = (T i).h.nx
    · subst e
      rw [hself] at h2; injection h2 with h2; subst h2
      exact .inr ⟨(hat c h1).1, h3.symm⟩
    · exact .inl ⟨k, c, l, h1, back e h2, h3⟩
  refine ⟨hnone, fun p o' hp' hc' => ?_, ⟨fun k c l h1 h2 => ?_, fun k j c c' l m h1 h2 h3 h4 h5 => ?_, fun k l h1 => ?_, M.rel.wf⟩, Mu.le_trans M.ext hle, fun k l h1 => ?_, M.phantom, fun β hβ ho => ?_, ?_, hp.tape.trans M.tape, hp.os.trans M.os, hp.output.trans M.output, M.dead, fun k x y l hk0 hx hy hm0 hb0 => ⟨(M.keep k x y l hk0 hx hy hm0 hb0).1, (M.keep k x y l hk0 hx hy hm0 hb0).2.trans (.refl l (hp.other _ (M.rel.bnd k l (M.ext k l hm0))))⟩, fun k l h1 h2 h3 => ?_, fun j c h1 h2 h3 => ?_, fun j c h1 h2 h3 => ?_, fun j k c c' l m h1 h2 h3 h4 h5 h6 h7 h8 h9 => ?_⟩
  · rw [← M.valid p o' hp' hc']
    have : p ≠ i := fun e => by
      subst e
      obtain ⟨o'', ho'', hcl, _⟩ := hm
      rw [hp'] at ho''; injection ho'' with ho''; subst ho''
      omega
    simp [this]
  · by_cases e : k = (T i).h.nx
    · subst e
      rw [hself] at h2; injection h2 with h2; subst h2
      obtain ⟨_, rfl⟩ := hat c h1
      exact ⟨ob, hp.self, hBr⟩
    · have h2' := back e h2
      obtain ⟨o', h6, h7⟩ := M.rel.live k c l h1 h2'
      exact ⟨o', by rw [hp.other _ (M.rel.bnd k l h2')]; exact h6, h7.mono hle⟩
  · by_cases e1 : k = (T i).h.nx <;> by_cases e2 : j = (T i).h.nx
    · rw [e1, e2]
    · subst e1
      rw [hself] at h3; injection h3 with h3; subst h3
      have := M.rel.bnd j m (back e2 h4)
      simp only at h5; omega
    · subst e2
      rw [hself] at h4; injection h4 with h4; subst h4
      have := M.rel.bnd k l (back e1 h3)
      simp only at h5; omega
    · exact M.rel.inj k j c c' l m h1 h2 (back e1 h3) (back e2 h4) h5
  · rw [hp.size]
    by_cases e : k = (T i).h.nx
    · subst e
      rw [hself] at h1; injection h1 with h1; subst h1
      exact Nat.lt_succ_self _
    · exact Nat.lt_succ_of_lt (M.rel.bnd k l (back e h1))
  · by_cases e : k = (T i).h.nx
    · subst e
      refine .inr ⟨?_, nx_le hstep (Nat.zero_le i) (Nat.le_of_lt hin), hm.nx hstep hin (Nat.le_refl _)⟩
      cases h0 : μ0 (T i).h.nx with
      | none => rfl
      | some l0 => have := M.ext _ _ h0; rw [hnone] at this; cases this
    · exact M.new k l (back e h1)
  · obtain ⟨h1, h2⟩ := M.frame β hβ ho
    have hs := M.size
    refine ⟨by rw [hp.other β (by omega)]; exact h1, fun h3 => ?_⟩
    rcases hown β h3 with h4 | ⟨_, h4⟩
    · exact h2 h4
    · omega
  · rw [hp.size]; have := M.size; omega
  · by_cases e : k = (T i).h.nx
    · exact ⟨i, b, hin, .inr rfl, hm, e.symm⟩
    · obtain ⟨j, c, h4, h5, h6, h7⟩ := M.fresh k l h1 h2 (back e h3)
      exact ⟨j, c, h4, .inl h5, h6, h7⟩
  · have hji : j ≠ i := fun e => h3 (.inr e)
    obtain ⟨h4, h5⟩ := M.late j c h1 h2 (fun h => h3 (.inl h))
    have hne : (T j).h.nx ≠ (T i).h.nx := fun e => hji (h2.inj hstep hm e)
    exact ⟨by rw [Mu.add_ne _ _ hne]; exact h4, h5⟩
  · by_cases hji : j = i
    · subst hji
      have hqj : ¬ j < q := by omega
      refine ⟨⟨w.heap.size, s0, top, L⟩, ob, hself, hp.self, ?_, M.size, fun h4 => ?_⟩
      · obtain ⟨_, _, _, h5⟩ := h2
        obtain ⟨_, _, _, h6⟩ := hm
        have : c = b := by
          have e : (T j).h.add c = (T j).h.add b := h5.symm.trans h6
          have := congrArg (fun h => h.at (T j).h.nx) e
          simp only [H.at_add] at this
          injection this
        rw [this]; exact hBr
      · rcases hown _ h4 with ⟨k, c', l, h5, h6, h7⟩ | ⟨h5, _⟩
        · have h8 := M.rel.bnd k l h6; simp only at h7; omega
        · exact hqj h5
    · have hs : S j := h3.resolve_right hji
      obtain ⟨l, o', h4, h5, h6, h7, h8⟩ := M.early j c h1 h2 hs
      have hb := M.rel.bnd _ l h4
      refine ⟨l, o', hle _ _ h4, by rw [hp.other _ hb]; exact h5, h6.mono hle, h7, fun h9 => ?_⟩
      rcases hown _ h9 with h10 | ⟨_, h10⟩
      · exact h8 h10
      · omega
  · by_cases e1 : j = i <;> by_cases e2 : k = i
    · rw [e1, e2]
    · subst e1
      rw [hself] at h7; injection h7 with h7; subst h7
      have hne : (T k).h.nx ≠ (T j).h.nx := fun e => e2 (h4.inj hstep hm e)
      have := M.rel.bnd _ m (back hne h8)
      simp only at h9; omega
    · subst e2
      rw [hself] at h8; injection h8 with h8; subst h8
      have hne : (T j).h.nx ≠ (T k).h.nx := fun e => e1 (h3.inj hstep hm e)
      have := M.rel.bnd _ l (back hne h7)
      simp only at h9; omega
    · have n1 : (T j).h.nx ≠ (T i).h.nx := fun e => e1 (h3.inj hstep hm e)
      have n2 : (T k).h.nx ≠ (T i).h.nx := fun e => e2 (h4.inj hstep hm e)
      exact M.dist j k c c' l m h1 h2 h3 h4 (h5.resolve_right e1) (h6.resolve_right e2) (back n1 h7) (back n2 h8) h9
/-- the next one that writes or calls -/
theorem Mid.chain (hstep : ∀ k o, ops[k]? = some o → StepAt P ops lay f T k o) (M : Mid P ops T S q μ0 w0 μ w) {o : Oper} (ho : ops[q]? = some o) (hc : clsOf P o.op = 3) :
    Fresh μ (T q).h (T (q + 1)).h ∧ ∀ μ' w', Step μ (T q).h w μ' (T (q + 1)).h w' → Rel μ' (T (q + 1)).h w' → Mid P ops T (fun j => S j ∨ j = q) (q + 1) μ0 w0 μ' w' := by
  have hq : q < ops.size := (Array.getElem?_eq_some_iff.1 ho).1
  have hnm : ∀ b, ¬ MadeAt P ops T q b := fun b ⟨o', ho', hc', _⟩ => by rw [ho] at ho'; injection ho' with ho'; subst ho'; omega
  have hmono := nx_le hstep (show q ≤ q + 1 by omega) hq
  have hend := nx_le hstep (show q + 1 ≤ ops.size by omega) (Nat.le_refl _)
  constructor
  · intro i h1 h2
    cases hμ : μ i with
    | none => rfl
    | some l =>
      obtain ⟨j, b, h3, h4, h5, h6⟩ := M.fresh i l h1 (by omega) hμ
      rcases Nat.lt_trichotomy j q with h | h | h
      · have := h5.nx hstep h (Nat.le_of_lt hq); omega
      · subst h; exact absurd h5 (hnm b)
      · have := nx_le hstep (show q + 1 ≤ j by omega) (Nat.le_of_lt h3); omega
  · intro μ' w' st hr
    have hnew : ∀ i l, μ' i = some l → μ i = some l ∨ (μ i = none ∧ (T q).h.nx ≤ i ∧ i < (T (q + 1)).h.nx) := st.new
    refine ⟨fun p o' hp hc' => ?_, hr, Mu.le_trans M.ext st.ext, fun i l h1 => ?_, fun i hi h0 => ?_, fun β hβ ho' => ?_, Nat.le_trans M.size st.size, st.tape.trans M.tape, st.os.trans M.os, st.output.trans M.output, fun k hk0 e0 => st.dead k (by have := nx_le hstep (Nat.zero_le q) (Nat.le_of_lt hq); omega) (M.dead k hk0 e0), fun k x y l hk0 hx hy hm0 hb0 => by
      have hlt : k < (T q).h.nx := by have := nx_le hstep (Nat.zero_le q) (Nat.le_of_lt hq); omega
      cases e1 : (T q).h.at k with
      | none => rw [st.dead k hlt e1] at hy; cases hy
      | some z =>
        obtain ⟨h1, h2⟩ := M.keep k x z l hk0 hx e1 hm0 hb0
        obtain ⟨h3, h4⟩ := st.keep k z y l hlt e1 hy (M.ext k l hm0) h1
        exact ⟨h3, h2.trans h4⟩, fun i l h1 h2 h3 => ?_, fun j b h1 h2 h3 => ?_, fun j b h1 h2 h3 => ?_, fun i j b c l m h1 h2 h3 h4 h5 h6 h7 h8 h9 => ?_⟩
    · have h1 := M.valid p o' hp hc'
      constructor
      · rintro (h | rfl)
        · have := h1.1 h; omega
        · omega
      · intro h
        by_cases e : p = q
        · exact .inr e
        · exact .inl (h1.2 (by omega))
    · rcases hnew i l h1 with h2 | ⟨h2, h3, h4⟩
      · exact M.new i l h2
      · refine .inr ⟨?_, ?_, by omega⟩
        · cases h0 : μ0 i with
          | none => rfl
          | some l0 => have := M.ext _ _ h0; rw [h2] at this; cases this
        · have := nx_le hstep (Nat.zero_le q) (Nat.le_of_lt hq); omega
    · have h1 := nx_le hstep (Nat.zero_le q) (Nat.le_of_lt hq)
      have h2 : μ i = none := by
        cases hμ : μ i with
        | none => rfl
        | some l => rcases M.new i l hμ with h3 | ⟨_, h3, _⟩
                    · rw [h0] at h3; cases h3
                    · omega
      rw [st.phantom i (by omega) h2]; exact M.phantom i hi h0
    · obtain ⟨h1, h2⟩ := M.frame β hβ ho'
      have := M.size
      obtain ⟨h3, h4⟩ := st.frame β (by omega) h2
      exact ⟨h3.trans h1, h4⟩
    · rcases hnew i l h3 with h4 | ⟨_, _, h4⟩
      · obtain ⟨j, b, h5, h6, h7, h8⟩ := M.fresh i l (by omega) h2 h4
        exact ⟨j, b, h5, .inl h6, h7, h8⟩
      · omega
    · have hjq : j ≠ q := fun e => h3 (.inr e)
      obtain ⟨h4, h5⟩ := M.late j b (by omega) h2 (fun h => h3 (.inl h))
      have h6 := h2.nx hstep (show j < q by omega) (Nat.le_of_lt hq)
      refine ⟨?_, by rw [st.phantom _ h6 h4]; exact h5⟩
      cases hμ : μ' (T j).h.nx with
      | none => rfl
      | some l => rcases hnew _ l hμ with h7 | ⟨_, h7, _⟩
                  · rw [h4] at h7; cases h7
                  · omega
    · have hs : S j := h3.resolve_right (by omega)
      obtain ⟨l, ob, h4, h5, h6, h7, h8⟩ := M.early j b (by omega) h2 hs
      obtain ⟨h9, h10⟩ := st.frame l.b (M.rel.bnd _ l h4) h8
      exact ⟨l, ob, st.ext _ _ h4, h9.trans h5, h6.mono st.ext, h7, h10⟩
    · have hsi : S i := h5.resolve_right (by omega)
      have hsj : S j := h6.resolve_right (by omega)
      obtain ⟨l', _, h10, _⟩ := M.early i b (by omega) h3 hsi
      obtain ⟨m', _, h11, _⟩ := M.early j c (by omega) h4 hsj
      have e1 := st.ext _ _ h10
      have e2 := st.ext _ _ h11
      rw [h7] at e1; injection e1 with e1; subst e1
      rw [h8] at e2; injection e2 with e2; subst e2
      exact M.dist i j b c l m (by omega) (by omega) h3 h4 hsi hsj h10 h11 h9
end mid
end
end
end Go.Kx
namespace Go.Kx
noncomputable section
variable [Sig]
section
variable {P : Program}

/- ## which come ahead of which -/
structure RdOk (ops : Array Oper) : Prop where
  after : ∀ (i : Nat) (o : Oper), ops[i]? = some o → ∀ e, e ∈ o.after → Region.binds .any e = true → e.on < i
  uniq : ∀ (i j : Nat) (o p : Oper) (t : Nat), ops[i]? = some o → ops[j]? = some p → o.dst = some t → p.dst = some t → i = j
  look : ∀ (i j : Nat) (o p : Oper) (t : Nat), ops[i]? = some o → ops[j]? = some p → p.dst = some t → t ∈ o.looksAt ops → j = i ∨ (j < i ∧ bitOf (Region.before ops) i j = true) ∨ (i < j ∧ bitOf (Region.before ops) j i = true)
def beforeOne (acc : Array Nat) (o : Oper) : Nat := o.after.foldl (fun s e => if Region.binds .any e then s ||| 2 ^ e.on ||| acc.getD e.on 0 else s) 0
theorem before_list : ∀ (l : List Oper) (acc : Array Nat), ∃ R : Array Nat, l.foldl (fun acc o => acc.push (beforeOne acc o)) acc = R ∧ (∀ i, i < acc.size → R[i]? = acc[i]?) ∧
    ∀ k o, l[k]? = some o → ∃ A : Array Nat, A.size = acc.size + k ∧ (∀ i, i < A.size → A[i]? = R[i]?) ∧ R[acc.size + k]? = some (beforeOne A o)
  | [], acc => ⟨acc, rfl, fun _ _ => rfl, fun k o h => by simp at h⟩
  | o :: l, acc => by
    obtain ⟨R, h1, h2, h3⟩ := before_list l (acc.push (beforeOne acc o))
    refine ⟨R, h1, fun i hi => ?_, fun k o' hk => ?_⟩
    · rw [h2 i (by simp; omega), Array.getElem?_push, if_neg (by omega)]
    · cases k with
      | zero =>
        simp only [List.getElem?_cons_zero, Option.some.injEq] at hk
        subst hk
        refine ⟨acc, rfl, fun i hi => ?_, ?_⟩
        · rw [h2 i (by simp; omega), Array.getElem?_push, if_neg (by omega)]
        · rw [Nat.add_zero, h2 acc.size (by simp)]; simp
      | succ k =>
        simp only [List.getElem?_cons_succ] at hk
        obtain ⟨A, h4, h5, h6⟩ := h3 k o' hk
        refine ⟨A, by rw [h4]; simp; omega, h5, ?_⟩
        rw [← h6]; congr 1; simp; omega
theorem fold_bits (f : Nat → Nat) (j : Nat) : ∀ (l : List Edge) (s : Nat), Nat.testBit (l.foldl (fun s e => if Region.binds .any e then s ||| 2 ^ e.on ||| f e.on else s) s) j = true →
    Nat.testBit s j = true ∨ ∃ e, e ∈ l ∧ Region.binds .any e = true ∧ (j = e.on ∨ Nat.testBit (f e.on) j = true)
  | [], s, h => .inl h
  | e :: l, s, h => by
    rw [List.foldl_cons] at h
    rcases fold_bits f j l _ h with h | ⟨e', h1, h2⟩
    · by_cases hb : Region.binds .any e = true
      · rw [if_pos hb] at h
        simp only [Nat.testBit_or, Bool.or_eq_true, Nat.testBit_two_pow, decide_eq_true_eq] at h
        rcases h with (h | h) | h
        · exact .inl h
        · exact .inr ⟨e, by simp, hb, .inl h.symm⟩
        · exact .inr ⟨e, by simp, hb, .inr h⟩
      · rw [if_neg hb] at h; exact .inl h
    · exact .inr ⟨e', by simp [h1], h2⟩
theorem before_bit {ops : Array Oper} {i j : Nat} (h : bitOf (Region.before ops) i j = true) : ∃ o, ops[i]? = some o ∧ ∃ e, e ∈ o.after ∧ Region.binds .any e = true ∧ (j = e.on ∨ (e.on < i ∧ bitOf (Region.before ops) e.on j = true)) := by
  obtain ⟨R, h1, h2, h3⟩ := before_list ops.toList #[]
  have hR : Region.before ops = R := by
    rw [← h1]
    unfold Region.before beforeOne
    rw [← Array.foldl_toList]
  rw [hR] at h ⊢
  unfold bitOf at h
  cases ho : ops[i]? with
  | none =>
    exfalso
    have hsz : R.size = ops.size := by
      rw [← hR]
      have : ∀ (l : List Oper) (acc : Array Nat), (l.foldl (fun acc o => acc.push (beforeOne acc o)) acc).size = acc.size + l.length := by
        intro l
        induction l with
        | nil => intro acc; rfl
        | cons o l ih => intro acc; rw [List.foldl_cons, ih]; simp; omega
      rw [hR, ← h1, this]; simp
    have hge : ops.size ≤ i := by simpa using ho
    rw [Array.getD_eq_getD_getElem?, Array.getElem?_eq_none (by omega)] at h
    simp at h
  | some o =>
    obtain ⟨A, h4, h5, h6⟩ := h3 i o (by rw [Array.getElem?_toList]; exact ho)
    have hz : (#[] : Array Nat).size = 0 := rfl
    rw [hz, Nat.zero_add] at h4 h6
    rw [Array.getD_eq_getD_getElem?, h6] at h
    simp only [Option.getD_some] at h
    unfold beforeOne at h
    rw [← Array.foldl_toList] at h
    rcases fold_bits (fun k => A.getD k 0) j o.after.toList 0 h with h | ⟨e, h7, h8, h9⟩
    · simp at h
    · refine ⟨o, rfl, e, by simpa using h7, h8, h9.imp id fun h9 => ?_⟩
      rw [Array.getD_eq_getD_getElem?] at h9
      have hlt : e.on < A.size := by
        rcases Nat.lt_or_ge e.on A.size with h | h
        · exact h
        · rw [Array.getElem?_eq_none h] at h9; simp at h9
      rw [h5 e.on hlt] at h9
      exact ⟨by omega, by unfold bitOf; rw [Array.getD_eq_getD_getElem?]; exact h9⟩
/-- closed: with an operation, all that come ahead of it -/
def Down (ops : Array Oper) (S : Nat → Prop) : Prop := ∀ i o, S i → ops[i]? = some o → ∀ e, e ∈ o.after → Region.binds .any e = true → S e.on
theorem Down.bit {ops : Array Oper} {S : Nat → Prop} (h : Down ops S) : ∀ (i j : Nat), bitOf (Region.before ops) i j = true → S i → S j := by
  intro i
  induction i using Nat.strongRecOn with
  | _ i ih =>
    intro j hb hi
    obtain ⟨o, ho, e, he, hbd, h1⟩ := before_bit hb
    have hs := h i o hi ho e he hbd
    rcases h1 with rfl | ⟨h1, h2⟩
    · exact hs
    · exact ih e.on h1 j h2 hs
/-- ready: all that come ahead have run -/
def Ready (ops : Array Oper) (S : Nat → Prop) (i : Nat) : Prop := ¬ S i ∧ ∃ o, ops[i]? = some o ∧ ∀ e, e ∈ o.after → Region.binds .any e = true → S e.on
theorem Ready.bit {ops : Array Oper} {S : Nat → Prop} {i : Nat} (h : Ready ops S i) (hd : Down ops S) {j : Nat} (hb : bitOf (Region.before ops) i j = true) : S j := by
  obtain ⟨_, o, ho, h⟩ := h
  obtain ⟨o', ho', e, he, hbd, h1⟩ := before_bit hb
  rw [ho] at ho'; injection ho' with ho'; subst ho'
  have hs := h e he hbd
  rcases h1 with rfl | ⟨h1, h2⟩
  · exact hs
  · exact hd.bit _ _ h2 hs
theorem Ready.not {ops : Array Oper} {S : Nat → Prop} {i : Nat} (h : Ready ops S i) (hd : Down ops S) {j : Nat} (hb : bitOf (Region.before ops) j i = true) : ¬ S j := fun hj => h.1 (hd.bit _ _ hb hj)
theorem Ready.down {ops : Array Oper} {S : Nat → Prop} {i : Nat} (h : Ready ops S i) (hd : Down ops S) : Down ops (fun j => S j ∨ j = i) := fun j o hj ho e he hb => by
  rcases hj with hj | rfl
  · exact .inl (hd j o hj ho e he hb)
  · obtain ⟨_, o', ho', h⟩ := h
    rw [ho] at ho'; injection ho' with ho'; subst ho'
    exact .inl (h e he hb)

/- ## the chain -/
theorem chainOf_cons (o : Oper) (l : List Oper) (i : Nat) : chainOf P (o :: l) i = if clsOf P o.op = 3 then i :: chainOf P l (i + 1) else chainOf P l (i + 1) := by
  show @Bool.rec (fun _ => List Nat) (chainOf P l (i + 1)) (i :: chainOf P l (i + 1)) (Nat.beq (clsOf P o.op) 3) = _
  cases h : Nat.beq (clsOf P o.op) 3 with
  | true => rw [if_pos (beq_true h)]
  | false => rw [if_neg (beq_false h)]
theorem chainOf_mem : ∀ (l : List Oper) (i p : Nat), p ∈ chainOf P l i ↔ ∃ k o, l[k]? = some o ∧ p = i + k ∧ clsOf P o.op = 3
  | [], i, p => by
    constructor
    · intro h; cases h
    · rintro ⟨k, o, h, _⟩; simp at h
  | o :: l, i, p => by
    have ih := chainOf_mem l (i + 1) p
    rw [chainOf_cons]
    constructor
    · intro h
      by_cases hc : clsOf P o.op = 3
      · rw [if_pos hc] at h
        rcases List.mem_cons.1 h with rfl | h
        · exact ⟨0, o, rfl, rfl, hc⟩
        · obtain ⟨k, o', h1, h2, h3⟩ := ih.1 h
          exact ⟨k + 1, o', by simpa using h1, by omega, h3⟩
      · rw [if_neg hc] at h
        obtain ⟨k, o', h1, h2, h3⟩ := ih.1 h
        exact ⟨k + 1, o', by simpa using h1, by omega, h3⟩
    · rintro ⟨k, o', h1, h2, h3⟩
      cases k with
      | zero =>
        simp only [List.getElem?_cons_zero, Option.some.injEq] at h1
        subst h1
        rw [if_pos h3]; simp [h2]
      | succ k =>
        simp only [List.getElem?_cons_succ] at h1
        have := ih.2 ⟨k, o', h1, by omega, h3⟩
        split
        · exact List.mem_cons_of_mem _ this
        · exact this
theorem chainOf_sorted : ∀ (l : List Oper) (i : Nat), (chainOf P l i).Pairwise (· < ·)
  | [], i => .nil
  | o :: l, i => by
    rw [chainOf_cons]
    split
    · refine List.pairwise_cons.2 ⟨fun p hp => ?_, chainOf_sorted l (i + 1)⟩
      obtain ⟨k, _, _, h, _⟩ := (chainOf_mem l (i + 1) p).1 hp
      omega
    · exact chainOf_sorted l (i + 1)
theorem chain_at {ops : Array Oper} {p : Nat} : p ∈ chainOf P ops.toList 0 ↔ ∃ o, ops[p]? = some o ∧ clsOf P o.op = 3 := by
  rw [chainOf_mem]
  constructor
  · rintro ⟨k, o, h1, h2, h3⟩
    rw [Nat.zero_add] at h2; subst h2
    exact ⟨o, by rw [← Array.getElem?_toList]; exact h1, h3⟩
  · rintro ⟨o, h1, h2⟩
    exact ⟨p, o, by rw [Array.getElem?_toList]; exact h1, by simp, h2⟩
theorem countB_cons (p : Nat → Bool) (i : Nat) (l : List Nat) : countB p (i :: l) = if p i = true then countB p l + 1 else countB p l := by
  show @Bool.rec (fun _ => Nat) (countB p l) (Nat.succ (countB p l)) (p i) = _
  cases p i <;> rfl
theorem leadB_cons (p : Nat → Bool) (i : Nat) (l : List Nat) : leadB p (i :: l) = if p i = true then leadB p l + 1 else 0 := by
  show @Bool.rec (fun _ => Nat) 0 (Nat.succ (leadB p l)) (p i) = _
  cases p i <;> rfl
theorem countB_le {p r : Nat → Bool} : ∀ (l : List Nat), (∀ c, c ∈ l → p c = true → r c = true) → countB p l ≤ countB r l
  | [], _ => Nat.le_refl _
  | c :: l, h => by
    have ih := countB_le l fun c hc => h c (by simp [hc])
    have hc := h c (by simp)
    rw [countB_cons, countB_cons]
    split
    · rw [if_pos (hc ‹_›)]; omega
    · split <;> omega
theorem countB_len (p : Nat → Bool) : ∀ (l : List Nat), countB p l ≤ l.length
  | [] => Nat.le_refl _
  | c :: l => by
    have ih := countB_len p l
    rw [countB_cons, List.length_cons]
    split <;> omega
theorem count_lead {q : Nat} {r : Nat → Bool} : ∀ (l : List Nat), l.Pairwise (· < ·) → (∀ c, c ∈ l → c < q → r c = true) → countB (fun c => Nat.blt c q) l ≤ leadB r l
  | [], _, _ => Nat.le_refl _
  | c :: l, hs, h => by
    obtain ⟨h1, h2⟩ := List.pairwise_cons.1 hs
    have ih := count_lead l h2 fun c hc => h c (by simp [hc])
    rw [countB_cons, leadB_cons]
    by_cases hc : c < q
    · rw [if_pos (h c (by simp) hc), if_pos (by rw [blt_dec]; simp [hc])]; omega
    · rw [if_neg (by rw [blt_dec]; simp [hc])]
      have : countB (fun c => Nat.blt c q) l ≤ 0 := by
        have h0 : ∀ (l' : List Nat), (∀ x, x ∈ l' → q ≤ x) → countB (fun c => Nat.blt c q) l' = 0 := by
          intro l'
          induction l' with
          | nil => intro _; rfl
          | cons x l' ih' =>
            intro hx
            have := hx x (by simp)
            rw [countB_cons, if_neg (by rw [blt_dec]; simp; omega)]
            exact ih' fun y hy => hx y (by simp [hy])
        rw [h0 l fun x hx => by have := h1 x hx; omega]
        exact Nat.le_refl _
      omega
theorem count_at {q : Nat} : ∀ (l : List Nat), l.Pairwise (· < ·) → q ∈ l → l[countB (fun c => Nat.blt c q) l]? = some q
  | c :: l, hs, hq => by
    obtain ⟨h1, h2⟩ := List.pairwise_cons.1 hs
    rw [countB_cons]
    rcases List.mem_cons.1 hq with rfl | hq
    · rw [if_neg (by rw [blt_dec]; simp)]
      have h0 : ∀ (l' : List Nat), (∀ x, x ∈ l' → q < x) → countB (fun c => Nat.blt c q) l' = 0 := by
        intro l'
        induction l' with
        | nil => intro _; rfl
        | cons x l' ih' =>
          intro hx
          have := hx x (by simp)
          rw [countB_cons, if_neg (by rw [blt_dec]; simp; omega)]
          exact ih' fun y hy => hx y (by simp [hy])
      rw [h0 l h1]; rfl
    · have := h1 q hq
      rw [if_pos (by rw [blt_dec]; simp [this]), List.getElem?_cons_succ]
      exact count_at l h2 hq
theorem count_all {q : Nat} : ∀ (l : List Nat), (∀ x, x ∈ l → x < q) → countB (fun c => Nat.blt c q) l = l.length
  | [], _ => rfl
  | c :: l, h => by
    rw [countB_cons, if_pos (by rw [blt_dec]; simp [h c (by simp)]), List.length_cons, count_all l fun x hx => h x (by simp [hx])]
theorem atsOf_mem {m lo hi k : Nat} (h1 : lo ≤ k) (h2 : k ≤ hi) : m - k ∈ atsOf m lo hi := by
  have key : ∀ n j, j ≤ n → m - (lo + j) ∈ (Nat.rec (motive := fun _ => List Nat) [Nat.sub m lo] (fun k ih => Nat.sub m (Nat.add lo (Nat.succ k)) :: ih) n : List Nat) := by
    intro n
    induction n with
    | zero => intro j hj; have : j = 0 := by omega
              subst this; exact List.mem_singleton.2 rfl
    | succ n ih =>
      intro j hj
      by_cases e : j = n + 1
      · subst e; exact List.mem_cons_self ..
      · exact List.mem_cons_of_mem _ (ih j (by omega))
  have := key (hi - lo) (k - lo) (by omega)
  rwa [show lo + (k - lo) = k by omega] at this
theorem inRow_spec {b : Array Nat} : ∀ (l : List Nat), inRow b l = true → ∀ (k i j : Nat), l[k]? = some i → l[k + 1]? = some j → bitOf b j i = true
  | [], _, k, i, j, h, _ => by simp at h
  | [x], _, k, i, j, _, h => by simp at h
  | x :: y :: l, h, k, i, j, h1, h2 => by
    have h' : (bitOf b y x && inRow b (y :: l)) = true := h
    rw [Bool.and_eq_true] at h'
    cases k with
    | zero =>
      simp only [List.getElem?_cons_zero, List.getElem?_cons_succ, Option.some.injEq, Nat.zero_add] at h1 h2
      subst h1 h2; exact h'.1
    | succ k => exact inRow_spec (y :: l) h'.2 k i j (by simpa using h1) (by simpa using h2)
end
end
end Go.Kx
namespace Go.Kx
noncomputable section
variable [Sig]
section
variable {P : Program}

/- ## 'the same value' -/
theorem andB_spec {a b : Bool} (h : andB a b = true) : a = true ∧ b = true := by cases a <;> cases b <;> first | exact ⟨rfl, rfl⟩ | cases h
theorem ieq_true {a b : Int} (h : ieq a b = true) : a = b := by rw [ieq_eq] at h; simpa using h
theorem sameC_eq {a b : Cap} (h : sameC a b = true) : a = b := by
  cases a <;> cases b <;> first
    | (cases h; done)
    | exact congrArg _ (beq_true h)
theorem sameV_eq {a b : V} (h : sameV a b = true) : a = b := by
  cases a <;> cases b <;> first
    | (cases h; done)
    | rfl
    | exact congrArg _ (beq_true h)
    | (obtain ⟨h1, h2⟩ := andB_spec h; rw [beq_true h1, beq_true h2]; done)
    | (obtain ⟨h1, h2⟩ := andB_spec h; obtain ⟨h2, h3⟩ := andB_spec h2; obtain ⟨h3, h4⟩ := andB_spec h3; rw [beq_true h1, beq_true h2, beq_true h3, sameC_eq h4]; done)
    | (obtain ⟨h1, h2⟩ := andB_spec h; obtain ⟨h2, h3⟩ := andB_spec h2; rw [beq_true h1, beq_true h2, beq_true h3]; done)
    | (obtain ⟨h1, h2⟩ := andB_spec h; rw [sameK_eq h1, ieq_true h2]; done)
    | (obtain ⟨h1, h2⟩ := andB_spec h
       rw [strEq_eq] at h2
       rw [beq_true h1, eq_of_beq h2]; done)
theorem sameL_eq : ∀ {a b : List V}, sameL a b = true → a = b
  | [], [], _ => rfl
  | [], _ :: _, h => by cases h
  | _ :: _, [], h => by cases h
  | x :: a, y :: b, h => by
    have h' : andB (sameV x y) (sameL a b) = true := h
    obtain ⟨h1, h2⟩ := andB_spec h'
    rw [sameV_eq h1, sameL_eq h2]
theorem sameA_eq {a b : V} (h : sameA a b = true) : a = b := by
  cases a <;> first
    | exact sameV_eq h
    | (cases b <;> first
        | (cases h; done)
        | exact congrArg _ (sameL_eq h))

/- ## a drawn region's trace -/
theorem runD_nil (c : CallT) (e : Ev) (f : Fr) (h : H) (hs : List H) (k : Ev → H → List H → Out) : runD [] c e f h hs k = k e h hs := rfl
theorem runD_cons (b : Bool) (o : OpC) (l : List (Bool × OpC)) (c : CallT) (e : Ev) (f : Fr) (h : H) (hs : List H) (k : Ev → H → List H → Out) :
    runD ((b, o) :: l) c e f h hs k = o c e f h fun e' h' => runD l c e' f h' (if b = true then h :: hs else hs) k := by
  show o c e f h (fun e' h' => runD l c e' f h' (@Bool.rec (fun _ => List H) hs (h :: hs) b) k) = _
  cases b <;> rfl
theorem marked_cons (r : RE) (l : List RE) : marked (r :: l) = (Nat.beq r.cls 3, r.op) :: marked l := rfl
/-- an operation that reads, compiled -/
def ReadRE (P : Program) (ops : Array Oper) (lay : Lay) (T : Nat → Sn) (r : RE) (o : Oper) : Prop :=
  r.lvl = (T r.i).e.length ∧ ∃ n nm1, OpSemN P ops o (T r.i).nm lay (T r.i).e.length r.op n nm1 1 ∧ (r.one = true → n = 1) ∧ nm1 = (T (r.i + 1)).nm ∧ (T (r.i + 1)).e.length = (T r.i).e.length + n
theorem ReadRE.glue {ops : Array Oper} {lay : Lay} {T : Nat → Sn} {i : Nat} {r : RE} {o : Oper} (s : Sn) (h : ReadRE P ops lay T r o) (hj : i < r.i) : ReadRE P ops lay (Kx.glue i s T) r o := by
  unfold ReadRE
  rw [glue_gt s T hj, glue_gt s T (show i < r.i + 1 by omega)]
  exact h
theorem map_glue (i : Nat) (s : Sn) (T : Nat → Sn) (l : List Nat) (h : ∀ p, p ∈ l → i < p) : l.map (fun p => (glue i s T p).h) = l.map (fun p => (T p).h) :=
  List.map_congr_left fun p hp => by rw [glue_gt s T (h p hp)]
theorem trace_runD {ops : Array Oper} {lay : Lay} {call : CallT} (hcall : CallOk P call) {l : List Oper} {i : Nat} {nm nm' : Names} {d d' : Nat} {es : List RE} (hc : Comp P ops lay l i nm d es nm' d') :
    NamesOk nm d → ∀ (e : Ev) (f : Fr) (h : H) (hs : List H) (k : Ev → H → List H → Out), e.length = d → (∃ s, runD (marked es) call e f h hs k = .stuck s) ∨ ∃ T, Traced P ops lay f l i nm e h nm' d' T ∧ (∀ r, r ∈ es → r.cls = 1 → ∃ j o, l[j]? = some o ∧ r.i = i + j ∧ ReadRE P ops lay T r o) ∧
      (∀ j o, l[j]? = some o → clsOf P o.op = 1 → ∃ r, r ∈ es ∧ r.i = i + j ∧ r.cls = 1) ∧
      runD (marked es) call e f h hs k = k (T (i + l.length)).e (T (i + l.length)).h (((chainOf P l i).map fun p => (T p).h).reverse ++ hs) := by
  induction hc with
  | nil i nm d => exact fun hok e f h hs k he => .inr ⟨fun _ => ⟨nm, e, h, unN⟩, ⟨rfl, rfl, rfl, rfl, he, hok, fun k o hk => by simp at hk⟩, fun r hr => (by cases hr), fun j o hj => (by simp at hj), rfl⟩
  | al ha t ih =>
    rename_i o l0 i0 _ _ _ _ _ _
    intro hok e f h hs k he
    subst he
    obtain ⟨m, hnm, hb, hok1, hf⟩ := alias_step (ops := ops) (f := f) ha hok
    rcases ih hok1 e f h hs k rfl with h1 | ⟨T, hT, hR, hR2, h1⟩
    · exact .inl h1
    · refine .inr ⟨_, hT.cons hnm ⟨[], rfl⟩ hok hb (Nat.le_refl _) (hf h), fun r hr hc => ?_, fun j o' hj hc => ?_, ?_⟩
      · obtain ⟨j, o', h2, h3, h4⟩ := hR r hr hc
        exact ⟨j + 1, o', by simpa using h2, by omega, h4.glue _ (by omega)⟩
      · cases j with
        | zero =>
          simp only [List.getElem?_cons_zero, Option.some.injEq] at hj
          subst hj
          rw [ha.1] at hc; cases hc
        | succ j =>
          obtain ⟨r, h2, h3, h4⟩ := hR2 j o' (by simpa using hj) hc
          exact ⟨r, h2, by omega, h4⟩
      · rw [h1, glue_last, chainOf_cons, if_neg (by rw [ha.1]; decide), map_glue]
        intro p hp
        obtain ⟨k', _, _, h2, _⟩ := (chainOf_mem _ _ p).1 hp
        omega
  | op ho h1 hn t ih =>
    rename_i o l0 i0 _ _ _ _ _ _ es0 cls one c
    intro hok e f h hs k he
    subst he
    rw [marked_cons, runD_cons]
    dsimp only
    rcases ho call hcall e f h (fun e' h' => runD (marked es0) call e' f h' (if Nat.beq cls 3 = true then h :: hs else hs) k) rfl with h2 | ⟨l1, h', h2, h3, hnx, h4, m, h5, h6, h7⟩
    · exact .inl h2
    · rw [h3]
      have hlen : (pushL l1 e).length = e.length + l1.length := by rw [pushL_len, Nat.add_comm]
      rcases ih (hn hok) (pushL l1 e) f h' (if Nat.beq cls 3 = true then h :: hs else hs) k (by rw [hlen, h2]) with h8 | ⟨T, hT, hR, hR2, h8⟩
      · exact .inl h8
      · have hlt : ∀ p, p ∈ chainOf P l0 (i0 + 1) → i0 < p := fun p hp => by
          obtain ⟨k', _, _, h9, _⟩ := (chainOf_mem _ _ p).1 hp
          omega
        refine .inr ⟨_, hT.cons h5 ⟨l1, rfl⟩ hok (by rw [hlen, h2]; exact h6 hok) hnx (.inl (by rw [← h4]; exact h7)), fun r hr hc => ?_, fun j o' hj hc => ?_, ?_⟩
        · rcases List.mem_cons.1 hr with rfl | hr
          · refine ⟨0, o, rfl, rfl, ?_⟩
            have hc : cls = 1 := hc
            subst hc
            unfold ReadRE
            dsimp only
            rw [glue_le _ _ (Nat.le_refl i0), glue_gt _ _ (Nat.lt_succ_self i0), hT.e0, hT.nm0]
            exact ⟨rfl, _, _, ho, h1, rfl, by rw [hlen, h2]⟩
          · obtain ⟨j, o', h9, h10, h11⟩ := hR r hr hc
            exact ⟨j + 1, o', by simpa using h9, by omega, h11.glue _ (by omega)⟩
        · cases j with
          | zero =>
            simp only [List.getElem?_cons_zero, Option.some.injEq] at hj
            subst hj
            exact ⟨_, List.mem_cons_self .., rfl, h4.trans hc⟩
          | succ j =>
            obtain ⟨r, h9, h10, h11⟩ := hR2 j o' (by simpa using hj) hc
            exact ⟨r, List.mem_cons_of_mem _ h9, by omega, h11⟩
        · rw [h8, glue_last, chainOf_cons]
          cases hb : Nat.beq cls 3 with
          | true =>
            rw [if_pos rfl, if_pos (by rw [← h4]; exact beq_true hb), List.map_cons, map_glue _ _ _ _ hlt, glue_le _ _ (Nat.le_refl i0)]
            simp
          | false =>
            rw [if_neg Bool.false_ne_true, if_neg (by rw [← h4]; exact beq_false hb), map_glue _ _ _ _ hlt]

/- ## the checks -/
theorem nthH_ok : ∀ (l : List H) (j : Nat) (f : H → Out) (els : Out), nthH l j f els = els ∨ ∃ h, l[j]? = some h ∧ nthH l j f els = f h
  | [], j, f, els => .inl rfl
  | a :: l, 0, f, els => .inr ⟨a, rfl, rfl⟩
  | a :: l, j + 1, f, els => by
    rcases nthH_ok l j f els with h | ⟨h, h1, h2⟩
    · exact .inl h
    · exact .inr ⟨h, by simpa using h1, h2⟩
theorem chkAt_cons (op : OpC) (c : CallT) (e' : Ev) (f : Fr) (v : V) (hs : List H) (j : Nat) (ats : List Nat) (o : Out) :
    chkAt op c e' f v hs (j :: ats) o = nthH hs j (fun h => op c e' f h fun e'' _ => ifB (sameA (nthV e'' 0) v) (chkAt op c e' f v hs ats o) (.stuck "draw")) (.stuck "draw") := rfl
def AtHeap (P : Program) (ops : Array Oper) (o : Oper) (nm : Names) (lay : Lay) (e : Ev) (f : Fr) (n : Nat) (nm1 : Names) (v : V) (h : H) : Prop :=
  ∃ l h', l.length = n ∧ nthV (pushL l e) 0 = v ∧ ∃ m, nm1 = bindN o.dst m nm ∧ OpFact P ops o nm lay e f h (pushL l e) h' m 1
theorem chkAt_ok {ops : Array Oper} {o : Oper} {nm nm1 : Names} {lay : Lay} {op : OpC} {n : Nat} {call : CallT} (hcall : CallOk P call) {e : Ev} {f : Fr} {v : V} {hs : List H} (hop : OpSemN P ops o nm lay e.length op n nm1 1) (out : Out) :
    ∀ ats : List Nat, (∃ s, chkAt op call e f v hs ats out = .stuck s) ∨ (chkAt op call e f v hs ats out = out ∧ ∀ j, j ∈ ats → ∃ h, hs[j]? = some h ∧ AtHeap P ops o nm lay e f n nm1 v h)
  | [] => .inr ⟨rfl, fun j hj => by cases hj⟩
  | j :: ats => by
    rw [chkAt_cons]
    rcases nthH_ok hs j (fun h => op call e f h fun e'' _ => ifB (sameA (nthV e'' 0) v) (chkAt op call e f v hs ats out) (.stuck "draw")) (.stuck "draw") with h1 | ⟨h, h1, h2⟩
    · exact .inl ⟨_, h1⟩
    · rw [h2]
      rcases hop call hcall e f h (fun e'' _ => ifB (sameA (nthV e'' 0) v) (chkAt op call e f v hs ats out) (.stuck "draw")) rfl with ⟨s, h3⟩ | ⟨l, h', h3, h4, _, _, m, h5, _, h6⟩
      · exact .inl ⟨s, h3⟩
      · rw [h4]
        cases hsm : sameA (nthV (pushL l e) 0) v with
        | false => exact .inl ⟨_, rfl⟩
        | true =>
          rcases chkAt_ok hcall hop out ats with ⟨s, h7⟩ | ⟨h7, h8⟩
          · exact .inl ⟨s, h7⟩
          · refine .inr ⟨h7, fun j' hj' => ?_⟩
            rcases List.mem_cons.1 hj' with rfl | hj'
            · exact ⟨h, h1, l, h', h3, sameA_eq hsm, m, h5, h6⟩
            · exact h8 j' hj'
theorem chksK_cons (k : Chk) (l : List Chk) (c : CallT) (e : Ev) (f : Fr) (hs : List H) (o : Out) : chksK (k :: l) c e f hs o = chk1 k c e f hs (chksK l c e f hs o) := rfl
theorem chksOf_cons (b : Array Nat) (ch : List Nat) (d : Nat) (r : RE) (l : List RE) : chksOf b ch d (r :: l) = if Nat.beq r.cls 1 = true then chkOf b ch d r :: chksOf b ch d l else chksOf b ch d l := by
  show @Bool.rec (fun _ => List Chk) (chksOf b ch d l) (chkOf b ch d r :: chksOf b ch d l) (Nat.beq r.cls 1) = _
  cases Nat.beq r.cls 1 <;> rfl
theorem atsOf_ne (m lo hi : Nat) : ∃ j l, atsOf m lo hi = j :: l := by
  unfold atsOf
  generalize Nat.sub hi lo = n
  cases n with
  | zero => exact ⟨_, _, rfl⟩
  | succ n => exact ⟨_, _, rfl⟩
theorem chk_stuck (j : Nat) (ats : List Nat) (c : CallT) (e : Ev) (f : Fr) (v : V) (hs : List H) (o : Out) : ∃ s, chkAt (stuckC "draw") c e f v hs (j :: ats) o = .stuck s := by
  rw [chkAt_cons]
  rcases nthH_ok hs j (fun h => stuckC "draw" c e f h fun e'' _ => ifB (sameA (nthV e'' 0) v) (chkAt (stuckC "draw") c e f v hs ats o) (.stuck "draw")) (.stuck "draw") with h1 | ⟨h, h1, h2⟩
  · exact ⟨_, h1⟩
  · exact ⟨_, h2⟩
/-- what a check says of an operation that reads -/
def ChkOk (P : Program) (ops : Array Oper) (lay : Lay) (f : Fr) (hs : List H) (ch : List Nat) (T : Nat → Sn) (eN : Ev) (r : RE) (o : Oper) : Prop :=
  (T (r.i + 1)).e.length = (T r.i).e.length + 1 ∧ ∀ j, j ∈ atsOf (len ch) (countB (fun c => bitOf (Region.before ops) r.i c) ch) (leadB (fun c => Bool.not (bitOf (Region.before ops) c r.i)) ch) → ∃ h, hs[j]? = some h ∧ AtHeap P ops o (T r.i).nm lay (T r.i).e f 1 (T (r.i + 1)).nm (nthV eN (eN.length - 1 - r.lvl)) h
theorem chksK_ok {ops : Array Oper} {lay : Lay} {call : CallT} (hcall : CallOk P call) {f : Fr} {hs : List H} {ch : List Nat} {T : Nat → Sn} {eN : Ev} (out : Out) : ∀ es : List RE, (∀ r, r ∈ es → r.cls = 1 → ∃ o L, ops[r.i]? = some o ∧ eN = L ++ (T r.i).e ∧ ReadRE P ops lay T r o) →
    (∃ s, chksK (chksOf (Region.before ops) ch eN.length es) call eN f hs out = .stuck s) ∨
    (chksK (chksOf (Region.before ops) ch eN.length es) call eN f hs out = out ∧ ∀ r o, r ∈ es → r.cls = 1 → ops[r.i]? = some o → ChkOk P ops lay f hs ch T eN r o)
  | [], _ => .inr ⟨rfl, fun r o hr => by cases hr⟩
  | r :: es, hg => by
    rw [chksOf_cons]
    have ih := chksK_ok (lay := lay) (T := T) (hs := hs) (ch := ch) (eN := eN) (f := f) hcall out es fun r' hr' => hg r' (List.mem_cons_of_mem _ hr')
    cases hc : Nat.beq r.cls 1 with
    | false =>
      rw [if_neg Bool.false_ne_true]
      rcases ih with h | ⟨h, h2⟩
      · exact .inl h
      · refine .inr ⟨h, fun r' o hr' h1 => ?_⟩
        rcases List.mem_cons.1 hr' with rfl | hr'
        · exact absurd h1 (beq_false hc)
        · exact h2 r' o hr' h1
    | true =>
      rw [if_pos rfl, chksK_cons]
      obtain ⟨o, L, ho, hL, hlvl, n, nm1, hop, hone, hnm, hlen⟩ := hg r (List.mem_cons_self ..) (beq_true hc)
      obtain ⟨ri, rcls, rlvl, rone, rop⟩ := r
      dsimp only at ho hL hlvl hop hone hnm hlen
      have e1 : chk1 (chkOf (Region.before ops) ch eN.length ⟨ri, rcls, rlvl, rone, rop⟩) call eN f hs (chksK (chksOf (Region.before ops) ch eN.length es) call eN f hs out) =
        chkAt (@Bool.rec (fun _ => OpC) (stuckC "draw") rop rone) call (drp eN (eN.length - rlvl)) f (nthV eN (eN.length - 1 - rlvl)) hs (atsOf (len ch) (countB (fun c => bitOf (Region.before ops) ri c) ch) (leadB (fun c => Bool.not (bitOf (Region.before ops) c ri)) ch)) (chksK (chksOf (Region.before ops) ch eN.length es) call eN f hs out) := rfl
      rw [e1]
      cases rone with
      | false =>
        obtain ⟨j0, l0, hats⟩ := atsOf_ne (len ch) (countB (fun c => bitOf (Region.before ops) ri c) ch) (leadB (fun c => Bool.not (bitOf (Region.before ops) c ri)) ch)
        rw [hats]
        exact .inl (chk_stuck _ _ _ _ _ _ _ _)
      | true =>
        have hn := hone rfl
        subst hn hnm
        have hdrp : drp eN (eN.length - rlvl) = (T ri).e := by
          rw [drp_eq, hlvl, hL]
          have : (L ++ (T ri).e).length - (T ri).e.length = L.length := by simp
          rw [this, List.drop_left]
        rw [hdrp]
        rcases chkAt_ok hcall (hs := hs) (f := f) (v := nthV eN (eN.length - 1 - rlvl)) hop (chksK (chksOf (Region.before ops) ch eN.length es) call eN f hs out) (atsOf (len ch) (countB (fun c => bitOf (Region.before ops) ri c) ch) (leadB (fun c => Bool.not (bitOf (Region.before ops) c ri)) ch)) with h | ⟨h, h2⟩
        · exact .inl h
        · dsimp only
          rw [h]
          rcases ih with h3 | ⟨h3, h4⟩
          · exact .inl h3
          · refine .inr ⟨h3, fun r' o' hr' h5 h6 => ?_⟩
            rcases List.mem_cons.1 hr' with rfl | hr'
            · dsimp only at h6
              rw [ho] at h6; injection h6 with h6; subst h6
              exact ⟨hlen, h2⟩
            · exact h4 r' o' hr' h5 h6
end
end
end Go.Kx
namespace Go.Kx
noncomputable section
variable [Sig]
section
variable {P : Program} {ops : Array Oper} {lay : Lay} {f : Fr} {T : Nat → Sn}

theorem names_at (hstep : ∀ k o, ops[k]? = some o → StepAt P ops lay f T k o) (h0 : (T 0).nm = []) : ∀ i, i ≤ ops.size →
    (∀ t m, lk (T i).nm t = some m → ∃ (j : Nat) (o : Oper), j < i ∧ ops[j]? = some o ∧ o.dst = some t ∧ m = (T j).m) ∧ ∀ t, lk (T i).nm t = none → ∀ (j : Nat) (o : Oper), j < i → ops[j]? = some o → o.dst ≠ some t
  | 0, _ => by
    rw [h0]
    exact ⟨fun t m h => (nomatch (show (none : Option Nm) = some m from h)), fun t _ j o hj => absurd hj (by omega)⟩
  | i + 1, hi => by
    obtain ⟨ih1, ih2⟩ := names_at hstep h0 i (by omega)
    have ho : ops[i]? = some ops[i] := Array.getElem?_eq_getElem (by omega)
    have hnm := (hstep i _ ho).nm
    rw [hnm]
    cases hd : ops[i].dst with
    | none =>
      refine ⟨fun t m h => ?_, fun t h j o hj hoj => ?_⟩
      · obtain ⟨j, o, h1, h2⟩ := ih1 t m h; exact ⟨j, o, by omega, h2⟩
      · by_cases e : j = i
        · subst e; rw [ho] at hoj; injection hoj with hoj; subst hoj; rw [hd]; intro h; cases h
        · exact ih2 t h j o (by omega) hoj
    | some u =>
      simp only [bindN, lk_cons]
      refine ⟨fun t m h => ?_, fun t h j o hj hoj => ?_⟩
      · by_cases e : u = t
        · rw [if_pos e] at h; injection h with h
          exact ⟨i, _, by omega, ho, by rw [hd, e], h.symm⟩
        · rw [if_neg e] at h
          obtain ⟨j, o, h1, h2⟩ := ih1 t m h; exact ⟨j, o, by omega, h2⟩
      · by_cases e : u = t
        · rw [if_pos e] at h; cases h
        · rw [if_neg e] at h
          by_cases e' : j = i
          · subst e'; rw [ho] at hoj; injection hoj with hoj; subst hoj; rw [hd]; exact fun h => e (Option.some.inj h)
          · exact ih2 t h j o (by omega) hoj
theorem env_ext (hstep : ∀ k o, ops[k]? = some o → StepAt P ops lay f T k o) : ∀ (n i : Nat), i + n ≤ ops.size → ∃ l, (T (i + n)).e = l ++ (T i).e
  | 0, i, _ => ⟨[], rfl⟩
  | n + 1, i, h => by
    obtain ⟨l, h1⟩ := env_ext hstep n i (by omega)
    obtain ⟨l', h2⟩ := (hstep (i + n) _ (Array.getElem?_eq_getElem (show i + n < ops.size by omega))).ext
    refine ⟨l'.reverse ++ l, ?_⟩
    rw [show i + (n + 1) = i + n + 1 by omega, h2, pushL_eq, h1, List.append_assoc]
theorem env_le (hstep : ∀ k o, ops[k]? = some o → StepAt P ops lay f T k o) {i j : Nat} (h : i ≤ j) (hj : j ≤ ops.size) : ∃ l, (T j).e = l ++ (T i).e := by
  have := env_ext hstep (j - i) i (by omega)
  rwa [show i + (j - i) = j by omega] at this
/-- the temporaries, while a region runs -/
structure Vals (P : Program) (ops : Array Oper) (f : Fr) (T : Nat → Sn) (N : Nat) (a0 : Act) (S : Nat → Prop) (μ : Mu) (a : Act) : Prop where
  size : a.tmps.size = N
  defers : a.defers = []
  vals : ∀ (j : Nat) (o : Oper) (t : Nat), S j → ops[j]? = some o → o.dst = some t → NRel μ (T ops.size).e f (T j).m (a.tmps.getD t undef)
  old : ∀ t, (∀ (j : Nat) (o : Oper), S j → ops[j]? = some o → o.dst ≠ some t) → a.tmps.getD t undef = a0.tmps.getD t undef
theorem Vals.mono {N : Nat} {a0 a : Act} {S : Nat → Prop} {μ μ' : Mu} (h : Vals P ops f T N a0 S μ a) (hm : μ.le μ') : Vals P ops f T N a0 S μ' a :=
  ⟨h.size, h.defers, fun j o t hs ho hd => (h.vals j o t hs ho hd).mono hm, h.old⟩
theorem Vals.put {N : Nat} {a0 a : Act} {S : Nat → Prop} {μ : Mu} (hstep : ∀ k o, ops[k]? = some o → StepAt P ops lay f T k o) (hR : RdOk ops) (hN : ∀ (k : Nat) o, ops[k]? = some o → ∀ t, o.dst = some t → t < N) (h : Vals P ops f T N a0 S μ a) {i : Nat} {o : Oper} (ho : ops[i]? = some o) {v : Value} (hv : (∃ t, o.dst = some t) → NRel μ (T (i + 1)).e f (T i).m v) :
    Vals P ops f T N a0 (fun j => S j ∨ j = i) μ (a.put o.dst v) := by
  have hi : i < ops.size := (Array.getElem?_eq_some_iff.1 ho).1
  cases hd : o.dst with
  | none =>
    refine ⟨h.size, h.defers, fun j p t hs hp ht => ?_, fun t ht => h.old t fun j p hs hp => ht j p (.inl hs) hp⟩
    rcases hs with hs | rfl
    · exact h.vals j p t hs hp ht
    · rw [ho] at hp; injection hp with hp; subst hp; rw [hd] at ht; cases ht
  | some d =>
    have hdn : d < a.tmps.size := by rw [h.size]; exact hN i o ho d hd
    refine ⟨by simp [Act.put, h.size], h.defers, fun j p t hs hp ht => ?_, fun t ht => ?_⟩
    · rw [getD_put t hdn]
      rcases hs with hs | rfl
      · by_cases e : t = d
        · have : j = i := hR.uniq j i p o d hp ho (by rw [ht, e]) hd
          subst this
          rw [ho] at hp; injection hp with hp; subst hp
          rw [if_pos e]
          have h1 := hv ⟨d, hd⟩
          obtain ⟨l, h2⟩ := env_le hstep (show j + 1 ≤ ops.size by omega) (Nat.le_refl _)
          rw [h2]; exact h1.app (hstep j _ ho).below l
        · rw [if_neg e]; exact h.vals j p t hs hp ht
      · rw [ho] at hp; injection hp with hp; subst hp
        rw [hd] at ht; injection ht with ht; subst ht
        rw [if_pos rfl]
        have h1 := hv ⟨d, hd⟩
        obtain ⟨l, h2⟩ := env_le hstep (show j + 1 ≤ ops.size by omega) (Nat.le_refl _)
        rw [h2]; exact h1.app (hstep j _ ho).below l
    · rw [getD_put t hdn]
      have hne : t ≠ d := fun e => ht i o (.inr rfl) ho (by rw [hd, e])
      rw [if_neg hne]
      exact h.old t fun j p hs hp => ht j p (.inl hs) hp
/-- what an operation that is ready sees -/
theorem Vals.orel {N : Nat} {a0 a : Act} {S : Nat → Prop} {μ0 μ : Mu} (hstep : ∀ k o, ops[k]? = some o → StepAt P ops lay f T k o) (h0 : (T 0).nm = []) (hR : RdOk ops) (h : Vals P ops f T N a0 S μ a) (hle : μ0.le μ) (hA : FRel μ0 lay N f a0) (hdn : Down ops S)
    {i : Nat} {o : Oper} (ho : ops[i]? = some o) (hr : Ready ops S i) (x : Operand) (hx : ∀ t, x = .tmp t → t ∈ o.looksAt ops) : ORel μ (T i).nm lay (T i).e f a.eval x := fun m hm => by
  have hi : i < ops.size := (Array.getElem?_eq_some_iff.1 ho).1
  cases x with
  | const v => simp only [resolve] at hm; injection hm with hm; subst hm; exact .val (ofValue_ok μ v)
  | global g => simp only [resolve] at hm; cases hm
  | func g => simp only [resolve] at hm; injection hm with hm; subst hm; exact .val (.func g [] #[] .nil)
  | tmp t =>
    have hl := hx t rfl
    obtain ⟨n1, n2⟩ := names_at hstep h0 i (Nat.le_of_lt hi)
    simp only [resolve] at hm
    split at hm
    · next m' hlk =>
      injection hm with hm; subst hm
      obtain ⟨j, p, hj, hp, hd, rfl⟩ := n1 t m' hlk
      have hs : S j := by
        rcases hR.look i j o p t ho hp hd hl with e | ⟨_, e⟩ | ⟨e, _⟩
        · omega
        · exact hr.bit hdn e
        · omega
      have h1 := h.vals j p t hs hp hd
      obtain ⟨l, h2⟩ := env_le hstep (show i ≤ ops.size by omega) (Nat.le_refl _)
      obtain ⟨l', h3⟩ := env_le hstep (show j + 1 ≤ i by omega) (by omega)
      rw [h2] at h1
      refine h1.unapp (Nm.below_mono (hstep j _ hp).below ?_)
      rw [h3]; simp
    · next hlk =>
      split at hm
      · next p hp =>
        injection hm with hm; subst hm
        refine .val ?_
        have hold : a.tmps.getD t undef = a0.tmps.getD t undef := h.old t fun j p' hs hp' hd => by
          rcases hR.look i j o p' t ho hp' hd hl with e | ⟨e, _⟩ | ⟨_, e⟩
          · subst e; exact hr.1 hs
          · exact n2 t hlk j p' e hp' hd
          · exact hr.not hdn e hs
        show VRel μ (nthV f p) (a.tmps.getD t undef)
        rw [hold]
        exact (hA.slot t p rfl hp).mono hle
      · cases hm
theorem looks_op {o : Oper} {x : Operand} (hx : x ∈ o.op.operands) : ∀ t, x = .tmp t → t ∈ o.looksAt ops := fun t e => by
  subst e
  exact List.mem_append_left _ (List.mem_filterMap.2 ⟨.tmp t, by simpa using hx, rfl⟩)
theorem looks_guard {o : Oper} {t : Nat} (h : ∃ j want, o.guard = some (j, want) ∧ (ops[j]?).bind (·.dst) = some t) : t ∈ o.looksAt ops := by
  obtain ⟨j, want, hg, ht⟩ := h
  refine List.mem_append_right _ ?_
  rw [hg]
  simp [ht]
/-- where the heap stands: at the next operation that writes or calls, or at the end -/
def Stop (P : Program) (ops : Array Oper) (q : Nat) : Prop := q = ops.size ∨ ∃ o, ops[q]? = some o ∧ clsOf P o.op = 3
theorem Mid.stop (hstep : ∀ k o, ops[k]? = some o → StepAt P ops lay f T k o) {S : Nat → Prop} {μ0 μ : Mu} {w0 w : World} : ∀ (n q : Nat), q + n = ops.size → Mid P ops T S q μ0 w0 μ w → ∃ q', q' ≤ ops.size ∧ Stop P ops q' ∧ Mid P ops T S q' μ0 w0 μ w
  | 0, q, h, M => ⟨q, by omega, .inl (by omega), M⟩
  | n + 1, q, h, M => by
    have ho : ops[q]? = some ops[q] := Array.getElem?_eq_getElem (by omega)
    by_cases hc : clsOf P ops[q].op = 3
    · exact ⟨q, by omega, .inr ⟨_, ho, hc⟩, M⟩
    · exact Mid.stop hstep n (q + 1) (by omega) (M.shift hstep ho hc)
/-- an operation that reads, at the heap of now -/
def ReadsAt (P : Program) (ops : Array Oper) (lay : Lay) (f : Fr) (T : Nat → Sn) : Prop :=
  ∀ (i : Nat) (o : Oper) (q : Nat) (S : Nat → Prop), ops[i]? = some o → clsOf P o.op = 1 → q ≤ ops.size → Stop P ops q → (∀ p o, ops[p]? = some o → clsOf P o.op = 3 → (S p ↔ p < q)) → Down ops S → Ready ops S i →
    ∃ m h', (T (i + 1)).nm = bindN o.dst m (T i).nm ∧ OpFact P ops o (T i).nm lay (T i).e f (T q).h (T (i + 1)).e h' m 1
theorem chain_next (hch : inRow (Region.before ops) (chainOf P ops.toList 0) = true) {S : Nat → Prop} {q : Nat} (hval : ∀ p o, ops[p]? = some o → clsOf P o.op = 3 → (S p ↔ p < q)) (hst : Stop P ops q) (hdn : Down ops S) {i : Nat} (hr : Ready ops S i) {o : Oper} (ho : ops[i]? = some o) (hcl : clsOf P o.op = 3) : i = q := by
  have hi : i < ops.size := (Array.getElem?_eq_some_iff.1 ho).1
  have hv := hval i o ho hcl
  have hge : ¬ i < q := fun e => hr.1 (hv.2 e)
  rcases hst with e | ⟨o', ho', hc'⟩
  · omega
  · rcases Nat.lt_or_ge q i with hlt | hlt
    · exfalso
      have hSq : ¬ S q := fun e => by have := (hval q o' ho' hc').1 e; omega
      -- all of the chain between q and i come ahead of i
      have key : ∀ (n : Nat) (k : Nat), (chainOf P ops.toList 0)[k]? = some q → ∀ x, (chainOf P ops.toList 0)[k + n + 1]? = some x → S x → S q := by
        intro n
        induction n with
        | zero =>
          intro k hk x hx hs
          exact hdn.bit x q (inRow_spec _ hch k q x hk (by simpa using hx)) hs
        | succ n ih =>
          intro k hk x hx hs
          have hlt' : k + n + 1 < (chainOf P ops.toList 0).length := by
            have := (List.getElem?_eq_some_iff.1 hx).1
            omega
          refine ih k hk _ (List.getElem?_eq_getElem hlt') ?_
          exact hdn.bit x _ (inRow_spec _ hch (k + n + 1) _ x (List.getElem?_eq_getElem hlt') (by rw [show k + n + 1 + 1 = k + (n + 1) + 1 by omega]; exact hx)) hs
      obtain ⟨k, hk⟩ := List.getElem?_of_mem ((chain_at (P := P) (ops := ops)).2 ⟨o', ho', hc'⟩)
      obtain ⟨k', hk'⟩ := List.getElem?_of_mem ((chain_at (P := P) (ops := ops)).2 ⟨o, ho, hcl⟩)
      have hkk : k < k' := by
        rcases Nat.lt_trichotomy k k' with h | h | h
        · exact h
        · subst h; rw [hk] at hk'; injection hk' with hk'; omega
        · have hs := chainOf_sorted (P := P) ops.toList 0
          have hk1 := (List.getElem?_eq_some_iff.1 hk).1
          have := (List.pairwise_iff_getElem.1 hs) k' k (by omega) hk1 h
          rw [(List.getElem?_eq_some_iff.1 hk).2, (List.getElem?_eq_some_iff.1 hk').2] at this
          omega
      -- i is ready: the one of the chain that is next ahead of it has run
      cases hn : k' - k - 1 with
      | zero =>
        have e : k' = k + 1 := by omega
        subst e
        exact hSq (hr.bit hdn (inRow_spec _ hch k q i hk hk'))
      | succ n =>
        have hlt' : k + n + 1 < (chainOf P ops.toList 0).length := by
          have := (List.getElem?_eq_some_iff.1 hk').1
          omega
        have hx := List.getElem?_eq_getElem hlt'
        have hsx := hr.bit hdn (inRow_spec _ hch (k + n + 1) _ i hx (by rw [show k + n + 1 + 1 = k' by omega]; exact hk'))
        exact hSq (key n k hk _ hx hsx)
    · omega
/-- one operation, at any time when it is ready -/
theorem any_op (hstep : ∀ k o, ops[k]? = some o → StepAt P ops lay f T k o) (h0 : (T 0).nm = []) (hR : RdOk ops) (hch : inRow (Region.before ops) (chainOf P ops.toList 0) = true) (hrd : ReadsAt P ops lay f T) {N : Nat} (hN : ∀ (k : Nat) o, ops[k]? = some o → ∀ t, o.dst = some t → t < N)
    {a0 a : Act} {S : Nat → Prop} {μ0 μ : Mu} {w0 w : World} {q : Nat} (M : Mid P ops T S q μ0 w0 μ w) (hst : Stop P ops q) (hq : q ≤ ops.size) (V : Vals P ops f T N a0 S μ a) (hA : FRel μ0 lay N f a0) (hdn : Down ops S) {i : Nat} (hr : Ready ops S i) {Q : Exit → Act → World → Prop} {K : Act → World → Prop}
    (hK : ∀ μ' a' w' q', q' ≤ ops.size → Stop P ops q' → Mid P ops T (fun j => S j ∨ j = i) q' μ0 w0 μ' w' → Vals P ops f T N a0 (fun j => S j ∨ j = i) μ' a' → K a' w') : wpOp P ops Q i K a w := by
  obtain ⟨_, o, ho, _⟩ := id hr
  have hi : i < ops.size := (Array.getElem?_eq_some_iff.1 ho).1
  have st := hstep i o ho
  have horel := fun x hx => V.orel hstep h0 hR M.ext hA hdn ho hr x hx
  have hseen : Seen μ (T i).nm lay (T i).e f a.eval o := fun x hx => horel x (looks_op hx)
  have hgd : ∀ t, (∃ j want, o.guard = some (j, want) ∧ (ops[j]?).bind (·.dst) = some t) → ORel μ (T i).nm lay (T i).e f a.eval (.tmp t) := fun t ht => horel (.tmp t) fun t' e => by injection e with e; subst e; exact looks_guard ht
  have hput : ∀ {μ' : Mu} {w' : World} {q' : Nat} {v : Value}, μ.le μ' → q' ≤ ops.size → Stop P ops q' → Mid P ops T (fun j => S j ∨ j = i) q' μ0 w0 μ' w' → ((∃ t, o.dst = some t) → NRel μ' (T (i + 1)).e f (T i).m v) → K (a.put o.dst v) w' := fun hle h1 h2 h3 h4 =>
    hK _ _ _ _ h1 h2 h3 ((V.mono hle).put hstep hR hN ho h4)
  have quiet : clsOf P o.op ≠ 3 → (T (i + 1)).h = (T i).h → Mid P ops T (fun j => S j ∨ j = i) q μ0 w0 μ w := fun hc hh => M.quiet ho hc fun b ⟨_, _, _, h⟩ => by
    have := congrArg H.nx (h.symm.trans hh)
    rw [H.nx_add] at this; omega
  unfold wpOp
  rw [ho]
  dsimp only
  by_cases h1 : clsOf P o.op = 1
  · -- it reads
    obtain ⟨m, h', hnm, hf⟩ := hrd i o q S ho h1 hq hst M.valid hdn hr
    have hm : (∃ t, o.dst = some t) → m = (T i).m := fun ⟨t, ht⟩ => by
      have e := hnm.symm.trans st.nm
      rw [ht] at e
      simp only [bindN, List.cons.injEq, Prod.mk.injEq, true_and] at e
      exact e.1
    have hh : (T (i + 1)).h = (T i).h := by
      rcases st.fact with (⟨_, hf⟩ | ⟨_, hh, _⟩) | ⟨_, hh, _⟩
      · rw [h1] at hf; exact hf.1
      · exact hh
      · exact hh
    have hMid := quiet (by omega) hh
    rcases hf with ⟨hg, hh', hf⟩ | ⟨hg, hh', hv⟩
    · have hw := hg.wanted (μ := μ) (a := a) hgd
      rw [if_pos hw]
      refine .inl (Upon.wp ?_)
      obtain ⟨v, h2, h3⟩ := hf μ w a.eval (by exact M.rel) hseen
      rw [h2]
      exact hput (Mu.le_refl _) hq hst hMid fun ht => by rw [← hm ht]; exact h3
    · have hw := hg.wanted (μ := μ) (a := a) hgd
      rw [if_neg (by rw [hw]; exact Bool.false_ne_true)]
      exact hput (Mu.le_refl _) hq hst hMid fun ht => by rw [← hm ht]; exact hv μ
  · rcases st.fact with (⟨hg, hf⟩ | ⟨hg, hh, hv⟩) | ⟨hd, hh, he, hcls, hv⟩
    · have hw := hg.wanted (μ := μ) (a := a) hgd
      rw [if_pos hw]
      refine .inl (Upon.wp ?_)
      have hle := clsOf_le (P := P) o.op
      generalize hcl : clsOf P o.op = cls at hf h1 hle
      match cls, hf, h1, hle with
      | 0, ⟨hh, hf'⟩, _, _ =>
        obtain ⟨v, h2, h3⟩ := hf' μ a.eval hseen
        rw [h2 w]
        exact hput (Mu.le_refl _) hq hst (quiet (by omega) hh) fun _ => h3
      | 1, _, h1, _ => exact absurd rfl h1
      | 2, ⟨b, c, he, hh, hm, hf'⟩, _, _ =>
        obtain ⟨s, h2, v, w', ob, s0, top, L, h3, h4, h5⟩ := hf' μ w a.eval hseen
        have hmade : MadeAt P ops T i b := ⟨o, ho, hcl, hh⟩
        have hiq : i ≠ q := fun e => by
          subst e
          rcases hst with e | ⟨o', ho', hc'⟩
          · omega
          · rw [ho] at ho'; injection ho' with ho'; subst ho'; omega
        obtain ⟨hnone, hM⟩ := M.made hstep hmade hr.1 hiq s0 top L h4 fun μ' hle' hs' => (h5 μ' _ hle' hs').1
        have hle' := Mu.le_add (l := ⟨w.heap.size, s0, top, L⟩) hnone
        rw [h2, run_v h3]
        refine hput hle' hq hst hM fun _ => ?_
        rw [he, hm]
        exact nrel_one (h5 _ _ hle' (Mu.add_self _ _ _)).2
      | 3, hf', _, _ =>
        -- the next of the chain
        have hiq : i = q := chain_next hch M.valid hst hdn hr ho hcl
        subst hiq
        obtain ⟨hfr, hnext⟩ := M.chain hstep ho hcl
        refine (hf' μ w a.eval M.rel hfr hseen).mono fun v w' ⟨μ', h2, h3, h4⟩ => ?_
        obtain ⟨q', h5, h6, h7⟩ := Mid.stop hstep (ops.size - (i + 1)) (i + 1) (by omega) (hnext μ' w' h2 h3)
        exact hput h2.ext h5 h6 h7 fun _ => h4
      | n + 4, _, _, hle => omega
    · have hw := hg.wanted (μ := μ) (a := a) hgd
      rw [if_neg (by rw [hw]; exact Bool.false_ne_true)]
      by_cases h3 : clsOf P o.op = 3
      · -- one of the chain that is not wanted: as one that turns nothing
        have hiq : i = q := chain_next hch M.valid hst hdn hr ho h3
        subst hiq
        obtain ⟨_, hnext⟩ := M.chain hstep ho h3
        obtain ⟨q', h5, h6, h7⟩ := Mid.stop hstep (ops.size - (i + 1)) (i + 1) (by omega) (hnext μ w (by rw [hh]; exact .refl _ _ _) (by rw [hh]; exact M.rel))
        exact hput (Mu.le_refl _) h5 h6 h7 fun _ => hv μ
      · exact hput (Mu.le_refl _) hq hst (quiet h3 hh) fun _ => hv μ
    · obtain ⟨v, h2⟩ := hv μ a.eval hseen
      have hMid := quiet (by omega) hh
      have hkeep : ∀ u, K (a.put o.dst u) w := fun u => hput (Mu.le_refl _) hq hst hMid fun ⟨t, ht⟩ => by rw [hd] at ht; cases ht
      split
      · refine .inl (Upon.wp ?_)
        rw [h2 w]
        exact hkeep v
      · exact hkeep undef
end
end
end Go.Kx
namespace Go.Kx
noncomputable section
variable [Sig]
section
variable {P : Program} {ops : Array Oper} {lay : Lay} {f : Fr} {T : Nat → Sn}

/- ## reads, from the checks -/
theorem reads_ok (hstep : ∀ k o, ops[k]? = some o → StepAt P ops lay f T k o) {es : List RE}
    (hR : ∀ r, r ∈ es → r.cls = 1 → ∃ (o : Oper), ops[r.i]? = some o ∧ ReadRE P ops lay T r o) (hR2 : ∀ (i : Nat) (o : Oper), ops[i]? = some o → clsOf P o.op = 1 → ∃ r, r ∈ es ∧ r.i = i ∧ r.cls = 1)
    (hck : ∀ r o, r ∈ es → r.cls = 1 → ops[r.i]? = some o → ChkOk P ops lay f ((T ops.size).h :: (((chainOf P ops.toList 0).map fun p => (T p).h).reverse ++ [])) (chainOf P ops.toList 0) T (T ops.size).e r o) : ReadsAt P ops lay f T := fun i o q S ho hcl hq hst hval hdn hr => by
  have hi : i < ops.size := (Array.getElem?_eq_some_iff.1 ho).1
  obtain ⟨r, h1, h2, h3⟩ := hR2 i o ho hcl
  subst h2
  obtain ⟨o', ho', hlvl, _⟩ := hR r h1 h3
  rw [ho] at ho'; injection ho' with ho'; subst ho'
  obtain ⟨hlen, hck⟩ := hck r o h1 h3 ho
  have hsort := chainOf_sorted (P := P) ops.toList 0
  have hk : (T ops.size).h :: (((chainOf P ops.toList 0).map fun p => (T p).h).reverse ++ []) = (T ops.size).h :: (((chainOf P ops.toList 0).map fun p => (T p).h).reverse) := by rw [List.append_nil]
  have hin : ∀ c, c ∈ chainOf P ops.toList 0 → (S c ↔ c < q) := fun c hc => by
    obtain ⟨p, hp, hpc⟩ := chain_at.1 hc
    exact hval c p hp hpc
  have hats : len (chainOf P ops.toList 0) - countB (fun c => Nat.blt c q) (chainOf P ops.toList 0) ∈ atsOf (len (chainOf P ops.toList 0)) (countB (fun c => bitOf (Region.before ops) r.i c) (chainOf P ops.toList 0)) (leadB (fun c => Bool.not (bitOf (Region.before ops) c r.i)) (chainOf P ops.toList 0)) := by
    refine atsOf_mem (countB_le _ fun c hc hb => ?_) (count_lead _ hsort fun c hc hlt => ?_)
    · rw [blt_dec, decide_eq_true_eq]
      exact (hin c hc).1 (hr.bit hdn hb)
    · cases hb : bitOf (Region.before ops) c r.i with
      | false => rfl
      | true => exact absurd ((hin c hc).2 hlt) (hr.not hdn hb)
  obtain ⟨h, hh, l, h', hl, hv, m, hm, hf⟩ := hck _ hats
  have hheap : h = (T q).h := by
    rw [hk, len_eq] at hh
    rcases hst with e | ⟨p, hp, hpc⟩
    · have hall : countB (fun c => Nat.blt c q) (chainOf P ops.toList 0) = (chainOf P ops.toList 0).length := count_all _ fun x hx => by
        obtain ⟨p, hp, _⟩ := chain_at.1 hx
        rw [e]; exact (Array.getElem?_eq_some_iff.1 hp).1
      rw [hall, Nat.sub_self] at hh
      simp only [List.getElem?_cons_zero, Option.some.injEq] at hh
      rw [← hh, e]
    · have hat := count_at (chainOf P ops.toList 0) hsort (chain_at.2 ⟨p, hp, hpc⟩)
      have hlt := (List.getElem?_eq_some_iff.1 hat).1
      rw [show (chainOf P ops.toList 0).length - countB (fun c => Nat.blt c q) (chainOf P ops.toList 0) = ((chainOf P ops.toList 0).length - 1 - countB (fun c => Nat.blt c q) (chainOf P ops.toList 0)) + 1 by omega, List.getElem?_cons_succ, List.getElem?_reverse (by simp; omega)] at hh
      simp only [List.length_map] at hh
      rw [show (chainOf P ops.toList 0).length - 1 - ((chainOf P ops.toList 0).length - 1 - countB (fun c => Nat.blt c q) (chainOf P ops.toList 0)) = countB (fun c => Nat.blt c q) (chainOf P ops.toList 0) by omega, List.getElem?_map, hat] at hh
      simpa using hh.symm
  have henv : pushL l (T r.i).e = (T (r.i + 1)).e := by
    obtain ⟨l2, h2⟩ := (hstep r.i o ho).ext
    have hl2 : l2.length = 1 := by
      have := hlen
      rw [h2, pushL_len] at this
      omega
    obtain ⟨x, rfl⟩ := List.length_eq_one_iff.1 hl2
    obtain ⟨y, rfl⟩ := List.length_eq_one_iff.1 hl
    obtain ⟨L, hL⟩ := env_le hstep (show r.i + 1 ≤ ops.size by omega) (Nat.le_refl _)
    have hLl : (T ops.size).e.length - 1 - r.lvl = L.length := by
      rw [hL, hlvl, List.length_append, hlen]; omega
    rw [hLl, hL] at hv
    have hv2 : nthV (L ++ (T (r.i + 1)).e) L.length = x := by
      rw [nthV_eq, List.getElem?_append_right (Nat.le_refl _), Nat.sub_self, h2]; rfl
    rw [hv2] at hv
    have hv : y = x := hv
    rw [h2, hv]
  rw [henv, hheap] at hf
  exact ⟨m, h', hm, hf⟩

/- ## any order -/
theorem count_set : ∀ (l : List Bool) (i : Nat), l[i]? = some false → (l.set i true).count false + 1 = l.count false
  | [], i, h => by simp at h
  | a :: l, 0, h => by
    simp only [List.getElem?_cons_zero, Option.some.injEq] at h
    subst h
    simp
  | a :: l, i + 1, h => by
    have := count_set l i (by simpa using h)
    simp only [List.set_cons_succ, List.count_cons]
    omega
theorem any_all (hstep : ∀ k o, ops[k]? = some o → StepAt P ops lay f T k o) (h0 : (T 0).nm = []) (hR : RdOk ops) (hch : inRow (Region.before ops) (chainOf P ops.toList 0) = true) (hrd : ReadsAt P ops lay f T) {N : Nat} (hN : ∀ (k : Nat) o, ops[k]? = some o → ∀ t, o.dst = some t → t < N)
    {a0 : Act} {μ0 : Mu} {w0 : World} (hA : FRel μ0 lay N f a0) {Q : Exit → Act → World → Prop} (hQ : ∀ a' w' μ', Step μ0 (T 0).h w0 μ' (T ops.size).h w' → Rel μ' (T ops.size).h w' → ARel μ' (T ops.size).nm lay N (T ops.size).e f a' → Q .normal a' w') :
    ∀ (fuel : Nat) (ls : Array Bool) (a : Act) (w : World) (μ : Mu) (q : Nat) (S : Nat → Prop), ls.size = ops.size → (∀ i, S i ↔ ls[i]? = some true) → ls.toList.count false = fuel → q ≤ ops.size → Stop P ops q → Mid P ops T S q μ0 w0 μ w → Vals P ops f T N a0 S μ a → Down ops S → wpAny P .any ops Q fuel ls a w := by
  have fin : ∀ (ls : Array Bool) (a : Act) (w : World) (μ : Mu) (q : Nat) (S : Nat → Prop), ls.size = ops.size → (∀ i, S i ↔ ls[i]? = some true) → q ≤ ops.size → Stop P ops q → Mid P ops T S q μ0 w0 μ w → Vals P ops f T N a0 S μ a → (∀ i, i < ops.size → S i) → Q .normal a w := by
    intro ls a w μ q S hsz hS hq hst M V hall
    have hqN : q = ops.size := by
      rcases hst with e | ⟨o, ho, hc⟩
      · exact e
      · have h1 := (Array.getElem?_eq_some_iff.1 ho).1
        have := (M.valid q o ho hc).1 (hall q h1)
        omega
    subst hqN
    obtain ⟨n1, n2⟩ := names_at hstep h0 ops.size (Nat.le_refl _)
    refine hQ a w μ ⟨M.ext, M.new, nx_le hstep (Nat.zero_le _) (Nat.le_refl _), M.phantom, M.frame, M.size, M.tape, M.os, M.output, M.dead, M.keep⟩ M.rel ⟨V.size, V.defers, fun t m ht => ?_, fun t p ht hp => ?_⟩
    · obtain ⟨j, o, h1, h2, h3, rfl⟩ := n1 t m ht
      exact V.vals j o t (hall j h1) h2 h3
    · rw [V.old t fun j o _ ho => n2 t ht j o (Array.getElem?_eq_some_iff.1 ho).1 ho]
      exact (hA.slot t p rfl hp).mono M.ext
  have listed : ∀ (ls : Array Bool) (S : Nat → Prop), ls.size = ops.size → (∀ i, S i ↔ ls[i]? = some true) → ∀ i, i < ops.size → ¬ S i → ls[i]? = some false := by
    intro ls S hsz hS i hi hn
    have hlt : i < ls.size := by omega
    rw [Array.getElem?_eq_getElem hlt]
    cases hb : ls[i] with
    | false => rfl
    | true => exact absurd ((hS i).2 (by rw [Array.getElem?_eq_getElem hlt, hb])) hn
  have none_ready : ∀ (ls : Array Bool) (S : Nat → Prop), ls.size = ops.size → (∀ i, S i ↔ ls[i]? = some true) → Region.ready .any ops ls = [] → ∀ i, i < ops.size → S i := by
    intro ls S hsz hS hrd i
    induction i using Nat.strongRecOn with
    | _ i ih =>
      intro hi
      by_cases hs : S i
      · exact hs
      · exfalso
        have hf := listed ls S hsz hS i hi hs
        have ho : ops[i]? = some ops[i] := Array.getElem?_eq_getElem hi
        have : i ∈ Region.ready .any ops ls := by
          unfold Region.ready
          rw [List.mem_filter]
          refine ⟨by simpa using hi, ?_⟩
          rw [ho, Array.getD_eq_getD_getElem?, hf]
          simp only [Option.getD_some, Bool.not_false, Option.map_some, Bool.true_and]
          rw [Array.all_eq_true_iff_forall_mem]
          intro e he
          by_cases hb : Region.binds .any e = true
          · have hlt := hR.after i _ ho e he hb
            have := (hS e.on).1 (ih e.on hlt (by omega))
            rw [Array.getD_eq_getD_getElem?, this]
            simp
          · simp [hb]
        rw [hrd] at this
        cases this
  have ready_of : ∀ (ls : Array Bool) (S : Nat → Prop), ls.size = ops.size → (∀ i, S i ↔ ls[i]? = some true) → ∀ i, i ∈ Region.ready .any ops ls → i < ops.size ∧ ls[i]? = some false ∧ Ready ops S i := by
    intro ls S hsz hS i hi
    unfold Region.ready at hi
    rw [List.mem_filter] at hi
    obtain ⟨h1, h2⟩ := hi
    have hi : i < ops.size := by simpa using h1
    rw [Bool.and_eq_true] at h2
    obtain ⟨h2, h3⟩ := h2
    have hlt : i < ls.size := by omega
    have hf : ls[i]? = some false := by
      rw [Array.getD_eq_getD_getElem?, Array.getElem?_eq_getElem hlt] at h2
      rw [Array.getElem?_eq_getElem hlt]
      simpa using h2
    have ho : ops[i]? = some ops[i] := Array.getElem?_eq_getElem hi
    refine ⟨hi, hf, fun hs => ?_, _, ho, fun e he hb => ?_⟩
    · have := (hS i).1 hs; rw [hf] at this; cases this
    · rw [ho] at h3
      simp only [Option.map_some, Option.getD_some] at h3
      rw [Array.all_eq_true_iff_forall_mem] at h3
      have := h3 e he
      rw [hb] at this
      simp only [Bool.not_true, Bool.false_or] at this
      refine (hS e.on).2 ?_
      rw [Array.getD_eq_getD_getElem?] at this
      cases hx : ls[e.on]? with
      | none => rw [hx] at this; cases this
      | some b => rw [hx] at this; simpa using this
  intro fuel
  induction fuel with
  | zero =>
    intro ls a w μ q S hsz hS hcnt hq hst M V hdn
    have hall : ∀ i, i < ops.size → S i := fun i hi => by
      by_cases hs : S i
      · exact hs
      · exfalso
        have hf := listed ls S hsz hS i hi hs
        have : false ∈ ls.toList := List.mem_of_getElem? (i := i) (by rw [Array.getElem?_toList]; exact hf)
        have := List.count_pos_iff.2 this
        omega
    refine ⟨?_, fin ls a w μ q S hsz hS hq hst M V hall⟩
    rw [List.eq_nil_iff_forall_not_mem]
    intro i hi
    obtain ⟨h1, h2, h3⟩ := ready_of ls S hsz hS i hi
    exact h3.1 (hall i h1)
  | succ fuel ih =>
    intro ls a w μ q S hsz hS hcnt hq hst M V hdn
    refine ⟨fun hrdy => fin ls a w μ q S hsz hS hq hst M V (none_ready ls S hsz hS hrdy), fun i hi => ?_⟩
    obtain ⟨h1, h2, h3⟩ := ready_of ls S hsz hS i hi
    refine any_op hstep h0 hR hch hrd hN M hst hq V hA hdn h3 fun μ' a' w' q' h4 h5 h6 h7 => ?_
    refine ih (ls.setIfInBounds i true) a' w' μ' q' (fun j => S j ∨ j = i) (by simpa using hsz) (fun j => ?_) ?_ h4 h5 h6 h7 (h3.down hdn)
    · rw [Array.getElem?_setIfInBounds]
      by_cases e : i = j
      · subst e; simp; omega
      · rw [if_neg e, ← hS j]
        exact ⟨fun h => h.resolve_right (Ne.symm e), .inl⟩
    · have h8 : (ls.setIfInBounds i true).toList = ls.toList.set i true := by simp
      have h9 := count_set ls.toList i (by rw [Array.getElem?_toList]; exact h2)
      rw [h8]; omega
end
end
end Go.Kx
namespace Go.Kx
noncomputable section
variable [Sig]
section
variable {P : Program}

/- ## the frame -/
structure LayOk (lay : Lay) : Prop where
  nodup : (lay.ents.map Prod.snd).Nodup
  lt : ∀ x, x ∈ lay.ents → x.2 < lay.total
theorem lk_mem {α : Type} : ∀ (l : List (Nat × α)) (t : Nat) (x : α), lk l t = some x → (t, x) ∈ l
  | [], t, x, h => (nomatch (show (none : Option α) = some x from h))
  | (u, y) :: l, t, x, h => by
    rw [lk_cons] at h
    by_cases e : u = t
    · rw [if_pos e] at h; injection h with h; subst e h; exact List.mem_cons_self ..
    · rw [if_neg e] at h; exact List.mem_cons_of_mem _ (lk_mem l t x h)
theorem nth_setV (l : List V) (k j : Nat) (x : V) (hk : k < l.length) : nthV (setV l k x) j = if j = k then x else nthV l j := by
  rw [nthV_eq, setV_get, nthV_eq]
  by_cases e : j = k
  · rw [if_pos ⟨e, hk⟩, if_pos e]; rfl
  · rw [if_neg (fun h => e h.1), if_neg e]
theorem setV_len (l : List V) (k : Nat) (x : V) : (setV l k x).length = l.length := by rw [setV_eq]; simp
theorem commitF_cons (p : Nat × Gt) (l : List (Nat × Gt)) (e : Ev) (f a : Fr) : commitF (p :: l) e f a = commitF l e f (setV a p.1 (p.2 e f)) := rfl
theorem commits_cons (nm : Names) (d : Nat) (x : Nat × Nat) (l : List (Nat × Nat)) : commits nm d (x :: l) = (match lk nm x.1 with
      | none => commits nm d l
      | some (.val a) => (match commits nm d l with | some c => withG d a fun g => some ((x.2, g) :: c) | none => none)
      | some (.tup _) => none) := rfl
theorem commits_ok {nm : Names} {d : Nat} {e : Ev} {f : Fr} (he : e.length = d) : ∀ (ents : List (Nat × Nat)) (com : List (Nat × Gt)), commits nm d ents = some com → (ents.map Prod.snd).Nodup → ∀ a : Fr, (∀ x, x ∈ ents → x.2 < a.length) →
    (commitF com e f a).length = a.length ∧ (∀ t p, (t, p) ∈ ents → ∀ m, lk nm t = some m → ∃ x, m = .val x ∧ nthV (commitF com e f a) p = aoV e f x) ∧ ∀ p, (∀ t, (t, p) ∈ ents → lk nm t = none) → nthV (commitF com e f a) p = nthV a p
  | [], com, h, _, a, _ => by
    have h : some [] = some com := h
    injection h with h; subst h
    exact ⟨rfl, fun t p hm => (by cases hm), fun p _ => rfl⟩
  | (u, q) :: ents, com, h, hnd, a, hlt => by
    rw [commits_cons] at h
    simp only [List.map_cons, List.nodup_cons] at hnd
    dsimp only at h
    have hq := hlt (u, q) (List.mem_cons_self ..)
    cases hu : lk nm u with
    | none =>
      rw [hu] at h
      obtain ⟨h1, h2, h3⟩ := commits_ok he ents com h hnd.2 a fun x hx => hlt x (List.mem_cons_of_mem _ hx)
      refine ⟨h1, fun t p hm m ht => ?_, fun p hp => h3 p fun t ht => hp t (List.mem_cons_of_mem _ ht)⟩
      rcases List.mem_cons.1 hm with e' | hm
      · injection e' with e1 e2; subst e1; rw [hu] at ht; cases ht
      · exact h2 t p hm m ht
    | some m0 =>
      rw [hu] at h
      cases m0 with
      | tup l => cases h
      | val x =>
        dsimp only at h
        cases hc : commits nm d ents with
        | none => rw [hc] at h; cases h
        | some c =>
          rw [hc] at h
          dsimp only at h
          obtain ⟨g, e1, hg⟩ := withG_eq d x (fun g => some ((q, g) :: c))
          rw [e1] at h
          injection h with h; subst h
          rw [commitF_cons]
          dsimp only
          obtain ⟨h1, h2, h3⟩ := commits_ok he ents c hc hnd.2 (setV a q (g e f)) fun x hx => by rw [setV_len]; exact hlt x (List.mem_cons_of_mem _ hx)
          have hfree : ∀ t, (t, q) ∈ ents → False := fun t ht => hnd.1 (List.mem_map.2 ⟨(t, q), ht, rfl⟩)
          refine ⟨h1.trans (setV_len _ _ _), fun t p hm m ht => ?_, fun p hp => ?_⟩
          · rcases List.mem_cons.1 hm with e' | hm
            · injection e' with e1 e2; subst e1 e2
              rw [hu] at ht; injection ht with ht; subst ht
              refine ⟨x, rfl, ?_⟩
              rw [h3 p fun t' ht' => (hfree t' ht').elim, nth_setV _ _ _ _ hq, if_pos rfl]
              exact hg e f he
            · exact h2 t p hm m ht
          · have hpq : p ≠ q := fun e' => by subst e'; have := hp u (List.mem_cons_self ..); rw [hu] at this; cases this
            rw [h3 p fun t ht => hp t (List.mem_cons_of_mem _ ht), nth_setV _ _ _ _ hq, if_neg hpq]
theorem nodup_snd {l : List (Nat × Nat)} (h : (l.map Prod.snd).Nodup) {t u p : Nat} (h1 : (t, p) ∈ l) (h2 : (u, p) ∈ l) : t = u := by
  induction l with
  | nil => cases h1
  | cons x l ih =>
    simp only [List.map_cons, List.nodup_cons] at h
    rcases List.mem_cons.1 h1 with e1 | h1 <;> rcases List.mem_cons.1 h2 with e2 | h2
    · rw [← e1] at e2; injection e2 with e2; exact e2.symm
    · exact absurd (List.mem_map.2 ⟨(u, p), h2, by rw [← e1]⟩) h.1
    · exact absurd (List.mem_map.2 ⟨(t, p), h1, by rw [← e2]⟩) h.1
    · exact ih h.2 h1 h2
/-- at a region's end -/
theorem commit_rel {lay : Lay} (hl : LayOk lay) {nm : Names} {d : Nat} {com : List (Nat × Gt)} (hc : commits nm d lay.ents = some com) {e : Ev} {f : Fr} (he : e.length = d) (hf : f.length = lay.total) {μ : Mu} {N : Nat} {a : Act} (hA : ARel μ nm lay N e f a) :
    (commitF com e f f).length = lay.total ∧ FRel μ lay N (commitF com e f f) a := by
  obtain ⟨h1, h2, h3⟩ := commits_ok (f := f) he lay.ents com hc hl.nodup f fun x hx => by rw [hf]; exact hl.lt x hx
  refine ⟨h1.trans hf, hA.size, hA.defers, fun t m ht => (nomatch (show (none : Option Nm) = some m from ht)), fun t p _ hp => ?_⟩
  have hm := lk_mem _ _ _ hp
  cases ht : lk nm t with
  | none =>
    rw [h3 p fun u hu => by rw [← nodup_snd hl.nodup hm hu]; exact ht]
    exact hA.slot t p ht hp
  | some m =>
    obtain ⟨x, rfl, h4⟩ := h2 t p hm m ht
    rw [h4]
    have := hA.tmp t _ ht
    cases this with
    | val h => exact h

/- ## a region -/
theorem regOf_inv {lay : Lay} {ops : Array Oper} {r : RC2} (h : regOf P lay ops = some r) : CompOk P ops lay ops.toList 0 [] 0 ⟨r.ops, r.names, r.d⟩ ∧ commits r.names r.d lay.ents = some r.com := by
  have hc := compL_ok (P := P) (all := ops) (lay := lay) ops.toList 0 [] 0
  unfold regOf at h
  generalize compL P ops lay ops.toList 0 [] 0 = q at h hc
  cases q with
  | mk l nm d =>
    dsimp only at h
    cases hcm : commits nm d lay.ents with
    | none => rw [hcm] at h; cases h
    | some com =>
      rw [hcm] at h
      injection h with h; subst h
      exact ⟨hc, hcm⟩
theorem nil_ok (d : Nat) : NamesOk [] d := fun t m h => (nomatch (show (none : Option Nm) = some m from h))
theorem region_ok (hmix : P.follows .mixedOrders = true) {lay : Lay} {ops : Array Oper} {draw : Bool} (hrd : draw = true → RdOk ops) {N : Nat} (hN : ∀ (k : Nat) o, ops[k]? = some o → ∀ t, o.dst = some t → t < N) {r : RC2} (hreg : regOf P lay ops = some r) {call : CallT} (hcall : CallOk P call) (fin : Fin) (f : Fr) (h : H) :
    (∃ s, regR P ops draw r.ops r.d fin call f h = .stuck s) ∨ ∃ e h', e.length = r.d ∧ regR P ops draw r.ops r.d fin call f h = fin call e f h' ∧ h.nx ≤ h'.nx ∧ ∀ (μ : Mu) (a : Act) (w : World) (Q : Exit → Act → World → Prop) (id : Nat), FRel μ lay N f a → Rel μ h w → Fresh μ h h' →
      (∀ a' w' μ', Step μ h w μ' h' w' → Rel μ' h' w' → ARel μ' r.names lay N e f a' → Q .normal a' w') → (Code.region id ops draw).wp P Q a w := by
  obtain ⟨hc, _⟩ := regOf_inv hreg
  cases draw with
  | false =>
    rcases trace_runL hcall hc (nil_ok 0) [] f h (fun e h => fin call e f h) rfl with h1 | ⟨T, hT, h1⟩
    · exact .inl h1
    · have hlen : (0 : Nat) + ops.toList.length = ops.size := by simp
      have hstep : ∀ k o, ops[k]? = some o → StepAt P ops lay f T k o := fun k o hk => by
        have := hT.step k o (by rw [Array.getElem?_toList]; exact hk)
        rwa [Nat.zero_add] at this
      have n1 := hT.nm1; have e1 := hT.e1
      rw [hlen] at h1 n1 e1
      refine .inr ⟨_, _, e1, h1, by rw [← hT.h0]; exact nx_le hstep (Nat.zero_le _) (Nat.le_refl _), fun μ a w Q id hA hR hfr hQ => ?_⟩
      refine wp_region ?_
      rw [List.range_eq_range']
      refine plain_ops hstep hN ops.size 0 (by omega) μ a w ?_ ?_ ?_ fun a' w' μ' h2 h3 h4 => ?_
      · rw [hT.nm0]; exact ARel.env hA
      · rw [hT.h0]; exact hR
      · rw [hT.h0]; exact hfr
      · rw [hT.h0] at h2
        refine hQ a' w' μ' h2 h3 ?_
        rw [n1] at h4; exact h4
  | true =>
    cases hdo : drawOk P ops with
    | false => exact .inl ⟨ "draw order", by show (bif drawOk P ops then _ else stuckR "draw order") call f h = _; rw [hdo]; rfl⟩
    | true =>
      have e0 : regR P ops true r.ops r.d fin call f h = runD (marked r.ops) call [] f h [] fun e h hs => chksK (chksOf (Region.before ops) (chainOf P ops.toList 0) r.d r.ops) call e f (h :: hs) (fin call e f h) := by
        show (bif drawOk P ops then drawC (marked r.ops) (chksOf (Region.before ops) (chainOf P ops.toList 0) r.d r.ops) fin else stuckR "draw order") call f h = _
        rw [hdo]; rfl
      rw [e0]
      rcases trace_runD hcall hc (nil_ok 0) [] f h [] (fun e h hs => chksK (chksOf (Region.before ops) (chainOf P ops.toList 0) r.d r.ops) call e f (h :: hs) (fin call e f h)) rfl with h1 | ⟨T, hT, hR1, hR2, h1⟩
      · exact .inl h1
      · have hlen : (0 : Nat) + ops.toList.length = ops.size := by simp
        have hstep : ∀ k o, ops[k]? = some o → StepAt P ops lay f T k o := fun k o hk => by
          have := hT.step k o (by rw [Array.getElem?_toList]; exact hk)
          rwa [Nat.zero_add] at this
        have n1 := hT.nm1; have e1 := hT.e1
        rw [hlen] at h1 n1 e1
        rw [h1]
        have hgood : ∀ r', r' ∈ r.ops → r'.cls = 1 → ∃ (o : Oper), ops[r'.i]? = some o ∧ ReadRE P ops lay T r' o := fun r' hr' hc' => by
          obtain ⟨j, o, h2, h3, h4⟩ := hR1 r' hr' hc'
          rw [Nat.zero_add] at h3; subst h3
          exact ⟨o, by rw [← Array.getElem?_toList]; exact h2, h4⟩
        have e1' : (T ops.size).e.length = r.d := e1
        rw [← e1']
        rcases chksK_ok (P := P) (ops := ops) (lay := lay) hcall (f := f) (hs := (T ops.size).h :: (((chainOf P ops.toList 0).map fun p => (T p).h).reverse ++ [])) (ch := chainOf P ops.toList 0) (T := T) (eN := (T ops.size).e) (fin call (T ops.size).e f (T ops.size).h) r.ops (fun r' hr' hc' => by
          obtain ⟨o, h2, h3⟩ := hgood r' hr' hc'
          obtain ⟨L, hL⟩ := env_le hstep (show r'.i ≤ ops.size from Nat.le_of_lt (Array.getElem?_eq_some_iff.1 h2).1) (Nat.le_refl _)
          exact ⟨o, L, h2, hL, h3⟩) with h2 | ⟨h2, h3⟩
        · exact .inl h2
        · refine .inr ⟨_, _, rfl, h2, by rw [← hT.h0]; exact nx_le hstep (Nat.zero_le _) (Nat.le_refl _), fun μ a w Q id hA hRel hfr hQ => ?_⟩
          refine wp_region_any hmix ?_
          have hRel0 : Rel μ (T 0).h { w with drawn := w.drawn + 1 } := by rw [hT.h0]; exact hRel.drawn _
          have hRd : RdOk ops := hrd rfl
          have hdo' : inRow (Region.before ops) (chainOf P ops.toList 0) = true := hdo
          have M0 : Mid P ops T (fun _ => False) 0 μ { w with drawn := w.drawn + 1 } μ { w with drawn := w.drawn + 1 } := by
            refine ⟨fun p o _ _ => ⟨fun h => h.elim, fun h => absurd h (by omega)⟩, hRel0, Mu.le_refl _, fun i l hi => .inl hi, fun _ _ _ => rfl, fun β _ ho => ⟨rfl, ho⟩, Nat.le_refl _, rfl, rfl, rfl, fun _ _ e => e, fun k x y l _ hx hy _ hb => ⟨by rw [hx] at hy; injection hy with hy; subst hy; exact hb, .refl l rfl⟩, fun i l h4 h5 h6 => ?_, fun j b h4 => absurd h4 (by omega), fun j b _ _ hs => hs.elim, fun i j b c l m _ _ _ _ hs => hs.elim⟩
            have := hfr i (by rw [← hT.h0]; exact h4) h5
            rw [this] at h6; cases h6
          obtain ⟨q, h4, h5, h6⟩ := Mid.stop hstep ops.size 0 (by omega) M0
          refine any_all hstep hT.nm0 hRd hdo' (reads_ok hstep hgood (fun i o ho hc' => by
            obtain ⟨r', h7, h8, h9⟩ := hR2 i o (by rw [Array.getElem?_toList]; exact ho) hc'
            exact ⟨r', h7, by omega, h9⟩) h3) hN hA (fun a' w' μ' h7 h8 h9 => ?_) ops.size (Array.replicate ops.size false) a _ μ q (fun _ => False) (by simp) (fun i => ?_) (by simp) h4 h5 h6 ⟨hA.size, hA.defers, fun j o t hs => hs.elim, fun t _ => rfl⟩ (fun i o hs => hs.elim)
          · rw [hT.h0] at h7
            refine hQ a' w' μ' ((Step.drawn μ h w (w.drawn + 1)).trans h7) h8 ?_
            rw [n1] at h9; exact h9
          · rw [Array.getElem?_replicate]
            constructor
            · intro h; exact h.elim
            · intro h; split at h <;> cases h
end
end
end Go.Kx
namespace Go.Kx
noncomputable section
variable [Sig]
section
variable {P : Program}

/- ## scopes with labels -/
def Code.scopes (P : Program) (body : Code) (Q : Exit → Act → World → Prop) : Nat → Code → Act → World → Prop
  | 0, _, _, _ => False
  | n + 1, c, a, w => c.wp P (fun e a w => match e with
    | .goto l => (match findLabel body l with | some rest => Code.scopes P body Q n rest a w | none => Q (.goto l) a w)
    | e => Q e a w) a w
theorem wp_scope_rounds {Q : Exit → Act → World → Prop} {a : Act} {w : World} {body : Code} (n : Nat) (h : Code.scopes P body Q n body a w) : (Code.scope body).wp P Q a w := by
  intro b k cs
  have key : ∀ n c a w, Code.scopes P body Q n c a w → ∃ e a' w', Q e a' w' ∧ Arrives P (lone (b.at a (.code c :: .inScope body :: k)) cs w) b k cs e a' w' := by
    intro n
    induction n with
    | zero => intro c a w h; exact h.elim
    | succ n ih =>
      intro c a w h
      obtain ⟨e, a₁, w₁, hq, harr⟩ := h b (.inScope body :: k) cs
      cases e with
      | normal => exact ⟨.normal, a₁, w₁, hq, Steps.trans harr (.one step_inScope)⟩
      | exit id => exact ⟨.exit id, a₁, w₁, hq, fun k' hk => harr k' (by simp [exitTo, hk])⟩
      | goto l =>
        dsimp only at hq
        cases hf : findLabel body l with
        | none =>
          rw [hf] at hq
          exact ⟨.goto l, a₁, w₁, hq, fun k' hk => harr k' (by simp [gotoIn, hf, hk])⟩
        | some rest =>
          rw [hf] at hq
          obtain ⟨e₂, a₂, w₂, hq₂, harr₂⟩ := ih rest a₁ w₁ hq
          exact ⟨e₂, a₂, w₂, hq₂, .of_steps (harr _ (by simp [gotoIn, hf])) harr₂⟩
      | ret => exact ⟨_, a₁, w₁, hq, harr⟩
      | panic ch => exact ⟨_, a₁, w₁, hq, harr⟩
      | outgrown => exact ⟨_, a₁, w₁, hq, harr⟩
  obtain ⟨e, a', w', hq, harr⟩ := key n body a w h
  exact ⟨e, a', w', hq, .of_steps (.one step_scope) harr⟩

/- ## code -/
def xE : X → Exit
  | .normal => .normal
  | .exit id => .exit id
  | .goto l => .goto l
  | .ret => .ret
def Ends (μ : Mu) (h : H) (w : World) (lay : Lay) (N : Nat) (x : X) (f' : Fr) (h' : H) : Exit → Act → World → Prop := fun e a' w' => e = xE x ∧ ∃ μ', Step μ h w μ' h' w' ∧ Rel μ' h' w' ∧ FRel μ' lay N f' a'
/-- a code's runner, where its activation is as 'G' says -/
def RunIf (P : Program) (lay : Lay) (N : Nat) (G : Act → Prop) (c : Code) (r : Runner) : Prop := ∀ call, CallOk P call → ∀ f h, f.length = lay.total →
  (∃ s, r call f h = .stuck s) ∨ ∃ x f' h', r call f h = .out x f' h' ∧ f'.length = lay.total ∧ h.nx ≤ h'.nx ∧ ∀ μ a w, G a → FRel μ lay N f a → Rel μ h w → Fresh μ h h' → c.wp P (Ends μ h w lay N x f' h') a w
abbrev RunOk (P : Program) (lay : Lay) (N : Nat) (c : Code) (r : Runner) : Prop := RunIf P lay N (fun _ => True) c r
structure BothOk (P : Program) (lay : Lay) (N : Nat) (c : Code) (b : Both) : Prop where
  run : RunOk P lay N c b.run
  frm : ∀ l rest, findLabel c l = some rest → RunOk P lay N rest (b.frm l)
  cnd : ∀ x A B, b.cnd = some (x, A, B) → ∀ t : Bool, RunIf P lay N (fun a => a.eval x = .bool t) c (if t then A else B)
section code
variable {lay : Lay} {N : Nat}
theorem run_stuck (G : Act → Prop) (c : Code) (s : String) : RunIf P lay N G c (stuckR s) := fun _ _ _ _ _ => .inl ⟨s, rfl⟩
theorem run_noFrm (G : Act → Prop) (c : Code) (l : Nat) : RunIf P lay N G c (noFrm l) := fun _ _ _ _ _ => .inl ⟨ "frm", rfl⟩
theorem Ends.trans {μ μ1 : Mu} {h h1 h2 : H} {w w1 : World} {x : X} {f' : Fr} (s : Step μ h w μ1 h1 w1) {e : Exit} {a' : Act} {w' : World} (hE : Ends μ1 h1 w1 lay N x f' h2 e a' w') : Ends μ h w lay N x f' h2 e a' w' := by
  obtain ⟨h3, μ', h4, h5, h6⟩ := hE
  exact ⟨h3, μ', s.trans h4, h5, h6⟩
theorem thenK_normal (f : Fr) (h : H) (k : Fr → H → Out) : thenK (.out .normal f h) k = k f h := rfl
theorem thenK_other {x : X} (hx : x ≠ .normal) (f : Fr) (h : H) (k : Fr → H → Out) : thenK (.out x f h) k = .out x f h := by cases x <;> first | exact absurd rfl hx | rfl
theorem xE_normal {x : X} (h : xE x = .normal) : x = .normal := by cases x <;> first | rfl | cases h
theorem then_of {Q : Exit → Act → World → Prop} {next : Act → World → Prop} {e : Exit} {a : Act} {w : World} (hn : e ≠ .normal) (h : Q e a w) : Exit.then next Q e a w := by cases e <;> first | exact absurd rfl hn | exact h
theorem run_seq {G : Act → Prop} {c1 c2 : Code} {r1 r2 : Runner} (h1 : RunIf P lay N G c1 r1) (h2 : RunOk P lay N c2 r2) : RunIf P lay N G (.seq c1 c2) (andThen r1 r2) := fun call hc f h hf => by
  rcases h1 call hc f h hf with ⟨s, e1⟩ | ⟨x, f1, h', e1, hf1, hn1, hw1⟩
  · exact .inl ⟨s, by show thenK (r1 call f h) (r2 call) = _; rw [e1]; rfl⟩
  · by_cases hx : x = .normal
    · subst hx
      have e2 : andThen r1 r2 call f h = r2 call f1 h' := by show thenK (r1 call f h) (r2 call) = _; rw [e1]; rfl
      rcases h2 call hc f1 h' hf1 with ⟨s, e3⟩ | ⟨x, f2, h'', e3, hf2, hn2, hw2⟩
      · exact .inl ⟨s, e2.trans e3⟩
      · refine .inr ⟨x, f2, h'', e2.trans e3, hf2, Nat.le_trans hn1 hn2, fun μ a w hG hA hR hfr => ?_⟩
        refine wp_seq (wp_mono (hw1 μ a w hG hA hR (hfr.left hn2)) fun e a' w' ⟨he, μ', h3, h4, h5⟩ => ?_)
        subst he
        exact wp_mono (hw2 μ' a' w' trivial h5 h4 (hfr.right h3)) fun e a'' w'' hE => hE.trans h3
    · refine .inr ⟨x, f1, h', by show thenK (r1 call f h) (r2 call) = _; rw [e1]; exact thenK_other hx _ _ _, hf1, hn1, fun μ a w hG hA hR hfr => ?_⟩
      refine wp_seq (wp_mono (hw1 μ a w hG hA hR hfr) fun e a' w' hE => ?_)
      exact then_of (fun e' => hx (xE_normal (hE.1.symm.trans e'))) hE
theorem run_skip : RunOk P lay N .skip normR := fun call hc f h hf => .inr ⟨.normal, f, h, rfl, hf, Nat.le_refl _, fun μ a w _ hA hR _ => wp_skip ⟨rfl, μ, .refl _ _ _, hR, hA⟩⟩
theorem run_label (l : Nat) : RunOk P lay N (.label l) normR := fun call hc f h hf => .inr ⟨.normal, f, h, rfl, hf, Nat.le_refl _, fun μ a w _ hA hR _ => wp_label ⟨rfl, μ, .refl _ _ _, hR, hA⟩⟩
theorem run_exit (id : Nat) : RunOk P lay N (.exit id) (exitC (.exit id)) := fun call hc f h hf => .inr ⟨.exit id, f, h, rfl, hf, Nat.le_refl _, fun μ a w _ hA hR _ => wp_exit ⟨rfl, μ, .refl _ _ _, hR, hA⟩⟩
theorem run_goto (l : Nat) : RunOk P lay N (.goto l) (exitC (.goto l)) := fun call hc f h hf => .inr ⟨.goto l, f, h, rfl, hf, Nat.le_refl _, fun μ a w _ hA hR _ => wp_goto ⟨rfl, μ, .refl _ _ _, hR, hA⟩⟩
theorem run_ret : RunOk P lay N .ret (exitC .ret) := fun call hc f h hf => .inr ⟨.ret, f, h, rfl, hf, Nat.le_refl _, fun μ a w _ hA hR _ => wp_ret ⟨rfl, μ, .refl _ _ _, hR, hA⟩⟩
theorem run_block {G : Act → Prop} {id : Nat} {c : Code} {r : Runner} (h1 : RunIf P lay N G c r) : RunIf P lay N G (.block id c) (blockC id r) := fun call hc f h hf => by
  rcases h1 call hc f h hf with ⟨s, e1⟩ | ⟨x, f1, h', e1, hf1, hn1, hw1⟩
  · exact .inl ⟨s, by show blockK id (r call f h) = _; rw [e1]; rfl⟩
  · have e2 : blockC id r call f h = blockK id (.out x f1 h') := by show blockK id (r call f h) = _; rw [e1]
    have main : ∀ y, blockK id (.out x f1 h') = .out y f1 h' → (∀ e, e = xE x → ∀ Q : Exit → Act → World → Prop, ∀ a w, Q (xE y) a w → Exit.inBlock id Q e a w) → (∃ s, blockC id r call f h = .stuck s) ∨ ∃ x f' h', blockC id r call f h = .out x f' h' ∧ f'.length = lay.total ∧ h.nx ≤ h'.nx ∧ ∀ μ a w, G a → FRel μ lay N f a → Rel μ h w → Fresh μ h h' → (Code.block id c).wp P (Ends μ h w lay N x f' h') a w := fun y ey hy =>
      .inr ⟨y, f1, h', e2.trans ey, hf1, hn1, fun μ a w hG hA hR hfr => wp_block (wp_mono (hw1 μ a w hG hA hR hfr) fun e a' w' ⟨he, hx⟩ => hy e he _ _ _ ⟨rfl, hx⟩)⟩
    cases x with
    | normal => exact main .normal rfl fun e he Q a w h => by subst he; exact h
    | exit i =>
      by_cases hi : i = id
      · subst hi
        refine main .normal (by show ifB (Nat.beq i i) _ _ = _; rw [Nat.beq_refl]; rfl) fun e he Q a w h => by
          subst he; show Exit.inBlock i Q (.exit i) a w; simp only [Exit.inBlock, if_true]; exact h
      · have hb : Nat.beq i id = false := by rw [← Bool.not_eq_true]; exact fun e => hi (Nat.eq_of_beq_eq_true e)
        refine main (.exit i) (by show ifB (Nat.beq i id) _ _ = _; rw [hb]; rfl) fun e he Q a w h => by
          subst he; show Exit.inBlock id Q (.exit i) a w; simp only [Exit.inBlock, hi, if_false]; exact h
    | goto l => exact main (.goto l) rfl fun e he Q a w h => by subst he; exact h
    | ret => exact main .ret rfl fun e he Q a w h => by subst he; exact h
theorem run_loop {c : Code} {r : Runner} (h1 : RunOk P lay N c r) : RunOk P lay N (.loop c) (loopC r) := fun call hc => by
  have key : ∀ (n : Nat) (f : Fr) (h : H), f.length = lay.total → (∃ s, loopN n (r call) f h = .stuck s) ∨ ∃ x f' h', loopN n (r call) f h = .out x f' h' ∧ f'.length = lay.total ∧ h.nx ≤ h'.nx ∧
      ∀ μ a w, FRel μ lay N f a → Rel μ h w → Fresh μ h h' → Code.rounds P c (Ends μ h w lay N x f' h') n a w := by
    intro n
    induction n with
    | zero => intro f h hf; exact .inl ⟨_, rfl⟩
    | succ n ih =>
      intro f h hf
      have e0 : loopN (n + 1) (r call) f h = thenK (r call f h) (loopN n (r call)) := rfl
      rw [e0]
      rcases h1 call hc f h hf with ⟨s, e1⟩ | ⟨x, f1, h', e1, hf1, hn1, hw1⟩
      · exact .inl ⟨s, by rw [e1]; rfl⟩
      · rw [e1]
        by_cases hx : x = .normal
        · subst hx
          rw [thenK_normal]
          rcases ih f1 h' hf1 with ⟨s, e2⟩ | ⟨x, f2, h'', e2, hf2, hn2, hw2⟩
          · exact .inl ⟨s, e2⟩
          · refine .inr ⟨x, f2, h'', e2, hf2, Nat.le_trans hn1 hn2, fun μ a w hA hR hfr => ?_⟩
            rw [rounds_succ]
            refine wp_mono (hw1 μ a w trivial hA hR (hfr.left hn2)) fun e a' w' ⟨he, μ', h3, h4, h5⟩ => ?_
            subst he
            have := hw2 μ' a' w' h5 h4 (hfr.right h3)
            -- the same rounds, with what came ahead
            have mono : ∀ (m : Nat) (a : Act) (w2 : World), Code.rounds P c (Ends μ' h' w' lay N x f2 h'') m a w2 → Code.rounds P c (Ends μ h w lay N x f2 h'') m a w2 := by
              intro m
              induction m with
              | zero => intro a w2 h; exact h.elim
              | succ m ihm =>
                intro a w2 h
                rw [rounds_succ] at h ⊢
                refine wp_mono h fun e a3 w3 hE => ?_
                cases e with
                | normal => exact ihm a3 w3 hE
                | _ => exact Ends.trans h3 hE
            exact mono n a' w' this
        · rw [thenK_other hx]
          refine .inr ⟨x, f1, h', rfl, hf1, hn1, fun μ a w hA hR hfr => ?_⟩
          rw [rounds_succ]
          exact wp_mono (hw1 μ a w trivial hA hR hfr) fun e a' w' hE => then_of (fun e' => hx (xE_normal (hE.1.symm.trans e'))) hE
  intro f h hf
  rcases key bigFuel f h hf with h2 | ⟨x, f', h', h2, h3, h4, h5⟩
  · exact .inl h2
  · exact .inr ⟨x, f', h', h2, h3, h4, fun μ a w _ hA hR hfr => wp_loop_rounds bigFuel (h5 μ a w hA hR hfr)⟩
theorem hasLabel_eq : ∀ (c : Code) (l : Nat), hasLabel c l = (findLabel c l).isSome
  | .seq a b, l => by
    have ha := hasLabel_eq a l
    have hb := hasLabel_eq b l
    simp only [hasLabel, findLabel, ha, hb]
    cases findLabel a l <;> simp
  | .label l', l => by
    simp only [hasLabel, findLabel]
    cases l' == l <;> simp
  | .skip, _ => rfl
  | .region .., _ => rfl
  | .cond .., _ => rfl
  | .block .., _ => rfl
  | .loop _, _ => rfl
  | .rangeFunc .., _ => rfl
  | .exit _, _ => rfl
  | .scope _, _ => rfl
  | .goto _, _ => rfl
  | .ret, _ => rfl
  | .refuse _, _ => rfl
theorem run_scope {c : Code} {r : Runner} {frm : Nat → Runner} (h1 : RunOk P lay N c r) (hfrm : ∀ l rest, findLabel c l = some rest → RunOk P lay N rest (frm l)) : RunOk P lay N (.scope c) (scopeC (hasLabel c) r frm) := fun call hc => by
  have key : ∀ (n : Nat) (c' : Code) (r' : Runner), RunOk P lay N c' r' → ∀ (f : Fr) (h : H), f.length = lay.total → (∃ s, scopeN n (hasLabel c) (fun l => frm l call) (r' call f h) = .stuck s) ∨ ∃ x f' h', scopeN n (hasLabel c) (fun l => frm l call) (r' call f h) = .out x f' h' ∧ f'.length = lay.total ∧ h.nx ≤ h'.nx ∧
      ∀ μ a w, FRel μ lay N f a → Rel μ h w → Fresh μ h h' → Code.scopes P c (Ends μ h w lay N x f' h') n c' a w := by
    intro n
    induction n with
    | zero => intro c' r' _ f h hf; exact .inl ⟨_, rfl⟩
    | succ n ih =>
      intro c' r' hr' f h hf
      have e0 : scopeN (n + 1) (hasLabel c) (fun l => frm l call) (r' call f h) = gotoK (r' call f h) fun l f h => ifB (hasLabel c l) (scopeN n (hasLabel c) (fun l => frm l call) (frm l call f h)) (.out (.goto l) f h) := rfl
      rw [e0]
      rcases hr' call hc f h hf with ⟨s, e1⟩ | ⟨x, f1, h', e1, hf1, hn1, hw1⟩
      · exact .inl ⟨s, by rw [e1]; rfl⟩
      · rw [e1]
        have plain : ∀ y, y = x → (∀ l, x ≠ .goto l) → (∃ s, Out.out x f1 h' = .stuck s) ∨ ∃ x_1 f' h'_1, Out.out x f1 h' = .out x_1 f' h'_1 ∧ f'.length = lay.total ∧ h.nx ≤ h'_1.nx ∧
            ∀ μ a w, FRel μ lay N f a → Rel μ h w → Fresh μ h h'_1 → Code.scopes P c (Ends μ h w lay N x_1 f' h'_1) (n + 1) c' a w := fun y _ hng =>
          .inr ⟨x, f1, h', rfl, hf1, hn1, fun μ a w hA hR hfr => wp_mono (hw1 μ a w trivial hA hR hfr) fun e a' w' hE => by
            cases e with
            | goto l => exact absurd hE.1.symm (fun e' => by cases x <;> first | exact hng _ rfl | cases e')
            | _ => exact hE⟩
        cases x with
        | normal => exact plain _ rfl fun _ => X.noConfusion
        | exit i => exact plain _ rfl fun _ => X.noConfusion
        | ret => exact plain _ rfl fun _ => X.noConfusion
        | goto l =>
          have e2 : gotoK (.out (.goto l) f1 h') (fun l f h => ifB (hasLabel c l) (scopeN n (hasLabel c) (fun l => frm l call) (frm l call f h)) (.out (.goto l) f h)) = ifB (hasLabel c l) (scopeN n (hasLabel c) (fun l => frm l call) (frm l call f1 h')) (.out (.goto l) f1 h') := rfl
          rw [e2, hasLabel_eq]
          cases hfl : findLabel c l with
          | none =>
            refine .inr ⟨.goto l, f1, h', rfl, hf1, hn1, fun μ a w hA hR hfr => wp_mono (hw1 μ a w trivial hA hR hfr) fun e a' w' hE => ?_⟩
            have he := hE.1
            subst he
            show (match findLabel c l with | some rest => Code.scopes P c _ n rest a' w' | none => Ends μ h w lay N (.goto l) f1 h' (.goto l) a' w')
            rw [hfl]; exact hE
          | some rest =>
            have e3 : ifB (some rest).isSome (scopeN n (hasLabel c) (fun l => frm l call) (frm l call f1 h')) (.out (.goto l) f1 h') = scopeN n (hasLabel c) (fun l => frm l call) (frm l call f1 h') := rfl
            rw [e3]
            rcases ih rest (frm l) (hfrm l rest hfl) f1 h' hf1 with ⟨s, e4⟩ | ⟨x2, f2, h'', e4, hf2, hn2, hw2⟩
            · exact .inl ⟨s, e4⟩
            · refine .inr ⟨x2, f2, h'', e4, hf2, Nat.le_trans hn1 hn2, fun μ a w hA hR hfr => wp_mono (hw1 μ a w trivial hA hR (hfr.left hn2)) fun e a' w' ⟨he, μ', h3, h4, h5⟩ => ?_⟩
              subst he
              show (match findLabel c l with | some rest => Code.scopes P c _ n rest a' w' | none => _)
              rw [hfl]
              have := hw2 μ' a' w' h5 h4 (hfr.right h3)
              have mono : ∀ (m : Nat) (cc : Code) (a : Act) (w2 : World), Code.scopes P c (Ends μ' h' w' lay N x2 f2 h'') m cc a w2 → Code.scopes P c (Ends μ h w lay N x2 f2 h'') m cc a w2 := by
                intro m
                induction m with
                | zero => intro cc a w2 h; exact h.elim
                | succ m ihm =>
                  intro cc a w2 h
                  refine wp_mono h fun e a3 w3 hE => ?_
                  cases e with
                  | goto l2 =>
                    dsimp only at hE ⊢
                    cases hf2 : findLabel c l2 with
                    | none => rw [hf2] at hE; exact Ends.trans h3 hE
                    | some rest2 => rw [hf2] at hE; exact ihm rest2 a3 w3 hE
                  | _ => exact Ends.trans h3 hE
              exact mono n rest a' w' this
  intro f h hf
  rcases key bigFuel c r h1 f h hf with h2 | ⟨x, f', h', h2, h3, h4, h5⟩
  · exact .inl h2
  · exact .inr ⟨x, f', h', h2, h3, h4, fun μ a w _ hA hR hfr => wp_scope_rounds bigFuel (h5 μ a w hA hR hfr)⟩
end code
end
end
end Go.Kx
namespace Go.Kx
noncomputable section
variable [Sig]
section
variable {P : Program}

/- ## a region, and what comes behind it -/
/-- what is asked of a text: its temporaries are in range; what it draws is as 'RdOk' says -/
def CodeOk (N : Nat) : Code → Prop
  | .region _ ops draw => (∀ (k : Nat) (o : Oper), ops[k]? = some o → ∀ t, o.dst = some t → t < N) ∧ (draw = true → RdOk ops)
  | .seq a b => CodeOk N a ∧ CodeOk N b
  | .cond _ a b => CodeOk N a ∧ CodeOk N b
  | .block _ b => CodeOk N b
  | .loop b => CodeOk N b
  | .scope b => CodeOk N b
  | _ => True
section code
variable {lay : Lay} {N : Nat} (hmix : P.follows .mixedOrders = true) (hl : LayOk lay)
include hmix hl
theorem run_region {id : Nat} {ops : Array Oper} {draw : Bool} (hc : CodeOk N (.region id ops draw)) {r : RC2} (hreg : regOf P lay ops = some r) {c2 : Code} {r2 : Runner} (h2 : RunOk P lay N c2 r2) : RunOk P lay N (.seq (.region id ops draw) c2) (regR P ops draw r.ops r.d (finC r.com r2)) := fun call hcall f h hf => by
  obtain ⟨_, hcom⟩ := regOf_inv hreg
  rcases region_ok hmix hc.2 hc.1 hreg hcall (finC r.com r2) f h with h1 | ⟨e, h', he, h1, hnx, hw⟩
  · exact .inl h1
  · have e1 : finC r.com r2 call e f h' = r2 call (commitF r.com e f f) h' := rfl
    have hcl : (commitF r.com e f f).length = lay.total := by
      obtain ⟨h1, _, _⟩ := commits_ok (f := f) he lay.ents r.com hcom hl.nodup f fun x hx => by rw [hf]; exact hl.lt x hx
      exact h1.trans hf
    rcases h2 call hcall (commitF r.com e f f) h' hcl with ⟨s, h3⟩ | ⟨x, f2, h'', h3, hf2, hn2, hw2⟩
    · exact .inl ⟨s, h1.trans (e1.trans h3)⟩
    · refine .inr ⟨x, f2, h'', h1.trans (e1.trans h3), hf2, Nat.le_trans hnx hn2, fun μ a w _ hA hR hfr => ?_⟩
      refine wp_seq (hw μ a w _ id hA hR (hfr.left hn2) fun a' w' μ' h4 h5 h6 => ?_)
      obtain ⟨_, h7⟩ := commit_rel hl hcom he hf h6
      exact wp_mono (hw2 μ' a' w' trivial h7 h5 (hfr.right h4)) fun e a'' w'' hE => hE.trans h4
theorem run_region1 {id : Nat} {ops : Array Oper} {draw : Bool} (hc : CodeOk N (.region id ops draw)) {r : RC2} (hreg : regOf P lay ops = some r) : RunOk P lay N (.region id ops draw) (regR P ops draw r.ops r.d (finC r.com normR)) := fun call hcall f h hf => by
  obtain ⟨_, hcom⟩ := regOf_inv hreg
  rcases region_ok hmix hc.2 hc.1 hreg hcall (finC r.com normR) f h with h1 | ⟨e, h', he, h1, hnx, hw⟩
  · exact .inl h1
  · have hcl : (commitF r.com e f f).length = lay.total := by
      obtain ⟨h1, _, _⟩ := commits_ok (f := f) he lay.ents r.com hcom hl.nodup f fun x hx => by rw [hf]; exact hl.lt x hx
      exact h1.trans hf
    refine .inr ⟨.normal, _, h', h1, hcl, hnx, fun μ a w _ hA hR hfr => ?_⟩
    refine hw μ a w _ id hA hR hfr fun a' w' μ' h4 h5 h6 => ?_
    exact ⟨rfl, μ', h4, h5, (commit_rel hl hcom he hf h6).2⟩
/-- a region, and a test of what it has reckoned -/
theorem run_test {id : Nat} {ops : Array Oper} {draw : Bool} (hc : CodeOk N (.region id ops draw)) {r : RC2} (hreg : regOf P lay ops = some r) {c2 : Code} {x : Operand} {A B : Runner} {y : AO} {g : Gt} (hx : resolve r.names lay x = some (.val y)) (hg : ∀ e f, e.length = r.d → g e f = aoV e f y)
    (h2 : ∀ t : Bool, RunIf P lay N (fun a => a.eval x = .bool t) c2 (if t then A else B)) : RunOk P lay N (.seq (.region id ops draw) c2) (regR P ops draw r.ops r.d (testK r.com g A B)) := fun call hcall f h hf => by
  obtain ⟨_, hcom⟩ := regOf_inv hreg
  rcases region_ok hmix hc.2 hc.1 hreg hcall (testK r.com g A B) f h with h1 | ⟨e, h', he, h1, hnx, hw⟩
  · exact .inl h1
  · have hcl : (commitF r.com e f f).length = lay.total := by
      obtain ⟨h1, _, _⟩ := commits_ok (f := f) he lay.ents r.com hcom hl.nodup f fun x hx => by rw [hf]; exact hl.lt x hx
      exact h1.trans hf
    have main : ∀ t : Bool, g e f = (bif t then .tt else .ff) → (∃ s, regR P ops draw r.ops r.d (testK r.com g A B) call f h = .stuck s) ∨ ∃ x f' h', regR P ops draw r.ops r.d (testK r.com g A B) call f h = .out x f' h' ∧ f'.length = lay.total ∧ h.nx ≤ h'.nx ∧ ∀ μ a w, True → FRel μ lay N f a → Rel μ h w → Fresh μ h h' → (Code.seq (.region id ops draw) c2).wp P (Ends μ h w lay N x f' h') a w := fun t ht => by
      have e1 : testK r.com g A B call e f h' = (if t then A else B) call (commitF r.com e f f) h' := by
        show onB (g e f) (A call (commitF r.com e f f) h') (B call (commitF r.com e f f) h') (.stuck "test") = _
        rw [ht]; cases t <;> rfl
      rcases h2 t call hcall (commitF r.com e f f) h' hcl with ⟨s, h3⟩ | ⟨z, f2, h'', h3, hf2, hn2, hw2⟩
      · exact .inl ⟨s, h1.trans (e1.trans h3)⟩
      · refine .inr ⟨z, f2, h'', h1.trans (e1.trans h3), hf2, Nat.le_trans hnx hn2, fun μ a w _ hA hR hfr => ?_⟩
        refine wp_seq (hw μ a w _ id hA hR (hfr.left hn2) fun a' w' μ' h4 h5 h6 => ?_)
        obtain ⟨_, h7⟩ := commit_rel hl hcom he hf h6
        have hv : a'.eval x = .bool t := by
          have := h6.orel x _ hx
          generalize a'.eval x = v at this
          cases this with
          | val hv =>
            rw [← hg e f he, ht] at hv
            cases t <;> (cases hv; rfl)
        exact wp_mono (hw2 μ' a' w' hv h7 h5 (hfr.right h4)) fun e a'' w'' hE => hE.trans h4
    cases hgv : g e f <;> first
      | exact main true hgv
      | exact main false hgv
      | exact .inl ⟨ "test", h1.trans (by show onB (g e f) _ _ _ = _; rw [hgv]; rfl)⟩
omit hmix hl in
theorem run_cond {x : Operand} {c1 c2 : Code} {r1 r2 : Runner} {y : AO} {g : Gt} (hx : resolve [] lay x = some (.val y)) (hg : ∀ e f, e.length = 0 → g e f = aoV e f y) (h1 : RunOk P lay N c1 r1) (h2 : RunOk P lay N c2 r2) : RunOk P lay N (.cond x c1 c2) (testC g r1 r2) := fun call hcall f h hf => by
  have main : ∀ t : Bool, g [] f = (bif t then .tt else .ff) → (∃ s, testC g r1 r2 call f h = .stuck s) ∨ ∃ x' f' h', testC g r1 r2 call f h = .out x' f' h' ∧ f'.length = lay.total ∧ h.nx ≤ h'.nx ∧ ∀ μ a w, True → FRel μ lay N f a → Rel μ h w → Fresh μ h h' → (Code.cond x c1 c2).wp P (Ends μ h w lay N x' f' h') a w := fun t ht => by
    have e1 : testC g r1 r2 call f h = (if t then r1 else r2) call f h := by
      show onB (g [] f) (r1 call f h) (r2 call f h) (.stuck "test") = _
      rw [ht]; cases t <;> rfl
    have h3 : RunOk P lay N (if t then c1 else c2) (if t then r1 else r2) := by cases t <;> assumption
    rcases h3 call hcall f h hf with ⟨s, h4⟩ | ⟨z, f2, h'', h4, hf2, hn2, hw2⟩
    · exact .inl ⟨s, e1.trans h4⟩
    · refine .inr ⟨z, f2, h'', e1.trans h4, hf2, hn2, fun μ a w _ hA hR hfr => ?_⟩
      have hv : a.eval x = .bool t := by
        have := (ARel.env (e := []) hA).orel x _ hx
        generalize a.eval x = v at this
        cases this with
        | val hv =>
          rw [← hg [] f rfl, ht] at hv
          cases t <;> (cases hv; rfl)
      exact wp_cond hv (hw2 μ a w trivial hA hR hfr)
  cases hgv : g [] f <;> first
    | exact main true hgv
    | exact main false hgv
    | exact .inl ⟨ "test", by show onB (g [] f) _ _ _ = _; rw [hgv]; rfl⟩
omit hmix hl in
theorem both_stuck (c : Code) (s : String) : BothOk P lay N c ⟨stuckR s, noFrm, none⟩ := ⟨run_stuck _ _ _, fun l rest _ => run_noFrm _ _ l, fun x A B h => by cases h⟩
omit hmix hl in
theorem both_plain {c : Code} {r : Runner} (h : RunOk P lay N c r) : BothOk P lay N c ⟨r, noFrm, none⟩ := ⟨h, fun l rest _ => run_noFrm _ _ l, fun x A B h => by cases h⟩
theorem both_seq {a b : Code} (ha : CodeOk N a) {ia ib : Both} (h1 : BothOk P lay N a ia) (h2 : BothOk P lay N b ib) : BothOk P lay N (.seq a b) (seqB P lay a ia ib) := by
  have gen : BothOk P lay N (.seq a b) ⟨andThen ia.run ib.run, (fun l => @Bool.rec (fun _ => Runner) (ib.frm l) (andThen (ia.frm l) ib.run) (hasLabel a l)), cndThen ia.cnd ib.run⟩ := by
    refine ⟨run_seq h1.run h2.run, fun l rest hr => ?_, fun x A B hc t => ?_⟩
    · dsimp only
      simp only [findLabel] at hr
      rw [hasLabel_eq]
      cases hf : findLabel a l with
      | none => rw [hf] at hr; exact h2.frm l rest hr
      | some rest' =>
        rw [hf] at hr
        injection hr with hr; subst hr
        exact run_seq (h1.frm l rest' hf) h2.run
    · cases hcn : ia.cnd with
      | none => rw [hcn] at hc; cases hc
      | some xab =>
        obtain ⟨x', A', B'⟩ := xab
        rw [hcn] at hc
        have hc : some (x', andThen A' ib.run, andThen B' ib.run) = some (x, A, B) := hc
        injection hc with hc
        injection hc with e1 hc
        injection hc with e2 e3
        subst e1 e2 e3
        have := run_seq (h1.cnd x' A' B' hcn t) h2.run
        cases t <;> exact this
  cases a with
  | region id ops draw =>
    have hfl : ∀ l, findLabel (.seq (.region id ops draw) b) l = findLabel b l := fun l => rfl
    show BothOk P lay N _ (match regOf P lay ops with
      | some ⟨l, com, nm, d⟩ => (match ib.cnd with
        | some (x, A, B) => sc nm lay d x ⟨stuckR "test", noFrm, none⟩ fun g => ⟨regR P ops draw l d (testK com g A B), ib.frm, none⟩
        | none => ⟨regR P ops draw l d (finC com ib.run), ib.frm, none⟩)
      | none => ⟨stuckR "region", ib.frm, none⟩)
    cases hreg : regOf P lay ops with
    | none => exact ⟨run_stuck _ _ _, fun l rest hr => h2.frm l rest (by rw [← hfl l]; exact hr), fun x A B h => by cases h⟩
    | some r =>
      obtain ⟨l, com, nm, d⟩ := r
      dsimp only
      cases hcn : ib.cnd with
      | none => exact ⟨run_region hmix hl ha hreg h2.run, fun l rest hr => h2.frm l rest (by rw [← hfl l]; exact hr), fun x A B h => by cases h⟩
      | some xab =>
        obtain ⟨x, A, B⟩ := xab
        dsimp only
        rcases sc_eq (nm := nm) (lay := lay) (d := d) x ⟨stuckR "test", noFrm, none⟩ (fun g => (⟨regR P ops draw l d (testK com g A B), ib.frm, none⟩ : Both)) with e | ⟨y, g, hx, e, hg⟩
        · rw [e]; exact both_stuck _ _
        · rw [e]
          exact ⟨run_test hmix hl ha hreg hx hg (h2.cnd x A B hcn), fun l rest hr => h2.frm l rest (by rw [← hfl l]; exact hr), fun x A B h => by cases h⟩
  | _ => exact gen
theorem sem_ok : ∀ (c : Code), CodeOk N c → BothOk P lay N c (sem P lay c) := by
  intro c
  induction c with
  | skip => exact fun _ => both_plain run_skip
  | region id ops draw =>
    intro hc
    show BothOk P lay N _ (match regOf P lay ops with | some ⟨l, com, _, d⟩ => ⟨regR P ops draw l d (finC com normR), noFrm, none⟩ | none => ⟨stuckR "region", noFrm, none⟩)
    cases hreg : regOf P lay ops with
    | none => exact both_stuck _ _
    | some r => obtain ⟨l, com, nm, d⟩ := r; exact both_plain (run_region1 hmix hl hc hreg)
  | seq a b iha ihb => exact fun hc => both_seq hmix hl hc.1 (iha hc.1) (ihb hc.2)
  | cond x a b iha ihb =>
    intro hc
    have ia := iha hc.1
    have ib := ihb hc.2
    have hcnd : ∀ x' A B, some (x, (sem P lay a).run, (sem P lay b).run) = some (x', A, B) → ∀ t : Bool, RunIf P lay N (fun a => a.eval x' = .bool t) (.cond x a b) (if t then A else B) := fun x' A B he t => by
      injection he with he
      injection he with e1 he
      injection he with e2 e3
      subst e1 e2 e3
      intro call hcall f h hf
      have h3 : RunOk P lay N (if t then a else b) (if t then (sem P lay a).run else (sem P lay b).run) := by
        cases t
        · exact ib.run
        · exact ia.run
      rcases h3 call hcall f h hf with h4 | ⟨z, f2, h'', h4, hf2, hn2, hw2⟩
      · exact .inl h4
      · exact .inr ⟨z, f2, h'', h4, hf2, hn2, fun μ a w hv hA hR hfr => wp_cond hv (hw2 μ a w trivial hA hR hfr)⟩
    show BothOk P lay N _ (sc [] lay 0 x ⟨stuckR "cond", noFrm, some (x, (sem P lay a).run, (sem P lay b).run)⟩ fun g => ⟨testC g (sem P lay a).run (sem P lay b).run, noFrm, some (x, (sem P lay a).run, (sem P lay b).run)⟩)
    rcases sc_eq (nm := []) (lay := lay) (d := 0) x ⟨stuckR "cond", noFrm, some (x, (sem P lay a).run, (sem P lay b).run)⟩ (fun g => (⟨testC g (sem P lay a).run (sem P lay b).run, noFrm, some (x, (sem P lay a).run, (sem P lay b).run)⟩ : Both)) with e | ⟨y, g, hx, e, hg⟩
    · rw [e]; exact ⟨run_stuck _ _ _, fun l rest hr => run_noFrm _ _ l, hcnd⟩
    · rw [e]; exact ⟨run_cond hx hg ia.run ib.run, fun l rest hr => run_noFrm _ _ l, hcnd⟩
  | block id b ib => exact fun hc => both_plain (run_block (ib hc).run)
  | loop b ib => exact fun hc => both_plain (run_loop (ib hc).run)
  | rangeFunc _ _ _ _ _ _ => exact fun _ => both_stuck _ _
  | exit id => exact fun _ => both_plain (run_exit id)
  | scope b ib => exact fun hc => both_plain (run_scope (ib hc).run (ib hc).frm)
  | label l =>
    intro _
    refine ⟨run_label l, fun l' rest hr => ?_, fun x A B h => by cases h⟩
    simp only [findLabel] at hr
    split at hr
    · injection hr with hr; subst hr; exact run_skip
    · cases hr
  | goto l => exact fun _ => both_plain (run_goto l)
  | ret => exact fun _ => both_plain run_ret
  | refuse _ => exact fun _ => both_stuck _ _
end code
end
end
end Go.Kx
namespace Go.Kx
noncomputable section
variable [Sig]
section
variable {P : Program}

/- ## functions -/
structure FunOk (lay : Lay) (fn : Func) (c : Code) : Prop where
  layok : LayOk lay
  code : CodeOk fn.ntmps c
  np : fn.params.size + fn.nfree ≤ fn.ntmps
  np2 : fn.params.size + fn.nfree ≤ lay.total
  ent : ∀ t p, (t, p) ∈ lay.ents → t = p ∨ (fn.params.size + fn.nfree ≤ t ∧ fn.params.size + fn.nfree ≤ p)
  name : fn.name ≠ "runtime.NumGoroutine"
theorem frame0_eq (total : Nat) (as : List V) (h : as.length ≤ total) : frame0 total as = as ++ List.replicate (total - as.length) V.junk := by
  unfold frame0
  rw [app_eq, repV_eq, len_eq]
  congr 1
  show (List.replicate (total - as.length) [V.junk]).flatten = _
  induction total - as.length with
  | zero => rfl
  | succ n ih => rw [List.replicate_succ, List.flatten_cons, ih, List.replicate_succ]; rfl
theorem frame0_nth (total : Nat) (as : List V) (h : as.length ≤ total) (p : Nat) : nthV (frame0 total as) p = if p < as.length then nthV as p else .junk := by
  rw [frame0_eq total as h, nthV_eq]
  split
  · next hp => rw [List.getElem?_append_left hp, nthV_eq]
  · next hp =>
    rw [List.getElem?_append_right (by omega), List.getElem?_replicate]
    split <;> rfl
theorem enter_rel {lay : Lay} {fn : Func} {c : Code} (hF : FunOk lay fn c) {as : List V} {vs : List Value} (hn : as.length = fn.params.size + fn.nfree) {μ : Mu} (hv : VsRel μ as vs) :
    (frame0 lay.total as).length = lay.total ∧ FRel μ lay fn.ntmps (frame0 lay.total as) { tmps := vs.toArray ++ Array.replicate (fn.ntmps - vs.toArray.size) undef, defers := [] } := by
  have h1 := hF.np
  have h2 := hF.np2
  have hl := hv.length
  refine ⟨?_, ?_, rfl, fun t m ht => (nomatch (show (none : Option Nm) = some m from ht)), fun t p _ hp => ?_⟩
  · rw [frame0_eq _ _ (by omega)]; simp; omega
  · simp; omega
  · rw [frame0_nth _ _ (by omega)]
    have hm := lk_mem _ _ _ hp
    rcases hF.ent t p hm with rfl | ⟨h3, h4⟩
    · split
      · next hlt =>
        obtain ⟨b, hb, hr⟩ := hv.get (List.getElem?_eq_getElem hlt)
        have e1 : nthV as t = as[t] := by rw [nthV_eq, List.getElem?_eq_getElem hlt]; rfl
        have e2 : (vs.toArray ++ Array.replicate (fn.ntmps - vs.toArray.size) undef).getD t undef = b := by
          rw [Array.getD_eq_getD_getElem?, Array.getElem?_append_left (by simp; omega)]
          simp [hb]
        show VRel μ (nthV as t) _
        rw [e1, e2]; exact hr
      · exact .junk _
    · rw [if_neg (by omega)]; exact .junk _

/- ## results -/
def resSem (tmps : Array Value) (r : ResultVar) : Sem Value := match r with
  | .tmp t => pure (tmps.getD t undef)
  | .cell a t => do loadVar t (← asAddr (tmps.getD a undef))
theorem resultsOf_cons (r : ResR) (l : List ResR) (f : Fr) (h : H) (kk : KL) (st : Out) : resultsOf (r :: l) f h kk st = r f h (fun v => resultsOf l f h (fun l => kk (v :: l)) st) st := rfl
theorem load_var {t : TypeId} {v : Value} {w w' : World} {r : Value} (h : (Instr.loadAt t v).run P w = .ok r w') : (do loadVar t (← asAddr v) : Sem Value).run P w = .ok r w' := by
  cases v <;> first
    | (simp [Instr.loadAt, Instr.sureAddr, asAddr] at h ⊢; exact h)
    | (simp [Instr.loadAt, Instr.sureAddr] at h; done)
    | (rename_i p; cases p <;> (simp [Instr.loadAt, Instr.sureAddr, asAddr] at h ⊢) <;> exact h)
theorem result_ok {lay : Lay} {N : Nat} (r : ResultVar) (f : Fr) (h : H) (kk : KV) (st : Out) : Ok (resultOf P lay r f h kk st) st fun o => ∃ v, o = kk v ∧ ∀ μ w a, FRel μ lay N f a → Rel μ h w → ∃ v', (resSem a.tmps r).run P w = .ok v' w ∧ VRel μ v v' := by
  cases r with
  | tmp t =>
    unfold resultOf
    dsimp only
    cases hp : lk lay.ents t with
    | none => exact .inl rfl
    | some p => exact .inr ⟨_, rfl, fun μ w a hA _ => ⟨_, by simp [resSem], hA.slot t p rfl hp⟩⟩
  | cell a0 t =>
    unfold resultOf
    dsimp only
    cases hp : lk lay.ents a0 with
    | none => exact .inl rfl
    | some p =>
      dsimp only
      cases ht : okT P t with
      | false => exact .inl rfl
      | true =>
        cases ha : aggT P t with
        | true =>
          refine (loadH_ok t ht ha (nthV f p) h kk st).mono fun o ⟨v, h1, h2⟩ => ⟨v, h1, fun μ w a hA hR => ?_⟩
          obtain ⟨v', h3, h4⟩ := h2 μ w _ hR (hA.slot a0 p rfl hp)
          exact ⟨v', load_var h3, h4⟩
        | false =>
          refine (load1_ok t ht ha (nthV f p) h kk st).mono fun o ⟨v, h1, h2⟩ => ⟨v, h1, fun μ w a hA hR => ?_⟩
          obtain ⟨v', h3, h4⟩ := h2 μ w _ hR (hA.slot a0 p rfl hp)
          exact ⟨v', load_var h3, h4⟩
theorem results_ok {lay : Lay} {N : Nat} : ∀ (rs : List ResultVar) (f : Fr) (h : H) (kk : KL) (st : Out), Ok (resultsOf (mapL (resultOf P lay) rs) f h kk st) st fun o => ∃ l, o = kk l ∧ l.length = rs.length ∧ ∀ μ w a, FRel μ lay N f a → Rel μ h w → ∃ vs : List Value, (rs.mapM (resSem a.tmps)).run P w = .ok vs w ∧ VsRel μ l vs
  | [], f, h, kk, st => .inr ⟨[], rfl, rfl, fun μ w a _ _ => ⟨[], by simp, .nil⟩⟩
  | r :: rs, f, h, kk, st => by
    have e : mapL (resultOf P lay) (r :: rs) = resultOf P lay r :: mapL (resultOf P lay) rs := rfl
    rw [e, resultsOf_cons]
    refine (result_ok (N := N) r f h _ st).bind fun o ⟨v, h1, h2⟩ => Ok.cast h1 ((results_ok (N := N) rs f h _ st).mono fun o' ⟨l, h3, h4, h5⟩ => ⟨v :: l, h3, by simp [h4], fun μ w a hA hR => ?_⟩)
    obtain ⟨v', h6, h7⟩ := h2 μ w a hA hR
    obtain ⟨vs, h8, h9⟩ := h5 μ w a hA hR
    exact ⟨v' :: vs, by simp [List.mapM_cons, h6, h8], .cons h7 h9⟩
theorem run_results {fn : Func} {tmps : Array Value} {w : World} {vs : List Value} (h : (fn.results.toList.mapM (resSem tmps)).run P w = .ok vs w) : (results fn tmps).run P w = .ok (if h : vs.length = 1 then vs[0] else .tuple vs.toArray) w := by
  have e : results fn tmps = (do let vs ← fn.results.mapM (resSem tmps); pure (if h : vs.size = 1 then vs[0] else .tuple vs)) := rfl
  rw [e, Array.mapM_eq_mapM_toList]
  simp [h]
theorem res_rel {μ : Mu} {l : List V} {vs : List Value} (h : VsRel μ l vs) : ResRel μ l (if h : vs.length = 1 then vs[0] else .tuple vs.toArray) := by
  cases h with
  | nil => exact ⟨#[], rfl, .nil⟩
  | cons h t =>
    cases t with
    | nil => exact h
    | cons h2 t => exact ⟨_, rfl, by simpa using VsRel.cons h (VsRel.cons h2 t)⟩

/- ## calls -/
variable {lays : FuncId → Lay} {prims : FuncId → Option CallT}
structure ProgOk (P : Program) (lays : FuncId → Lay) : Prop where
  mix : P.follows .mixedOrders = true
  fn : ∀ (g : FuncId) (fn : Func) (c : Code), P.funcs[g]? = some fn → fn.body = some c → FunOk (lays g) fn c
def PrimsOk (P : Program) (prims : FuncId → Option CallT) : Prop := ∀ g p, prims g = some p → ∀ as h k, (∃ s, p g as h k = .stuck s) ∨ ∃ l h', p g as h k = k l h' ∧ CallFact P g as h l h'
theorem endK_out {x : X} {f : Fr} {h : H} {k : Fr → H → Out} : (∃ s, endK (.out x f h) k = .stuck s) ∨ (endK (.out x f h) k = k f h ∧ (x = .normal ∨ x = .ret)) := by
  cases x
  · exact .inr ⟨rfl, .inl rfl⟩
  · exact .inl ⟨_, rfl⟩
  · exact .inl ⟨_, rfl⟩
  · exact .inr ⟨rfl, .inr rfl⟩
theorem fn_fact (hP : ProgOk P lays) {call : CallT} (hcall : CallOk P call) {g : FuncId} {fn : Func} {c : Code} (hf : P.funcs[g]? = some fn) (hb : fn.body = some c) (as : List V) (h : H) (k : KH) (hn : as.length = fn.params.size + fn.nfree) :
    (∃ s, endK ((sem P (lays g) c).run call (frame0 (lays g).total as) h) (fun f h => resultsOf (mapL (resultOf P (lays g)) fn.results.toList) f h (fun l => k l h) (.stuck "results")) = .stuck s) ∨
    ∃ l h', endK ((sem P (lays g) c).run call (frame0 (lays g).total as) h) (fun f h => resultsOf (mapL (resultOf P (lays g)) fn.results.toList) f h (fun l => k l h) (.stuck "results")) = k l h' ∧ CallFact P g as h l h' := by
  have hF := hP.fn g fn c hf hb
  have hsem := (sem_ok hP.mix hF.layok c hF.code).run
  have hlen : (frame0 (lays g).total as).length = (lays g).total := by
    have := hF.np2
    rw [frame0_eq _ _ (by omega)]; simp; omega
  rcases hsem call hcall _ h hlen with ⟨s, h1⟩ | ⟨x, f', h', h1, hf', hnx, hw⟩
  · exact .inl ⟨s, by rw [h1]; rfl⟩
  · rw [h1]
    rcases endK_out (x := x) (f := f') (h := h') (k := fun f h => resultsOf (mapL (resultOf P (lays g)) fn.results.toList) f h (fun l => k l h) (.stuck "results")) with ⟨s, h2⟩ | ⟨h2, hx⟩
    · exact .inl ⟨s, h2⟩
    · rw [h2]
      rcases results_ok (P := P) (lay := lays g) (N := fn.ntmps) fn.results.toList f' h' (fun l => k l h') (.stuck "results") with h3 | ⟨l, h3, h4, h5⟩
      · exact .inl ⟨_, h3⟩
      · refine .inr ⟨l, h', h3, ⟨fn, hf, by rw [hb]; rfl, hF.name, by simpa using h4⟩, fun _ μ w vs hR hfr hv => ?_⟩
        obtain ⟨_, hA⟩ := enter_rel hF hn hv
        refine calls_of_wp hf hb (wp_mono (hw μ _ w trivial hA hR hfr) fun e a' w' ⟨he, μ', h6, h7, h8⟩ => ?_)
        obtain ⟨vs', h9, h10⟩ := h5 μ' w' a' h8 h7
        have hend : a'.defers = [] ∧ ∃ v, (results fn a'.tmps).run P w' = .ok v w' ∧ ∃ v1, Ending.returned v = .returned v1 ∧ ∃ μ', Step μ h w μ' h' w' ∧ Rel μ' h' w' ∧ ResRel μ' l v1 :=
          ⟨h8.defers, _, run_results h9, _, rfl, μ', h6, h7, res_rel h10⟩
        rcases hx with rfl | rfl <;> (subst he; exact hend)
theorem fnOf_cases (g : FuncId) : fnOf P lays prims g = none ∨ (∃ p, prims g = some p ∧ fnOf P lays prims g = some (.prim p)) ∨ ∃ (fn : Func) (c : Code), P.funcs[g]? = some fn ∧ fn.body = some c ∧ fnOf P lays prims g = some (.fn (Nat.add fn.params.size fn.nfree) (lays g).total (sem P (lays g) c).run (resultsOf (mapL (resultOf P (lays g)) fn.results.toList))) := by
  unfold fnOf
  cases hp : prims g with
  | some p => exact .inr (.inl ⟨p, rfl, rfl⟩)
  | none =>
    dsimp only
    cases hf : P.funcs[g]? with
    | none => exact .inl rfl
    | some fn =>
      dsimp only
      cases hb : fn.body with
      | none => exact .inl rfl
      | some c => exact .inr (.inr ⟨fn, c, rfl, hb, rfl⟩)
theorem callR_ok (hP : ProgOk P lays) (hPr : PrimsOk P prims) {call : CallT} (hcall : CallOk P call) : CallOk P (callR P lays prims call) := fun g as h k => by
  unfold callR
  rcases fnOf_cases (P := P) (lays := lays) (prims := prims) g with e | ⟨p, hp, e⟩ | ⟨fn, c, hf, hb, e⟩
  · rw [e]; exact .inl ⟨_, rfl⟩
  · rw [e]; exact hPr g p hp as h k
  · rw [e]
    have e1 : optFn (some (FnC.fn (Nat.add fn.params.size fn.nfree) (lays g).total (sem P (lays g) c).run (resultsOf (mapL (resultOf P (lays g)) fn.results.toList)))) (fun x => fnK x call g as h k) (.stuck "no function") =
      ifB (Nat.beq (len as) (Nat.add fn.params.size fn.nfree)) (endK ((sem P (lays g) c).run call (frame0 (lays g).total as) h) fun f h => resultsOf (mapL (resultOf P (lays g)) fn.results.toList) f h (fun l => k l h) (.stuck "results")) (.stuck "args") := rfl
    rw [e1]
    cases hn : Nat.beq (len as) (Nat.add fn.params.size fn.nfree) with
    | false => exact .inl ⟨_, rfl⟩
    | true =>
      have hn := beq_true hn
      rw [len_eq] at hn
      exact fn_fact hP hcall hf hb as h k hn
theorem callN_ok (hP : ProgOk P lays) (hPr : PrimsOk P prims) : ∀ n, CallOk P (callN P lays prims n)
  | 0 => fun _ _ _ _ => .inl ⟨_, rfl⟩
  | n + 1 => callR_ok hP hPr (callN_ok hP hPr n)
/-- WHAT THE EVALUATOR SAYS IS SO -/
theorem run0_ok (hP : ProgOk P lays) (hPr : PrimsOk P prims) {n : Nat} {g : FuncId} {as : List V} {h h' : H} {l : List V} (hrun : run0 P lays prims n g as h = .res l h') : CallFact P g as h l h' := by
  rcases callN_ok hP hPr n g as h (fun l h => .res l h) with ⟨s, e⟩ | ⟨l', h'', e, hf⟩
  · have : Out.res l h' = .stuck s := hrun.symm.trans e
    cases this
  · have : Out.res l h' = .res l' h'' := hrun.symm.trans e
    injection this with e1 e2
    subst e1 e2
    exact hf
end
end
end Go.Kx
namespace Go.Kx
noncomputable section
variable [Sig]
section
variable {P : Program}

/- ## what is asked of a program, as a check -/
def dstsFrom : List Oper → Nat → List (Nat × Nat)
  | [], _ => []
  | o :: l, i => match o.dst with | some t => (t, i) :: dstsFrom l (i + 1) | none => dstsFrom l (i + 1)
theorem dstsFrom_mem : ∀ (l : List Oper) (i t j : Nat), (t, j) ∈ dstsFrom l i ↔ ∃ k o, l[k]? = some o ∧ o.dst = some t ∧ j = i + k
  | [], i, t, j => by
    constructor
    · intro h; cases h
    · rintro ⟨k, o, h, _⟩; simp at h
  | o :: l, i, t, j => by
    have ih := dstsFrom_mem l (i + 1) t j
    have tail : (t, j) ∈ dstsFrom l (i + 1) ↔ ∃ k o', (o :: l)[k + 1]? = some o' ∧ o'.dst = some t ∧ j = i + (k + 1) := by
      rw [ih]
      constructor
      · rintro ⟨k, o', h1, h2, h3⟩; exact ⟨k, o', by simpa using h1, h2, by omega⟩
      · rintro ⟨k, o', h1, h2, h3⟩; exact ⟨k, o', by simpa using h1, h2, by omega⟩
    unfold dstsFrom
    cases hd : o.dst with
    | none =>
      dsimp only
      rw [tail]
      constructor
      · rintro ⟨k, o', h⟩; exact ⟨k + 1, o', h⟩
      · rintro ⟨k, o', h1, h2, h3⟩
        cases k with
        | zero => simp only [List.getElem?_cons_zero, Option.some.injEq] at h1; subst h1; rw [hd] at h2; cases h2
        | succ k => exact ⟨k, o', h1, h2, h3⟩
    | some u =>
      dsimp only
      rw [List.mem_cons, tail]
      constructor
      · rintro (h | ⟨k, o', h⟩)
        · injection h with h1 h2; subst h1 h2; exact ⟨0, o, rfl, hd, rfl⟩
        · exact ⟨k + 1, o', h⟩
      · rintro ⟨k, o', h1, h2, h3⟩
        cases k with
        | zero =>
          simp only [List.getElem?_cons_zero, Option.some.injEq] at h1; subst h1; rw [hd] at h2; injection h2 with h2
          exact .inl (by rw [h2, h3]; rfl)
        | succ k => exact .inr ⟨k, o', h1, h2, h3⟩
def uniqB : List (Nat × Nat) → Bool
  | [] => true
  | x :: l => l.all (fun y => !Nat.beq y.1 x.1) && uniqB l
theorem uniqB_spec : ∀ (l : List (Nat × Nat)), uniqB l = true → ∀ t i j, (t, i) ∈ l → (t, j) ∈ l → i = j
  | [], _, t, i, j, h, _ => by cases h
  | x :: l, hu, t, i, j, h1, h2 => by
    simp only [uniqB, Bool.and_eq_true, List.all_eq_true] at hu
    obtain ⟨ha, hu⟩ := hu
    have no : ∀ k, (x.1, k) ∈ l → False := fun k hk => by have := ha _ hk; simp [Nat.beq_refl] at this
    rcases List.mem_cons.1 h1 with e1 | h1 <;> rcases List.mem_cons.1 h2 with e2 | h2
    · rw [← e1] at e2; injection e2 with _ e2; exact e2.symm
    · exact (no j (by rw [← e1]; exact h2)).elim
    · exact (no i (by rw [← e2]; exact h1)).elim
    · exact uniqB_spec l hu t i j h1 h2
theorem lk_of_mem {l : List (Nat × Nat)} (h : uniqB l = true) {t j : Nat} (hm : (t, j) ∈ l) : lk l t = some j := by
  cases hl : lk l t with
  | some k => rw [uniqB_spec l h t k j (lk_mem _ _ _ hl) hm]
  | none =>
    exfalso
    clear h
    induction l with
    | nil => cases hm
    | cons x l ih =>
      obtain ⟨u, y⟩ := x
      rw [lk_cons] at hl
      by_cases e : u = t
      · rw [if_pos e] at hl; cases hl
      · rw [if_neg e] at hl
        rcases List.mem_cons.1 hm with e' | hm
        · injection e' with e1 _; exact e e1.symm
        · exact ih hm hl
def lookB (b : Array Nat) (ds : List (Nat × Nat)) (i t : Nat) : Bool :=
  match lk ds t with
  | none => true
  | some j => Nat.beq j i || (Nat.blt j i && bitOf b i j) || (Nat.blt i j && bitOf b j i)
def rowsB (all : Array Oper) (b : Array Nat) (ds : List (Nat × Nat)) : List Oper → Nat → Bool
  | [], _ => true
  | o :: l, i => o.after.toList.all (fun e => !Region.binds .any e || Nat.blt e.on i) && (o.looksAt all).all (lookB b ds i) && rowsB all b ds l (i + 1)
theorem rowsB_spec {all : Array Oper} {b : Array Nat} {ds : List (Nat × Nat)} : ∀ (l : List Oper) (i : Nat), rowsB all b ds l i = true → ∀ k o, l[k]? = some o → (∀ e, e ∈ o.after → Region.binds .any e = true → e.on < i + k) ∧ ∀ t, t ∈ o.looksAt all → lookB b ds (i + k) t = true
  | [], _, _, k, o, h => by simp at h
  | o :: l, i, hr, k, o', h => by
    simp only [rowsB, Bool.and_eq_true] at hr
    obtain ⟨⟨h1, h2⟩, h3⟩ := hr
    cases k with
    | zero =>
      simp only [List.getElem?_cons_zero, Option.some.injEq] at h
      subst h
      refine ⟨fun e he hb => ?_, fun t ht => ?_⟩
      · have := List.all_eq_true.1 h1 e (by simpa using he)
        rw [hb] at this
        simp only [Bool.not_true, Bool.false_or] at this
        exact blt_true this
      · exact List.all_eq_true.1 h2 t ht
    | succ k =>
      have := rowsB_spec l (i + 1) h3 k o' (by simpa using h)
      rw [show i + 1 + k = i + (k + 1) by omega] at this
      exact this
def rdB (ops : Array Oper) : Bool := uniqB (dstsFrom ops.toList 0) && rowsB ops (Region.before ops) (dstsFrom ops.toList 0) ops.toList 0
theorem rdB_spec {ops : Array Oper} (h : rdB ops = true) : RdOk ops := by
  simp only [rdB, Bool.and_eq_true] at h
  obtain ⟨hu, hr⟩ := h
  have mem : ∀ {j : Nat} {p : Oper} {t : Nat}, ops[j]? = some p → p.dst = some t → (t, j) ∈ dstsFrom ops.toList 0 := fun {j p t} hp ht => (dstsFrom_mem _ _ _ _).2 ⟨j, p, by rw [Array.getElem?_toList]; exact hp, ht, by simp⟩
  refine ⟨fun i o ho e he hb => ?_, fun i j o p t ho hp h1 h2 => uniqB_spec _ hu t i j (mem ho h1) (mem hp h2), fun i j o p t ho hp ht hl => ?_⟩
  · have := (rowsB_spec _ _ hr i o (by rw [Array.getElem?_toList]; exact ho)).1 e he hb
    omega
  · have := (rowsB_spec _ _ hr i o (by rw [Array.getElem?_toList]; exact ho)).2 t hl
    unfold lookB at this
    rw [lk_of_mem hu (mem hp ht), Nat.zero_add] at this
    simp only [Bool.or_eq_true, Bool.and_eq_true] at this
    rcases this with (h | ⟨h1, h2⟩) | ⟨h1, h2⟩
    · exact .inl (beq_true h)
    · exact .inr (.inl ⟨blt_true h1, h2⟩)
    · exact .inr (.inr ⟨blt_true h1, h2⟩)
def dstB (N : Nat) (o : Oper) : Bool := match o.dst with | some t => Nat.blt t N | none => true
def codeB (N : Nat) : Code → Bool
  | .region _ ops draw => ops.toList.all (dstB N) && (!draw || rdB ops)
  | .seq a b => codeB N a && codeB N b
  | .cond _ a b => codeB N a && codeB N b
  | .block _ b => codeB N b
  | .loop b => codeB N b
  | .scope b => codeB N b
  | _ => true
theorem codeB_spec {N : Nat} : ∀ c, codeB N c = true → CodeOk N c := by
  intro c
  induction c with
  | region id ops draw =>
    intro h
    simp only [codeB, Bool.and_eq_true, Bool.or_eq_true] at h
    refine ⟨fun k o ho t ht => ?_, fun hd => ?_⟩
    · have := List.all_eq_true.1 h.1 o (by simpa using Array.mem_of_getElem? ho)
      unfold dstB at this
      rw [ht] at this
      exact blt_true this
    · subst hd
      rcases h.2 with h | h
      · cases h
      · exact rdB_spec h
  | seq a b iha ihb => intro h; simp only [codeB, Bool.and_eq_true] at h; exact ⟨iha h.1, ihb h.2⟩
  | cond x a b iha ihb => intro h; simp only [codeB, Bool.and_eq_true] at h; exact ⟨iha h.1, ihb h.2⟩
  | block id b ih => exact fun h => ih h
  | loop b ih => exact fun h => ih h
  | scope b ih => exact fun h => ih h
  | _ => exact fun _ => trivial
def layB (np : Nat) (lay : Lay) : Bool :=
  uniqB (lay.ents.map fun x => (x.2, x.1)) && lay.ents.all (fun x => Nat.blt x.2 lay.total && (Nat.beq x.1 x.2 || (Nat.ble np x.1 && Nat.ble np x.2)))
theorem uniqB_nodup : ∀ (l : List (Nat × Nat)), uniqB l = true → (l.map Prod.fst).Nodup
  | [], _ => .nil
  | x :: l, h => by
    simp only [uniqB, Bool.and_eq_true, List.all_eq_true] at h
    refine List.nodup_cons.2 ⟨fun hm => ?_, uniqB_nodup l h.2⟩
    obtain ⟨y, hy, e⟩ := List.mem_map.1 hm
    have := h.1 y hy
    rw [e] at this
    simp [Nat.beq_refl] at this
theorem layB_spec {np : Nat} {lay : Lay} (h : layB np lay = true) : LayOk lay ∧ ∀ t p, (t, p) ∈ lay.ents → t = p ∨ (np ≤ t ∧ np ≤ p) := by
  simp only [layB, Bool.and_eq_true, List.all_eq_true] at h
  obtain ⟨h1, h2⟩ := h
  refine ⟨⟨?_, fun x hx => blt_true (h2 x hx).1⟩, fun t p hm => ?_⟩
  · have := uniqB_nodup _ h1
    rw [List.map_map] at this
    exact this
  · have := (h2 _ hm).2
    simp only [Bool.or_eq_true, Bool.and_eq_true] at this
    rcases this with h | ⟨h3, h4⟩
    · exact .inl (beq_true h)
    · exact .inr ⟨ble_true h3, ble_true h4⟩
def funB (fn : Func) (lay : Lay) : Bool :=
  match fn.body with
  | none => true
  | some c => layB (fn.params.size + fn.nfree) lay && codeB fn.ntmps c && Nat.ble (fn.params.size + fn.nfree) fn.ntmps && Nat.ble (fn.params.size + fn.nfree) lay.total && !(fn.name == "runtime.NumGoroutine")
def layAt (L : List Lay) (g : FuncId) : Lay := match L[g]? with | some l => l | none => ⟨[], 0⟩
def funsB : List Func → List Lay → Bool
  | [], _ => true
  | fn :: l, lay :: m => funB fn lay && funsB l m
  | _ :: _, [] => false
theorem funsB_spec : ∀ (l : List Func) (m : List Lay), funsB l m = true → ∀ (g : Nat) (fn : Func), l[g]? = some fn → funB fn (layAt m g) = true
  | [], _, _, g, fn, h => by simp at h
  | _ :: _, [], h, _, _, _ => by cases h
  | f :: l, lay :: m, h, g, fn, hg => by
    simp only [funsB, Bool.and_eq_true] at h
    cases g with
    | zero => simp only [List.getElem?_cons_zero, Option.some.injEq] at hg; subst hg; exact h.1
    | succ g => exact funsB_spec l m h.2 g fn (by simpa using hg)
theorem progOk_of {L : List Lay} (hm : P.follows .mixedOrders = true) (h : funsB P.funcs.toList L = true) : ProgOk P (layAt L) := by
  refine ⟨hm, fun g fn c hf hb => ?_⟩
  have := funsB_spec _ _ h g fn (by rw [Array.getElem?_toList]; exact hf)
  unfold funB at this
  rw [hb] at this
  simp only [Bool.and_eq_true, Bool.not_eq_true'] at this
  obtain ⟨⟨⟨⟨h1, h2⟩, h3⟩, h4⟩, h5⟩ := this
  obtain ⟨h6, h7⟩ := layB_spec h1
  exact ⟨h6, codeB_spec c h2, ble_true h3, ble_true h4, h7, by simpa using h5⟩

/- ## from nothing -/
def H.nil : H := ⟨.nil, 0⟩
theorem H.nil_at (i : Nat) : H.nil.at i = none := Tr.get_nil _
/-- no block is told -/
def mu0 : Mu := fun _ => none
theorem rel_nil (w : World) : Rel mu0 H.nil w := ⟨fun i b l h => (by rw [H.nil_at] at h; cases h), fun i j b c l m h => (by rw [H.nil_at] at h; cases h), fun i l h => (by cases h), fun i _ => H.nil_at i⟩
theorem not_own (h : H) (β : Nat) : ¬ Own mu0 h β := fun ⟨i, b, l, _, h, _⟩ => by cases h
end
end
end Go.Kx
namespace Go.Kx
open Go.RowKit
noncomputable section
variable [Sig]
section
variable {P : Program}

/- ## closed runs -/
def okTT (o : Out) : Bool := @Out.rec (fun _ => Bool) (fun _ => false) (fun _ _ _ => false) (fun l _ => sameL l [.tt]) o
theorem okTT_spec {o : Out} (h : okTT o = true) : ∃ h', o = .res [.tt] h' := by
  cases o with
  | stuck s => cases h
  | out e f h' => cases h
  | res l h' =>
    have : sameL l [.tt] = true := h
    exact ⟨h', by rw [sameL_eq this]⟩
/-- values that lie in no memory -/
def flatV : V → Bool
  | .n _ => true
  | .tt => true
  | .ff => true
  | .int _ _ => true
  | .str _ _ => true
  | .nilp => true
  | .nils => true
  | .nilm => true
  | .nilf => true
  | .nili => true
  | .un => true
  | .sym _ => true
  | .junk => true
  | _ => false
theorem flatV_rel {v : V} (hv : flatV v = true) {μ μ' : Mu} {x : Value} (h : VRel μ v x) : VRel μ' v x := by
  cases h <;> first
    | (cases hv; done)
    | exact .n _
    | exact .tt
    | exact .ff
    | exact .int _ _
    | exact .str _ _ (by assumption) (by assumption)
    | exact .nilp
    | exact .nils
    | exact .nilm
    | exact .nilf
    | exact .nili
    | exact .un
    | exact .sym _ _ (by assumption) (by assumption)
    | exact .junk _
theorem flat_rel : ∀ {l : List V}, l.all flatV = true → ∀ {μ μ' : Mu} {vs : List Value}, VsRel μ l vs → VsRel μ' l vs
  | [], _, _, _, _, h => by cases h; exact .nil
  | v :: l, ha, μ, μ', vs, h => by
    simp only [List.all_cons, Bool.and_eq_true] at ha
    cases h with
    | cons h t => exact .cons (flatV_rel ha.1 h) (flat_rel ha.2 t)
theorem flat_res {l : List V} (hl : l.all flatV = true) {μ μ' : Mu} {v : Value} (h : ResRel μ l v) : ResRel μ' l v := by
  cases l with
  | nil => obtain ⟨vs, h1, h2⟩ := h; exact ⟨vs, h1, flat_rel hl h2⟩
  | cons a l =>
    cases l with
    | nil => simp only [List.all_cons, Bool.and_eq_true] at hl; exact flatV_rel hl.1 h
    | cons b l => obtain ⟨vs, h1, h2⟩ := h; exact ⟨vs, h1, flat_rel hl h2⟩
theorem step_below {w w' : World} {μ' : Mu} {h' : H} (s : Step mu0 H.nil w μ' h' w') : Below w.heap.size w w' :=
  ⟨s.os, s.tape, s.output, s.size, fun i hi => (s.frame i hi (not_own _ _)).1⟩
/-- new blocks alone: whatever is told stays so -/
theorem below_step {μ : Mu} {h : H} {w w' : World} (r : Rel μ h w) (hb : Below w.heap.size w w') : Step μ h w μ h w' ∧ Rel μ h w' := by
  have hsame : ∀ i, i < w.heap.size → w'.heap[i]? = w.heap[i]? := hb.block
  refine ⟨⟨Mu.le_refl _, fun _ _ e => .inl e, Nat.le_refl _, fun _ _ _ => rfl, fun β hβ ho => ⟨hsame β hβ, ho⟩, hb.size, hb.tape, hb.os, hb.output, fun _ _ e => e, fun i x y l hi e e' hm hb2 => ⟨by rw [e] at e'; injection e' with e'; subst e'; exact hb2, .refl l (hsame _ (r.bnd i l hm))⟩⟩, fun i b l h1 h2 => ?_, r.inj, fun i l h1 => Nat.lt_of_lt_of_le (r.bnd i l h1) hb.size, r.wf⟩
  obtain ⟨o, h3, h4⟩ := r.live i b l h1 h2
  exact ⟨o, by rw [hsame _ (r.bnd i l h2)]; exact h3, h4⟩
/-- what is so from nothing is so anywhere -/
theorem fact_any {g : FuncId} {as l : List V} {h' : H} (ha : as.all flatV = true) (hl : l.all flatV = true) (hf : CallFact P g as H.nil l h') (h : H) : CallFact P g as h l h := by
  obtain ⟨h1, h2⟩ := hf
  refine ⟨h1, fun hn μ w vs hR _ hv => ?_⟩
  refine (h2 hn mu0 w vs (rel_nil w) (fun _ _ _ => rfl) (flat_rel ha hv)).mono fun e w' ⟨v, he, μ', hs, _, hr⟩ => ?_
  obtain ⟨h3, h4⟩ := below_step hR (step_below hs)
  exact ⟨v, he, μ, h3, h4, flat_res hl hr⟩
/-- a call whose answer is known -/
def constP (as0 l : List V) : CallT := fun _ as h k => ifB (sameL as as0) (k l h) (.stuck "prim")
theorem constP_ok {g : FuncId} {as0 l : List V} (hf : ∀ h, CallFact P g as0 h l h) (as : List V) (h : H) (k : KH) : (∃ s, constP as0 l g as h k = .stuck s) ∨ ∃ l' h', constP as0 l g as h k = k l' h' ∧ CallFact P g as h l' h' := by
  unfold constP
  cases hs : sameL as as0 with
  | false => exact .inl ⟨_, rfl⟩
  | true => rw [sameL_eq hs]; exact .inr ⟨l, h, rfl, hf h⟩
/-- calls whose answers are known, in a list -/
def primL (l : List (FuncId × CallT)) (g : FuncId) : Option CallT := lk l g
theorem primL_ok : ∀ (l : List (FuncId × CallT)), (∀ x, x ∈ l → ∀ as h k, (∃ s, x.2 x.1 as h k = .stuck s) ∨ ∃ l' h', x.2 x.1 as h k = k l' h' ∧ CallFact P x.1 as h l' h') → PrimsOk P (primL l) := fun l h g p hp as h0 k => by
  have hm := lk_mem l g p hp
  exact h (g, p) hm as h0 k
theorem noPrims : PrimsOk P (primL []) := fun g p h => (nomatch (show (none : Option CallT) = some p from h))
/-- a closed run that answers true -/
theorem calls_tt {g : FuncId} {as : List V} {h' : H} (hf : CallFact P g as H.nil [.tt] h') (hn : ∃ fn, P.funcs[g]? = some fn ∧ as.length = fn.params.size + fn.nfree) {vs : List Value} (hv : VsRel mu0 as vs) (w : World) :
    Calls P g vs.toArray w fun e w' => e = .returned (.bool true) ∧ Below w.heap.size w w' :=
  (hf.2 hn mu0 w vs (rel_nil w) (fun _ _ _ => rfl) hv).mono fun e w' ⟨v, he, μ', hs, _, hr⟩ => by
    have hr : VRel μ' .tt v := hr
    cases hr
    exact ⟨he, step_below hs⟩
end
end
end Go.Kx
namespace Go.Kx
noncomputable section
variable [Sig]

/- ## values in one form -/
/-- an int -/
def iv (z : Int) : V := match z with | .ofNat m => .n m | .negSucc m => .int .i64 (.negSucc m)
/-- a bool -/
def bv (b : Bool) : V := match b with | true => .tt | false => .ff
theorem n_iv (m : Nat) : V.n m = iv (m : Int) := rfl
theorem tt_bv : V.tt = bv true := rfl
theorem ff_bv : V.ff = bv false := rfl
theorem mkI64_iv (z : Int) (kk : KV) : mkI64 z kk = kk (iv z) := by
  cases z with
  | ofNat m => exact forceN_eq m (fun m => kk (.n m))
  | negSucc m => exact forceN_eq m (fun m => kk (.int .i64 (Int.negSucc m)))
theorem mkI_i64 (z : Int) (kk : KV) : mkI .i64 z kk = kk (iv z) := mkI64_iv z kk
theorem mkI_other (k : IntKind) (hk : k ≠ .i64) (z : Int) (kk : KV) : mkI k z kk = kk (.int k z) := by
  have : mkI k z kk = mkIk k z kk := by cases k <;> first | rfl | exact absurd rfl hk
  rw [this]; exact forceI_eq z (fun z => kk (.int k z))
theorem toI_iv (z : Int) (f : IntKind → Int → Out) (els : Out) : toI (iv z) f els = f .i64 z := by cases z <;> rfl
theorem toI_int (k : IntKind) (z : Int) (f : IntKind → Int → Out) (els : Out) : toI (.int k z) f els = f k z := rfl
theorem onNat_int (z : Int) (h : 0 ≤ z) (f : Nat → Out) (els : Out) : onNat z f els = f z.toNat := by
  cases z with
  | ofNat m => rfl
  | negSucc m => exact absurd h (by omega)
theorem boolK_bv (b : Bool) (kk : KV) : boolK b kk = kk (bv b) := by cases b <;> rfl
theorem onB_bv (b : Bool) (t e st : Out) : onB (bv b) t e st = if b = true then t else e := by cases b <;> rfl
theorem slow2_iv (g : I2) (a b : Int) (kk : KV) (st : Out) : slow2 g (iv a) (iv b) kk st = g .i64 a b kk st := by
  unfold slow2
  rw [toI_iv, toI_iv]
  rfl
theorem bin2_nn (q : Q2) (g : I2) (a b : Nat) (kk : KV) (st : Out) : bin2 q g (iv a) (iv b) kk st = q a b kk (slow2 g (iv a) (iv b) kk st) := rfl
theorem bin2_neg1 (q : Q2) (g : I2) (a : Nat) (b : Int) (kk : KV) (st : Out) : bin2 q g (iv (Int.negSucc a)) (iv b) kk st = slow2 g (iv (Int.negSucc a)) (iv b) kk st := rfl
theorem bin2_neg2 (q : Q2) (g : I2) (a : Int) (b : Nat) (kk : KV) (st : Out) : bin2 q g (iv a) (iv (Int.negSucc b)) kk st = slow2 g (iv a) (iv (Int.negSucc b)) kk st := by cases a <;> rfl
theorem bin2_int (q : Q2) (g : I2) (k : IntKind) (a b : Int) (kk : KV) (st : Out) : bin2 q g (.int k a) (.int k b) kk st = g k a b kk st := by
  show slow2 g (.int k a) (.int k b) kk st = _
  unfold slow2
  rw [toI_int, toI_int]
  cases k <;> rfl
/-- whatever the quick way does is what the slow way does -/
theorem bin2_gen {q : Q2} {g : I2} (F : Int → Int → V) (a b : Int) (kk : KV) (st : Out) (hg : g .i64 a b kk st = kk (F a b)) (hq : ∀ m n : Nat, a = (m : Int) → b = (n : Int) → ∀ els, els = kk (F a b) → q m n kk els = kk (F a b)) : bin2 q g (iv a) (iv b) kk st = kk (F a b) := by
  cases a with
  | negSucc m => rw [bin2_neg1, slow2_iv]; exact hg
  | ofNat m =>
    cases b with
    | negSucc n => rw [bin2_neg2, slow2_iv]; exact hg
    | ofNat n =>
      have e : bin2 q g (iv (Int.ofNat m)) (iv (Int.ofNat n)) kk st = q m n kk (slow2 g (iv (Int.ofNat m)) (iv (Int.ofNat n)) kk st) := rfl
      rw [e]
      exact hq m n rfl rfl _ (by rw [slow2_iv]; exact hg)
theorem capN_eq {s : Nat} {kk : KV} {els : Out} (h : els = kk (iv (IntKind.i64.wrap (s : Int)))) : capN s kk els = kk (iv (IntKind.i64.wrap (s : Int))) := by
  rcases capN_ok s kk els with h1 | ⟨h1, h2⟩
  · rw [h1, h]
  · rw [h1, wrap_i64_in _ (by omega) (by omega)]; rfl
theorem add_iv (a b : Int) (kk : KV) (st : Out) : bin2 addQ addI (iv a) (iv b) kk st = kk (iv (IntKind.i64.wrap (a + b))) :=
  bin2_gen (fun a b => iv (IntKind.i64.wrap (a + b))) a b kk st (by show mkI .i64 (wrapF .i64 (a + b)) kk = _; rw [mkI_i64, wrapF_eq]) fun m n ha hb els he => by
    subst ha hb
    exact capN_eq (s := m + n) (by rw [he]; simp)
theorem sub_iv (a b : Int) (kk : KV) (st : Out) : bin2 subQ subI (iv a) (iv b) kk st = kk (iv (IntKind.i64.wrap (a - b))) :=
  bin2_gen (fun a b => iv (IntKind.i64.wrap (a - b))) a b kk st (by show mkI .i64 (wrapF .i64 (a - b)) kk = _; rw [mkI_i64, wrapF_eq]) fun m n ha hb els he => by
    subst ha hb
    show ifB (Nat.ble n m) (capN (m - n) kk els) els = _
    cases h : Nat.ble n m with
    | false => exact he
    | true =>
      have hle := ble_true h
      have e : ((m : Int) - (n : Int)) = ((m - n : Nat) : Int) := by omega
      rw [ifB_true]
      rw [e] at he ⊢
      exact capN_eq he
theorem mul_iv (a b : Int) (kk : KV) (st : Out) : bin2 mulQ mulI (iv a) (iv b) kk st = kk (iv (IntKind.i64.wrap (a * b))) :=
  bin2_gen (fun a b => iv (IntKind.i64.wrap (a * b))) a b kk st (by show mkI .i64 (wrapF .i64 (a * b)) kk = _; rw [mkI_i64, wrapF_eq]) fun m n ha hb els he => by
    subst ha hb
    exact capN_eq (s := m * n) (by rw [he]; simp)
theorem ieq_false {b : Int} (h : b ≠ 0) : ieq b 0 = false := by rw [ieq_eq]; simpa using h
theorem quo_iv (a b : Int) (hb : b ≠ 0) (kk : KV) (st : Out) : bin2 quoQ quoI (iv a) (iv b) kk st = kk (iv (IntKind.i64.wrap (a.tdiv b))) :=
  bin2_gen (fun a b => iv (IntKind.i64.wrap (a.tdiv b))) a b kk st (by show ifB (ieq b 0) st (mkI .i64 (wrapF .i64 (a.tdiv b)) kk) = _; rw [ieq_false hb, ifB_false, mkI_i64, wrapF_eq]) fun m n ha hb' els he => by
    subst ha hb'
    have hn : Nat.beq n 0 = false := by rw [beq_dec]; simp; omega
    show ifB (Nat.beq n 0) els (capN (m / n) kk els) = _
    rw [hn, ifB_false]
    exact capN_eq (s := m / n) (by rw [he]; rfl)
theorem rem_iv (a b : Int) (hb : b ≠ 0) (kk : KV) (st : Out) : bin2 remQ remI (iv a) (iv b) kk st = kk (iv (a.tmod b)) :=
  bin2_gen (fun a b => iv (a.tmod b)) a b kk st (by show ifB (ieq b 0) st (mkI .i64 (a.tmod b) kk) = _; rw [ieq_false hb, ifB_false, mkI_i64]) fun m n ha hb' els he => by
    subst ha hb'
    have hn : Nat.beq n 0 = false := by rw [beq_dec]; simp; omega
    show ifB (Nat.beq n 0) els (forceN (m % n) fun s => kk (.n s)) = _
    rw [hn, ifB_false]
    exact forceN_eq (m % n) (fun s => kk (.n s))
theorem beqI (a b : Int) : (a == b) = decide (a = b) := by rw [Bool.eq_iff_iff]; simp
theorem beqL (a b : List Nat) : (a == b) = decide (a = b) := by rw [Bool.eq_iff_iff]; simp
theorem eq_iv (a b : Int) (kk : KV) (st : Out) : bin2 eqQ eqI (iv a) (iv b) kk st = kk (bv (decide (a = b))) :=
  bin2_gen (fun a b => bv (decide (a = b))) a b kk st (by show boolK (ieq a b) kk = _; rw [ieq_eq, boolK_bv, beqI]) fun m n ha hb els he => by
    subst ha hb
    show boolK (Nat.beq m n) kk = _
    rw [beq_dec, boolK_bv]; simp [Int.ofNat_inj]
theorem ne_iv (a b : Int) (kk : KV) (st : Out) : bin2 neQ neI (iv a) (iv b) kk st = kk (bv (!decide (a = b))) :=
  bin2_gen (fun a b => bv (!decide (a = b))) a b kk st (by show boolK (!ieq a b) kk = _; rw [ieq_eq, boolK_bv, beqI]) fun m n ha hb els he => by
    subst ha hb
    show @Bool.rec (fun _ => Out) (kk .tt) (kk .ff) (Nat.beq m n) = _
    rw [beq_dec]
    by_cases h : m = n <;> simp [h, Int.ofNat_inj] <;> rfl
theorem lt_iv (a b : Int) (kk : KV) (st : Out) : bin2 ltQ ltI (iv a) (iv b) kk st = kk (bv (decide (a < b))) :=
  bin2_gen (fun a b => bv (decide (a < b))) a b kk st (by show boolK (!ile b a) kk = _; rw [ile_eq, boolK_bv]; congr 2; by_cases h : a < b <;> simp [h] <;> omega) fun m n ha hb els he => by
    subst ha hb
    show boolK (Nat.blt m n) kk = _
    rw [blt_dec, boolK_bv]; simp
theorem le_iv (a b : Int) (kk : KV) (st : Out) : bin2 leQ leI (iv a) (iv b) kk st = kk (bv (decide (a ≤ b))) :=
  bin2_gen (fun a b => bv (decide (a ≤ b))) a b kk st (by show boolK (ile a b) kk = _; rw [ile_eq, boolK_bv]) fun m n ha hb els he => by
    subst ha hb
    show boolK (Nat.ble m n) kk = _
    rw [ble_dec, boolK_bv]; simp
theorem gt_iv (a b : Int) (kk : KV) (st : Out) : bin2 gtQ gtI (iv a) (iv b) kk st = kk (bv (decide (b < a))) :=
  bin2_gen (fun a b => bv (decide (b < a))) a b kk st (by show boolK (!ile a b) kk = _; rw [ile_eq, boolK_bv]; congr 2; by_cases h : b < a <;> simp [h] <;> omega) fun m n ha hb els he => by
    subst ha hb
    show boolK (Nat.blt n m) kk = _
    rw [blt_dec, boolK_bv]; simp
theorem ge_iv (a b : Int) (kk : KV) (st : Out) : bin2 geQ geI (iv a) (iv b) kk st = kk (bv (decide (b ≤ a))) :=
  bin2_gen (fun a b => bv (decide (b ≤ a))) a b kk st (by show boolK (ile b a) kk = _; rw [ile_eq, boolK_bv]) fun m n ha hb els he => by
    subst ha hb
    show boolK (Nat.ble n m) kk = _
    rw [ble_dec, boolK_bv]; simp
theorem not_bv (b : Bool) (kk : KV) (st : Out) : notP (bv b) kk st = kk (bv (!b)) := by cases b <;> rfl
theorem pick_bv (b : Bool) (x y : V) (kk : KV) (st : Out) : pickK (bv b) x y kk st = kk (if b = true then x else y) := by cases b <;> rfl
theorem str_eq (n m : Nat) (a b : List Nat) (kk : KV) (st : Out) : strP eqS (.str n a) (.str m b) kk st = kk (bv (decide (a = b))) := by
  show boolK (strEq a b) kk = _
  rw [boolK_bv, strEq_eq, beqL]
theorem str_ne (n m : Nat) (a b : List Nat) (kk : KV) (st : Out) : strP neS (.str n a) (.str m b) kk st = kk (bv (!decide (a = b))) := by
  show boolK (!strEq a b) kk = _
  rw [boolK_bv, strEq_eq, beqL]
theorem lenStr_eq (n : Nat) (s : List Nat) (kk : KV) (st : Out) : lenStrP (.str n s) kk st = kk (iv n) := rfl
theorem len_sl (i o n : Nat) (c : Cap) (kk : KV) (st : Out) : lenP (.slice i o n c) kk st = kk (iv n) := rfl
theorem len_nils (kk : KV) (st : Out) : lenP .nils kk st = kk (iv 0) := rfl
theorem field_ptr (off i o : Nat) (kk : KV) (st : Out) : fieldP off (.ptr i o) kk st = kk (.ptr i (o + off)) := mkPtr_eq i (o + off) kk
theorem idx_sl (n i off ln : Nat) (c : Cap) (z : Int) (h0 : 0 ≤ z) (h1 : z < ln) (kk : KV) (st : Out) : idxSP n (.slice i off ln c) (iv z) kk st = kk (.ptr i (off + z.toNat * n)) := by
  show toI (iv z) (fun _ z => onNat z (fun k => ifB (Nat.blt k ln) (mkPtr i (Nat.add off (Nat.mul k n)) kk) st) st) st = _
  have hlt : Nat.blt z.toNat ln = true := by rw [blt_dec, decide_eq_true_eq]; omega
  rw [toI_iv, onNat_int z h0, hlt, ifB_true, mkPtr_eq]; rfl

/- ## closures -/
theorem regC_nil (fin : Fin) (c : CallT) (f : Fr) (h : H) : regC [] fin c f h = fin c [] f h := rfl
theorem regC_eq (ops : List OpC) (fin : Fin) (c : CallT) (f : Fr) (h : H) : regC ops fin c f h = runL ops c [] f h fun e h => fin c e f h := rfl
theorem un1C_eq (pos : String) (p : P1) (gx : Gt) (c : CallT) (e : Ev) (f : Fr) (h : H) (k : Ev → H → Out) : un1C pos p gx c e f h k = p (gx e f) (fun v => k (v :: e) h) (.stuck pos) := rfl
theorem bin1C_eq (pos : String) (p : P2) (gx gy : Gt) (c : CallT) (e : Ev) (f : Fr) (h : H) (k : Ev → H → Out) : bin1C pos p gx gy c e f h k = p (gx e f) (gy e f) (fun v => k (v :: e) h) (.stuck pos) := rfl
theorem intC_eq (pos : String) (q : Q2) (g : I2) (gx gy : Gt) (c : CallT) (e : Ev) (f : Fr) (h : H) (k : Ev → H → Out) : intC pos q g gx gy c e f h k = bin2 q g (gx e f) (gy e f) (fun v => k (v :: e) h) (.stuck pos) := rfl
theorem pickC_eq (pos : String) (gc ga gb : Gt) (c : CallT) (e : Ev) (f : Fr) (h : H) (k : Ev → H → Out) : pickC pos gc ga gb c e f h k = pickK (gc e f) (ga e f) (gb e f) (fun v => k (v :: e) h) (.stuck pos) := rfl
theorem rd1C_eq (pos : String) (p : V → H → KV → Out → Out) (gx : Gt) (c : CallT) (e : Ev) (f : Fr) (h : H) (k : Ev → H → Out) : rd1C pos p gx c e f h k = p (gx e f) h (fun v => k (v :: e) h) (.stuck pos) := rfl
theorem ch2C_eq (pos : String) (p : V → V → H → KH → Out → Out) (gx gy : Gt) (c : CallT) (e : Ev) (f : Fr) (h : H) (k : Ev → H → Out) : ch2C pos p gx gy c e f h k = p (gx e f) (gy e f) h (fun l h => k (pushL l e) h) (.stuck pos) := rfl
theorem callC_eq (g : FuncId) (gs : List Gt) (c : CallT) (e : Ev) (f : Fr) (h : H) (k : Ev → H → Out) : callC g gs c e f h k = c g (gets gs e f) h fun l h => k (pushL l e) h := rfl
theorem mvC_eq (gs : List Gt) (c : CallT) (e : Ev) (f : Fr) (h : H) (k : Ev → H → Out) : mvC gs c e f h k = k (pushL (gets gs e f) e) h := rfl
theorem allocC_eq (b : Blk) (c : CallT) (e : Ev) (f : Fr) (h : H) (k : Ev → H → Out) : allocC b c e f h k = k (.ptr h.nx 0 :: e) (h.add b) := newK_eq h b (fun i h => k (.ptr i 0 :: e) h)
theorem ckC_eq (o : OpC) (c : CallT) (e : Ev) (f : Fr) (h : H) (k : Ev → H → Out) : ckC o c e f h k = o c e f h fun e' h' => ifB (nxle h h') (k e' h') (.stuck "nx") := rfl
theorem nxle_eq (h h' : H) : nxle h h' = decide (h.nx ≤ h'.nx) := by cases h; cases h'; exact ble_dec _ _
theorem grdC_bv (pos : String) (g : Gt) (want : Bool) (n : Nat) (o : OpC) (c : CallT) (e : Ev) (f : Fr) (h : H) (k : Ev → H → Out) (b : Bool) (hb : g e f = bv b) : grdC pos g want n o c e f h k = if b = want then o c e f h k else k (uns n e) h := by
  show onG (g e f) _ _ _ _ = _
  rw [hb]; cases b <;> cases want <;> rfl
theorem envG_eq (k : Nat) (e : Ev) (f : Fr) : envG k e f = nthV e k := rfl
theorem slotG_eq (k : Nat) (e : Ev) (f : Fr) : slotG k e f = nthV f k := rfl
theorem constG_eq (v : V) (e : Ev) (f : Fr) : constG v e f = v := rfl
theorem nthV_zero (a : V) (l : List V) : nthV (a :: l) 0 = a := rfl
theorem nthV_succ (a : V) (l : List V) (k : Nat) : nthV (a :: l) (k + 1) = nthV l k := rfl
theorem setV_zero (a x : V) (l : List V) : setV (a :: l) 0 x = x :: l := rfl
theorem setV_succ (a x : V) (l : List V) (k : Nat) : setV (a :: l) (k + 1) x = a :: setV l k x := rfl
theorem gets_nil (e : Ev) (f : Fr) : gets [] e f = [] := rfl
theorem gets_cons (g : Gt) (gs : List Gt) (e : Ev) (f : Fr) : gets (g :: gs) e f = g e f :: gets gs e f := rfl
theorem pushL_nil (e : Ev) : pushL [] e = e := rfl
theorem pushL_cons (a : V) (l : List V) (e : Ev) : pushL (a :: l) e = pushL l (a :: e) := rfl
theorem finC_eq (com : List (Nat × Gt)) (next : Runner) (c : CallT) (e : Ev) (f : Fr) (h : H) : finC com next c e f h = next c (commitF com e f f) h := rfl
theorem commitF_nil (e : Ev) (f a : Fr) : commitF [] e f a = a := rfl
theorem testK_bv (com : List (Nat × Gt)) (g : Gt) (A B : Runner) (c : CallT) (e : Ev) (f : Fr) (h : H) (b : Bool) (hb : g e f = bv b) : testK com g A B c e f h = if b = true then A c (commitF com e f f) h else B c (commitF com e f f) h := by
  show onB (g e f) _ _ _ = _
  rw [hb, onB_bv]
theorem andThen_eq (a b : Runner) (c : CallT) (f : Fr) (h : H) : andThen a b c f h = thenK (a c f h) (b c) := rfl
theorem normR_eq (c : CallT) (f : Fr) (h : H) : normR c f h = .out .normal f h := rfl
theorem exitC_eq (x : X) (c : CallT) (f : Fr) (h : H) : exitC x c f h = .out x f h := rfl
theorem thenK_exit (i : Nat) (f : Fr) (h : H) (k : Fr → H → Out) : thenK (.out (.exit i) f h) k = .out (.exit i) f h := rfl
theorem thenK_ret (f : Fr) (h : H) (k : Fr → H → Out) : thenK (.out .ret f h) k = .out .ret f h := rfl
theorem thenK_norm (f : Fr) (h : H) (k : Fr → H → Out) : thenK (.out .normal f h) k = k f h := rfl
theorem blockC_eq (id : Nat) (b : Runner) (c : CallT) (f : Fr) (h : H) : blockC id b c f h = blockK id (b c f h) := rfl
theorem blockK_norm (id : Nat) (f : Fr) (h : H) : blockK id (.out .normal f h) = .out .normal f h := rfl
theorem blockK_ret (id : Nat) (f : Fr) (h : H) : blockK id (.out .ret f h) = .out .ret f h := rfl
theorem blockK_exit (id i : Nat) (f : Fr) (h : H) : blockK id (.out (.exit i) f h) = if i = id then .out .normal f h else .out (.exit i) f h := by
  show ifB (Nat.beq i id) _ _ = _
  rw [ifB_eq, beq_dec]; simp
theorem loopC_eq (b : Runner) (c : CallT) (f : Fr) (h : H) : loopC b c f h = loopN bigFuel (b c) f h := rfl
theorem endK_ret (f : Fr) (h : H) (k : Fr → H → Out) : endK (.out .ret f h) k = k f h := rfl
theorem endK_norm (f : Fr) (h : H) (k : Fr → H → Out) : endK (.out .normal f h) k = k f h := rfl
def resT (p : Nat) : ResR := fun f _ kk _ => kk (nthV f p)
def resA (n p : Nat) : ResR := fun f h kk st => loadH n (nthV f p) h kk st
def resC (p : Nat) : ResR := fun f h kk st => load1H (nthV f p) h kk st
theorem fnOf_eq {P : Program} {lays : FuncId → Lay} {prims : FuncId → Option CallT} {g : FuncId} {x : FnC} (h : fnOf P lays (fun _ => none) g = some x) (hp : prims g = none) : fnOf P lays prims g = some x := by
  unfold fnOf at h ⊢
  rw [hp]; exact h
theorem callN_fn {P : Program} {lays : FuncId → Lay} {prims : FuncId → Option CallT} {g : FuncId} {np tot : Nat} {run : Runner} {res : ResL} (hf : fnOf P lays prims g = some (.fn np tot run res)) (n : Nat) (as : List V) (h : H) (k : KH) (hn : as.length = np) :
    callN P lays prims (n + 1) g as h k = endK (run (callN P lays prims n) (frame0 tot as) h) fun f h => res f h (fun l => k l h) (.stuck "results") := by
  show optFn (fnOf P lays prims g) (fun x => fnK x (callN P lays prims n) g as h k) (.stuck "no function") = _
  rw [hf]
  show ifB (Nat.beq (len as) np) _ _ = _
  rw [len_eq, hn, Nat.beq_refl]; rfl
end
end Go.Kx
namespace Go.Kx
noncomputable section
variable [Sig]
set_option linter.unusedSectionVars false

/- ## the heap as rows of cells -/
/-- it is a row, and as long as it says -/
def rowB (b : Blk) : Prop := wfB b ∧ ∀ es, b ≠ .map es
open Classical in
/-- how many cells a block has (none: it is no row of cells) -/
def H.len (h : H) (i : Nat) : Nat := if i < h.nx then (match h.at i with | some b => if rowB b then sizeB b else 0 | none => 0) else 0
/-- what a cell holds -/
def H.cel (h : H) (i o : Nat) : V := match h.at i with | some b => cellOf b o | none => .junk
theorem len_lt {h : H} {i o : Nat} (ho : o < h.len i) : i < h.nx := by
  unfold H.len at ho
  split at ho
  · assumption
  · omega
theorem len_some {h : H} {i o : Nat} (ho : o < h.len i) : ∃ b, h.at i = some b ∧ rowB b ∧ h.len i = sizeB b ∧ ∀ p, h.cel i p = cellOf b p := by
  have hi := len_lt ho
  unfold H.len at ho ⊢
  unfold H.cel
  rw [if_pos hi] at ho ⊢
  cases hb : h.at i with
  | none => rw [hb] at ho; exact absurd ho (by simp)
  | some b =>
    rw [hb] at ho
    by_cases hr : rowB b
    · exact ⟨b, rfl, hr, by simp only [if_pos hr], fun _ => rfl⟩
    · simp only [if_neg hr] at ho; omega
theorem len_of {h : H} {i : Nat} {b : Blk} (hi : i < h.nx) (hb : h.at i = some b) (hr : rowB b) : h.len i = sizeB b := by
  unfold H.len
  rw [if_pos hi, hb]
  simp only [if_pos hr]
/-- cells one behind the other -/
def H.cels (h : H) (i : Nat) : Nat → Nat → List V
  | _, 0 => []
  | o, n + 1 => h.cel i o :: h.cels i (o + 1) n
theorem cels_len (h : H) (i : Nat) : ∀ (n o : Nat), (h.cels i o n).length = n
  | 0, _ => rfl
  | n + 1, o => by show (h.cels i (o + 1) n).length + 1 = _; rw [cels_len h i n]
theorem cels_get (h : H) (i : Nat) : ∀ (n o k : Nat), k < n → (h.cels i o n)[k]? = some (h.cel i (o + k))
  | 0, _, _, hk => by omega
  | n + 1, o, 0, _ => rfl
  | n + 1, o, k + 1, hk => by
    show (h.cels i (o + 1) n)[k]? = _
    rw [cels_get h i n (o + 1) k (by omega), show o + 1 + k = o + (k + 1) by omega]
theorem load1_cel {h : H} {i o : Nat} (ho : o < h.len i) (kk : KV) (st : Out) : load1H (.ptr i o) h kk st = kk (h.cel i o) := by
  obtain ⟨b, hb, hr, hs, hc⟩ := len_some ho
  rw [hc, show load1H (.ptr i o) h kk st = optB (h.at i) (fun b => cellK b o kk st) st from rfl, hb]
  show cellK b o kk st = _
  have hbl : Nat.blt o (sizeB b) = true := by rw [blt_dec]; simpa using (hs ▸ ho)
  cases b with
  | small n cs mk => show ifB (Nat.blt o n) _ _ = _; rw [show Nat.blt o n = true from hbl]; rfl
  | big n zl z m =>
    show ifB (Nat.blt o n) (optV (m.get (path o)) kk (kk (nthV z (Nat.mod o zl)))) st = _
    rw [show Nat.blt o n = true from hbl]
    show optV (m.get (path o)) kk (kk (nthV z (Nat.mod o zl))) = kk ((m.get (path o)).getD (nthV z (o % zl)))
    cases m.get (path o) <;> rfl
  | map es => exact absurd rfl (hr.2 es)
theorem cellsK_cels {h : H} {i o n : Nat} {b : Blk} (hb : h.at i = some b) (hr : rowB b) (hn : o + n ≤ sizeB b) (kk : List V → Out) (st : Out) : cellsK b n o kk st = kk (h.cels i o n) := by
  have hc : ∀ p, h.cel i p = cellOf b p := fun p => by unfold H.cel; rw [hb]
  have hle : ∀ t, t = sizeB b → Nat.ble (Nat.add o n) t = true := fun t ht => by rw [ht, ble_dec]; exact decide_eq_true hn
  have hl : ∀ l : List V, (∀ k, k < n → l[k]? = some (cellOf b (o + k))) → l.length = n → l = h.cels i o n := fun l h1 h2 => by
    apply List.ext_getElem?
    intro k
    by_cases hk : k < n
    · rw [h1 k hk, cels_get h i n o k hk, hc]
    · rw [List.getElem?_eq_none (by omega), List.getElem?_eq_none (by rw [cels_len]; omega)]
  cases b with
  | small t cs mk =>
    have hcs : cs.length = t := hr.1
    have hn : o + n ≤ t := hn
    show ifB (Nat.ble (Nat.add o n) t) (kk (tak (drp cs o) n)) st = _
    rw [hle t rfl, ifB_true, hl (tak (drp cs o) n) (fun k hk => ?_) ?_]
    · rw [tak_eq, drp_eq]; simp; omega
    · rw [tak_eq, drp_eq, List.getElem?_take, if_pos hk, List.getElem?_drop]
      exact nth_some (by omega)
  | big t zl z m =>
    show ifB (Nat.ble (Nat.add o n) t) (kk (treeL zl z m n o)) st = _
    obtain ⟨h1, h2⟩ := treeL_spec zl z m n o
    rw [hle t rfl, ifB_true, hl _ (fun k hk => h2 k hk) h1]
  | map es => exact absurd rfl (hr.2 es)
theorem loadH_cel {h : H} {i o n : Nat} (h0 : 0 < n) (hn : o + n ≤ h.len i) (kk : KV) (st : Out) : loadH n (.ptr i o) h kk st = kk (.agg (h.cels i o n)) := by
  obtain ⟨b, hb, hr, hs, _⟩ := len_some (show o < h.len i by omega)
  rw [show loadH n (.ptr i o) h kk st = optB (h.at i) (fun b => cellsK b n o (fun l => kk (.agg l)) st) st from rfl, hb]
  show cellsK b n o (fun l => kk (.agg l)) st = _
  rw [cellsK_cels hb hr (by omega)]
/-- one heap is another, but for these cells -/
structure Sto (h : H) (i o : Nat) (vs : List V) (h' : H) : Prop where
  nx : h'.nx = h.nx
  len : ∀ j, h'.len j = h.len j
  at_ : ∀ j, j ≠ i → h'.at j = h.at j
  cel : ∀ j p, p < h.len j → h'.cel j p = if j = i ∧ o ≤ p ∧ p < o + vs.length then nthV vs (p - o) else h.cel j p
theorem sto_put {h : H} {i o : Nat} {b b' : Blk} {vs : List V} (hi : i < h.nx) (hb : h.at i = some b) (hr : rowB b) (hp : Put b o vs.length vs b') : Sto h i o vs (h.put i b') := by
  have hr' : rowB b' := ⟨hp.wf hr.1 rfl, hp.cells⟩
  have hnx : (h.put i b').nx = h.nx := H.nx_put _ _ _
  have hat : ∀ j, j ≠ i → (h.put i b').at j = h.at j := fun j e => H.at_put_ne _ _ (Ne.symm e)
  refine ⟨hnx, fun j => ?_, hat, fun j p hp' => ?_⟩
  · by_cases e : j = i
    · subst e; rw [len_of (by rw [hnx]; exact hi) (H.at_put _ _ _) hr', len_of hi hb hr, hp.size]
    · unfold H.len; rw [hnx, hat j e]
  · by_cases e : j = i
    · subst e
      rw [len_of hi hb hr] at hp'
      have e1 : (h.put j b').cel j p = cellOf b' p := by unfold H.cel; rw [H.at_put]
      have e2 : h.cel j p = cellOf b p := by unfold H.cel; rw [hb]
      rw [e1, e2, hp.cell hr.1 rfl p hp']
      by_cases hin : o ≤ p ∧ p < o + vs.length
      · rw [if_pos hin, if_pos ⟨rfl, hin⟩]
      · rw [if_neg hin, if_neg (fun h => hin h.2)]
    · rw [if_neg (fun h => e h.1)]
      unfold H.cel; rw [hat j e]
theorem putsK_row {b : Blk} {n o : Nat} {vs : List V} (hr : rowB b) (hn : vs.length = n) (hfit : o + n ≤ sizeB b) (hc : allCells vs = true) : ∃ b', Put b o vs.length vs b' ∧ ∀ kk st, putsK n vs b o kk st = kk b' := by
  have fin : ∀ b'', (∀ kk st, putsK n vs b o kk st = kk b'') → ∃ b', Put b o vs.length vs b' ∧ ∀ kk st, putsK n vs b o kk st = kk b' := fun b'' key => by
    refine ⟨b'', ?_, key⟩
    rcases putsK_ok n vs b o (fun b => .res [.un] ⟨.node (some b) .nil .nil .nil .nil, 0⟩) (.stuck "") with h | ⟨b', h, _, _, _, h2⟩
    · rw [key] at h; cases h
    · rw [key] at h; injection h with _ h; injection h with h; injection h with h; injection h with h; rw [h]; exact hn ▸ h2
  cases b with
  | small t cs mk =>
    have e : Nat.ble (Nat.add o n) t = true := by rw [ble_dec]; exact decide_eq_true hfit
    refine fin (.small t (spl cs vs o n) mk) fun kk st => ?_
    unfold putsK; rw [hc, ifB_true]
    show ifB (Nat.ble (Nat.add o n) t) _ _ = _
    rw [e, ifB_true]
  | big t zl z m =>
    have e : Nat.ble (Nat.add o n) t = true := by rw [ble_dec]; exact decide_eq_true hfit
    refine fin (.big t zl z (setsT vs o m)) fun kk st => ?_
    unfold putsK; rw [hc, ifB_true]
    show ifB (Nat.ble (Nat.add o n) t) _ _ = _
    rw [e, ifB_true]
  | map es => exact absurd rfl (hr.2 es)
theorem put1K_row {b : Blk} {o : Nat} {v : V} (hr : rowB b) (hfit : o < sizeB b) (hc : isCell v = true) : ∃ b', Put b o 1 [v] b' ∧ ∀ kk st, put1K v b o kk st = kk b' := by
  have hb : Nat.blt o (sizeB b) = true := by rw [blt_dec]; exact decide_eq_true hfit
  have fin : ∀ b'', (∀ kk st, put1K v b o kk st = kk b'') → ∃ b', Put b o 1 [v] b' ∧ ∀ kk st, put1K v b o kk st = kk b' := fun b'' key => by
    refine ⟨b'', ?_, key⟩
    rcases put1K_ok v b o (fun b => .res [.un] ⟨.node (some b) .nil .nil .nil .nil, 0⟩) (.stuck "") with h | ⟨b', h, _, _, _, h2⟩
    · rw [key] at h; cases h
    · rw [key] at h; injection h with _ h; injection h with h; injection h with h; injection h with h; rw [h]; exact h2
  cases b with
  | small t cs mk =>
    refine fin (.small t (setV cs o v) mk) fun kk st => ?_
    unfold put1K; rw [hc, ifB_true]
    show ifB (Nat.blt o t) _ _ = _
    rw [show Nat.blt o t = true from hb, ifB_true]
  | big t zl z m =>
    refine fin (.big t zl z (m.set (path o) v)) fun kk st => ?_
    unfold put1K; rw [hc, ifB_true]
    show ifB (Nat.blt o t) _ _ = _
    rw [show Nat.blt o t = true from hb, ifB_true]
  | map es => exact absurd rfl (hr.2 es)
theorem storeH_sto {h : H} {i o n : Nat} {vs : List V} (h0 : 0 < n) (hn : vs.length = n) (hfit : o + n ≤ h.len i) (hc : allCells vs = true) : ∃ h', Sto h i o vs h' ∧ ∀ kk st, storeH n (.ptr i o) (.agg vs) h kk st = kk [] h' := by
  obtain ⟨b, hb, hr, hs, _⟩ := len_some (show o < h.len i by omega)
  obtain ⟨b', h2, h1⟩ := putsK_row (o := o) hr hn (by omega) hc
  refine ⟨h.put i b', sto_put (len_lt (show o < h.len i by omega)) hb hr h2, fun kk st => ?_⟩
  have e : storeH n (.ptr i o) (.agg vs) h kk st = ifB (Nat.beq (Kx.len vs) n) (optB (h.at i) (fun b => putsK n vs b o (fun b => kk [] (h.put i b)) st) st) st := rfl
  rw [e, len_eq, hn, Nat.beq_refl, ifB_true, hb]
  exact h1 _ _
theorem store1_sto {h : H} {i o : Nat} {v : V} (hfit : o < h.len i) (hc : isCell v = true) : ∃ h', Sto h i o [v] h' ∧ ∀ kk st, store1H (.ptr i o) v h kk st = kk [] h' := by
  obtain ⟨b, hb, hr, hs, _⟩ := len_some hfit
  obtain ⟨b', h2, h1⟩ := put1K_row (o := o) hr (by omega) hc
  refine ⟨h.put i b', sto_put (len_lt hfit) hb hr h2, fun kk st => ?_⟩
  have e : store1H (.ptr i o) v h kk st = optB (h.at i) (fun b => put1K v b o (fun b => kk [] (h.put i b)) st) st := rfl
  rw [e, hb]
  exact h1 _ _
end
end Go.Kx
namespace Go.Kx
noncomputable section
variable [Sig]
set_option linter.unusedSectionVars false

/- ## new rows -/
/-- one heap is another, and one row more -/
structure Mk (h : H) (n : Nat) (f : Nat → V) (h' : H) : Prop where
  nx : h'.nx = h.nx + 1
  len : ∀ j, h'.len j = if j = h.nx then n else h.len j
  at_ : ∀ j, j ≠ h.nx → h'.at j = h.at j
  new : ∀ p, p < n → h'.cel h.nx p = f p
theorem cel_at {h h' : H} {j : Nat} (e : h'.at j = h.at j) (p : Nat) : h'.cel j p = h.cel j p := by unfold H.cel; rw [e]
theorem Mk.old {h : H} {n : Nat} {f : Nat → V} {h' : H} (m : Mk h n f h') {j : Nat} (hj : j ≠ h.nx) (p : Nat) : h'.cel j p = h.cel j p := cel_at (m.at_ j hj) p
theorem mk_add {h : H} {b : Blk} {n : Nat} {f : Nat → V} (hr : rowB b) (hn : sizeB b = n) (hf : ∀ p, p < n → cellOf b p = f p) : Mk h n f (h.add b) := by
  refine ⟨H.nx_add _ _, fun j => ?_, fun j e => H.at_add_ne _ _ e, fun p hp => ?_⟩
  · by_cases e : j = h.nx
    · subst e
      rw [if_pos rfl, len_of (by rw [H.nx_add]; omega) (H.at_add _ _) hr, hn]
    · rw [if_neg e]
      unfold H.len
      rw [H.nx_add, H.at_add_ne _ _ e]
      by_cases h1 : j < h.nx
      · rw [if_pos h1, if_pos (by omega)]
      · rw [if_neg h1, if_neg (by omega)]
  · unfold H.cel; rw [H.at_add]; exact hf p hp
theorem kill_len (h : H) (i j : Nat) : (h.kill i).len j = if j = i then 0 else h.len j := by
  by_cases e : j = i
  · subst e; unfold H.len; rw [H.at_kill]; simp
  · unfold H.len; rw [H.nx_kill, H.at_kill_ne _ (Ne.symm e), if_neg e]
/-- one heap is another, but one row is gone and one is new -/
structure Mv (h : H) (i n : Nat) (f : Nat → V) (h' : H) : Prop where
  nx : h'.nx = h.nx + 1
  len : ∀ j, h'.len j = if j = h.nx then n else if j = i then 0 else h.len j
  at_ : ∀ j, j ≠ h.nx → j ≠ i → h'.at j = h.at j
  new : ∀ p, p < n → h'.cel h.nx p = f p
theorem Mv.old {h : H} {i n : Nat} {f : Nat → V} {h' : H} (m : Mv h i n f h') {j : Nat} (hj : j ≠ h.nx) (hi : j ≠ i) (p : Nat) : h'.cel j p = h.cel j p := cel_at (m.at_ j hj hi) p
theorem mv_add {h : H} {i : Nat} {b : Blk} {n : Nat} {f : Nat → V} (hr : rowB b) (hn : sizeB b = n) (hf : ∀ p, p < n → cellOf b p = f p) : Mv h i n f ((h.kill i).add b) := by
  have m := mk_add (h := h.kill i) hr hn hf
  refine ⟨m.nx.trans (by rw [H.nx_kill]), fun j => ?_, fun j e e2 => ?_, fun p hp => ?_⟩
  · rw [m.len j, H.nx_kill, kill_len]
  · rw [m.at_ j (by rw [H.nx_kill]; exact e), H.at_kill_ne _ (Ne.symm e2)]
  · rw [← m.new p hp, H.nx_kill]
theorem ofCells_row {n : Nat} {l : List V} (hl : l.length = n) : rowB (ofCells n l) ∧ sizeB (ofCells n l) = n ∧ ∀ p, p < n → cellOf (ofCells n l) p = nthV l p := by
  obtain ⟨h1, h2, h3, h4⟩ := ofCells_spec n l hl
  exact ⟨⟨h3, h2⟩, h1, h4⟩
theorem cels_nth (h : H) (i n o k : Nat) (hk : k < n) : nthV (h.cels i o n) k = h.cel i (o + k) := by
  rw [nthV_eq, cels_get h i n o k hk]; rfl
theorem freshC_mk (sz n t : Nat) (l : List V) (h : H) (hl : l.length = t) : ∃ h', Mk h t (nthV l) h' ∧ ∀ kk, freshC sz n t l h kk = kk [.slice h.nx 0 n (.free sz)] h' := by
  obtain ⟨h1, h2, h3⟩ := ofCells_row hl
  refine ⟨h.add (ofCells t l), mk_add h1 h2 h3, fun kk => ?_⟩
  rw [show freshC sz n t l h kk = forceN t fun t => freshK sz n (ofCells t l) h kk from rfl, forceN_eq, freshK_eq]
theorem growK_row {b : Blk} {n k : Nat} {new : List V} (hr : rowB b) (hn : sizeB b = n) (hk : new.length = k) : ∃ b', Grown (cellOf b) n k new b' ∧ ∀ kk st, growK b n k new kk st = kk b' := by
  cases b with
  | small t cs mk =>
    have hn : t = n := hn
    subst hn
    have hcs : cs.length = t := hr.1
    refine ⟨ofCells (t + k) (app (tak cs t) new), ?_, fun kk st => ?_⟩
    · refine ofCells_grown _ t k (tak cs t) new (by rw [tak_eq]; simp; omega) hk fun j hj => ?_
      rw [tak_eq, List.getElem?_take, if_pos hj]
      exact nth_some (by omega)
    · show ifB (Nat.ble t t) (forceN (Nat.add t k) fun t' => kk (ofCells t' (app (tak cs t) new))) st = _
      rw [show Nat.ble t t = true from by rw [ble_dec]; simp, ifB_true, forceN_eq]; rfl
  | big t zl z m =>
    have hn : t = n := hn
    subst hn
    refine ⟨.big (t + k) zl z (setsT new t m), ⟨rfl, fun _ => Blk.noConfusion, trivial, fun j hj => ?_⟩, fun kk st => ?_⟩
    rotate_left
    · show ifB (Nat.beq t t) (forceN (Nat.add t k) fun t' => kk (.big t' zl z (setsT new t m))) st = _
      rw [Nat.beq_refl, ifB_true, forceN_eq]; rfl
    · show ((setsT new t m).get (path j)).getD (nthV z (j % zl)) = if j < t then (m.get (path j)).getD (nthV z (j % zl)) else nthV new (j - t)
      rw [setsT_get]
      by_cases hjt : j < t
      · rw [if_neg (by omega), if_pos hjt]
      · rw [if_pos (by omega), if_neg hjt, nth_some (show j - t < new.length by omega)]; rfl
  | map es => exact absurd rfl (hr.2 es)
theorem firstK_cels {sz n j o : Nat} {c : Cap} {h : H} {b : Blk} (hb : h.at j = some b) (hr : rowB b) (hl : o + n * sz ≤ sizeB b) (kk : KL) (st : Out) : firstK sz n (.slice j o n c) h kk st = kk (h.cels j o (n * sz)) := by
  rw [show firstK sz n (.slice j o n c) h kk st = optB (h.at j) (fun b => cellsK b (Nat.mul n sz) o kk st) st from rfl, hb]
  exact cellsK_cels hb hr hl kk st
theorem roomK_eq {need bb : Nat} (hroom : need * bb ≤ 140737488355328) (o st : Out) : roomK need bb o st = o := by
  show ifB (Nat.ble (Nat.mul need bb) 140737488355328) o st = o
  rw [show Nat.ble (Nat.mul need bb) 140737488355328 = true from by rw [ble_dec]; exact decide_eq_true hroom]; rfl
/-- append(nil, x...) -/
theorem appH_nil {sz bb j o n : Nat} {c : Cap} {h : H} (hs : 0 < sz) (hn : 0 < n) (hl : o + n * sz ≤ h.len j) (hc : allCells (h.cels j o (n * sz)) = true) (hroom : n * bb ≤ 140737488355328) :
    ∃ h', Mk h (n * sz) (fun p => h.cel j (o + p)) h' ∧ ∀ kk st, appH sz bb .nils (.slice j o n c) h kk st = kk [.slice h.nx 0 n (.free sz)] h' := by
  have hp : 0 < n * sz := Nat.mul_pos hn hs
  obtain ⟨b, hb, hr, hsz, _⟩ := len_some (show o < h.len j by omega)
  obtain ⟨h', h2, h1⟩ := freshC_mk sz n (n * sz) (h.cels j o (n * sz)) h (cels_len _ _ _ _)
  refine ⟨h', ⟨h2.nx, h2.len, h2.at_, fun p hp' => by rw [h2.new p hp', cels_nth h j (n * sz) o p hp']⟩, fun kk st => ?_⟩
  show firstK sz n (.slice j o n c) h (fun new => ifB (allCells new) (appV sz bb n new .nils h kk st) st) st = _
  rw [firstK_cels hb hr (by omega), hc, ifB_true]
  show ifB (Nat.beq n 0) (kk [.nils] h) (roomK n bb (freshC sz n (Nat.mul n sz) (h.cels j o (n * sz)) h kk) st) = _
  rw [show Nat.beq n 0 = false from by rw [beq_dec]; exact decide_eq_false (by omega), ifB_false, roomK_eq hroom]
  exact h1 kk
/-- append(nil, x...), where x is empty -/
theorem appH_nil0 {sz bb j o : Nat} {c : Cap} {h : H} {b : Blk} (hb : h.at j = some b) (hr : rowB b) (ho : o ≤ sizeB b) (kk : KH) (st : Out) :
    appH sz bb .nils (.slice j o 0 c) h kk st = kk [.nils] h := by
  show firstK sz 0 (.slice j o 0 c) h (fun new => ifB (allCells new) (appV sz bb 0 new .nils h kk st) st) st = _
  rw [firstK_cels hb hr (by simpa using ho), Nat.zero_mul]; rfl
theorem appH_nils {sz bb : Nat} {h : H} (kk : KH) (st : Out) : appH sz bb .nils .nils h kk st = kk [.nils] h := rfl
/-- append to a row that is full -/
theorem appH_grow {sz bb i m j o n : Nat} {c : Cap} {h : H} (hs : 0 < sz) (hn : 0 < n) (hm : 0 < m) (hi : h.len i = m * sz) (hl : o + n * sz ≤ h.len j) (hc : allCells (h.cels j o (n * sz)) = true) (hroom : (m + n) * bb ≤ 140737488355328) :
    ∃ h', Mv h i (m * sz + n * sz) (fun p => if p < m * sz then h.cel i p else h.cel j (o + (p - m * sz))) h' ∧ ∀ kk st, appH sz bb (.slice i 0 m (.free sz)) (.slice j o n c) h kk st = kk [.slice h.nx 0 (m + n) (.free sz)] h' := by
  have hp : 0 < n * sz := Nat.mul_pos hn hs
  have hp' : 0 < m * sz := Nat.mul_pos hm hs
  obtain ⟨b, hb, hr, hsz, _⟩ := len_some (show o < h.len j by omega)
  obtain ⟨bi, hbi, hri, hszi, hci⟩ := len_some (show 0 < h.len i by omega)
  obtain ⟨b', h2, h1⟩ := growK_row (n := m * sz) (k := n * sz) (new := h.cels j o (n * sz)) hri (by omega) (cels_len _ _ _ _)
  refine ⟨(h.kill i).add b', mv_add ⟨h2.wf, h2.cells⟩ h2.size fun p hp => ?_, fun kk st => ?_⟩
  rotate_left
  · show firstK sz n (.slice j o n c) h (fun new => ifB (allCells new) (appV sz bb n new (.slice i 0 m (.free sz)) h kk st) st) st = _
    rw [firstK_cels hb hr (by omega), hc, ifB_true]
    show optB (h.at i) (fun b => appS sz bb n (h.cels j o (n * sz)) (.slice i 0 m (.free sz)) i 0 m (.free sz) b h kk st) st = _
    rw [hbi]
    show forceN (Nat.add m n) (fun need => roomK need bb (ifB (Nat.beq sz sz) (appF sz n (h.cels j o (n * sz)) i 0 m bi need h kk st) st) st) = _
    rw [forceN_eq, show Nat.add m n = m + n from rfl, roomK_eq hroom, Nat.beq_refl, ifB_true]
    show ifB (Nat.ble (Nat.add 0 (Nat.mul (m + n) sz)) (sizeB bi)) _ (ifB (Nat.beq 0 0) (growK bi (Nat.mul m sz) (Nat.mul n sz) (h.cels j o (n * sz)) (fun b => freshK sz (m + n) b (h.kill i) kk) st) _) = _
    have e : Nat.ble (Nat.add 0 (Nat.mul (m + n) sz)) (sizeB bi) = false := by
      rw [ble_dec]; refine decide_eq_false ?_
      show ¬ (0 + (m + n) * sz ≤ sizeB bi)
      rw [Nat.add_mul]; omega
    rw [e, ifB_false, Nat.beq_refl, ifB_true]
    refine (h1 _ _).trans ?_
    show freshK sz (m + n) b' (h.kill i) kk = _
    rw [freshK_eq, H.nx_kill]
  · rw [h2.cell p hp]
    split
    · rw [hci]
    · next hlt => rw [cels_nth h j (n * sz) o _ (by omega)]
theorem litM_mk {n ln : Nat} {l : List V} (hc : allCells l = true) (hl : l.length = n) (h : H) : ∃ h', Mk h n (nthV l) h' ∧ ∀ e k st, litM n ln l (mkK h e k) st = k (.slice h.nx 0 ln (.known ln) :: e) h' := by
  obtain ⟨h1, h2, h3⟩ := ofCells_row hl
  refine ⟨h.add (ofCells n l), mk_add h1 h2 h3, fun e k st => ?_⟩
  show ifB (allCells l) (mkK h e k (ofCells n l) fun i => .slice i 0 ln (.known ln)) st = _
  rw [hc, ifB_true]
  exact newK_eq h (ofCells n l) (fun i h => k (.slice i 0 ln (.known ln) :: e) h)
theorem fillK_nil (cs : List V) (kk : KL) (st : Out) : fillK [] cs kk st = kk cs := rfl
theorem fillK_cell (off : Nat) (v : V) (l : List ((Nat × Option Nat) × V)) (cs : List V) (kk : KL) (st : Out) : fillK (((off, none), v) :: l) cs kk st = ifB (isCell v) (fillK l (setV cs off v) kk st) st := rfl
theorem fillK_agg (off n : Nat) (vs : List V) (l : List ((Nat × Option Nat) × V)) (cs : List V) (kk : KL) (st : Out) (hn : vs.length = n) : fillK (((off, some n), .agg vs) :: l) cs kk st = fillK l (spl cs vs off n) kk st := by
  show ifB (Nat.beq (Kx.len vs) n) (fillK l (spl cs vs off n) kk st) st = _
  rw [len_eq, hn, Nat.beq_refl]; rfl
theorem litC_eq (pos : String) (n ln : Nat) (z : List V) (ps : List ((Nat × Option Nat) × Gt)) (c : CallT) (e : Ev) (f : Fr) (h : H) (k : Ev → H → Out) : litC pos n ln z ps c e f h k = fillK (partsE ps e f) z (fun cs => litM n ln cs (mkK h e k) (.stuck pos)) (.stuck pos) := rfl
theorem alloc_small {n : Nat} {cs : List V} {mk : Bool} (hl : cs.length = n) (h : H) : ∃ h', Mk h n (nthV cs) h' ∧ ∀ c e f k, allocC (.small n cs mk) c e f h k = k (.ptr h.nx 0 :: e) h' :=
  ⟨_, mk_add (b := .small n cs mk) ⟨hl, fun _ => Blk.noConfusion⟩ rfl fun _ _ => rfl, fun _ _ _ _ => allocC_eq _ _ _ _ _ _⟩
end
end Go.Kx
namespace Go.Kx
noncomputable section
set_option linter.unusedSectionVars false

/- ## rules for simp: what is looked into, what is not -/
@[congr] theorem bin2_congr {q : Q2} {g : I2} {x x' y y' : V} {kk : KV} {st : Out} (hx : x = x') (hy : y = y') : bin2 q g x y kk st = bin2 q g x' y' kk st := by rw [hx, hy]
@[congr] theorem strP_congr {g : S2} {x x' y y' : V} {kk : KV} {st : Out} (hx : x = x') (hy : y = y') : strP g x y kk st = strP g x' y' kk st := by rw [hx, hy]
@[congr] theorem lenP_congr {x x' : V} {kk : KV} {st : Out} (hx : x = x') : lenP x kk st = lenP x' kk st := by rw [hx]
@[congr] theorem lenStrP_congr {x x' : V} {kk : KV} {st : Out} (hx : x = x') : lenStrP x kk st = lenStrP x' kk st := by rw [hx]
@[congr] theorem fieldP_congr {n : Nat} {x x' : V} {kk : KV} {st : Out} (hx : x = x') : fieldP n x kk st = fieldP n x' kk st := by rw [hx]
@[congr] theorem notP_congr {x x' : V} {kk : KV} {st : Out} (hx : x = x') : notP x kk st = notP x' kk st := by rw [hx]
@[congr] theorem idxSP_congr {n : Nat} {x x' y y' : V} {kk : KV} {st : Out} (hx : x = x') (hy : y = y') : idxSP n x y kk st = idxSP n x' y' kk st := by rw [hx, hy]
@[congr] theorem pickK_congr {x x' y y' z z' : V} {kk : KV} {st : Out} (hx : x = x') (hy : y = y') (hz : z = z') : pickK x y z kk st = pickK x' y' z' kk st := by rw [hx, hy, hz]
@[congr] theorem load1H_congr {x x' : V} {h : H} {kk : KV} {st : Out} (hx : x = x') : load1H x h kk st = load1H x' h kk st := by rw [hx]
@[congr] theorem loadH_congr {n : Nat} {x x' : V} {h : H} {kk : KV} {st : Out} (hx : x = x') : loadH n x h kk st = loadH n x' h kk st := by rw [hx]
@[congr] theorem storeH_congr {n : Nat} {x x' y y' : V} {h : H} {kk : KH} {st : Out} (hx : x = x') (hy : y = y') : storeH n x y h kk st = storeH n x' y' h kk st := by rw [hx, hy]
@[congr] theorem store1H_congr {x x' y y' : V} {h : H} {kk : KH} {st : Out} (hx : x = x') (hy : y = y') : store1H x y h kk st = store1H x' y' h kk st := by rw [hx, hy]
@[congr] theorem appH_congr {n m : Nat} {x x' y y' : V} {h : H} {kk : KH} {st : Out} (hx : x = x') (hy : y = y') : appH n m x y h kk st = appH n m x' y' h kk st := by rw [hx, hy]
@[congr] theorem onB_congr {x x' : V} {A B st : Out} (hx : x = x') : onB x A B st = onB x' A B st := by rw [hx]
@[congr] theorem ifB_congr {b b' : Bool} {A B : Out} (hx : b = b') : ifB b A B = ifB b' A B := by rw [hx]
@[congr] theorem thenK_congr {o o' : Out} {k : Fr → H → Out} (ho : o = o') : thenK o k = thenK o' k := by rw [ho]
@[congr] theorem blockK_congr {i : Nat} {o o' : Out} (ho : o = o') : blockK i o = blockK i o' := by rw [ho]
@[congr] theorem endK_congr {o o' : Out} {k : Fr → H → Out} (ho : o = o') : endK o k = endK o' k := by rw [ho]
@[congr] theorem loopN_congr {n : Nat} {b : Fr → H → Out} {f f' : Fr} {h : H} (hf : f = f') : loopN n b f h = loopN n b f' h := by rw [hf]
@[congr] theorem fillK_congr {l l' : List ((Nat × Option Nat) × V)} {z : List V} {kk : KL} {st : Out} (hl : l = l') : fillK l z kk st = fillK l' z kk st := by rw [hl]
@[congr] theorem litM_congr {n m : Nat} {l l' : List V} {kk : KM} {st : Out} (hl : l = l') : litM n m l kk st = litM n m l' kk st := by rw [hl]
/-- what a guard does -/
def guardK (v : V) (want : Bool) (A B st : Out) : Out := onG v (@Bool.rec (fun _ => Out) B A want) (@Bool.rec (fun _ => Out) A B want) B st
@[congr] theorem guardK_congr {x x' : V} {w : Bool} {A B st : Out} (hx : x = x') : guardK x w A B st = guardK x' w A B st := by rw [hx]
theorem guardK_tt (A B st : Out) : guardK (bv true) true A B st = A := rfl
theorem guardK_tf (A B st : Out) : guardK (bv true) false A B st = B := rfl
theorem guardK_ft (A B st : Out) : guardK (bv false) true A B st = B := rfl
theorem guardK_ff (A B st : Out) : guardK (bv false) false A B st = A := rfl
theorem guardK_un (w : Bool) (A B st : Out) : guardK .un w A B st = B := rfl
theorem x_grdC_eq (pos : String) (g : Gt) (want : Bool) (n : Nat) (o : OpC) (c : CallT) (e : Ev) (f : Fr) (h : H) (k : Ev → H → Out) : grdC pos g want n o c e f h k = guardK (g e f) want (o c e f h k) (k (uns n e) h) (.stuck pos) := rfl
theorem testK_eq (com : List (Nat × Gt)) (g : Gt) (A B : Runner) (c : CallT) (e : Ev) (f : Fr) (h : H) : testK com g A B c e f h = onB (g e f) (A c (commitF com e f f) h) (B c (commitF com e f f) h) (.stuck "test") := rfl
theorem x_commitF_cons (s : Nat) (g : Gt) (l : List (Nat × Gt)) (e : Ev) (f a : Fr) : commitF ((s, g) :: l) e f a = commitF l e f (setV a s (g e f)) := rfl
theorem pick_t (x y : V) (kk : KV) (st : Out) : pickK (bv true) x y kk st = kk x := rfl
theorem pick_f (x y : V) (kk : KV) (st : Out) : pickK (bv false) x y kk st = kk y := rfl
variable [Sig] in
theorem blockK_same (i : Nat) (f : Fr) (h : H) : blockK i (.out (.exit i) f h) = .out .normal f h := by rw [blockK_exit, if_pos rfl]
variable [Sig] in
theorem blockK_other {i id : Nat} (hb : Nat.beq i id = false) (f : Fr) (h : H) : blockK id (.out (.exit i) f h) = .out (.exit i) f h := by rw [blockK_exit, if_neg (fun e => by rw [e, Nat.beq_refl] at hb; cases hb)]
theorem onB_t (A B st : Out) : onB (bv true) A B st = A := rfl
theorem onB_f (A B st : Out) : onB (bv false) A B st = B := rfl
theorem x_runL_nil (c : CallT) (e : Ev) (f : Fr) (h : H) (k : Ev → H → Out) : runL [] c e f h k = k e h := rfl
theorem x_runL_cons (o : OpC) (l : List OpC) (c : CallT) (e : Ev) (f : Fr) (h : H) (k : Ev → H → Out) : runL (o :: l) c e f h k = o c e f h fun e h => runL l c e f h k := rfl
theorem drawC_eq (ops : List (Bool × OpC)) (chks : List Chk) (fin : Fin) (c : CallT) (f : Fr) (h : H) : drawC ops chks fin c f h = runD ops c [] f h [] fun e h hs => chksK chks c e f (h :: hs) (fin c e f h) := rfl
theorem x_runD_nil (c : CallT) (e : Ev) (f : Fr) (h : H) (hs : List H) (k : Ev → H → List H → Out) : runD [] c e f h hs k = k e h hs := rfl
theorem runD_f (o : OpC) (l : List (Bool × OpC)) (c : CallT) (e : Ev) (f : Fr) (h : H) (hs : List H) (k : Ev → H → List H → Out) : runD ((false, o) :: l) c e f h hs k = o c e f h fun e' h' => runD l c e' f h' hs k := rfl
theorem runD_t (o : OpC) (l : List (Bool × OpC)) (c : CallT) (e : Ev) (f : Fr) (h : H) (hs : List H) (k : Ev → H → List H → Out) : runD ((true, o) :: l) c e f h hs k = o c e f h fun e' h' => runD l c e' f h' (h :: hs) k := rfl
theorem chksK_nil (c : CallT) (e : Ev) (f : Fr) (hs : List H) (o : Out) : chksK [] c e f hs o = o := rfl
theorem x_chksK_cons (d i : Nat) (ats : List Nat) (op : OpC) (l : List Chk) (c : CallT) (e : Ev) (f : Fr) (hs : List H) (o : Out) : chksK (⟨d, i, ats, op⟩ :: l) c e f hs o = chkAt op c (drp e d) f (nthV e i) hs ats (chksK l c e f hs o) := rfl
theorem chkAt_nil (op : OpC) (c : CallT) (e : Ev) (f : Fr) (v : V) (hs : List H) (o : Out) : chkAt op c e f v hs [] o = o := rfl
theorem x_chkAt_cons (op : OpC) (c : CallT) (e : Ev) (f : Fr) (v : V) (hs : List H) (j : Nat) (ats : List Nat) (o : Out) : chkAt op c e f v hs (j :: ats) o = nthH hs j (fun h => op c e f h fun e'' _ => ifB (sameA (nthV e'' 0) v) (chkAt op c e f v hs ats o) (.stuck "draw")) (.stuck "draw") := rfl
theorem nthH_zero (h : H) (l : List H) (k : H → Out) (els : Out) : nthH (h :: l) 0 k els = k h := rfl
theorem nthH_succ (h : H) (l : List H) (j : Nat) (k : H → Out) (els : Out) : nthH (h :: l) (j + 1) k els = nthH l j k els := rfl
theorem drp_zero {α : Type} (l : List α) : drp l 0 = l := by cases l <;> rfl
theorem drp_succ {α : Type} (a : α) (l : List α) (k : Nat) : drp (a :: l) (k + 1) = drp l k := rfl
theorem uns_zero (e : Ev) : uns 0 e = e := rfl
theorem uns_one (e : Ev) : uns 1 e = .un :: e := rfl
@[congr] theorem chkAt_congr {op : OpC} {c : CallT} {e e' : Ev} {f : Fr} {v v' : V} {hs : List H} {ats : List Nat} {o : Out} (he : e = e') (hv : v = v') : chkAt op c e f v hs ats o = chkAt op c e' f v' hs ats o := by rw [he, hv]
variable [Sig]
theorem sameK_self (k : IntKind) : sameK k k = true := by cases k <;> rfl
theorem ieq_self (z : Int) : ieq z z = true := by rw [ieq_eq]; simp
theorem strEq_self (s : List Nat) : strEq s s = true := by rw [strEq_eq]; simp
theorem sameA_iv (z : Int) : sameA (iv z) (iv z) = true := by
  cases z with
  | ofNat m => exact Nat.beq_refl m
  | negSucc m =>
    show andB (sameK .i64 .i64) (ieq (Int.negSucc m) (Int.negSucc m)) = true
    rw [sameK_self, ieq_self]; rfl
theorem sameA_bv (b : Bool) : sameA (bv b) (bv b) = true := by cases b <;> rfl
theorem sameA_str (n : Nat) (s : List Nat) : sameA (.str n s) (.str n s) = true := by
  show andB (Nat.beq n n) (strEq s s) = true
  rw [Nat.beq_refl, strEq_self]; rfl
theorem sameA_un : sameA .un .un = true := rfl
theorem isCell_iv (z : Int) : isCell (iv z) = true := by cases z <;> rfl
theorem isCell_bv (b : Bool) : isCell (bv b) = true := by cases b <;> rfl
theorem isCell_str (n : Nat) (s : List Nat) : isCell (.str n s) = true := rfl
theorem allCells_nil : allCells [] = true := rfl
theorem allCells_cons (a : V) (l : List V) : allCells (a :: l) = @Bool.rec (fun _ => Bool) false (allCells l) (isCell a) := rfl
theorem allCells_cons' {a : V} {l : List V} (ha : isCell a = true) (hl : allCells l = true) : allCells (a :: l) = true := by rw [allCells_cons, ha]; exact hl
theorem allCells_cels {h : H} {i : Nat} : ∀ {n o : Nat}, (∀ p, o ≤ p → p < o + n → isCell (h.cel i p) = true) → allCells (h.cels i o n) = true
  | 0, _, _ => rfl
  | n + 1, o, hc => allCells_cons' (hc o (by omega) (by omega)) (allCells_cels fun p h1 h2 => hc p (by omega) (by omega))
theorem n_0 : V.n 0 = iv 0 := rfl
theorem n_1 : V.n 1 = iv 1 := rfl
theorem n_2 : V.n 2 = iv 2 := rfl
theorem n_200 : V.n 200 = iv 200 := rfl
theorem onB_split {Q : Out → Prop} {b : Bool} {A B st : Out} (ht : b = true → Q A) (hf : b = false → Q B) : Q (onB (bv b) A B st) := by cases b; exact hf rfl; exact ht rfl

/- ## loops -/
/-- a round's end -/
def RoundP (I : Nat → Fr → H → Prop) (Q : Out → Prop) (m : Nat) (o : Out) : Prop :=
  (∃ f h m', o = .out .normal f h ∧ m' < m ∧ I m' f h) ∨ (∃ i f h, o = .out (.exit i) f h ∧ Q o) ∨ (∃ f h, o = .out .ret f h ∧ Q o)
theorem RoundP.next {I : Nat → Fr → H → Prop} {Q : Out → Prop} {m m' : Nat} {f : Fr} {h : H} (hm : m' < m) (hi : I m' f h) : RoundP I Q m (.out .normal f h) := .inl ⟨f, h, m', rfl, hm, hi⟩
theorem RoundP.exit {I : Nat → Fr → H → Prop} {Q : Out → Prop} {m i : Nat} {f : Fr} {h : H} (hq : Q (.out (.exit i) f h)) : RoundP I Q m (.out (.exit i) f h) := .inr (.inl ⟨i, f, h, rfl, hq⟩)
theorem RoundP.ret {I : Nat → Fr → H → Prop} {Q : Out → Prop} {m : Nat} {f : Fr} {h : H} (hq : Q (.out .ret f h)) : RoundP I Q m (.out .ret f h) := .inr (.inr ⟨f, h, rfl, hq⟩)
theorem loop_rule {body : Fr → H → Out} {Q : Out → Prop} (I : Nat → Fr → H → Prop) (step : ∀ m f h, I m f h → RoundP I Q m (body f h)) :
    ∀ (n m : Nat) (f : Fr) (h : H), I m f h → m < n → Q (loopN n body f h)
  | 0, _, _, _, _, hm => by omega
  | n + 1, m, f, h, hi, hm => by
    show Q (thenK (body f h) (loopN n body))
    rcases step m f h hi with ⟨f', h', m', e, hm', hi'⟩ | ⟨i, f', h', e, hq⟩ | ⟨f', h', e, hq⟩
    · rw [e]; exact loop_rule I step n m' f' h' hi' (by omega)
    · rw [e] at hq ⊢; exact hq
    · rw [e] at hq ⊢; exact hq
end
end Go.Kx
namespace Go.Kx
noncomputable section
variable [Sig]
set_option linter.unusedSectionVars false

/- ## rows of structs -/
theorem len_mono {h h' : H} {i : Nat} (ha : h'.at i = h.at i) (hn : h.nx ≤ h'.nx) (h0 : 0 < h.len i) : h'.len i = h.len i := by
  have := len_lt h0
  unfold H.len
  rw [ha, if_pos this, if_pos (by omega)]
/-- a row of structs of so many cells -/
structure RowS {α : Type} (sz : Nat) (f : α → List V) (h : H) (i : Nat) (D : List α) : Prop where
  len : h.len i = D.length * sz
  cel : ∀ k w, D[k]? = some w → h.cels i (k * sz) sz = f w
theorem cels_at {h h' : H} {i : Nat} (ha : h'.at i = h.at i) : ∀ n o, h'.cels i o n = h.cels i o n
  | 0, _ => rfl
  | n + 1, o => by show h'.cel i o :: h'.cels i (o + 1) n = h.cel i o :: h.cels i (o + 1) n; rw [cel_at ha, cels_at ha n (o + 1)]
theorem RowS.mono {α : Type} {sz : Nat} {f : α → List V} {h h' : H} {i : Nat} {D : List α} (r : RowS sz f h i D) (ha : h'.at i = h.at i) (hn : h.nx ≤ h'.nx) (hs : 0 < sz) (hD : D ≠ []) : RowS sz f h' i D := by
  have h0 : 0 < h.len i := by rw [r.len]; exact Nat.mul_pos (List.length_pos_iff.2 hD) hs
  exact ⟨by rw [len_mono ha hn h0, r.len], fun k w hk => by rw [cels_at ha, r.cel k w hk]⟩
/-- a slice that was appended to from nil on -/
def SlV {α : Type} (sz : Nat) (f : α → List V) (h : H) (lo : Nat) (v : V) (D : List α) : Prop :=
  (D = [] ∧ v = .nils) ∨ (D ≠ [] ∧ ∃ i, v = .slice i 0 D.length (.free sz) ∧ lo ≤ i ∧ RowS sz f h i D)
theorem SlV.mono {α : Type} {sz : Nat} {f : α → List V} {h h' : H} {lo : Nat} {v : V} {D : List α} (r : SlV sz f h lo v D) (ha : ∀ i, lo ≤ i → i < h.nx → h'.at i = h.at i) (hn : h.nx ≤ h'.nx) (hs : 0 < sz) : SlV sz f h' lo v D := by
  rcases r with r | ⟨hD, i, hv, hi, r⟩
  · exact .inl r
  · have h0 : 0 < h.len i := by rw [r.len]; exact Nat.mul_pos (List.length_pos_iff.2 hD) hs
    exact .inr ⟨hD, i, hv, hi, r.mono (ha i hi (len_lt h0)) hn hs hD⟩
theorem SlV.len {α : Type} {sz : Nat} {f : α → List V} {h : H} {lo : Nat} {v : V} {D : List α} (r : SlV sz f h lo v D) (kk : KV) (st : Out) : lenP v kk st = kk (iv D.length) := by
  rcases r with ⟨rfl, rfl⟩ | ⟨_, i, rfl, _, _⟩
  · rfl
  · exact len_sl _ _ _ _ _ _
theorem SlV.idx {α : Type} {sz : Nat} {f : α → List V} {h : H} {lo : Nat} {v : V} {D : List α} (r : SlV sz f h lo v D) {k : Nat} {w : α} (hk : D[k]? = some w) :
    ∃ i, lo ≤ i ∧ h.len i = D.length * sz ∧ h.cels i (k * sz) sz = f w ∧ ∀ kk st, idxSP sz v (iv k) kk st = kk (.ptr i (k * sz)) := by
  rcases r with ⟨rfl, rfl⟩ | ⟨hD, i, rfl, hi, r⟩
  · cases hk
  · have hlt : k < D.length := (List.getElem?_eq_some_iff.1 hk).1
    exact ⟨i, hi, r.len, r.cel k w hk, fun kk st => by rw [idx_sl sz i 0 D.length _ (k : Int) (by omega) (by omega)]; simp⟩
theorem cels_ext {h h' : H} {i j o p n : Nat} (hc : ∀ k, k < n → h'.cel i (o + k) = h.cel j (p + k)) : h'.cels i o n = h.cels j p n := by
  apply List.ext_getElem?
  intro k
  by_cases hk : k < n
  · rw [cels_get _ _ _ _ _ hk, cels_get _ _ _ _ _ hk, hc k hk]
  · rw [List.getElem?_eq_none (by rw [cels_len]; omega), List.getElem?_eq_none (by rw [cels_len]; omega)]
theorem cels_list {h : H} {i o n : Nat} {l : List V} (hl : l.length = n) (hc : ∀ k, k < n → h.cel i (o + k) = nthV l k) : h.cels i o n = l := by
  apply List.ext_getElem?
  intro k
  by_cases hk : k < n
  · rw [cels_get _ _ _ _ _ hk, hc k hk, nth_some (by omega)]
  · rw [List.getElem?_eq_none (by rw [cels_len]; omega), List.getElem?_eq_none (by omega)]
/-- one more: append(s, x) -/
theorem SlV.append {α : Type} {sz bb : Nat} {f : α → List V} {h : H} {lo j : Nat} {v : V} {c : Cap} {D : List α} {w : α} (r : SlV sz f h lo v D) (hs : 0 < sz) (hj : h.len j = sz) (hw : h.cels j 0 sz = f w) (hc : allCells (f w) = true) (hlo : lo ≤ h.nx) (hroom : (D.length + 1) * bb ≤ 140737488355328) :
    ∃ v' h', SlV sz f h' lo v' (D ++ [w]) ∧ h'.nx = h.nx + 1 ∧ (∀ i, i < lo → h'.at i = h.at i) ∧ ∀ kk st, appH sz bb v (.slice j 0 1 c) h kk st = kk [v'] h' := by
  rcases r with ⟨rfl, rfl⟩ | ⟨hD, i, rfl, hi, r⟩
  · obtain ⟨h', m, e⟩ := appH_nil (sz := sz) (bb := bb) (j := j) (o := 0) (n := 1) (c := c) (h := h) hs (by omega) (by omega) (by rw [Nat.one_mul, hw]; exact hc) (by simpa using hroom)
    refine ⟨_, h', .inr ⟨by simp, h.nx, rfl, hlo, ?_, fun k w' hk => ?_⟩, m.nx, fun i hi => m.at_ i (by omega), e⟩
    · rw [m.len, if_pos rfl]; simp
    · match k, hk with
      | 0, hk =>
        injection hk with hk; subst hk
        rw [← hw]
        exact cels_ext fun k hk => by rw [Nat.zero_mul, m.new _ (by omega)]; simp
  · have hp := List.length_pos_iff.2 hD
    obtain ⟨h', m, e⟩ := appH_grow (sz := sz) (bb := bb) (i := i) (m := D.length) (j := j) (o := 0) (n := 1) (c := c) (h := h) hs (by omega) hp r.len (by omega) (by rw [Nat.one_mul, hw]; exact hc) hroom
    refine ⟨_, h', .inr ⟨by simp, h.nx, by simp, hlo, ?_, fun k w' hk => ?_⟩, m.nx, fun i' hi' => m.at_ i' (by omega) (by omega), e⟩
    · rw [m.len, if_pos rfl, List.length_append, Nat.add_mul]; rfl
    · by_cases hk2 : k < D.length
      · rw [List.getElem?_append_left hk2] at hk
        have hm : k * sz + sz ≤ D.length * sz := by rw [← Nat.succ_mul]; exact Nat.mul_le_mul_right sz hk2
        rw [← r.cel k w' hk]
        exact cels_ext fun t ht => by rw [m.new _ (by omega), if_pos (by omega)]
      · rw [List.getElem?_append_right (by omega)] at hk
        have hk3 : k = D.length := by
          rcases Nat.lt_or_ge (k - D.length) 1 with h1 | h1
          · omega
          · rw [List.getElem?_eq_none (by simpa using h1)] at hk; cases hk
        subst hk3
        rw [Nat.sub_self] at hk
        injection hk with hk; subst hk
        rw [← hw]
        exact cels_ext fun t ht => by
          rw [m.new _ (by omega), if_neg (by omega)]
          congr 1; omega
end
end Go.Kx
