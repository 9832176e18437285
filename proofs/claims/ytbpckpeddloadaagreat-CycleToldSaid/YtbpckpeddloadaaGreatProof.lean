/-
  CycleTold holds: for every number and bool the law answers true, and the arguments read as before. Condition: none.
  The law's one use of its number is its place below 20; for each of the 20 places, and each bool, the run has been reckoned by the kernel (Run0F .. Run19T) with an evaluator that is proved sound (Kxa .. Kxd).
-/
import Derived.Test.YtbpckpeddloadaaGreatRows
import Derived.WalkKit
import Derived.ProofKit
import Derived.OpenShut
import Derived.Below
import Derived.ChangeSame
import Derived.Test.YtbpckpeddloadaaGreatAwake
import Derived.Test.YtbpckpeddloadaaGreatRun0F
import Derived.Test.YtbpckpeddloadaaGreatRun0T
import Derived.Test.YtbpckpeddloadaaGreatRun1F
import Derived.Test.YtbpckpeddloadaaGreatRun1T
import Derived.Test.YtbpckpeddloadaaGreatRun2F
import Derived.Test.YtbpckpeddloadaaGreatRun2T
import Derived.Test.YtbpckpeddloadaaGreatRun3F
import Derived.Test.YtbpckpeddloadaaGreatRun3T
import Derived.Test.YtbpckpeddloadaaGreatRun4F
import Derived.Test.YtbpckpeddloadaaGreatRun4T
import Derived.Test.YtbpckpeddloadaaGreatRun5F
import Derived.Test.YtbpckpeddloadaaGreatRun5T
import Derived.Test.YtbpckpeddloadaaGreatRun6F
import Derived.Test.YtbpckpeddloadaaGreatRun6T
import Derived.Test.YtbpckpeddloadaaGreatRun7F
import Derived.Test.YtbpckpeddloadaaGreatRun7T
import Derived.Test.YtbpckpeddloadaaGreatRun8F
import Derived.Test.YtbpckpeddloadaaGreatRun8T
import Derived.Test.YtbpckpeddloadaaGreatRun9F
import Derived.Test.YtbpckpeddloadaaGreatRun9T
import Derived.Test.YtbpckpeddloadaaGreatRun10F
import Derived.Test.YtbpckpeddloadaaGreatRun10T
import Derived.Test.YtbpckpeddloadaaGreatRun11F
import Derived.Test.YtbpckpeddloadaaGreatRun11T
import Derived.Test.YtbpckpeddloadaaGreatRun12F
import Derived.Test.YtbpckpeddloadaaGreatRun12T
import Derived.Test.YtbpckpeddloadaaGreatRun13F
import Derived.Test.YtbpckpeddloadaaGreatRun13T
import Derived.Test.YtbpckpeddloadaaGreatRun14F
import Derived.Test.YtbpckpeddloadaaGreatRun14T
import Derived.Test.YtbpckpeddloadaaGreatRun15F
import Derived.Test.YtbpckpeddloadaaGreatRun15T
import Derived.Test.YtbpckpeddloadaaGreatRun16F
import Derived.Test.YtbpckpeddloadaaGreatRun16T
import Derived.Test.YtbpckpeddloadaaGreatRun17F
import Derived.Test.YtbpckpeddloadaaGreatRun17T
import Derived.Test.YtbpckpeddloadaaGreatRun18F
import Derived.Test.YtbpckpeddloadaaGreatRun18T
import Derived.Test.YtbpckpeddloadaaGreatRun19F
import Derived.Test.YtbpckpeddloadaaGreatRun19T
namespace Go.Proofs.YtbpckpeddloadaaGreat.cycleTold
open Go.ChangeShapes Go.WideShapes Go.ChangeAt Go.RowKit Go.Kx
set_option linter.unusedVariables false
section
variable {H : Type} {enc : TypeId × Value → H} {P : Program}
theorem post_of_below {f : Func} {s : ChangeSpec} {apart fresh handsOn again : Bool} {W W' : World} {args : Array Value} {v : Value} {ds gs : List (DataW H)} {before pa pv : List MemPlace}
    (hW : DataW.Whole enc P f.params.toList s.vars apart W args.toList ds gs before)
    (hres : ∀ (b : Nat) (sp : Nat → Bool) (hd : Bool), DataW.TrodAll enc P W' b sp hd f.resultTypes.toList (v.resultList f.resultTypes.size) (s.fn H (ds ++ gs)).results [])
    (hargs : ∀ sp : Nat → Bool, (∀ p ∈ before, sp p.block = true) → DataW.TrodAll enc P W' 0 sp true f.params.toList args.toList (s.fn H (ds ++ gs)).args pa)
    (hvars : ∀ sp : Nat → Bool, (∀ p ∈ before, sp p.block = true) → DataW.TrodVars enc P W' sp s.vars (s.fn H (ds ++ gs)).vars pv)
    (hps : before = pa ++ pv) (hb : Below W.heap.size W W')
    (hok : ∀ (j : Nat) (t : TypeId) (r : Value), f.resultTypes[j]? = some t → (v.resultList f.resultTypes.size)[j]? = some r → Value.okWide P W' .any 0 t r) :
    s.post enc P f apart fresh handsOn again W args v W' := by
  have hlt : ∀ p ∈ before, p.block < W.heap.size := fun p hp => hW.lt p hp
  have hold : ∀ p ∈ before, (fun b => decide (b < W.heap.size)) p.block = true := fun p hp => by simpa using hlt p hp
  refine ⟨ds, gs, before, [], pa, pv, hW, hres _ _ _, hargs _ hold, hvars _ hold, World.keptBut_mono (fun p hp => ⟨hp, ?_⟩) (hb.frame (· ∈ before)), fun _ => ?_⟩
  · rw [hps, List.mem_append] at hp
    exact Or.inr hp
  · obtain ⟨_, _, _, _, _, hz, hn⟩ := hW
    refine ⟨hok, _, _, ([] ++ pa) ++ pv, ⟨[] ++ pa, pv, trodAll_append (hargs _ (fun _ _ => rfl)) (hres _ _ _), hvars _ (fun _ _ => rfl), rfl, ?_, ?_⟩, ?_⟩
    · intro b off hp
      have hin : MemPlace.cell b off ∈ before := by rw [hps]; simpa using hp
      rw [hb.frozen (hlt _ hin)]
      exact hz b off hin
    · intro ha
      have := hn ha
      rw [hps] at this
      simpa using this
    · intro p hp _
      rw [hps]
      simpa using hp
end

theorem own : ownKnob Tryz.prog.godebug = none := by kernel_rfl

/-! ### the runs -/
theorem runs : ∀ j, j < 20 → okTT (caseRun j .ff) = true ∧ okTT (caseRun j .tt) = true
  | 0, _ => ⟨run0_ff, run0_tt⟩
  | 1, _ => ⟨run1_ff, run1_tt⟩
  | 2, _ => ⟨run2_ff, run2_tt⟩
  | 3, _ => ⟨run3_ff, run3_tt⟩
  | 4, _ => ⟨run4_ff, run4_tt⟩
  | 5, _ => ⟨run5_ff, run5_tt⟩
  | 6, _ => ⟨run6_ff, run6_tt⟩
  | 7, _ => ⟨run7_ff, run7_tt⟩
  | 8, _ => ⟨run8_ff, run8_tt⟩
  | 9, _ => ⟨run9_ff, run9_tt⟩
  | 10, _ => ⟨run10_ff, run10_tt⟩
  | 11, _ => ⟨run11_ff, run11_tt⟩
  | 12, _ => ⟨run12_ff, run12_tt⟩
  | 13, _ => ⟨run13_ff, run13_tt⟩
  | 14, _ => ⟨run14_ff, run14_tt⟩
  | 15, _ => ⟨run15_ff, run15_tt⟩
  | 16, _ => ⟨run16_ff, run16_tt⟩
  | 17, _ => ⟨run17_ff, run17_tt⟩
  | 18, _ => ⟨run18_ff, run18_tt⟩
  | 19, _ => ⟨run19_ff, run19_tt⟩
  | n + 20, h => absurd h (by omega)
def sigB (P : Program) (g : FuncId) (rs np : Nat) : Bool :=
  match P.funcs[g]? with
  | some fn => fn.body.isSome && !(fn.name == "runtime.NumGoroutine") && Nat.beq fn.results.size rs && Nat.beq (fn.params.size + fn.nfree) np
  | none => false
theorem sigB_spec {P : Program} {g : FuncId} {rs np : Nat} (h : sigB P g rs np = true) : ∃ fn, P.funcs[g]? = some fn ∧ fn.body.isSome = true ∧ fn.name ≠ "runtime.NumGoroutine" ∧ rs = fn.results.size ∧ np = fn.params.size + fn.nfree := by
  unfold sigB at h
  split at h
  · next fn hf =>
    simp only [Bool.and_eq_true, Bool.not_eq_true', beq_eq_false_iff_ne] at h
    obtain ⟨⟨⟨h1, h2⟩, h3⟩, h4⟩ := h
    exact ⟨fn, hf, h1, h2, (Nat.eq_of_beq_eq_true h3).symm, (Nat.eq_of_beq_eq_true h4).symm⟩
  · cases h
theorem sig3 : sigB Tryz.prog 3 1 2 = true := by kernel_rfl
theorem sig5 : sigB Tryz.prog 5 1 2 = true := by kernel_rfl
theorem sig15 : sigB Tryz.prog 15 1 0 = true := by kernel_rfl
theorem awake_fact [Sig] (h : H) : CallFact Tryz.prog 15 [] h [.tt] h := by
  obtain ⟨h', hr⟩ := okTT_spec awake_tt
  exact fact_any rfl rfl (run0_ok progOk noPrims hr) h
theorem place_fact (a : Int) (j : Nat) (hj : placeOf a = (j : Int)) (h : H) : @CallFact (sigOf a) Tryz.prog 5 [.sym 0, .n 20] h [.n j] h := by
  letI : Sig := sigOf a
  obtain ⟨fn, h1, h2, h3, h4, h5⟩ := sigB_spec sig5
  refine ⟨⟨fn, h1, h2, h3, h4⟩, fun _ μ w vs hR _ hv => ?_⟩
  cases hv with
  | cons hx t =>
    cases t with
    | cons hy t =>
      cases t
      cases hx with
      | sym _ _ hs hsig =>
        have hsig : _ = Value.int .i64 a := hsig
        subst hsig
        cases hy
        exact (place_any a w).mono fun e w' ⟨he, hw⟩ => ⟨_, he, μ, by rw [hw]; exact .refl _ _ _, by rw [← hw]; exact hR, by rw [hj]; exact VRel.n j⟩
theorem prims_ok (a : Int) (j : Nat) (hj : placeOf a = (j : Int)) : @PrimsOk (sigOf a) Tryz.prog (primL (prims j)) := by
  letI : Sig := sigOf a
  refine primL_ok (prims j) fun x hx => ?_
  rcases List.mem_cons.1 hx with rfl | hx
  · exact constP_ok (place_fact a j hj)
  · rcases List.mem_cons.1 hx with rfl | hx
    · exact constP_ok awake_fact
    · cases hx
theorem walk (a0 : Int) (a1 : Bool) (w : World) :
    Calls Tryz.prog 3 #[.int .i64 a0, .bool a1] w fun e w' => e = .returned (.bool true) ∧ Below w.heap.size w w' := by
  letI : Sig := sigOf a0
  have hlt := placeOf_lt a0
  have hj : placeOf a0 = (((placeOf a0).toNat : Nat) : Int) := by omega
  have hr := runs (placeOf a0).toNat (by omega)
  obtain ⟨fn, h1, _, _, _, h5⟩ := sigB_spec sig3
  cases a1 with
  | false =>
    obtain ⟨h', hrun⟩ := okTT_spec hr.1
    exact calls_tt (run0_ok progOk (prims_ok a0 _ hj) hrun) ⟨fn, h1, h5⟩ (vs := [.int .i64 a0, .bool false]) (.cons (rel_sym a0) (.cons .ff .nil)) w
  | true =>
    obtain ⟨h', hrun⟩ := okTT_spec hr.2
    exact calls_tt (run0_ok progOk (prims_ok a0 _ hj) hrun) ⟨fn, h1, h5⟩ (vs := [.int .i64 a0, .bool true]) (.cons (rel_sym a0) (.cons .tt .nil)) w

/-! ### the row's step -/
set_option maxRecDepth 100000 in
theorem lifted (os : Os) (started : os.Started) (H : Type) (enc : TypeId × Value → H) :
    ReturnsInHanded {} Tryz.checked os 3 .any (Rows.cycleToldSpec.pre6 enc Tryz.prog Tryz.f3 Rows.cycleToldRow.domain false) (Rows.cycleToldSpec.post enc Tryz.prog Tryz.f3 false true false false) := by
  refine returnsInHanded_of_change (C := Tryz.checked) own started (by kernel_rfl) Tryz.func3
    (ChangeSpec.witness6 (enc := enc) (C := Tryz.checked) false ⟨#[], #[.int .i64 0, .bool false], []⟩ 8 (by kernel_rfl) (by kernel_rfl) (by kernel_rfl) (by kernel_rfl)) ?_
  intro W base args ds gs before hval0 hW hcnd _
  have hval : ∀ (j : Nat) t v, Tryz.f3.params[j]? = some t → args[j]? = some v → Value.okWide Tryz.prog W .any base t v := hval0
  have hW' := hW
  obtain ⟨p, q, hA0, hV, rfl, hfz, hnd⟩ := hW
  have hA : DataW.TrodAll enc Tryz.prog W 0 (fun _ => true) true Tryz.f3.params.toList args.toList ds p := hA0
  rw [Tryz.params3] at hA hval
  obtain ⟨v0, vs0, d0, ds0, p0, q0, hargs, rfl, rfl, h0, r0⟩ := trodAll_cons hA
  obtain ⟨v1, vs1, d1, ds1, p1, q1, rfl, rfl, rfl, h1, r1⟩ := trodAll_cons r0
  obtain ⟨rfl, rfl, rfl⟩ := trodAll_nil r1
  obtain rfl : args = #[v0, v1] := by cases args; simp_all
  obtain ⟨rfl, rfl⟩ := trodVars_none hV
  obtain ⟨a0, rfl, rfl, rfl, w0⟩ := open_int Tryz.underlying3 (hval 0 3 v0 rfl rfl) h0
  obtain ⟨a1, rfl, rfl, rfl⟩ := open_bool Tryz.underlying4 (hval 1 4 v1 rfl rfl) h1
  clear hA0 hval0
  simp only [List.append_nil] at hW'
  refine (walk a0 a1 W).mono fun e W' ⟨he, hb⟩ => ?_
  subst he
  exact ⟨_, rfl, post_of_below (pa := []) (pv := []) hW' (fun _ _ _ => (trodAll_cons_mk (shut_bool Tryz.underlying4 _) trodAll_mk0)) (fun sp _ => (trodAll_cons_mk (shut_int Tryz.underlying3 w0) (trodAll_cons_mk (shut_bool Tryz.underlying4 _) trodAll_mk0))) (fun _ _ => rfl) rfl
    hb (ok_one (by kernel_rfl) rfl (okWide_bool_mk Tryz.underlying4 _))⟩

theorem over : Rows.cycleToldRow.holds Tryz.pinned (OpenSpec.ofChange Rows.cycleToldSpec) :=
  OpenClaim.holds_of_wide 3 Tryz.f3 rfl rfl rfl rfl rfl rfl rfl ⟨rfl, rfl, rfl, rfl, rfl⟩ rfl rfl rfl rfl rfl (by kernel_rfl) Tryz.func3 (by kernel_rfl)
    (of_decide_eq_true (by kernel_rfl)) (by unfold Func.isWrapper; first | (rw [if_pos (by decide +kernel)]; kernel_rfl) | (rw [if_neg (by decide +kernel)]; exact ⟨rfl, rfl⟩))
    (fun os started H enc _ => lifted os started H enc)

/-- ████ THE STATEMENT ████ -/
theorem proved : Rows.CycleToldSaid :=
  over
#print axioms proved
end Go.Proofs.YtbpckpeddloadaaGreat.cycleTold
