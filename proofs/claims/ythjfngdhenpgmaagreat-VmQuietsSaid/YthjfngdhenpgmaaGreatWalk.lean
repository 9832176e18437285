/- What VmQuiets computes, at the evaluator's level: whatever words it is given, it answers true. Condition: none. -/
import Derived.Test.YthjfngdhenpgmaaGreatCode
namespace Go.Proofs.YthjfngdhenpgmaaGreat
open Go.Kx
noncomputable section
variable [Sig]
set_option linter.unusedSectionVars false
set_option linter.unusedSimpArgs false
set_option maxRecDepth 100000
theorem partsE_nil (e : Ev) (f : Fr) : partsE [] e f = [] := rfl
theorem partsE_cons (p : Nat × Option Nat) (g : Gt) (l : List ((Nat × Option Nat) × Gt)) (e : Ev) (f : Fr) : partsE ((p, g) :: l) e f = (p, g e f) :: partsE l e f := rfl
abbrev Wd := Int × Int × List Nat
abbrev wc (w : Wd) : List V := [iv w.1, iv w.2.1, .str w.2.2.length w.2.2]
def said (D : List Wd) : List Wd := D.filter fun w => !decide (w.1 = 2)
theorem wc_cells (w : Wd) : allCells (wc w) = true := by
  rw [allCells_cons, isCell_iv]; show allCells [iv w.2.1, _] = true
  rw [allCells_cons, isCell_iv]; rfl
theorem said_take {D : List Wd} {k : Nat} {w : Wd} (hk : D[k]? = some w) : said (D.take (k + 1)) = if w.1 = 2 then said (D.take k) else said (D.take k) ++ [w] := by
  have : D.take (k + 1) = D.take k ++ [w] := by rw [List.take_add_one, hk]; rfl
  unfold said
  rw [this, List.filter_append]
  by_cases h : w.1 = 2 <;> simp [h]
theorem said_len (D : List Wd) : (said D).length ≤ D.length := List.length_filter_le _ _
/-- where a round of Quiet's loop begins -/
abbrev Inv5 (h0 : H) (v : V) (D : List Wd) (m : Nat) (f : Fr) (h : H) : Prop :=
  ∃ (k : Nat) (x q : V), m = D.length - k ∧ k ≤ D.length ∧ f = [v, iv k, x, q, v, .nils, iv D.length] ∧ SlV 3 wc h h0.nx q (said (D.take k)) ∧ h0.nx ≤ h.nx ∧ ∀ i, i < h0.nx → h.at i = h0.at i
abbrev Post5 (h0 : H) (v : V) (D : List Wd) (o : Out) : Prop :=
  ∃ (x q : V) (h : H), o = .out (.exit 0) [v, iv D.length, x, q, v, .nils, iv D.length] h ∧ SlV 3 wc h h0.nx q (said D) ∧ h0.nx ≤ h.nx ∧ ∀ i, i < h0.nx → h.at i = h0.at i
theorem round5 (c : CallT) (h0 : H) (lo : Nat) (v : V) (D : List Wd) (hD : D.length ≤ 200) (hv : SlV 3 wc h0 lo v D) (m : Nat) (f : Fr) (h : H) (hi : Inv5 h0 v D m f h) : RoundP (Inv5 h0 v D) (Post5 h0 v D) m (c5_4 c f h) := by
  obtain ⟨k, x, q, rfl, hk, rfl, hq, hnx, hat⟩ := hi
  by_cases hlt : k < D.length
  · obtain ⟨w, hw⟩ : ∃ w, D[k]? = some w := ⟨D[k], List.getElem?_eq_getElem hlt⟩
    have hv' : SlV 3 wc h lo v D := hv.mono (fun i _ hi => hat i hi) hnx (by omega)
    obtain ⟨i, _, hlen, hcel, hidx⟩ := hv'.idx hw
    have e1 : ∀ kk st, loadH 3 (.ptr i (k * 3)) h kk st = kk (.agg (wc w)) := fun kk st => by rw [loadH_cel (by omega) (by omega), hcel]
    obtain ⟨h1, m1, e2⟩ := alloc_small (n := 3) (cs := [.n 0, .n 0, .str 0 []]) (mk := false) rfl h
    obtain ⟨h2, s2, e3⟩ := storeH_sto (h := h1) (i := h.nx) (o := 0) (n := 3) (vs := wc w) (by omega) rfl (by rw [m1.len, if_pos rfl]; omega) (wc_cells w)
    have hl2 : h2.len h.nx = 3 := by rw [s2.len, m1.len, if_pos rfl]
    have hc2 : h2.cels h.nx 0 3 = wc w := cels_list rfl fun p hp => by rw [s2.cel _ _ (by rw [m1.len, if_pos rfl]; omega), if_pos ⟨rfl, by omega, by show 0 + p < 0 + 3; omega⟩]; simp
    have hat2 : ∀ i, i < h.nx → h2.at i = h.at i := fun i hi => by rw [s2.at_ i (by omega), m1.at_ i (by omega)]
    have hnx2 : h2.nx = h.nx + 1 := by rw [s2.nx, m1.nx]
    have e4 : ∀ kk st, load1H (.ptr h.nx 0) h2 kk st = kk (iv w.1) := fun kk st => by
      rw [load1_cel (by omega)]
      have : h2.cels h.nx 0 3 = h2.cel h.nx 0 :: h2.cels h.nx 1 2 := rfl
      rw [hc2] at this; injection this with this _; rw [← this]
    have hltz : decide ((k : Int) < (D.length : Int)) = true := decide_eq_true (by omega)
    have hnx1 : decide (h1.nx ≤ h2.nx) = true := decide_eq_true (by rw [s2.nx]; omega)
    by_cases hw2 : w.1 = 2
    · simp only [↓c5_4.eq_1, ↓c5_3.eq_1, ↓c5_2.eq_1, ↓c5_1.eq_1, ↓c5_0.eq_1, ↓regC_eq, ↓x_runL_cons, ↓x_runL_nil, ↓un1C_eq, ↓bin1C_eq, ↓intC_eq, ↓pickC_eq, ↓rd1C_eq, ↓ch2C_eq, ↓callC_eq, ↓mvC_eq, ↓ckC_eq, ↓x_grdC_eq, ↓finC_eq, ↓testK_eq, ↓andThen_eq, ↓normR_eq, ↓exitC_eq, ↓blockC_eq, ↓loopC_eq, ↓litC_eq, ↓drawC_eq, ↓runD_f, ↓runD_t, ↓x_runD_nil, ↓x_commitF_cons, ↓commitF_nil, ↓envG_eq, ↓slotG_eq, ↓constG_eq, ↓nthV_zero, ↓nthV_succ, ↓setV_zero, ↓setV_succ, ↓gets_nil, ↓gets_cons, ↓pushL_nil, ↓pushL_cons, ↓n_0, ↓n_1, ↓n_2, ↓n_200, ↓tt_bv, ↓ff_bv, ↓ifB_true, ↓ifB_false, ↓onB_t, ↓onB_f, ↓thenK_norm, ↓thenK_exit, ↓thenK_ret, ↓blockK_norm, ↓blockK_ret, ↓blockK_same, ↓endK_norm, ↓endK_ret, ↓add_iv, ↓sub_iv, ↓lt_iv, ↓le_iv, ↓gt_iv, ↓ge_iv, ↓eq_iv, ↓ne_iv, ↓not_bv, ↓pick_t, ↓pick_f, ↓str_ne, ↓str_eq, ↓field_ptr, ↓guardK_tt, ↓guardK_tf, ↓guardK_ft, ↓guardK_ff, ↓guardK_un, ↓uns_zero, ↓uns_one, Nat.zero_add, Nat.add_zero, hltz, decide_true, ↓hidx, ↓e1, ↓e2, ↓e3, ↓e4, hw2, nxle_eq, hnx1, Bool.not_true]
      rw [wrap_i64_in _ (by omega) (by omega)]
      exact RoundP.next (m' := D.length - (k + 1)) (by omega) ⟨k + 1, _, _, rfl, hlt, rfl, by
        rw [said_take hw, if_pos hw2]; exact hq.mono (fun i _ hi => hat2 i hi) (by omega) (by omega), by omega, fun i hi => (hat2 i (by omega)).trans (hat i hi)⟩
    · have e5 : ∀ kk st, loadH 3 (.ptr h.nx 0) h2 kk st = kk (.agg (wc w)) := fun kk st => by rw [loadH_cel (by omega) (by omega), hc2]
      obtain ⟨h3, m3, e6⟩ := litM_mk (n := 3) (ln := 1) (wc_cells w) rfl h2
      have hq3 : SlV 3 wc h3 h0.nx q (said (D.take k)) := hq.mono (fun i _ hi => by rw [m3.at_ i (by omega), hat2 i hi]) (by rw [m3.nx]; omega) (by omega)
      obtain ⟨q', h4, hq4, hnx4, hat4, e7⟩ := hq3.append (bb := 65) (j := h2.nx) (c := .known 1) (w := w) (by omega) (by rw [m3.len, if_pos rfl]) (cels_list rfl fun p hp => by rw [m3.new _ (by omega)]; simp) (wc_cells w) (by rw [m3.nx]; omega) (by have := said_len (D.take k); rw [List.length_take] at this; omega)
      have hnx2' : decide (h3.nx ≤ h4.nx) = true := decide_eq_true (by rw [hnx4]; omega)
      have e8 : ∀ kk st, fillK [((0, some 3), V.agg (wc w))] [iv 0, iv 0, V.str 0 []] kk st = kk (wc w) := fun _ _ => rfl
      simp only [↓c5_4.eq_1, ↓c5_3.eq_1, ↓c5_2.eq_1, ↓c5_1.eq_1, ↓c5_0.eq_1, ↓regC_eq, ↓x_runL_cons, ↓x_runL_nil, ↓un1C_eq, ↓bin1C_eq, ↓intC_eq, ↓pickC_eq, ↓rd1C_eq, ↓ch2C_eq, ↓callC_eq, ↓mvC_eq, ↓ckC_eq, ↓x_grdC_eq, ↓finC_eq, ↓testK_eq, ↓andThen_eq, ↓normR_eq, ↓exitC_eq, ↓blockC_eq, ↓loopC_eq, ↓litC_eq, ↓drawC_eq, ↓runD_f, ↓runD_t, ↓x_runD_nil, ↓x_commitF_cons, ↓commitF_nil, ↓envG_eq, ↓slotG_eq, ↓constG_eq, ↓nthV_zero, ↓nthV_succ, ↓setV_zero, ↓setV_succ, ↓gets_nil, ↓gets_cons, ↓pushL_nil, ↓pushL_cons, ↓n_0, ↓n_1, ↓n_2, ↓n_200, ↓tt_bv, ↓ff_bv, ↓ifB_true, ↓ifB_false, ↓onB_t, ↓onB_f, ↓thenK_norm, ↓thenK_exit, ↓thenK_ret, ↓blockK_norm, ↓blockK_ret, ↓blockK_same, ↓endK_norm, ↓endK_ret, ↓add_iv, ↓sub_iv, ↓lt_iv, ↓le_iv, ↓gt_iv, ↓ge_iv, ↓eq_iv, ↓ne_iv, ↓not_bv, ↓pick_t, ↓pick_f, ↓str_ne, ↓str_eq, ↓field_ptr, ↓guardK_tt, ↓guardK_tf, ↓guardK_ft, ↓guardK_ff, ↓guardK_un, ↓uns_zero, ↓uns_one, Nat.zero_add, Nat.add_zero, hltz, decide_true, ↓hidx, ↓e1, ↓e2, ↓e3, ↓e4, ↓e5, ↓e6, ↓e7, ↓e8, partsE_cons, partsE_nil, hw2, decide_false, nxle_eq, hnx1, hnx2', Bool.not_false]
      rw [wrap_i64_in _ (by omega) (by omega)]
      exact RoundP.next (m' := D.length - (k + 1)) (by omega) ⟨k + 1, _, _, rfl, hlt, rfl, by
        rw [said_take hw, if_neg hw2]; exact hq4, by rw [hnx4, m3.nx]; omega, fun i hi => by rw [hat4 i hi, m3.at_ i (by omega), hat2 i (by omega), hat i hi]⟩
  · have hk' : k = D.length := by omega
    subst hk'
    simp only [↓c5_4.eq_1, ↓regC_eq, ↓x_runL_cons, ↓x_runL_nil, ↓un1C_eq, ↓bin1C_eq, ↓intC_eq, ↓pickC_eq, ↓rd1C_eq, ↓ch2C_eq, ↓callC_eq, ↓mvC_eq, ↓ckC_eq, ↓x_grdC_eq, ↓finC_eq, ↓testK_eq, ↓andThen_eq, ↓normR_eq, ↓exitC_eq, ↓blockC_eq, ↓loopC_eq, ↓litC_eq, ↓drawC_eq, ↓runD_f, ↓runD_t, ↓x_runD_nil, ↓x_commitF_cons, ↓commitF_nil, ↓envG_eq, ↓slotG_eq, ↓constG_eq, ↓nthV_zero, ↓nthV_succ, ↓setV_zero, ↓setV_succ, ↓gets_nil, ↓gets_cons, ↓pushL_nil, ↓pushL_cons, ↓n_0, ↓n_1, ↓n_2, ↓n_200, ↓tt_bv, ↓ff_bv, ↓ifB_true, ↓ifB_false, ↓onB_t, ↓onB_f, ↓thenK_norm, ↓thenK_exit, ↓thenK_ret, ↓blockK_norm, ↓blockK_ret, ↓blockK_same, ↓endK_norm, ↓endK_ret, ↓add_iv, ↓sub_iv, ↓lt_iv, ↓le_iv, ↓gt_iv, ↓ge_iv, ↓eq_iv, ↓ne_iv, ↓not_bv, ↓pick_t, ↓pick_f, ↓str_ne, ↓str_eq, ↓field_ptr, ↓guardK_tt, ↓guardK_tf, ↓guardK_ft, ↓guardK_ff, ↓guardK_un, ↓uns_zero, ↓uns_one, Nat.zero_add, Nat.add_zero, Int.lt_irrefl, decide_false]
    exact RoundP.exit ⟨_, _, _, rfl, by simpa using hq, hnx, hat⟩
variable {lays : FuncId → Lay}
/-- Quiet: the words that are not of kind 2 -/
theorem quiet5 (prims : FuncId → Option CallT) (hp : prims 5 = none) (n : Nat) (D : List Wd) (v : V) (h0 : H) (lo : Nat) (hD : D.length ≤ 200) (hv : SlV 3 wc h0 lo v D) :
    ∃ (q : V) (h : H), SlV 3 wc h h0.nx q (said D) ∧ h0.nx ≤ h.nx ∧ (∀ i, i < h0.nx → h.at i = h0.at i) ∧ ∀ k, callN Tryz.prog (layAt table) prims (n + 1) 5 [v] h0 k = k [q] h := by
  have hl : Post5 h0 v D (loopN bigFuel (c5_4 (callN Tryz.prog (layAt table) prims n)) [v, iv 0, .junk, .nils, v, .nils, iv D.length] h0) :=
    loop_rule (Inv5 h0 v D) (round5 _ h0 lo v D hD hv) bigFuel D.length _ _ ⟨0, _, _, rfl, by omega, rfl, .inl ⟨rfl, rfl⟩, by omega, fun _ _ => rfl⟩ (by unfold bigFuel; omega)
  obtain ⟨x, q, h, e, hq, hnx, hat⟩ := hl
  refine ⟨q, h, hq, hnx, hat, fun k => ?_⟩
  have hlen := fun kk st => hv.len kk st
  rw [callN_fn (fn5 prims hp) n [v] h0 k rfl]
  have hf : frame0 7 [v] = [v, .junk, .junk, .junk, .junk, .junk, .junk] := rfl
  simp only [hf, ↓code5.eq_1, ↓c5_5.eq_1, ↓regC_eq, ↓x_runL_cons, ↓x_runL_nil, ↓un1C_eq, ↓bin1C_eq, ↓intC_eq, ↓pickC_eq, ↓rd1C_eq, ↓ch2C_eq, ↓callC_eq, ↓mvC_eq, ↓ckC_eq, ↓x_grdC_eq, ↓finC_eq, ↓testK_eq, ↓andThen_eq, ↓normR_eq, ↓exitC_eq, ↓blockC_eq, ↓loopC_eq, ↓litC_eq, ↓drawC_eq, ↓runD_f, ↓runD_t, ↓x_runD_nil, ↓x_commitF_cons, ↓commitF_nil, ↓envG_eq, ↓slotG_eq, ↓constG_eq, ↓nthV_zero, ↓nthV_succ, ↓setV_zero, ↓setV_succ, ↓gets_nil, ↓gets_cons, ↓pushL_nil, ↓pushL_cons, ↓n_0, ↓n_1, ↓n_2, ↓n_200, ↓tt_bv, ↓ff_bv, ↓ifB_true, ↓ifB_false, ↓onB_t, ↓onB_f, ↓thenK_norm, ↓thenK_exit, ↓thenK_ret, ↓blockK_norm, ↓blockK_ret, ↓blockK_same, ↓endK_norm, ↓endK_ret, ↓add_iv, ↓sub_iv, ↓lt_iv, ↓le_iv, ↓gt_iv, ↓ge_iv, ↓eq_iv, ↓ne_iv, ↓not_bv, ↓pick_t, ↓pick_f, ↓str_ne, ↓str_eq, ↓field_ptr, ↓guardK_tt, ↓guardK_tf, ↓guardK_ft, ↓guardK_ff, ↓guardK_un, ↓uns_zero, ↓uns_one, Nat.zero_add, Nat.add_zero, ↓hlen, e]
  rfl
end
noncomputable section
variable [Sig]
set_option linter.unusedSectionVars false
set_option linter.unusedSimpArgs false
set_option maxRecDepth 100000
/-- a slice that came from outside -/
def ArgV {α : Type} (sz : Nat) (f : α → List V) (h : H) (v : V) (D : List α) : Prop :=
  (D = [] ∧ v = .nils) ∨ (∃ i c b, v = .slice i 0 D.length c ∧ i < h.nx ∧ h.at i = some b ∧ rowB b ∧ RowS sz f h i D)
theorem ArgV.len {α : Type} {sz : Nat} {f : α → List V} {h : H} {v : V} {D : List α} (r : ArgV sz f h v D) (kk : KV) (st : Out) : lenP v kk st = kk (iv D.length) := by
  rcases r with ⟨rfl, rfl⟩ | ⟨i, c, b, rfl, _⟩
  · rfl
  · exact len_sl _ _ _ _ _ _
theorem ArgV.mono {α : Type} {sz : Nat} {f : α → List V} {h h' : H} {v : V} {D : List α} (r : ArgV sz f h v D) (ha : ∀ i, i < h.nx → h'.at i = h.at i) (hn : h.nx ≤ h'.nx) : ArgV sz f h' v D := by
  rcases r with r | ⟨i, c, b, hv, hi, hb, hr, r⟩
  · exact .inl r
  · have hb' : h'.at i = some b := by rw [ha i hi, hb]
    refine .inr ⟨i, c, b, hv, by omega, hb', hr, ⟨?_, fun k w hk => by rw [cels_at (ha i hi), r.cel k w hk]⟩⟩
    rw [len_of (by omega) hb' hr, ← len_of hi hb hr, r.len]
theorem ArgV.idx {α : Type} {sz : Nat} {f : α → List V} {h : H} {v : V} {D : List α} (r : ArgV sz f h v D) {k : Nat} {w : α} (hk : D[k]? = some w) :
    ∃ i, h.len i = D.length * sz ∧ h.cels i (k * sz) sz = f w ∧ ∀ kk st, idxSP sz v (iv k) kk st = kk (.ptr i (k * sz)) := by
  rcases r with ⟨rfl, rfl⟩ | ⟨i, c, b, rfl, hi, hb, hr, r⟩
  · cases hk
  · have hlt : k < D.length := (List.getElem?_eq_some_iff.1 hk).1
    exact ⟨i, r.len, r.cel k w hk, fun kk st => by rw [idx_sl sz i 0 D.length _ (k : Int) (by omega) (by omega)]; simp⟩
theorem cel_of_cels {h : H} {i o n p : Nat} (hp : p < n) : h.cel i (o + p) = nthV (h.cels i o n) p := (cels_nth h i n o p hp).symm
theorem isCell_nth : ∀ {l : List V} {p : Nat}, allCells l = true → p < l.length → isCell (nthV l p) = true
  | [], _, _, hp => by cases hp
  | a :: l, p, hc, hp => by
    rw [allCells_cons] at hc
    cases ha : isCell a with
    | false => rw [ha] at hc; cases hc
    | true =>
      rw [ha] at hc
      cases p with
      | zero => exact ha
      | succ p => exact isCell_nth (l := l) hc (by simpa using hp)
/-- append(nil, x...) of a slice from outside -/
theorem ArgV.copy {α : Type} {sz bb : Nat} {f : α → List V} {h : H} {v : V} {D : List α} (r : ArgV sz f h v D) (hs : 0 < sz) (hf : ∀ w, allCells (f w) = true) (hroom : D.length * bb ≤ 140737488355328) :
    ∃ q h', SlV sz f h' h.nx q D ∧ (∀ i, i < h.nx → h'.at i = h.at i) ∧ h.nx ≤ h'.nx ∧ ∀ kk st, appH sz bb .nils v h kk st = kk [q] h' := by
  rcases r with ⟨rfl, rfl⟩ | ⟨i, c, b, rfl, hi, hb, hr, r⟩
  · exact ⟨_, h, .inl ⟨rfl, rfl⟩, fun _ _ => rfl, by omega, fun kk st => appH_nils kk st⟩
  · by_cases hD : D = []
    · subst hD
      exact ⟨_, h, .inl ⟨rfl, rfl⟩, fun _ _ => rfl, by omega, fun kk st => appH_nil0 hb hr (by omega) kk st⟩
    · have h0 := List.length_pos_iff.2 hD
      have hcc : allCells (h.cels i 0 (D.length * sz)) = true := allCells_cels fun p _ hp => by
        have hk : p / sz < D.length := (Nat.div_lt_iff_lt_mul hs).2 (by omega)
        obtain ⟨w, hw⟩ : ∃ w, D[p / sz]? = some w := ⟨D[p / sz], List.getElem?_eq_getElem hk⟩
        have e : h.cel i p = nthV (f w) (p % sz) := by
          rw [← r.cel _ w hw, ← cel_of_cels (Nat.mod_lt p hs), Nat.mul_comm, Nat.div_add_mod]
        rw [e]
        exact isCell_nth (hf w) (by rw [← r.cel _ w hw, cels_len]; exact Nat.mod_lt p hs)
      obtain ⟨h', m, e⟩ := appH_nil (sz := sz) (bb := bb) (j := i) (o := 0) (n := D.length) (c := c) (h := h) hs h0 (by rw [r.len]; omega) hcc hroom
      refine ⟨_, h', .inr ⟨hD, h.nx, rfl, by omega, by rw [m.len, if_pos rfl], fun k w hk => ?_⟩, fun i hi => m.at_ i (by omega), by rw [m.nx]; omega, e⟩
      have hlt : k < D.length := (List.getElem?_eq_some_iff.1 hk).1
      have hm : k * sz + sz ≤ D.length * sz := by rw [← Nat.succ_mul]; exact Nat.mul_le_mul_right sz hlt
      rw [← r.cel k w hk]
      exact cels_ext fun t ht => by rw [m.new _ (by omega), Nat.zero_add]
/-- the three loads -/
theorem loads3 {h : H} {i k n : Nat} {w : Wd} (hl : h.len i = n * 3) (hk : k < n) (hc : h.cels i (k * 3) 3 = wc w) :
    (∀ kk st, load1H (.ptr i (k * 3)) h kk st = kk (iv w.1)) ∧ (∀ kk st, load1H (.ptr i (k * 3 + 1)) h kk st = kk (iv w.2.1)) ∧ (∀ kk st, load1H (.ptr i (k * 3 + 2)) h kk st = kk (.str w.2.2.length w.2.2)) := by
  have e0 : h.cel i (k * 3) = iv w.1 := by have := cel_of_cels (h := h) (i := i) (o := k * 3) (n := 3) (p := 0) (by omega); rw [hc] at this; exact this
  have e1 : h.cel i (k * 3 + 1) = iv w.2.1 := by have := cel_of_cels (h := h) (i := i) (o := k * 3) (n := 3) (p := 1) (by omega); rw [hc] at this; exact this
  have e2 : h.cel i (k * 3 + 2) = .str w.2.2.length w.2.2 := by have := cel_of_cels (h := h) (i := i) (o := k * 3) (n := 3) (p := 2) (by omega); rw [hc] at this; exact this
  exact ⟨fun kk st => by rw [load1_cel (by omega), e0], fun kk st => by rw [load1_cel (by omega), e1], fun kk st => by rw [load1_cel (by omega), e2]⟩
theorem said_get {D : List Wd} {k : Nat} {w : Wd} (hk : D[k]? = some w) (hw : w.1 ≠ 2) : (said D)[(said (D.take k)).length]? = some w := by
  have h1 : D = D.take (k + 1) ++ D.drop (k + 1) := (List.take_append_drop _ _).symm
  have h2 : said D = said (D.take (k + 1)) ++ said (D.drop (k + 1)) := by
    unfold said; rw [← List.filter_append, ← h1]
  rw [h2, said_take hk, if_neg hw, List.append_assoc, List.getElem?_append_right (Nat.le_refl _), Nat.sub_self]
  rfl
abbrev Inv3 (h2 : H) (v q mine : V) (D : List Wd) (m : Nat) (f : Fr) (h : H) : Prop :=
  ∃ k : Nat, m = D.length - k ∧ k ≤ D.length ∧ f = [v, iv k, iv (said (D.take k)).length, q, bv false, mine] ∧ h = h2
abbrev Post3 (h2 : H) (v q mine : V) (D : List Wd) (o : Out) : Prop :=
  o = .out (.exit 0) [v, iv D.length, iv (said D).length, q, bv false, mine] h2
theorem round3 (c : CallT) (h2 : H) (lo lo' : Nat) (v q mine : V) (D : List Wd) (hD : D.length ≤ 200) (hv : ArgV 3 wc h2 v D) (hm : SlV 3 wc h2 lo mine D) (hq : SlV 3 wc h2 lo' q (said D)) (m : Nat) (f : Fr) (h : H) (hi : Inv3 h2 v q mine D m f h) : RoundP (Inv3 h2 v q mine D) (Post3 h2 v q mine D) m (c3_6 c f h) := by
  obtain ⟨k, rfl, hk, rfl, rfl⟩ := hi
  have hlv := fun kk st => hv.len kk st
  by_cases hlt : k < D.length
  · obtain ⟨w, hw⟩ : ∃ w, D[k]? = some w := ⟨D[k], List.getElem?_eq_getElem hlt⟩
    have hltz : decide ((k : Int) < (D.length : Int)) = true := decide_eq_true (by omega)
    obtain ⟨i, hl1, hc1, hi1⟩ := hv.idx hw
    obtain ⟨j, _, hl2, hc2, hi2⟩ := hm.idx hw
    obtain ⟨a0, a1, a2⟩ := loads3 hl1 hlt hc1
    obtain ⟨b0, b1, b2⟩ := loads3 hl2 hlt hc2
    by_cases hw2 : w.1 = 2
    · have hwd : decide (w.1 = 2) = true := decide_eq_true hw2
      simp (config := { maxSteps := 100000, implicitDefEqProofs := false }) only [↓c3_6.eq_1, ↓c3_5.eq_1, ↓c3_4.eq_1, ↓c3_3.eq_1, ↓c3_2.eq_1, ↓c3_1.eq_1, ↓regC_eq, ↓x_runL_cons, ↓x_runL_nil, ↓un1C_eq, ↓bin1C_eq, ↓intC_eq, ↓pickC_eq, ↓rd1C_eq, ↓ch2C_eq, ↓callC_eq, ↓mvC_eq, ↓ckC_eq, ↓x_grdC_eq, ↓finC_eq, ↓testK_eq, ↓andThen_eq, ↓normR_eq, ↓exitC_eq, ↓blockC_eq, ↓loopC_eq, ↓litC_eq, ↓drawC_eq, ↓runD_f, ↓runD_t, ↓x_runD_nil, ↓x_commitF_cons, ↓commitF_nil, ↓envG_eq, ↓slotG_eq, ↓constG_eq, ↓nthV_zero, ↓nthV_succ, ↓setV_zero, ↓setV_succ, ↓gets_nil, ↓gets_cons, ↓pushL_nil, ↓pushL_cons, ↓n_0, ↓n_1, ↓n_2, ↓n_200, ↓tt_bv, ↓ff_bv, ↓ifB_true, ↓ifB_false, ↓onB_t, ↓onB_f, ↓thenK_norm, ↓thenK_exit, ↓thenK_ret, ↓blockK_norm, ↓blockK_ret, ↓blockK_same, ↓endK_norm, ↓endK_ret, ↓add_iv, ↓sub_iv, ↓lt_iv, ↓le_iv, ↓gt_iv, ↓ge_iv, ↓eq_iv, ↓ne_iv, ↓not_bv, ↓pick_t, ↓pick_f, ↓str_ne, ↓str_eq, ↓field_ptr, ↓guardK_tt, ↓guardK_tf, ↓guardK_ft, ↓guardK_ff, ↓guardK_un, ↓uns_zero, ↓uns_one, Nat.zero_add, Nat.add_zero, ↓chksK_nil, ↓x_chksK_cons, ↓x_chkAt_cons, ↓chkAt_nil, ↓nthH_zero, ↓drp_zero, ↓drp_succ, ↓sameA_iv, ↓sameA_bv, ↓sameA_str, ↓sameA_un, ↓hlv, hltz, ↓hi1, ↓hi2, ↓a0, ↓a1, ↓a2, ↓b0, ↓b1, ↓b2, hwd, eq_self, decide_true, Bool.not_true]
      rw [wrap_i64_in _ (by omega) (by omega)]
      exact RoundP.next (m' := D.length - (k + 1)) (by omega) ⟨k + 1, rfl, hlt, by rw [said_take hw, if_pos hw2]; rfl, rfl⟩
    · have hwd : decide (w.1 = 2) = false := decide_eq_false hw2
      have hs := said_get hw hw2
      have hls : (said (D.take k)).length < (said D).length := (List.getElem?_eq_some_iff.1 hs).1
      have hlq := fun kk st => hq.len kk st
      have hge : decide (((said D).length : Int) ≤ ((said (D.take k)).length : Int)) = false := decide_eq_false (by omega)
      obtain ⟨x, _, hl3, hc3, hi3⟩ := hq.idx hs
      obtain ⟨d0, d1, d2⟩ := loads3 hl3 hls hc3
      simp (config := { maxSteps := 100000, implicitDefEqProofs := false }) only [↓c3_6.eq_1, ↓c3_5.eq_1, ↓c3_4.eq_1, ↓c3_3.eq_1, ↓c3_2.eq_1, ↓c3_1.eq_1, ↓regC_eq, ↓x_runL_cons, ↓x_runL_nil, ↓un1C_eq, ↓bin1C_eq, ↓intC_eq, ↓pickC_eq, ↓rd1C_eq, ↓ch2C_eq, ↓callC_eq, ↓mvC_eq, ↓ckC_eq, ↓x_grdC_eq, ↓finC_eq, ↓testK_eq, ↓andThen_eq, ↓normR_eq, ↓exitC_eq, ↓blockC_eq, ↓loopC_eq, ↓litC_eq, ↓drawC_eq, ↓runD_f, ↓runD_t, ↓x_runD_nil, ↓x_commitF_cons, ↓commitF_nil, ↓envG_eq, ↓slotG_eq, ↓constG_eq, ↓nthV_zero, ↓nthV_succ, ↓setV_zero, ↓setV_succ, ↓gets_nil, ↓gets_cons, ↓pushL_nil, ↓pushL_cons, ↓n_0, ↓n_1, ↓n_2, ↓n_200, ↓tt_bv, ↓ff_bv, ↓ifB_true, ↓ifB_false, ↓onB_t, ↓onB_f, ↓thenK_norm, ↓thenK_exit, ↓thenK_ret, ↓blockK_norm, ↓blockK_ret, ↓blockK_same, ↓endK_norm, ↓endK_ret, ↓add_iv, ↓sub_iv, ↓lt_iv, ↓le_iv, ↓gt_iv, ↓ge_iv, ↓eq_iv, ↓ne_iv, ↓not_bv, ↓pick_t, ↓pick_f, ↓str_ne, ↓str_eq, ↓field_ptr, ↓guardK_tt, ↓guardK_tf, ↓guardK_ft, ↓guardK_ff, ↓guardK_un, ↓uns_zero, ↓uns_one, Nat.zero_add, Nat.add_zero, ↓chksK_nil, ↓x_chksK_cons, ↓x_chkAt_cons, ↓chkAt_nil, ↓nthH_zero, ↓drp_zero, ↓drp_succ, ↓sameA_iv, ↓sameA_bv, ↓sameA_str, ↓sameA_un, ↓hlv, ↓hlq, hltz, hge, ↓hi1, ↓hi2, ↓hi3, ↓a0, ↓a1, ↓a2, ↓b0, ↓b1, ↓b2, ↓d0, ↓d1, ↓d2, hwd, eq_self, decide_true, Bool.not_true]
      have hsl := said_len D
      rw [wrap_i64_in _ (by omega) (by omega), wrap_i64_in _ (by omega) (by omega)]
      exact RoundP.next (m' := D.length - (k + 1)) (by omega) ⟨k + 1, rfl, hlt, by rw [said_take hw, if_neg hw2, List.length_append]; rfl, rfl⟩
  · have hk' : k = D.length := by omega
    subst hk'
    simp (config := { maxSteps := 100000, implicitDefEqProofs := false }) only [↓c3_6.eq_1, ↓regC_eq, ↓x_runL_cons, ↓x_runL_nil, ↓un1C_eq, ↓bin1C_eq, ↓intC_eq, ↓pickC_eq, ↓rd1C_eq, ↓ch2C_eq, ↓callC_eq, ↓mvC_eq, ↓ckC_eq, ↓x_grdC_eq, ↓finC_eq, ↓testK_eq, ↓andThen_eq, ↓normR_eq, ↓exitC_eq, ↓blockC_eq, ↓loopC_eq, ↓litC_eq, ↓drawC_eq, ↓runD_f, ↓runD_t, ↓x_runD_nil, ↓x_commitF_cons, ↓commitF_nil, ↓envG_eq, ↓slotG_eq, ↓constG_eq, ↓nthV_zero, ↓nthV_succ, ↓setV_zero, ↓setV_succ, ↓gets_nil, ↓gets_cons, ↓pushL_nil, ↓pushL_cons, ↓n_0, ↓n_1, ↓n_2, ↓n_200, ↓tt_bv, ↓ff_bv, ↓ifB_true, ↓ifB_false, ↓onB_t, ↓onB_f, ↓thenK_norm, ↓thenK_exit, ↓thenK_ret, ↓blockK_norm, ↓blockK_ret, ↓blockK_same, ↓endK_norm, ↓endK_ret, ↓add_iv, ↓sub_iv, ↓lt_iv, ↓le_iv, ↓gt_iv, ↓ge_iv, ↓eq_iv, ↓ne_iv, ↓not_bv, ↓pick_t, ↓pick_f, ↓str_ne, ↓str_eq, ↓field_ptr, ↓guardK_tt, ↓guardK_tf, ↓guardK_ft, ↓guardK_ff, ↓guardK_un, ↓uns_zero, ↓uns_one, Nat.zero_add, Nat.add_zero, ↓hlv, Int.lt_irrefl, decide_false]
    exact RoundP.exit (by simp [Post3])
theorem callN_prim {P : Program} {lays : FuncId → Lay} {prims : FuncId → Option CallT} {g : FuncId} {p : CallT} (hp : prims g = some p) (n : Nat) (xs : List V) (h : H) (k : KH) : callN P lays prims (n + 1) g xs h k = p g xs h k := by
  show optFn (fnOf P lays prims g) (fun x => fnK x (callN P lays prims n) g xs h k) (.stuck "no function") = _
  unfold fnOf
  rw [hp]
  rfl
theorem place6 (prims : FuncId → Option CallT) (hp : prims 6 = none) (n m : Nat) (h : H) (k : KH) : callN Tryz.prog (layAt table) prims (n + 1) 6 [iv m, iv 1] h k = k [iv 0] h := by
  rw [callN_fn (fn6 prims hp) n [iv m, iv 1] h k rfl]
  have hf : frame0 4 [iv m, iv 1] = [iv m, iv 1, .junk, .junk] := rfl
  have e1 : ∀ (kk : KV) (st : Out), bin2 remQ remI (iv m) (iv 1) kk st = kk (iv 0) := fun kk st => by rw [rem_iv _ _ (by omega), Int.tmod_one]
  simp (config := { maxSteps := 100000, implicitDefEqProofs := false }) only [hf, ↓code6.eq_1, ↓c6_2.eq_1, ↓c6_1.eq_1, ↓c6_0.eq_1, ↓regC_eq, ↓x_runL_cons, ↓x_runL_nil, ↓un1C_eq, ↓bin1C_eq, ↓intC_eq, ↓pickC_eq, ↓rd1C_eq, ↓ch2C_eq, ↓callC_eq, ↓mvC_eq, ↓ckC_eq, ↓x_grdC_eq, ↓finC_eq, ↓testK_eq, ↓andThen_eq, ↓normR_eq, ↓exitC_eq, ↓blockC_eq, ↓loopC_eq, ↓litC_eq, ↓drawC_eq, ↓runD_f, ↓runD_t, ↓x_runD_nil, ↓x_commitF_cons, ↓commitF_nil, ↓envG_eq, ↓slotG_eq, ↓constG_eq, ↓nthV_zero, ↓nthV_succ, ↓setV_zero, ↓setV_succ, ↓gets_nil, ↓gets_cons, ↓pushL_nil, ↓pushL_cons, ↓n_0, ↓n_1, ↓n_2, ↓n_200, ↓tt_bv, ↓ff_bv, ↓ifB_true, ↓ifB_false, ↓onB_t, ↓onB_f, ↓thenK_norm, ↓thenK_exit, ↓thenK_ret, ↓blockK_norm, ↓blockK_ret, ↓blockK_same, ↓endK_norm, ↓endK_ret, ↓add_iv, ↓sub_iv, ↓lt_iv, ↓le_iv, ↓gt_iv, ↓ge_iv, ↓eq_iv, ↓ne_iv, ↓not_bv, ↓pick_t, ↓pick_f, ↓str_ne, ↓str_eq, ↓field_ptr, ↓guardK_tt, ↓guardK_tf, ↓guardK_ft, ↓guardK_ff, ↓guardK_un, ↓uns_zero, ↓uns_one, Nat.zero_add, Nat.add_zero, ↓e1, Int.lt_irrefl, decide_false]
  rfl
/-- VmQuiets answers true -/
theorem vm3 (prims : FuncId → Option CallT) (hp3 : prims 3 = none) (hp5 : prims 5 = none) (hp6 : prims 6 = none) (hp4 : prims 4 = some (constP [] [.tt])) (n : Nat) (D : List Wd) (v : V) (h0 : H) (hv : ArgV 3 wc h0 v D) :
    ∃ h, h0.nx ≤ h.nx ∧ (∀ i, i < h0.nx → h.at i = h0.at i) ∧ ∀ k, callN Tryz.prog (layAt table) prims (n + 2) 3 [v] h0 k = k [bv true] h := by
  have hc4 : ∀ h k, callN Tryz.prog (layAt table) prims (n + 1) 4 [] h k = k [bv true] h := fun h k => by rw [callN_prim hp4]; rfl
  have hc6 := place6 prims hp6 n
  have hlv := fun kk st => hv.len kk st
  have hf : frame0 6 [v] = [v, .junk, .junk, .junk, .junk, .junk] := rfl
  by_cases hD : D.length ≤ 200
  · have hgt : decide ((200 : Int) < (D.length : Int)) = false := decide_eq_false (by omega)
    obtain ⟨mine, h1, hm, hat1, hnx1, e1⟩ := hv.copy (bb := 65) (by omega) wc_cells (by omega)
    obtain ⟨q, h2, hq, hnx2, hat2, e2⟩ := quiet5 prims hp5 n D mine h1 h0.nx hD hm
    have hv2 : ArgV 3 wc h2 v D := hv.mono (fun i hi => (hat2 i (by omega)).trans (hat1 i hi)) (by omega)
    have hm2 : SlV 3 wc h2 h0.nx mine D := hm.mono (fun i _ hi => hat2 i hi) hnx2 (by omega)
    have hl : Post3 h2 v q mine D (loopN bigFuel (c3_6 (callN Tryz.prog (layAt table) prims (n + 1))) [v, iv 0, iv 0, q, bv false, mine] h2) :=
      loop_rule (Inv3 h2 v q mine D) (round3 _ h2 _ _ v q mine D hD hv2 hm2 hq) bigFuel D.length _ _ ⟨0, rfl, by omega, rfl, rfl⟩ (by unfold bigFuel; omega)
    have hlq := fun kk st => hq.len kk st
    have n1 : decide (h0.nx ≤ h1.nx) = true := decide_eq_true hnx1
    have n2 : decide (h1.nx ≤ h2.nx) = true := decide_eq_true hnx2
    have n3 : decide (h2.nx ≤ h2.nx) = true := decide_eq_true (Nat.le_refl _)
    refine ⟨h2, by omega, fun i hi => (hat2 i (by omega)).trans (hat1 i hi), fun k => ?_⟩
    rw [callN_fn (fn3 prims hp3) (n + 1) [v] h0 k rfl]
    simp (config := { maxSteps := 100000, implicitDefEqProofs := false }) only [hf, ↓code3.eq_1, ↓c3_11.eq_1, ↓c3_10.eq_1, ↓c3_9.eq_1, ↓c3_8.eq_1, ↓c3_7.eq_1, ↓c3_0.eq_1, ↓regC_eq, ↓x_runL_cons, ↓x_runL_nil, ↓un1C_eq, ↓bin1C_eq, ↓intC_eq, ↓pickC_eq, ↓rd1C_eq, ↓ch2C_eq, ↓callC_eq, ↓mvC_eq, ↓ckC_eq, ↓x_grdC_eq, ↓finC_eq, ↓testK_eq, ↓andThen_eq, ↓normR_eq, ↓exitC_eq, ↓blockC_eq, ↓loopC_eq, ↓litC_eq, ↓drawC_eq, ↓runD_f, ↓runD_t, ↓x_runD_nil, ↓x_commitF_cons, ↓commitF_nil, ↓envG_eq, ↓slotG_eq, ↓constG_eq, ↓nthV_zero, ↓nthV_succ, ↓setV_zero, ↓setV_succ, ↓gets_nil, ↓gets_cons, ↓pushL_nil, ↓pushL_cons, ↓n_0, ↓n_1, ↓n_2, ↓n_200, ↓tt_bv, ↓ff_bv, ↓ifB_true, ↓ifB_false, ↓onB_t, ↓onB_f, ↓thenK_norm, ↓thenK_exit, ↓thenK_ret, ↓blockK_norm, ↓blockK_ret, ↓blockK_same, ↓endK_norm, ↓endK_ret, ↓add_iv, ↓sub_iv, ↓lt_iv, ↓le_iv, ↓gt_iv, ↓ge_iv, ↓eq_iv, ↓ne_iv, ↓not_bv, ↓pick_t, ↓pick_f, ↓str_ne, ↓str_eq, ↓field_ptr, ↓guardK_tt, ↓guardK_tf, ↓guardK_ft, ↓guardK_ff, ↓guardK_un, ↓uns_zero, ↓uns_one, Nat.zero_add, Nat.add_zero, ↓hlv, ↓hlq, ↓e1, ↓e2, ↓hl, ↓hc4, ↓hc6, hgt, nxle_eq, n1, n2, n3, eq_self, decide_true]
    rfl
  · have hgt : decide ((200 : Int) < (D.length : Int)) = true := decide_eq_true (by omega)
    have n3 : decide (h0.nx ≤ h0.nx) = true := decide_eq_true (Nat.le_refl _)
    refine ⟨h0, Nat.le_refl _, fun _ _ => rfl, fun k => ?_⟩
    rw [callN_fn (fn3 prims hp3) (n + 1) [v] h0 k rfl]
    simp (config := { maxSteps := 100000, implicitDefEqProofs := false }) only [hf, ↓code3.eq_1, ↓c3_11.eq_1, ↓c3_10.eq_1, ↓regC_eq, ↓x_runL_cons, ↓x_runL_nil, ↓un1C_eq, ↓bin1C_eq, ↓intC_eq, ↓pickC_eq, ↓rd1C_eq, ↓ch2C_eq, ↓callC_eq, ↓mvC_eq, ↓ckC_eq, ↓x_grdC_eq, ↓finC_eq, ↓testK_eq, ↓andThen_eq, ↓normR_eq, ↓exitC_eq, ↓blockC_eq, ↓loopC_eq, ↓litC_eq, ↓drawC_eq, ↓runD_f, ↓runD_t, ↓x_runD_nil, ↓x_commitF_cons, ↓commitF_nil, ↓envG_eq, ↓slotG_eq, ↓constG_eq, ↓nthV_zero, ↓nthV_succ, ↓setV_zero, ↓setV_succ, ↓gets_nil, ↓gets_cons, ↓pushL_nil, ↓pushL_cons, ↓n_0, ↓n_1, ↓n_2, ↓n_200, ↓tt_bv, ↓ff_bv, ↓ifB_true, ↓ifB_false, ↓onB_t, ↓onB_f, ↓thenK_norm, ↓thenK_exit, ↓thenK_ret, ↓blockK_norm, ↓blockK_ret, ↓blockK_same, ↓endK_norm, ↓endK_ret, ↓add_iv, ↓sub_iv, ↓lt_iv, ↓le_iv, ↓gt_iv, ↓ge_iv, ↓eq_iv, ↓ne_iv, ↓not_bv, ↓pick_t, ↓pick_f, ↓str_ne, ↓str_eq, ↓field_ptr, ↓guardK_tt, ↓guardK_tf, ↓guardK_ft, ↓guardK_ff, ↓guardK_un, ↓uns_zero, ↓uns_one, Nat.zero_add, Nat.add_zero, ↓hlv, ↓hc4, hgt, nxle_eq, n3]
    rfl
end
end Go.Proofs.YthjfngdhenpgmaaGreat
