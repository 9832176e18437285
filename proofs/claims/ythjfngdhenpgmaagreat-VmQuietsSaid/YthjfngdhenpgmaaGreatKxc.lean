/- The evaluator is sound, part 2: literals, operations, plain regions. Condition: none. -/
import Derived.Test.YthjfngdhenpgmaaGreatKxb
set_option linter.unusedSectionVars false
set_option linter.unusedVariables false
set_option linter.unusedSimpArgs false
namespace Go.Kx
noncomputable section
variable [Sig]
section
variable {P : Program}

theorem run_strBytes (e : TypeId) (l : List Nat) (w : World) : ∃ cap row, l.length ≤ cap ∧ row = byteCells (bsOf l) ++ List.replicate (cap - l.length) (Value.int .u8 0) ∧
    (Conv.stringToBytes e (bsOf l)).run P w = .ok (.slice (some ⟨w.heap.size, 0, none⟩) l.length cap) ((w.drew.alloc (.cells row.toArray e)).freeze ⟨w.heap.size, row.toArray.size, none⟩ 1) := by
  have hsz : (bsOf l).size = l.length := bs_size l
  have hcap := grownCap_ge w l.length 0 e
  generalize hc : grownCap w l.length 0 e = cap at hcap
  refine ⟨cap, _, hcap, rfl, ?_⟩
  generalize hr : byteCells (bsOf l) ++ List.replicate (cap - l.length) (Value.int .u8 0) = row
  have hq : (Question.appendCap l.length 0 e).forced = false := rfl
  have hcut : (Question.appendCap l.length 0 e).cut (w.tape w.drawn (Question.appendCap l.length 0 e)) = cap := hc
  have hd : (bsOf l).data.map (fun b => Value.int .u8 (b.toNat : Int)) ++ Array.replicate (cap - l.length) (Value.int .u8 0) = row.toArray := by
    rw [← hr]
    apply Array.ext'
    simp [byteCells]
  have hnew : ∀ o, (newObj o).run P w.drew = .ok w.heap.size (w.drew.alloc o) := fun o => rfl
  have hsh : (w.drew.alloc (.cells row.toArray e)).shape? w.heap.size = some (e, row.toArray.size) := by
    have h1 : (w.drew.alloc (.cells row.toArray e)).heap[w.heap.size]? = some (.cells row.toArray e) := by
      show (w.heap.push _)[w.heap.size]? = _
      simp
    unfold World.shape?
    rw [h1]
  have hch : (choose (.appendCap l.length 0 e)).run P w = .ok cap w.drew := by
    simp only [run_choose, hq, hcut]
    rfl
  unfold Conv.stringToBytes
  rw [hsz]
  simp only [Sem.run_bind, hch, Result.andThen_ok, hd, newRow, hnew, markStringish, run_shape, hsh, run_freeze, Sem.run_pure]
theorem bytesM_ok (s t e : TypeId) (ht : P.underlying t = some (.slice e)) (hs : P.underlying s = some .string) (he : P.underlying e = some (.int .u8)) (x : V) (kk : KM) (st : Out) :
    Ok (bytesM x kk st) st fun o => ∃ b m, o = kk b m ∧ ∀ μ xv w, VRel μ x xv → Made P (convert s t xv) b m μ w := by
  refine Ok.onStr fun n l hx => .inr ⟨_, _, rfl, fun μ xv w hxv => ?_⟩
  subst hx
  cases hxv with
  | str _ _ hn h8 =>
    obtain ⟨cap, row, h1, h2, h3⟩ := run_strBytes (P := P) e l w
    have hbc := byteCells_bs l h8
    have hlen : row.toArray.size = cap := by rw [h2, hbc]; simp; omega
    subst hn
    have hp := Push.push w (.cells row.toArray e) (w.drawn + 1)
    have hu := freeze_upd (g := w.heap.size) (w := w.drew.alloc (.cells row.toArray e)) (c := row.toArray) (el := e) (fr := (0, 0)) hp.self row.toArray.size 1 (by omega)
    refine ⟨.slice (some ⟨w.heap.size, 0, none⟩) l.length cap, _, .cells row.toArray e (row.toArray.size, row.toArray.size + 1), 0, cap, l.length, ?_, ⟨hu.self, fun k hk => ?_, ?_, ?_, ?_, ?_⟩, fun μ' i hle hi => ⟨?_, ?_⟩⟩
    · show (convert s t (.string (bsOf l))).run P w = _
      simp only [convert, Sem.run_bind, run_under hs, run_under ht, run_under he, Result.andThen_ok]
      exact h3
    · rw [hu.other k (by omega)]; exact hp.other k hk
    · rw [hu.size]; exact hp.size
    · exact hu.tape
    · exact hu.os
    · exact hu.output
    · refine .cells _ _ _ e _ (fun _ => Blk.noConfusion) ⟨Nat.le_of_eq hlen.symm, rfl, by show 0 + l.length ≤ cap; omega, by show (mapL _ l).length = l.length; rw [mapL_eq]; simp, .inl (.inr (Nat.le_refl _)), fun k hk => ?_⟩
      have hk : k < l.length := hk
      have hrel := rel_bytes μ' l
      obtain ⟨v, hv, hr⟩ := hrel.get (nth_some (show k < (l.map fun b : Nat => V.int .u8 (Int.ofNat b)).length by simpa using hk))
      refine ⟨v, ?_, ?_⟩
      · show row.toArray[0 + k]? = some v
        rw [Nat.zero_add, h2, hbc]
        simp only [List.getElem?_toArray]
        rw [List.getElem?_append_left (by simpa using hk)]
        exact hv
      · show VRel μ' (nthV (mapL _ l) k) v
        rw [mapL_eq]; exact hr
    · have := VRel.free (μ := μ') i 0 l.length 1 cap ⟨w.heap.size, 0, cap, l.length⟩ hi (by show 0 + 0 + cap * 1 ≤ cap; omega) (by show l.length ≤ 0 + cap * 1; omega) h1
      simpa using this
end
end
end Go.Kx
namespace Go.Kx
noncomputable section
variable [Sig]
section
variable {P : Program}

/- ## literals -/
theorem setRange : ∀ (vs : List Value) (i off : Nat) (ds : Array Value), ∃ ds', (vs.zipIdx i).foldl (fun (cs : Array Value) (p : Value × Nat) => cs.setIfInBounds (off + p.2) p.1) ds = ds' ∧ ds'.size = ds.size ∧
    (off + i + vs.length ≤ ds.size → ∀ k, ds'[k]? = if off + i ≤ k ∧ k < off + i + vs.length then vs[k - (off + i)]? else ds[k]?)
  | [], i, off, ds => ⟨ds, rfl, rfl, fun _ k => by rw [if_neg]; simp⟩
  | v :: vs, i, off, ds => by
    obtain ⟨ds', h1, h2, h3⟩ := setRange vs (i + 1) off (ds.setIfInBounds (off + i) v)
    refine ⟨ds', by simpa [List.zipIdx_cons] using h1, by simpa using h2, fun hle k => ?_⟩
    have hlt : off + i < ds.size := by simp at hle; omega
    rw [h3 (by simp at hle ⊢; omega) k]
    by_cases hk : k = off + i
    · subst hk
      rw [if_neg (by omega), if_pos (by simp)]
      simp [hlt]
    · by_cases hk2 : off + (i + 1) ≤ k ∧ k < off + (i + 1) + vs.length
      · rw [if_pos hk2, if_pos (by simp; omega), show k - (off + i) = (k - (off + (i + 1))) + 1 by omega]
        rfl
      · rw [if_neg hk2, if_neg (by simp; omega)]
        simp [Ne.symm hk]
theorem fill_fold (c : Array Value) (off : Nat) (ds : Array Value) : c.zipIdx.foldl (fun cs x => match x with | (c, j) => cs.setIfInBounds (off + j) c) ds = (c.toList.zipIdx 0).foldl (fun (cs : Array Value) (p : Value × Nat) => cs.setIfInBounds (off + p.2) p.1) ds := by
  rw [← Array.foldl_toList]
  simp [Array.toList_zipIdx]
def sizeP (s : Option Nat) : Nat := match s with | some n => n | none => 1
/-- parts of a literal, and the parts of the model's -/
inductive PartRel (μ : Mu) (pl : Nat → Option (Nat × Nat)) (total : Nat) : List ((Nat × Option Nat) × V) → List (Nat × Value) → Prop where
  | nil : PartRel μ pl total [] []
  | cons {off : Nat} {s : Option Nat} {a : V} {i : Nat} {v : Value} {l : List ((Nat × Option Nat) × V)} {ps : List (Nat × Value)} (hp : pl i = some (off, sizeP s)) (hle : off + sizeP s ≤ total) (hv : VRel μ a v) (t : PartRel μ pl total l ps) :
      PartRel μ pl total (((off, s), a) :: l) ((i, v) :: ps)
theorem fill_one {μ : Mu} {as : List V} {c : Array Value} (hc : VsRel μ as c.toList) {cs : List V} {ds : Array Value} (h : VsRel μ cs ds.toList) {off n : Nat} (hn : as.length = n) (hle : off + n ≤ cs.length) :
    ∃ ds', c.zipIdx.foldl (fun cs x => match x with | (c, j) => cs.setIfInBounds (off + j) c) ds = ds' ∧ ds'.size = ds.size ∧ VsRel μ (spl cs as off n) ds'.toList := by
  obtain ⟨ds', h1, h2, h3⟩ := setRange c.toList 0 off ds
  have hl := h.length
  have hcl := hc.length
  simp only [Array.length_toList] at hl hcl h3
  refine ⟨ds', by rw [fill_fold]; exact h1, h2, VsRel.of_get (by rw [spl_len cs as off n hn hle, hl]; simpa using h2.symm) fun k a b ha hb => ?_⟩
  rw [spl_get cs as off n k hn hle] at ha
  have hb' : ds'[k]? = some b := by simpa using hb
  rw [h3 (by omega) k] at hb'
  by_cases hk : off ≤ k ∧ k < off + n
  · rw [if_pos hk] at ha
    rw [if_pos (by omega)] at hb'
    obtain ⟨v, hv, hr⟩ := hc.get ha
    rw [show k - (off + 0) = k - off by omega] at hb'
    rw [hv] at hb'
    injection hb' with e
    exact e ▸ hr
  · rw [if_neg hk] at ha
    rw [if_neg (by omega)] at hb'
    obtain ⟨v, hv, hr⟩ := h.get ha
    have hv' : ds[k]? = some v := by simpa using hv
    rw [hv'] at hb'
    injection hb' with e
    exact e ▸ hr
theorem setV_spl (cs : List V) (off : Nat) (a : V) (h : off + 1 ≤ cs.length) : setV cs off a = spl cs [a] off 1 := by
  apply List.ext_getElem?
  intro k
  rw [setV_get, spl_get cs [a] off 1 k rfl h]
  by_cases hk : k = off
  · subst hk
    rw [if_pos ⟨rfl, by omega⟩, if_pos (by omega)]
    simp
  · rw [if_neg (fun h => hk h.1), if_neg (by omega)]
theorem fill_cons {pl : Nat → Option (Nat × Nat)} {ds : Array Value} {i off n : Nat} {v : Value} {ps : List (Nat × Value)} (hpl : pl i = some (off, n)) (h1 : v.cells.size = n) (h2 : off + n ≤ ds.size) :
    Instr.fill pl ds ((i, v) :: ps) = Instr.fill pl (v.cells.zipIdx.foldl (fun cs x => match x with | (c, j) => cs.setIfInBounds (off + j) c) ds) ps := by
  simp only [Instr.fill, hpl, h1]
  have c2 : (decide (n ≠ n) || decide (off + n > ds.size)) = false := by simp; omega
  rw [if_neg (by rw [c2]; exact Bool.false_ne_true)]
theorem fillK_ok (total : Nat) : ∀ (l : List ((Nat × Option Nat) × V)) (cs : List V) (kk : KL) (st : Out), (∀ p, p ∈ l → p.1.1 + sizeP p.1.2 ≤ total) → cs.length = total → Ok (fillK l cs kk st) st fun o =>
    ∃ cs', o = kk cs' ∧ cs'.length = total ∧ ∀ μ pl ps ds, PartRel μ pl total l ps → VsRel μ cs ds.toList → ∃ ds', Instr.fill pl ds ps = some ds' ∧ VsRel μ cs' ds'.toList
  | [], cs, kk, st, _, hl => .inr ⟨cs, rfl, hl, fun μ pl ps ds h hr => by cases h; exact ⟨ds, rfl, hr⟩⟩
  | ((off, none), a) :: l, cs, kk, st, hall, hl => by
    have hle : off + 1 ≤ total := hall ((off, none), a) (by simp)
    refine Ok.ifB fun hc => (fillK_ok total l (setV cs off a) kk st (fun p hp => hall p (by simp [hp])) (by rw [setV_eq]; simpa using hl)).mono fun o ⟨cs', ho, hl', h⟩ => ⟨cs', ho, hl', fun μ pl ps ds hp hr => ?_⟩
    cases hp with
    | cons hpl hle' hv t =>
      rename_i i v ps
      have hcell : v.cells = #[v] := scalar_cells (hv.scalar hc)
      obtain ⟨ds1, h1, h2, h3⟩ := fill_one (μ := μ) (as := [a]) (c := v.cells) (by rw [hcell]; exact .cons hv .nil) hr (off := off) (n := 1) rfl (by omega)
      rw [← setV_spl cs off a (by omega)] at h3
      obtain ⟨ds', h4, h5⟩ := h μ pl ps ds1 t h3
      refine ⟨ds', ?_, h5⟩
      have hds := hr.length
      simp only [Array.length_toList] at hds
      rw [fill_cons hpl (by rw [hcell]; rfl) (by show off + 1 ≤ _; omega), h1]
      exact h4
  | ((off, some n), a) :: l, cs, kk, st, hall, hl => by
    have hle : off + n ≤ total := hall ((off, some n), a) (by simp)
    refine Ok.onAgg fun vs ha => Ok.ifB fun hn => ?_
    have hn : vs.length = n := by have := beq_true hn; rwa [len_eq] at this
    refine (fillK_ok total l (spl cs vs off n) kk st (fun p hp => hall p (by simp [hp])) (by rw [spl_len cs vs off n hn (by omega)]; exact hl)).mono fun o ⟨cs', ho, hl', h⟩ => ⟨cs', ho, hl', fun μ pl ps ds hp hr => ?_⟩
    cases hp with
    | cons hpl hle' hv t =>
      rename_i i v ps
      have ha : a = .agg vs := ha
      subst ha
      cases hv with
      | agg _ c hc =>
        obtain ⟨ds1, h1, h2, h3⟩ := fill_one (μ := μ) hc hr (off := off) (n := n) hn (by omega)
        obtain ⟨ds', h4, h5⟩ := h μ pl ps ds1 t h3
        refine ⟨ds', ?_, h5⟩
        have hds := hr.length
        have hcl := hc.length
        simp only [Array.length_toList] at hds hcl
        rw [fill_cons hpl (by show c.size = n; omega) (by show off + n ≤ _; omega)]
        exact (congrArg (fun d => Instr.fill pl d ps) h1).trans h4
end
end
end Go.Kx
namespace Go.Kx
noncomputable section
variable [Sig]
section
variable {P : Program}

theorem place1_spec {off : Nat} {u : TypeId} {q : Nat × Option Nat} (h : place1 P off u = some q) : q.1 = off ∧ sizeP q.2 = sz P u ∧ okT P u = true := by
  unfold place1 at h
  cases h1 : okT P u with
  | false => rw [h1] at h; cases h
  | true =>
    rw [h1] at h
    cases h2 : aggT P u with
    | true => rw [h2] at h; injection h with h; subst h; exact ⟨rfl, rfl, rfl⟩
    | false =>
      rw [h2] at h
      cases h3 : Nat.beq (sz P u) 1 with
      | false => rw [h3] at h; cases h
      | true => rw [h3] at h; injection h with h; subst h; exact ⟨rfl, (beq_true h3).symm, rfl⟩
theorem places_list : ∀ (fs : List Field), fs.all (fun f => (P.info? f.type).isSome) = true → fs.mapM (fun f => (P.info? f.type).map fun i => (f.offset, i.size)) = some (fs.map fun f => (f.offset, sz P f.type))
  | [], _ => rfl
  | f :: fs, h => by
    simp only [List.all_cons, Bool.and_eq_true] at h
    obtain ⟨i, hi⟩ := Option.isSome_iff_exists.1 h.1
    have : sz P f.type = i.size := by simp [sz, Program.cellsOf, hi]
    simp [List.mapM_cons, hi, places_list fs h.2, this]
theorem placesOf_spec {t : TypeId} {pl : Nat → Option (Nat × Option Nat)} {z : List V} (h : placesOf P t = some pl) (hz : zeroOf P t = some z) : ∃ (pl' : Nat → Option (Nat × Nat)) (zv : Array Value), (∀ i q, pl i = some q → pl' i = some (q.1, sizeP q.2)) ∧ z = mapL ofCell zv.toList ∧
    ∀ (parts : Array (Nat × Value)) (cells : Array Value), Instr.fill pl' zv parts.toList = some cells → ∀ w, (Instr.build t parts).run P w = .ok (.agg cells) w := by
  obtain ⟨it, v, hi, hv, hzv⟩ := zeroOf_spec hz
  unfold placesOf at h
  split at h
  · next fs hu =>
    cases hall : fs.toList.all (fun f => (P.info? f.type).isSome) with
    | false => rw [hall] at h; cases h
    | true =>
      rw [hall] at h
      injection h with h
      refine ⟨((fs.toList.map fun f => (f.offset, sz P f.type)).toArray[·]?), v.cells, fun i q hq => ?_, hzv, fun parts cells hf w => run_build w t parts cells ?_⟩
      · rw [← h] at hq
        cases hfi : fs[i]? with
        | none => simp [hfi] at hq
        | some fl =>
          simp only [hfi] at hq
          obtain ⟨h1, h2, _⟩ := place1_spec hq
          have : fs.toList[i]? = some fl := by simpa using hfi
          simp [hfi, h1, h2]
      · unfold Program.built
        simp only [hi, hu, hv, places_list fs.toList hall]
        exact hf
  · next n e hu =>
    cases hie : P.info? e with
    | none => simp [hie] at h
    | some ie =>
      simp only [hie, Option.isSome_some, cond_true, Option.some.injEq] at h
      have hsz : sz P e = ie.size := by simp [sz, Program.cellsOf, hie]
      refine ⟨fun i => some (i * ie.size, ie.size), v.cells, fun i q hq => ?_, hzv, fun parts cells hf w => run_build w t parts cells ?_⟩
      · rw [← h] at hq
        obtain ⟨h1, h2, _⟩ := place1_spec hq
        rw [h1, h2, hsz]
        rfl
      · unfold Program.built
        simp only [hi, hu, hv, hie]
        exact hf
  · cases h
theorem run_buildSlice' (w : World) (t e : TypeId) (ln : Nat) (parts : Array (Nat × Value)) (cells : Array Value) (ie : TypeInfo) (z : Value) (hu : P.underlying t = some (.slice e)) (hie : P.info? e = some ie) (hz : ie.zero = some z) (hzs : z.cells.size = ie.size)
    (hsmall : ln * ie.size ≤ 2 ^ 24) (h : Instr.fill (fun i => some (i * ie.size, ie.size)) (Builtin.zeroCells z.cells ln) parts.toList = some cells) :
    (Instr.buildSlice t ln parts).run P w = .ok (.slice (some ⟨w.heap.size, 0, none⟩) ln ln) (w.alloc (.cells cells e)) := by
  by_cases h0 : ln * ie.size = 0
  · have h1 : Builtin.zeroCells z.cells ln = #[] := by
      apply Array.ext'
      apply List.length_eq_zero_iff.1
      rw [zeroCells_length, hzs]; exact h0
    rw [h1] at h
    have h2 : Array.map (fun _ : Nat => (default : Value)) (Array.range 0) = #[] := by apply Array.ext'; simp
    simp [Instr.buildSlice, run_under hu, sizeOf, typeInfo, hie, h0, newRow, h2, h]
  · refine run_buildSlice w t e ln parts cells ie z hu hie hz (by omega) h0 ?_
    rw [← hzs] at h ⊢
    exact h
/-- a literal's parts, from its operands' values -/
theorem part_rel {μ : Mu} {pl : Nat → Option (Nat × Option Nat)} {pl' : Nat → Option (Nat × Nat)} (hpl : ∀ i q, pl i = some q → pl' i = some (q.1, sizeP q.2)) {total : Nat} :
    ∀ {ps : List ((Nat × Option Nat) × V)} {qs : List (Nat × Value)}, ps.length = qs.length → (∀ (k : Nat) p q, ps[k]? = some p → qs[k]? = some q → pl q.1 = some p.1 ∧ p.1.1 + sizeP p.1.2 ≤ total ∧ VRel μ p.2 q.2) → PartRel μ pl' total ps qs
  | [], [], _, _ => .nil
  | ((off, s), a) :: ps, (i, v) :: qs, hl, h => by
    obtain ⟨h1, h2, h3⟩ := h 0 _ _ rfl rfl
    exact .cons (hpl i _ h1) h2 h3 (part_rel hpl (by simpa using hl) fun k p q hp hq => h (k + 1) p q (by simpa using hp) (by simpa using hq))
end
end
end Go.Kx
namespace Go.Kx
noncomputable section
variable [Sig]
section
variable {P : Program}

/- ## operands -/
def aoV (e : Ev) (f : Fr) : AO → V
  | .env l => nthV e (e.length - 1 - l)
  | .slot k => nthV f k
  | .const v => v
/-- an operand's name is of a level below -/
def AO.below (d : Nat) : AO → Prop
  | .env l => l < d
  | _ => True
def Nm.below (d : Nat) : Nm → Prop
  | .val a => a.below d
  | .tup l => ∀ a, a ∈ l → a.below d
theorem AO.below_mono {a : AO} {d d' : Nat} (h : a.below d) (hd : d ≤ d') : a.below d' := by
  cases a <;> first | trivial | exact Nat.lt_of_lt_of_le h hd
theorem Nm.below_mono {m : Nm} {d d' : Nat} (h : m.below d) (hd : d ≤ d') : m.below d' := by
  cases m with
  | val a => exact AO.below_mono h hd
  | tup l => exact fun a ha => AO.below_mono (h a ha) hd
theorem aoV_app {a : AO} {e : Ev} (h : a.below e.length) (l : Ev) (f : Fr) : aoV (l ++ e) f a = aoV e f a := by
  cases a with
  | env k =>
    have h : k < e.length := h
    show nthV (l ++ e) ((l ++ e).length - 1 - k) = nthV e (e.length - 1 - k)
    rw [nthV_eq, nthV_eq, List.getElem?_append_right (by simp; omega)]
    congr 2
    simp; omega
  | slot k => rfl
  | const v => rfl
inductive NRel (μ : Mu) (e : Ev) (f : Fr) : Nm → Value → Prop where
  | val {a : AO} {v : Value} (h : VRel μ (aoV e f a) v) : NRel μ e f (.val a) v
  | tup {l : List AO} {vs : Array Value} (h : VsRel μ (l.map (aoV e f)) vs.toList) : NRel μ e f (.tup l) (.tuple vs)
theorem NRel.mono {μ μ' : Mu} {e : Ev} {f : Fr} {m : Nm} {v : Value} (h : NRel μ e f m v) (hm : μ.le μ') : NRel μ' e f m v := by
  cases h with
  | val h => exact .val (h.mono hm)
  | tup h => exact .tup (h.mono hm)
theorem NRel.app {μ : Mu} {e : Ev} {f : Fr} {m : Nm} {v : Value} (h : NRel μ e f m v) (hb : m.below e.length) (l : Ev) : NRel μ (l ++ e) f m v := by
  cases h with
  | val h => exact .val (by rw [aoV_app hb]; exact h)
  | tup h =>
    refine .tup ?_
    rename_i as vs
    have : as.map (aoV (l ++ e) f) = as.map (aoV e f) := List.map_congr_left fun a ha => aoV_app (hb a ha) l f
    rw [this]; exact h
def NamesOk (nm : Names) (d : Nat) : Prop := ∀ t m, lk nm t = some m → m.below d
def ORel (μ : Mu) (nm : Names) (lay : Lay) (e : Ev) (f : Fr) (ρ : Operand → Value) (x : Operand) : Prop := ∀ m, resolve nm lay x = some m → NRel μ e f m (ρ x)
theorem resolve_below {nm : Names} {lay : Lay} {d : Nat} (h : NamesOk nm d) {x : Operand} {m : Nm} (hr : resolve nm lay x = some m) : m.below d := by
  cases x with
  | tmp t =>
    simp only [resolve] at hr
    split at hr
    · next m' hm => injection hr with hr; subst hr; exact h t m' hm
    · split at hr
      · injection hr with hr; subst hr; trivial
      · cases hr
  | const v => simp only [resolve] at hr; injection hr with hr; subst hr; trivial
  | global g => simp only [resolve] at hr; cases hr
  | func g => simp only [resolve] at hr; injection hr with hr; subst hr; trivial
theorem withG_eq {β : Type} (d : Nat) (a : AO) (K : Gt → β) : ∃ g, withG d a K = K g ∧ ∀ e f, e.length = d → g e f = aoV e f a := by
  cases a with
  | env l => exact ⟨envG (d - 1 - l), forceS_eq (d - 1 - l) (fun k => K (envG k)), fun e f h => by subst h; rfl⟩
  | slot k => exact ⟨slotG k, forceS_eq k (fun k => K (slotG k)), fun e f h => rfl⟩
  | const v => exact ⟨constG v, rfl, fun e f h => rfl⟩

/- ## what a compiled operation does -/
/-- an operation's end -/
def Upon (P : Program) (r : Result Next) (R : Value → World → Prop) : Prop :=
  match r with
  | .ok (.value v) w' => R v w'
  | .ok .skip w' => R undef w'
  | .ok (.enter g args) w' => Calls P g args w' fun e w'' => ∃ v, e = .returned v ∧ R v w''
  | _ => False
theorem Upon.mono {r : Result Next} {R R' : Value → World → Prop} (h : Upon P r R) (k : ∀ v w, R v w → R' v w) : Upon P r R' := by
  cases r with
  | ok n w =>
    cases n <;> first
      | exact k _ _ h
      | exact Calls.mono h fun e w'' ⟨v, he, hr⟩ => ⟨v, he, k v w'' hr⟩
      | exact h.elim
  | halt x w => exact h.elim
theorem Upon.wp {o : Oper} {a : Act} {w : World} {next : Act → World → Prop} {Q : Exit → Act → World → Prop} (h : Upon P ((execOp a.eval o).run P w) fun v w' => next (a.put o.dst v) w') : o.wp P a w next Q := by
  unfold Oper.wp
  generalize (execOp a.eval o).run P w = r at h
  cases r with
  | ok n w' =>
    cases n <;> first
      | exact h
      | exact Calls.mono h fun e w'' ⟨v, he, hr⟩ => by subst he; exact hr
      | exact h.elim
  | halt x w' => exact h.elim
/-- a call's results -/
def resV : List V → Nm
  | [_] => .val (.env 0)
  | l => .tup (envsFrom l.length 0)
def ResRel (μ : Mu) (l : List V) (v : Value) : Prop := match l with | [a] => VRel μ a v | l => ∃ vs : Array Value, v = .tuple vs ∧ VsRel μ l vs.toList
def CallFact (P : Program) (g : FuncId) (as : List V) (h : H) (l : List V) (h' : H) : Prop :=
  (∃ fn, P.funcs[g]? = some fn ∧ fn.body.isSome = true ∧ fn.name ≠ "runtime.NumGoroutine" ∧ l.length = fn.results.size) ∧
  ((∃ fn, P.funcs[g]? = some fn ∧ as.length = fn.params.size + fn.nfree) → ∀ μ w vs, Rel μ h w → Fresh μ h h' → VsRel μ as vs → Calls P g vs.toArray w fun e w' => ∃ v, e = .returned v ∧ ∃ μ', Step μ h w μ' h' w' ∧ Rel μ' h' w' ∧ ResRel μ' l v)
def CallOk (P : Program) (call : CallT) : Prop := ∀ g as h k, (∃ s, call g as h k = .stuck s) ∨ ∃ l h', call g as h k = k l h' ∧ CallFact P g as h l h'
/-- the values of its operands are known -/
def Seen (μ : Mu) (nm : Names) (lay : Lay) (e : Ev) (f : Fr) (ρ : Operand → Value) (o : Oper) : Prop := ∀ x, x ∈ o.op.operands → ORel μ nm lay e f ρ x
def Fact (P : Program) (o : Oper) (nm : Names) (lay : Lay) (e : Ev) (f : Fr) (h : H) (e' : Ev) (h' : H) (m : Nm) : Nat → Prop
  | 0 => h' = h ∧ ∀ μ ρ, Seen μ nm lay e f ρ o → ∃ v, (∀ w, (execOp ρ o).run P w = .ok (.value v) w) ∧ NRel μ e' f m v
  | 1 => h' = h ∧ ∀ μ w ρ, Rel μ h w → Seen μ nm lay e f ρ o → ∃ v, (execOp ρ o).run P w = .ok (.value v) w ∧ NRel μ e' f m v
  | 2 => ∃ b c, e' = c h.nx :: e ∧ h' = h.add b ∧ m = .val (.env e.length) ∧ ∀ μ w ρ, Seen μ nm lay e f ρ o → ∃ s, execOp ρ o = (do pure (.value (← s))) ∧ Made P s b c μ w
  | _ => ∀ μ w ρ, Rel μ h w → Fresh μ h h' → Seen μ nm lay e f ρ o → Upon P ((execOp ρ o).run P w) fun v w' => ∃ μ', Step μ h w μ' h' w' ∧ Rel μ' h' w' ∧ NRel μ' e' f m v
def EmC (P : Program) (o : Oper) (nm : Names) (lay : Lay) (d : Nat) (c : OpC) (n : Nat) (m : Nm) : Prop :=
  ∀ call, CallOk P call → ∀ e f h k, e.length = d → (∃ s, c call e f h k = .stuck s) ∨ ∃ l h', l.length = n ∧ c call e f h k = k (pushL l e) h' ∧ Fact P o nm lay e f h (pushL l e) h' m (clsOf P o.op)
def EmSem (P : Program) (o : Oper) (nm : Names) (lay : Lay) (d : Nat) (oc : Option OpC) (n : Nat) (m : Nm) : Prop :=
  (NamesOk nm d → m.below (d + n)) ∧
  match oc with
  | none => n = 0 ∧ clsOf P o.op = 0 ∧ ∀ μ e f ρ, e.length = d → Seen μ nm lay e f ρ o → ∃ v, (∀ w, (execOp ρ o).run P w = .ok (.value v) w) ∧ NRel μ e f m v
  | some c => EmC P o nm lay d c n m
def EmOk {β : Type} (P : Program) (o : Oper) (nm : Names) (lay : Lay) (d : Nat) (X : β) (K : Kt β) : Prop := ∃ oc n m, X = K oc n m ∧ EmSem P o nm lay d oc n m
section em
variable {β : Type} {o : Oper} {nm : Names} {lay : Lay} {d : Nat} {K : Kt β}
theorem EmOk.bad : EmOk P o nm lay d (Kx.bad o d K) K := ⟨_, _, _, rfl, fun _ => Nat.lt_succ_self d, fun _ _ _ _ _ _ _ => .inl ⟨_, rfl⟩⟩
theorem sc_eq (x : Operand) (els : β) (F : Gt → β) : sc nm lay d x els F = els ∨ ∃ a g, resolve nm lay x = some (.val a) ∧ sc nm lay d x els F = F g ∧ ∀ e f, e.length = d → g e f = aoV e f a := by
  unfold sc
  split
  · next a ha =>
    obtain ⟨g, h1, h2⟩ := withG_eq d a F
    exact .inr ⟨a, g, ha, h1, h2⟩
  · exact .inl rfl
/-- the operand that a closure takes -/
def GRel (nm : Names) (lay : Lay) (d : Nat) (g : Gt) (x : Operand) : Prop := ∀ μ e f ρ, e.length = d → ORel μ nm lay e f ρ x → VRel μ (g e f) (ρ x)
theorem EmOk.sc {x : Operand} {F : Gt → β} (h : ∀ g, GRel nm lay d g x → EmOk P o nm lay d (F g) K) : EmOk P o nm lay d (Kx.sc nm lay d x (Kx.bad o d K) F) K := by
  rcases sc_eq (nm := nm) (lay := lay) (d := d) x (Kx.bad o d K) F with e | ⟨a, g, ha, e, hg⟩
  · rw [e]; exact .bad
  · rw [e]
    exact h g fun μ e f ρ he ho => by
      have := ho _ ha
      cases this with
      | val h => rw [hg e f he]; exact h
theorem EmOk.withT {t : TypeId} {F : Nat → β} (h : okT P t = true → EmOk P o nm lay d (F (sz P t)) K) : EmOk P o nm lay d (Kx.withT P t (Kx.bad o d K) F) K := by
  rcases withT_eq (P := P) (t := t) (els := Kx.bad o d K) (F := F) with e | ⟨ht, e⟩
  · rw [e]; exact .bad
  · rw [e]; exact h ht
theorem EmOk.cond {b : Bool} {X Y : β} (h : b = true → EmOk P o nm lay d X K) (k : b = false → EmOk P o nm lay d Y K) : EmOk P o nm lay d (bif b then X else Y) K := by
  cases b
  · exact k rfl
  · exact h rfl
theorem EmOk.force {n : Nat} {F : Nat → β} (h : EmOk P o nm lay d (F n) K) : EmOk P o nm lay d (forceS n F) K := by rw [forceS_eq]; exact h
end em
end
end
end Go.Kx
namespace Go.Kx
noncomputable section
variable [Sig]
section
variable {P : Program}

theorem run_v {s : Sem Value} {w w' : World} {v : Value} (h : s.run P w = .ok v w') : (do pure (Next.value (← s)) : Sem Next).run P w = .ok (.value v) w' := by simp [h]
theorem nrel_one {μ : Mu} {e : Ev} {f : Fr} {a : V} {v : Value} (h : VRel μ a v) : NRel μ (pushL [a] e) f (.val (.env e.length)) v := by
  refine .val ?_
  have : aoV (pushL [a] e) f (.env e.length) = a := by
    show nthV (a :: e) ((a :: e).length - 1 - e.length) = a
    rw [show (a :: e).length - 1 - e.length = 0 by simp]
    rfl
  rw [this]; exact h
section em
variable {o : Oper} {nm : Names} {lay : Lay} {d : Nat}
theorem EmSem.pure1 {pos : String} {p : Ev → Fr → KV → Out → Out} (hcls : clsOf P o.op = 0)
    (hp : ∀ e f kk st, e.length = d → Ok (p e f kk st) st fun o' => ∃ v, o' = kk v ∧ ∀ μ ρ, Seen μ nm lay e f ρ o → ∃ v', (∀ w, (execOp ρ o).run P w = .ok (.value v') w) ∧ VRel μ v v') :
    EmSem P o nm lay d (some fun _ e f h k => p e f (fun v => k (v :: e) h) (.stuck pos)) 1 (oneN d) := by
  refine ⟨fun _ => Nat.lt_succ_self d, fun call _ e f h k he => ?_⟩
  rcases hp e f (fun v => k (v :: e) h) (.stuck pos) he with h1 | ⟨v, h1, h2⟩
  · exact .inl ⟨pos, h1⟩
  · refine .inr ⟨[v], h, rfl, h1, ?_⟩
    rw [hcls]
    refine ⟨rfl, fun μ ρ hs => ?_⟩
    obtain ⟨v', h3, h4⟩ := h2 μ ρ hs
    subst he
    exact ⟨v', h3, nrel_one h4⟩
theorem EmSem.read1 {pos : String} {p : Ev → Fr → H → KV → Out → Out} (hcls : clsOf P o.op = 1)
    (hp : ∀ e f h kk st, e.length = d → Ok (p e f h kk st) st fun o' => ∃ v, o' = kk v ∧ ∀ μ w ρ, Rel μ h w → Seen μ nm lay e f ρ o → ∃ v', (execOp ρ o).run P w = .ok (.value v') w ∧ VRel μ v v') :
    EmSem P o nm lay d (some fun _ e f h k => p e f h (fun v => k (v :: e) h) (.stuck pos)) 1 (oneN d) := by
  refine ⟨fun _ => Nat.lt_succ_self d, fun call _ e f h k he => ?_⟩
  rcases hp e f h (fun v => k (v :: e) h) (.stuck pos) he with h1 | ⟨v, h1, h2⟩
  · exact .inl ⟨pos, h1⟩
  · refine .inr ⟨[v], h, rfl, h1, ?_⟩
    rw [hcls]
    refine ⟨rfl, fun μ w ρ hr hs => ?_⟩
    obtain ⟨v', h3, h4⟩ := h2 μ w ρ hr hs
    subst he
    exact ⟨v', h3, nrel_one h4⟩
theorem EmSem.made1 {pos : String} {p : Ev → Fr → KM → Out → Out} (hcls : clsOf P o.op = 2)
    (hp : ∀ e f kk st, e.length = d → Ok (p e f kk st) st fun o' => ∃ b m, o' = kk b m ∧ ∀ μ w ρ, Seen μ nm lay e f ρ o → ∃ s, execOp ρ o = (do pure (.value (← s))) ∧ Made P s b m μ w) :
    EmSem P o nm lay d (some fun _ e f h k => p e f (mkK h e k) (.stuck pos)) 1 (oneN d) := by
  refine ⟨fun _ => Nat.lt_succ_self d, fun call _ e f h k he => ?_⟩
  rcases hp e f (mkK h e k) (.stuck pos) he with h1 | ⟨b, m, h1, h2⟩
  · exact .inl ⟨pos, h1⟩
  · refine .inr ⟨[m h.nx], h.add b, rfl, h1.trans (newK_eq h b _), ?_⟩
    rw [hcls]
    subst he
    exact ⟨b, m, rfl, rfl, rfl, h2⟩
theorem EmSem.chain1 {pos : String} {p : Ev → Fr → H → KH → Out → Out} {n : Nat} {m : Nm} (hcls : clsOf P o.op = 3) (hm : m.below (d + n))
    (hp : ∀ e f h kk st, e.length = d → Ok (p e f h kk st) st fun o' => ∃ l h', o' = kk l h' ∧ l.length = n ∧ ∀ μ w ρ, Rel μ h w → Fresh μ h h' → Seen μ nm lay e f ρ o →
      Upon P ((execOp ρ o).run P w) fun v w' => ∃ μ', Step μ h w μ' h' w' ∧ Rel μ' h' w' ∧ NRel μ' (pushL l e) f m v) :
    EmSem P o nm lay d (some fun _ e f h k => p e f h (fun l h => k (pushL l e) h) (.stuck pos)) n m := by
  refine ⟨fun _ => hm, fun call _ e f h k he => ?_⟩
  rcases hp e f h (fun l h => k (pushL l e) h) (.stuck pos) he with h1 | ⟨l, h', h1, h2, h3⟩
  · exact .inl ⟨pos, h1⟩
  · refine .inr ⟨l, h', h2, h1, ?_⟩
    rw [hcls]
    exact h3
variable {β : Type} {K : Kt β}
theorem em_un1 {p : P1} {F : Value → Sem Value} {x : Operand} (hF : Fn1 P p F) (hx : x ∈ o.op.operands) (hex : ∀ ρ, execOp ρ o = (do pure (.value (← F (ρ x))))) (hcls : clsOf P o.op = 0) : EmOk P o nm lay d (sc1 o nm lay d p x K) K :=
  .sc fun g hg => ⟨_, _, _, rfl, EmSem.pure1 (p := fun e f kk st => p (g e f) kk st) hcls fun e f kk st he => (hF (g e f) kk st).imp id fun ⟨v, h1, h2⟩ => ⟨v, h1, fun μ ρ hs => by
    obtain ⟨v', h3, h4⟩ := h2 μ (ρ x) (hg μ e f ρ he (hs x hx))
    exact ⟨v', fun w => by rw [hex]; exact run_v (h3 w), h4⟩⟩⟩
theorem em_bin1 {p : P2} {F : Value → Value → Sem Value} {x y : Operand} (hF : Fn2 P p F) (hx : x ∈ o.op.operands) (hy : y ∈ o.op.operands) (hex : ∀ ρ, execOp ρ o = (do pure (.value (← F (ρ x) (ρ y))))) (hcls : clsOf P o.op = 0) :
    EmOk P o nm lay d (sc2 o nm lay d p x y K) K :=
  .sc fun g hg => .sc fun g2 hg2 => ⟨_, _, _, rfl, EmSem.pure1 (p := fun e f kk st => p (g e f) (g2 e f) kk st) hcls fun e f kk st he => (hF (g e f) (g2 e f) kk st).imp id fun ⟨v, h1, h2⟩ => ⟨v, h1, fun μ ρ hs => by
    obtain ⟨v', h3, h4⟩ := h2 μ (ρ x) (ρ y) (hg μ e f ρ he (hs x hx)) (hg2 μ e f ρ he (hs y hy))
    exact ⟨v', fun w => by rw [hex]; exact run_v (h3 w), h4⟩⟩⟩
theorem em_rd1 {p : V → H → KV → Out → Out} {F : Value → Sem Value} {x : Operand} (hF : Rd1 P p F) (hx : x ∈ o.op.operands) (hex : ∀ ρ, execOp ρ o = (do pure (.value (← F (ρ x))))) (hcls : clsOf P o.op = 1) : EmOk P o nm lay d (rd1 o nm lay d p x K) K :=
  .sc fun g hg => ⟨_, _, _, rfl, EmSem.read1 (p := fun e f h kk st => p (g e f) h kk st) hcls fun e f h kk st he => (hF (g e f) h kk st).mono fun o' ⟨v, h1, h2⟩ => ⟨v, h1, fun μ w ρ hr hs => by
    obtain ⟨v', h3, h4⟩ := h2 μ w (ρ x) hr (hg μ e f ρ he (hs x hx))
    exact ⟨v', by rw [hex]; exact run_v h3, h4⟩⟩⟩
theorem upon_skip {s : Sem Unit} {μ : Mu} {h h' : H} {w : World} {l : List V} (hd : Does P s μ h w h' (noRes l)) (e : Ev) (f : Fr) :
    l = [] ∧ Upon P ((do s; pure Next.skip : Sem Next).run P w) fun v w' => ∃ μ', Step μ h w μ' h' w' ∧ Rel μ' h' w' ∧ NRel μ' (pushL l e) f unN v := by
  obtain ⟨a, w', μ', h1, h2, h3, h4⟩ := hd
  refine ⟨h4, ?_⟩
  have : (do s; pure Next.skip : Sem Next).run P w = .ok .skip w' := by simp [h1]
  rw [this]
  exact ⟨μ', h2, h3, .val .un⟩
theorem upon_und {s : Sem Value} {μ : Mu} {h h' : H} {w : World} {l : List V} (hd : Does P s μ h w h' (undRes l)) (e : Ev) (f : Fr) :
    l = [] ∧ Upon P ((do pure (Next.value (← s)) : Sem Next).run P w) fun v w' => ∃ μ', Step μ h w μ' h' w' ∧ Rel μ' h' w' ∧ NRel μ' (pushL l e) f unN v := by
  obtain ⟨a, w', μ', h1, h2, h3, h4, h5⟩ := hd
  refine ⟨h4, ?_⟩
  rw [run_v h1, h5]
  exact ⟨μ', h2, h3, .val .un⟩
theorem upon_one {s : Sem Value} {μ : Mu} {h h' : H} {w : World} {l : List V} (hd : Does P s μ h w h' (oneRes l)) (e : Ev) (f : Fr) :
    l.length = 1 ∧ Upon P ((do pure (Next.value (← s)) : Sem Next).run P w) fun v w' => ∃ μ', Step μ h w μ' h' w' ∧ Rel μ' h' w' ∧ NRel μ' (pushL l e) f (.val (.env e.length)) v := by
  obtain ⟨a, w', μ', h1, h2, h3, a', h4, h5⟩ := hd
  subst h4
  refine ⟨rfl, ?_⟩
  rw [run_v h1]
  exact ⟨μ', h2, h3, nrel_one h5⟩
theorem em_ch1 {p : V → H → KH → Out → Out} {F : Value → Sem Value} {x : Operand} (hF : Wr1 P p F 1 oneRes) (hx : x ∈ o.op.operands) (hex : ∀ ρ, execOp ρ o = (do pure (.value (← F (ρ x))))) (hcls : clsOf P o.op = 3) :
    EmOk P o nm lay d (sc nm lay d x (bad o d K) fun gx => K (some (ch1C o.pos p gx)) 1 (oneN d)) K :=
  .sc fun g hg => ⟨_, _, _, rfl, EmSem.chain1 (p := fun e f h kk st => p (g e f) h kk st) hcls (Nat.lt_succ_self d) fun e f h kk st he => (hF (g e f) h kk st).mono fun o' ⟨l, h', h1, h2, h3⟩ => ⟨l, h', h1, h2, fun μ w ρ hr hf hs => by
    rw [hex]
    subst he
    exact (upon_one (h3 μ w (ρ x) hr hf (hg μ e f ρ rfl (hs x hx))) e f).2⟩⟩
theorem em_ch1u {p : V → H → KH → Out → Out} {F : Value → Sem Value} {x : Operand} (hF : Wr1 P p F 0 undRes) (hx : x ∈ o.op.operands) (hex : ∀ ρ, execOp ρ o = (do pure (.value (← F (ρ x))))) (hcls : clsOf P o.op = 3) {g : Gt} (hg : GRel nm lay d g x) :
    EmOk P o nm lay d (K (some (ch1C o.pos p g)) 0 unN) K :=
  ⟨_, _, _, rfl, EmSem.chain1 (p := fun e f h kk st => p (g e f) h kk st) hcls trivial fun e f h kk st he => (hF (g e f) h kk st).mono fun o' ⟨l, h', h1, h2, h3⟩ => ⟨l, h', h1, h2, fun μ w ρ hr hf hs => by
    rw [hex]
    exact (upon_und (h3 μ w (ρ x) hr hf (hg μ e f ρ he (hs x hx))) e f).2⟩⟩
theorem em_ch2 {p : V → V → H → KH → Out → Out} {F : Value → Value → Sem Value} {x y : Operand} (hF : Wr2 P p F 1 oneRes) (hx : x ∈ o.op.operands) (hy : y ∈ o.op.operands) (hex : ∀ ρ, execOp ρ o = (do pure (.value (← F (ρ x) (ρ y))))) (hcls : clsOf P o.op = 3) {g g2 : Gt}
    (hg : GRel nm lay d g x) (hg2 : GRel nm lay d g2 y) : EmOk P o nm lay d (K (some (ch2C o.pos p g g2)) 1 (oneN d)) K :=
  ⟨_, _, _, rfl, EmSem.chain1 (p := fun e f h kk st => p (g e f) (g2 e f) h kk st) hcls (Nat.lt_succ_self d) fun e f h kk st he => (hF (g e f) (g2 e f) h kk st).mono fun o' ⟨l, h', h1, h2, h3⟩ => ⟨l, h', h1, h2, fun μ w ρ hr hf hs => by
    rw [hex]
    subst he
    exact (upon_one (h3 μ w (ρ x) (ρ y) hr hf (hg μ e f ρ rfl (hs x hx)) (hg2 μ e f ρ rfl (hs y hy))) e f).2⟩⟩
theorem em_ch2u {p : V → V → H → KH → Out → Out} {F : Value → Value → Sem Value} {x y : Operand} (hF : Wr2 P p F 0 undRes) (hx : x ∈ o.op.operands) (hy : y ∈ o.op.operands) (hex : ∀ ρ, execOp ρ o = (do pure (.value (← F (ρ x) (ρ y))))) (hcls : clsOf P o.op = 3) {g g2 : Gt}
    (hg : GRel nm lay d g x) (hg2 : GRel nm lay d g2 y) : EmOk P o nm lay d (K (some (ch2C o.pos p g g2)) 0 unN) K :=
  ⟨_, _, _, rfl, EmSem.chain1 (p := fun e f h kk st => p (g e f) (g2 e f) h kk st) hcls trivial fun e f h kk st he => (hF (g e f) (g2 e f) h kk st).mono fun o' ⟨l, h', h1, h2, h3⟩ => ⟨l, h', h1, h2, fun μ w ρ hr hf hs => by
    rw [hex]
    exact (upon_und (h3 μ w (ρ x) (ρ y) hr hf (hg μ e f ρ he (hs x hx)) (hg2 μ e f ρ he (hs y hy))) e f).2⟩⟩
theorem em_ch2s {p : V → V → H → KH → Out → Out} {F : Value → Value → Sem Unit} {x y : Operand} (hF : Wr2 P p F 0 noRes) (hx : x ∈ o.op.operands) (hy : y ∈ o.op.operands) (hex : ∀ ρ, execOp ρ o = (do F (ρ x) (ρ y); pure .skip)) (hcls : clsOf P o.op = 3) {g g2 : Gt}
    (hg : GRel nm lay d g x) (hg2 : GRel nm lay d g2 y) : EmOk P o nm lay d (K (some (ch2C o.pos p g g2)) 0 unN) K :=
  ⟨_, _, _, rfl, EmSem.chain1 (p := fun e f h kk st => p (g e f) (g2 e f) h kk st) hcls trivial fun e f h kk st he => (hF (g e f) (g2 e f) h kk st).mono fun o' ⟨l, h', h1, h2, h3⟩ => ⟨l, h', h1, h2, fun μ w ρ hr hf hs => by
    rw [hex]
    exact (upon_skip (h3 μ w (ρ x) (ρ y) hr hf (hg μ e f ρ he (hs x hx)) (hg2 μ e f ρ he (hs y hy))) e f).2⟩⟩
theorem em_ch3s {p : V → V → V → H → KH → Out → Out} {F : Value → Value → Value → Sem Unit} {x y z : Operand} (hF : Wr3 P p F 0 noRes) (hx : x ∈ o.op.operands) (hy : y ∈ o.op.operands) (hz : z ∈ o.op.operands) (hex : ∀ ρ, execOp ρ o = (do F (ρ x) (ρ y) (ρ z); pure .skip)) (hcls : clsOf P o.op = 3) {g g2 g3 : Gt}
    (hg : GRel nm lay d g x) (hg2 : GRel nm lay d g2 y) (hg3 : GRel nm lay d g3 z) : EmOk P o nm lay d (K (some (ch3C o.pos p g g2 g3)) 0 unN) K :=
  ⟨_, _, _, rfl, EmSem.chain1 (p := fun e f h kk st => p (g e f) (g2 e f) (g3 e f) h kk st) hcls trivial fun e f h kk st he => (hF (g e f) (g2 e f) (g3 e f) h kk st).mono fun o' ⟨l, h', h1, h2, h3⟩ => ⟨l, h', h1, h2, fun μ w ρ hr hf hs => by
    rw [hex]
    exact (upon_skip (h3 μ w (ρ x) (ρ y) (ρ z) hr hf (hg μ e f ρ he (hs x hx)) (hg2 μ e f ρ he (hs y hy)) (hg3 μ e f ρ he (hs z hz))) e f).2⟩⟩
end em
end
end
end Go.Kx
namespace Go.Kx
noncomputable section
variable [Sig]
section
variable {P : Program}

/- ## binary operators, with the guard ahead of '==' -/
def guarded (op : BinOp) (t : TypeId) (X Y : Operand) (x y : Value) : Sem Value := do eqGuard op t X Y x y; binOp op t x y
theorem guard_plain {op : BinOp} {t : TypeId} {X Y : Operand} {x y : Value} (w : World) (h : (op ≠ .eql ∧ op ≠ .neq) ∨ ((∀ cs, x ≠ .agg cs) ∧ x ≠ .nilIface)) : (eqGuard op t X Y x y).run P w = .ok () w := by
  rcases h with ⟨h1, h2⟩ | ⟨h1, h2⟩
  · cases op <;> first
      | exact absurd rfl h1
      | exact absurd rfl h2
      | simp [eqGuard]
  · cases op <;> cases x <;> first
      | exact absurd rfl h2
      | exact absurd rfl (h1 _)
      | (simp [eqGuard]; done)
theorem run_guarded {op : BinOp} {t : TypeId} {X Y : Operand} {x y : Value} {w : World} (h : (eqGuard op t X Y x y).run P w = .ok () w) : (guarded op t X Y x y).run P w = (binOp op t x y).run P w := by
  simp [guarded, h]
theorem FnI.guard {op : BinOp} {t : TypeId} {g : I2} (X Y : Operand) (h : FnI P g (fun x y => binOp op t x y)) : FnI P g (fun x y => guarded op t X Y x y) := fun k a b kk st =>
  (h k a b kk st).imp id fun ⟨v, h1, v', h2, h3⟩ => ⟨v, h1, v', fun w => by rw [run_guarded (guard_plain w (.inr ⟨fun _ => Value.noConfusion, Value.noConfusion⟩))]; exact h2 w, h3⟩
theorem FnQ.guard {op : BinOp} {t : TypeId} {q : Q2} (X Y : Operand) (h : FnQ P q (fun x y => binOp op t x y)) : FnQ P q (fun x y => guarded op t X Y x y) := fun a b kk els =>
  (h a b kk els).imp id fun ⟨v, h1, v', h2, h3⟩ => ⟨v, h1, v', fun w => by rw [run_guarded (guard_plain w (.inr ⟨fun _ => Value.noConfusion, Value.noConfusion⟩))]; exact h2 w, h3⟩
theorem Fn2.guard {op : BinOp} {t : TypeId} {p : P2} (X Y : Operand) (hop : op ≠ .eql ∧ op ≠ .neq) (h : Fn2 P p (fun x y => binOp op t x y)) : Fn2 P p (fun x y => guarded op t X Y x y) := fun x y kk st =>
  (h x y kk st).imp id fun ⟨v, h1, h2⟩ => ⟨v, h1, fun μ xv yv hx hy => let ⟨v', h3, h4⟩ := h2 μ xv yv hx hy; ⟨v', fun w => by rw [run_guarded (guard_plain w (.inl hop))]; exact h3 w, h4⟩⟩
theorem Fn2.guardS {op : BinOp} {t : TypeId} {g : S2} (X Y : Operand) (h : Fn2 P (strP g) (fun x y => binOp op t x y)) : Fn2 P (strP g) (fun x y => guarded op t X Y x y) := fun x y kk st => by
  cases x <;> first
    | exact .inl rfl
    | exact (h _ y kk st).imp id fun ⟨v, h1, h2⟩ => ⟨v, h1, fun μ xv yv hx hy => by
        obtain ⟨v', h3, h4⟩ := h2 μ xv yv hx hy
        refine ⟨v', fun w => ?_, h4⟩
        cases hx
        rw [run_guarded (guard_plain w (.inr ⟨fun _ => Value.noConfusion, Value.noConfusion⟩))]
        exact h3 w⟩
/-- no value of a kind that binOp takes by itself -/
def plainV (v : Value) : Prop := match v with | .int _ _ => False | .float _ _ => False | .complex _ _ _ => False | .string _ => False | _ => True
theorem run_eq {t : TypeId} {x y : Value} {r : Bool} {w : World} (hx : plainV x) (h : (Op.equalIn 10000 t x y).run P w = .ok r w) : (binOp .eql t x y).run P w = .ok (.bool r) w := by
  have h' : (Op.equal t x y).run P w = .ok r w := h
  cases x <;> first
    | exact hx.elim
    | (simp [binOp, h']; done)
theorem run_ne {t : TypeId} {x y : Value} {r : Bool} {w : World} (hx : plainV x) (h : (Op.equalIn 10000 t x y).run P w = .ok r w) : (binOp .neq t x y).run P w = .ok (.bool (!r)) w := by
  have h' : (Op.equal t x y).run P w = .ok r w := h
  cases x <;> first
    | exact hx.elim
    | (simp [binOp, h']; done)
/-- '==' and '!=' of one kind -/
theorem eqP_ok {t : TypeId} {n : Nat} {g : E2} (X Y : Operand) (hE : EqAt P t n g) (hn : n ≤ 10000) (hv : ∀ x y, g x y ≠ .no → ∀ μ xv yv, VRel μ x xv → VRel μ y yv → plainV xv ∧ ∀ op w, (eqGuard op t X Y xv yv).run P w = .ok () w) (neg : Bool) :
    Fn2 P (eqP g neg) (fun x y => guarded (bif neg then .neq else .eql) t X Y x y) := fun x y kk st => by
  rcases hE x y with h | ⟨r, h, hr⟩
  · exact .inl (by show onB3 (g x y) _ _ st = st; rw [h]; rfl)
  · obtain ⟨v, h1, h2⟩ := boolK_ok (bif neg then !r else r) kk
    refine .inr ⟨v, ?_, fun μ xv yv hx hy => ?_⟩
    · rw [← h1]
      show onB3 (g x y) (boolK (Bool.not neg) kk) (boolK neg kk) st = _
      rw [h]
      cases r <;> cases neg <;> rfl
    · have hne : g x y ≠ .no := by rw [h]; cases r <;> exact B3.noConfusion
      obtain ⟨h3, h4⟩ := hv x y hne μ xv yv hx hy
      refine ⟨.bool (bif neg then !r else r), fun w => ?_, h2 μ⟩
      have h5 := hr μ xv yv hx hy (10000 - n) w
      rw [Nat.sub_add_cancel hn] at h5
      rw [run_guarded (h4 _ w)]
      cases neg with
      | true => exact run_ne h3 h5
      | false => exact run_eq h3 h5
theorem guard_ok {t : TypeId} {X Y : Operand} {x y : Value} (h : (∀ cs, x ≠ .agg cs) ∧ x ≠ .nilIface) (op : BinOp) (w : World) : (eqGuard op t X Y x y).run P w = .ok () w := guard_plain w (.inr h)
theorem eqKind_ok {t : TypeId} {td : TypeDesc} {g : E2} (X Y : Operand) (ht : P.underlying t = some td) (hg : eqKind P t td (isConst X || isConst Y) = some g) (neg : Bool) : Fn2 P (eqP g neg) (fun x y => guarded (bif neg then .neq else .eql) t X Y x y) := by
  have plain : ∀ {xv : Value}, (∀ cs, xv ≠ .agg cs) → xv ≠ .nilIface → ∀ {yv : Value} op w, (eqGuard op t X Y xv yv).run P w = .ok () w := fun h1 h2 _ op w => guard_ok ⟨h1, h2⟩ op w
  have shape : ∀ (n : Nat) (g : E2), EqAt P t n g → n ≤ 10000 → (∀ x y, g x y ≠ .no → ∀ μ xv, VRel μ x xv → plainV xv ∧ (∀ cs, xv ≠ .agg cs) ∧ xv ≠ .nilIface) → Fn2 P (eqP g neg) (fun x y => guarded (bif neg then .neq else .eql) t X Y x y) := fun n g hE hn h =>
    eqP_ok X Y hE hn (fun x y hne μ xv yv hx _ => let ⟨h1, h2, h3⟩ := h x y hne μ xv hx; ⟨h1, fun op w => plain h2 h3 op w⟩) neg
  have cellV : ∀ {x : V} {μ : Mu} {xv : Value}, VRel μ x xv → (x = .tt ∨ x = .ff ∨ (∃ i o, x = .ptr i o) ∨ x = .nilp ∨ (∃ i o n c, x = .slice i o n c) ∨ x = .nils ∨ (∃ i, x = .map i) ∨ x = .nilm ∨ (∃ f l, x = .func f l) ∨ x = .nilf) → plainV xv ∧ (∀ cs, xv ≠ .agg cs) ∧ xv ≠ .nilIface := fun h hk => by
    rcases hk with rfl | rfl | ⟨_, _, rfl⟩ | rfl | ⟨_, _, _, _, rfl⟩ | rfl | ⟨_, rfl⟩ | rfl | ⟨_, _, rfl⟩ | rfl <;> cases h <;> exact ⟨trivial, fun _ => Value.noConfusion, Value.noConfusion⟩
  cases td <;> try (simp only [eqKind] at hg; cases hg; done)
  case bool =>
    simp only [eqKind] at hg; injection hg with hg; subst hg
    exact shape 1 _ (eqBool_ok t ht) (by omega) fun x y hne μ xv hx => by
      cases x <;> first
        | exact absurd rfl hne
        | exact cellV hx (by simp)
  case pointer e =>
    simp only [eqKind] at hg
    cases hz : Nat.beq (sz P e) 0 with
    | true => rw [hz] at hg; cases hg
    | false =>
      rw [hz] at hg; injection hg with hg; subst hg
      exact shape 1 _ (eqPtr_ok t e ht (beq_false hz)) (by omega) fun x y hne μ xv hx => by
        cases x <;> first
          | exact absurd rfl hne
          | exact cellV hx (by simp)
  case slice e =>
    simp only [eqKind] at hg; injection hg with hg; subst hg
    exact shape 1 _ (eqSl_ok t e ht) (by omega) fun x y hne μ xv hx => by
      cases x <;> first
        | exact absurd rfl hne
        | exact cellV hx (by simp)
  case map k e =>
    simp only [eqKind] at hg; injection hg with hg; subst hg
    exact shape 1 _ (eqMap_ok t k e ht) (by omega) fun x y hne μ xv hx => by
      cases x <;> first
        | exact absurd rfl hne
        | exact cellV hx (by simp)
  case func ps rs v =>
    simp only [eqKind] at hg; injection hg with hg; subst hg
    exact shape 1 _ (eqFn_ok t ps rs v ht) (by omega) fun x y hne μ xv hx => by
      cases x <;> first
        | exact absurd rfl hne
        | exact cellV hx (by simp)
  case interface ms =>
    simp only [eqKind] at hg
    cases hc : (isConst X || isConst Y) with
    | false => rw [hc] at hg; cases hg
    | true =>
      rw [hc] at hg; injection hg with hg; subst hg
      refine eqP_ok X Y (eqIf_ok t ms ht) (by omega) (fun x y hne μ xv yv hx hy => ?_) neg
      cases x <;> first
        | exact absurd rfl hne
        | skip
      · cases hx; exact ⟨trivial, fun op w => guard_ok ⟨fun _ => Value.noConfusion, Value.noConfusion⟩ op w⟩
      · cases hx
        refine ⟨trivial, fun op w => ?_⟩
        have hc' : (∃ v, X = .const v) ∨ ∃ v, Y = .const v := by
          cases X <;> cases Y <;> simp [isConst] at hc ⊢
        rcases hc' with ⟨c, rfl⟩ | ⟨c, rfl⟩ <;> cases yv <;> cases op <;> (simp [eqGuard])
  case struct fs =>
    simp only [eqKind] at hg
    cases hs : P.stoodInHeld t with
    | true => rw [hs] at hg; cases hg
    | false =>
      rw [hs] at hg
      simp only [cond_false] at hg
      cases hf : fieldKinds P fs.toList 0 with
      | none => rw [hf] at hg; cases hg
      | some gs =>
        rw [hf] at hg; injection hg with hg; subst hg
        refine eqP_ok X Y (eqAgg_ok t fs gs ht hs hf) (by omega) (fun x y hne μ xv yv hx hy => ?_) neg
        have hguard : P.eqGuardType P.depth t = false := by
          have e : P.depth = (2 * (P.types.size + Made.depth)) + 1 + 1 := rfl
          rw [e]
          simp only [Program.eqGuardType, ht]
          rw [← Array.any_toList]
          apply List.any_eq_false.2
          intro f hfm
          have := fieldKinds_guard fs.toList 0 gs hf (2 * (P.types.size + Made.depth)) f hfm
          intro hh
          rw [Bool.and_eq_true] at hh
          have h2 : P.eqGuardType (2 * (P.types.size + Made.depth) + 1) f.type = true := by rw [Program.eqGuardType]; exact hh.2
          rw [this] at h2; cases h2
        cases x <;> first
          | exact absurd rfl hne
          | skip
        rename_i as
        cases y <;> first
          | exact absurd rfl hne
          | skip
        cases hx; cases hy
        exact ⟨trivial, fun op w => run_eqGuard_agg w op t X Y _ _ hguard⟩
end
end
end Go.Kx
namespace Go.Kx
noncomputable section
variable [Sig]
section
variable {P : Program}

/- ## the operations, one by one -/
section em
variable {o : Oper} {nm : Names} {lay : Lay} {d : Nat} {β : Type} {K : Kt β}

theorem em_move {x : Operand} (hx : x ∈ o.op.operands) (hcls : clsOf P o.op = 0) (hex : ∀ ρ, execOp ρ o = pure (.value (ρ x))) :
    EmOk P o nm lay d (match resolve nm lay x with | some m => K none 0 m | none => bad o d K) K := by
  cases hr : resolve nm lay x with
  | none => exact .bad
  | some m =>
    refine ⟨none, 0, m, rfl, fun h => resolve_below h hr, rfl, hcls, fun μ e f ρ he hs => ⟨ρ x, fun w => ?_, hs x hx m hr⟩⟩
    rw [hex]; rfl
theorem pickK_ok {c a b : V} {kk : KV} {st : Out} : Ok (pickK c a b kk st) st fun o' => ∃ v, o' = kk v ∧ ((c = .tt ∧ v = a) ∨ (c = .ff ∧ v = b)) :=
  Ok.onB (fun h => .inr ⟨a, rfl, .inl ⟨h, rfl⟩⟩) (fun h => .inr ⟨b, rfl, .inr ⟨h, rfl⟩⟩)
theorem em_pick {c a b : Operand} (ho : o.op = .pick c a b) :
    EmOk P o nm lay d (sc nm lay d c (bad o d K) fun gc => sc nm lay d a (bad o d K) fun ga => sc nm lay d b (bad o d K) fun gb => K (some (pickC o.pos gc ga gb)) 1 (oneN d)) K :=
  .sc fun gc hc => .sc fun ga ha => .sc fun gb hb => ⟨_, _, _, rfl, EmSem.pure1 (p := fun e f kk st => pickK (gc e f) (ga e f) (gb e f) kk st) (by rw [ho]; rfl) fun e f kk st he =>
    pickK_ok.mono fun o' ⟨v, h1, h2⟩ => ⟨v, h1, fun μ ρ hs => by
      have hc := hc μ e f ρ he (hs c (by rw [ho]; simp [Op.operands]))
      have ha := ha μ e f ρ he (hs a (by rw [ho]; simp [Op.operands]))
      have hb := hb μ e f ρ he (hs b (by rw [ho]; simp [Op.operands]))
      rcases h2 with ⟨h2, rfl⟩ | ⟨h2, rfl⟩
      · rw [h2] at hc
        refine ⟨ρ a, fun w => ?_, ha⟩
        generalize hcv : ρ c = cv at hc
        cases hc
        simp [execOp, ho, hcv, asBool]
      · rw [h2] at hc
        refine ⟨ρ b, fun w => ?_, hb⟩
        generalize hcv : ρ c = cv at hc
        cases hc
        simp [execOp, ho, hcv, asBool]⟩⟩
theorem em_alloc {t : TypeId} (ho : o.op = .alloc t) :
    EmOk P o nm lay d (match zeroOf P t with | some z => K (some (allocC (ofCells (len z) z))) 1 (oneN d) | none => bad o d K) K := by
  cases hz : zeroOf P t with
  | none => exact .bad
  | some z =>
    refine ⟨_, _, _, rfl, EmSem.made1 (pos := "") (p := fun e f kk st => kk (ofCells (len z) z) (fun i => .ptr i 0)) (by rw [ho]; rfl) fun e f kk st he => .inr ⟨_, _, rfl, fun μ w ρ hs => ⟨_, ?_, alloc_made t z hz μ w⟩⟩⟩
    simp only [execOp, ho]
theorem em_box {t : TypeId} {x : Operand} (ho : o.op = .box t x) :
    EmOk P o nm lay d (sc nm lay d x (bad o d K) fun gx => (bif aggT P t then K (some (boxC o.pos (sz P t) gx)) 1 (oneN d) else K (some (box1C o.pos gx)) 1 (oneN d))) K := by
  have hx : x ∈ o.op.operands := by rw [ho]; simp [Op.operands]
  have hex : ∀ ρ, execOp ρ o = (do pure (.value (← Instr.box t (ρ x)))) := fun ρ => by simp only [execOp, ho]
  refine .sc fun gx hg => .cond (fun ht => ⟨_, _, _, rfl, ?_⟩) fun ht => ⟨_, _, _, rfl, ?_⟩
  · refine EmSem.made1 (p := fun e f kk st => onAgg (gx e f) (fun cs => ifB (Nat.beq (len cs) (sz P t)) (boxM (sz P t) cs kk st) st) st) (by rw [ho]; rfl) fun e f kk st he => Ok.onAgg fun cs hcs => Ok.ifB fun hn => ?_
    refine (boxM_ok t (sz P t) cs (by rw [← len_eq]; exact beq_true hn) kk st).mono fun o' ⟨b, m, h1, h2⟩ => ⟨b, m, h1, fun μ w ρ hs => ⟨_, hex ρ, h2 μ (ρ x) w ?_⟩⟩
    have := hg μ e f ρ he (hs x hx)
    rwa [hcs] at this
  · refine EmSem.made1 (p := fun e f kk st => ifB (isCell (gx e f)) (kk (.small 1 [gx e f] false) (fun i => .ptr i 0)) st) (by rw [ho]; rfl) fun e f kk st he => Ok.ifB fun hc => .inr ⟨_, _, rfl, fun μ w ρ hs => ⟨_, hex ρ, box1_made t (hg μ e f ρ he (hs x hx)) hc w⟩⟩
theorem em_load {t : TypeId} {a : Operand} (ho : o.op = .load t a) :
    EmOk P o nm lay d (withT P t (bad o d K) fun n => (bif aggT P t then rd1 o nm lay d (loadH n) a K else rd1 o nm lay d load1H a K)) K := by
  have hx : a ∈ o.op.operands := by rw [ho]; simp [Op.operands]
  have hex : ∀ ρ, execOp ρ o = (do pure (.value (← Instr.loadAt t (ρ a)))) := fun ρ => by simp only [execOp, ho]
  exact .withT fun ht => .cond (fun ha => em_rd1 (loadH_ok t ht ha) hx hex (by rw [ho]; rfl)) fun ha => em_rd1 (load1_ok t ht ha) hx hex (by rw [ho]; rfl)
theorem em_store {t : TypeId} {a x : Operand} (ho : o.op = .store t a x) :
    EmOk P o nm lay d (withT P t (bad o d K) fun n => sc nm lay d a (bad o d K) fun ga => sc nm lay d x (bad o d K) fun gx => (bif aggT P t then K (some (ch2C o.pos (storeH n) ga gx)) 0 unN else bif Nat.beq n 1 then K (some (ch2C o.pos store1H ga gx)) 0 unN else bad o d K)) K := by
  have h1 : a ∈ o.op.operands := by rw [ho]; simp [Op.operands]
  have h2 : x ∈ o.op.operands := by rw [ho]; simp [Op.operands]
  have hex : ∀ ρ, execOp ρ o = (do Instr.storeAt t (ρ a) (ρ x); pure .skip) := fun ρ => by simp only [execOp, ho]
  exact .withT fun ht => .sc fun ga hga => .sc fun gx hgx => .cond (fun ha => em_ch2s (storeH_ok t ht) h1 h2 hex (by rw [ho]; rfl) hga hgx) fun ha => .cond (fun hn => em_ch2s (store1_ok t ht (beq_true hn)) h1 h2 hex (by rw [ho]; rfl) hga hgx) fun _ => .bad
theorem isRef_ok {x : V} (h : isRef x = true) : (∃ i o, x = .ptr i o) ∨ (∃ f l, x = .func f l) ∨ (∃ t i o, x = .iface t i o) ∨ ∃ f i o, x = .mfunc f i o := by
  cases x <;> first
    | exact .inl ⟨_, _, rfl⟩
    | exact .inr (.inl ⟨_, _, rfl⟩)
    | exact .inr (.inr (.inl ⟨_, _, _, rfl⟩))
    | exact .inr (.inr (.inr ⟨_, _, _, rfl⟩))
    | cases h
/-- a check that turns nothing -/
theorem em_chk {p : V → Bool} {x : Operand} (hx : x ∈ o.op.operands) (hcls : clsOf P o.op = 0)
    (hp : ∀ v, p v = true → ∀ μ xv, VRel μ v xv → ∀ ρ : Operand → Value, ρ x = xv → ∀ w, (execOp ρ o).run P w = .ok (.value xv) w) :
    EmOk P o nm lay d (match resolve nm lay x with | some (.val a) => withG d a fun g => K (some (chkC o.pos p g idC)) 0 (.val a) | _ => bad o d K) K := by
  split
  · next a hr =>
    obtain ⟨g, h1, h2⟩ := withG_eq d a (fun g => K (some (chkC o.pos p g idC)) 0 (.val a))
    rw [h1]
    refine ⟨_, _, _, rfl, fun h => resolve_below h hr, fun call _ e f h k he => ?_⟩
    cases hc : p (g e f) with
    | false => exact .inl ⟨o.pos, by show ifB (p (g e f)) _ _ = _; rw [hc]; rfl⟩
    | true =>
      refine .inr ⟨[], h, rfl, by show ifB (p (g e f)) (k e h) _ = _; rw [hc]; rfl, ?_⟩
      rw [hcls]
      refine ⟨rfl, fun μ ρ hs => ?_⟩
      have hn := hs x hx _ hr
      cases hn with
      | val hv =>
        refine ⟨ρ x, fun w => ?_, .val hv⟩
        exact hp _ hc μ _ (by rw [h2 e f he]; exact hv) ρ rfl w
  · exact .bad
theorem em_nilCheck {x : Operand} (ho : o.op = .nilCheck x) :
    EmOk P o nm lay d (match resolve nm lay x with | some (.val a) => withG d a fun gx => K (some (chkC o.pos isRef gx idC)) 0 (.val a) | _ => bad o d K) K := by
  refine em_chk (by rw [ho]; simp [Op.operands]) (by rw [ho]; rfl) fun v hv μ xv hx ρ hρ w => ?_
  rcases isRef_ok hv with ⟨i, q, rfl⟩ | ⟨g, l, rfl⟩ | ⟨t, i, q, rfl⟩ | ⟨g, i, q, rfl⟩ <;> cases hx <;> simp [execOp, ho, hρ]
end em
end
end
end Go.Kx
namespace Go.Kx
noncomputable section
variable [Sig]
section
variable {P : Program}
section em
variable {o : Oper} {nm : Names} {lay : Lay} {d : Nat} {β : Type} {K : Kt β}

/- ## binary operators -/
theorem em_int2 {q : Q2} {g : I2} {op : BinOp} {t u : TypeId} {x y : Operand} (ho : o.op = .binOp op t x y u) (hq : FnQ P q (fun x y => binOp op t x y)) (hg : FnI P g (fun x y => binOp op t x y)) : EmOk P o nm lay d (int2 o nm lay d q g x y K) K :=
  em_bin1 (p := bin2 q g) (F := fun a b => guarded op t x y a b) (bin2_ok (hq.guard x y) (hg.guard x y)) (by rw [ho]; simp [Op.operands]) (by rw [ho]; simp [Op.operands]) (fun ρ => by simp only [execOp, ho]; rfl) (by rw [ho]; rfl)
theorem em_sh {p : P2} {op : BinOp} {t u : TypeId} {x y : Operand} (ho : o.op = .binOp op t x y u) (hop : op ≠ .eql ∧ op ≠ .neq) (hp : Fn2 P p (fun x y => binOp op t x y)) : EmOk P o nm lay d (sc2 o nm lay d p x y K) K :=
  em_bin1 (F := fun a b => guarded op t x y a b) (hp.guard x y hop) (by rw [ho]; simp [Op.operands]) (by rw [ho]; simp [Op.operands]) (fun ρ => by simp only [execOp, ho]; rfl) (by rw [ho]; rfl)
theorem em_str {g : S2} {op : BinOp} {t u : TypeId} {x y : Operand} (ho : o.op = .binOp op t x y u) (hp : Fn2 P (strP g) (fun x y => binOp op t x y)) : EmOk P o nm lay d (sc2 o nm lay d (strP g) x y K) K :=
  em_bin1 (F := fun a b => guarded op t x y a b) (hp.guardS x y) (by rw [ho]; simp [Op.operands]) (by rw [ho]; simp [Op.operands]) (fun ρ => by simp only [execOp, ho]; rfl) (by rw [ho]; rfl)
theorem em_eq {g : E2} {t u : TypeId} {td : TypeDesc} {x y : Operand} (neg : Bool) (ho : o.op = .binOp (bif neg then .neq else .eql) t x y u) (ht : P.underlying t = some td) (hg : eqKind P t td (isConst x || isConst y) = some g) : EmOk P o nm lay d (sc2 o nm lay d (eqP g neg) x y K) K :=
  em_bin1 (F := fun a b => guarded (bif neg then .neq else .eql) t x y a b) (eqKind_ok x y ht hg neg) (by rw [ho]; simp [Op.operands]) (by rw [ho]; simp [Op.operands]) (fun ρ => by simp only [execOp, ho]; rfl) (by rw [ho]; rfl)
theorem em_bin {op : BinOp} {t u : TypeId} {x y : Operand} (ho : o.op = .binOp op t x y u) : EmOk P o nm lay d (emBin P o nm lay d op t x y K) K := by
  unfold emBin
  split
  · cases op
    · exact em_int2 ho addQ_ok addI_ok
    · exact em_int2 ho subQ_ok subI_ok
    · exact em_int2 ho mulQ_ok mulI_ok
    · exact em_int2 ho quoQ_ok quoI_ok
    · exact em_int2 ho remQ_ok remI_ok
    · exact em_int2 ho (noQ_ok _) andI_ok
    · exact em_int2 ho (noQ_ok _) orI_ok
    · exact em_int2 ho (noQ_ok _) xorI_ok
    · exact em_sh ho ⟨BinOp.noConfusion, BinOp.noConfusion⟩ shlP_ok
    · exact em_sh ho ⟨BinOp.noConfusion, BinOp.noConfusion⟩ shrP_ok
    · exact em_int2 ho (noQ_ok _) andNotI_ok
    · exact em_int2 ho eqQ_ok eqI_ok
    · exact em_int2 ho neQ_ok neI_ok
    · exact em_int2 ho ltQ_ok ltI_ok
    · exact em_int2 ho leQ_ok leI_ok
    · exact em_int2 ho gtQ_ok gtI_ok
    · exact em_int2 ho geQ_ok geI_ok
  · cases op <;> first
      | exact .bad
      | exact em_sh ho ⟨BinOp.noConfusion, BinOp.noConfusion⟩ catP_ok
      | exact em_str ho eqS_ok
      | exact em_str ho neS_ok
      | exact em_str ho ltS_ok
      | exact em_str ho leS_ok
      | exact em_str ho gtS_ok
      | exact em_str ho geS_ok
  · exact .bad
  · exact .bad
  · next td _ _ _ _ ht =>
    split
    · next g hg =>
      cases op <;> first
        | exact .bad
        | exact em_eq (u := u) false (by exact ho) ht hg
        | exact em_eq (u := u) true (by exact ho) ht hg
    · exact .bad
  · exact .bad
theorem em_un {p : P1} {op : UnOp} {t : TypeId} {x : Operand} (ho : o.op = .unOp op t x) (hp : Fn1 P p (fun x => Op.unary op x)) : EmOk P o nm lay d (sc1 o nm lay d p x K) K :=
  em_un1 hp (by rw [ho]; simp [Op.operands]) (fun ρ => by simp only [execOp, ho]) (by rw [ho]; rfl)

/- ## conversions -/
theorem em_conv {s t : TypeId} {x : Operand} (ho : o.op = .convert s t x) : EmOk P o nm lay d (emConv P o nm lay d s t x K) K := by
  have hx : x ∈ o.op.operands := by rw [ho]; simp [Op.operands]
  have hex : ∀ ρ, execOp ρ o = (do pure (.value (← convert s t (ρ x)))) := fun ρ => by simp only [execOp, ho]
  unfold emConv
  split
  · next ks hs =>
    split
    · next k ht => exact em_un1 (convP_ok s t k ks hs ht) hx hex (by rw [ho]; simp only [clsOf, hs])
    · exact .bad
  · next hs =>
    split
    · next ht =>
      refine em_chk hx (by rw [ho]; simp only [clsOf, hs, ht]) fun v hv μ xv hxv ρ hρ w => ?_
      obtain ⟨n, l, rfl⟩ := isStr_ok v hv
      cases hxv
      rw [hex, hρ]
      simp [convert, run_under hs, run_under ht]
    · next e ht =>
      split
      · next he =>
        refine .sc fun gx hg => ⟨_, _, _, rfl, EmSem.made1 (p := fun e f kk st => bytesM (gx e f) kk st) (by rw [ho]; simp only [clsOf, hs, ht]) fun e' f kk st he' => (bytesM_ok s t e ht hs he (gx e' f) kk st).mono fun o' ⟨b, m, h1, h2⟩ => ⟨b, m, h1, fun μ w ρ hss => ⟨_, hex ρ, h2 μ (ρ x) w (hg μ e' f ρ he' (hss x hx))⟩⟩⟩
      · exact .bad
    · exact .bad
  · next e hs =>
    split
    · next he =>
      split
      · next ht => exact em_rd1 (strH_ok s t e hs he ht) hx hex (by rw [ho]; simp only [clsOf, hs, ht])
      · next e' ht =>
        refine .cond (fun hst => ?_) fun _ => .bad
        have hst := beq_true hst
        subst hst
        exact em_ch1 (markH_ok s e hs he) hx hex (by rw [ho]; simp only [clsOf, hs])
      · exact .bad
    · exact .bad
  · exact .bad

/- ## makers -/
theorem em_iface {t : TypeId} {x : Operand} (ho : o.op = .makeInterface t x) :
    EmOk P o nm lay d (match P.underlying t with | some (.pointer _) => sc1 o nm lay d (ifaceP t) x K | _ => bad o d K) K := by
  split
  · next e ht => exact em_un1 (ifaceP_ok t e ht) (by rw [ho]; simp [Op.operands]) (fun ρ => by simp only [execOp, ho]) (by rw [ho]; rfl)
  · exact .bad
theorem em_map0 {t : TypeId} (ho : o.op = .makeMap t none) : EmOk P o nm lay d (K (some mapC) 1 (oneN d)) K := by
  refine ⟨_, _, _, rfl, EmSem.made1 (pos := "") (p := fun e f kk st => kk (.map []) (fun i => .map i)) (by rw [ho]; rfl) fun e f kk st he => .inr ⟨_, _, rfl, fun μ w ρ hs => ⟨_, ?_, map_made t none (.inl rfl) (.inl rfl) μ w⟩⟩⟩
  simp only [execOp, ho]; rfl
theorem mkV_inv {μ : Mu} {k : IntKind} {z : Int} {v : Value} (h : VRel μ (mkV k z) v) : v = .int k z := by
  unfold mkV at h
  split at h
  · split at h
    · cases h; rfl
    · cases h; rfl
  · cases h; rfl
theorem em_map1 {t : TypeId} {k : IntKind} {z : Int} (ho : o.op = .makeMap t (some (.const (.int k z)))) : EmOk P o nm lay d (match P.underlying t with | some (.map _ _) => K (some mapC) 1 (oneN d) | _ => bad o d K) K := by
  split
  · next kt et ht =>
    refine ⟨_, _, _, rfl, EmSem.made1 (pos := "") (p := fun e f kk st => kk (.map []) (fun i => .map i)) (by rw [ho]; rfl) fun e f kk st he => .inr ⟨_, _, rfl, fun μ w ρ hs => ⟨_, ?_, map_made t (some (.int k z)) (.inr ⟨k, z, rfl⟩) (.inr ⟨_, _, ht⟩) μ w⟩⟩⟩
    have h1 := hs (.const (.int k z)) (by rw [ho]; simp [Op.operands]) _ rfl
    have h2 : ρ (.const (.int k z)) = .int k z := by
      cases h1 with
      | val h1 => exact mkV_inv h1
    simp only [execOp, ho, Option.map, h2]
  · exact .bad
end em
end
end
end Go.Kx
namespace Go.Kx
noncomputable section
variable [Sig]
section
variable {P : Program}
section em
variable {o : Oper} {nm : Names} {lay : Lay} {d : Nat} {β : Type} {K : Kt β}

/-- the operands that a closure takes -/
def GsRel (nm : Names) (lay : Lay) (d : Nat) (gs : List Gt) (l : List Operand) : Prop := ∀ μ e f ρ, e.length = d → (∀ x, x ∈ l → ORel μ nm lay e f ρ x) → VsRel μ (gets gs e f) (l.map ρ)
theorem GsRel.nil : GsRel nm lay d [] [] := fun _ _ _ _ _ _ => .nil
theorem GsRel.cons {g : Gt} {gs : List Gt} {x : Operand} {l : List Operand} (h : GRel nm lay d g x) (t : GsRel nm lay d gs l) : GsRel nm lay d (g :: gs) (x :: l) := fun μ e f ρ he hs =>
  .cons (h μ e f ρ he (hs x (by simp))) (t μ e f ρ he fun y hy => hs y (by simp [hy]))
theorem EmOk.scs : ∀ {l : List Operand} {F : List Gt → β}, (∀ gs, GsRel nm lay d gs l → EmOk P o nm lay d (F gs) K) → EmOk P o nm lay d (Kx.scs nm lay d l (Kx.bad o d K) F) K
  | [], F, h => h [] .nil
  | x :: l, F, h => .sc fun g hg => EmOk.scs (l := l) (F := fun gs => F (g :: gs)) fun gs hgs => h (g :: gs) (.cons hg hgs)
/-- a bound -/
def BRel2 (nm : Names) (lay : Lay) (d : Nat) (g : Option Gt) (x : Option Operand) : Prop := ∀ μ e f ρ, e.length = d → (∀ y, x = some y → ORel μ nm lay e f ρ y) → OptRel μ (optE g e f) (x.map ρ)
theorem EmOk.bnd {x : Option Operand} {F : Option Gt → β} (h : ∀ g, BRel2 nm lay d g x → (g = none ↔ x = none) → EmOk P o nm lay d (F g) K) : EmOk P o nm lay d (bndO nm lay d x (Kx.bad o d K) F) K := by
  cases x with
  | none => exact h none (fun _ _ _ _ _ _ => .none) (by simp)
  | some x => exact .sc fun g hg => h (some g) (fun μ e f ρ he hs => .some (hg μ e f ρ he (hs x rfl))) (by simp)

theorem ptrsK_ok : ∀ (l : List V) (kk : List (Nat × Nat) → Out) (st : Out), Ok (ptrsK l kk st) st fun o => ∃ ps, o = kk ps ∧ l = ps.map fun p => V.ptr p.1 p.2
  | [], kk, st => .inr ⟨[], rfl, rfl⟩
  | v :: l, kk, st => Ok.onPtr fun i q hv => (ptrsK_ok l (fun l => kk ((i, q) :: l)) st).mono fun o' ⟨ps, h1, h2⟩ => ⟨(i, q) :: ps, h1, by rw [hv, h2]; rfl⟩
theorem em_func {g : FuncId} {caps : Array Operand} (ho : o.op = .makeFunc (.func g) #[] caps) : EmOk P o nm lay d (scs nm lay d caps.toList (bad o d K) fun gs => K (some (funcC o.pos g gs)) 1 (oneN d)) K :=
  .scs fun gs hgs => ⟨_, _, _, rfl, EmSem.pure1 (p := fun e f kk st => ptrsK (gets gs e f) (fun l => kk (.func g l)) st) (by rw [ho]; rfl) fun e f kk st he => (ptrsK_ok (gets gs e f) (fun l => kk (.func g l)) st).mono fun o' ⟨ps, h1, h2⟩ => ⟨_, h1, fun μ ρ hs => by
    have hv := hgs μ e f ρ he fun x hx => hs x (by rw [ho]; simp [Op.operands]; simpa using hx)
    rw [h2] at hv
    refine ⟨.func (.func g) #[] (caps.map ρ), fun w => ?_, .func g ps _ (by simpa using hv)⟩
    simp [execOp, ho, Instr.makeFunc]⟩⟩
theorem em_mfunc {g : FuncId} {x : Operand} (ho : o.op = .makeFunc (.func g) #[x] #[]) : EmOk P o nm lay d (sc nm lay d x (bad o d K) fun gx => K (some (mfuncC o.pos g gx)) 1 (oneN d)) K :=
  .sc fun gx hgx => ⟨_, _, _, rfl, EmSem.pure1 (p := fun e f kk st => onPtr (gx e f) (fun i o => kk (.mfunc g i o)) st) (by rw [ho]; rfl) fun e f kk st he => Ok.onPtr fun i q hx => .inr ⟨_, rfl, fun μ ρ hs => by
    have hv := hgx μ e f ρ he (hs x (by rw [ho]; simp [Op.operands]))
    rw [hx] at hv
    generalize hq : ρ x = xv at hv
    cases hv with
    | ptr _ _ l hl =>
      refine ⟨.func (.func g) #[.pointer (some ⟨l.b, l.s + q, none⟩)] #[], fun w => ?_, .mfunc g i q l hl⟩
      simp [execOp, ho, Instr.makeFunc, hq]⟩⟩
theorem em_makeSlice {t : TypeId} {l c : Operand} (ho : o.op = .makeSlice t l c) : EmOk P o nm lay d (match P.underlying t with
    | some (.slice e) => (match zeroOf P e with | some z => withT P e (bad o d K) fun n => bif Nat.beq (len z) n then (sc nm lay d l (bad o d K) fun gl => sc nm lay d c (bad o d K) fun gc => forceS (Nat.succ (P.bytesOf e)) fun bb => K (some (makeC o.pos n bb z gl gc)) 1 (oneN d)) else bad o d K | none => bad o d K)
    | _ => bad o d K) K := by
  have h1 : l ∈ o.op.operands := by rw [ho]; simp [Op.operands]
  have h2 : c ∈ o.op.operands := by rw [ho]; simp [Op.operands]
  split
  · next e ht =>
    split
    · next z hz =>
      refine .withT fun he => .cond (fun hn => .sc fun gl hl => .sc fun gc hc => .force ⟨_, _, _, rfl, EmSem.made1 (p := fun e' f kk st => sliceM (sz P e) (P.bytesOf e + 1) z (gl e' f) (gc e' f) kk st) (by rw [ho]; rfl) fun e' f kk st he' => ?_⟩) fun _ => .bad
      have hzl : z.length = sz P e := by rw [← len_eq]; exact beq_true hn
      refine (sliceM_ok t e z ht he hz hzl (gl e' f) (gc e' f) kk st).mono fun o' ⟨b, m, h3, h4⟩ => ⟨b, m, h3, fun μ w ρ hs => ⟨_, ?_, h4 μ (ρ l) (ρ c) w (hl μ e' f ρ he' (hs l h1)) (hc μ e' f ρ he' (hs c h2))⟩⟩
      simp only [execOp, ho]
    · exact .bad
  · exact .bad
theorem em_slice {t : TypeId} {x : Operand} {lo hi mx : Option Operand} (ho : o.op = .slice t x lo hi mx) : EmOk P o nm lay d (sc nm lay d x (bad o d K) fun gx => bndO nm lay d lo (bad o d K) fun gl => bndO nm lay d hi (bad o d K) fun gh => bndO nm lay d mx (bad o d K) fun gm =>
    (match P.underlying t with
    | some (.slice e) => withT P e (bad o d K) fun n => (match gm with | none => K (some (sliceC o.pos n gx gl gh)) 1 (oneN d) | some m => (match gh with | some gk => K (some (slice3C o.pos n gx gl (some gk) m)) 1 (oneN d) | none => bad o d K))
    | some .string => (match gm with | none => K (some (sliceStrC o.pos gx gl gh)) 1 (oneN d) | some _ => bad o d K)
    | _ => bad o d K)) K := by
  have hx : x ∈ o.op.operands := by rw [ho]; simp [Op.operands]
  have hlo : ∀ y, lo = some y → y ∈ o.op.operands := fun y hy => by rw [ho]; simp [Op.operands, hy]
  have hhi : ∀ y, hi = some y → y ∈ o.op.operands := fun y hy => by rw [ho]; simp [Op.operands, hy]
  have hmx : ∀ y, mx = some y → y ∈ o.op.operands := fun y hy => by rw [ho]; simp [Op.operands, hy]
  have hex : ∀ ρ, execOp ρ o = (do pure (.value (← Instr.sliceAt t (ρ x) (lo.map ρ) (hi.map ρ) (mx.map ρ)))) := fun ρ => by simp only [execOp, ho]
  refine .sc fun gx hgx => .bnd fun gl hgl _ => .bnd fun gh hgh hhn => .bnd fun gm hgm hmn => ?_
  split
  · next e ht =>
    refine .withT fun he => ?_
    split
    · have hm0 : mx = none := hmn.1 rfl
      refine ⟨_, _, _, rfl, EmSem.read1 (p := fun e' f h kk st => sliceH (sz P e) (gx e' f) (optE gl e' f) (optE gh e' f) h kk st) (by rw [ho]; rfl) fun e' f h kk st he' => (sliceH_ok t e ht he _ _ _ h kk st).mono fun o' ⟨v, h1, h2⟩ => ⟨v, h1, fun μ w ρ hr hs => ?_⟩⟩
      obtain ⟨v', h3, h4⟩ := h2 μ w (ρ x) (lo.map ρ) (hi.map ρ) hr (hgx μ e' f ρ he' (hs x hx)) (hgl μ e' f ρ he' fun y hy => hs y (hlo y hy)) (hgh μ e' f ρ he' fun y hy => hs y (hhi y hy))
      refine ⟨v', ?_, h4⟩
      rw [hex, hm0]
      exact run_v h3
    · next m =>
      split
      · next gk =>
        obtain ⟨ym, hym⟩ : ∃ y, mx = some y := by
          cases hq : mx with
          | none => exact absurd (hmn.2 hq) (by simp)
          | some y => exact ⟨y, rfl⟩
        obtain ⟨yk, hyk⟩ : ∃ y, hi = some y := by
          cases hq : hi with
          | none => exact absurd (hhn.2 hq) (by simp)
          | some y => exact ⟨y, rfl⟩
        refine ⟨_, _, _, rfl, EmSem.read1 (p := fun e' f h kk st => slice3H (sz P e) (gx e' f) (optE gl e' f) (some (gk e' f)) (m e' f) h kk st) (by rw [ho]; rfl) fun e' f h kk st he' => (slice3H_ok t e ht he _ _ _ _ h kk st).mono fun o' ⟨v, h1, h2⟩ => ⟨v, h1, fun μ w ρ hr hs => ?_⟩⟩
        have hk : VRel μ (gk e' f) (ρ yk) := by
          have := hgh μ e' f ρ he' fun y hy => hs y (hhi y hy)
          rw [hyk] at this
          cases this with
          | some h => exact h
        have hm : VRel μ (m e' f) (ρ ym) := by
          have := hgm μ e' f ρ he' fun y hy => hs y (hmx y hy)
          rw [hym] at this
          cases this with
          | some h => exact h
        obtain ⟨v', h3, h4⟩ := h2 μ w (ρ x) (lo.map ρ) (ρ yk) (ρ ym) hr (hgx μ e' f ρ he' (hs x hx)) (hgl μ e' f ρ he' fun y hy => hs y (hlo y hy)) hk hm
        refine ⟨v', ?_, h4⟩
        rw [hex, hym, hyk]
        exact run_v h3
      · exact .bad
  · next ht =>
    split
    · have hm0 : mx = none := hmn.1 rfl
      refine ⟨_, _, _, rfl, EmSem.read1 (p := fun e' f h kk st => sliceStr (gx e' f) (optE gl e' f) (optE gh e' f) kk st) (by rw [ho]; rfl) fun e' f h kk st he' => (sliceStr_ok t ht _ _ _ kk st).mono fun o' ⟨v, h1, h2⟩ => ⟨v, h1, fun μ w ρ hr hs => ?_⟩⟩
      obtain ⟨v', h3, h4⟩ := h2 μ (ρ x) (lo.map ρ) (hi.map ρ) (hgx μ e' f ρ he' (hs x hx)) (hgl μ e' f ρ he' fun y hy => hs y (hlo y hy)) (hgh μ e' f ρ he' fun y hy => hs y (hhi y hy))
      refine ⟨v', ?_, h4⟩
      rw [hex, hm0]
      exact run_v (h3 w)
    · exact .bad
  · exact .bad
theorem fieldOf_spec {t : TypeId} {i : Nat} {fl : Field} (h : fieldOf P t i = some fl) : ∃ fs, P.underlying t = some (.struct fs) ∧ fs[i]? = some fl := by
  unfold fieldOf at h
  split at h
  · next fs ht => exact ⟨fs, ht, h⟩
  · cases h
theorem em_fieldAddr {t : TypeId} {x : Operand} {i : Nat} (ho : o.op = .fieldAddr t x i) : EmOk P o nm lay d (match fieldOf P t i with
    | some fl => bif Nat.beq (sz P fl.type) 0 then bad o d K else forceS fl.offset fun off => sc1 o nm lay d (fieldP off) x K
    | none => bad o d K) K := by
  split
  · next fl hf =>
    obtain ⟨fs, ht, hi⟩ := fieldOf_spec hf
    exact .cond (fun _ => .bad) fun hz => .force (em_un1 (fieldP_ok t fs i fl ht hi (beq_false hz)) (by rw [ho]; simp [Op.operands]) (fun ρ => by simp only [execOp, ho]) (by rw [ho]; rfl))
  · exact .bad
theorem em_field {t : TypeId} {x : Operand} {i : Nat} (ho : o.op = .field t x i) : EmOk P o nm lay d (match fieldOf P t i with
    | some fl => forceS fl.offset fun off => withT P fl.type (bad o d K) fun n => bif aggT P fl.type || Nat.beq n 1 then sc1 o nm lay d (fieldVP (aggT P fl.type) off n) x K else bad o d K
    | none => bad o d K) K := by
  split
  · next fl hf =>
    obtain ⟨fs, ht, hi⟩ := fieldOf_spec hf
    refine .force (.withT fun he => .cond (fun h1 => em_un1 (fieldVP_ok t fs i fl ht hi he ?_) (by rw [ho]; simp [Op.operands]) (fun ρ => by simp only [execOp, ho]) (by rw [ho]; rfl)) fun _ => .bad)
    rw [Bool.or_eq_true] at h1
    exact h1.imp id beq_true
  · exact .bad
theorem em_indexAddr {t : TypeId} {x ix : Operand} (ho : o.op = .indexAddr t x ix) : EmOk P o nm lay d (match P.underlying t with
    | some (.slice e) => withT P e (bad o d K) fun n => sc2 o nm lay d (idxSP n) x ix K
    | some (.array ln e) => withT P e (bad o d K) fun n => sc2 o nm lay d (idxAP ln n) x ix K
    | _ => bad o d K) K := by
  split
  · next e ht => exact .withT fun he => em_bin1 (idxSP_ok t e ht he) (by rw [ho]; simp [Op.operands]) (by rw [ho]; simp [Op.operands]) (fun ρ => by simp only [execOp, ho]) (by rw [ho]; rfl)
  · next ln e ht => exact .withT fun he => em_bin1 (idxAP_ok t e ln ht he) (by rw [ho]; simp [Op.operands]) (by rw [ho]; simp [Op.operands]) (fun ρ => by simp only [execOp, ho]) (by rw [ho]; rfl)
  · exact .bad
theorem em_index {t : TypeId} {x ix : Operand} (ho : o.op = .index t x ix) : EmOk P o nm lay d (match P.underlying t with
    | some (.array ln e) => withT P e (bad o d K) fun n => bif aggT P e || !Nat.beq n 1 then bad o d K else sc2 o nm lay d (idxVP ln) x ix K
    | some .string => sc2 o nm lay d idxStrP x ix K
    | _ => bad o d K) K := by
  split
  · next ln e ht =>
    refine .withT fun he => .cond (fun _ => .bad) fun h1 => ?_
    rw [Bool.or_eq_false_iff, Bool.not_eq_false'] at h1
    exact em_bin1 (idxVP_ok t e ln ht he h1.1 (beq_true h1.2)) (by rw [ho]; simp [Op.operands]) (by rw [ho]; simp [Op.operands]) (fun ρ => by simp only [execOp, ho]) (by rw [ho]; rfl)
  · next ht => exact em_bin1 (idxStrP_ok t ht) (by rw [ho]; simp [Op.operands]) (by rw [ho]; simp [Op.operands]) (fun ρ => by simp only [execOp, ho]) (by rw [ho]; rfl)
  · exact .bad
end em
end
end
end Go.Kx
namespace Go.Kx
noncomputable section
variable [Sig]
section
variable {P : Program}
section em
variable {o : Oper} {nm : Names} {lay : Lay} {d : Nat} {β : Type} {K : Kt β}

theorem intT_spec {t : TypeId} (h : intT P t = true) : ∃ k, P.underlying t = some (.int k) := by
  unfold intT at h
  split at h
  · next k hk => exact ⟨k, hk⟩
  · cases h
theorem nrel_two {μ : Mu} {e : Ev} {f : Fr} {a b : V} {u v : Value} (h : VRel μ a u) (h2 : VRel μ b v) : NRel μ (pushL [a, b] e) f (.tup [.env e.length, .env (Nat.succ e.length)]) (.tuple #[u, v]) := by
  refine .tup ?_
  have e1 : aoV (pushL [a, b] e) f (.env e.length) = a := by
    show nthV (b :: a :: e) ((b :: a :: e).length - 1 - e.length) = a
    rw [show (b :: a :: e).length - 1 - e.length = 1 by simp]; rfl
  have e2 : aoV (pushL [a, b] e) f (.env (Nat.succ e.length)) = b := by
    show nthV (b :: a :: e) ((b :: a :: e).length - 1 - (e.length + 1)) = b
    rw [show (b :: a :: e).length - 1 - (e.length + 1) = 0 by simp]; rfl
  simp only [List.map, e1, e2]
  exact .cons h (.cons h2 .nil)
theorem em_lookup {t : TypeId} {m k : Operand} {ok : Bool} (ho : o.op = .lookup t m k ok) : EmOk P o nm lay d (match P.underlying t with
    | some (.map kt e) => (match zero1 P e with
      | some z => bif intT P kt then sc nm lay d m (bad o d K) fun gm => sc nm lay d k (bad o d K) fun gk =>
          K (some (lookC o.pos ok z gm gk)) (bif ok then 2 else 1) (bif ok then .tup [.env d, .env (Nat.succ d)] else oneN d) else bad o d K
      | none => bad o d K)
    | _ => bad o d K) K := by
  have h1 : m ∈ o.op.operands := by rw [ho]; simp [Op.operands]
  have h2 : k ∈ o.op.operands := by rw [ho]; simp [Op.operands]
  split
  · next kt e ht =>
    split
    · next z hz =>
      refine .cond (fun hi => ?_) fun _ => .bad
      obtain ⟨k0, hk0⟩ := intT_spec hi
      refine .sc fun gm hgm => .sc fun gk hgk => ⟨_, _, _, rfl, fun _ => ?_, fun call _ e' f h kk he => ?_⟩
      · cases ok
        · exact Nat.lt_succ_self d
        · intro a ha
          simp only [List.mem_cons, List.not_mem_nil, or_false] at ha
          rcases ha with rfl | rfl
          · show d < d + 2; omega
          · show d + 1 < d + 2; omega
      · rcases lookH_ok t kt e k0 ok z ht hk0 hz (gm e' f) (gk e' f) h (fun l => kk (pushL l e') h) (.stuck o.pos) with h3 | ⟨l, h3, h4, h5⟩
        · exact .inl ⟨_, h3⟩
        · refine .inr ⟨l, h, h4, h3, ?_⟩
          rw [ho]
          refine ⟨rfl, fun μ w ρ hr hs => ?_⟩
          obtain ⟨v, h6, h7⟩ := h5 μ w (ρ m) (ρ k) hr (hgm μ e' f ρ he (hs m h1)) (hgk μ e' f ρ he (hs k h2))
          refine ⟨v, ?_, ?_⟩
          · simp only [execOp, ho]
            exact run_v h6
          · subst he
            cases ok
            · obtain ⟨a, rfl, ha⟩ := h7
              exact nrel_one ha
            · obtain ⟨a, b, u, v', rfl, rfl, ha, hb⟩ := h7
              exact nrel_two ha hb
    · exact .bad
  · exact .bad
theorem em_mapUpdate {t : TypeId} {m k v : Operand} (ho : o.op = .mapUpdate t m k v) : EmOk P o nm lay d (match P.underlying t with
    | some (.map kt _) => bif intT P kt then sc nm lay d m (bad o d K) fun gm => sc nm lay d k (bad o d K) fun gk => sc nm lay d v (bad o d K) fun gv => K (some (ch3C o.pos updH gm gk gv)) 0 unN else bad o d K
    | _ => bad o d K) K := by
  split
  · next kt e ht =>
    refine .cond (fun hi => ?_) fun _ => .bad
    obtain ⟨k0, hk0⟩ := intT_spec hi
    exact .sc fun gm hgm => .sc fun gk hgk => .sc fun gv hgv => em_ch3s (updH_ok t kt e k0 ht hk0) (by rw [ho]; simp [Op.operands]) (by rw [ho]; simp [Op.operands]) (by rw [ho]; simp [Op.operands]) (fun ρ => by simp only [execOp, ho]) (by rw [ho]; rfl) hgm hgk hgv
  · exact .bad
theorem em_extract {x : Operand} {i : Nat} (ho : o.op = .extract x i) : EmOk P o nm lay d (match resolve nm lay x with
    | some (.tup l) => (match l[i]? with | some a => K none 0 (.val a) | none => bad o d K)
    | _ => bad o d K) K := by
  split
  · next l hr =>
    split
    · next a ha =>
      refine ⟨none, 0, _, rfl, fun h => resolve_below h hr a (List.mem_of_getElem? ha), rfl, by rw [ho]; rfl, fun μ e f ρ he hs => ?_⟩
      have hn := hs x (by rw [ho]; simp [Op.operands]) _ hr
      generalize hxv : ρ x = xv at hn
      cases hn with
      | tup h =>
        rename_i vs
        obtain ⟨b, hb, hv⟩ := h.get (k := i) (a := aoV e f a) (by simp [ha])
        refine ⟨b, fun w => ?_, .val hv⟩
        have hb' : vs[i]? = some b := by simpa using hb
        simp [execOp, ho, hxv, Instr.extract, hb']
    · exact .bad
  · exact .bad

/- ## literals -/
structure Parts (nm : Names) (lay : Lay) (d : Nat) (pl : Nat → Option (Nat × Option Nat)) (total : Nat) (ps : List ((Nat × Option Nat) × Gt)) (l : List (Nat × Operand)) : Prop where
  len : ps.length = l.length
  part : ∀ (k : Nat) p q, ps[k]? = some p → l[k]? = some q → pl q.1 = some p.1 ∧ p.1.1 + sizeP p.1.2 ≤ total ∧ GRel nm lay d p.2 q.2
theorem EmOk.parts {pl : Nat → Option (Nat × Option Nat)} {total : Nat} : ∀ {l : List (Nat × Operand)} {F : List ((Nat × Option Nat) × Gt) → β}, (∀ ps, Parts nm lay d pl total ps l → EmOk P o nm lay d (F ps) K) → EmOk P o nm lay d (partsOf nm lay d pl total l (Kx.bad o d K) F) K
  | [], _, h => h [] ⟨rfl, fun k p q hp => by simp at hp⟩
  | q :: l, F, h => by
    show EmOk P o nm lay d (match pl q.1 with
      | some (off, s) => bif Nat.ble (Nat.add off (match s with | some n => n | none => 1)) total then Kx.sc nm lay d q.2 (Kx.bad o d K) fun g => forceS off fun off => partsOf nm lay d pl total l (Kx.bad o d K) fun l => F (((off, s), g) :: l) else Kx.bad o d K
      | none => Kx.bad o d K) K
    split
    · next off s hpl =>
      refine .cond (fun hle => .sc fun g hg => .force (EmOk.parts (l := l) fun ps hps => h (((off, s), g) :: ps) ⟨by simp [hps.len], fun k p q' hp hq' => ?_⟩)) fun _ => .bad
      cases k with
      | zero =>
        simp only [List.getElem?_cons_zero, Option.some.injEq] at hp hq'
        subst hp hq'
        exact ⟨hpl, ble_true hle, hg⟩
      | succ k =>
        simp only [List.getElem?_cons_succ] at hp hq'
        exact hps.part k p q' hp hq'
    · exact .bad
theorem partsE_eq (ps : List ((Nat × Option Nat) × Gt)) (e : Ev) (f : Fr) : partsE ps e f = ps.map fun p => (p.1, p.2 e f) := mapL_eq _ _
theorem Parts.fits {pl : Nat → Option (Nat × Option Nat)} {total : Nat} {ps : List ((Nat × Option Nat) × Gt)} {l : List (Nat × Operand)} (h : Parts nm lay d pl total ps l) (e : Ev) (f : Fr) : ∀ p, p ∈ partsE ps e f → p.1.1 + sizeP p.1.2 ≤ total := fun p hp => by
  rw [partsE_eq, List.mem_map] at hp
  obtain ⟨q, hq, rfl⟩ := hp
  obtain ⟨k, hk⟩ := List.getElem?_of_mem hq
  have hlt : k < l.length := by
    rw [← h.len]
    rcases Nat.lt_or_ge k ps.length with h' | h'
    · exact h'
    · simp [List.getElem?_eq_none h'] at hk
  exact (h.part k q _ hk (List.getElem?_eq_getElem hlt)).2.1
theorem Parts.rel {pl : Nat → Option (Nat × Option Nat)} {pl' : Nat → Option (Nat × Nat)} (hpl : ∀ i q, pl i = some q → pl' i = some (q.1, sizeP q.2)) {total : Nat} {ps : List ((Nat × Option Nat) × Gt)} {l : List (Nat × Operand)} (h : Parts nm lay d pl total ps l) {μ : Mu} {e : Ev} {f : Fr} {ρ : Operand → Value} (he : e.length = d)
    (hs : ∀ q, q ∈ l → ORel μ nm lay e f ρ q.2) : PartRel μ pl' total (partsE ps e f) (l.map fun q => (q.1, ρ q.2)) := by
  refine part_rel (pl := pl) hpl (by rw [partsE_eq]; simp [h.len]) fun k p q hp hq => ?_
  rw [partsE_eq, List.getElem?_map] at hp
  rw [List.getElem?_map] at hq
  cases hpk : ps[k]? with
  | none => rw [hpk] at hp; cases hp
  | some p0 =>
    cases hqk : l[k]? with
    | none => rw [hqk] at hq; cases hq
    | some q0 =>
      rw [hpk] at hp; rw [hqk] at hq
      injection hp with hp; injection hq with hq
      subst hp hq
      obtain ⟨h1, h2, h3⟩ := h.part k p0 q0 hpk hqk
      exact ⟨h1, h2, h3 μ e f ρ he (hs q0 (List.mem_of_getElem? hqk))⟩
theorem em_build {t : TypeId} {parts : Array (Nat × Operand)} (ho : o.op = .build t parts) : EmOk P o nm lay d (match zeroOf P t with
    | some z => (match placesOf P t with
      | some pl => partsOf nm lay d pl (len z) parts.toList (bad o d K) fun ps => K (some (buildC o.pos z ps)) 1 (oneN d)
      | none => bad o d K)
    | none => bad o d K) K := by
  split
  · next z hz =>
    split
    · next pl hpl =>
      obtain ⟨pl', zv, h1, h2, h3⟩ := placesOf_spec hpl hz
      refine .parts fun ps hps => ⟨_, _, _, rfl, EmSem.pure1 (p := fun e f kk st => fillK (partsE ps e f) z (fun cs => kk (.agg cs)) st) (by rw [ho]; rfl) fun e f kk st he => (fillK_ok (len z) (partsE ps e f) z (fun cs => kk (.agg cs)) st (hps.fits e f) (len_eq z).symm).mono fun o' ⟨cs, h4, h5, h6⟩ => ⟨_, h4, fun μ ρ hs => ?_⟩⟩
      obtain ⟨ds, h7, h8⟩ := h6 μ pl' _ zv (hps.rel h1 he fun q hq => hs q.2 (by rw [ho]; simp [Op.operands]; exact ⟨q.1, by simpa using hq⟩)) (by rw [h2]; exact ofCells_rel μ _)
      refine ⟨.agg ds, fun w => ?_, .agg _ _ h8⟩
      have h9 := h3 (parts.map fun (i, x) => (i, ρ x)) ds (by rw [← h7]; simp) w
      simp only [execOp, ho]
      exact run_v h9
    · exact .bad
  · exact .bad
theorem em_buildSlice {t : TypeId} {ln : Nat} {parts : Array (Nat × Operand)} (ho : o.op = .buildSlice t ln parts) : EmOk P o nm lay d (match P.underlying t with
    | some (.slice e) => (match zeroOf P e with
      | some z => withT P e (bad o d K) fun s => bif Nat.ble (Nat.mul ln s) 16777216 && Nat.beq (len z) s then (forceS (Nat.mul ln s) fun n => partsOf nm lay d (fun i => place1 P (Nat.mul i s) e) n parts.toList (bad o d K) fun ps => K (some (litC o.pos n ln (repV ln z) ps)) 1 (oneN d)) else bad o d K
      | none => bad o d K)
    | _ => bad o d K) K := by
  split
  · next e ht =>
    split
    · next z hz =>
      refine .withT fun he => .cond (fun hc => .force (.parts fun ps hps => ?_)) fun _ => .bad
      rw [Bool.and_eq_true] at hc
      have hsm := ble_true hc.1
      have hzl : z.length = sz P e := by rw [← len_eq]; exact beq_true hc.2
      obtain ⟨ie, zv, hie, hzv, hzz⟩ := zeroOf_spec hz
      obtain ⟨ie', dd, hie', hsz, hs0, hdd⟩ := okT_spec he
      rw [hie] at hie'; injection hie' with hie'; subst hie'
      have hzs : zv.cells.size = ie.size := by rw [hsz, ← hzl, hzz, mapL_eq]; simp
      have hrl : (repV ln z).length = Nat.mul ln (sz P e) := by rw [repV_eq]; simp [hzl]
      refine ⟨_, _, _, rfl, EmSem.made1 (p := fun e' f kk st => fillK (partsE ps e' f) (repV ln z) (fun cs => litM (Nat.mul ln (sz P e)) ln cs kk st) st) (by rw [ho]; rfl) fun e' f kk st he' => ?_⟩
      refine (fillK_ok (Nat.mul ln (sz P e)) (partsE ps e' f) (repV ln z) _ st (hps.fits e' f) hrl).bind fun o' ⟨cs, h4, h5, h6⟩ => Ok.cast h4 (Ok.ifB fun hall => .inr ⟨_, _, rfl, fun μ w ρ hs => ⟨Instr.buildSlice t ln (parts.map fun (i, x) => (i, ρ x)), by simp only [execOp, ho], ?_⟩⟩)
      have hpl' : ∀ i q, (fun i => place1 P (Nat.mul i (sz P e)) e) i = some q → (fun i => some (i * ie.size, ie.size)) i = some (q.1, sizeP q.2) := fun i q hq => by
        obtain ⟨h1, h2, h3⟩ := place1_spec hq
        rw [h1, h2, hsz]
        rfl
      obtain ⟨ds, h7, h8⟩ := h6 μ (fun i => some (i * ie.size, ie.size)) _ (Builtin.zeroCells zv.cells ln) (hps.rel hpl' he' fun q hq => hs q.2 (by rw [ho]; simp [Op.operands]; exact ⟨q.1, by simpa using hq⟩)) (rep_rel μ (by rw [hzz]; exact ofCells_rel μ _) ln)
      have h9 := run_buildSlice' (P := P) w t e ln (parts.map fun (i, x) => (i, ρ x)) ds ie zv ht hie hzv hzs (by rw [hsz]; exact hsm) (by rw [Array.toList_map]; exact h7)
      have h10 : (w.alloc (.cells ds e)) = w.alloc (.cells ds.toList.toArray e) := by simp
      rw [h10] at h9
      exact made_row h9 h8 h5 (slice_new ln ln)
    · exact .bad
  · exact .bad
end em
end
end
end Go.Kx
namespace Go.Kx
noncomputable section
variable [Sig]
section
variable {P : Program}
section em
variable {o : Oper} {nm : Names} {lay : Lay} {d : Nat} {β : Type} {K : Kt β}

theorem len_one {ts : Array TypeId} {ty t : TypeId} {as : Array Value} {x : Value} (h : ts[0]? = some t) (h2 : as[0]? = some x) : Builtin.len_ ts ty as = Builtin.len_ #[t] ty #[x] := by
  unfold Builtin.len_; rw [h, h2]; rfl
theorem len_one' {ts : Array TypeId} {ty : TypeId} {as : Array Value} {x : Value} (h2 : as[0]? = some x) : Builtin.len_ ts ty as = Builtin.len_ ts ty #[x] := by
  unfold Builtin.len_; rw [h2]; rfl
theorem cap_one {ts : Array TypeId} {ty t : TypeId} {as : Array Value} {x : Value} (h : ts[0]? = some t) (h2 : as[0]? = some x) : Builtin.cap_ ts ty as = Builtin.cap_ #[t] ty #[x] := by
  unfold Builtin.cap_; rw [h, h2]; rfl
theorem append_two {ts : Array TypeId} {ty : TypeId} {as : Array Value} {x y : Value} (h : as[0]? = some x) (h2 : as[1]? = some y) : Builtin.append_ ts ty as = Builtin.append_ ts ty #[x, y] := by
  unfold Builtin.append_; rw [h, h2]; rfl
theorem copy_two {ts : Array TypeId} {ty : TypeId} {as : Array Value} {x y : Value} (h : as[0]? = some x) (h2 : as[1]? = some y) : Builtin.copy_ ts ty as = Builtin.copy_ ts ty #[x, y] := by
  unfold Builtin.copy_; rw [h, h2]; rfl
theorem clear_one {ts : Array TypeId} {ty : TypeId} {as : Array Value} {x : Value} (h : as[0]? = some x) : Builtin.clear_ ts ty as = Builtin.clear_ ts ty #[x] := by
  unfold Builtin.clear_; rw [h]; rfl
theorem delete_two {ts : Array TypeId} {ty : TypeId} {as : Array Value} {x y : Value} (h : as[0]? = some x) (h2 : as[1]? = some y) : Builtin.delete_ ts ty as = Builtin.delete_ ts ty #[x, y] := by
  unfold Builtin.delete_; rw [h, h2]; rfl
theorem args0 {c : Call} {x : Operand} {l : List Operand} (h : c.args.toList = x :: l) (ρ : Operand → Value) : (c.args.map ρ)[0]? = some (ρ x) := by
  rw [Array.getElem?_map, ← Array.getElem?_toList, h]; rfl
theorem args1 {c : Call} {x y : Operand} {l : List Operand} (h : c.args.toList = x :: y :: l) (ρ : Operand → Value) : (c.args.map ρ)[1]? = some (ρ y) := by
  rw [Array.getElem?_map, ← Array.getElem?_toList, h]; rfl
theorem ut_spec {t : Option TypeId} {td : TypeDesc} (h : ut P t = some td) : ∃ u, t = some u ∧ P.underlying u = some td := by
  cases t with
  | none => cases h
  | some u => exact ⟨u, rfl, h⟩
theorem mem_args {c : Call} {x : Operand} (hx : x ∈ c.args.toList) (ho : o.op = .call c) : x ∈ o.op.operands := by
  rw [ho]; simp only [Op.operands, Call.operands, Array.mem_append]; exact .inr (by simpa using hx)
theorem ex_builtin {c : Call} {b : Builtin} (ho : o.op = .call c) (hb : c.callee = .builtin b) (ρ : Operand → Value) : execOp ρ o = builtin b c.argTypes o.type (c.args.map fun | .const _ => true | _ => false) (c.args.map ρ) := by
  simp only [execOp, ho, Go.resolve, hb]
  rfl
theorem foldlM_run {F : Value → Value → Sem Value} {x y : Value} {l : List Value} {w : World} {v : Value} (h : (F x y).run P w = .ok v w) : (List.foldlM F x (y :: l)).run P w = (List.foldlM F v l).run P w := by
  simp [List.foldlM_cons, h]
theorem foldK_ok {p : P2} {F : Value → Value → Sem Value} (hF : Fn2 P p F) : ∀ (l : List V) (a : V) (kk : KV) (st : Out), Ok (foldK p l a kk st) st fun o => ∃ v, o = kk v ∧ ∀ μ av vs, VRel μ a av → VsRel μ l vs → ∃ v', (∀ w, (List.foldlM F av vs).run P w = .ok v' w) ∧ VRel μ v v'
  | [], a, kk, st => .inr ⟨a, rfl, fun μ av vs ha hv => by cases hv; exact ⟨av, fun w => rfl, ha⟩⟩
  | b :: l, a, kk, st => by
    rcases hF a b (fun c => foldK p l c kk st) st with h | ⟨v, h, h2⟩
    · exact .inl h
    · refine Ok.cast h ((foldK_ok hF l v kk st).mono fun o ⟨v2, h3, h4⟩ => ⟨v2, h3, fun μ av vs ha hv => ?_⟩)
      cases hv with
      | cons hb ht =>
        obtain ⟨v', h5, h6⟩ := h2 μ av _ ha hb
        obtain ⟨v3, h7, h8⟩ := h4 μ v' _ h6 ht
        exact ⟨v3, fun w => by rw [foldlM_run (h5 w)]; exact h7 w, h8⟩
theorem em_fold {p : P2} {F : Value → Value → Sem Value} (hF : Fn2 P p F) {c : Call} {x : Operand} {l : List Operand} (ho : o.op = .call c) (hl : c.args.toList = x :: l) (hcls : clsOf P o.op = 0) (hex : ∀ ρ, execOp ρ o = (do pure (.value (← List.foldlM F (ρ x) (l.map ρ))))) :
    EmOk P o nm lay d (sc nm lay d x (bad o d K) fun gx => scs nm lay d l (bad o d K) fun gs => K (some (foldC o.pos p gx gs)) 1 (oneN d)) K :=
  .sc fun gx hgx => .scs fun gs hgs => ⟨_, _, _, rfl, EmSem.pure1 (p := fun e f kk st => foldK p (gets gs e f) (gx e f) kk st) hcls fun e f kk st he => (foldK_ok hF (gets gs e f) (gx e f) kk st).mono fun o' ⟨v, h1, h2⟩ => ⟨v, h1, fun μ ρ hs => by
    obtain ⟨v', h3, h4⟩ := h2 μ (ρ x) (l.map ρ) (hgx μ e f ρ he (hs x (mem_args (by rw [hl]; simp) ho))) (hgs μ e f ρ he fun y hy => hs y (mem_args (by rw [hl]; simp [hy]) ho))
    exact ⟨v', fun w => by rw [hex]; exact run_v (h3 w), h4⟩⟩⟩
theorem em_builtin {c : Call} {b : Builtin} (ho : o.op = .call c) (hb : c.callee = .builtin b) : EmOk P o nm lay d (emBuiltin P o nm lay d b c K) K := by
  unfold emBuiltin
  cases b <;> try exact .bad
  case append =>
    dsimp only
    split
    · next s x rest hl =>
      have h0 : ∀ ρ : Operand → Value, (c.args.map ρ)[0]? = some (ρ s) := args0 hl
      have h1 : ∀ ρ : Operand → Value, (c.args.map ρ)[1]? = some (ρ x) := args1 hl
      have ms : s ∈ o.op.operands := mem_args (by rw [hl]; simp) ho
      have mx : x ∈ o.op.operands := mem_args (by rw [hl]; simp) ho
      have hex : ∀ ρ, execOp ρ o = (do pure (.value (← Builtin.append_ c.argTypes o.type #[ρ s, ρ x]))) := fun ρ => by rw [ex_builtin ho hb, ← append_two (h0 ρ) (h1 ρ)]; rfl
      have hcls : clsOf P o.op = 3 := by rw [ho]; simp only [clsOf, hb]
      split
      · next e ht =>
        obtain ⟨t, ht0, ht⟩ := ut_spec ht
        refine .sc fun gs hgs => .sc fun gx hgx => ?_
        split
        · next u hu =>
          obtain ⟨tx, ht1, hu⟩ := ut_spec hu
          split
          · next z hz =>
            refine .withT fun he => .cond (fun hn => .force ?_) fun _ => .bad
            have hzl : z.length = sz P e := by rw [← len_eq]; exact beq_true hn
            obtain ⟨i, v, hi, hv, hzv⟩ := zeroOf_spec hz
            have hzs : v.cells.size = sz P e := by rw [← hzl, hzv, mapL_eq]; simp
            split
            · exact em_ch2 (appZH_ok t tx o.type e _ z ht hu he hz hzl c.argTypes ⟨ht0, ht1⟩) ms mx hex hcls hgs hgx
            · exact em_ch2 (appH_ok t tx o.type e i v ht (.inl ⟨_, hu⟩) he hi hv hzs c.argTypes ⟨ht0, ht1⟩) ms mx hex hcls hgs hgx
            · exact em_ch2 (appH_ok t tx o.type e i v ht (.inr hu) he hi hv hzs c.argTypes ⟨ht0, ht1⟩) ms mx hex hcls hgs hgx
            · exact .bad
          · exact .bad
        · exact .bad
      · exact .bad
    · exact .bad
  case cap =>
    dsimp only
    split
    · next x rest hl =>
      split
      · next e ht =>
        obtain ⟨t, ht0, ht⟩ := ut_spec ht
        exact em_un1 (capP_ok t o.type e ht) (mem_args (by rw [hl]; simp) ho) (fun ρ => by rw [ex_builtin ho hb, ← cap_one ht0 (args0 hl ρ)]; rfl) (by rw [ho]; simp only [clsOf, hb])
      · exact .bad
    · exact .bad
  case clear =>
    dsimp only
    split
    · next x rest hl =>
      split
      · next e ht =>
        obtain ⟨t, ht0, ht⟩ := ut_spec ht
        split
        · next z hz =>
          refine .sc fun gx hgx => .withT fun he => .cond (fun hn => ?_) fun _ => .bad
          have hzl : z.length = sz P e := by rw [← len_eq]; exact beq_true hn
          exact em_ch1u (clearH_ok t o.type e z ht hz hzl c.argTypes ht0) (mem_args (by rw [hl]; simp) ho) (fun ρ => by rw [ex_builtin ho hb, ← clear_one (args0 hl ρ)]; rfl) (by rw [ho]; simp only [clsOf, hb]) hgx
        · exact .bad
      · exact .bad
    · exact .bad
  case copy =>
    dsimp only
    split
    · next t s rest hl =>
      split
      · next e ht =>
        obtain ⟨tt, ht0, ht⟩ := ut_spec ht
        exact .sc fun gd hgd => .sc fun gs hgs => .withT fun he => em_ch2 (copyH_ok tt o.type e ht he c.argTypes ht0) (mem_args (by rw [hl]; simp) ho) (mem_args (by rw [hl]; simp) ho) (fun ρ => by rw [ex_builtin ho hb, ← copy_two (args0 hl ρ) (args1 hl ρ)]; rfl) (by rw [ho]; simp only [clsOf, hb]) hgd hgs
      · exact .bad
    · exact .bad
  case delete =>
    dsimp only
    split
    · next m k rest hl =>
      split
      · next kt e ht =>
        obtain ⟨t, ht0, ht⟩ := ut_spec ht
        refine .cond (fun hi => ?_) fun _ => .bad
        obtain ⟨k0, hk0⟩ := intT_spec hi
        exact .sc fun gm hgm => .sc fun gk hgk => em_ch2u (delH_ok t kt e o.type k0 ht hk0 c.argTypes ht0) (mem_args (by rw [hl]; simp) ho) (mem_args (by rw [hl]; simp) ho) (fun ρ => by rw [ex_builtin ho hb, ← delete_two (args0 hl ρ) (args1 hl ρ)]; rfl) (by rw [ho]; simp only [clsOf, hb]) hgm hgk
      · exact .bad
    · exact .bad
  case len =>
    dsimp only
    split
    · next x rest hl =>
      have mx : x ∈ o.op.operands := mem_args (by rw [hl]; simp) ho
      split
      · next ht =>
        have htu := ht
        obtain ⟨t, ht0, ht⟩ := ut_spec ht
        exact em_un1 (lenStrP_ok t o.type ht) mx (fun ρ => by rw [ex_builtin ho hb, ← len_one ht0 (args0 hl ρ)]; rfl) (by rw [ho]; simp only [clsOf, hb, htu])
      · next e ht =>
        have htu := ht
        obtain ⟨t, ht0, ht⟩ := ut_spec ht
        exact em_un1 (lenP_ok t o.type e ht) mx (fun ρ => by rw [ex_builtin ho hb, ← len_one ht0 (args0 hl ρ)]; rfl) (by rw [ho]; simp only [clsOf, hb, htu])
      · next k e ht =>
        have htu := ht
        obtain ⟨t, ht0, ht⟩ := ut_spec ht
        exact em_rd1 (lenMH_ok t k e o.type c.argTypes ht ht0) mx (fun ρ => by rw [ex_builtin ho hb, ← len_one' (args0 hl ρ)]; rfl) (by rw [ho]; simp only [clsOf, hb, htu])
      · next n e ht =>
        have htu := ht
        obtain ⟨t, ht0, ht⟩ := ut_spec ht
        refine ⟨none, 0, _, rfl, fun _ => trivial, rfl, by rw [ho]; simp only [clsOf, hb, htu], fun μ e' f ρ he hs => ⟨.int .i64 (n : Int), fun w => ?_, .val (.n n)⟩⟩
        rw [ex_builtin ho hb]
        show (do pure (Next.value (← Builtin.len_ c.argTypes o.type (c.args.map ρ))) : Sem Next).run P w = _
        rw [len_one ht0 (args0 hl ρ)]
        apply run_v
        simp [Builtin.len_, run_under ht, goInt]
      · exact .bad
    · exact .bad
  case max =>
    dsimp only
    split
    · next x l hl =>
      refine em_fold maxP_ok ho hl (by rw [ho]; simp only [clsOf, hb]) fun ρ => ?_
      rw [ex_builtin ho hb]
      show (do pure (Next.value (← Builtin.max_ c.argTypes o.type (c.args.map ρ))) : Sem Next) = _
      unfold Builtin.max_
      rw [Array.toList_map, hl]; rfl
    · exact .bad
  case min =>
    dsimp only
    split
    · next x l hl =>
      refine em_fold minP_ok ho hl (by rw [ho]; simp only [clsOf, hb]) fun ρ => ?_
      rw [ex_builtin ho hb]
      show (do pure (Next.value (← Builtin.min_ c.argTypes o.type (c.args.map ρ))) : Sem Next) = _
      unfold Builtin.min_
      rw [Array.toList_map, hl]; rfl
    · exact .bad
end em
end
end
end Go.Kx
namespace Go.Kx
noncomputable section
variable [Sig]
section
variable {P : Program}
section em
variable {o : Oper} {nm : Names} {lay : Lay} {d : Nat} {β : Type} {K : Kt β}

theorem arity_spec {g : FuncId} {n rs caps : Nat} (h : arity P g n rs caps = true) : ∃ fn, P.funcs[g]? = some fn ∧ fn.results.size = rs ∧ fn.params.size = n ∧ fn.nfree = caps := by
  unfold arity at h
  cases hf : P.funcs[g]? with
  | none => rw [hf] at h; cases h
  | some fn =>
    rw [hf] at h
    dsimp only at h
    refine ⟨fn, rfl, ?_⟩
    cases h1 : Nat.beq fn.nfree caps with
    | false => rw [h1] at h; cases h
    | true =>
      cases h2 : Nat.beq fn.params.size n with
      | false => rw [h1, h2] at h; cases h
      | true => rw [h1, h2] at h; exact ⟨beq_true h, beq_true h2, beq_true h1⟩
theorem envsFrom_len : ∀ (n p : Nat), (envsFrom n p).length = n
  | 0, _ => rfl
  | n + 1, p => congrArg (· + 1) (envsFrom_len n (p + 1))
theorem envsFrom_get : ∀ (n p k : Nat), k < n → (envsFrom n p)[k]? = some (.env (p + k))
  | 0, _, _, h => absurd h (by omega)
  | n + 1, p, 0, _ => rfl
  | n + 1, p, k + 1, h => by
    have := envsFrom_get n (p + 1) k (by omega)
    show (AO.env p :: envsFrom n (p + 1))[k + 1]? = _
    rw [List.getElem?_cons_succ, this]
    congr 2; omega
theorem envsFrom_val (l : List V) (e : Ev) (f : Fr) : (envsFrom l.length e.length).map (aoV (pushL l e) f) = l := by
  apply List.ext_getElem?
  intro k
  rw [List.getElem?_map]
  rcases Nat.lt_or_ge k l.length with hk | hk
  · rw [envsFrom_get _ _ _ hk]
    show some (nthV (pushL l e) ((pushL l e).length - 1 - (e.length + k))) = l[k]?
    rw [pushL_eq, nthV_eq]
    have h1 : (l.reverse ++ e).length - 1 - (e.length + k) = l.length - 1 - k := by simp; omega
    rw [h1, List.getElem?_append_left (by simp; omega), List.getElem?_reverse (by omega)]
    have h2 : l.length - 1 - (l.length - 1 - k) = k := by omega
    rw [h2, List.getElem?_eq_getElem hk]; rfl
  · rw [List.getElem?_eq_none (by rw [envsFrom_len]; exact hk), List.getElem?_eq_none hk]; rfl
theorem nrel_tup {μ : Mu} {l : List V} {v : Value} (h : ∃ vs : Array Value, v = .tuple vs ∧ VsRel μ l vs.toList) (e : Ev) (f : Fr) : NRel μ (pushL l e) f (.tup (envsFrom l.length e.length)) v := by
  obtain ⟨vs, hv, h⟩ := h
  subst hv
  refine .tup ?_
  rw [envsFrom_val l e f]; exact h
theorem nrel_res {μ : Mu} {l : List V} {v : Value} (h : ResRel μ l v) (e : Ev) (f : Fr) : NRel μ (pushL l e) f (resNm l.length e.length) v := by
  cases l with
  | nil => exact nrel_tup h e f
  | cons a l =>
    cases l with
    | nil => exact nrel_one h
    | cons b l => exact nrel_tup h e f
theorem resNm_below (rs d : Nat) : (resNm rs d).below (d + rs) := by
  match rs with
  | 1 => exact Nat.lt_succ_self d
  | 0 => intro a ha; cases ha
  | n + 2 =>
    intro a ha
    obtain ⟨k, hk⟩ := List.getElem?_of_mem ha
    have hlt : k < n + 2 := by
      rcases Nat.lt_or_ge k (n + 2) with h | h
      · exact h
      · rw [List.getElem?_eq_none (by rw [envsFrom_len]; exact h)] at hk; cases hk
    rw [envsFrom_get _ _ _ hlt] at hk
    injection hk with hk; subst hk
    show d + k < d + (n + 2); omega
theorem run_callFunc {g : FuncId} {fn : Func} (hf : P.funcs[g]? = some fn) (hb : fn.body.isSome = true) (hn : fn.name ≠ "runtime.NumGoroutine") (as : Array Value) (w : World) : (callFunc g as).run P w = .ok (.enter g as) w := by
  have h2 : fn.body ≠ none := fun hq => by rw [hq] at hb; cases hb
  simp [callFunc, hf, hn, h2]
/-- a call, from its run's first step -/
theorem upon_call {call : CallT} (hc : CallOk P call) {g : FuncId} {as : List V} {h h' : H} {l : List V} (hf : CallFact P g as h l h') {μ : Mu} {w : World} {vs : Array Value} (hr : Rel μ h w) (hfr : Fresh μ h h') (hv : VsRel μ as vs.toList) {s : Sem Next} (hs : s.run P w = .ok (.enter g vs) w) (hln : ∃ fn, P.funcs[g]? = some fn ∧ as.length = fn.params.size + fn.nfree) (e : Ev) (f : Fr) :
    Upon P (s.run P w) fun v w' => ∃ μ', Step μ h w μ' h' w' ∧ Rel μ' h' w' ∧ NRel μ' (pushL l e) f (resNm l.length e.length) v := by
  rw [hs]
  have := hf.2 hln μ w vs.toList hr hfr hv
  rw [Array.toArray_toList] at this
  exact Calls.mono this fun e' w'' ⟨v, he, μ', h1, h2, h3⟩ => ⟨v, he, μ', h1, h2, nrel_res h3 e f⟩
theorem em_static {c : Call} {g : FuncId} {rs : Nat} (ho : o.op = .call c) (hcl : c.callee = .value (.func g)) : EmOk P o nm lay d (scs nm lay d c.args.toList (bad o d K) fun gs =>
      bif arity P g c.args.size rs 0 then forceS rs fun rs => K (some (callC g gs)) rs (resNm rs d) else bad o d K) K := by
  refine .scs fun gs hgs => .cond (fun har => .force ⟨_, _, _, rfl, fun _ => resNm_below rs d, fun call hcall e f h k he => ?_⟩) fun _ => .bad
  rcases hcall g (gets gs e f) h (fun l h => k (pushL l e) h) with ⟨s, h1⟩ | ⟨l, h', h1, h2⟩
  · exact .inl ⟨s, h1⟩
  · obtain ⟨⟨fn, hfn, hb, hn, hl⟩, _⟩ := id h2
    obtain ⟨fn', hfn', hrs, hps, hcs⟩ := arity_spec har
    rw [hfn] at hfn'; injection hfn' with hfn'; subst hfn'
    have hlr : l.length = rs := hl.trans hrs
    refine .inr ⟨l, h', hlr, h1, ?_⟩
    have hcls : clsOf P o.op = 3 := by rw [ho]; simp only [clsOf, hcl]
    rw [hcls]
    intro μ w ρ hr hfr hs
    have hargs := hgs μ e f ρ he fun x hx => hs x (mem_args hx ho)
    have hg : ρ (.func g) = .func (.func g) #[] #[] := by
      have hm : Operand.func g ∈ o.op.operands := by rw [ho]; simp [Op.operands, Call.operands, hcl]
      have := hs (.func g) hm _ rfl
      generalize hq : ρ (.func g) = q at this
      cases this with
      | val hv =>
        have hv : VRel μ (.func g []) q := hv
        cases hv with
        | func _ _ vs hvs =>
          have : vs = #[] := by
            cases vs with
            | mk l => cases l with
              | nil => rfl
              | cons a l => cases hvs
          rw [this]
    have hrun : (execOp ρ o).run P w = .ok (.enter g (c.args.map ρ)) w := by
      have e1 : execOp ρ o = (do let d ← Go.resolve ρ c o.type; invoke d.target d.args) := by simp only [execOp, ho]
      rw [e1]
      simp [Go.resolve, hcl, hg, Deferred.ofValue, invoke, run_callFunc hfn hb hn]
    subst he
    have := upon_call hcall h2 hr hfr (vs := c.args.map ρ) (by rw [Array.toList_map]; exact hargs) hrun ⟨fn, hfn, by rw [hargs.length, hps, hcs]; simp⟩ e f
    rwa [hlr] at this
theorem em_dyn {c : Call} {x : Operand} {rs : Nat} (ho : o.op = .call c) (hcl : c.callee = .value x) : EmOk P o nm lay d (sc nm lay d x (bad o d K) fun gx => scs nm lay d c.args.toList (bad o d K) fun gs =>
      forceS rs fun rs => forceS c.args.size fun n => K (some (dynC P o.pos n rs gx gs)) rs (resNm rs d)) K := by
  refine .sc fun gx hgx => .scs fun gs hgs => .force (.force ⟨_, _, _, rfl, fun _ => resNm_below rs d, fun call hcall e f h k he => ?_⟩)
  have hcls : clsOf P o.op = 3 := by rw [ho]; simp only [clsOf, hcl]
  have hmx : x ∈ o.op.operands := by rw [ho]; simp [Op.operands, Call.operands, hcl]
  have main : ∀ g caps, gx e f = .func g caps → (∃ s, dynC P o.pos c.args.size rs gx gs call e f h k = .stuck s) ∨ ∃ l h', l.length = rs ∧ dynC P o.pos c.args.size rs gx gs call e f h k = k (pushL l e) h' ∧ Fact P o nm lay e f h (pushL l e) h' (resNm rs d) (clsOf P o.op) := fun g caps hx => by
    have e0 : dynC P o.pos c.args.size rs gx gs call e f h k = ifB (arity P g c.args.size rs (len caps)) (call g (app (gets gs e f) (ptrVs caps)) h fun l h => k (pushL l e) h) (.stuck o.pos) := by
      show onFunc (gx e f) _ _ _ = _
      rw [hx]; rfl
    cases har : arity P g c.args.size rs (len caps) with
    | false => exact .inl ⟨o.pos, by rw [e0, har]; rfl⟩
    | true =>
      rw [har] at e0
      rcases hcall g (app (gets gs e f) (ptrVs caps)) h (fun l h => k (pushL l e) h) with ⟨s, h1⟩ | ⟨l, h', h1, h2⟩
      · exact .inl ⟨s, e0.trans h1⟩
      · obtain ⟨⟨fn, hfn, hb, hn, hl⟩, _⟩ := id h2
        obtain ⟨fn', hfn', hrs, hps, hcs⟩ := arity_spec har
        rw [hfn] at hfn'; injection hfn' with hfn'; subst hfn'
        have hlr : l.length = rs := hl.trans hrs
        refine .inr ⟨l, h', hlr, e0.trans h1, ?_⟩
        rw [hcls]
        intro μ w ρ hr hfr hs
        have hargs := hgs μ e f ρ he fun y hy => hs y (mem_args hy ho)
        have hxv := hgx μ e f ρ he (hs x hmx)
        rw [hx] at hxv
        generalize hq : ρ x = q at hxv
        cases hxv with
        | func _ _ vs hvs =>
          have hrun : (execOp ρ o).run P w = .ok (.enter g (c.args.map ρ ++ vs)) w := by
            have e1 : execOp ρ o = (do let d ← Go.resolve ρ c o.type; invoke d.target d.args) := by simp only [execOp, ho]
            rw [e1]
            simp [Go.resolve, hcl, hq, Deferred.ofValue, invoke, run_callFunc hfn hb hn]
          subst he
          have hall : VsRel μ (app (gets gs e f) (ptrVs caps)) (c.args.map ρ ++ vs).toList := by
            rw [app_eq, Array.toList_append, Array.toList_map]
            unfold ptrVs
            rw [mapL_eq]
            exact hargs.app hvs
          have := upon_call hcall h2 hr hfr hall hrun ⟨fn, hfn, by rw [hps, hcs, app_eq, List.length_append, hargs.length, len_eq]; unfold ptrVs; rw [mapL_eq]; simp⟩ e f
          rwa [hlr] at this
  have mainM : ∀ g i q, gx e f = .mfunc g i q → (∃ s, dynC P o.pos c.args.size rs gx gs call e f h k = .stuck s) ∨ ∃ l h', l.length = rs ∧ dynC P o.pos c.args.size rs gx gs call e f h k = k (pushL l e) h' ∧ Fact P o nm lay e f h (pushL l e) h' (resNm rs d) (clsOf P o.op) := fun g i q hx => by
    have e0 : dynC P o.pos c.args.size rs gx gs call e f h k = ifB (arity P g (Nat.succ c.args.size) rs 0) (call g (.ptr i q :: gets gs e f) h fun l h => k (pushL l e) h) (.stuck o.pos) := by
      show onFunc (gx e f) _ _ _ = _
      rw [hx]; rfl
    cases har : arity P g (Nat.succ c.args.size) rs 0 with
    | false => exact .inl ⟨o.pos, by rw [e0, har]; rfl⟩
    | true =>
      rw [har] at e0
      rcases hcall g (.ptr i q :: gets gs e f) h (fun l h => k (pushL l e) h) with ⟨s, h1⟩ | ⟨l, h', h1, h2⟩
      · exact .inl ⟨s, e0.trans h1⟩
      · obtain ⟨⟨fn, hfn, hb, hn, hl⟩, _⟩ := id h2
        obtain ⟨fn', hfn', hrs, hps, hcs⟩ := arity_spec har
        rw [hfn] at hfn'; injection hfn' with hfn'; subst hfn'
        have hlr : l.length = rs := hl.trans hrs
        refine .inr ⟨l, h', hlr, e0.trans h1, ?_⟩
        rw [hcls]
        intro μ w ρ hr hfr hs
        have hargs := hgs μ e f ρ he fun y hy => hs y (mem_args hy ho)
        have hxv := hgx μ e f ρ he (hs x hmx)
        rw [hx] at hxv
        generalize hq : ρ x = qv at hxv
        cases hxv with
        | mfunc _ _ _ lc hlc =>
          have hrun : (execOp ρ o).run P w = .ok (.enter g (#[.pointer (some ⟨lc.b, lc.s + q, none⟩)] ++ c.args.map ρ)) w := by
            have e1 : execOp ρ o = (do let d ← Go.resolve ρ c o.type; invoke d.target d.args) := by simp only [execOp, ho]
            rw [e1]
            simp [Go.resolve, hcl, hq, Deferred.ofValue, invoke, run_callFunc hfn hb hn]
          subst he
          have hall : VsRel μ (.ptr i q :: gets gs e f) (#[Value.pointer (some ⟨lc.b, lc.s + q, none⟩)] ++ c.args.map ρ).toList := by
            rw [Array.toList_append, Array.toList_map]
            exact .cons (.ptr i q lc hlc) hargs
          have := upon_call hcall h2 hr hfr hall hrun ⟨fn, hfn, by rw [hps, hcs, List.length_cons, hargs.length]; simp⟩ e f
          rwa [hlr] at this
  cases hx : gx e f <;> first
    | exact main _ _ hx
    | exact mainM _ _ _ hx
    | exact .inl ⟨o.pos, by show onFunc (gx e f) _ _ _ = _; rw [hx]; rfl⟩
theorem methodOf_run {t : TypeId} {name : String} {g : FuncId} (h : methodOf P t name = some g) (p : Option Addr) (w : World) : (method (P.types.size + Made.depth) t (.pointer p) name).run P w = .ok (g, .pointer p) w := by
  unfold methodOf at h
  split at h
  · next i hi =>
    split at h
    · next m hm =>
      split at h
      · next g' hg =>
        cases hp : m.path.isEmpty with
        | false => rw [hp] at h; cases h
        | true =>
          rw [hp] at h
          dsimp only [cond_true] at h
          split at h
          · next e he =>
            injection h with h; subst h
            have hp0 : m.path = #[] := by simpa using hp
            have ed : P.types.size + Made.depth = (P.types.size + (Made.depth - 1)) + 1 := rfl
            rw [ed]
            simp only [method]
            simp [typeInfo, hi, hm, hp0, follow, hg, receiverAt, run_under he, Place.get]
          · cases h
      · cases h
    · cases h
  · cases h
theorem em_inv {c : Call} {x : Operand} {name : String} {rs : Nat} (ho : o.op = .call c) (hcl : c.callee = .invoke x name) : EmOk P o nm lay d (sc nm lay d x (bad o d K) fun gx => scs nm lay d c.args.toList (bad o d K) fun gs =>
      forceS rs fun rs => forceS c.args.size fun n => K (some (invC P o.pos name n rs gx gs)) rs (resNm rs d)) K := by
  refine .sc fun gx hgx => .scs fun gs hgs => .force (.force ⟨_, _, _, rfl, fun _ => resNm_below rs d, fun call hcall e f h k he => ?_⟩)
  have hcls : clsOf P o.op = 3 := by rw [ho]; simp only [clsOf, hcl]
  have hmx : x ∈ o.op.operands := by rw [ho]; simp [Op.operands, Call.operands, hcl]
  have main : ∀ t i q, gx e f = .iface t i q → (∃ s, invC P o.pos name c.args.size rs gx gs call e f h k = .stuck s) ∨ ∃ l h', l.length = rs ∧ invC P o.pos name c.args.size rs gx gs call e f h k = k (pushL l e) h' ∧ Fact P o nm lay e f h (pushL l e) h' (resNm rs d) (clsOf P o.op) := fun t i q hx => by
    have e0 : invC P o.pos name c.args.size rs gx gs call e f h k = optF (methodSig P t name c.args.size rs) (fun g => call g (.ptr i q :: gets gs e f) h fun l h => k (pushL l e) h) (.stuck o.pos) := by
      show onIface (gx e f) _ _ = _
      rw [hx]; rfl
    cases hms : methodSig P t name c.args.size rs with
    | none => exact .inl ⟨o.pos, by rw [e0, hms]; rfl⟩
    | some g =>
      rw [hms] at e0
      have hmo : methodOf P t name = some g ∧ arity P g (Nat.succ c.args.size) rs 0 = true := by
        unfold methodSig at hms
        split at hms
        · next g' hg =>
          cases har : arity P g' (Nat.succ c.args.size) rs 0 with
          | false => rw [har] at hms; cases hms
          | true => rw [har] at hms; injection hms with hms; subst hms; exact ⟨hg, har⟩
        · cases hms
      rcases hcall g (.ptr i q :: gets gs e f) h (fun l h => k (pushL l e) h) with ⟨s, h1⟩ | ⟨l, h', h1, h2⟩
      · exact .inl ⟨s, e0.trans h1⟩
      · obtain ⟨⟨fn, hfn, hb, hn, hl⟩, _⟩ := id h2
        obtain ⟨fn', hfn', hrs, hps, hcs⟩ := arity_spec hmo.2
        rw [hfn] at hfn'; injection hfn' with hfn'; subst hfn'
        have hlr : l.length = rs := hl.trans hrs
        refine .inr ⟨l, h', hlr, e0.trans h1, ?_⟩
        rw [hcls]
        intro μ w ρ hr hfr hs
        have hargs := hgs μ e f ρ he fun y hy => hs y (mem_args hy ho)
        have hxv := hgx μ e f ρ he (hs x hmx)
        rw [hx] at hxv
        generalize hq : ρ x = qv at hxv
        cases hxv with
        | iface _ _ _ lc hlc =>
          have hrun : (execOp ρ o).run P w = .ok (.enter g (#[.pointer (some ⟨lc.b, lc.s + q, none⟩)] ++ c.args.map ρ)) w := by
            have e1 : execOp ρ o = (do let d ← Go.resolve ρ c o.type; invoke d.target d.args) := by simp only [execOp, ho]
            have e2 : (#[(Value.iface t (.pointer (some ⟨lc.b, lc.s + q, none⟩)))] ++ c.args.map ρ).extract 1 (#[(Value.iface t (.pointer (some ⟨lc.b, lc.s + q, none⟩)))] ++ c.args.map ρ).size = c.args.map ρ := by
              apply Array.ext'
              simp only [Array.toList_extract, List.extract_eq_take_drop, Array.toList_append, Array.toList_map, Array.size_append, Array.size_map]
              exact List.take_of_length_le (by simp)
            have e3 : (#[(Value.iface t (.pointer (some ⟨lc.b, lc.s + q, none⟩)))] ++ c.args.map ρ)[0]? = some (Value.iface t (.pointer (some ⟨lc.b, lc.s + q, none⟩))) := by rw [← Array.getElem?_toList, Array.toList_append]; rfl
            rw [e1]
            have e4 : (Go.resolve ρ c o.type).run P w = .ok { target := .fn (.method name) #[], args := #[ρ x] ++ c.args.map ρ } w := by simp [Go.resolve, hcl]
            have e5 : (invoke (.fn (.method name) #[]) (#[ρ x] ++ c.args.map ρ)).run P w = .ok (.enter g (#[.pointer (some ⟨lc.b, lc.s + q, none⟩)] ++ c.args.map ρ)) w := by
              rw [hq]
              simp only [invoke, e3, e2, callMethod]
              simp [methodOf_run hmo.1, run_callFunc hfn hb hn]
            simp [e4, e5]
          subst he
          have hall : VsRel μ (.ptr i q :: gets gs e f) (#[Value.pointer (some ⟨lc.b, lc.s + q, none⟩)] ++ c.args.map ρ).toList := by
            rw [Array.toList_append, Array.toList_map]
            exact .cons (.ptr i q lc hlc) hargs
          have := upon_call hcall h2 hr hfr hall hrun ⟨fn, hfn, by rw [hps, hcs, List.length_cons, hargs.length]; simp⟩ e f
          rwa [hlr] at this
  cases hx : gx e f <;> first
    | exact main _ _ _ hx
    | exact .inl ⟨o.pos, by show onIface (gx e f) _ _ = _; rw [hx]; rfl⟩
theorem em_call {c : Call} (ho : o.op = .call c) : EmOk P o nm lay d (emCall P o nm lay d c K) K := by
  unfold emCall
  dsimp only
  split
  · next g hc => exact em_static ho hc
  · next x hn hc => exact em_dyn ho hc
  · next x name hc => exact em_inv ho hc
  · next b hc => exact em_builtin ho hc
/-- every operation, compiled, does what the model's does -/
theorem em_ok : EmOk P o nm lay d (emit P o nm lay d K) K := by
  unfold emit
  split
  · next x ho => exact em_move (by rw [ho]; simp [Op.operands]) (by rw [ho]; rfl) fun ρ => by simp only [execOp, ho]
  · next x ho => exact em_move (by rw [ho]; simp [Op.operands]) (by rw [ho]; rfl) fun ρ => by simp only [execOp, ho]
  · next c a b ho => exact em_pick ho
  · next t ho => exact em_alloc ho
  · next t x ho => exact em_box ho
  · next t parts ho => exact em_build ho
  · next t ln parts ho => exact em_buildSlice ho
  · next t a ho => exact em_load ho
  · next t a x ho => exact em_store ho
  · next x ho => exact em_nilCheck ho
  · next op t x y u ho => exact em_bin ho
  · next t x ho => exact em_un ho notP_ok
  · next t x ho => exact em_un ho negP_ok
  · next s t x ho => exact em_conv ho
  · next t x ho => exact em_iface ho
  · next g caps ho => exact em_func ho
  · next g x ho => exact em_mfunc ho
  · next t ho => exact em_map0 ho
  · next t k z ho => exact em_map1 ho
  · next t l c ho => exact em_makeSlice ho
  · next t x lo hi mx ho => exact em_slice ho
  · next t x i ho => exact em_fieldAddr ho
  · next t x i ho => exact em_field ho
  · next t x ix ho => exact em_indexAddr ho
  · next t x ix ho => exact em_index ho
  · next t m k ok ho => exact em_lookup ho
  · next t m k v ho => exact em_mapUpdate ho
  · next x i ho => exact em_extract ho
  · next c ho => exact em_call ho
  · exact .bad
end em
end
end
end Go.Kx
namespace Go.Kx
noncomputable section
variable [Sig]
section
variable {P : Program}

/- ## the activation -/
structure ARel (μ : Mu) (nm : Names) (lay : Lay) (N : Nat) (e : Ev) (f : Fr) (a : Act) : Prop where
  size : a.tmps.size = N
  defers : a.defers = []
  tmp : ∀ t m, lk nm t = some m → NRel μ e f m (a.tmps.getD t undef)
  slot : ∀ t p, lk nm t = none → lk lay.ents t = some p → VRel μ (nthV f p) (a.tmps.getD t undef)
abbrev FRel (μ : Mu) (lay : Lay) (N : Nat) (f : Fr) (a : Act) : Prop := ARel μ [] lay N [] f a
theorem ARel.orel {μ : Mu} {nm : Names} {lay : Lay} {N : Nat} {e : Ev} {f : Fr} {a : Act} (h : ARel μ nm lay N e f a) (x : Operand) : ORel μ nm lay e f a.eval x := fun m hm => by
  cases x with
  | const v => simp only [resolve] at hm; injection hm with hm; subst hm; exact .val (ofValue_ok μ v)
  | global g => simp only [resolve] at hm; cases hm
  | func g => simp only [resolve] at hm; injection hm with hm; subst hm; exact .val (.func g [] #[] .nil)
  | tmp t =>
    simp only [resolve] at hm
    split at hm
    · next m' hl => injection hm with hm; subst hm; exact h.tmp t m' hl
    · next hl =>
      split at hm
      · next p hp => injection hm with hm; subst hm; exact .val (h.slot t p hl hp)
      · cases hm
theorem ARel.seen {μ : Mu} {nm : Names} {lay : Lay} {N : Nat} {e : Ev} {f : Fr} {a : Act} (h : ARel μ nm lay N e f a) (o : Oper) : Seen μ nm lay e f a.eval o := fun x _ => h.orel x
theorem ARel.mono {μ μ' : Mu} {nm : Names} {lay : Lay} {N : Nat} {e : Ev} {f : Fr} {a : Act} (h : ARel μ nm lay N e f a) (hm : μ.le μ') : ARel μ' nm lay N e f a :=
  ⟨h.size, h.defers, fun t m ht => (h.tmp t m ht).mono hm, fun t p ht hp => (h.slot t p ht hp).mono hm⟩
theorem ARel.env {μ : Mu} {lay : Lay} {N : Nat} {e : Ev} {f : Fr} {a : Act} (h : FRel μ lay N f a) : ARel μ [] lay N e f a :=
  ⟨h.size, h.defers, fun t m ht => (nomatch (show (none : Option Nm) = some m from ht)), h.slot⟩
theorem getD_put {a : Act} {d : Nat} {v : Value} (t : Nat) (hd : d < a.tmps.size) : (a.put (some d) v).tmps.getD t undef = if t = d then v else a.tmps.getD t undef := by
  simp only [Act.put, Array.getD_eq_getD_getElem?, Array.getElem?_setIfInBounds]
  by_cases h : d = t
  · subst h; simp [hd]
  · rw [if_neg h, if_neg (Ne.symm h)]
theorem lk_cons {α : Type} (t u : Nat) (m : α) (l : List (Nat × α)) : lk ((t, m) :: l) u = if t = u then some m else lk l u := by
  show @Bool.rec (fun _ => Option α) (lk l u) (some m) (Nat.beq t u) = _
  by_cases h : t = u
  · subst h; rw [Nat.beq_refl]; simp
  · have : Nat.beq t u = false := by rw [← Bool.not_eq_true]; exact fun e => h (Nat.eq_of_beq_eq_true e)
    rw [this, if_neg h]
theorem ARel.bind {μ μ' : Mu} {nm : Names} {lay : Lay} {N : Nat} {e : Ev} {f : Fr} {a : Act} (h : ARel μ nm lay N e f a) (hm : μ.le μ') (hnm : NamesOk nm e.length) (l : List V) {dst : Option Nat} {m : Nm} {v : Value}
    (hd : ∀ t, dst = some t → t < N) (hv : NRel μ' (pushL l e) f m v) : ARel μ' (bindN dst m nm) lay N (pushL l e) f (a.put dst v) := by
  have old : ∀ t m', lk nm t = some m' → NRel μ' (pushL l e) f m' (a.tmps.getD t undef) := fun t m' ht => by
    rw [pushL_eq]; exact ((h.tmp t m' ht).mono hm).app (hnm t m' ht) _
  cases dst with
  | none => exact ⟨h.size, h.defers, old, fun t p ht hp => (h.slot t p ht hp).mono hm⟩
  | some d =>
    have hdn := hd d rfl
    refine ⟨by simp [Act.put, h.size], h.defers, fun t m' ht => ?_, fun t p ht hp => ?_⟩
    · rw [getD_put t (by rw [h.size]; exact hdn)]
      simp only [bindN, lk_cons] at ht
      by_cases e' : d = t
      · rw [if_pos e'] at ht; injection ht with ht; subst ht; rw [if_pos e'.symm]; exact hv
      · rw [if_neg e'] at ht; rw [if_neg (Ne.symm e')]; exact old t m' ht
    · rw [getD_put t (by rw [h.size]; exact hdn)]
      simp only [bindN, lk_cons] at ht
      by_cases e' : d = t
      · rw [if_pos e'] at ht; cases ht
      · rw [if_neg e'] at ht; rw [if_neg (Ne.symm e')]; exact (h.slot t p ht hp).mono hm
theorem NamesOk.bind {nm : Names} {d d' : Nat} (h : NamesOk nm d) (hd : d ≤ d') {m : Nm} (hm : m.below d') (dst : Option Nat) : NamesOk (bindN dst m nm) d' := fun t m' ht => by
  cases dst with
  | none => exact Nm.below_mono (h t m' ht) hd
  | some u =>
    simp only [bindN, lk_cons] at ht
    by_cases e : u = t
    · rw [if_pos e] at ht; injection ht with ht; subst ht; exact hm
    · rw [if_neg e] at ht; exact Nm.below_mono (h t m' ht) hd

/- ## guards -/
def GuardIs (all : Array Oper) (nm : Names) (lay : Lay) (e : Ev) (f : Fr) (o : Oper) (b : Bool) : Prop :=
  (o.guard = none ∧ b = true) ∨ ∃ j want t a, o.guard = some (j, want) ∧ (all[j]?).bind (·.dst) = some t ∧ resolve nm lay (.tmp t) = some (.val a) ∧
    ((aoV e f a = .tt ∧ b = want) ∨ (aoV e f a = .ff ∧ b = !want) ∨ (aoV e f a = .un ∧ b = false))
theorem yield_getD {a : Act} {ops : Array Oper} {j t : Nat} (ht : (ops[j]?).bind (·.dst) = some t) : yielded ops a.tmps j = match a.tmps.getD t undef with | .bool b => some b | _ => none := by
  unfold yielded
  rw [ht]
  simp only [Option.bind_some, Array.getD_eq_getD_getElem?]
  cases h : a.tmps[t]? with
  | none => rfl
  | some v => cases v <;> rfl
theorem GuardIs.wanted {all : Array Oper} {nm : Names} {lay : Lay} {e : Ev} {f : Fr} {o : Oper} {b : Bool} (h : GuardIs all nm lay e f o b) {μ : Mu} {a : Act} (hr : ∀ t, (∃ j want, o.guard = some (j, want) ∧ (all[j]?).bind (·.dst) = some t) → ORel μ nm lay e f a.eval (.tmp t)) : Region.wanted o (yielded all a.tmps) = b := by
  unfold Region.wanted
  rcases h with ⟨hg, rfl⟩ | ⟨j, want, t, x, hg, ht, hx, h⟩
  · rw [hg]
  · rw [hg]
    dsimp only
    rw [yield_getD ht]
    have hv := hr t ⟨j, want, hg, ht⟩ _ hx
    have hv : VRel μ (aoV e f x) (a.tmps.getD t undef) := by cases hv with | val h => exact h
    generalize a.tmps.getD t undef = v at hv
    rcases h with ⟨h, rfl⟩ | ⟨h, rfl⟩ | ⟨h, rfl⟩
    · rw [h] at hv; cases hv; cases b <;> rfl
    · rw [h] at hv; cases hv; cases want <;> rfl
    · rw [h] at hv; cases hv; rfl

/- ## one compiled operation -/
def OpFact (P : Program) (all : Array Oper) (o : Oper) (nm : Names) (lay : Lay) (e : Ev) (f : Fr) (h : H) (e' : Ev) (h' : H) (m : Nm) (cls : Nat) : Prop :=
  (GuardIs all nm lay e f o true ∧ Fact P o nm lay e f h e' h' m cls) ∨ (GuardIs all nm lay e f o false ∧ h' = h ∧ ∀ μ, NRel μ e' f m undef)
def OpSem (P : Program) (all : Array Oper) (o : Oper) (nm : Names) (lay : Lay) (d : Nat) (c : OpC) (n : Nat) (nm' : Names) (cls : Nat) : Prop :=
  ∀ call, CallOk P call → ∀ e f h k, e.length = d → (∃ s, c call e f h k = .stuck s) ∨ ∃ l h', l.length = n ∧ c call e f h k = k (pushL l e) h' ∧ cls = clsOf P o.op ∧ ∃ m, nm' = bindN o.dst m nm ∧ (NamesOk nm d → m.below (d + n)) ∧ OpFact P all o nm lay e f h (pushL l e) h' m cls
/-- with what 'ckC' checks -/
def OpSemN (P : Program) (all : Array Oper) (o : Oper) (nm : Names) (lay : Lay) (d : Nat) (c : OpC) (n : Nat) (nm' : Names) (cls : Nat) : Prop :=
  ∀ call, CallOk P call → ∀ e f h k, e.length = d → (∃ s, c call e f h k = .stuck s) ∨ ∃ l h', l.length = n ∧ c call e f h k = k (pushL l e) h' ∧ h.nx ≤ h'.nx ∧ cls = clsOf P o.op ∧ ∃ m, nm' = bindN o.dst m nm ∧ (NamesOk nm d → m.below (d + n)) ∧ OpFact P all o nm lay e f h (pushL l e) h' m cls
theorem nxle_spec {h h' : H} (hx : nxle h h' = true) : h.nx ≤ h'.nx := by cases h; cases h'; exact ble_true hx
theorem opsem_ck {all : Array Oper} {o : Oper} {nm nm' : Names} {lay : Lay} {d n cls : Nat} {c : OpC} (h : OpSem P all o nm lay d c n nm' cls) : OpSemN P all o nm lay d (@Bool.rec (fun _ => OpC) c (ckC c) (Nat.ble 3 cls)) n nm' cls := fun call hc e f h0 k he => by
  cases h3 : Nat.ble 3 cls with
  | true =>
    rcases h call hc e f h0 (fun e' h' => ifB (nxle h0 h') (k e' h') (.stuck "nx")) he with h1 | ⟨l, h', h1, h2, h4⟩
    · exact .inl h1
    · cases hn : nxle h0 h' with
      | false => exact .inl ⟨ "nx", h2.trans (by rw [hn]; rfl)⟩
      | true => exact .inr ⟨l, h', h1, h2.trans (by rw [hn]; rfl), nxle_spec hn, h4⟩
  | false =>
    rcases h call hc e f h0 k he with h1 | ⟨l, h', h1, h2, h4, m, h5, h6, h7⟩
    · exact .inl h1
    · refine .inr ⟨l, h', h1, h2, ?_, h4, m, h5, h6, h7⟩
      rcases h7 with ⟨_, h7⟩ | ⟨_, h7, _⟩
      · match cls, h7, h3 with
        | 0, h7, _ => rw [h7.1]; exact Nat.le_refl _
        | 1, h7, _ => rw [h7.1]; exact Nat.le_refl _
        | 2, ⟨b, cc, _, h8, _⟩, _ => rw [h8, H.nx_add]; omega
        | n + 3, _, h3 => exact absurd (ble_false h3) (by omega)
      · rw [h7]; exact Nat.le_refl _
/-- an operation that needs no code -/
def AlSem (P : Program) (o : Oper) (nm : Names) (lay : Lay) (d : Nat) (nm' : Names) : Prop :=
  clsOf P o.op = 0 ∧ (o.guard = none ∨ o.dst = none) ∧ ∃ m, nm' = bindN o.dst m nm ∧ (NamesOk nm d → m.below d) ∧ ∀ μ e f ρ, e.length = d → Seen μ nm lay e f ρ o → ∃ v, (∀ w, (execOp ρ o).run P w = .ok (.value v) w) ∧ NRel μ e f m v
inductive Comp (P : Program) (all : Array Oper) (lay : Lay) : List Oper → Nat → Names → Nat → List RE → Names → Nat → Prop where
  | nil (i : Nat) (nm : Names) (d : Nat) : Comp P all lay [] i nm d [] nm d
  | al {o : Oper} {l : List Oper} {i : Nat} {nm nm1 nm' : Names} {d d' : Nat} {es : List RE} (h : AlSem P o nm lay d nm1) (t : Comp P all lay l (i + 1) nm1 d es nm' d') : Comp P all lay (o :: l) i nm d es nm' d'
  | op {o : Oper} {l : List Oper} {i : Nat} {nm nm1 nm' : Names} {d n d' : Nat} {es : List RE} {cls : Nat} {one : Bool} {c : OpC} (h : OpSemN P all o nm lay d c n nm1 cls) (h1 : one = true → n = 1) (hn : NamesOk nm d → NamesOk nm1 (d + n)) (t : Comp P all lay l (i + 1) nm1 (d + n) es nm' d') :
      Comp P all lay (o :: l) i nm d (⟨i, cls, d, one, c⟩ :: es) nm' d'
def CompOk (P : Program) (all : Array Oper) (lay : Lay) (l : List Oper) (i : Nat) (nm : Names) (d : Nat) (r : RP) : Prop := Comp P all lay l i nm d r.ops r.names r.d
theorem opsem_stuck (all : Array Oper) (o : Oper) (nm : Names) (lay : Lay) (d : Nat) (pos : String) (n : Nat) (nm' : Names) (cls : Nat) : OpSem P all o nm lay d (stuckC pos) n nm' cls := fun _ _ _ _ _ _ _ => .inl ⟨pos, rfl⟩
theorem comp_bad {all : Array Oper} {lay : Lay} {o : Oper} {l : List Oper} {i : Nat} {nm : Names} {d : Nat} {r : Names → Nat → RP} (hr : ∀ nm d, CompOk P all lay l (i + 1) nm d (r nm d)) : CompOk P all lay (o :: l) i nm d (RP.cons (badRE i d o) (r nm d)) := by
  have h1 := hr nm d
  show Comp P all lay (o :: l) i nm d (badRE i d o :: (r nm d).ops) (r nm d).names (r nm d).d
  exact .op (n := 0) (nm1 := nm) (fun _ _ _ _ _ _ _ => .inl ⟨o.pos, rfl⟩) (fun h => by cases h) (fun h => h) h1
theorem comp_op {all : Array Oper} {lay : Lay} {o : Oper} {l : List Oper} {i : Nat} {nm nm1 : Names} {d n : Nat} {cls : Nat} {one : Bool} {c : OpC} {r : RP} (h : OpSem P all o nm lay d c n nm1 cls) (h1 : one = true → n = 1) (hn : NamesOk nm d → NamesOk nm1 (d + n)) (hr : CompOk P all lay l (i + 1) nm1 (d + n) r) :
    CompOk P all lay (o :: l) i nm d (RP.cons (mkRE i cls d one c) r) := .op (opsem_ck h) h1 hn hr
/-- an operation without a guard -/
theorem opsem_plain {all : Array Oper} {o : Oper} {nm : Names} {lay : Lay} {d n : Nat} {c : OpC} {m : Nm} (hg : o.guard = none) (hb : NamesOk nm d → m.below (d + n)) (h : EmC P o nm lay d c n m) : OpSem P all o nm lay d c n (bindN o.dst m nm) (clsOf P o.op) := fun call hc e f h0 k he => by
  rcases h call hc e f h0 k he with h1 | ⟨l, h', h1, h2, h3⟩
  · exact .inl h1
  · exact .inr ⟨l, h', h1, h2, rfl, m, rfl, hb, .inl ⟨.inl ⟨hg, rfl⟩, h3⟩⟩
theorem grdC_eq (pos : String) (g : Gt) (want : Bool) (n : Nat) (c : OpC) (call : CallT) (e : Ev) (f : Fr) (h : H) (k : Ev → H → Out) :
    grdC pos g want n c call e f h k = .stuck pos ∨ (g e f = .un ∧ grdC pos g want n c call e f h k = k (uns n e) h) ∨ ∃ b, g e f = (bif b then .tt else .ff) ∧ grdC pos g want n c call e f h k = if b = want then c call e f h k else k (uns n e) h := by
  cases hv : g e f <;> first
    | exact .inl (by show onG (g e f) _ _ _ _ = _; rw [hv]; rfl)
    | exact .inr (.inl ⟨rfl, by show onG (g e f) _ _ _ _ = _; rw [hv]; rfl⟩)
    | exact .inr (.inr ⟨true, rfl, by show onG (g e f) _ _ _ _ = _; rw [hv]; cases want <;> rfl⟩)
    | exact .inr (.inr ⟨false, rfl, by show onG (g e f) _ _ _ _ = _; rw [hv]; cases want <;> rfl⟩)
theorem uns_push (n : Nat) (e : Ev) : uns n e = pushL (List.replicate n V.un) e := by rw [uns_eq, pushL_eq]; simp
/-- one with a guard: 'c' is what it does if it is wanted -/
theorem opsem_guard {all : Array Oper} {o : Oper} {nm : Names} {lay : Lay} {d n : Nat} {c : OpC} {m mu : Nm} {j : Nat} {want : Bool} {t : Nat} {x : AO} {g : Gt} {pos : String} {nm1 : Names} (hg : o.guard = some (j, want)) (ht : (all[j]?).bind (·.dst) = some t) (hx : resolve nm lay (.tmp t) = some (.val x)) (hgx : ∀ e f, e.length = d → g e f = aoV e f x)
    (hnm : nm1 = bindN o.dst m nm) (hb : NamesOk nm d → m.below (d + n)) (hnu : nm1 = bindN o.dst mu nm) (hbu : NamesOk nm d → mu.below (d + n)) (hun : ∀ μ e f, e.length = d → NRel μ (pushL (List.replicate n V.un) e) f mu undef)
    (h : EmC P o nm lay d c n m) : OpSem P all o nm lay d (grdC pos g want n c) n nm1 (clsOf P o.op) := fun call hc e f h0 k he => by
  have hgv := hgx e f he
  have skip : ∀ b, GuardIs all nm lay e f o b → b = false → grdC pos g want n c call e f h0 k = k (uns n e) h0 → (∃ s, grdC pos g want n c call e f h0 k = .stuck s) ∨ ∃ l h', l.length = n ∧ grdC pos g want n c call e f h0 k = k (pushL l e) h' ∧ clsOf P o.op = clsOf P o.op ∧ ∃ m, nm1 = bindN o.dst m nm ∧ (NamesOk nm d → m.below (d + n)) ∧ OpFact P all o nm lay e f h0 (pushL l e) h' m (clsOf P o.op) := fun b hb' hbf hk =>
    .inr ⟨List.replicate n V.un, h0, by simp, by rw [hk, uns_push], rfl, mu, hnu, hbu, .inr ⟨hbf ▸ hb', rfl, fun μ => hun μ e f he⟩⟩
  rcases grdC_eq pos g want n c call e f h0 k with h1 | ⟨h1, h2⟩ | ⟨b, h1, h2⟩
  · exact .inl ⟨pos, h1⟩
  · exact skip false (.inr ⟨j, want, t, x, hg, ht, hx, .inr (.inr ⟨by rw [← hgv]; exact h1, rfl⟩)⟩) rfl h2
  · by_cases hbw : b = want
    · subst hbw
      rw [if_pos rfl] at h2
      rcases h call hc e f h0 k he with ⟨s, h3⟩ | ⟨l, h', h3, h4, h5⟩
      · exact .inl ⟨s, h2.trans h3⟩
      · refine .inr ⟨l, h', h3, h2.trans h4, rfl, m, hnm, hb, .inl ⟨.inr ⟨j, b, t, x, hg, ht, hx, ?_⟩, h5⟩⟩
        rw [← hgv, h1]
        cases b
        · exact .inr (.inl ⟨rfl, rfl⟩)
        · exact .inl ⟨rfl, rfl⟩
    · rw [if_neg hbw] at h2
      refine skip false (.inr ⟨j, want, t, x, hg, ht, hx, ?_⟩) rfl h2
      rw [← hgv, h1]
      cases b <;> cases want <;> first
        | exact absurd rfl hbw
        | exact .inl ⟨rfl, rfl⟩
        | exact .inr (.inl ⟨rfl, rfl⟩)
theorem unN_rel (μ : Mu) (e : Ev) (f : Fr) : NRel μ e f unN undef := .val .un
theorem one_un (μ : Mu) (e : Ev) (f : Fr) : NRel μ (pushL (List.replicate 1 V.un) e) f (.val (.env e.length)) undef := nrel_one .un
/-- the value that an operation names, put on top -/
theorem emc_top {o : Oper} {nm : Names} {lay : Lay} {d : Nat} {a : AO} {g : Gt} (hg : ∀ e f, e.length = d → g e f = aoV e f a) :
    (∀ c, EmC P o nm lay d c 0 (.val a) → EmC P o nm lay d (seqC c (mvC [g])) 1 (.val (.env d))) ∧
    (clsOf P o.op = 0 → (∀ μ e f ρ, e.length = d → Seen μ nm lay e f ρ o → ∃ v, (∀ w, (execOp ρ o).run P w = .ok (.value v) w) ∧ NRel μ e f (.val a) v) → EmC P o nm lay d (mvC [g]) 1 (.val (.env d))) := by
  have top : ∀ {μ : Mu} {e : Ev} {f : Fr} {v : Value}, e.length = d → NRel μ e f (.val a) v → NRel μ (pushL [g e f] e) f (.val (.env d)) v := fun {μ e f v} he h => by
    cases h with
    | val h =>
      subst he
      exact nrel_one (by rw [hg e f rfl]; exact h)
  constructor
  · intro c h call hc e f h0 k he
    rcases h call hc e f h0 (fun e h => mvC [g] call e f h k) he with ⟨s, h1⟩ | ⟨l, h', h1, h2, h3⟩
    · exact .inl ⟨s, h1⟩
    · have hl : l = [] := List.length_eq_zero_iff.1 h1
      subst hl
      refine .inr ⟨[g e f], h', rfl, h2, ?_⟩
      generalize clsOf P o.op = cls at h3 ⊢
      match cls, h3 with
      | 0, ⟨e1, h3⟩ => exact ⟨e1, fun μ ρ hs => let ⟨v, h4, h5⟩ := h3 μ ρ hs; ⟨v, h4, top he h5⟩⟩
      | 1, ⟨e1, h3⟩ => exact ⟨e1, fun μ w ρ hr hs => let ⟨v, h4, h5⟩ := h3 μ w ρ hr hs; ⟨v, h4, top he h5⟩⟩
      | 2, ⟨b, cc, e1, h3⟩ => exact absurd (congrArg List.length e1) (by simp [pushL])
      | n + 3, h3 => exact fun μ w ρ hr hf hs => Upon.mono (h3 μ w ρ hr hf hs) fun v w' ⟨μ', h4, h5, h6⟩ => ⟨μ', h4, h5, top he h6⟩
  · intro hcls h call hc e f h0 k he
    refine .inr ⟨[g e f], h0, rfl, rfl, ?_⟩
    rw [hcls]
    exact ⟨rfl, fun μ ρ hs => let ⟨v, h4, h5⟩ := h μ e f ρ he hs; ⟨v, h4, top he h5⟩⟩
theorem compW_ok {all : Array Oper} {lay : Lay} {o : Oper} {l : List Oper} {i : Nat} {nm : Names} {d : Nat} {r : Names → Nat → RP} (hr : ∀ nm d, CompOk P all lay l (i + 1) nm d (r nm d)) {oc : Option OpC} {n : Nat} {m : Nm} (h : EmSem P o nm lay d oc n m)
    {j : Nat} {want : Bool} {t : Nat} {x : AO} {gg : Gt} (hg : o.guard = some (j, want)) (ht : (all[j]?).bind (·.dst) = some t) (hx : resolve nm lay (.tmp t) = some (.val x)) (hgg : ∀ e f, e.length = d → gg e f = aoV e f x) :
    CompOk P all lay (o :: l) i nm d (compW P i o nm d r want oc n m gg) := by
  obtain ⟨hb, h2⟩ := h
  have below1 : NamesOk nm d → (Nm.val (.env d)).below (d + 1) := fun _ => Nat.lt_succ_self d
  have un1 : ∀ μ e f, e.length = d → NRel μ (pushL (List.replicate 1 V.un) e) f (.val (.env d)) undef := fun μ e f he => by subst he; exact one_un μ e f
  unfold compW
  cases hd : o.dst with
  | none =>
    cases oc with
    | none =>
      obtain ⟨hn, hcls, h2⟩ := h2
      subst hn
      exact .al ⟨hcls, .inr hd, m, by rw [hd]; rfl, hb, h2⟩ (hr _ _)
    | some c =>
      dsimp only
      rw [forceS_eq, forceS_eq]
      exact comp_op (opsem_guard (m := m) (mu := unN) hg ht hx hgg (by rw [hd]; rfl) hb (by rw [hd]; rfl) (fun _ => trivial) (fun μ e f _ => unN_rel μ _ f) h2) (fun h => beq_true h) (fun h t m' ht' => Nm.below_mono (h t m' ht') (Nat.le_add_right _ _)) (hr _ _)
  | some t' =>
    cases m with
    | tup _ => exact comp_bad hr
    | val a =>
      dsimp only
      unfold compG
      cases hn0 : Nat.beq n 0 with
      | true =>
        have hn0 := beq_true hn0
        subst hn0
        dsimp only [cond_true]
        obtain ⟨g, e2, hg2⟩ := withG_eq d a (fun g => forceS (Nat.succ d) fun d' => RP.cons (mkRE i (clsOf P o.op) d (true) (grdC o.pos gg want 1 (topC oc g))) (r ((t', .val (.env d)) :: nm) d'))
        rw [e2, forceS_eq]
        refine comp_op (opsem_guard (m := .val (.env d)) (mu := .val (.env d)) hg ht hx hgg (by rw [hd]; rfl) below1 (by rw [hd]; rfl) below1 un1 ?_) (fun _ => rfl) (fun h => ?_) (hr _ _)
        · cases oc with
          | none =>
            obtain ⟨_, hcls, h2⟩ := h2
            exact (emc_top hg2).2 hcls h2
          | some c => exact (emc_top hg2).1 c h2
        · exact NamesOk.bind (d' := d + 1) h (Nat.le_add_right _ _) (m := .val (.env d)) (Nat.lt_succ_self d) (some t')
      | false =>
        dsimp only [cond_false]
        cases oc with
        | none => exact comp_bad hr
        | some c =>
          cases a with
          | slot _ => exact comp_bad hr
          | const _ => exact comp_bad hr
          | env l' =>
            dsimp only
            cases hc2 : Nat.beq l' d && Nat.beq n 1 with
            | false => exact comp_bad hr
            | true =>
              rw [Bool.and_eq_true] at hc2
              have e1 := beq_true hc2.1
              have e2 := beq_true hc2.2
              subst e1 e2
              dsimp only [cond_true]
              rw [forceS_eq]
              refine comp_op (opsem_guard (m := .val (.env l')) (mu := .val (.env l')) hg ht hx hgg (by rw [hd]; rfl) below1 (by rw [hd]; rfl) below1 un1 h2) (fun _ => rfl) (fun h => ?_) (hr _ _)
              exact NamesOk.bind (d' := l' + 1) h (Nat.le_add_right _ _) (m := .val (.env l')) (Nat.lt_succ_self l') (some t')
theorem comp1_ok {all : Array Oper} {lay : Lay} {o : Oper} {l : List Oper} {i : Nat} {nm : Names} {d : Nat} {r : Names → Nat → RP} (hr : ∀ nm d, CompOk P all lay l (i + 1) nm d (r nm d)) : CompOk P all lay (o :: l) i nm d (comp1 P all lay i o nm d r) := by
  unfold comp1
  obtain ⟨oc, n, m, h1, h2⟩ := em_ok (P := P) (o := o) (nm := nm) (lay := lay) (d := d) (K := compK P all lay i o nm d r)
  rw [h1]
  obtain ⟨hb, h3⟩ := id h2
  unfold compK
  cases hg : o.guard with
  | none =>
    dsimp only
    cases oc with
    | none =>
      obtain ⟨hn, hcls, h3⟩ := h3
      subst hn
      exact .al ⟨hcls, .inl hg, m, rfl, hb, h3⟩ (hr _ _)
    | some c =>
      dsimp only
      rw [forceS_eq]
      exact comp_op (opsem_plain hg hb h3) (fun h => beq_true h) (fun h => h.bind (Nat.le_add_right _ _) (hb h) _) (hr _ _)
  | some jw =>
    obtain ⟨j, want⟩ := jw
    dsimp only
    cases ht : (all[j]?).bind (·.dst) with
    | none => exact comp_bad hr
    | some t =>
      dsimp only
      rcases sc_eq (nm := nm) (lay := lay) (d := d) (.tmp t) (RP.cons (badRE i d o) (r nm d)) (compW P i o nm d r want oc n m) with e | ⟨x, gg, hx, e, hgg⟩
      · rw [e]; exact comp_bad hr
      · rw [e]; exact compW_ok hr h2 hg ht hx hgg
theorem compL_ok {all : Array Oper} {lay : Lay} : ∀ (l : List Oper) (i : Nat) (nm : Names) (d : Nat), CompOk P all lay l i nm d (compL P all lay l i nm d)
  | [], i, nm, d => .nil i nm d
  | _ :: l, i, _, _ => comp1_ok fun nm d => compL_ok l (i + 1) nm d
end
end
end Go.Kx
namespace Go.Kx
noncomputable section
variable [Sig]
section
variable {P : Program}

/- ## the trace of a region, taken in the order of the text -/
structure Sn where
  nm : Names
  e : Ev
  h : H
  m : Nm
def StepFact (P : Program) (all : Array Oper) (o : Oper) (nm : Names) (lay : Lay) (e : Ev) (f : Fr) (h : H) (e' : Ev) (h' : H) (m : Nm) : Prop :=
  OpFact P all o nm lay e f h e' h' m (clsOf P o.op) ∨ (o.dst = none ∧ h' = h ∧ e' = e ∧ clsOf P o.op = 0 ∧ ∀ μ ρ, Seen μ nm lay e f ρ o → ∃ v, ∀ w, (execOp ρ o).run P w = .ok (.value v) w)
structure StepAt (P : Program) (ops : Array Oper) (lay : Lay) (f : Fr) (T : Nat → Sn) (i : Nat) (o : Oper) : Prop where
  nm : (T (i + 1)).nm = bindN o.dst (T i).m (T i).nm
  ext : ∃ l, (T (i + 1)).e = pushL l (T i).e
  ok : NamesOk (T i).nm (T i).e.length
  below : (T i).m.below (T (i + 1)).e.length
  nx : (T i).h.nx ≤ (T (i + 1)).h.nx
  fact : StepFact P ops o (T i).nm lay (T i).e f (T i).h (T (i + 1)).e (T (i + 1)).h (T i).m
def glue (i : Nat) (s : Sn) (T : Nat → Sn) (j : Nat) : Sn := if j ≤ i then s else T j
theorem glue_le {i j : Nat} (s : Sn) (T : Nat → Sn) (h : j ≤ i) : glue i s T j = s := if_pos h
theorem glue_gt {i j : Nat} (s : Sn) (T : Nat → Sn) (h : i < j) : glue i s T j = T j := if_neg (by omega)
theorem glue_last (i : Nat) (s : Sn) (T : Nat → Sn) (o : Oper) (l : List Oper) : glue i s T (i + (o :: l).length) = T (i + 1 + l.length) := by
  rw [glue_gt _ _ (by simp only [List.length_cons]; omega)]
  exact congrArg T (by simp only [List.length_cons]; omega)
theorem StepAt.glue {ops : Array Oper} {lay : Lay} {f : Fr} {T : Nat → Sn} {i j : Nat} {o : Oper} (s : Sn) (h : StepAt P ops lay f T j o) (hj : i < j) : StepAt P ops lay f (glue i s T) j o := by
  have e1 := glue_gt s T hj
  have e2 := glue_gt s T (show i < j + 1 by omega)
  exact ⟨by rw [e1, e2]; exact h.nm, by rw [e1, e2]; exact h.ext, by rw [e1]; exact h.ok, by rw [e1, e2]; exact h.below, by rw [e1, e2]; exact h.nx, by rw [e1, e2]; exact h.fact⟩
theorem pushL_len (l : List V) (e : Ev) : (pushL l e).length = l.length + e.length := by rw [pushL_eq]; simp
theorem runL_nil (c : CallT) (e : Ev) (f : Fr) (h : H) (k : Ev → H → Out) : runL [] c e f h k = k e h := rfl
theorem runL_cons (o : OpC) (l : List OpC) (c : CallT) (e : Ev) (f : Fr) (h : H) (k : Ev → H → Out) : runL (o :: l) c e f h k = o c e f h fun e h => runL l c e f h k := rfl
theorem opsOf_cons (r : RE) (l : List RE) : opsOf (r :: l) = r.op :: opsOf l := rfl
theorem alias_step {ops : Array Oper} {lay : Lay} {f : Fr} {o : Oper} {nm nm1 : Names} {e : Ev} (h : AlSem P o nm lay e.length nm1) (hok : NamesOk nm e.length) :
    ∃ m, nm1 = bindN o.dst m nm ∧ m.below e.length ∧ NamesOk nm1 e.length ∧ ∀ h, StepFact P ops o nm lay e f h e h m := by
  obtain ⟨hcls, hg, m, hnm, hb, hf⟩ := h
  refine ⟨m, hnm, hb hok, by rw [hnm]; exact hok.bind (Nat.le_refl _) (hb hok) _, fun h => ?_⟩
  rcases hg with hg | hd
  · exact .inl (.inl ⟨.inl ⟨hg, rfl⟩, by rw [hcls]; exact ⟨rfl, fun μ ρ hs => hf μ e f ρ rfl hs⟩⟩)
  · exact .inr ⟨hd, rfl, rfl, hcls, fun μ ρ hs => let ⟨v, h1, _⟩ := hf μ e f ρ rfl hs; ⟨v, h1⟩⟩
theorem glue_first {ops : Array Oper} {lay : Lay} {f : Fr} {o : Oper} {i : Nat} {nm : Names} {e e' : Ev} {h h' : H} {m : Nm} {T : Nat → Sn} (hn : (T (i + 1)).nm = bindN o.dst m nm) (he : (T (i + 1)).e = e') (hh : (T (i + 1)).h = h') (hx : ∃ l, e' = pushL l e) (hok : NamesOk nm e.length) (hb : m.below e'.length) (hnx : h.nx ≤ h'.nx)
    (hf : StepFact P ops o nm lay e f h e' h' m) : StepAt P ops lay f (Kx.glue i ⟨nm, e, h, m⟩ T) i o := by
  have e1 := glue_le ⟨nm, e, h, m⟩ T (Nat.le_refl i)
  have e2 := glue_gt ⟨nm, e, h, m⟩ T (Nat.lt_succ_self i)
  exact ⟨by rw [e1, e2]; exact hn, by rw [e1, e2, he]; exact hx, by rw [e1]; exact hok, by rw [e1, e2, he]; exact hb, by rw [e1, e2, hh]; exact hnx, by rw [e1, e2, he, hh]; exact hf⟩
structure Traced (P : Program) (ops : Array Oper) (lay : Lay) (f : Fr) (l : List Oper) (i : Nat) (nm : Names) (e : Ev) (h : H) (nm' : Names) (d' : Nat) (T : Nat → Sn) : Prop where
  nm0 : (T i).nm = nm
  e0 : (T i).e = e
  h0 : (T i).h = h
  nm1 : (T (i + l.length)).nm = nm'
  e1 : (T (i + l.length)).e.length = d'
  ok : NamesOk nm' d'
  step : ∀ k o, l[k]? = some o → StepAt P ops lay f T (i + k) o
theorem Traced.cons {ops : Array Oper} {lay : Lay} {f : Fr} {o : Oper} {l : List Oper} {i : Nat} {nm nm1 nm' : Names} {e e' : Ev} {h h' : H} {d' : Nat} {m : Nm} {T : Nat → Sn} (t : Traced P ops lay f l (i + 1) nm1 e' h' nm' d' T) (hn : nm1 = bindN o.dst m nm) (hx : ∃ l, e' = pushL l e) (hok : NamesOk nm e.length) (hb : m.below e'.length) (hnx : h.nx ≤ h'.nx)
    (hf : StepFact P ops o nm lay e f h e' h' m) : Traced P ops lay f (o :: l) i nm e h nm' d' (glue i ⟨nm, e, h, m⟩ T) := by
  have e1 := glue_le ⟨nm, e, h, m⟩ T (Nat.le_refl i)
  have hl : i + (o :: l).length = i + 1 + l.length := by simp; omega
  have e2 := glue_gt ⟨nm, e, h, m⟩ T (show i < i + 1 + l.length by omega)
  refine ⟨by rw [e1], by rw [e1], by rw [e1], by rw [hl, e2]; exact t.nm1, by rw [hl, e2]; exact t.e1, t.ok, fun k o' hk => ?_⟩
  cases k with
  | zero =>
    simp only [List.getElem?_cons_zero, Option.some.injEq] at hk
    subst hk
    exact glue_first (t.nm0.trans hn) t.e0 t.h0 hx hok hb hnx hf
  | succ k =>
    simp only [List.getElem?_cons_succ] at hk
    have := t.step k o' hk
    rw [show i + 1 + k = i + (k + 1) by omega] at this
    exact this.glue _ (by omega)
theorem trace_runL {ops : Array Oper} {lay : Lay} {call : CallT} (hcall : CallOk P call) {l : List Oper} {i : Nat} {nm nm' : Names} {d d' : Nat} {es : List RE} (hc : Comp P ops lay l i nm d es nm' d') :
    NamesOk nm d → ∀ (e : Ev) (f : Fr) (h : H) (k : Ev → H → Out), e.length = d → (∃ s, runL (opsOf es) call e f h k = .stuck s) ∨ ∃ T, Traced P ops lay f l i nm e h nm' d' T ∧ runL (opsOf es) call e f h k = k (T (i + l.length)).e (T (i + l.length)).h := by
  induction hc with
  | nil i nm d => exact fun hok e f h k he => .inr ⟨fun _ => ⟨nm, e, h, unN⟩, ⟨rfl, rfl, rfl, rfl, he, hok, fun k o hk => by simp at hk⟩, rfl⟩
  | al ha t ih =>
    intro hok e f h k he
    subst he
    obtain ⟨m, hnm, hb, hok1, hf⟩ := alias_step (ops := ops) (f := f) ha hok
    rcases ih hok1 e f h k rfl with h1 | ⟨T, hT, h1⟩
    · exact .inl h1
    · refine .inr ⟨_, hT.cons hnm ⟨[], rfl⟩ hok hb (Nat.le_refl _) (hf h), ?_⟩
      rw [h1, glue_last]
  | op ho h1 hn t ih =>
    intro hok e f h k he
    subst he
    rw [opsOf_cons, runL_cons]
    dsimp only
    rcases ho call hcall e f h (fun e h => runL (opsOf _) call e f h k) rfl with h2 | ⟨l1, h', h2, h3, hnx, h4, m, h5, h6, h7⟩
    · exact .inl h2
    · rw [h3]
      rcases ih (hn hok) (pushL l1 e) f h' k (by rw [pushL_len, Nat.add_comm, h2]) with h8 | ⟨T, hT, h8⟩
      · exact .inl h8
      · refine .inr ⟨_, hT.cons h5 ⟨l1, rfl⟩ hok (by rw [pushL_len, Nat.add_comm, h2]; exact h6 hok) hnx (.inl (by rw [← h4]; exact h7)), ?_⟩
        rw [h8, glue_last]

/- ## one operation, run -/
theorem fact_plain {ops : Array Oper} {o : Oper} {lay : Lay} {nm : Names} {e e' : Ev} {f : Fr} {h h' : H} {m : Nm} {i N : Nat} {Q : Exit → Act → World → Prop} {K : Act → World → Prop} {μ : Mu} {a : Act} {w : World} (ho : ops[i]? = some o)
    (hF : StepFact P ops o nm lay e f h e' h' m) (hA : ARel μ nm lay N e f a) (hR : Rel μ h w) (hfr : Fresh μ h h') (hx : ∃ l, e' = pushL l e) (hnm : NamesOk nm e.length) (hd : ∀ t, o.dst = some t → t < N)
    (hK : ∀ a' w' μ', Step μ h w μ' h' w' → Rel μ' h' w' → ARel μ' (bindN o.dst m nm) lay N e' f a' → K a' w') : wpOp P ops Q i K a w := by
  obtain ⟨l, rfl⟩ := hx
  have put : ∀ μ' v w', Step μ h w μ' h' w' → Rel μ' h' w' → NRel μ' (pushL l e) f m v → K (a.put o.dst v) w' := fun μ' v w' h1 h2 h3 => hK _ _ μ' h1 h2 (hA.bind h1.ext hnm l hd h3)
  unfold wpOp
  rw [ho]
  dsimp only
  rcases hF with (⟨hg, hf⟩ | ⟨hg, hh, hv⟩) | ⟨hdn, hh, he, hcls, hv⟩
  · have hw := hg.wanted (μ := μ) (a := a) fun t _ => hA.orel (.tmp t)
    rw [if_pos hw]
    refine .inl (Upon.wp ?_)
    have hs := hA.seen o
    generalize clsOf P o.op = cls at hf
    match cls, hf with
    | 0, ⟨hh, hf'⟩ =>
      subst hh
      obtain ⟨v, h1, h2⟩ := hf' μ a.eval hs
      rw [h1 w]
      exact put μ v w (.refl _ _ _) hR h2
    | 1, ⟨hh, hf'⟩ =>
      subst hh
      obtain ⟨v, h1, h2⟩ := hf' μ w a.eval hR hs
      rw [h1]
      exact put μ v w (.refl _ _ _) hR h2
    | 2, ⟨b, c, he, hh, hm, hf'⟩ =>
      obtain ⟨s, h1, v, w', ob, s0, top, L, h2, h3, h4⟩ := hf' μ w a.eval hs
      subst hh
      have hnx : μ h.nx = none := hfr h.nx (Nat.le_refl _) (by rw [H.nx_add]; omega)
      obtain ⟨hB, hV⟩ := h4 (μ.add h.nx ⟨w.heap.size, s0, top, L⟩) h.nx (Mu.le_add hnx) (Mu.add_self _ _ _)
      obtain ⟨h5, h6⟩ := hR.new hnx s0 top L h3 hB
      rw [h1, run_v h2]
      refine put _ v w' h6 h5 ?_
      rw [he, hm]
      exact nrel_one hV
    | n + 3, hf' => exact (hf' μ w a.eval hR hfr hs).mono fun v w' ⟨μ', h1, h2, h3⟩ => put μ' v w' h1 h2 h3
  · have hw := hg.wanted (μ := μ) (a := a) fun t _ => hA.orel (.tmp t)
    subst hh
    rw [if_neg (by rw [hw]; exact Bool.false_ne_true)]
    exact put μ undef w (.refl _ _ _) hR (hv μ)
  · subst hh
    obtain ⟨v, h1⟩ := hv μ a.eval (hA.seen o)
    have hkeep : K a w := by
      have hA' : ARel μ (bindN o.dst m nm) lay N (pushL l e) f a := by
        rw [hdn, he]; exact hA
      exact hK a w μ (.refl _ _ _) hR hA'
    split
    · refine .inl (Upon.wp ?_)
      rw [h1 w, hdn]
      exact hkeep
    · rw [hdn]; exact hkeep
/-- a region in the order of the text -/
theorem nx_mono {ops : Array Oper} {lay : Lay} {f : Fr} {T : Nat → Sn} (hstep : ∀ k o, ops[k]? = some o → StepAt P ops lay f T k o) : ∀ (n i : Nat), i + n ≤ ops.size → (T i).h.nx ≤ (T (i + n)).h.nx
  | 0, i, _ => Nat.le_refl _
  | n + 1, i, h => by
    have h1 := nx_mono hstep n (i + 1) (by omega)
    have h2 := (hstep i ops[i] (Array.getElem?_eq_getElem (by omega))).nx
    rw [show i + 1 + n = i + (n + 1) by omega] at h1
    omega
theorem plain_ops {ops : Array Oper} {lay : Lay} {f : Fr} {N : Nat} {T : Nat → Sn} {Q : Exit → Act → World → Prop} (hstep : ∀ k o, ops[k]? = some o → StepAt P ops lay f T k o) (hd : ∀ (k : Nat) o, ops[k]? = some o → ∀ t, o.dst = some t → t < N) :
    ∀ (n i : Nat), i + n = ops.size → ∀ (μ : Mu) (a : Act) (w : World), ARel μ (T i).nm lay N (T i).e f a → Rel μ (T i).h w → Fresh μ (T i).h (T ops.size).h →
      (∀ a' w' μ', Step μ (T i).h w μ' (T ops.size).h w' → Rel μ' (T ops.size).h w' → ARel μ' (T ops.size).nm lay N (T ops.size).e f a' → Q .normal a' w') → wpOps P ops Q (List.range' i n) a w := by
  intro n
  induction n with
  | zero =>
    intro i hi μ a w hA hR hfr hQ
    have : i = ops.size := by omega
    subst this
    exact hQ a w μ (.refl _ _ _) hR hA
  | succ n ih =>
    intro i hi μ a w hA hR hfr hQ
    rw [List.range'_succ, wpOps_cons]
    have hlt : i < ops.size := by omega
    have ho : ops[i]? = some ops[i] := Array.getElem?_eq_getElem hlt
    have hs := hstep i _ ho
    have hmono := nx_mono hstep n (i + 1) (by omega)
    rw [show i + 1 + n = ops.size by omega] at hmono
    refine fact_plain ho hs.fact hA hR (hfr.left hmono) hs.ext hs.ok (hd i _ ho) fun a' w' μ' h1 h2 h3 => ?_
    exact ih (i + 1) (by omega) μ' a' w' (by rw [hs.nm]; exact h3) h2 (hfr.right h1) fun a'' w'' μ'' h4 h5 h6 => hQ a'' w'' μ'' (h1.trans h4) h5 h6
end
end
end Go.Kx
