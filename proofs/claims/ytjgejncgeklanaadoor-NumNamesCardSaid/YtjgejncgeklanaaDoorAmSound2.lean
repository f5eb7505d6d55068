/-
  A part of the proof that an abstract machine, which runs a program without orders, room or tape, says what the model does. No condition beside what each theorem states.
-/
import Derived.Test.YtjgejncgeklanaaDoorAmSound1
import Derived.Laws.Tables
import Derived.Laws.Slices
namespace Go.Am
open Go Go.RowKit

section
variable {σ : Sg} {base : Nat} {H : AH} {w : World} {P : Program}

theorem sizeT_run {t : TypeId} {n : Nat} (h : sizeT P t = some n) (w : World) : (sizeOf t).run P w = .ok n w := by
  unfold sizeT at h
  cases hi : P.info? t with
  | none => simp [hi] at h
  | some i => simp [hi] at h; subst h; simp [sizeOf, typeInfo, hi]
theorem isAggT_run {t : TypeId} {b : Bool} (h : isAggT P t = some b) (w : World) : (isAgg t).run P w = .ok b w := by
  unfold isAggT at h
  cases hu : P.underlying t with
  | none => simp [hu] at h
  | some d => cases d <;> simp [hu] at h <;> subst h <;> simp [isAgg, run_underlying hu]
theorem zeroT_run {t : TypeId} {z : V} (h : zeroT P t = some z) (σ : Sg) (w : World) : ∃ z', (zeroValue t).run P w = .ok z' w ∧ VR σ z z' := by
  unfold zeroT at h
  cases hi : P.info? t with
  | none => simp [hi] at h
  | some i =>
    simp only [hi, Option.bind_some] at h
    cases hz : i.zero with
    | none => simp [hz] at h
    | some v =>
      simp only [hz, Option.bind_some] at h
      exact ⟨v, by simp [zeroValue, typeInfo, hi, hz], VR.ofVal σ 20 v z h⟩

/-- a new row of cells -/
theorem new_cells (hr : HR σ base H w) {c : List V} {cs : Array Value} (e : TypeId) (hc : VRs σ c cs.toList) (σ' : Sg) (H' : AH) (b : Nat) (hle : Le σ σ') :
    ObjR σ' base H' (w.alloc (.cells cs e)) b ⟨w.heap.size, 0, cs.size⟩ (.cells c true none) := by
  have hlen := hc.length
  simp only [Array.length_toList] at hlen
  refine ⟨fun _ => ⟨hr.base, by show c.length ≤ cs.size; omega, fun i hi => by rw [Nat.zero_add]; exact okCell_new w cs e i hi⟩, (fun e => by cases e), fun _ => ?_⟩
  have hw : NewRow w (w.alloc (.cells cs e)) cs := ⟨by simp, fun r hr => Below.heap_alloc w _ r hr, ⟨e, 0, 0, heap_alloc_new w _, fun i _ => by omega⟩, rfl, rfl, rfl⟩
  have : ContR σ (w.alloc (.cells cs e)) ⟨w.heap.size, 0, cs.size⟩ c := ContR.new hw (by rw [List.take_of_length_le (by simp [hlen])]; exact hc)
  exact this.mono hle

theorem VR.newPtr (σ : Sg) (b : Nat) (L : Loc) (hs : L.s = 0) : VR (σ.ins b L) (.ptr (some (b, 0))) (.pointer (some ⟨L.r, 0, none⟩)) := by
  simp only [VR]; exact ⟨L, Sg.ins_self _ _ _, by rw [hs]⟩

theorem ok_alloc {t : TypeId} (hr : HR σ base H w) {nx : Nx} (e : oAlloc P t = some nx) :
    NxR σ base H w ((do pure (.value (← Instr.alloc t true (.tuple #[]))) : Sem Next).run P w) nx := by
  unfold oAlloc at e
  cases hz : zeroT P t with
  | none => simp [hz] at e
  | some z =>
    simp [hz] at e; subst e
    obtain ⟨z', h1, h2⟩ := zeroT_run hz σ w
    refine ⟨.cells z'.cells t, z'.cells.size, .pointer (some ⟨w.heap.size, 0, none⟩), ?_, fun _ => rfl, new_cells hr t h2.cells, fun b => VR.newPtr _ _ _ rfl⟩
    simp [Instr.alloc, h1, newVar, newRow]

theorem ok_box {t : TypeId} (hr : HR σ base H w) {x : V} {x' : Value} (hx : VR σ x x') :
    NxR σ base H w ((do pure (.value (← Instr.box t x')) : Sem Next).run P w) (oBox x) := by
  refine ⟨.cells x'.cells t, x'.cells.size, .pointer (some ⟨w.heap.size, 0, none⟩), ?_, fun _ => rfl, new_cells hr t hx.cells, fun b => VR.newPtr _ _ _ rfl⟩
  simp [Instr.box, newVar, newRow]

theorem ok_load {t : TypeId} (hr : HR σ base H w) {x : V} {x' : Value} (hx : VR σ x x') {nx : Nx} (e : oLoad P H t x = some nx) :
    NxR σ base H w ((do pure (.value (← Instr.loadAt t x')) : Sem Next).run P w) nx := by
  unfold oLoad at e
  split at e
  case h_2 => cases e
  rename_i b o
  simp only [VR] at hx
  obtain ⟨L, hb, rfl⟩ := hx
  split at e
  · rename_i n ha hs
    cases hl : H.loadN b o n with
    | none => simp [hl] at e
    | some l =>
      simp [hl] at e; subst e
      obtain ⟨_, l', h1, h2⟩ := hr.loadN hb hl P
      refine ⟨.agg l'.toArray, ?_, by simp only [VR]; exact ⟨_, rfl, by simpa using h2⟩⟩
      simp [Instr.loadAt, Instr.sureAddr, loadVar, isAggT_run ha, sizeT_run hs, h1]
  · rename_i ha
    cases hl : H.load1 b o with
    | none => simp [hl] at e
    | some l =>
      simp [hl] at e; subst e
      obtain ⟨l', h1, h2⟩ := hr.load1 hb hl
      refine ⟨l', ?_, h2⟩
      simp [Instr.loadAt, Instr.sureAddr, loadVar, isAggT_run ha, h1]
  · cases e

theorem ok_store {t : TypeId} (hr : HR σ base H w) {x v : V} {x' v' : Value} (hx : VR σ x x') (hv : VR σ v v') {nx : Nx} (e : oStore P H t x v = some nx) :
    NxR σ base H w ((do Instr.storeAt t x' v'; pure .skip : Sem Next).run P w) nx := by
  unfold oStore at e
  split at e
  case h_2 => cases e
  rename_i b o
  simp only [VR] at hx
  obtain ⟨L, hb, rfl⟩ := hx
  split at e
  case h_2 => cases e
  rename_i n hs
  split at e
  case isFalse => cases e
  rename_i hlen
  cases hst : H.storeN b o v.cells with
  | none => simp [hst] at e
  | some H' =>
    simp [hst] at e; subst e
    obtain ⟨w', h1, h2⟩ := HR.storeN hb P o v.cells v'.cells.toList 0 hr (by simpa using hst) hv.cells
    refine ⟨σ, w', .skip, undef, ?_, .inr ⟨rfl, rfl⟩, VR.undef, h2⟩
    have hl := hv.cells.length
    simp only [Array.length_toList] at hl
    simp [Instr.storeAt, Instr.sureAddr, storeVar, sizeT_run hs, ← hl, hlen, h1]

theorem rtErr_run (σ : Sg) (m : String) : VR σ (rtErr P m) (.iface P.rt.errorString (strVal m)) := by
  simp only [rtErr, VR, strVal]
  exact ⟨_, rfl, _, rfl, rfl⟩
theorem nilDeref_ok {α : Type} (f : α → World → Result Next) : NxR σ base H w (((runtimePanic .nilDeref : Sem α).run P w).andThen f) (nilDeref P) := by
  refine ⟨_, ?_, rtErr_run σ _⟩
  simp [runtimePanic]

theorem ok_nilCheck (hr : HR σ base H w) {x : V} {x' : Value} (hx : VR σ x x') {nx : Nx} (e : oNilCheck P x = some nx) (o : Oper) (y : Operand) (ρ : Operand → Value) (ho : o.op = .nilCheck y) (hy : ρ y = x') :
    NxR σ base H w ((execOp ρ o).run P w) nx := by
  have hd : ∀ z, ρ y = z → (z = .pointer none ∨ z = .nilIface ∨ z = .nilFunc) → NxR σ base H w ((execOp ρ o).run P w) (nilDeref P) := by
    intro z hz hc
    refine ⟨_, ?_, rtErr_run σ _⟩
    rcases hc with rfl | rfl | rfl <;> simp [execOp, ho, hz, runtimePanic]
  have hv : ∀ z v, ρ y = z → VR σ v z → z ≠ .pointer none → z ≠ .nilIface → z ≠ .nilFunc → (∀ n f c, z ≠ .func (.method n) f c) → NxR σ base H w ((execOp ρ o).run P w) (.pv v) := by
    intro z v hz hvz h1 h2 h3 h4
    refine ⟨z, ?_, hvz⟩
    simp only [execOp, ho, hz]
    rfl
  unfold oNilCheck at e
  split at e
  · cases e; simp only [VR] at hx; exact hd x' hy (.inl hx)
  · cases e; simp only [VR] at hx; exact hd x' hy (.inr (.inl hx))
  · cases e; simp only [VR] at hx; exact hd x' hy (.inr (.inr hx))
  · cases e
  · rename_i h1 h2 h3 h4
    cases e
    refine hv x' x hy hx ?_ ?_ ?_ ?_
    all_goals
      intros
      intro e
      subst e
      cases x with
      | ptr p => cases p <;> simp [VR] at hx <;> exact h1 rfl
      | slice p => cases p <;> simp [VR] at hx
      | map p => cases p <;> simp [VR] at hx
      | nilIface => exact h2 rfl
      | nilFunc => exact h3 rfl
      | func fn f c =>
        simp only [VR] at hx
        obtain ⟨fn', f', c', hx, h5, _⟩ := hx
        cases fn <;> simp only [FnR] at h5 <;> first
          | (subst h5; cases hx; done)
          | (obtain ⟨_, _, rfl⟩ := h5; cases hx; done)
          | (exact h4 _ _ _ rfl)
          | exact h5.elim
      | _ => simp [VR] at hx

/-! ### literals -/
theorem putL_length : ∀ (c : List V) (o : Nat) (vs : List V), (putL c o vs).length = c.length
  | c, o, [] => rfl
  | c, o, v :: vs => by simp [putL, putL_length]

theorem fill_step {σ : Sg} : ∀ (vs : List V) (vs' : List Value) (j : Nat) (c : List V) (c' : Array Value) (off : Nat), VRs σ vs vs' → VRs σ c c'.toList → off + j + vs.length ≤ c.length →
    VRs σ (putL c (off + j) vs) ((vs'.zipIdx j).foldl (fun cs (x, k) => cs.setIfInBounds (off + k) x) c').toList
  | [], vs', j, c, c', off, h, hc, _ => by
    simp only [VRs] at h; subst h
    simp [putL]; exact hc
  | v :: vs, vs', j, c, c', off, h, hc, hl => by
    simp only [VRs] at h
    obtain ⟨v', l', rfl, h1, h2⟩ := h
    simp only [List.length_cons] at hl
    have hlen := hc.length
    simp only [Array.length_toList] at hlen
    have hc1 : VRs σ (c.set (off + j) v) (c'.setIfInBounds (off + j) v').toList := by
      refine VRs.of_get (by simp [hc.length]) fun i u e => ?_
      by_cases hi : off + j = i
      · subst hi
        rw [List.getElem?_set_self (by omega)] at e; cases e
        refine ⟨v', ?_, h1⟩
        simp only [Array.toList_setIfInBounds]; rw [List.getElem?_set_self (by simp; omega)]
      · rw [List.getElem?_set_ne hi] at e
        obtain ⟨u', h3, h4⟩ := hc.get i u e
        refine ⟨u', ?_, h4⟩
        simp [hi]; simpa using h3
    have ih := fill_step vs l' (j + 1) (c.set (off + j) v) (c'.setIfInBounds (off + j) v') off h2 hc1 (by simp; omega)
    have e1 : putL (c.set (off + j) v) (off + (j + 1)) vs = putL c (off + j) (v :: vs) := rfl
    rw [e1] at ih
    simpa [List.zipIdx_cons] using ih

theorem fillV_ok {σ : Sg} {place place' : Nat → Option (Nat × Nat)} (hp : ∀ i p, place i = some p → place' i = some p) : ∀ (ps : List (Nat × V)) (ps' : List (Nat × Value)) (c r : List V) (c' : Array Value),
    ps.map (·.1) = ps'.map (·.1) → VRs σ (ps.map (·.2)) (ps'.map (·.2)) → VRs σ c c'.toList → fillV place c ps = some r → ∃ r', Instr.fill place' c' ps' = some r' ∧ VRs σ r r'.toList
  | [], ps', c, r, c', h1, h2, hc, h => by
    have : ps' = [] := by simpa using h1.symm
    subst this
    simp [fillV] at h; subst h
    exact ⟨c', rfl, hc⟩
  | (i, v) :: ps, [], c, r, c', h1, h2, hc, h => by simp at h1
  | (i, v) :: ps, (i', v') :: ps', c, r, c', h1, h2, hc, h => by
    simp only [List.map_cons, List.cons.injEq] at h1
    obtain ⟨rfl, h1⟩ := h1
    simp only [List.map_cons, VRs] at h2
    obtain ⟨v2, l2, h3, h4, h5⟩ := h2
    simp only [List.cons.injEq] at h3
    obtain ⟨rfl, rfl⟩ := h3
    simp only [fillV] at h
    split at h
    case h_2 => cases h
    rename_i off size hpl
    split at h
    case isFalse => cases h
    rename_i hcond
    have hl := h4.cells.length
    simp only [Array.length_toList] at hl
    have hlc := hc.length
    simp only [Array.length_toList] at hlc
    have hs := fill_step v.cells v'.cells.toList 0 c c' off h4.cells hc (by omega)
    obtain ⟨r', h6, h7⟩ := fillV_ok hp ps ps' _ r _ h1 h5 hs h
    refine ⟨r', ?_, h7⟩
    have hc1 : ¬ (v'.cells.size ≠ size ∨ off + v'.cells.size > c'.size) := by omega
    simp only [Instr.fill, hp _ _ hpl]
    rw [if_neg (by simpa using hc1)]
    rw [← h6]
    congr 1
    rw [← Array.foldl_toList]
    simp [Array.toList_zipIdx]

theorem evalParts_ok {a : Act} {tm : PT V} {nt : Nat} (h : StR σ base tm nt H a w) : ∀ (ps : List (Nat × Operand)) {l : List (Nat × V)}, evalParts H.ng tm ps = some l →
    l.map (·.1) = (ps.map fun (i, x) => (i, a.eval x)).map (·.1) ∧ VRs σ (l.map (·.2)) ((ps.map fun (i, x) => (i, a.eval x)).map (·.2))
  | [], l, e => by simp [evalParts] at e; subst e; exact ⟨rfl, VRs.nil⟩
  | (i, x) :: r, l, e => by
    simp only [evalParts] at e
    split at e
    · rename_i v l' h1 h2
      cases e
      obtain ⟨h3, h4⟩ := evalParts_ok h r h2
      exact ⟨by simp [h3], VRs.cons (eval_ok h h1) h4⟩
    · cases e
theorem evalAll_ok {a : Act} {tm : PT V} {nt : Nat} (h : StR σ base tm nt H a w) : ∀ (ps : List Operand) {l : List V}, evalAll H.ng tm ps = some l → VRs σ l (ps.map a.eval)
  | [], l, e => by simp [evalAll] at e; subst e; exact VRs.nil
  | x :: r, l, e => by
    simp only [evalAll] at e
    split at e
    · rename_i v l' h1 h2
      cases e
      exact VRs.cons (eval_ok h h1) (evalAll_ok h r h2)
    · cases e

theorem structPlaces_ok : ∀ (fs : List Field) (pl : List (Nat × Nat)), structPlaces P fs = some pl → fs.mapM (fun f => (P.info? f.type).map fun i => (f.offset, i.size)) = some pl
  | [], pl, e => by simp [structPlaces] at e; subst e; rfl
  | f :: r, pl, e => by
    simp only [structPlaces] at e
    split at e
    · rename_i n l h1 h2
      cases e
      have ih := structPlaces_ok r l h2
      unfold sizeT at h1
      cases hi : P.info? f.type with
      | none => simp [hi] at h1
      | some i =>
        simp [hi] at h1; subst h1
        simp [List.mapM_cons, hi, ih]
    · cases e

theorem ok_build {t : TypeId} (hr : HR σ base H w) {ps : List (Nat × V)} {ps' : Array (Nat × Value)} (h1 : ps.map (·.1) = ps'.toList.map (·.1)) (h2 : VRs σ (ps.map (·.2)) (ps'.toList.map (·.2))) {nx : Nx} (e : oBuild P t ps = some nx) :
    NxR σ base H w ((do pure (.value (← Instr.build t ps')) : Sem Next).run P w) nx := by
  unfold oBuild at e
  split at e
  · rename_i z fs hz hu
    cases hp : structPlaces P fs.toList with
    | none => simp [hp] at e
    | some pl =>
      simp only [hp, Option.bind_some] at e
      cases hf : fillV (fun x => pl[x]?) z.cells ps with
      | none => simp [hf] at e
      | some c =>
        simp [hf] at e; subst e
        obtain ⟨z', h3, h4⟩ := zeroT_run hz σ w
        obtain ⟨r', h5, h6⟩ := fillV_ok (place' := fun x => pl[x]?) (fun _ _ e => e) ps ps'.toList z.cells c z'.cells h1 h2 h4.cells hf
        refine ⟨.agg r', ?_, by simp only [VR]; exact ⟨_, rfl, h6⟩⟩
        simp [Instr.build, run_underlying hu, h3, Array.mapM_eq_mapM_toList, run_places w _ _ (structPlaces_ok _ _ hp), h5]
  · rename_i z n e' hz hu
    cases hs : sizeT P e' with
    | none => simp [hs] at e
    | some size =>
      simp only [hs, Option.bind_some] at e
      cases hf : fillV (fun i => some (i * size, size)) z.cells ps with
      | none => simp [hf] at e
      | some c =>
        simp [hf] at e; subst e
        obtain ⟨z', h3, h4⟩ := zeroT_run hz σ w
        obtain ⟨r', h5, h6⟩ := fillV_ok (place' := fun i => some (i * size, size)) (fun _ _ e => e) ps ps'.toList z.cells c z'.cells h1 h2 h4.cells hf
        refine ⟨.agg r', ?_, by simp only [VR]; exact ⟨_, rfl, h6⟩⟩
        simp [Instr.build, run_underlying hu, h3, sizeT_run hs, h5]
  · cases e

theorem repL_length (z : List V) (n : Nat) : (repL z n).length = n * z.length := by
  induction n with
  | zero => simp [repL]
  | succ n ih => simp [repL, ih, Nat.succ_mul]; omega

theorem repL_get (z : List V) : ∀ (n i : Nat), i < n * z.length → (repL z n)[i]? = z[i % z.length]?
  | 0, i, h => by simp at h
  | n + 1, i, h => by
    simp only [repL, List.getElem?_append]
    split
    · rename_i h1; rw [Nat.mod_eq_of_lt h1]
    · rename_i h1
      rw [repL_get z n _ (by rw [Nat.succ_mul] at h; omega)]
      congr 1
      rw [← Nat.mod_eq_sub_mod (by omega)]

theorem rep_ok {σ : Sg} {z : List V} {z' : Array Value} (h : VRs σ z z'.toList) (n : Nat) (hz : 0 < z.length ∨ n = 0) : VRs σ (repL z n) ((Array.range (n * z'.size)).map (fun i => z'[i % z'.size]!)).toList := by
  have hl := h.length
  simp only [Array.length_toList] at hl
  refine VRs.of_get (by simp [repL_length, hl]) fun i v e => ?_
  have hi : i < n * z.length := by
    have := (List.getElem?_eq_some_iff.1 e).1
    rwa [repL_length] at this
  rw [repL_get z n i hi] at e
  obtain ⟨v', h1, h2⟩ := h.get _ v e
  refine ⟨v', ?_, h2⟩
  simp only [Array.toList_map, Array.toList_range, List.getElem?_map]
  rw [List.getElem?_range (by rw [← hl]; exact hi)]
  simp only [Option.map_some]
  congr 1
  rw [← hl, getElem!_def]
  simp at h1
  rw [h1]

theorem ok_buildSlice {t : TypeId} {len : Nat} (hr : HR σ base H w) {ps : List (Nat × V)} {ps' : Array (Nat × Value)} (h1 : ps.map (·.1) = ps'.toList.map (·.1)) (h2 : VRs σ (ps.map (·.2)) (ps'.toList.map (·.2))) {nx : Nx} (e : oBuildSlice P t len ps = some nx) :
    NxR σ base H w ((do pure (.value (← Instr.buildSlice t len ps')) : Sem Next).run P w) nx := by
  unfold oBuildSlice at e
  split at e
  case h_2 => cases e
  rename_i e' hu
  split at e
  case h_2 => cases e
  rename_i size z hs hz
  split at e
  case isFalse => cases e
  rename_i hc
  cases hf : fillV (fun i => some (i * size, size)) (repL z.cells len) ps with
  | none => simp [hf] at e
  | some c =>
    simp [hf] at e; subst e
    obtain ⟨z', h3, h4⟩ := zeroT_run hz σ w
    have hl := h4.cells.length
    simp only [Array.length_toList] at hl
    have hzs : z'.cells.size = size := by omega
    have hrep := rep_ok h4.cells len (.inl (by omega))
    rw [hzs] at hrep
    have hfill : ∃ r', Instr.fill (fun i => some (i * size, size)) ((Array.range (len * size)).map (fun i => (if len * size = 0 then #[] else z'.cells)[i % (if len * size = 0 then #[] else z'.cells).size]!)) ps'.toList = some r' ∧ VRs σ c r'.toList := by
      refine fillV_ok (place' := fun i => some (i * size, size)) (fun _ _ e => e) ps ps'.toList _ c _ h1 h2 ?_ hf
      by_cases h0 : len * size = 0
      · have hlen0 : len = 0 := by
          rcases Nat.mul_eq_zero.1 h0 with h | h
          · exact h
          · omega
        subst hlen0
        simp [repL, VRs]
      · simp only [h0, if_false]
        rw [hzs]; exact hrep
    obtain ⟨r', h5, h6⟩ := hfill
    have hsz : ¬ (len * size > 2 ^ 24) := by omega
    refine ⟨.cells r' e', r'.size, .slice (some ⟨w.heap.size, 0, none⟩) len len, ?_, fun _ => rfl, new_cells hr e' h6, ?_⟩
    · by_cases h0 : len * size = 0
      · simp only [h0, if_true] at h5
        simp [Instr.buildSlice, run_underlying hu, sizeT_run hs, h0, newRow] at h5 ⊢
        rw [h5]; simp [newRow]
      · simp only [h0, if_false] at h5
        simp [Instr.buildSlice, run_underlying hu, sizeT_run hs, h0, newRow, h3, hsz, h5]
    · intro b
      simp only [VR]
      exact ⟨_, len, Sg.ins_self _ _ _, rfl, Nat.le_refl _, rfl⟩
end
end Go.Am
