/-
  A part of the proof that an abstract machine, which runs a program without orders, room or tape, says what the model does. No condition beside what each theorem states.
-/
import Derived.Test.YtjgejncgeklanaaDoorAmSound5
import Derived.Laws.Append
namespace Go.Am
open Go Go.RowKit

section
variable {σ : Sg} {base : Nat} {H : AH} {w : World} {P : Program}

theorem ok_fieldAddr {s : TypeId} {x : V} {f : Nat} {nx : Nx} (e : oFieldAddr P s x f = some nx) {x' : Value} (hx : VR σ x x') :
    NxR σ base H w ((valN (Instr.fieldAt s x' f)).run P w) nx := by
  unfold oFieldAddr at e
  split at e
  case h_2 => cases e
  rename_i fs p hu
  simp only [VR] at hx
  obtain ⟨L, hL, rfl⟩ := hx
  cases hf : fs[f]? with
  | none => simp [hf] at e
  | some fd =>
    cases hs : sizeT P fd.type with
    | none => simp [hf, hs] at e
    | some n =>
      simp only [hf, hs, Option.bind_some] at e
      split at e
      · cases e
      · rename_i hn
        cases e
        refine NxR.pv_of (v' := .pointer (some ⟨L.r, L.s + p.2 + fd.offset, none⟩)) ?_ ?_
        · simp [Instr.fieldAt, run_underlying hu, hf, Instr.sureAddr, fieldPlace, sizeT_run hs, hn, add_loc]
        · simp only [VR]; exact ⟨L, hL, by rw [Nat.add_assoc]⟩

theorem ok_field {t : TypeId} {x : V} {f : Nat} {nx : Nx} (e : oField P t x f = some nx) {x' : Value} (hx : VR σ x x') :
    NxR σ base H w ((valN (Instr.field t x' f)).run P w) nx := by
  unfold oField at e
  split at e
  case h_2 => cases e
  rename_i fs cs hu
  simp only [VR] at hx
  obtain ⟨cs', rfl, hc⟩ := hx
  cases hf : fs[f]? with
  | none => simp [hf] at e
  | some fd =>
    cases hp : partV P fd.type cs fd.offset with
    | none => simp [hf, hp] at e
    | some v =>
      simp [hf, hp] at e; subst e
      obtain ⟨v', h1, h2⟩ := partV_run (P := P) hc hp w
      exact NxR.pv_of (v' := v') (by simp [Instr.field, run_underlying hu, hf, asAgg, h1]) h2

theorem ok_indexAddr {t : TypeId} {x ix : V} {nx : Nx} (e : oIndexAddr P t x ix = some nx) {x' ix' : Value} (hx : VR σ x x') (hi : VR σ ix ix') :
    NxR σ base H w ((valN (Instr.indexAt t x' ix')).run P w) nx := by
  unfold oIndexAddr at e
  split at e
  case h_2 => cases e
  rename_i k i
  simp only [VR] at hi; subst hi
  split at e
  · rename_i n e' p hu
    simp only [VR] at hx
    obtain ⟨L, hL, rfl⟩ := hx
    split at e
    case isFalse => cases e
    rename_i hc
    cases hs : sizeT P e' with
    | none => simp [hs] at e
    | some size =>
      simp [hs] at e; subst e
      refine NxR.pv_of (v' := .pointer (some ⟨L.r, L.s + p.2 + i.toNat * size, none⟩)) ?_ ?_
      · simp [Instr.indexAt, asIntOf, run_underlying hu, Instr.sureAddr, hc, sizeT_run hs, add_loc]
      · simp only [VR]; exact ⟨L, hL, by rw [Nat.add_assoc]⟩
  · rename_i e' p len cap ex hu
    simp only [VR] at hx
    obtain ⟨L, c', hL, rfl, _⟩ := hx
    split at e
    case isFalse => cases e
    rename_i hc
    cases hs : sizeT P e' with
    | none => simp [hs] at e
    | some size =>
      simp [hs] at e; subst e
      refine NxR.pv_of (v' := .pointer (some ⟨L.r, L.s + p.2 + i.toNat * size, none⟩)) ?_ ?_
      · simp [Instr.indexAt, asIntOf, run_underlying hu, hc, sizeT_run hs, add_loc]
      · simp only [VR]; exact ⟨L, hL, by rw [Nat.add_assoc]⟩
  · cases e

theorem ok_index {t : TypeId} {x ix : V} {nx : Nx} (e : oIndex P t x ix = some nx) {x' ix' : Value} (hx : VR σ x x') (hi : VR σ ix ix') :
    NxR σ base H w ((valN (Instr.index t x' ix')).run P w) nx := by
  unfold oIndex at e
  split at e
  case h_2 => cases e
  rename_i k i
  simp only [VR] at hi; subst hi
  split at e
  · rename_i n e' cs hu
    simp only [VR] at hx
    obtain ⟨cs', rfl, hc'⟩ := hx
    split at e
    case isFalse => cases e
    rename_i hc
    cases hs : sizeT P e' with
    | none => simp [hs] at e
    | some size =>
      cases hp : partV P e' cs (i.toNat * size) with
      | none => simp [hs, hp] at e
      | some v =>
        simp [hs, hp] at e; subst e
        obtain ⟨v', h1, h2⟩ := partV_run (P := P) hc' hp w
        exact NxR.pv_of (v' := v') (by simp [Instr.index, asIntOf, run_underlying hu, hc, sizeT_run hs, h1]) h2
  · rename_i s hu
    simp only [VR] at hx
    obtain ⟨s', rfl, hs⟩ := hx
    split at e
    case isFalse => cases e
    rename_i h0
    cases hg : s[i.toNat]? with
    | none => simp [hg] at e
    | some b =>
      simp [hg] at e; subst e
      rw [← hs, List.getElem?_map] at hg
      cases hu8 : s'.data.toList[i.toNat]? with
      | none => simp [hu8] at hg
      | some u =>
        simp [hu8] at hg; subst hg
        have hb : s'[i.toNat]? = some u := by
          rw [← hu8]
          simp [getElem?_def]
          rfl
        exact NxR.pv_of (v' := .int .u8 u.toNat) (by simp [Instr.index, asIntOf, run_underlying hu, h0, hb]) (VR.int' _ _ _)
  · cases e

theorem vbytes_run (f : Value → ByteArray → Sem (ForInStep ByteArray)) (hf : ∀ n s, f (.int .u8 n) s = pure (ForInStep.yield (s.push (UInt8.ofNat n.toNat)))) : ∀ (l : List V) (bs : List Nat), vbytes l = some bs → ∀ (l' : List Value), VRs σ l l' → ∀ (s0 : ByteArray) (w : World),
    ∃ s' : ByteArray, (forIn l' s0 f).run P w = .ok s' w ∧ s'.data.toList.map UInt8.toNat = s0.data.toList.map UInt8.toNat ++ bs
  | [], bs, e, l', h, s0, w => by
    simp [vbytes] at e; subst e
    simp only [VRs] at h; subst h
    exact ⟨s0, by simp, by simp⟩
  | v :: r, bs, e, l', h, s0, w => by
    simp only [VRs] at h
    obtain ⟨v', l2, rfl, h1, h2⟩ := h
    unfold vbytes at e
    split at e
    · rename_i heq; cases heq
    · rename_i n r' heq
      cases heq
      simp only [VR] at h1; subst h1
      split at e
      case isFalse => cases e
      rename_i hn
      cases hr : vbytes r with
      | none => simp [hr] at e
      | some bs' =>
        simp [hr] at e; subst e
        obtain ⟨s', h3, h4⟩ := vbytes_run f hf r bs' hr l2 h2 (s0.push (UInt8.ofNat n)) w
        refine ⟨s', ?_, ?_⟩
        · rw [List.forIn_cons]
          have := hf (Int.ofNat n) s0
          rw [this]
          simpa using h3
        · rw [h4]
          simp [ByteArray.data_push, Nat.mod_eq_of_lt hn]
    · cases e

theorem ok_convert (hr : HR σ base H w) {s d : TypeId} {x : V} {nx : Nx} (e : oConvert P H s d x = some nx) {x' : Value} (hx : VR σ x x') :
    NxR σ base H w ((valN (convert s d x')).run P w) nx := by
  unfold oConvert at e
  split at e
  · rename_i ds k kk n hs hd
    simp only [VR] at hx; subst hx
    cases e
    exact NxR.pv_of (v' := .int k (k.wrap n)) (by simp [convert, run_underlying hs, run_underlying hd, Conv.intToInt]) (VR.int' _ _ _)
  · rename_i ds l hs hd
    simp only [VR] at hx
    obtain ⟨s', rfl, hs'⟩ := hx
    cases e
    exact NxR.pv_of (v' := .string s') (by simp [convert, run_underlying hs, run_underlying hd]) (by simp only [VR]; exact ⟨_, rfl, hs'⟩)
  · rename_i ds e' l hs hd
    simp only [VR] at hx
    obtain ⟨s', rfl, hs'⟩ := hx
    split at e
    case h_2 => cases e
    rename_i hu8
    split at e
    case isFalse => cases e
    rename_i hc
    cases e
    have hlen : s'.size = l.length := by rw [← hs']; simp
    obtain ⟨hc1, hc2⟩ := hc
    -- the new row
    generalize hcap : (Question.appendCap s'.size 0 e').cut (w.tape w.drawn (.appendCap s'.size 0 e')) = cap
    have hcap1 : s'.size ≤ cap := by
      rw [← hcap]
      simp only [Question.cut]
      omega
    generalize hcs : (s'.data.map (fun b => Value.int .u8 b.toNat) ++ Array.replicate (cap - s'.size) (Value.int .u8 0)) = cs
    have hcsz : cs.size = cap := by
      rw [← hcs]; simp
      have : s'.data.size = s'.size := rfl
      omega
    have hsh : (w.drew.alloc (.cells cs e')).shape? w.heap.size = some (e', cs.size) := by
      have := heap_alloc_new w.drew (.cells cs e')
      simp only [World.size_drew] at this
      unfold World.shape?; rw [this]
    have hmark : (markStringish ⟨w.heap.size, 0, none⟩).run P (w.drew.alloc (.cells cs e')) = .ok () ((w.drew.alloc (.cells cs e')).freeze ⟨w.heap.size, cs.size, none⟩ 1) := by
      simp [markStringish, hsh]
    have hrun : (convert s d (.string s')).run P w = .ok (.slice (some ⟨w.heap.size, 0, none⟩) s'.size cap) ((w.drew.alloc (.cells cs e')).freeze ⟨w.heap.size, cs.size, none⟩ 1) := by
      simp only [convert, Sem.run_bind, run_underlying hs, run_underlying hd, Result.andThen_ok, run_underlying hu8, Conv.stringToBytes, run_choose, Question.forced, Bool.false_eq_true, if_false, hcap, newRow, run_newObj, Sem.run_pure]
      rw [hcs]
      show ((markStringish ⟨w.heap.size, 0, none⟩).run P (w.drew.alloc (.cells cs e'))).andThen _ = _
      rw [hmark]; rfl
    have hw : NewRow w ((w.drew.alloc (.cells cs e')).freeze ⟨w.heap.size, cs.size, none⟩ 1) cs := by
      refine ⟨by simp [World.freeze], fun r hr => ?_, ⟨e', cs.size, cs.size + 1, ?_, fun i hi => by omega⟩, rfl, rfl, rfl⟩
      · simp only [World.freeze]
        rw [if_neg (by omega)]
        simp only [Array.getElem?_modify]
        rw [if_neg (by omega)]
        exact Below.heap_alloc w.drew _ r hr
      · simp only [World.freeze]
        rw [if_neg (by omega)]
        simp only [Array.getElem?_modify, if_true]
        have := heap_alloc_new w.drew (.cells cs e')
        simp only [World.size_drew] at this
        rw [this]; rfl
    have hc : VRs σ (bytesV l) (cs.toList.take (bytesV l).length) := by
      have h1 : cs.toList.take (bytesV l).length = s'.data.toList.map (fun b => Value.int .u8 b.toNat) := by
        rw [← hcs]
        simp only [bytesV, List.length_map, Array.toList_append, Array.toList_map, ← hlen]
        rw [List.take_append_of_le_length (by simp)]
        rw [List.take_of_length_le (by simp)]
      rw [h1, ← hs', bytesV]
      refine VRs.of_get (by simp) fun i v ev => ?_
      simp only [List.getElem?_map] at ev ⊢
      cases hu : s'.data.toList[i]? with
      | none => simp [hu] at ev
      | some u => simp [hu] at ev; subst ev; exact ⟨_, rfl, VR.int' _ _ _⟩
    have hsim := hr.growNew hw hc
    refine ⟨_, _, _, .slice (some ⟨w.heap.size, 0, none⟩) s'.size cap, by simp [valN, hrun], .inl rfl, ?_, hsim⟩
    simp only [VR]
    refine ⟨_, cap, Sg.ins_self _ _ _, by rw [hlen], Nat.le_refl _, by omega, by show 0 + cap * 1 ≤ cs.size; omega⟩
  · rename_i e' a len cap ex hs hd
    split at e
    case h_2 => cases e
    rename_i hu8
    cases a with
    | none =>
      simp only [VR] at hx
      obtain ⟨rfl, _⟩ := hx
      cases e
      exact NxR.pv_of (v' := .string .empty) (by simp [convert, run_underlying hs, run_underlying hd, run_underlying hu8, Conv.bytesToString]) (by simp only [VR]; exact ⟨_, rfl, rfl⟩)
    | some p =>
      simp only [VR] at hx
      obtain ⟨L, c', hL, rfl, _⟩ := hx
      cases hl : H.loadN p.1 p.2 len with
      | none => simp [hl] at e
      | some l =>
        cases hv : vbytes l with
        | none => simp [hl, hv] at e
        | some bs =>
          simp [hl, hv] at e; subst e
          obtain ⟨h1, l', h2, h3⟩ := hr.loadN hL hl P
          obtain ⟨s', h4, h5⟩ := vbytes_run (P := P) (fun c s => (match c with
            | Value.int IntKind.u8 n => pure (ForInStep.yield (s.push (UInt8.ofNat n.toNat)))
            | _ => do
              let _ : Unit ← stuck "bytesToString: byte expected"
              pure (ForInStep.yield s))) (fun _ _ => rfl) l bs hv l' h3 .empty w
          refine NxR.pv_of (v' := .string s') ?_ (by simp only [VR]; exact ⟨_, rfl, by simpa using h5⟩)
          simp only [convert, Sem.run_bind, run_underlying hs, run_underlying hd, Result.andThen_ok, run_underlying hu8, Conv.bytesToString, h2]
          rw [← Array.forIn_toList]
          show ((Sem.run P (forIn l' ByteArray.empty _) w).andThen _) = _
          exact congrArg (fun r => Result.andThen r fun a w' => Sem.run P (pure (Value.string a)) w') h4
  · cases e
end
end Go.Am
