/-
  A part of the proof that an abstract machine, which runs a program without orders, room or tape, says what the model does. No condition beside what each theorem states.
-/
import Derived.Test.YtjgejncgeklanaaDoorAmSound13
namespace Go.Am
open Go Go.RowKit

section
variable {σ : Sg} {base : Nat} {H : AH} {w : World} {P : Program}

theorem ok_entry (hr : HR σ base H w) {it : V} {nx : Nx} (e : oEntry H it = some nx) {it' : Value} (hi : VR σ it it') : NxR σ base H w ((valN (Instr.entry it')).run P w) nx := by
  unfold oEntry at e
  split at e
  case h_2 => cases e
  rename_i r
  simp only [VR] at hi
  obtain ⟨L, hL, rfl⟩ := hi
  split at e
  case h_2 => cases e
  rename_i m since st last hg
  obtain ⟨hb, hs0, m', h1, M, hM, rfl⟩ := hr.obj r L _ hL hg
  have hgo := getObj_run P w L.r _ h1 (by intros; simp)
  split at e
  case h_2 => cases e
  rename_i k v born clock hgm
  obtain ⟨es', h4, h5, h6⟩ := map_obj hr hM hgm
  split at e
  case isFalse => cases e
  rename_i hc
  obtain ⟨rfl, rfl⟩ := hc
  cases e
  simp only [EsR] at h5
  obtain ⟨en, l2, h7, h8, h9, h10, h11⟩ := h5
  subst h11
  have h5' : es' = #[en] := by apply Array.ext'; simpa using h7
  subst h5'
  refine NxR.pv_of (v' := .tuple #[en.key, en.val]) ?_ (by simp only [VR]; exact ⟨_, rfl, VRs.cons h8 (VRs.cons h9 VRs.nil)⟩)
  simp [Instr.entry, hs0, hgo, h6, h10]

theorem ok_assert {x : V} {xt a : TypeId} {ok : Bool} {nx : Nx} (e : oAssert P x a ok = some nx) {x' : Value} (hx : VR σ x x') : NxR σ base H w ((valN (Instr.typeAssert x' xt a ok)).run P w) nx := by
  have yes : ∀ (v : V) (v' : Value), VR σ v v' → VR σ (if ok then .tuple [v, .bool true] else v) (if ok then .tuple #[v', .bool true] else v') := by
    intro v v' hv
    cases ok
    · exact hv
    · simp only [if_true, VR]; exact ⟨_, rfl, VRs.cons hv (VRs.cons (VR.bool' _ _) VRs.nil)⟩
  have no : (if ok then (zeroT P a).map fun z => Nx.pv (.tuple [z, .bool false]) else none) = some nx → ok = true ∧ ∃ z z', (zeroValue a).run P w = .ok z' w ∧ nx = .pv (.tuple [z, .bool false]) ∧ VR σ (.tuple [z, .bool false]) (.tuple #[z', .bool false]) := by
    intro he
    cases ok with
    | false => simp at he
    | true =>
      cases hz : zeroT P a with
      | none => simp [hz] at he
      | some z =>
        simp [hz] at he
        obtain ⟨z', h1, h2⟩ := zeroT_run hz σ w
        exact ⟨rfl, z, z', h1, he.symm, by simp only [VR]; exact ⟨_, rfl, VRs.cons h2 (VRs.cons (VR.bool' _ _) VRs.nil)⟩⟩
  unfold oAssert at e
  simp only at e
  split at e
  · rename_i ha
    simp only [VR] at hx; subst hx
    obtain ⟨rfl, z, z', h1, rfl, h2⟩ := no e
    exact NxR.pv_of (v' := .tuple #[z', .bool false]) (by simp [Instr.typeAssert, run_underlying ha, h1]) h2
  · rename_i want t v ha
    have hx0 := hx
    simp only [VR] at hx
    obtain ⟨v', rfl, hv⟩ := hx
    cases hi : P.info? t with
    | none => simp [hi] at e
    | some i =>
      simp only [hi, Option.bind_some] at e
      split at e
      · rename_i hm
        cases e
        exact NxR.pv_of (v' := if ok then .tuple #[.iface t v', .bool true] else .iface t v') (by simp [Instr.typeAssert, run_underlying ha, typeInfo, hi, hm]) (yes _ _ hx0)
      · rename_i q hm
        obtain ⟨rfl, z, z', h1, rfl, h2⟩ := no e
        exact NxR.pv_of (v' := .tuple #[z', .bool false]) (by simp [Instr.typeAssert, run_underlying ha, typeInfo, hi, hm, h1]) h2
  · rename_i d hd ha
    simp only [VR] at hx; subst hx
    obtain ⟨rfl, z, z', h1, rfl, h2⟩ := no e
    refine NxR.pv_of (v' := .tuple #[z', .bool false]) ?_ h2
    cases d <;> first | exact absurd rfl (hd _) | simp [Instr.typeAssert, run_underlying ha, h1]
  · rename_i d t v hd ha
    simp only [VR] at hx
    obtain ⟨v', rfl, hv⟩ := hx
    split at e
    · rename_i ht
      cases e
      refine NxR.pv_of (v' := if ok then .tuple #[v', .bool true] else v') ?_ (yes _ _ hv)
      cases d <;> first | exact absurd rfl (hd _) | simp [Instr.typeAssert, run_underlying ha, ht]
    · rename_i ht
      obtain ⟨rfl, z, z', h1, rfl, h2⟩ := no e
      refine NxR.pv_of (v' := .tuple #[z', .bool false]) ?_ h2
      cases d <;> first | exact absurd rfl (hd _) | simp [Instr.typeAssert, run_underlying ha, ht, h1]
  · cases e

theorem i64_id2 {l : Int} (h0 : 0 ≤ l) (h1 : l ≤ 1000000000) : IntKind.i64.wrap l = l := i64_id h0 h1

theorem ok_makeSlice (hr : HR σ base H w) {t : TypeId} {l c : V} {nx : Nx} (e : oMakeSlice P t l c = some nx) {l' c' : Value} (hl : VR σ l l') (hc : VR σ c c') : NxR σ base H w ((valN (Instr.makeSlice t l' c')).run P w) nx := by
  unfold oMakeSlice at e
  split at e
  case h_2 => cases e
  rename_i el kl l kc c ht
  simp only [VR] at hl hc; subst hl hc
  split at e
  case h_2 => cases e
  rename_i z bytes size hz hb hs
  split at e
  case isFalse => cases e
  rename_i hcond
  obtain ⟨h0, h1, h2, h3, h4⟩ := hcond
  cases e
  obtain ⟨z', h5, h6⟩ := zeroT_run hz σ w
  have hzl := h6.cells.length
  simp only [Array.length_toList] at hzl
  unfold bytesT at hb
  cases hi : P.info? el with
  | none => simp [hi] at hb
  | some i =>
  simp [hi] at hb
  have hwl := i64_id h0 (by omega : l ≤ 1000000000)
  have hwc := i64_id (by omega : 0 ≤ c) h2
  have htl : ∀ n : Int, 0 ≤ n → n.toNat * bytes ≤ 1000000000000 → ¬ (n < 0 ∨ 281474976710656 < (i.bytes : Int) * n) := by
    intro n hn hfit
    have : (i.bytes : Int) * n = ((n.toNat * bytes : Nat) : Int) := by rw [← hb, Int.mul_comm]; simp [Int.toNat_of_nonneg hn]
    rw [this]; omega
  have hc1 := htl c (by omega) h3
  have hneg : ¬ (c < 0) := by omega
  have hbig : ¬ (281474976710656 < (i.bytes : Int) * c) := by omega
  have hl0 : ¬ l < 0 := by omega
  have hlc : ¬ c < l := by omega
  have hrep : VRs σ (repL z.cells c.toNat) ((Array.range (c.toNat * size)).map (fun i => (if c.toNat * size = 0 then #[] else z'.cells)[i % (if c.toNat * size = 0 then #[] else z'.cells).size]!)).toList := by
    by_cases h : c.toNat * size = 0
    · have : repL z.cells c.toNat = [] := by
        apply List.length_eq_zero_iff.1
        rw [repL_length, h4]; exact h
      rw [this]; simp [h, VRs]
    · simp only [h, if_false]
      have hpos : 0 < z.cells.length := by
        rcases Nat.eq_zero_or_pos size with h7 | h7
        · rw [h7] at h; simp at h
        · omega
      have := rep_ok h6.cells c.toNat (.inl hpos)
      rw [show z'.cells.size = size by omega] at this ⊢
      exact this
  refine ⟨.cells _ el, _, .slice (some ⟨w.heap.size, 0, none⟩) l.toNat c.toNat, ?_, fun _ => rfl, new_cells hr el hrep, ?_⟩
  · by_cases h : c.toNat * size = 0
    · simp [valN, Instr.makeSlice, run_underlying ht, asInt, asIntOf, typeInfo, hi, hwl, hwc, hneg, hbig, hl0, hlc, sizeT_run hs, h, newRow]
    · simp [valN, Instr.makeSlice, run_underlying ht, asInt, asIntOf, typeInfo, hi, hwl, hwc, hneg, hbig, hl0, hlc, sizeT_run hs, h, newRow, h5]
  · intro b
    simp only [VR]
    exact ⟨_, _, Sg.ins_self _ _ _, rfl, by omega, rfl⟩
end
end Go.Am
