/-
  A part of the proof that an abstract machine, which runs a program without orders, room or tape, says what the model does. No condition beside what each theorem states.
-/
import Derived.Test.YtjgejncgeklanaaDoorAmSound12
namespace Go.Am
open Go Go.RowKit

section
variable {σ : Sg} {base : Nat} {H : AH} {w : World} {P : Program}

theorem new_le (hr : HR σ base H w) (L : Loc) : Le σ (σ.ins H.next L) := by
  intro b M e
  have := hr.dom b M e
  show (if b = H.next then _ else σ b) = _
  rw [if_neg (by omega)]; exact e

theorem ok_range (hr : HR σ base H w) {t : TypeId} {x : V} {nx : Nx} (e : oRange P H t x = some nx) {x' : Value} (hx : VR σ x x') : NxR σ base H w ((valN (Instr.range t x')).run P w) nx := by
  unfold oRange at e
  split at e
  · rename_i s ht
    simp only [VR] at hx
    obtain ⟨sb, rfl, hs⟩ := hx
    cases e
    refine ⟨.stringIter sb 0, 1, .pointer (some ⟨w.heap.size, 0, none⟩), by simp [valN, Instr.range, run_underlying ht], fun _ => rfl, fun _ _ _ _ => ⟨hr.base, rfl, sb, heap_alloc_new w _, hs⟩, fun b => VR.newPtr _ _ _ rfl⟩
  · rename_i ht
    simp only [VR] at hx; subst hx
    cases e
    refine ⟨.mapIter none 0 #[] 0, 1, .pointer (some ⟨w.heap.size, 0, none⟩), by simp [valN, Instr.range, run_underlying ht], fun _ => rfl, fun _ _ _ _ => ⟨hr.base, rfl, none, heap_alloc_new w _, rfl⟩, fun b => VR.newPtr _ _ _ rfl⟩
  · rename_i m ht
    simp only [VR] at hx
    obtain ⟨L, hL, rfl⟩ := hx
    split at e
    case h_2 => cases e
    rename_i es clock hg
    cases e
    obtain ⟨es', h1, h2, h3⟩ := map_obj hr hL hg
    refine ⟨.mapIter (some L.r) clock #[] clock, 1, .pointer (some ⟨w.heap.size, 0, none⟩), by simp [valN, Instr.range, run_underlying ht, h3], fun _ => rfl, fun _ _ _ hle => ⟨hr.base, rfl, some L.r, heap_alloc_new w _, ⟨L, hle _ _ hL, rfl⟩⟩, fun b => VR.newPtr _ _ _ rfl⟩
  · cases e

theorem decode_ascii (s : ByteArray) (pos : Nat) (l : List Nat) (hs : s.data.toList.map UInt8.toNat = l) {c : Nat} (h : l[pos]? = some c) (hc : c < 128) : Utf8.decode s pos = (c, 1) := by
  rw [← hs, List.getElem?_map] at h
  cases hu : s.data.toList[pos]? with
  | none => simp [hu] at h
  | some u =>
    simp [hu] at h
    have h1 : s.get! pos = u := by
      have h2 : s.data[pos]? = some u := by simpa using hu
      show s.data[pos]! = u
      rw [getElem!_def, h2]
    unfold Utf8.decode
    simp only [Nat.add_zero, h1, h]
    rw [if_pos hc]

theorem getObj_run (P : Program) (w : World) (r : Nat) (o : Obj) (h : w.heap[r]? = some o) (hnc : ∀ c e f, o ≠ .cells c e f) : (getObj r).run P w = .ok o w := by
  cases o with
  | cells c e f => exact absurd rfl (hnc _ _ _)
  | _ => simp [getObj, Sem.run, h]

theorem ok_next (hr : HR σ base H w) {it : V} {s : Bool} {nx : Nx} (e : oNext H it s = some nx) {it' : Value} (hi : VR σ it it') (ty : TypeId) : NxR σ base H w ((valN (Instr.next it' s ty)).run P w) nx := by
  unfold oNext at e
  split at e
  case h_2 => cases e
  rename_i r
  simp only [VR] at hi
  obtain ⟨L, hL, rfl⟩ := hi
  split at e
  · -- a string
    rename_i st pos hg
    obtain ⟨hb, hs0, sb, h1, h2⟩ := hr.obj r L _ hL hg
    have hgo := getObj_run P w L.r _ h1 (by intros; simp)
    have hlen : st.length = sb.size := by rw [← h2]; simp
    split at e
    · rename_i c hc
      split at e
      case isFalse => cases e
      rename_i hlt
      cases e
      have hpos : pos < sb.size := by rw [← hlen]; exact (List.getElem?_eq_some_iff.1 hc).1
      have hdec := decode_ascii sb pos st h2 hc hlt
      have hset : ∀ o, (setObj L.r o).run P w = .ok () (World.putO w L.r o) := fun o => run_setObj' P w L.r o _ h1 (by intros; simp)
      refine ⟨σ, World.putO w L.r (.stringIter sb (pos + 1)), .value (.tuple #[.bool true, goInt pos, .int .i32 c]), .tuple #[.bool true, goInt pos, .int .i32 c], ?_, .inl rfl, ?_, ?_⟩
      · simp [valN, Instr.next, hs0, hgo, hpos, hdec, hset]
      · simp only [VR]; exact ⟨_, rfl, VRs.cons (VR.bool' _ _) (VRs.cons (VR.int' _ _ _) (VRs.cons (VR.int' _ _ _) VRs.nil))⟩
      · refine hr.putObj hL hg rfl (fun _ => rfl) ⟨hb, hs0, sb, ?_, h2⟩
        rw [heap_putO, if_pos ⟨rfl, hr.lt r L hL⟩]
    · split at e
      case isFalse => cases e
      rename_i hle
      cases e
      have hpos : ¬ pos < sb.size := by omega
      refine NxR.pv_of (v' := .tuple #[.bool false]) ?_ (by simp only [VR]; exact ⟨_, rfl, VRs.cons (VR.bool' _ _) VRs.nil⟩)
      simp [Instr.next, hs0, hgo, hpos]
  · -- a nil map
    rename_i since seen last hg
    obtain ⟨hb, hs0, m', h1, h2⟩ := hr.obj r L _ hL hg
    simp only at h2; subst h2
    have hgo := getObj_run P w L.r _ h1 (by intros; simp)
    cases e
    refine NxR.pv_of (v' := .tuple #[.bool false]) ?_ (by simp only [VR]; exact ⟨_, rfl, VRs.cons (VR.bool' _ _) VRs.nil⟩)
    simp [Instr.next, hs0, hgo]
  · -- a map
    rename_i m since seen last hg
    obtain ⟨hb, hs0, m', h1, M, hM, rfl⟩ := hr.obj r L _ hL hg
    have hgo := getObj_run P w L.r _ h1 (by intros; simp)
    split at e
    case h_2 => cases e
    rename_i es clock hgm
    obtain ⟨es', h4, h5, h6⟩ := map_obj hr hM hgm
    have hset : ∀ o, (setObj L.r o).run P w = .ok () (World.putO w L.r o) := fun o => run_setObj' P w L.r o _ h1 (by intros; simp)
    split at e
    · cases e
      simp only [EsR] at h5
      have h5' : es' = #[] := by apply Array.ext'; simpa using h5
      subst h5'
      refine NxR.pv_of (v' := .tuple #[.bool false]) ?_ (by simp only [VR]; exact ⟨_, rfl, VRs.cons (VR.bool' _ _) VRs.nil⟩)
      simp [Instr.next, hs0, hgo, h6, Question.forced]
    · rename_i k v born
      split at e
      case isFalse => cases e
      rename_i hlt
      cases e
      simp only [EsR] at h5
      obtain ⟨en, l2, h7, h8, h9, h10, h11⟩ := h5
      subst h11
      have h5' : es' = #[en] := by apply Array.ext'; simpa using h7
      subst h5'
      refine ⟨σ, World.putO w L.r (.mapIter (some M.r) since #[en.born] clock), .value (.tuple #[.bool true, en.key, en.val]), .tuple #[.bool true, en.key, en.val], ?_, .inl rfl, ?_, ?_⟩
      · have hb1 : decide (en.born < since) = true := by simp [h10, hlt]
        have hb2 : en.born < since := by omega
        have hb3 : ¬ since ≤ en.born := by omega
        simp [valN, Instr.next, hs0, hgo, h6, Question.forced, hb2, hb3, hset]
      · simp only [VR]; exact ⟨_, rfl, VRs.cons (VR.bool' _ _) (VRs.cons h8 (VRs.cons h9 VRs.nil))⟩
      · refine hr.putObj hL hg rfl (fun _ => rfl) ⟨hb, hs0, some M.r, ?_, M, hM, rfl⟩
        rw [heap_putO, if_pos ⟨rfl, hr.lt r L hL⟩, h10]
    · rename_i k v born b
      split at e
      case isFalse => cases e
      rename_i hc
      cases e
      obtain ⟨rfl, hlast⟩ := hc
      simp only [EsR] at h5
      obtain ⟨en, l2, h7, h8, h9, h10, h11⟩ := h5
      subst h11
      have h5' : es' = #[en] := by apply Array.ext'; simpa using h7
      subst h5'
      refine NxR.pv_of (v' := .tuple #[.bool false]) ?_ (by simp only [VR]; exact ⟨_, rfl, VRs.cons (VR.bool' _ _) VRs.nil⟩)
      simp [Instr.next, hs0, hgo, h6, Question.forced, h10]
      exact hlast
    · cases e
  · cases e
end
end Go.Am
