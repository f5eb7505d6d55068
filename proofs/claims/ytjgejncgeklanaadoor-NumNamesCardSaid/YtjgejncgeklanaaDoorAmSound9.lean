/-
  A part of the proof that an abstract machine, which runs a program without orders, room or tape, says what the model does. No condition beside what each theorem states.
-/
import Derived.Test.YtjgejncgeklanaaDoorAmSound8
namespace Go.Am
open Go Go.RowKit

section
variable {σ : Sg} {base : Nat} {H : AH} {w : World} {P : Program}

theorem bytesV_ok {s : ByteArray} {l : List Nat} (hs : s.data.toList.map UInt8.toNat = l) (σ : Sg) : VRs σ (bytesV l) (s.data.map fun b => Value.int .u8 b.toNat).toList := by
  rw [← hs, bytesV]
  refine VRs.of_get (by simp) fun i v ev => ?_
  simp only [List.getElem?_map, Array.toList_map] at ev ⊢
  cases hu : s.data.toList[i]? with
  | none => simp [hu] at ev
  | some u => simp [hu] at ev; subst ev; exact ⟨_, rfl, VR.int' _ _ _⟩

theorem rep_size (z : Array Value) (n : Nat) : ((Array.range (n * z.size)).map (fun i => z[i % z.size]!)).size = n * z.size := by simp

theorem ok_append (hr : HR σ base H w) {ats : Array TypeId} {t xt ty : TypeId} (h0 : ats[0]? = some t) (h1 : ats[1]? = some xt) {s x : V} {nx : Nx} (e : appendBuiltin P H t xt s x = some nx) {s' x' : Value} (hs : VR σ s s') (hx : VR σ x x') :
    NxR σ base H w ((valN (Builtin.append_ ats ty #[s', x'])).run P w) nx := by
  unfold appendBuiltin at e
  split at e
  case h_2 => cases e
  rename_i el a len cap ex xd ht hxt
  -- what oAppend has at hand
  have hq : ∀ {n : Nat} {new : List V}, oAppend P H el a len cap ex n new = some nx → ∃ size bytes z, sizeT P el = some size ∧ bytesT P el = some bytes ∧ zeroT P el = some z ∧ z.cells.length = size := by
    intro n new he
    unfold oAppend at he
    split at he
    · rename_i size bytes z h2 h3 h4
      split at he
      · rename_i h5; exact ⟨size, bytes, z, h2, h3, h4, h5.1⟩
      · cases he
    · cases he
  split at e
  · -- zeros
    rename_i kx k l
    simp only [VR] at hx; subst hx
    split at e
    case isFalse => cases e
    rename_i hl
    cases hz : zeroT P el with
    | none => simp [hz] at e
    | some z =>
    simp only [hz, Option.bind_some] at e
    split at e
    case isFalse => cases e
    rename_i hzs
    obtain ⟨size, bytes, z2, h2, h3, h4, h5⟩ := hq e
    rw [hz] at h4; cases h4
    obtain ⟨z', h6, h7⟩ := zeroT_run hz σ w
    obtain ⟨z'', h6', h7'⟩ := zeroT_run hz σ w.drew
    have hzz : z'' = z' := by
      unfold zeroT at hz
      cases hi : P.info? el with
      | none => simp [hi] at hz
      | some i =>
        cases hzi : i.zero with
        | none => simp [hi, hzi] at hz
        | some zv =>
          simp [zeroValue, typeInfo, hi, hzi] at h6 h6'
          rw [← h6, ← h6']
    subst hzz
    have hzl := h7.cells.length
    simp only [Array.length_toList] at hzl
    have hrep : VRs σ (repL z.cells l.toNat) ((Array.range (l.toNat * z''.cells.size)).map (fun i => z''.cells[i % z''.cells.size]!)).toList := by
      by_cases h : 0 < z.cells.length
      · exact rep_ok h7.cells l.toNat (.inl h)
      · have : z.cells.length = 0 := by omega
        have h8 : z''.cells.size = 0 := by omega
        have h9 : z.cells = [] := List.length_eq_zero_iff.1 this
        have h10 : ∀ n, repL ([] : List V) n = [] := by
          intro n; induction n with
          | zero => rfl
          | succ n ih => simp [repL, ih]
        rw [h9, h10]
        simp [h8, VRs]
    refine oAppend_ok hr e hs (fun s => Builtin.append_ ats ty #[s, .int k l]) hrep h2 h3 hz ?_ ?_
    · intro b c' hle
      have hfit : l.toNat * bytes ≤ 1000000000000 := by
        have := hzs.2
        simpa [h3] using this
      exact append_room_z ty h0 h1 ht hxt h2 h3 hl.1 hl.2 hfit h6 (by omega) hle
    · intro b c' old hfo hlt hb1 hfit hneed hzs2
      obtain ⟨cap', h8, h9⟩ := append_grow_z (k := k) ty h0 h1 ht hxt h2 h3 hl.1 hl.2 hfo hlt hb1 hfit hneed h6' (by omega)
      refine ⟨cap', _, el, h8, ?_, h9⟩
      simp only [Builtin.zeroCells, Array.size_map, Array.size_range]; congr 1; omega
  · -- a string's bytes
    rename_i l
    simp only [VR] at hx
    obtain ⟨sb, rfl, hsb⟩ := hx
    split at e
    case isFalse => cases e
    rename_i hs1
    obtain ⟨size, bytes, z, h2, h3, h4, h5⟩ := hq e
    rw [h2] at hs1; cases hs1
    obtain ⟨z'', h6', h7'⟩ := zeroT_run h4 σ w.drew
    have hzl := h7'.cells.length
    simp only [Array.length_toList] at hzl
    have hlen : l.length = sb.size := by rw [← hsb]; simp
    have hfc : ∀ w2 : World, (Builtin.firstCells 1 l.length (.string sb)).run P w2 = .ok (sb.data.map fun b => Value.int .u8 b.toNat) w2 := by
      intro w2
      simp only [Builtin.firstCells, Sem.run_pure]
      congr 2
      rw [hlen]
      have : sb.extract 0 sb.size = sb := by
        apply ByteArray.ext; simp [ByteArray.data_extract]
      rw [this]
    refine oAppend_ok hr e hs (fun s => Builtin.append_ ats ty #[s, .string sb]) (bytesV_ok hsb σ) h2 h3 h4 ?_ ?_
    · intro b c' hle
      exact append_room ty h0 h1 ht hxt h2 (.inl rfl) (by simp [Builtin.lenOf, hlen]) (hfc w) hle
    · intro b c' old hfo hlt hb1 hfit hneed hzs2
      obtain ⟨cap', h8, h9⟩ := append_grow (x := .string sb) (n := l.length) ty h0 h1 ht hxt h2 h3 (.inl rfl) (by simp [Builtin.lenOf, hlen]) hfo (hfc w.drew) hlt hb1 hfit h6'
      refine ⟨cap', _, el, h8, ?_, h9⟩
      simp only [Builtin.zeroCells, Array.size_map, Array.size_range]; congr 1; omega
  · -- nothing of a nil slice
    rename_i e' n c x2
    simp only [VR] at hx
    obtain ⟨rfl, rfl, rfl, rfl⟩ := hx
    obtain ⟨size, bytes, z, h2, h3, h4, h5⟩ := hq e
    obtain ⟨z'', h6', h7'⟩ := zeroT_run h4 σ w.drew
    have hzl := h7'.cells.length
    simp only [Array.length_toList] at hzl
    refine oAppend_ok hr e hs (fun s => Builtin.append_ ats ty #[s, .slice none 0 0]) (newA := #[]) (by simp [VRs]) h2 h3 h4 ?_ ?_
    · intro b c' hle
      exact append_room ty h0 h1 ht hxt h2 (.inr ⟨e', rfl⟩) (by simp [Builtin.lenOf]) (by simp [Builtin.firstCells]) hle
    · intro b c' old hfo hlt hb1 hfit hneed hzs2
      obtain ⟨cap', h8, h9⟩ := append_grow (x := .slice none 0 0) (n := 0) (new := #[]) ty h0 h1 ht hxt h2 h3 (.inr ⟨e', rfl⟩) (by simp [Builtin.lenOf]) hfo (by simp [Builtin.firstCells]) hlt hb1 hfit h6'
      refine ⟨cap', _, el, h8, ?_, h9⟩
      simp only [Builtin.zeroCells, Array.size_map, Array.size_range]; congr 1; omega
  · -- of a slice
    rename_i e' b o n c x2
    simp only [VR] at hx
    obtain ⟨L, c', hL, rfl, _⟩ := hx
    cases hsz : sizeT P el with
    | none => simp [hsz] at e
    | some size0 =>
    cases hld : H.loadN b o (n * size0) with
    | none => simp [hsz, hld] at e
    | some new =>
    simp only [hsz, hld, Option.bind_some] at e
    obtain ⟨size, bytes, z, h2, h3, h4, h5⟩ := hq e
    rw [hsz] at h2; cases h2
    obtain ⟨z'', h6', h7'⟩ := zeroT_run h4 σ w.drew
    have hzl := h7'.cells.length
    simp only [Array.length_toList] at hzl
    obtain ⟨new', hn1, hn2, hn3, hn4⟩ := firstCells_ok (P := P) (a := some (b, o)) hr (by simpa [AH.oldCells] using hld) ⟨L, hL, rfl⟩ n c'
    refine oAppend_ok hr e hs (fun s => Builtin.append_ ats ty #[s, .slice (some ⟨L.r, L.s + o, none⟩) n c']) hn1 hsz h3 h4 ?_ ?_
    · intro b c' hle
      exact append_room ty h0 h1 ht hxt hsz (.inr ⟨e', rfl⟩) (by simp [Builtin.lenOf]) hn4 hle
    · intro b c' old hfo hlt hb1 hfit hneed hzs2
      obtain ⟨cap', h8, h9⟩ := append_grow ty h0 h1 ht hxt hsz h3 (.inr ⟨e', rfl⟩) (by simp [Builtin.lenOf]) hfo hn3 hlt hb1 hfit h6'
      refine ⟨cap', _, el, h8, ?_, h9⟩
      simp only [Builtin.zeroCells, Array.size_map, Array.size_range]; congr 1; omega
  · cases e
end
end Go.Am
