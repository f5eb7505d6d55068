/-
  A part of the proof that an abstract machine, which runs a program without orders, room or tape, says what the model does. No condition beside what each theorem states.
-/
import Derived.Test.YtjgejncgeklanaaDoorAmSound4
namespace Go.Am
open Go Go.RowKit

section
variable {σ : Sg} {base : Nat} {H : AH} {w : World} {P : Program}

theorem asNat_ok {v : V} {y n : Nat} (e : asNat v y = some n) {v' : Value} (hv : VR σ v v') (c : BoundsCode) (w : World) : (Instr.sliceBound v' y c).run P w = .ok n w ∧ n ≤ y := by
  unfold asNat at e
  split at e
  · rename_i k i
    split at e
    · rename_i hi
      cases e
      simp only [VR] at hv; subst hv
      refine ⟨?_, by omega⟩
      simp [Instr.sliceBound, asIntOf, hi]
    · cases e
  · cases e

theorem bytes_drop_take {s : ByteArray} {l : List Nat} (hs : s.data.toList.map UInt8.toNat = l) (a b : Nat) : (s.extract a b).data.toList.map UInt8.toNat = (l.drop a).take (b - a) := by
  rw [← hs]
  simp [ByteArray.data_extract, List.extract_eq_take_drop]

/-- the bounds that are given, as the model has them -/
theorem sliceBounds_ok {isSlice : Bool} {len cap m h l : Nat} {lo hi mx : Option V} {lo' hi' mx' : Option Value}
    (hlo : ∀ v, lo = some v → ∃ v', lo' = some v' ∧ VR σ v v') (hlo0 : lo = none → lo' = none)
    (hhi : ∀ v, hi = some v → ∃ v', hi' = some v' ∧ VR σ v v') (hhi0 : hi = none → hi' = none)
    (hmx : ∀ v, mx = some v → ∃ v', mx' = some v' ∧ VR σ v v') (hmx0 : mx = none → mx' = none)
    (em : optNat mx cap cap = some m) (eh : optNat hi len m = some h) (el : optNat lo 0 h = some l) (hmh : mx.isSome → hi.isSome) (w : World) :
    (Instr.sliceBounds isSlice len cap lo' hi' mx').run P w = .ok (l, h, m) w := by
  unfold optNat at em eh el
  cases mx with
  | none =>
    have h0 := hmx0 rfl; subst h0
    simp at em; subst em
    cases hi with
    | none =>
      have h1 := hhi0 rfl; subst h1
      simp at eh; subst eh
      cases lo with
      | none => have h2 := hlo0 rfl; subst h2; simp at el; subst el; simp [Instr.sliceBounds]
      | some v =>
        obtain ⟨v', rfl, hv⟩ := hlo v rfl
        have h3 := fun c => (asNat_ok (P := P) el hv c w).1
        simp [Instr.sliceBounds, h3]
    | some u =>
      obtain ⟨u', rfl, hu⟩ := hhi u rfl
      have h3 := fun c => (asNat_ok (P := P) eh hu c w).1
      cases lo with
      | none => have h2 := hlo0 rfl; subst h2; simp at el; subst el; simp [Instr.sliceBounds, h3]
      | some v =>
        obtain ⟨v', rfl, hv⟩ := hlo v rfl
        have h4 := fun c => (asNat_ok (P := P) el hv c w).1
        simp [Instr.sliceBounds, h3, h4]
  | some x =>
    obtain ⟨x', rfl, hx⟩ := hmx x rfl
    have h5 := fun c => (asNat_ok (P := P) em hx c w).1
    cases hi with
    | none => simp at hmh
    | some u =>
      obtain ⟨u', rfl, hu⟩ := hhi u rfl
      have h3 := fun c => (asNat_ok (P := P) eh hu c w).1
      cases lo with
      | none => have h2 := hlo0 rfl; subst h2; simp at el; subst el; simp [Instr.sliceBounds, h3, h5]
      | some v =>
        obtain ⟨v', rfl, hv⟩ := hlo v rfl
        have h4 := fun c => (asNat_ok (P := P) el hv c w).1
        simp [Instr.sliceBounds, h3, h4, h5]

theorem optNat_le {v : Option V} {d y n : Nat} (e : optNat v d y = some n) (hd : d ≤ y) : n ≤ y := by
  unfold optNat at e
  cases v with
  | none => simp at e; omega
  | some v =>
    simp only [asNat] at e
    split at e
    · split at e
      · cases e; omega
      · cases e
    · cases e

theorem ok_slice {t : TypeId} {x : V} {lo hi mx : Option V} {nx : Nx} (e : oSlice P t x lo hi mx = some nx) {x' : Value} {lo' hi' mx' : Option Value} (hx : VR σ x x')
    (hlo : ∀ v, lo = some v → ∃ v', lo' = some v' ∧ VR σ v v') (hlo0 : lo = none → lo' = none)
    (hhi : ∀ v, hi = some v → ∃ v', hi' = some v' ∧ VR σ v v') (hhi0 : hi = none → hi' = none)
    (hmx : ∀ v, mx = some v → ∃ v', mx' = some v' ∧ VR σ v v') (hmx0 : mx = none → mx' = none) (hmh : mx.isSome → hi.isSome) :
    NxR σ base H w ((valN (Instr.sliceAt t x' lo' hi' mx')).run P w) nx := by
  unfold oSlice at e
  split at e
  · rename_i s hu
    simp only [VR] at hx
    obtain ⟨s', rfl, hs⟩ := hx
    split at e
    · cases e
    · rename_i hm
      cases mx with
      | some _ => simp at hm
      | none =>
      have h0 := hmx0 rfl; subst h0
      have hsz : s.length = s'.size := by rw [← hs]; simp
      cases h1 : optNat hi s.length s.length with
      | none => simp [h1] at e
      | some h =>
        cases h2 : optNat lo 0 h with
        | none => simp [h1, h2] at e
        | some l =>
          simp [h1, h2] at e; subst e
          have hb := sliceBounds_ok (P := P) (isSlice := false) (len := s.length) (cap := s.length) (mx := none) (mx' := none) hlo hlo0 hhi hhi0 (by intro v hv; cases hv) (fun _ => rfl) rfl h1 h2 (by simp) w
          rw [hsz] at hb
          refine NxR.pv_of (v' := .string (s'.extract l h)) ?_ ?_
          · simp [Instr.sliceAt, run_underlying hu, Instr.slice, hb]
          · simp only [VR]; exact ⟨_, rfl, bytes_drop_take hs l h⟩
  · rename_i e' a len cap ex hu
    cases hsz : sizeT P e' with
    | none => simp [hsz] at e
    | some size =>
    cases h1 : optNat mx cap cap with
    | none => simp [hsz, h1] at e
    | some m =>
    cases h2 : optNat hi len m with
    | none => simp [hsz, h1, h2] at e
    | some h =>
    cases h3 : optNat lo 0 h with
    | none => simp [hsz, h1, h2, h3] at e
    | some l =>
    simp only [hsz, h1, h2, h3, Option.bind_some] at e
    have hmcap := optNat_le h1 (Nat.le_refl _)
    have hlh := optNat_le h3 (Nat.zero_le _)
    split at e
    case isFalse => cases e
    rename_i hex
    cases a with
    | none =>
      simp only [VR] at hx
      obtain ⟨rfl, rfl, rfl, rfl⟩ := hx
      have hm0 : m = 0 := by omega
      subst hm0
      have hh0 := optNat_le h2 (Nat.le_refl _)
      have hh : h = 0 := by omega
      subst hh
      have hl0 : l = 0 := by omega
      subst hl0
      have hb := sliceBounds_ok (P := P) (isSlice := true) hlo hlo0 hhi hhi0 hmx hmx0 h1 h2 h3 hmh w
      have hr : (Instr.sliceAt t (.slice none 0 0) lo' hi' mx').run P w = .ok (.slice none 0 0) w := by
        simp [Instr.sliceAt, run_underlying hu, Instr.slice, hb, sizeT_run hsz]
      split at e
      · cases e; exact NxR.pv_of hr (by simp [VR])
      · split at e
        · cases e
        · cases e; exact NxR.pv_of hr (by simp [VR])
    | some p =>
      simp only [VR] at hx
      obtain ⟨L, c', hL, rfl, hlc, hcap⟩ := hx
      by_cases hm : mx.isSome = true
      · -- the capacity is given
        rw [if_pos hm] at e
        cases e
        cases mx with
        | none => simp at hm
        | some mv =>
        have hle : cap ≤ c' := by cases ex with
          | none => simp at hcap; omega
          | some _ => simp at hcap; exact hcap.1
        -- the bound holds of the capacity that there is
        have h1' : optNat (some mv) c' c' = some m := by
          simp only [optNat, asNat] at h1 ⊢
          split at h1
          · split at h1
            · rename_i hi; cases h1; rw [if_pos (by omega)]
            · cases h1
          · cases h1
        have hb := sliceBounds_ok (P := P) (isSlice := true) hlo hlo0 hhi hhi0 hmx hmx0 h1' h2 h3 hmh w
        have hhm : h ≤ m := by
          cases hi with
          | none => simp at hmh
          | some hv =>
            simp only [optNat, asNat] at h2
            split at h2
            · split at h2
              · cases h2; omega
              · cases h2
            · cases h2
        refine NxR.pv_of (v' := .slice (if m = l then some ⟨L.r, L.s + p.2, none⟩ else some ⟨L.r, L.s + p.2 + l * size, none⟩) (h - l) (m - l)) ?_ ?_
        · simp [Instr.sliceAt, run_underlying hu, Instr.slice, hb, sizeT_run hsz]
          split <;> simp [add_loc]
        · by_cases hml : m = l
          · simp only [hml, if_true, VR]
            exact ⟨L, _, hL, rfl, by omega, rfl⟩
          · simp only [hml, if_false, Option.map_some, VR]
            exact ⟨L, _, hL, by rw [Nat.add_assoc], by omega, rfl⟩
      · rw [if_neg hm] at e
        cases mx with
        | some _ => simp at hm
        | none =>
        have h0 := hmx0 rfl; subst h0
        simp [optNat] at h1; subst h1
        have hhm : h ≤ cap := optNat_le h2 hlc
        split at e
        · cases e
        · rename_i hml
          cases e
          cases ex with
          | none =>
            simp at hcap; subst hcap
            have hb := sliceBounds_ok (P := P) (isSlice := true) (mx := none) (mx' := none) (cap := c') hlo hlo0 hhi hhi0 (by intro v hv; cases hv) (fun _ => rfl) rfl h2 h3 (by simp) w
            refine NxR.pv_of (v' := .slice (if c' = l then some ⟨L.r, L.s + p.2, none⟩ else some ⟨L.r, L.s + p.2 + l * size, none⟩) (h - l) (c' - l)) ?_ ?_
            · simp [Instr.sliceAt, run_underlying hu, Instr.slice, hb, sizeT_run hsz]
              split <;> simp [add_loc]
            · by_cases hml : c' = l
              · simp only [hml, if_true, VR]
                exact ⟨L, _, hL, rfl, by omega, rfl⟩
              · simp only [hml, if_false, Option.map_some, VR]
                exact ⟨L, _, hL, by rw [Nat.add_assoc], by omega, rfl⟩
          | some es =>
            simp at hex; subst hex
            simp at hml
            simp only at hcap
            -- 'h' with the capacity that there is
            have h2' : optNat hi len c' = some h := by
              cases hi with
              | none => simpa [optNat] using h2
              | some hv =>
                simp only [optNat, asNat] at h2 ⊢
                split at h2
                · split at h2
                  · rename_i hi; cases h2; rw [if_pos (by omega)]
                  · cases h2
                · cases h2
            have hb := sliceBounds_ok (P := P) (isSlice := true) (mx := none) (mx' := none) (cap := c') hlo hlo0 hhi hhi0 (by intro v hv; cases hv) (fun _ => rfl) rfl h2' h3 (by simp) w
            have hne : ¬ c' = l := by omega
            refine NxR.pv_of (v' := .slice (some ⟨L.r, L.s + p.2 + l * es, none⟩) (h - l) (c' - l)) ?_ ?_
            · simp [Instr.sliceAt, run_underlying hu, Instr.slice, hb, sizeT_run hsz, hne, add_loc]
            · simp only [hml, if_false, Option.map_some, VR]
              refine ⟨L, _, hL, by rw [Nat.add_assoc], by omega, by omega, ?_⟩
              have : l * es + (c' - l) * es = c' * es := by rw [← Nat.add_mul]; congr 1; omega
              omega
  · rename_i n e' p hu
    cases hsz : sizeT P e' with
    | none => simp [hsz] at e
    | some size =>
    cases h1 : optNat mx n n with
    | none => simp [hsz, h1] at e
    | some m =>
    cases h2 : optNat hi n m with
    | none => simp [hsz, h1, h2] at e
    | some h =>
    cases h3 : optNat lo 0 h with
    | none => simp [hsz, h1, h2, h3] at e
    | some l =>
    simp [hsz, h1, h2, h3] at e
    subst e
    simp only [VR] at hx
    obtain ⟨L, hL, rfl⟩ := hx
    have hb := sliceBounds_ok (P := P) (isSlice := false) hlo hlo0 hhi hhi0 hmx hmx0 h1 h2 h3 hmh w
    have hhm : h ≤ m := by
      cases hi with
      | none =>
        cases mx with
        | none => simp [optNat] at h1 h2; omega
        | some _ => simp at hmh
      | some hv =>
        simp only [optNat, asNat] at h2
        split at h2
        · split at h2
          · cases h2; omega
          · cases h2
        · cases h2
    refine NxR.pv_of (v' := .slice (some ⟨L.r, L.s + (if m = l then p.2 else p.2 + l * size), none⟩) (h - l) (m - l)) ?_ ?_
    · simp [Instr.sliceAt, run_underlying hu, Instr.sureAddr, hb, sizeT_run hsz]
      split
      · rfl
      · rw [add_loc, Nat.add_assoc]
    · simp only [VR]
      exact ⟨L, _, hL, rfl, by omega, rfl⟩
  · cases e
end
end Go.Am
