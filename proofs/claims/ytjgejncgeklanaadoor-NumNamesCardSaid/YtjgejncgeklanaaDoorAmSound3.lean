/-
  A part of the proof that an abstract machine, which runs a program without orders, room or tape, says what the model does. No condition beside what each theorem states.
-/
import Derived.Test.YtjgejncgeklanaaDoorAmSound2
import Derived.Laws.StructEq
namespace Go.Am
open Go Go.RowKit

section
variable {σ : Sg} {base : Nat} {H : AH} {w : World} {P : Program}

theorem mapNat_inj : ∀ (a b : List UInt8), (a.map UInt8.toNat == b.map UInt8.toNat) = (a == b)
  | [], [] => rfl
  | [], _ :: _ => rfl
  | _ :: _, [] => rfl
  | x :: a, y :: b => by
    simp only [List.map_cons, List.cons_beq_cons, mapNat_inj a b]
    congr 1
    rw [Bool.eq_iff_iff, beq_iff_eq, beq_iff_eq]
    exact ⟨fun h => UInt8.toNat_inj.1 h, fun h => by rw [h]⟩

theorem ltL_ok : ∀ (a b : List UInt8), ltL (a.map UInt8.toNat) (b.map UInt8.toNat) = Op.bytesLess a b
  | _, [] => by cases ‹List UInt8› <;> rfl
  | [], _ :: _ => rfl
  | x :: a, y :: b => by
    simp only [List.map_cons, ltL, Op.bytesLess, ltL_ok a b]
    congr 1
    congr 1
    rw [Bool.eq_iff_iff, beq_iff_eq, beq_iff_eq]
    exact ⟨fun h => UInt8.toNat_inj.1 h, fun h => by rw [h]⟩

theorem partV_run {t : TypeId} {cs : List V} {cs' : Array Value} (hc : VRs σ cs cs'.toList) {off : Nat} {v : V} (e : partV P t cs off = some v) (w : World) :
    ∃ v', (part t cs' off).run P w = .ok v' w ∧ VR σ v v' := by
  have hlen := hc.length
  simp only [Array.length_toList] at hlen
  unfold partV at e
  split at e
  · rename_i n ha hs
    split at e
    case isFalse => cases e
    cases e
    refine ⟨.agg (cs'.extract off (off + n)), by simp [part, isAggT_run ha, sizeT_run hs], ?_⟩
    simp only [VR]
    refine ⟨_, rfl, ?_⟩
    rw [Array.toList_extract, List.extract_eq_take_drop]
    rw [Nat.add_sub_cancel_left]
    exact (hc.drop off).take n
  · rename_i ha
    obtain ⟨v', h1, h2⟩ := hc.get off v e
    refine ⟨v', ?_, h2⟩
    simp at h1
    simp [part, isAggT_run ha, h1]
  · cases e

theorem aeqElems_run (d : Nat) (ih : ∀ t x y b x' y', aeqIn P d t x y = some b → VR σ x x' → VR σ y y' → ∀ w, (Op.equalIn d t x' y').run P w = .ok b w) (e : TypeId) (size : Nat) (xs ys : List V) (xs' ys' : Array Value)
    (hx : VRs σ xs xs'.toList) (hy : VRs σ ys ys'.toList) : ∀ (k i : Nat) (b : Bool), aeqElems P d e size xs ys k i = some b → ∀ w,
    ((do
      let r ← forIn (List.range' i k) ((none, ()) : Option Bool × PUnit) fun i _ => do
        if !(← Op.equalIn d e (← part e xs' (i * size)) (← part e ys' (i * size))) then pure (ForInStep.done (some false, ()))
        else pure (ForInStep.yield (none, ()))
      match r.1 with
      | some a => pure a
      | none => pure true : Sem Bool).run P w) = .ok b w
  | 0, i, b, h, w => by
    simp [aeqElems] at h; subst h
    simp
  | k + 1, i, b, h, w => by
    simp only [aeqElems] at h
    split at h
    case h_2 => cases h
    rename_i a c h1 h2
    obtain ⟨a', h3, h4⟩ := partV_run (P := P) hx h1 w
    obtain ⟨c', h5, h6⟩ := partV_run (P := P) hy h2 w
    split at h
    · rename_i h7
      have h8 := ih _ _ _ _ _ _ h7 h4 h6 w
      have h9 := aeqElems_run d ih e size xs ys xs' ys' hx hy k (i + 1) b h w
      simp only [List.range'_succ, List.forIn_cons, Sem.run_bind, h3, h5, h8, Result.andThen_ok] at h9 ⊢
      simpa using h9
    · rename_i h7
      have h8 := ih _ _ _ _ _ _ h7 h4 h6 w
      cases h
      simp [List.range'_succ, List.forIn_cons, h3, h5, h8]
    · cases h

theorem aeqFields_run (d : Nat) (ih : ∀ t x y b x' y', aeqIn P d t x y = some b → VR σ x x' → VR σ y y' → ∀ w, (Op.equalIn d t x' y').run P w = .ok b w) (xs ys : List V) (xs' ys' : Array Value)
    (hx : VRs σ xs xs'.toList) (hy : VRs σ ys ys'.toList) : ∀ (fs : List Field) (b : Bool), aeqFields P d fs xs ys = some b → ∀ w, (Op.eqFields d xs' ys' fs).run P w = .ok b w
  | [], b, h, w => by simp [aeqFields] at h; subst h; simp [Op.eqFields]
  | f :: fs, b, h, w => by
    simp only [aeqFields] at h
    split at h
    · rename_i hn
      split at h
      case h_2 => cases h
      rename_i a c h1 h2
      obtain ⟨a', h3, h4⟩ := partV_run (P := P) hx h1 w
      obtain ⟨c', h5, h6⟩ := partV_run (P := P) hy h2 w
      split at h
      · rename_i h7
        have h8 := ih _ _ _ _ _ _ h7 h4 h6 w
        simp [Op.eqFields, hn, h3, h5, h8, aeqFields_run d ih xs ys xs' ys' hx hy fs b h w]
      · rename_i h7
        have h8 := ih _ _ _ _ _ _ h7 h4 h6 w
        cases h
        simp [Op.eqFields, hn, h3, h5, h8]
      · cases h
    · rename_i hn
      simp only [Op.eqFields]
      rw [if_neg hn]
      exact aeqFields_run d ih xs ys xs' ys' hx hy fs b h w

set_option maxHeartbeats 2000000 in
theorem aeqIn_ok : ∀ (d : Nat) (t : TypeId) (x y : V) (b : Bool) (x' y' : Value), aeqIn P d t x y = some b → VR σ x x' → VR σ y y' → ∀ w, (Op.equalIn d t x' y').run P w = .ok b w
  | 0, t, x, y, b, x', y', h, _, _, _ => by simp [aeqIn] at h
  | d + 1, t, x, y, b, x', y', h, hx, hy, w => by
    have ih := fun t x y b x' y' => aeqIn_ok d t x y b x' y'
    unfold aeqIn at h
    split at h
    · rename_i hu; simp only [VR] at hx hy; subst hx hy; cases h; simp [Op.equalIn, run_underlying hu]
    · rename_i hu; simp only [VR] at hx hy; subst hx hy
      split at h
      · rename_i hk; cases h; subst hk; simp [Op.equalIn, run_underlying hu]
      · cases h
    · rename_i hu
      simp only [VR] at hx hy
      obtain ⟨s, rfl, rfl⟩ := hx
      obtain ⟨s', rfl, rfl⟩ := hy
      cases h
      rw [run_equalIn_string w d t _ _ hu, mapNat_inj, ByteArray.toList_eq, ByteArray.toList_eq]
    · rename_i q hu
      simp only [VR] at hx; subst hx
      cases h
      cases q with
      | none => simp only [VR] at hy; subst hy; simp [Op.equalIn, run_underlying hu]
      | some q => simp only [VR] at hy; obtain ⟨L, _, rfl⟩ := hy; simp [Op.equalIn, run_underlying hu]
    · rename_i hu
      simp only [VR] at hx hy; subst hy; obtain ⟨L, _, rfl⟩ := hx
      cases h; simp [Op.equalIn, run_underlying hu]
    · rename_i e p q hu
      simp only [VR] at hx hy
      obtain ⟨L, h1, rfl⟩ := hx
      obtain ⟨L', h2, rfl⟩ := hy
      split at h
      case isFalse => cases h
      rename_i hc
      cases h
      obtain ⟨hc1, hc2⟩ := hc
      rw [hc1, h2] at h1; cases h1
      cases hs : sizeT P e with
      | none => simp [hs] at hc2
      | some n =>
        simp [hs] at hc2
        have : (({ block := L.r, off := L.s + p.2 } : Addr) == { block := L.r, off := L.s + q.2 }) = (p.2 == q.2) := by
          rw [Bool.eq_iff_iff, beq_iff_eq, beq_iff_eq]
          constructor
          · intro h; injection h with _ h; omega
          · intro h; rw [h]
        simp [Op.equalIn, run_underlying hu, sizeT_run hs, hc2, sameAddr, this]
    · rename_i hu; simp only [VR] at hx hy; subst hx hy; cases h; simp [Op.equalIn, run_underlying hu]
    · rename_i hu; simp only [VR] at hx hy; subst hx; obtain ⟨_, rfl, _⟩ := hy; cases h; simp [Op.equalIn, run_underlying hu]
    · rename_i hu; simp only [VR] at hx hy; subst hy; obtain ⟨_, rfl, _⟩ := hx; cases h; simp [Op.equalIn, run_underlying hu]
    · rename_i tx vx ty vy hu
      simp only [VR] at hx hy
      obtain ⟨vx', rfl, hx⟩ := hx
      obtain ⟨vy', rfl, hy⟩ := hy
      split at h
      · rename_i hne; cases h; simp [Op.equalIn, run_underlying hu, hne]
      · rename_i hne
        have hne : tx = ty := by simpa using hne
        subst hne
        split at h
        · rename_i i hi
          split at h
          · rename_i hcmp
            have := ih _ _ _ _ _ _ h hx hy w
            simp [Op.equalIn, run_underlying hu, typeInfo, hi, hcmp, this]
          · cases h
        · cases h
    · rename_i fs xs ys hu
      simp only [VR] at hx hy
      obtain ⟨xs', rfl, hx⟩ := hx
      obtain ⟨ys', rfl, hy⟩ := hy
      split at h
      · cases h
      · rename_i hst
        have hst : P.stoodInHeld t = false := by simpa using hst
        have hfs : P.fieldsOf t = fs := by simp [Program.fieldsOf, hu]
        rw [run_equalIn_struct w d t xs' ys' (by rw [hfs]; exact hu) hst, hfs]
        exact aeqFields_run d ih xs ys xs' ys' hx hy fs.toList b h w
    · rename_i n e xs ys hu
      simp only [VR] at hx hy
      obtain ⟨xs', rfl, hx⟩ := hx
      obtain ⟨ys', rfl, hy⟩ := hy
      cases hs : sizeT P e with
      | none => simp [hs] at h
      | some size =>
        simp only [hs, Option.bind_some] at h
        have := aeqElems_run d ih e size xs ys xs' ys' hx hy n 0 b h w
        simp only [Op.equalIn, Sem.run_bind, run_underlying hu, Result.andThen_ok, sizeT_run hs, Std.Legacy.Range.forIn_eq_forIn_range', Std.Legacy.Range.size, Nat.sub_zero, Nat.add_sub_cancel, Nat.div_one]
        simp only [Sem.run_bind] at this
        rw [← this]
        congr 1
        funext r w'
        obtain ⟨r, u⟩ := r
        cases r <;> rfl
    · rename_i q _ _ _ hu
      simp only [VR] at hx; obtain ⟨rfl, _⟩ := hx
      cases h
      cases q with
      | none => simp only [VR] at hy; obtain ⟨rfl, _⟩ := hy; simp [Op.equalIn, run_underlying hu]
      | some q => simp only [VR] at hy; obtain ⟨L, c', _, rfl, _⟩ := hy; simp [Op.equalIn, run_underlying hu]
    · rename_i hu
      simp only [VR] at hx hy; obtain ⟨rfl, _⟩ := hy; obtain ⟨L, c', _, rfl, _⟩ := hx
      cases h; simp [Op.equalIn, run_underlying hu]
    · rename_i q hu
      simp only [VR] at hx; subst hx
      cases h
      cases q with
      | none => simp only [VR] at hy; subst hy; simp [Op.equalIn, run_underlying hu]
      | some q => simp only [VR] at hy; obtain ⟨L, _, rfl⟩ := hy; simp [Op.equalIn, run_underlying hu]
    · rename_i hu
      simp only [VR] at hx hy; subst hy; obtain ⟨L, _, rfl⟩ := hx
      cases h; simp [Op.equalIn, run_underlying hu]
    · rename_i hu; simp only [VR] at hx hy; subst hx hy; cases h; simp [Op.equalIn, run_underlying hu]
    · rename_i hu; simp only [VR] at hx hy; subst hx; obtain ⟨_, _, _, rfl, _⟩ := hy; cases h; simp [Op.equalIn, run_underlying hu]
    · rename_i hu; simp only [VR] at hx hy; subst hy; obtain ⟨_, _, _, rfl, _⟩ := hx; cases h; simp [Op.equalIn, run_underlying hu]
    · cases h
end
end Go.Am
