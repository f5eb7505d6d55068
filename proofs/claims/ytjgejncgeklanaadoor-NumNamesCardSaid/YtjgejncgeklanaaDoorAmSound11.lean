/-
  A part of the proof that an abstract machine, which runs a program without orders, room or tape, says what the model does. No condition beside what each theorem states.
-/
import Derived.Test.YtjgejncgeklanaaDoorAmSound10
namespace Go.Am
open Go Go.RowKit

section
variable {σ : Sg} {base : Nat} {H : AH} {w : World} {P : Program}

theorem checkKey_ok (emp : Bool) : ∀ (d : Nat) (t : TypeId) (k : V), keyOk P d t k = true → ∀ (k' : Value), VR σ k k' → ∀ n, d ≤ n → ∀ w : World, (Instr.checkKey emp n t k').run P w = .ok () w
  | 0, t, k, h, _, _, _, _, _ => by simp [keyOk] at h
  | d + 1, t, k, h, k', hk, 0, hn, _ => by omega
  | d + 1, t, k, h, k', hk, n + 1, hn, w => by
    unfold keyOk at h
    split at h
    · rename_i hu; cases k' <;> simp [Instr.checkKey, run_underlying hu]
    · rename_i hu; cases k' <;> simp [Instr.checkKey, run_underlying hu]
    · rename_i hu; cases k' <;> simp [Instr.checkKey, run_underlying hu]
    · rename_i len e hu
      split at h
      · rename_i cs size hs
        simp only [VR] at hk
        obtain ⟨cs', rfl, hc⟩ := hk
        have ih := fun k => checkKey_ok emp d e k
        simp only [Instr.checkKey, Sem.run_bind, run_underlying hu, Result.andThen_ok, Std.Legacy.Range.forIn_eq_forIn_range', Std.Legacy.Range.size, Nat.sub_zero, Nat.add_sub_cancel, Nat.div_one]
        have key : ∀ (m i : Nat), i + m ≤ len → (forIn (List.range' i m) PUnit.unit fun (i : Nat) (_ : PUnit) => do
            let a ← sizeOf e
            let b ← part e cs' (i * a)
            Instr.checkKey emp n e b
            pure (ForInStep.yield PUnit.unit) : Sem PUnit).run P w = .ok PUnit.unit w := by
          intro m
          induction m with
          | zero => intro i _; simp
          | succ m ihm =>
            intro i hi
            have h1 := List.all_eq_true.1 h i (List.mem_range.2 (by omega))
            cases hp : partV P e cs (i * size) with
            | none => simp [hp] at h1
            | some v =>
              simp [hp] at h1
              obtain ⟨v', h2, h3⟩ := partV_run (P := P) hc hp w
              have h4 := ih v h1 v' h3 n (by omega) w
              rw [List.range'_succ, List.forIn_cons]
              simp only [Sem.run_bind, sizeT_run hs, Result.andThen_ok, h2, h4, Sem.run_pure]
              exact ihm (i + 1) (by omega)
        have := key len 0 (by omega)
        rw [this]; rfl
      · cases h
    · cases h

theorem same1_ok {a b : V} (h : same1 a b = true) {a' b' : Value} (ha : VR σ a a') (hb : VR σ b b') (n : Nat) : Instr.sameBits n a' b' = true := by
  unfold same1 at h
  split at h
  · simp only [VR] at ha hb; subst ha hb; cases n <;> simpa [Instr.sameBits] using h
  · simp only [VR] at ha hb; subst ha hb; cases n <;> simpa [Instr.sameBits] using h
  · simp only [VR] at ha hb
    obtain ⟨s, rfl, rfl⟩ := ha
    obtain ⟨s', rfl, rfl⟩ := hb
    rw [mapNat_inj] at h
    have h2 : s = s' := by
      apply ByteArray.ext; apply Array.ext'; simpa using h
    subst h2
    have h3 : (s == s) = true := by rw [beq_toListBytes]; simp
    cases n <;> simp [Instr.sameBits, h3]
  · cases h

theorem sameV_ok {a b : V} (h : sameV a b = true) {a' b' : Value} (ha : VR σ a a') (hb : VR σ b b') (n : Nat) : Instr.sameBits (n + 1) a' b' = true := by
  unfold sameV at h
  split at h
  · rename_i xs ys
    simp only [VR] at ha hb
    obtain ⟨xs', rfl, hx⟩ := ha
    obtain ⟨ys', rfl, hy⟩ := hb
    simp only [Bool.and_eq_true] at h
    obtain ⟨h1, h2⟩ := h
    simp only [Instr.sameBits, Bool.and_eq_true]
    have l1 := hx.length
    have l2 := hy.length
    simp only [Array.length_toList] at l1 l2
    refine ⟨by simp at h1 ⊢; omega, ?_⟩
    rw [List.all_eq_true] at h2 ⊢
    rintro ⟨p, q⟩ hpq
    obtain ⟨i, hi⟩ := List.getElem?_of_mem hpq
    rw [List.getElem?_zip_eq_some] at hi
    obtain ⟨hi1, hi2⟩ := hi
    have hi3 : i < xs.length := by rw [hx.length]; exact (List.getElem?_eq_some_iff.1 hi1).1
    have hi4 : i < ys.length := by rw [hy.length]; exact (List.getElem?_eq_some_iff.1 hi2).1
    obtain ⟨p', e1, e2⟩ := hx.get i _ (List.getElem?_eq_getElem hi3)
    obtain ⟨q', e3, e4⟩ := hy.get i _ (List.getElem?_eq_getElem hi4)
    rw [hi1] at e1; cases e1
    rw [hi2] at e3; cases e3
    refine same1_ok (h2 (xs[i], ys[i]) ?_) e2 e4 n
    refine List.mem_of_getElem? (i := i) ?_
    rw [List.getElem?_zip_eq_some]
    exact ⟨List.getElem?_eq_getElem hi3, List.getElem?_eq_getElem hi4⟩
  · exact same1_ok h ha hb _

/-- what was found -/
def FoundR (σ : Sg) : Option (Nat × V) → Option (Nat × Value) → Prop
  | none, r => r = none
  | some (i, v), r => ∃ v', r = some (i, v') ∧ VR σ v v'

theorem findAsking_ok {kt : TypeId} {k : V} {k' : Value} (hk : VR σ k k') : ∀ (es : List (V × V × Nat)) (es' : List MapEntry) (i : Nat) (r : Option (Nat × V)), EsR σ es es' → findK P kt k es i = some r → ∀ w : World,
    ∃ r', (Instr.findAsking kt k' es' i).run P w = .ok r' w ∧ FoundR σ r r' ∧ (∀ kind, P.underlying kt = some kind → ∀ x, Instr.findNow kind k' es' i = some x → x = r')
  | [], es', i, r, h, e, w => by
    simp only [EsR] at h; subst h
    simp [findK] at e; subst e
    exact ⟨none, by simp [Instr.findAsking], rfl, fun kind _ x hx => by simp [Instr.findNow] at hx; exact hx.symm⟩
  | (k2, v, n) :: es, es', i, r, h, e, w => by
    simp only [EsR] at h
    obtain ⟨en, l', rfl, h1, h2, h3, h4⟩ := h
    simp only [findK] at e
    -- the quick look says the same
    have hnow : ∀ kind, P.underlying kt = some kind → ∀ b, aeqIn P 10000 kt k k2 = some b → ∀ c, Instr.sameNow kind k' en.key = some c → c = b := by
      intro kind hkind b hb c hc
      have hrun := aeqIn_ok (P := P) _ _ _ _ _ _ _ hb hk h1 w
      cases kind <;> simp only [Instr.sameNow] at hc <;> (try (cases hc; done))
      · generalize hq : en.key = q at hc hrun
        cases k' <;> cases q <;> simp only at hc <;> (try (cases hc; done))
        cases hc
        rw [run_equalIn_bool' w 9999 kt _ _ hkind] at hrun
        cases hrun; rfl
      · generalize hq : en.key = q at hc hrun
        cases k' <;> cases q <;> simp only at hc <;> (try (cases hc; done))
        split at hc
        · rename_i hkk
          cases hc; subst hkk
          rw [run_equalIn_int w 9999 kt _ _ _ _ hkind] at hrun
          cases hrun; rfl
        · cases hc
      · generalize hq : en.key = q at hc hrun
        cases k' <;> cases q <;> simp only at hc <;> (try (cases hc; done))
        cases hc
        rw [run_equalIn_string w 9999 kt _ _ hkind, ← beq_toListBytes] at hrun
        cases hrun; rfl
    split at e
    · rename_i heq
      cases e
      have h5 := aeqIn_ok (P := P) _ _ _ _ _ _ _ heq hk h1 w
      refine ⟨some (i, en.val), ?_, ⟨_, rfl, h2⟩, ?_⟩
      · simp only [Instr.findAsking, Op.equal, Op.maxDepth, Sem.run_bind, h5, Result.andThen_ok]; simp
      · intro kind hkind x hx
        simp only [Instr.findNow] at hx
        split at hx
        · cases hx; rfl
        · rename_i hs; have := hnow kind hkind _ heq _ hs; cases this
        · cases hx
    · rename_i heq
      have h5 := aeqIn_ok (P := P) _ _ _ _ _ _ _ heq hk h1 w
      obtain ⟨r', h6, h7, h8⟩ := findAsking_ok hk es l' (i + 1) r h4 e w
      refine ⟨r', ?_, h7, ?_⟩
      · simp only [Instr.findAsking, Op.equal, Op.maxDepth, Sem.run_bind, h5, Result.andThen_ok]; simpa using h6
      · intro kind hkind x hx
        simp only [Instr.findNow] at hx
        split at hx
        · rename_i hs; have := hnow kind hkind _ heq _ hs; cases this
        · exact h8 kind hkind x hx
        · cases hx
    · cases e

theorem findKey_ok {kt : TypeId} {k : V} {k' : Value} (hk : VR σ k k') {es : List (V × V × Nat)} {es' : List MapEntry} {r : Option (Nat × V)} (h : EsR σ es es') (e : findK P kt k es 0 = some r) (hko : keyOk P 5 kt k = true) (w : World) :
    ∃ r', (Instr.findKey kt k' es').run P w = .ok r' w ∧ FoundR σ r r' := by
  obtain ⟨r', h1, h2, h3⟩ := findAsking_ok (P := P) hk es es' 0 r h e w
  refine ⟨r', ?_, h2⟩
  cases hu : P.underlying kt with
  | none => unfold keyOk at hko; simp [hu] at hko
  | some kind =>
    simp only [Instr.findKey, Sem.run_bind, run_underlying hu, Result.andThen_ok]
    cases hf : Instr.findNow kind k' es' 0 with
    | none => exact h1
    | some x => have := h3 kind hu x hf; subst this; rfl
end
end Go.Am
