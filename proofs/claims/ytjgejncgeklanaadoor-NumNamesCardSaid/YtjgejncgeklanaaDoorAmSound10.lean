/-
  A part of the proof that an abstract machine, which runs a program without orders, room or tape, says what the model does. No condition beside what each theorem states.
-/
import Derived.Test.YtjgejncgeklanaaDoorAmSound9
namespace Go.Am
open Go Go.RowKit

section
variable {σ : Sg} {base : Nat} {H : AH} {w : World} {P : Program}

theorem ok_copy (hr : HR σ base H w) {ats : Array TypeId} {t ty : TypeId} (h0 : ats[0]? = some t) {d x : V} {nx : Nx} (e : copyBuiltin P H t d x = some nx) {d' x' : Value} (hd : VR σ d d') (hx : VR σ x x') :
    NxR σ base H w ((valN (Builtin.copy_ ats ty #[d', x'])).run P w) nx := by
  unfold copyBuiltin at e
  split at e
  case h_2 => cases e
  rename_i el a dl dc dex ht
  cases hsz : sizeT P el with
  | none => simp [hsz] at e
  | some size =>
  simp only [hsz, Option.bind_some] at e
  have hdst : ∃ b c', d' = .slice b dl c' ∧ baseR σ a b := by
    cases a with
    | none => simp only [VR] at hd; obtain ⟨rfl, _, _, rfl⟩ := hd; exact ⟨none, _, rfl, rfl⟩
    | some p => simp only [VR] at hd; obtain ⟨L, c', hL, rfl, _⟩ := hd; exact ⟨_, c', rfl, L, hL, rfl⟩
  obtain ⟨b, c', rfl, hb⟩ := hdst
  -- from cells that are known to cells that are to be written
  have fin : ∀ (n : Nat) (src : List V) (src' : Array Value), (Builtin.lenOf x').run P w = .ok n w → (Builtin.firstCells size (Nat.min n dl) x').run P w = .ok src' w → VRs σ src src'.toList →
      copyTo H a (Nat.min n dl) src = some nx →
      NxR σ base H w ((valN (Builtin.copy_ ats ty #[.slice b dl c', x'])).run P w) nx := by
    intro n src src' hl hf hsrc he
    unfold copyTo at he
    cases a with
    | none =>
      simp only [baseR] at hb; subst hb
      cases he
      refine NxR.pv_of (v' := goInt ((Nat.min n dl : Nat))) ?_ (VR.int' _ _ _)
      simp [Builtin.copy_, h0, run_underlying ht, sizeT_run hsz, hl, hf]
    | some p =>
      obtain ⟨L, hL, rfl⟩ := hb
      simp only at he
      cases hst : H.storeN p.1 p.2 src with
      | none => simp [hst] at he
      | some H' =>
        simp [hst] at he; subst he
        obtain ⟨w', h1, h2⟩ := HR.storeN hL P p.2 src src'.toList 0 hr (by simpa using hst) hsrc
        refine ⟨σ, w', .value (goInt ((Nat.min n dl : Nat))), goInt ((Nat.min n dl : Nat)), ?_, .inl rfl, VR.int' _ _ _, h2⟩
        simp [valN, Builtin.copy_, h0, run_underlying ht, sizeT_run hsz, hl, hf, h1]
  split at e
  · rename_i l
    simp only [VR] at hx
    obtain ⟨sb, rfl, hsb⟩ := hx
    split at e
    case isFalse => cases e
    rename_i hs1
    subst hs1
    have hlen : l.length = sb.size := by rw [← hsb]; simp
    refine fin l.length (bytesV (l.take (Nat.min l.length dl))) ((sb.extract 0 (Nat.min l.length dl)).data.map fun b => Value.int .u8 b.toNat) (by simp [Builtin.lenOf, hlen]) (by simp [Builtin.firstCells]) ?_ e
    exact bytesV_ok (by have := bytes_drop_take hsb 0 (Nat.min l.length dl); simpa using this) σ
  · rename_i n c x2
    simp only [VR] at hx
    obtain ⟨rfl, rfl, rfl, rfl⟩ := hx
    exact fin 0 [] #[] (by simp [Builtin.lenOf]) (by simp [Builtin.firstCells]) (by simp [VRs]) e
  · rename_i p n c x2
    simp only [VR] at hx
    obtain ⟨L2, c2, hL2, rfl, _⟩ := hx
    cases hld : H.loadN p.1 p.2 (Nat.min n dl * size) with
    | none => simp [hld] at e
    | some src =>
      simp only [hld, Option.bind_some] at e
      obtain ⟨src', h1, _, _, h4⟩ := firstCells_ok (P := P) (a := some p) hr (by simpa [AH.oldCells] using hld) ⟨L2, hL2, rfl⟩ n c2
      exact fin n src src' (by simp [Builtin.lenOf]) h4 h1 e
  · cases e

theorem map_obj (hr : HR σ base H w) {r : Nat} {L : Loc} (hL : σ r = some L) {es : List (V × V × Nat)} {clock : Nat} (h : H.get r = some (.map es clock)) :
    ∃ es', w.heap[L.r]? = some (.map es' clock) ∧ EsR σ es es'.toList ∧ (∀ P : Program, (getObj L.r).run P w = .ok (.map es' clock) w) := by
  obtain ⟨_, es', h1, h2⟩ := hr.obj r L _ hL h
  refine ⟨es', h1, h2, fun P => ?_⟩
  simp [getObj, Sem.run, h1]

theorem EsR.length : ∀ {l : List (V × V × Nat)} {l' : List MapEntry}, EsR σ l l' → l.length = l'.length
  | [], _, h => by simp only [EsR] at h; simp [h]
  | (k, v, n) :: r, _, h => by
    obtain ⟨e, l', rfl, _, _, _, h5⟩ := h
    simp [h5.length]

theorem ok_len (hr : HR σ base H w) {ats : Array TypeId} {t ty : TypeId} (h0 : ats[0]? = some t) {x : V} {nx : Nx} (e : oLen P H t x = some nx) {x' : Value} (hx : VR σ x x') :
    NxR σ base H w ((valN (Builtin.len_ ats ty #[x'])).run P w) nx := by
  unfold oLen at e
  split at e
  · rename_i s ht
    simp only [VR] at hx
    obtain ⟨sb, rfl, hsb⟩ := hx
    cases e
    have : s.length = sb.size := by rw [← hsb]; simp
    exact NxR.pv_of (v' := goInt sb.size) (by simp [Builtin.len_, h0, run_underlying ht]) (by rw [this]; exact VR.int' _ _ _)
  · rename_i n _ ht
    cases e
    exact NxR.pv_of (v' := goInt n) (by simp [Builtin.len_, h0, run_underlying ht]) (VR.int' _ _ _)
  · rename_i arr ht
    split at e
    · rename_i n _ hu
      cases e
      exact NxR.pv_of (v' := goInt n) (by simp [Builtin.len_, h0, run_underlying ht, run_underlying hu]) (VR.int' _ _ _)
    · cases e
  · rename_i _ a n c ex ht
    cases e
    refine NxR.pv_of (v' := goInt n) ?_ (VR.int' _ _ _)
    cases a with
    | none => simp only [VR] at hx; obtain ⟨rfl, _⟩ := hx; simp [Builtin.len_, h0, run_underlying ht]
    | some p => simp only [VR] at hx; obtain ⟨L, c', _, rfl, _⟩ := hx; simp [Builtin.len_, h0, run_underlying ht]
  · rename_i ht
    simp only [VR] at hx; subst hx
    cases e
    exact NxR.pv_of (v' := goInt 0) (by simp [Builtin.len_, h0, run_underlying ht]) (VR.int' _ _ _)
  · rename_i r ht
    simp only [VR] at hx
    obtain ⟨L, hL, rfl⟩ := hx
    split at e
    · rename_i es clock hg
      cases e
      obtain ⟨es', h1, h2, h3⟩ := map_obj hr hL hg
      have := h2.length
      simp only [Array.length_toList] at this
      exact NxR.pv_of (v' := goInt es'.size) (by simp [Builtin.len_, h0, run_underlying ht, h3]) (by rw [this]; exact VR.int' _ _ _)
    · cases e
  · cases e

theorem minV_ok {mx : Bool} {a b v : V} (e : minV mx a b = some v) {a' b' : Value} (ha : VR σ a a') (hb : VR σ b b') (w : World) :
    ∃ v', ((if mx then Builtin.max2 a' b' else Builtin.min2 a' b') : Sem Value).run P w = .ok v' w ∧ VR σ v v' := by
  unfold minV at e
  split at e
  · simp only [VR] at ha hb; subst ha hb
    cases e
    cases mx
    · exact ⟨_, rfl, VR.int' _ _ _⟩
    · exact ⟨_, rfl, VR.int' _ _ _⟩
  · cases e

theorem foldMin_ok {mx : Bool} : ∀ (l : List V) (a v : V), foldMin mx a l = some v → ∀ (l' : List Value) (a' : Value), VRs σ l l' → VR σ a a' → ∀ w : World,
    ∃ v', ((if mx then l'.foldlM Builtin.max2 a' else l'.foldlM Builtin.min2 a') : Sem Value).run P w = .ok v' w ∧ VR σ v v'
  | [], a, v, e, l', a', hl, ha, w => by
    simp [foldMin] at e; subst e
    simp only [VRs] at hl; subst hl
    exact ⟨a', by cases mx <;> simp, ha⟩
  | b :: r, a, v, e, l', a', hl, ha, w => by
    simp only [VRs] at hl
    obtain ⟨b', l2, rfl, h1, h2⟩ := hl
    simp only [foldMin] at e
    cases hm : minV mx a b with
    | none => simp [hm] at e
    | some m =>
      simp only [hm, Option.bind_some] at e
      obtain ⟨m', h3, h4⟩ := minV_ok (P := P) hm ha h1 w
      obtain ⟨v', h5, h6⟩ := foldMin_ok r m v e l2 m' h2 h4 w
      refine ⟨v', ?_, h6⟩
      cases mx
      · simp only [Bool.false_eq_true, if_false] at h3 h5 ⊢
        simp [List.foldlM_cons, h3, h5]
      · simp only [if_true] at h3 h5 ⊢
        simp [List.foldlM_cons, h3, h5]
end
end Go.Am
