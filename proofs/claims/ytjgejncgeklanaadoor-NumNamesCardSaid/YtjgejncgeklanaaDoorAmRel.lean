/-
  A part of the proof that an abstract machine, which runs a program without orders, room or tape, says what the model does. No condition beside what each theorem states.
-/
import Derived.Test.YtjgejncgeklanaaDoorAmSpec
import Derived.Laws.Cells
import Derived.Below
namespace Go.Am
open Go

/-- where an abstract block lies: the block, from which cell on, and how many cells there are from there on -/
structure Loc where
  r : Nat
  s : Nat
  n : Nat

abbrev Sg := Nat → Option Loc

def FnR (σ : Sg) : Fn → Fn → Prop
  | .yield l, f' => ∃ L, σ l = some L ∧ f' = .yield L.r
  | .func f, f' => f' = .func f
  | .method n, f' => f' = .method n
  | _, _ => False

mutual
def VR (σ : Sg) : V → Value → Prop
  | .bool b, v => v = .bool b
  | .int k n, v => v = .int k n
  | .str l, v => ∃ s : ByteArray, v = .string s ∧ s.data.toList.map UInt8.toNat = l
  | .ptr none, v => v = .pointer none
  | .ptr (some p), v => ∃ L, σ p.1 = some L ∧ v = .pointer (some ⟨L.r, L.s + p.2, none⟩)
  | .slice none len cap ex, v => v = .slice none len cap ∧ ex = none ∧ cap = 0 ∧ len = 0
  | .slice (some p) len cap ex, v => ∃ L c', σ p.1 = some L ∧ v = .slice (some ⟨L.r, L.s + p.2, none⟩) len c' ∧ len ≤ cap ∧
      (match ex with | none => c' = cap | some e => cap ≤ c' ∧ p.2 + c' * e ≤ L.n)
  | .map none, v => v = .map none
  | .map (some b), v => ∃ L, σ b = some L ∧ v = .map (some L.r)
  | .func fn first cap, v => ∃ fn' f' c', v = .func fn' f' c' ∧ FnR σ fn fn' ∧ VRs σ first f'.toList ∧ VRs σ cap c'.toList
  | .nilFunc, v => v = .nilFunc
  | .iface t x, v => ∃ x', v = .iface t x' ∧ VR σ x x'
  | .nilIface, v => v = .nilIface
  | .agg cs, v => ∃ cs', v = .agg cs' ∧ VRs σ cs cs'.toList
  | .tuple cs, v => ∃ cs', v = .tuple cs' ∧ VRs σ cs cs'.toList
def VRs (σ : Sg) : List V → List Value → Prop
  | [], l => l = []
  | a :: r, l => ∃ b l', l = b :: l' ∧ VR σ a b ∧ VRs σ r l'
end

def Le (σ σ' : Sg) : Prop := ∀ b L, σ b = some L → σ' b = some L
theorem Le.refl (σ : Sg) : Le σ σ := fun _ _ h => h
theorem Le.trans {a b c : Sg} (h : Le a b) (k : Le b c) : Le a c := fun i L e => k i L (h i L e)

theorem FnR.mono {σ σ' : Sg} (hle : Le σ σ') {f f' : Fn} (h : FnR σ f f') : FnR σ' f f' := by
  cases f <;> simp only [FnR] at h ⊢ <;> first | exact h | (obtain ⟨L, h1, h2⟩ := h; exact ⟨L, hle _ _ h1, h2⟩)

mutual
theorem VR.mono {σ σ' : Sg} (hle : Le σ σ') : ∀ (v : V) (v' : Value), VR σ v v' → VR σ' v v'
  | .bool _, _, h => by simpa only [VR] using h
  | .int _ _, _, h => by simpa only [VR] using h
  | .str _, _, h => by simpa only [VR] using h
  | .ptr none, _, h => by simpa only [VR] using h
  | .ptr (some p), _, h => by
    simp only [VR] at h ⊢
    obtain ⟨L, h1, h2⟩ := h
    exact ⟨L, hle _ _ h1, h2⟩
  | .slice none _ _ _, _, h => by simpa only [VR] using h
  | .slice (some p) _ _ ex, _, h => by
    simp only [VR] at h ⊢
    obtain ⟨L, c', h1, h2⟩ := h
    exact ⟨L, c', hle _ _ h1, h2⟩
  | .map none, _, h => by simpa only [VR] using h
  | .map (some b), _, h => by
    simp only [VR] at h ⊢
    obtain ⟨L, h1, h2⟩ := h
    exact ⟨L, hle _ _ h1, h2⟩
  | .func fn first cap, _, h => by
    simp only [VR] at h ⊢
    obtain ⟨fn', f', c', h1, h2, h3, h4⟩ := h
    exact ⟨fn', f', c', h1, h2.mono hle, VRs.mono hle first _ h3, VRs.mono hle cap _ h4⟩
  | .nilFunc, _, h => by simpa only [VR] using h
  | .iface t x, _, h => by
    simp only [VR] at h ⊢
    obtain ⟨x', h1, h2⟩ := h
    exact ⟨x', h1, VR.mono hle x x' h2⟩
  | .nilIface, _, h => by simpa only [VR] using h
  | .agg cs, _, h => by
    simp only [VR] at h ⊢
    obtain ⟨cs', h1, h2⟩ := h
    exact ⟨cs', h1, VRs.mono hle cs _ h2⟩
  | .tuple cs, _, h => by
    simp only [VR] at h ⊢
    obtain ⟨cs', h1, h2⟩ := h
    exact ⟨cs', h1, VRs.mono hle cs _ h2⟩
theorem VRs.mono {σ σ' : Sg} (hle : Le σ σ') : ∀ (v : List V) (v' : List Value), VRs σ v v' → VRs σ' v v'
  | [], _, h => by simpa only [VRs] using h
  | a :: r, _, h => by
    simp only [VRs] at h ⊢
    obtain ⟨b, l', h1, h2, h3⟩ := h
    exact ⟨b, l', h1, VR.mono hle a b h2, VRs.mono hle r l' h3⟩
end

theorem VRs.length {σ : Sg} : ∀ {l : List V} {l' : List Value}, VRs σ l l' → l.length = l'.length
  | [], _, h => by simp only [VRs] at h; simp [h]
  | a :: r, _, h => by
    simp only [VRs] at h
    obtain ⟨b, l', rfl, _, h3⟩ := h
    simp [h3.length]

theorem VRs.append {σ : Sg} : ∀ {l : List V} {l' : List Value} {m m'}, VRs σ l l' → VRs σ m m' → VRs σ (l ++ m) (l' ++ m')
  | [], _, _, _, h, k => by simp only [VRs] at h; subst h; exact k
  | a :: r, _, _, _, h, k => by
    simp only [VRs] at h
    obtain ⟨b, l', rfl, h2, h3⟩ := h
    simp only [List.cons_append, VRs]
    exact ⟨b, _, rfl, h2, h3.append k⟩

theorem VRs.cons {σ : Sg} {a : V} {b : Value} {l : List V} {l' : List Value} (h : VR σ a b) (k : VRs σ l l') : VRs σ (a :: l) (b :: l') := by
  simp only [VRs]; exact ⟨b, l', rfl, h, k⟩
theorem VRs.nil {σ : Sg} : VRs σ [] [] := by simp only [VRs]

theorem VRs.get {σ : Sg} : ∀ {l : List V} {l' : List Value}, VRs σ l l' → ∀ (i : Nat) (v : V), l[i]? = some v → ∃ v', l'[i]? = some v' ∧ VR σ v v'
  | [], _, _, i, v, e => by simp at e
  | a :: r, _, h, i, v, e => by
    simp only [VRs] at h
    obtain ⟨b, l', rfl, h2, h3⟩ := h
    cases i with
    | zero => simp at e; subst e; exact ⟨b, by simp, h2⟩
    | succ i => simp at e; obtain ⟨v', h1, h2⟩ := h3.get i v e; exact ⟨v', by simpa using h1, h2⟩

theorem VRs.of_get {σ : Sg} : ∀ {l : List V} {l' : List Value}, l.length = l'.length → (∀ (i : Nat) (v : V), l[i]? = some v → ∃ v', l'[i]? = some v' ∧ VR σ v v') → VRs σ l l'
  | [], l', hl, _ => by
    have : l' = [] := by simpa using hl.symm
    subst this; exact VRs.nil
  | a :: r, [], hl, _ => by simp at hl
  | a :: r, b :: l', hl, h => by
    obtain ⟨v', h1, h2⟩ := h 0 a (by simp)
    simp at h1; subst h1
    refine VRs.cons h2 (VRs.of_get (by simpa using hl) fun i v e => ?_)
    obtain ⟨v', h1, h2⟩ := h (i + 1) v (by simpa using e)
    exact ⟨v', by simpa using h1, h2⟩

theorem VRs.take {σ : Sg} {l : List V} {l' : List Value} (h : VRs σ l l') (n : Nat) : VRs σ (l.take n) (l'.take n) := by
  refine VRs.of_get (by simp [h.length]) fun i v e => ?_
  rw [List.getElem?_take] at e ⊢
  split at e
  · rename_i hi; rw [if_pos hi]; exact h.get i v e
  · cases e
theorem VRs.drop {σ : Sg} {l : List V} {l' : List Value} (h : VRs σ l l') (n : Nat) : VRs σ (l.drop n) (l'.drop n) := by
  refine VRs.of_get (by simp [h.length]) fun i v e => ?_
  rw [List.getElem?_drop] at e ⊢
  exact h.get _ v e

theorem VR.one {σ : Sg} {v : V} {v' : Value} (h : VR σ v v') : v'.oneCell' = v.one := by
  cases v with
  | ptr a => cases a <;> simp only [VR] at h <;> first | (subst h; rfl) | (obtain ⟨_, _, rfl⟩ := h; rfl)
  | slice a len cap ex => cases a <;> simp only [VR] at h <;> first | (obtain ⟨rfl, _⟩ := h; rfl) | (obtain ⟨_, _, _, rfl, _⟩ := h; rfl)
  | map r => cases r <;> simp only [VR] at h <;> first | (subst h; rfl) | (obtain ⟨_, _, rfl⟩ := h; rfl)
  | str s => simp only [VR] at h; obtain ⟨_, rfl, _⟩ := h; rfl
  | func fn a b => simp only [VR] at h; obtain ⟨_, _, _, rfl, _⟩ := h; rfl
  | iface t x => simp only [VR] at h; obtain ⟨_, rfl, _⟩ := h; rfl
  | agg cs => simp only [VR] at h; obtain ⟨_, rfl, _⟩ := h; rfl
  | tuple cs => simp only [VR] at h; obtain ⟨_, rfl, _⟩ := h; rfl
  | _ => simp only [VR] at h; subst h; rfl

theorem VR.cells {σ : Sg} {v : V} {v' : Value} (h : VR σ v v') : VRs σ v.cells v'.cells.toList := by
  cases v with
  | agg cs => simp only [VR] at h; obtain ⟨cs', rfl, h⟩ := h; exact h
  | ptr a => cases a <;> (have h0 := h; simp only [VR] at h) <;> first | (subst h; exact VRs.cons h0 VRs.nil) | (obtain ⟨_, _, rfl⟩ := h; exact VRs.cons h0 VRs.nil)
  | slice a len cap ex => cases a <;> (have h0 := h; simp only [VR] at h) <;> first | (obtain ⟨rfl, _⟩ := h; exact VRs.cons h0 VRs.nil) | (obtain ⟨_, _, _, rfl, _⟩ := h; exact VRs.cons h0 VRs.nil)
  | map r => cases r <;> (have h0 := h; simp only [VR] at h) <;> first | (subst h; exact VRs.cons h0 VRs.nil) | (obtain ⟨_, _, rfl⟩ := h; exact VRs.cons h0 VRs.nil)
  | str s => have h0 := h; simp only [VR] at h; obtain ⟨_, rfl, _⟩ := h; exact VRs.cons h0 VRs.nil
  | func fn a b => have h0 := h; simp only [VR] at h; obtain ⟨_, _, _, rfl, _⟩ := h; exact VRs.cons h0 VRs.nil
  | iface t x => have h0 := h; simp only [VR] at h; obtain ⟨_, rfl, _⟩ := h; exact VRs.cons h0 VRs.nil
  | tuple cs => have h0 := h; simp only [VR] at h; obtain ⟨_, rfl, _⟩ := h; exact VRs.cons h0 VRs.nil
  | _ => have h0 := h; simp only [VR] at h; subst h; exact VRs.cons h0 VRs.nil

theorem VR.undef {σ : Sg} : VR σ vundef undef := by simp only [vundef, VR, undef]; exact ⟨#[], rfl, by simp [VRs]⟩

mutual
theorem VR.ofVal (σ : Sg) : ∀ (n : Nat) (v' : Value) (v : V), ofVal n v' = some v → VR σ v v'
  | 0, _, _, h => by simp [Am.ofVal] at h
  | n + 1, v', v, h => by
    unfold Am.ofVal at h
    split at h
    · cases h; simp [VR]
    · cases h; simp [VR]
    · cases h; simp only [VR]; exact ⟨_, rfl, rfl⟩
    · cases h; simp [VR]
    · cases h; simp [VR]
    · cases h; simp [VR]
    · split at h
      · rename_i h1 h2; cases h; simp only [VR]
        exact ⟨_, _, _, rfl, by simp [FnR], VRs.ofVals σ n _ _ h1, VRs.ofVals σ n _ _ h2⟩
      · cases h
    · cases h; simp [VR]
    · cases h; simp [VR]
    · split at h
      · rename_i h1; cases h; simp only [VR]; exact ⟨_, rfl, VR.ofVal σ n _ _ h1⟩
      · cases h
    · split at h
      · rename_i h1; cases h; simp only [VR]; exact ⟨_, rfl, VRs.ofVals σ n _ _ h1⟩
      · cases h
    · split at h
      · rename_i h1; cases h; simp only [VR]; exact ⟨_, rfl, VRs.ofVals σ n _ _ h1⟩
      · cases h
    · cases h
theorem VRs.ofVals (σ : Sg) : ∀ (n : Nat) (v' : List Value) (v : List V), ofVals n v' = some v → VRs σ v v'
  | _, [], _, h => by simp [Am.ofVals] at h; subst h; exact VRs.nil
  | n, a :: l, v, h => by
    unfold Am.ofVals at h
    split at h
    · rename_i h1 h2; cases h
      exact VRs.cons (VR.ofVal σ n _ _ h1) (VRs.ofVals σ n _ _ h2)
    · cases h
end
end Go.Am
