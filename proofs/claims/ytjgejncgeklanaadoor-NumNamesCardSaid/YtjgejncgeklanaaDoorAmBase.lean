/-
  A part of the proof that an abstract machine, which runs a program without orders, room or tape, says what the model does. No condition beside what each theorem states.
-/
import GoSem.Step
import Derived.Calls
namespace Go.Am
open Go

/-! ### tries -/
inductive PT (α : Type) where
  | nil
  | node (l : PT α) (v : Option α) (r : PT α)
  deriving Inhabited

namespace PT
variable {α : Type}
def get : PT α → Nat → Option α
  | .nil, _ => none
  | .node l v r, n => cond (Nat.beq n 0) v (cond (Nat.beq (n % 2) 1) (l.get (n / 2)) (r.get (n / 2 - 1)))

def single : Nat → Nat → α → PT α
  | 0, _, v => .node .nil (some v) .nil
  | f + 1, n, v => cond (Nat.beq n 0) (.node .nil (some v) .nil)
      (cond (Nat.beq (n % 2) 1) (.node (single f (n / 2) v) none .nil) (.node .nil none (single f (n / 2 - 1) v)))

def set : PT α → Nat → α → PT α
  | .nil, n, x => single n n x
  | .node l v r, n, x => cond (Nat.beq n 0) (.node l (some x) r)
      (cond (Nat.beq (n % 2) 1) (.node (l.set (n / 2) x) v r) (.node l v (r.set (n / 2 - 1) x)))

def singleK {β : Type} : Nat → Nat → α → (PT α → β) → β
  | 0, _, v, k => k (.node .nil (some v) .nil)
  | f + 1, n, v, k => cond (Nat.beq n 0) (k (.node .nil (some v) .nil))
      (cond (Nat.beq (n % 2) 1) (singleK f (n / 2) v fun t => k (.node t none .nil)) (singleK f (n / 2 - 1) v fun t => k (.node .nil none t)))

/-- 'set', its answer written out. -/
def setK {β : Type} : PT α → Nat → α → (PT α → β) → β
  | .nil, n, x, k => singleK n n x k
  | .node l v r, n, x, k => cond (Nat.beq n 0) (k (.node l (some x) r))
      (cond (Nat.beq (n % 2) 1) (l.setK (n / 2) x fun t => k (.node t v r)) (r.setK (n / 2 - 1) x fun t => k (.node l v t)))

theorem singleK_eq {β : Type} (f n : Nat) (v : α) (k : PT α → β) : singleK f n v k = k (single f n v) := by
  induction f generalizing n k with
  | zero => rfl
  | succ f ih =>
    simp only [singleK, single, ih]
    cases Nat.beq n 0 <;> cases Nat.beq (n % 2) 1 <;> rfl

theorem setK_eq {β : Type} (t : PT α) (n : Nat) (x : α) (k : PT α → β) : t.setK n x k = k (t.set n x) := by
  induction t generalizing n k with
  | nil => exact singleK_eq n n x k
  | node l v r ihl ihr =>
    simp only [setK, set, ihl, ihr]
    cases Nat.beq n 0 <;> cases Nat.beq (n % 2) 1 <;> rfl

theorem get_single (f n m : Nat) (v : α) (h : n ≤ f) : (single f n v).get m = if n = m then some v else none := by
  induction f generalizing n m with
  | zero =>
    obtain rfl : n = 0 := by omega
    cases m with
    | zero => rfl
    | succ m => simp only [single, get]; cases Nat.beq ((m+1) % 2) 1 <;> simp [Nat.beq] <;> rfl
  | succ f ih =>
    simp only [single]
    by_cases hn : n = 0
    · subst hn
      cases m with
      | zero => rfl
      | succ m => simp [get, show Nat.beq (m+1) 0 = false from rfl]
    · have hb : Nat.beq n 0 = false := by cases n with | zero => exact absurd rfl hn | succ n => rfl
      simp only [hb, cond_false]
      by_cases ho : n % 2 = 1
      · have hb1 : Nat.beq (n % 2) 1 = true := by rw [ho]; rfl
        simp only [hb1, cond_true, get]
        cases m with
        | zero => simp [hn]
        | succ m =>
          simp only [show Nat.beq (m+1) 0 = false from rfl, cond_false]
          by_cases hm : (m+1) % 2 = 1
          · have hb2 : Nat.beq ((m+1) % 2) 1 = true := by rw [hm]; rfl
            simp only [hb2, cond_true]
            rw [ih _ _ (by omega)]
            by_cases e : n = m + 1
            · subst e; simp
            · have : ¬ n / 2 = (m + 1) / 2 := by omega
              simp [e, this]
          · have hb2 : Nat.beq ((m+1) % 2) 1 = false := by have : (m+1) % 2 = 0 := by omega
                                                           rw [this]; rfl
            simp only [hb2, cond_false]
            have : ¬ n = m + 1 := by intro e; subst e; exact hm ho
            simp [this]
      · have hb1 : Nat.beq (n % 2) 1 = false := by have : n % 2 = 0 := by omega
                                                   rw [this]; rfl
        simp only [hb1, cond_false, get]
        cases m with
        | zero => simp [hn]
        | succ m =>
          simp only [show Nat.beq (m+1) 0 = false from rfl, cond_false]
          by_cases hm : (m+1) % 2 = 1
          · have hb2 : Nat.beq ((m+1) % 2) 1 = true := by rw [hm]; rfl
            simp only [hb2, cond_true]
            have : ¬ n = m + 1 := by intro e; subst e; exact ho hm
            simp [this]
          · have hb2 : Nat.beq ((m+1) % 2) 1 = false := by have : (m+1) % 2 = 0 := by omega
                                                           rw [this]; rfl
            simp only [hb2, cond_false]
            rw [ih _ _ (by omega)]
            by_cases e : n = m + 1
            · subst e; simp
            · have : ¬ n / 2 - 1 = (m + 1) / 2 - 1 := by omega
              simp [e, this]

theorem get_set (t : PT α) (n m : Nat) (x : α) : (t.set n x).get m = if n = m then some x else t.get m := by
  induction t generalizing n m with
  | nil => simp only [set]; rw [get_single _ _ _ _ (Nat.le_refl _)]; simp [get]
  | node l v r ihl ihr =>
    simp only [set]
    by_cases hn : n = 0
    · subst hn
      cases m with
      | zero => rfl
      | succ m => simp [get, Nat.beq]
    · have hb : Nat.beq n 0 = false := by cases n with | zero => exact absurd rfl hn | succ n => rfl
      simp only [hb, cond_false]
      by_cases ho : n % 2 = 1
      · have hb1 : Nat.beq (n % 2) 1 = true := by rw [ho]; rfl
        simp only [hb1, cond_true, get]
        cases m with
        | zero => simp [hn]
        | succ m =>
          simp only [show Nat.beq (m+1) 0 = false from rfl, cond_false]
          by_cases hm : (m+1) % 2 = 1
          · have hb2 : Nat.beq ((m+1) % 2) 1 = true := by rw [hm]; rfl
            simp only [hb2, cond_true]
            rw [ihl]
            by_cases e : n = m + 1
            · subst e; simp
            · have : ¬ n / 2 = (m + 1) / 2 := by omega
              simp [e, this]
          · have hb2 : Nat.beq ((m+1) % 2) 1 = false := by have : (m+1) % 2 = 0 := by omega
                                                           rw [this]; rfl
            simp only [hb2, cond_false]
            have : ¬ n = m + 1 := by intro e; subst e; exact hm ho
            simp [this]
      · have hb1 : Nat.beq (n % 2) 1 = false := by have : n % 2 = 0 := by omega
                                                   rw [this]; rfl
        simp only [hb1, cond_false, get]
        cases m with
        | zero => simp [hn]
        | succ m =>
          simp only [show Nat.beq (m+1) 0 = false from rfl, cond_false]
          by_cases hm : (m+1) % 2 = 1
          · have hb2 : Nat.beq ((m+1) % 2) 1 = true := by rw [hm]; rfl
            simp only [hb2, cond_true]
            have : ¬ n = m + 1 := by intro e; subst e; exact ho hm
            simp [this]
          · have hb2 : Nat.beq ((m+1) % 2) 1 = false := by have : (m+1) % 2 = 0 := by omega
                                                           rw [this]; rfl
            simp only [hb2, cond_false]
            rw [ihr]
            by_cases e : n = m + 1
            · subst e; simp
            · have : ¬ n / 2 - 1 = (m + 1) / 2 - 1 := by omega
              simp [e, this]
end PT
end Go.Am
