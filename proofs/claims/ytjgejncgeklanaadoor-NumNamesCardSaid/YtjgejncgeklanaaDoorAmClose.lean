/-
  A part of the proof that an abstract machine, which runs a program without orders, room or tape, says what the model does. No condition beside what each theorem states.
-/
import Derived.Test.YtjgejncgeklanaaDoorAmDraw5
import Derived.Lib.LaidTab
import Derived.ChangeSame
namespace Go.Am
open Go Go.RowKit

/-- the run has come back with 'true' -/
def okB : Option Res → Bool
  | some (.en (.ret (.bool true)) _ _) => true
  | _ => false

theorem calls_true {P : Program} (hm : P.follows .mixedOrders = true) {n : Nat} {f : FuncId} {args : List V} {H : AH} (he : okB (ev P (evDr P) n (.call f args .no H)) = true)
    {σ : Sg} {base : Nat} {w : World} {args' : Array Value} (hr : HR σ base H w) (ha : VRs σ args args'.toList) :
    Calls P f args' w fun e w' => e = .returned (.bool true) ∧ Below base w w' := by
  unfold okB at he
  split at he
  · rename_i rc H' h
    refine (calls_of_am hm h hr ha).mono fun e w' h => ?_
    obtain ⟨v', σ', h1, h2, h3⟩ := h
    simp only [VR] at h2
    subst h2
    exact ⟨h1, h3.below⟩
  · cases he

/-- a heap of package-level variables, each with its cells -/
def gH (gs : List (List V)) : AH := ⟨gs.length, go 0 gs, gs.length⟩
  where
  go : Nat → List (List V) → PT AObj
    | _, [] => .nil
    | i, c :: r => (go (i + 1) r).set i (.cells c false none)

theorem gH_get : ∀ (l : List (List V)) (i j : Nat), (gH.go i l).get j = if i ≤ j then (l[j - i]?).map (fun c => .cells c false none) else none
  | [], i, j => by simp [gH.go, PT.get]
  | v :: l, i, j => by
    simp only [gH.go]
    rw [PT.get_set, gH_get l (i + 1) j]
    by_cases h : i = j
    · subst h; simp
    · rw [if_neg h]
      by_cases h2 : i + 1 ≤ j
      · rw [if_pos h2, if_pos (by omega)]
        have : j - i = (j - (i + 1)) + 1 := by omega
        rw [this]; simp
      · rw [if_neg h2, if_neg (by omega)]

/-- package-level variables that hold plain values -/
theorem gH_ok {gs : List (List V)} {w : World} (hsz : gs.length ≤ w.heap.size)
    (hc : ∀ g c, gs[g]? = some c → ContR (fun b => if b < gs.length then some ⟨b, 0, 0⟩ else none) w ⟨g, 0, 0⟩ c) :
    HR (fun b => if b < gs.length then some ⟨b, 0, 0⟩ else none) w.heap.size (gH gs) w := by
  have hget : ∀ b, (gH gs).get b = (gs[b]?).map (fun c => .cells c false none) := by
    intro b
    show (gH.go 0 gs).get b = _
    rw [gH_get]; simp
  refine ⟨fun b L e => ?_, fun b L e => ?_, fun b L o e eo => ?_, fun x y Lx Ly ox oy kx ky hx hy ex ey hkx hky hne => ?_, fun b hb => ?_, Nat.le_refl _, fun b c own g e => ?_, fun b cur e => ?_, fun g hg => ?_⟩
  · split at e
    · assumption
    · cases e
  · split at e
    · cases e; show b < _; omega
    · cases e
  · split at e
    · rename_i hb; cases e
      rw [hget] at eo
      cases hg : gs[b]? with
      | none => rw [hg] at eo; cases eo
      | some c =>
        rw [hg] at eo; cases eo
        exact ⟨(fun h => by cases h), (fun _ => ⟨(by show b < _; omega), rfl⟩), fun _ => hc b c hg⟩
    · cases e
  · rw [hget] at ex
    cases hg : gs[x]? with
    | none => rw [hg] at ex; cases ex
    | some c => rw [hg] at ex; cases ex; simp [keyOf] at hkx
  · rw [hget]
    have : gs[b]? = none := List.getElem?_eq_none_iff.2 hb
    rw [this]; rfl
  · rw [hget] at e
    cases hg : gs[b]? with
    | none => rw [hg] at e; cases e
    | some c => rw [hg] at e; simp at e
  · rw [hget] at e
    cases hg : gs[b]? with
    | none => rw [hg] at e; cases e
    | some c => rw [hg] at e; simp at e
  · exact ⟨0, if_pos hg⟩

/-- integers of one kind -/
def intsV (k : IntKind) : List Int → List V
  | [] => []
  | z :: r => .int k z :: intsV k r
theorem intsV_get (k : IntKind) : ∀ (zs : List Int) (i : Nat), (intsV k zs)[i]? = (zs[i]?).map (V.int k)
  | [], i => by simp [intsV]
  | z :: r, i => by
    cases i with
    | zero => simp [intsV]
    | succ i => simp only [intsV, List.getElem?_cons_succ]; exact intsV_get k r i
theorem contR_tab {P : Program} {w : World} {name : String} {k : IntKind} {zs : List Int} {g : Nat} (h : Lib.TabIs P w name k zs) (hg : P.globalNamed name = some g) (σ : Sg) : ContR σ w ⟨g, 0, 0⟩ (intsV k zs) := by
  intro i v e
  rw [intsV_get] at e
  cases hz : zs[i]? with
  | none => rw [hz] at e; cases e
  | some z =>
    rw [hz] at e
    simp at e; subst e
    have hi : i < zs.length := (List.getElem?_eq_some_iff.1 hz).1
    refine ⟨.int k z, ?_, by simp [VR]⟩
    have := h.cell hg i hi
    simpa [List.getD, hz] using this
theorem tab_size {P : Program} {w : World} {name : String} {k : IntKind} {zs : List Int} {g : Nat} (h : Lib.TabIs P w name k zs) (hg : P.globalNamed name = some g) (hz : 0 < zs.length) : g < w.heap.size := by
  have := h.cell hg 0 hz
  rcases Nat.lt_or_ge g w.heap.size with h1 | h1
  · exact h1
  · have h2 : w.heap[g]? = none := Array.getElem?_eq_none h1
    unfold World.cell? at this
    simp [h2] at this
end Go.Am
