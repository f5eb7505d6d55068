/-
  A part of the proof that an abstract machine, which runs a program without orders, room or tape, says what the model does. No condition beside what each theorem states.
-/
import Derived.Test.YtjgejncgeklanaaDoorAmOps
import Derived.Test.YtjgejncgeklanaaDoorAmGrow
import Derived.Tactics
namespace Go.Am
open Go Go.RowKit

def DefR (σ : Sg) : ADef → Deferred → Prop
  | .call f args, d => ∃ a1 c1, d.target = .fn (.func f) c1 ∧ d.args = a1 ∧ VRs σ args (a1.toList ++ c1.toList)
  | .collected D, d => ∃ L, σ D = some L ∧ d = { target := .collected L.r, args := #[] }

/-- what the model's operation comes to, beside what the abstract one does -/
def NxR (σ : Sg) (base : Nat) (H : AH) (w : World) (r : Result Next) : Nx → Prop
  | .pv v => ∃ v', r = .ok (.value v') w ∧ VR σ v v'
  | .new o mk => ∃ o' n v', r = .ok (.value v') (w.alloc o') ∧ (∀ b, keyOf o b = some (b, false)) ∧
      (∀ σ' H' b, Le σ σ' → ObjR σ' base H' (w.alloc o') b ⟨w.heap.size, 0, n⟩ o) ∧ (∀ b, VR (σ.ins b ⟨w.heap.size, 0, n⟩) (mk b) v')
  | .eff v H' => ∃ σ' w' nx v', r = .ok nx w' ∧ (nx = .value v' ∨ nx = .skip ∧ v' = undef) ∧ VR σ' v v' ∧ Sim σ base H w σ' H' w'
  | .call f args => ∃ args' : Array Value, r = .ok (.enter f args') w ∧ VRs σ args args'.toList
  | .round l args => ∃ L, ∃ args' : Array Value, σ l = some L ∧ VRs σ args args'.toList ∧ ∃ P : Program, r = (Instr.yield L.r args').run P w
  | .defer d => ∃ d', r = .ok (.defer d') w ∧ DefR σ d d'
  | .recover => r = .ok .recover w
  | .panic v => ∃ v', r = .halt (.panic v') w ∧ VR σ v v'

structure StR (σ : Sg) (base : Nat) (tm : PT V) (nt : Nat) (H : AH) (a : Act) (w : World) : Prop where
  hr : HR σ base H w
  tm : TmR σ nt tm a.tmps

section
variable {σ : Sg} {base : Nat} {tm : PT V} {nt : Nat} {H : AH} {a : Act} {w : World}

theorem eval_ok (h : StR σ base tm nt H a w) {x : Operand} {v : V} (hx : aeval H.ng tm x = some v) : VR σ v (a.eval x) := by
  cases x with
  | tmp t =>
    simp only [aeval] at hx; cases hx
    exact h.tm.2 t
  | const c => exact VR.ofVal σ 20 c v hx
  | global g =>
    simp only [aeval] at hx
    split at hx
    · rename_i hg
      cases hx
      obtain ⟨n, hn⟩ := h.hr.glob g hg
      simp only [VR, Act.eval]
      exact ⟨_, hn, rfl⟩
    · cases hx
  | func f =>
    simp only [aeval] at hx; cases hx
    simp only [VR, Act.eval]
    exact ⟨_, _, _, rfl, by simp [FnR], by simp [VRs], by simp [VRs]⟩
end
end Go.Am
