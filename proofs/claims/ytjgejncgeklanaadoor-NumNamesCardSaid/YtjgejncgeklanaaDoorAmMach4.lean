/-
  A part of the proof that an abstract machine, which runs a program without orders, room or tape, says what the model does. No condition beside what each theorem states.
-/
import Derived.Test.YtjgejncgeklanaaDoorAmMach3
namespace Go.Am
open Go Go.RowKit

def DrOk (P : Program) (ro : Option Nat) (dr : Array Oper → St → Option (Ex × St)) : Prop :=
  ∀ ops st e st', dr ops st = some (e, st') → ∀ id σ base b a cs0 cs w k, Pre σ base ro st b a cs0 cs w →
    Post P σ base ro st.H w b cs0 k (lone (b.atR a (.code (.region id ops true) :: k)) cs w) e st'

section
variable {P : Program} {rec : Task → Option Res} {ro : Option Nat} {dr : Array Oper → St → Option (Ex × St)}

theorem Post.steps {σ : Sg} {base : Nat} {H : AH} {w : World} {b : Frame} {cs0 : List Frame} {k : List Item} {m m1 : Machine} {e : Ex} {st : St}
    (hs : Steps P m m1) (h' : Post P σ base ro H w b cs0 k m1 e st) : Post P σ base ro H w b cs0 k m e st := by
  obtain ⟨σ', a, cs, w', h1, h2, h3⟩ := h'
  exact ⟨σ', a, cs, w', h1, h2, .of_steps hs h3⟩

theorem noBlk_plain {id : Nat} {pre : List Item} (h : noBlk id pre) {x : Item} (hx : ∀ k, exitTo id (x :: k) = exitTo id k) : noBlk id (pre ++ [x]) := by
  intro k
  rw [List.append_assoc, h]
  exact hx k

/-- out of a longer list of things to do -/
theorem Post.pass {σ : Sg} {base : Nat} {H : AH} {w : World} {b : Frame} {cs0 : List Frame} {k : List Item} {m : Machine} {e : Ex} {st : St} {x : Item}
    (h : Post P σ base ro H w b cs0 (x :: k) m e st) (hn : e ≠ .normal) (hx : ∀ id, e = .exit id → ∀ k, exitTo id (x :: k) = exitTo id k) : Post P σ base ro H w b cs0 k m e st := by
  obtain ⟨σ', a, cs, w', h1, h2, h3⟩ := h
  refine ⟨σ', a, cs, w', h1, h2, ?_⟩
  cases e with
  | normal => exact absurd rfl hn
  | exit id =>
    obtain ⟨pre, h4, h5⟩ := h3
    refine ⟨pre ++ [x], noBlk_plain h4 (hx id rfl), ?_⟩
    rw [List.append_assoc]; exact h5
  | ret => exact h3
  | panic v => exact h3

theorem Post.next {σ : Sg} {base : Nat} {H : AH} {w : World} {b : Frame} {cs0 : List Frame} {k k2 : List Item} {m : Machine} {e : Ex} {st st2 : St}
    (h : Post P σ base ro H w b cs0 k m .normal st)
    (h2 : ∀ σ' a cs w', Pre σ' base ro st b a cs0 cs w' → Post P σ' base ro st.H w' b cs0 k2 (lone (b.atR a k) cs w') e st2) : Post P σ base ro H w b cs0 k2 m e st2 := by
  obtain ⟨σ', a, cs, w', h1, h3, h4⟩ := h
  exact Post.trans h1 h4 (h2 σ' a cs w' h3)

theorem step_scope {b : Frame} {a : Act} {k : List Item} {cs : List Frame} {w : World} {c : Code} :
    step P (lone (b.atR a (.code (.scope c) :: k)) cs w) = .next (lone (b.atR a (.code c :: .inScope c :: k)) cs w) :=
  step_lone_go (by simp [stepG, stepG.exec, Frame.atR])
theorem step_inScope {b : Frame} {a : Act} {k : List Item} {cs : List Frame} {w : World} {c : Code} :
    step P (lone (b.atR a (.inScope c :: k)) cs w) = .next (lone (b.atR a k) cs w) :=
  step_lone_go (by simp [stepG, stepG.exec, Frame.atR])

theorem evC_ok (hrec : RecOk P rec) (hdr : DrOk P ro dr) (c : Code) : ∀ st e st', evC P dr rec ro c st = some (e, st') → ∀ σ base b a cs0 cs w k, Pre σ base ro st b a cs0 cs w →
    Post P σ base ro st.H w b cs0 k (lone (b.atR a (.code c :: k)) cs w) e st' := by
  induction c with
  | skip =>
    intro st e st' he σ base b a cs0 cs w k hp
    simp only [evC] at he; cases he
    exact ⟨σ, a, cs, w, Sim.refl hp.sr.hr, hp, .one stepR_skip⟩
  | label l =>
    intro st e st' he σ base b a cs0 cs w k hp
    simp only [evC] at he; cases he
    exact ⟨σ, a, cs, w, Sim.refl hp.sr.hr, hp, .one stepR_label⟩
  | region id ops draw =>
    intro st e st' he σ base b a cs0 cs w k hp
    simp only [evC] at he
    cases draw with
    | true => exact hdr ops st e st' he id σ base b a cs0 cs w k hp
    | false =>
      simp only [Bool.false_eq_true, if_false] at he
      exact Post.steps (.one stepR_region) (evO_ok hrec _ _ (ixs_range ops) st e st' he σ base b a cs0 cs w k hp)
  | seq x y ihx ihy =>
    intro st e st' he σ base b a cs0 cs w k hp
    simp only [evC] at he
    refine Post.steps (.one stepR_seq) ?_
    split at he
    · rename_i st1 h1
      exact Post.next (ihx st _ st1 h1 σ base b a cs0 cs w (.code y :: k) hp) fun σ' a' cs' w' hp' => ihy st1 e st' he σ' base b a' cs0 cs' w' k hp'
    · rename_i hne
      exact Post.pass (ihx st _ st' he σ base b a cs0 cs w (.code y :: k) hp) (by rintro rfl; exact hne _ he) (fun _ _ _ => rfl)
  | cond c x y ihx ihy =>
    intro st e st' he σ base b a cs0 cs w k hp
    simp only [evC] at he
    split at he
    · rename_i hc
      have h1 := eval_ok hp.sr hc
      simp only [VR] at h1
      exact Post.steps (.one (stepR_cond h1)) (ihx st _ st' he σ base b a cs0 cs w k hp)
    · rename_i hc
      have h1 := eval_ok hp.sr hc
      simp only [VR] at h1
      exact Post.steps (.one (stepR_cond h1)) (ihy st _ st' he σ base b a cs0 cs w k hp)
    · cases he
  | block id c ih =>
    intro st e st' he σ base b a cs0 cs w k hp
    simp only [evC] at he
    refine Post.steps (.one stepR_block) ?_
    split at he
    · rename_i i st1 h1
      have h2 := ih st _ st1 h1 σ base b a cs0 cs w (.inBlock id :: k) hp
      split at he
      · rename_i hi; subst hi; cases he
        obtain ⟨σ', a', cs', w', h3, h4, pre, h5, h6⟩ := h2
        refine ⟨σ', a', cs', w', h3, h4, h6.trans (.one (stepR_exit ?_))⟩
        rw [h5]; simp [exitTo]
      · rename_i hi; cases he
        exact Post.pass h2 (by simp) (fun id' e => by cases e; intro k; simp [exitTo]; intro h; exact absurd h.symm hi)
    · rename_i hne
      have h2 := ih st _ st' he σ base b a cs0 cs w (.inBlock id :: k) hp
      cases e with
      | normal => exact Post.next h2 fun σ' a' cs' w' hp' => ⟨σ', a', cs', w', Sim.refl hp'.sr.hr, hp', .one stepR_inBlock⟩
      | exit i => exact absurd he (hne i st')
      | ret => exact Post.pass h2 (by simp) (by simp)
      | panic v => exact Post.pass h2 (by simp) (by simp)
  | loop c ih =>
    intro st e st' he σ base b a cs0 cs w k hp
    simp only [evC] at he
    split at he
    · rename_i e1 st1 h1; cases he
      exact Post.steps (.one stepR_loop) (hrec.loop ro c st e st' h1 σ base b a cs0 cs w k hp)
    · cases he
  | rangeFunc f ps asg body ih1 ih2 =>
    intro st e st' he σ base b a cs0 cs w k hp
    simp only [evC] at he
    exact range_ok hrec he k hp
  | exit i =>
    intro st e st' he σ base b a cs0 cs w k hp
    simp only [evC] at he; cases he
    exact ⟨σ, a, cs, w, Sim.refl hp.sr.hr, hp, [], fun _ => rfl, .refl _ _⟩
  | scope c ih =>
    intro st e st' he σ base b a cs0 cs w k hp
    simp only [evC] at he
    refine Post.steps (.one step_scope) ?_
    have h2 := ih st _ st' he σ base b a cs0 cs w (.inScope c :: k) hp
    cases e with
    | normal => exact Post.next h2 fun σ' a' cs' w' hp' => ⟨σ', a', cs', w', Sim.refl hp'.sr.hr, hp', .one step_inScope⟩
    | exit i => exact Post.pass h2 (by simp) (fun _ _ _ => rfl)
    | ret => exact Post.pass h2 (by simp) (by simp)
    | panic v => exact Post.pass h2 (by simp) (by simp)
  | goto l => intro st e st' he; simp [evC] at he
  | ret =>
    intro st e st' he σ base b a cs0 cs w k hp
    simp only [evC] at he; cases he
    exact ⟨σ, a, cs, w, Sim.refl hp.sr.hr, hp, k, .refl _ _⟩
  | refuse s => intro st e st' he; simp [evC] at he
end
end Go.Am
