/-
  A part of the proof that an abstract machine, which runs a program without orders, room or tape, says what the model does. No condition beside what each theorem states.
-/
import Derived.Test.YtjgejncgeklanaaDoorAmCode
import Derived.Test.YtjgejncgeklanaaDoorAmSound16
import Derived.AtR
import Derived.Recover
import Derived.RangeFuncNested
namespace Go.Am
open Go Go.RowKit

def DefsR (σ : Sg) : List ADef → List Deferred → Prop
  | [], l => l = []
  | d :: r, l => ∃ d' l', l = d' :: l' ∧ DefR σ d d' ∧ DefsR σ r l'

theorem DefR.mono {σ σ' : Sg} (hle : Le σ σ') {d : ADef} {d' : Deferred} (h : DefR σ d d') : DefR σ' d d' := by
  cases d with
  | call f args =>
    obtain ⟨a1, c1, h1, h2, h3⟩ := h
    exact ⟨a1, c1, h1, h2, VRs.mono hle _ _ h3⟩
  | collected D =>
    obtain ⟨L, h1, h2⟩ := h
    exact ⟨L, hle _ _ h1, h2⟩

theorem DefsR.mono {σ σ' : Sg} (hle : Le σ σ') : ∀ {l : List ADef} {l' : List Deferred}, DefsR σ l l' → DefsR σ' l l'
  | [], _, h => h
  | d :: r, _, h => by
    obtain ⟨d', l', h1, h2, h3⟩ := h
    exact ⟨d', l', h1, h2.mono hle, h3.mono hle⟩

/-- the callers, by what recover would do -/
def CsAt (σ : Sg) (kd : CallKind) (cs0 : List Frame) : RecSt → List Frame → Prop
  | .no, cs => cs = cs0 ∧ (kd = .normal ∨ kd = .deferred ∧ ∃ c r, cs0 = c :: r ∧ c.mode = .returning)
  | .can v, cs => cs = cs0 ∧ kd = .deferred ∧ ∃ c r v', cs0 = c :: r ∧ c.mode = .panicking [{ v := v', recovered := false }] ∧ VR σ v v'
  | .done, cs => kd = .deferred ∧ ∃ c r v', cs0 = c :: r ∧ cs = { c with mode := .panicking [{ v := v', recovered := true }] } :: r

theorem CsAt.mono {σ σ' : Sg} (hle : Le σ σ') {kd : CallKind} {cs0 : List Frame} {rc : RecSt} {cs : List Frame} (h : CsAt σ kd cs0 rc cs) : CsAt σ' kd cs0 rc cs := by
  cases rc with
  | no => exact h
  | can v =>
    obtain ⟨h1, h2, c, r, v', h3, h4, h5⟩ := h
    exact ⟨h1, h2, c, r, v', h3, h4, h5.mono hle⟩
  | done => exact h

def RoR (σ : Sg) (b : Frame) : Option Nat → Prop
  | none => b.roundOf = none
  | some l => ∃ L, σ l = some L ∧ b.roundOf = some L.r ∧ b.kind = .normal

theorem RoR.mono {σ σ' : Sg} (hle : Le σ σ') {b : Frame} {ro : Option Nat} (h : RoR σ b ro) : RoR σ' b ro := by
  cases ro with
  | none => exact h
  | some l => obtain ⟨L, h1, h2⟩ := h; exact ⟨L, hle _ _ h1, h2⟩

def noBlk (id : Nat) (pre : List Item) : Prop := ∀ k, exitTo id (pre ++ k) = exitTo id k
def noCall : List Item → Prop
  | .call _ _ _ _ :: _ => False
  | _ => True

/-- in what way the code is left -/
def ArrA (P : Program) (m : Machine) (b : Frame) (k : List Item) (a : Act) (cs : List Frame) (w : World) (σ : Sg) : Ex → Prop
  | .normal => Steps P m (lone (b.atR a k) cs w)
  | .exit id => ∃ pre, noBlk id pre ∧ Steps P m (lone (b.atR a (.code (.exit id) :: (pre ++ k))) cs w)
  | .ret => ∃ todo, Steps P m (lone (b.atR a (.code .ret :: todo)) cs w)
  | .panic v => ∃ todo v', VR σ v v' ∧ noCall todo ∧ Steps P m (lone { b.atR a todo with mode := .panicking [{ v := v', recovered := false }] } cs w)

theorem ArrA.of_steps {P : Program} {m m1 : Machine} {b : Frame} {k : List Item} {a : Act} {cs : List Frame} {w : World} {σ : Sg} {e : Ex}
    (h : Steps P m m1) (h' : ArrA P m1 b k a cs w σ e) : ArrA P m b k a cs w σ e := by
  cases e with
  | normal => exact h.trans h'
  | exit id => obtain ⟨pre, h1, h2⟩ := h'; exact ⟨pre, h1, h.trans h2⟩
  | ret => obtain ⟨todo, h2⟩ := h'; exact ⟨todo, h.trans h2⟩
  | panic v => obtain ⟨todo, v', h1, h0, h2⟩ := h'; exact ⟨todo, v', h1, h0, h.trans h2⟩

/-- the state of a running activation -/
structure Pre (σ : Sg) (base : Nat) (ro : Option Nat) (st : St) (b : Frame) (a : Act) (cs0 cs : List Frame) (w : World) : Prop where
  sr : StR σ base st.tmps st.nt st.H a w
  df : DefsR σ st.defers a.defers
  cs : CsAt σ b.kind cs0 st.rc cs
  ro : RoR σ b ro

def Post (P : Program) (σ : Sg) (base : Nat) (ro : Option Nat) (H : AH) (w : World) (b : Frame) (cs0 : List Frame) (k : List Item) (m : Machine) (e : Ex) (st : St) : Prop :=
  ∃ σ' a cs w', Sim σ base H w σ' st.H w' ∧ Pre σ' base ro st b a cs0 cs w' ∧ ArrA P m b k a cs w' σ' e

theorem Post.trans {P : Program} {σ σ1 : Sg} {base : Nat} {ro : Option Nat} {H H1 : AH} {w w1 : World} {b : Frame} {cs0 : List Frame} {k : List Item} {m m1 : Machine} {e : Ex} {st : St}
    (h : Sim σ base H w σ1 H1 w1) (hs : Steps P m m1) (h' : Post P σ1 base ro H1 w1 b cs0 k m1 e st) : Post P σ base ro H w b cs0 k m e st := by
  obtain ⟨σ', a, cs, w', h1, h2, h3⟩ := h'
  exact ⟨σ', a, cs, w', h.trans h1, h2, .of_steps hs h3⟩

def EndR (σ : Sg) : AEnd → Ending → Prop
  | .ret v, e => ∃ v', e = .returned v' ∧ VR σ v v'
  | .pan v, e => ∃ v', e = .panicked [{ v := v', recovered := false }] ∧ VR σ v v'

/-- what an answer of 'rec' says -/
structure RecOk (P : Program) (rec : Task → Option Res) : Prop where
  loop : ∀ ro c st e st', rec (.loop ro c st) = some (.ex e st') →
    ∀ σ base b a cs0 cs w k, Pre σ base ro st b a cs0 cs w →
      Post P σ base ro st.H w b cs0 k (lone (b.atR a (.code c :: .inLoop c :: k)) cs w) e st'
  call : ∀ f args rc H e rc' H', rec (.call f args rc H) = some (.en e rc' H') →
    ∀ σ base w (args' : Array Value) kd cs, HR σ base H w → VRs σ args args'.toList → CsAt σ kd cs rc cs →
      ∃ σ' w' cs' fr' e', Sim σ base H w σ' H' w' ∧ CsAt σ' kd cs rc' cs' ∧ EndR σ' e e' ∧
        Steps P (lone (Frame.enter P f args' kd) cs w) (lone fr' cs' w') ∧ fr'.fn = f ∧ fr'.kind = kd ∧ fr'.going P w' e'
  round : ∀ l args H e rc' H', rec (.round l args H) = some (.en e rc' H') →
    ∀ σ base w (args' : Array Value) L, HR σ base H w → VRs σ args args'.toList → σ l = some L →
      ∃ fn tmps assign body, (∀ P, (Instr.yield L.r args').run P w = .ok (.round L.r fn tmps assign body) w) ∧ ∀ c cs,
        ∃ σ' w', Sim σ base H w σ' H' w' ∧ rc' = .no ∧
          match e with
          | .ret v => ∃ v', VR σ' v v' ∧ Steps P (lone (Frame.round L.r fn tmps assign body .normal) (c :: cs) w) (lone (c.finish v') cs w')
          | .pan v => ∃ v', VR σ' v v' ∧ Steps P (lone (Frame.round L.r fn tmps assign body .normal) (c :: cs) w) (lone (c.raise [{ v := v', recovered := false }]) cs w')

theorem getD_set (a : Array Value) (d i : Nat) (v : Value) (h : d < a.size) : (a.setIfInBounds d v).getD i undef = if d = i then v else a.getD i undef := by
  simp only [Array.getD_eq_getD_getElem?, Array.getElem?_setIfInBounds]
  split
  · rename_i e; subst e; simp
  · rfl

theorem TmR.set {σ : Sg} {nt : Nat} {tm : PT V} {a : Array Value} (h : TmR σ nt tm a) {d : Nat} (hd : d < nt) {v : V} {v' : Value} (hv : VR σ v v') :
    TmR σ nt (tm.set d v) (a.setIfInBounds d v') := by
  refine ⟨by simpa using h.1, fun i => ?_⟩
  rw [PT.get_set, getD_set _ _ _ _ (by rw [h.1]; exact hd)]
  split
  · exact hv
  · exact h.2 i

theorem put_ok {σ σ' : Sg} {base : Nat} {ro : Option Nat} {st st' : St} {b : Frame} {a : Act} {cs0 cs : List Frame} {w w' : World} {H' : AH}
    (h : Pre σ base ro st b a cs0 cs w) (hs : Sim σ base st.H w σ' H' w') {dst : Option Tmp} {v : V} {v' : Value} (hv : VR σ' v v') (e : st.put dst v H' = some st') :
    Pre σ' base ro st' b (a.put dst v') cs0 cs w' ∧ st'.H = H' := by
  have htm := h.sr.tm.mono hs.le
  cases dst with
  | none =>
    simp only [St.put] at e; cases e
    exact ⟨⟨⟨hs.hr, htm⟩, h.df.mono hs.le, h.cs.mono hs.le, h.ro.mono hs.le⟩, rfl⟩
  | some d =>
    simp only [St.put] at e
    split at e
    · rename_i hd; cases e
      exact ⟨⟨⟨hs.hr, htm.set hd hv⟩, h.df.mono hs.le, h.cs.mono hs.le, h.ro.mono hs.le⟩, rfl⟩
    · cases e

theorem wanted_ok {σ : Sg} {base : Nat} {tm : PT V} {nt : Nat} {H : AH} {a : Act} {w : World} (h : StR σ base tm nt H a w) {ops : Array Oper} {o : Oper} :
    wantedA ops tm o.guard = true → Region.wanted o (yielded ops a.tmps) = true := by
  intro e
  unfold wantedA at e
  unfold Region.wanted
  split at e
  · rename_i hg; rw [hg]
  · rename_i j want hg
    rw [hg]
    simp only
    split at e
    · rename_i d hd
      have h1 := h.tm.2 d
      unfold yielded
      rw [hd]
      split at e
      · rename_i v hv
        rw [hv] at h1
        simp only [VR] at h1
        have h2 : a.tmps[d]? = some (.bool v) := by
          rw [Array.getD_eq_getD_getElem?] at h1
          cases h3 : a.tmps[d]? with
          | none => rw [h3] at h1; simp [undef] at h1
          | some u => rw [h3] at h1; simp at h1; rw [h1]
        simp only [Option.bind_some, h2]
        simpa using e
      · cases e
    · cases e

theorem oDefer_defer {ng : Nat} {tm : PT V} {c : Call} {nx : Nx} (h : oDefer ng tm c = some nx) : ∃ d, nx = .defer d := by
  unfold oDefer at h
  obtain ⟨args, _, h⟩ := bind_some h
  split at h
  · split at h
    · cases h; exact ⟨_, rfl⟩
    · cases h
  · cases h

/-- guards that are not met: the model's own test is not met either -/
theorem unwanted_ok {σ : Sg} {base : Nat} {tm : PT V} {nt : Nat} {H : AH} {a : Act} {w : World} (h : StR σ base tm nt H a w) {ops : Array Oper} {o : Oper} :
    wantedA ops tm o.guard = false → Region.wanted o (yielded ops a.tmps) = false := by
  intro e
  unfold wantedA at e
  unfold Region.wanted
  split at e
  · cases e
  · rename_i j want hg
    rw [hg]
    simp only
    unfold yielded
    split at e
    · rename_i d hd
      have h1 := h.tm.2 d
      rw [hd]
      simp only [Option.bind_some]
      split
      · rename_i hb
        have h2 : a.tmps.getD d undef = .bool ‹Bool› := by
          rw [Array.getD_eq_getD_getElem?, hb]; rfl
        rw [h2] at h1
        have h4 : (tm.get d).getD vundef = .bool ‹Bool› := by
          generalize (tm.get d).getD vundef = x at h1
          cases x with
          | bool b => simp only [VR] at h1; cases h1; rfl
          | ptr p => cases p <;> simp [VR] at h1
          | slice p l c ex => cases p <;> simp [VR] at h1
          | map r => cases r <;> simp [VR] at h1
          | _ => simp [VR] at h1
        rw [h4] at e
        simpa using e
      · rfl
    · rename_i hd
      rw [hd]
      rfl
end Go.Am
