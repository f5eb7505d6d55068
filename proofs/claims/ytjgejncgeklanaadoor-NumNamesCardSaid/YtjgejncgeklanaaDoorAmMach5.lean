/-
  A part of the proof that an abstract machine, which runs a program without orders, room or tape, says what the model does. No condition beside what each theorem states.
-/
import Derived.Test.YtjgejncgeklanaaDoorAmMach4
import Derived.RangeFuncLeaves
namespace Go.Am
open Go Go.RowKit

section
variable {P : Program} {rec : Task → Option Res}

/-- one result variable, read -/
def readRes (tmps : Array Value) : ResultVar → Sem Value
  | .tmp t => pure (tmps.getD t undef)
  | .cell a t => do loadVar t (← asAddr (tmps.getD a undef))

theorem readRes_ok {σ : Sg} {base : Nat} {H : AH} {w : World} (hr : HR σ base H w) {nt : Nat} {tm : PT V} {tmps : Array Value} (ht : TmR σ nt tm tmps) : ∀ (rs : List ResultVar) (l : List V), resultsV P H tm rs = some l →
    ∃ l', (rs.mapM (readRes tmps)).run P w = .ok l' w ∧ VRs σ l l'
  | [], l, e => by
    simp only [resultsV] at e; cases e
    exact ⟨[], by simp [Sem.run_pure], VRs.nil⟩
  | .tmp t :: r, l, e => by
    simp only [resultsV] at e
    obtain ⟨l1, h1, rfl⟩ := map_some' e
    obtain ⟨l', h2, h3⟩ := readRes_ok hr ht r l1 h1
    refine ⟨tmps.getD t undef :: l', ?_, VRs.cons (ht.2 t) h3⟩
    simp [List.mapM_cons, readRes, Sem.run_bind, h2, Result.andThen]
  | .cell a t :: r, l, e => by
    simp only [resultsV] at e
    have ha := ht.2 a
    split at e
    · rename_i b o n hp hag hsz
      rw [hp] at ha
      simp only [VR] at ha
      obtain ⟨L, hL, ha⟩ := ha
      obtain ⟨c, h1, e⟩ := bind_some e
      obtain ⟨l1, h2, rfl⟩ := map_some' e
      obtain ⟨l', h3, h4⟩ := readRes_ok hr ht r l1 h2
      obtain ⟨_, c', h5, h6⟩ := hr.loadN hL h1 P
      refine ⟨.agg c'.toArray :: l', ?_, VRs.cons ?_ h4⟩
      · simp [List.mapM_cons, readRes, ha, asAddr, loadVar, isAggT_run hag, sizeT_run hsz, Sem.run_bind, h5, h3, Result.andThen]
      · simp only [VR]; exact ⟨_, rfl, by simpa using h6⟩
    · rename_i b o hp hag
      rw [hp] at ha
      simp only [VR] at ha
      obtain ⟨L, hL, ha⟩ := ha
      obtain ⟨c, h1, e⟩ := bind_some e
      obtain ⟨l1, h2, rfl⟩ := map_some' e
      obtain ⟨l', h3, h4⟩ := readRes_ok hr ht r l1 h2
      obtain ⟨c', h5, h6⟩ := hr.load1 hL h1
      refine ⟨c' :: l', ?_, VRs.cons h6 h4⟩
      simp [List.mapM_cons, readRes, ha, asAddr, loadVar, isAggT_run hag, Sem.run_bind, h5, h3, Result.andThen]
    · cases e

theorem results_ok {σ : Sg} {base : Nat} {H : AH} {w : World} (hr : HR σ base H w) {nt : Nat} {tm : PT V} {tmps : Array Value} (ht : TmR σ nt tm tmps) (fn : Func) {l : List V}
    (e : resultsV P H tm fn.results.toList = some l) : ∃ v', (results fn tmps).run P w = .ok v' w ∧ VR σ (packR l) v' := by
  obtain ⟨l', h1, h2⟩ := readRes_ok (P := P) hr ht _ _ e
  have h3 : results fn tmps = (do let vs ← fn.results.mapM (readRes tmps); pure (if h : vs.size = 1 then vs[0] else .tuple vs)) := by
    unfold results
    congr 1
  rw [h3, Array.mapM_eq_mapM_toList]
  simp only [Sem.run_bind, Sem.run_map, h1, Result.andThen]
  match l, h2 with
  | [v], h2 =>
    obtain ⟨v', rfl, hv⟩ := VRs.list1 h2
    exact ⟨v', by simp, hv⟩
  | [], h2 =>
    simp only [VRs] at h2; subst h2
    exact ⟨.tuple #[], by simp, by simp only [packR, VR]; exact ⟨_, rfl, by simp [VRs]⟩⟩
  | v1 :: v2 :: r, h2 =>
    have hlen := h2.length
    refine ⟨.tuple l'.toArray, by simp [← hlen], ?_⟩
    simp only [packR, VR]; exact ⟨_, rfl, by simpa using h2⟩

def ModeR (σ : Sg) : Option V → FrameMode → Prop
  | none, m => m = .returning
  | some v, m => ∃ v', m = .panicking [{ v := v', recovered := false }] ∧ VR σ v v'

theorem ModeR.mono {σ σ' : Sg} (hle : Le σ σ') {p : Option V} {m : FrameMode} (h : ModeR σ p m) : ModeR σ' p m := by
  cases p with
  | none => exact h
  | some v => obtain ⟨v', h1, h2⟩ := h; exact ⟨v', h1, h2.mono hle⟩

theorem ModeR.run {σ : Sg} {p : Option V} {m : FrameMode} (h : ModeR σ p m) : m ≠ .run := by
  cases p with
  | none => simp only [ModeR] at h; subst h; simp
  | some v => obtain ⟨v', h1, h2⟩ := h; subst h1; simp

theorem leave_ok (hrec : RecOk P rec) (fn : Func) (tm : PT V) (rc0 : RecSt) : ∀ (ds : List ADef) (p : Option V) (H : AH) (e : AEnd) (rc : RecSt) (H2 : AH), leave P rec fn tm rc0 ds p H = some (.en e rc H2) →
    ∀ σ base nt w fr cs, HR σ base H w → TmR σ nt tm fr.tmps → DefsR σ ds fr.defers → P.funcs[fr.fn]? = some fn → ModeR σ p fr.mode →
      rc = rc0 ∧ ∃ σ' w' fr' e', Sim σ base H w σ' H2 w' ∧ EndR σ' e e' ∧ Steps P (lone fr cs w) (lone fr' cs w') ∧ fr'.fn = fr.fn ∧ fr'.kind = fr.kind ∧ fr'.going P w' e' := by
  intro ds
  induction ds with
  | nil =>
    intro p H e rc H2 he σ base nt w fr cs hr ht hd hf hm
    simp only [DefsR] at hd
    cases p with
    | none =>
      simp only [leave] at he
      obtain ⟨l, h1, h2⟩ := map_some' he
      obtain ⟨v', h3, h4⟩ := results_ok hr ht fn h1
      simp only [ModeR] at hm
      cases h2
      exact ⟨rfl, σ, w, fr, _, Sim.refl hr, ⟨v', rfl, h4⟩, .refl _ _, rfl, rfl, hm, hd, fn, hf, h3⟩
    | some v =>
      simp only [leave] at he; cases he
      obtain ⟨v', h1, h2⟩ := hm
      exact ⟨rfl, σ, w, fr, _, Sim.refl hr, ⟨v', rfl, h2⟩, .refl _ _, rfl, rfl, h1, hd, fn, hf⟩
  | cons d ds ih =>
    intro p H e rc H2 he σ base nt w fr cs hr ht hd hf hm
    obtain ⟨d', l', hdl, hd1, hd2⟩ := hd
    cases d with
    | collected D =>
      simp only [leave] at he
      split at he
      case h_2 => cases he
      rename_i hD
      obtain ⟨L, hL, rfl⟩ := hd1
      have hob := hr.obj D L _ hL hD
      have hs : Sim σ base H w σ (H.put D (.deferred false)) (w.putObj L.r (.deferred none)) := by
        refine hr.putObj hL hD rfl (fun _ => rfl) ⟨hob.1, ?_⟩
        rw [heap_putO, if_pos ⟨rfl, hr.lt D L hL⟩]
        rfl
      have hst := step_collected (P := P) (cs := cs) hm.run hdl rfl (run_takeDeferred (P := P) (ds := []) (by have := hob.2; simpa using this))
      obtain ⟨h1, σ', w', fr', e', h2, h3, h4, h5⟩ := ih p _ e rc H2 he σ base nt _ { fr with defers := [] ++ l' } cs hs.hr ht hd2 hf hm
      exact ⟨h1, σ', w', fr', e', hs.trans h2, h3, .head hst h4, h5⟩
    | call f args =>
      obtain ⟨a1, c1, htar, hargs, hv⟩ := hd1
      have hinv : ∀ g args2, oCallFunc P f args = some (.call g args2) → ∃ args' : Array Value, (invoke d'.target d'.args).run P w = .ok (.enter g args') w ∧ VRs σ args2 args'.toList := by
        intro g args2 ho
        obtain ⟨args', h1, h2⟩ := callFunc_ok (base := base) (H := H) (w := w) ho (args' := a1 ++ c1) (by rw [Array.toList_append]; exact hv)
        refine ⟨args', ?_, h2⟩
        rw [htar, hargs]; simpa only [invoke] using h1
      -- on with the rest
      have on : ∀ (σ1 : Sg) (H1 : AH) (w1 : World) (p1 : Option V) (md : FrameMode), Sim σ base H w σ1 H1 w1 → ModeR σ1 p1 md →
          Steps P (lone fr cs w) (lone { fr with defers := l', mode := md } cs w1) → leave P rec fn tm rc0 ds p1 H1 = some (.en e rc H2) →
          rc = rc0 ∧ ∃ σ' w' fr' e', Sim σ base H w σ' H2 w' ∧ EndR σ' e e' ∧ Steps P (lone fr cs w) (lone fr' cs w') ∧ fr'.fn = fr.fn ∧ fr'.kind = fr.kind ∧ fr'.going P w' e' := by
        intro σ1 H1 w1 p1 md hs hmd hst hle
        obtain ⟨h1, σ', w', fr', e', h2, h3, h4, h5⟩ := ih p1 H1 e rc H2 hle σ1 base nt w1 { fr with defers := l', mode := md } cs hs.hr (ht.mono hs.le) (hd2.mono hs.le) hf hmd
        exact ⟨h1, σ', w', fr', e', hs.trans h2, h3, hst.trans h4, h5⟩
      cases p with
      | none =>
        simp only [leave] at he
        split at he
        case h_2 => cases he
        rename_i g args2 ho
        obtain ⟨args', hi, ha⟩ := hinv g args2 ho
        have hst := step_defer (P := P) (fr := fr) (cs := cs) (w := w) hm.run hdl htar hi
        simp only [ModeR] at hm
        have hcs : CsAt σ .deferred ({ fr with defers := l' } :: cs) .no ({ fr with defers := l' } :: cs) := ⟨rfl, .inr ⟨rfl, _, _, rfl, hm⟩⟩
        split at he
        · rename_i v1 H1 hr1
          obtain ⟨σ1, w1, cs1, fr1, e1, hs1, hcs1, ⟨v', rfl, hv'⟩, hsteps, hfn, hkd, hgo⟩ := hrec.call _ _ _ _ _ _ _ hr1 σ base w args' .deferred _ hr ha hcs
          obtain ⟨rfl, _⟩ := hcs1
          refine on σ1 H1 w1 none .returning hs1 rfl (.head hst (hsteps.trans (.one ?_))) he
          have := step_going_returned (P := P) (c := { fr with defers := l' }) (cs := cs) hkd hgo
          rw [this, hm]; rfl
        · rename_i v1 H1 hr1
          obtain ⟨σ1, w1, cs1, fr1, e1, hs1, hcs1, ⟨v', rfl, hv'⟩, hsteps, hfn, hkd, hgo⟩ := hrec.call _ _ _ _ _ _ _ hr1 σ base w args' .deferred _ hr ha hcs
          obtain ⟨rfl, _⟩ := hcs1
          refine on σ1 H1 w1 (some v1) (.panicking [{ v := v', recovered := false }]) hs1 ⟨v', rfl, hv'⟩ (.head hst (hsteps.trans (.one ?_))) he
          have := step_going_panicked (P := P) (c := { fr with defers := l' }) (cs := cs) hgo
          rw [this, hm]; rfl
        · cases he
      | some v =>
        simp only [leave] at he
        split at he
        case h_2 => cases he
        rename_i g args2 ho
        obtain ⟨args', hi, ha⟩ := hinv g args2 ho
        have hst := step_defer (P := P) (fr := fr) (cs := cs) (w := w) hm.run hdl htar hi
        obtain ⟨pv, hmd, hpv⟩ := hm
        have hcs : CsAt σ .deferred ({ fr with defers := l' } :: cs) (.can v) ({ fr with defers := l' } :: cs) := ⟨rfl, rfl, _, _, pv, rfl, hmd, hpv⟩
        split at he
        · rename_i v1 H1 hr1
          obtain ⟨σ1, w1, cs1, fr1, e1, hs1, hcs1, ⟨v', rfl, hv'⟩, hsteps, hfn, hkd, hgo⟩ := hrec.call _ _ _ _ _ _ _ hr1 σ base w args' .deferred _ hr ha hcs
          obtain ⟨_, c, r, v2, hcr, rfl⟩ := hcs1
          cases hcr
          refine on σ1 H1 w1 none .returning hs1 rfl (.head hst (hsteps.trans (.one ?_))) he
          have := step_going_returned (P := P) (c := { { fr with defers := l' } with mode := .panicking [{ v := v2, recovered := true }] }) (cs := cs) hkd hgo
          rw [this]; rfl
        · rename_i v1 v3 H1 hr1
          obtain ⟨σ1, w1, cs1, fr1, e1, hs1, hcs1, ⟨v', rfl, hv'⟩, hsteps, hfn, hkd, hgo⟩ := hrec.call _ _ _ _ _ _ _ hr1 σ base w args' .deferred _ hr ha hcs
          obtain ⟨rfl, _⟩ := hcs1
          refine on σ1 H1 w1 (some v) fr.mode hs1 ⟨pv, hmd, hpv.mono hs1.le⟩ (.head hst (hsteps.trans (.one ?_))) he
          have := step_going_returned (P := P) (c := { fr with defers := l' }) (cs := cs) hkd hgo
          rw [this]
          simp only [hmd]; rfl
        · cases he
end
end Go.Am
