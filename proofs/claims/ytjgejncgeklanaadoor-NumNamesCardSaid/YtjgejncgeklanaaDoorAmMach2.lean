/-
  A part of the proof that an abstract machine, which runs a program without orders, room or tape, says what the model does. No condition beside what each theorem states.
-/
import Derived.Test.YtjgejncgeklanaaDoorAmMach1
namespace Go.Am
open Go Go.RowKit

def Ixs (ops : Array Oper) : List Nat → List Oper → Prop
  | [], os => os = []
  | i :: is, os => ∃ o r, os = o :: r ∧ ops[i]? = some o ∧ Ixs ops is r

theorem ixs_range (ops : Array Oper) : Ixs ops (List.range ops.size) ops.toList := by
  have : ∀ n, n ≤ ops.size → Ixs ops (List.range' (ops.size - n) n) (ops.toList.drop (ops.size - n)) := by
    intro n
    induction n with
    | zero => intro _; simp [Ixs]
    | succ n ih =>
      intro h
      rw [List.range'_succ]
      have hi : ops.size - (n + 1) < ops.toList.length := by simp; omega
      rw [List.drop_eq_getElem_cons hi]
      have h1 : ops.size - (n + 1) + 1 = ops.size - n := by omega
      rw [h1]
      refine ⟨_, _, rfl, ?_, ih (by omega)⟩
      rw [Array.getElem?_eq_getElem (by simpa using hi)]
      simp
  have h := this ops.size (Nat.le_refl _)
  simpa [List.range_eq_range'] using h

section
variable {P : Program} {b : Frame} {a : Act} {k : List Item} {cs : List Frame} {w w' : World} {ops : Array Oper} {i : Nat} {is : List Nat} {o : Oper}

theorem fin_eq (ho : ops[i]? = some o) (v : Value) : (b.atR a (.inRegion ops (i :: is) :: k)).finish v = b.atR (a.put o.dst v) (.inRegion ops is :: k) := by
  rw [Frame.finish_atR, ho]; rfl

theorem step_value (ho : ops[i]? = some o) (hw : Region.wanted o (yielded ops a.tmps) = true) {nx : Next} {v : Value} (hnx : nx = .value v ∨ nx = .skip ∧ v = undef)
    (h : (o.semAt b.roundOf a.eval).run P w = .ok nx w') :
    step P (lone (b.atR a (.inRegion ops (i :: is) :: k)) cs w) = .next (lone (b.atR (a.put o.dst v) (.inRegion ops is :: k)) cs w') := by
  refine step_lone_go ?_
  rw [stepGR_op ho hw, ← fin_eq ho]
  rcases hnx with rfl | ⟨rfl, rfl⟩ <;> simp [stepG.apply, h]

theorem step_enter (ho : ops[i]? = some o) (hw : Region.wanted o (yielded ops a.tmps) = true) {f : FuncId} {args : Array Value}
    (h : (o.semAt b.roundOf a.eval).run P w = .ok (.enter f args) w') :
    step P (lone (b.atR a (.inRegion ops (i :: is) :: k)) cs w) = .next (lone (Frame.enter P f args .normal) (b.atR a (.inRegion ops (i :: is) :: k) :: cs) w') := by
  refine step_lone_go ?_
  rw [stepGR_op ho hw]
  simp [stepG.apply, h, Frame.atR]

theorem step_round (ho : ops[i]? = some o) (hw : Region.wanted o (yielded ops a.tmps) = true) {l : Nat} {f : FuncId} {tmps : Array Value} {asg body : Code}
    (h : (o.semAt b.roundOf a.eval).run P w = .ok (.round l f tmps asg body) w') :
    step P (lone (b.atR a (.inRegion ops (i :: is) :: k)) cs w) = .next (lone (Frame.round l f tmps asg body .normal) (b.atR a (.inRegion ops (i :: is) :: k) :: cs) w') := by
  refine step_lone_go ?_
  rw [stepGR_op ho hw]
  simp [stepG.apply, h]

theorem step_deferOp (ho : ops[i]? = some o) (hw : Region.wanted o (yielded ops a.tmps) = true) {d : Deferred}
    (h : (o.semAt b.roundOf a.eval).run P w = .ok (.defer d) w') :
    step P (lone (b.atR a (.inRegion ops (i :: is) :: k)) cs w) = .next (lone (b.atR ({ a with defers := d :: a.defers }.put o.dst undef) (.inRegion ops is :: k)) cs w') := by
  refine step_lone_go ?_
  rw [stepGR_op ho hw]
  have : ({ b.atR a (.inRegion ops (i :: is) :: k) with defers := d :: a.defers } : Frame).finish undef =
      b.atR ({ a with defers := d :: a.defers }.put o.dst undef) (.inRegion ops is :: k) := by
    have := fin_eq (b := b) (a := { a with defers := d :: a.defers }) (k := k) (is := is) ho undef
    exact this
  simp only [stepG.apply, Sem.runT_eq, h, GStep.bare_after]
  exact congrArg (fun fr => GStep.go { frame := fr, callers := cs, status := .running, dying := none } w') this

theorem step_panicOp (ho : ops[i]? = some o) (hw : Region.wanted o (yielded ops a.tmps) = true) {v : Value}
    (h : (o.semAt b.roundOf a.eval).run P w = .halt (.panic v) w') :
    step P (lone (b.atR a (.inRegion ops (i :: is) :: k)) cs w) = .next (lone { b.atR a (.inRegion ops (i :: is) :: k) with mode := .panicking [{ v := v, recovered := false }] } cs w') := by
  refine step_lone_go ?_
  rw [stepGR_op ho hw, ← Frame.raise_atR]
  simp [stepG.apply, h]

theorem step_recoverOp (ho : ops[i]? = some o) (hw : Region.wanted o (yielded ops a.tmps) = true) (hr : b.roundOf = none)
    (h : (o.semAt b.roundOf a.eval).run P w = .ok .recover w') :
    step P (lone (b.atR a (.inRegion ops (i :: is) :: k)) cs w) =
      match tryRecover (b.atR a (.inRegion ops (i :: is) :: k)) cs with
      | some (v, cs') => .next (lone (b.atR (a.put o.dst v) (.inRegion ops is :: k)) cs' w')
      | none => .next (lone (b.atR (a.put o.dst .nilIface) (.inRegion ops is :: k)) cs w') := by
  have hg := stepGR_op (P := P) (b := b) (k := k) (cs := cs) (w := w) (rest := is) ho hw
  have hro : (b.atR a (.inRegion ops (i :: is) :: k)).roundOf = none := hr
  split
  · rename_i v cs' ht
    refine step_lone_go ?_
    rw [hg, ← fin_eq ho]
    simp [stepG.apply, h, hro, ht]
  · rename_i ht
    refine step_lone_go ?_
    rw [hg, ← fin_eq ho]
    simp [stepG.apply, h, hro, ht]

end

def TrR (σ : Sg) (kd : CallKind) (cs0 : List Frame) (t : Option (Value × List Frame)) : RecSt → Prop
  | .can v => ∃ v' cs', t = some (v', cs') ∧ VR σ v v' ∧ CsAt σ kd cs0 .done cs'
  | _ => t = none

theorem tryRecover_at {σ : Sg} {b : Frame} {a : Act} {todo : List Item} {cs0 cs : List Frame} {rc : RecSt} (h : CsAt σ b.kind cs0 rc cs) :
    TrR σ b.kind cs0 (tryRecover (b.atR a todo) cs) rc := by
  cases rc with
  | no =>
    obtain ⟨rfl, h | ⟨h, c, r, rfl, hm⟩⟩ := h
    · have : (b.atR a todo).kind = .normal := h
      simp [TrR, tryRecover, this]
    · have hk : (b.atR a todo).kind = .deferred := h
      simp only [TrR]
      rw [tryRecover_deferred hk]
      simp [recoverD, hm]
  | can v =>
    obtain ⟨rfl, h, c, r, v', rfl, hm, hv⟩ := h
    have hk : (b.atR a todo).kind = .deferred := h
    refine ⟨v', _, ?_, hv, h, c, r, v', rfl, rfl⟩
    rw [tryRecover_deferred hk]
    simp [recoverD, hm]
  | done =>
    obtain ⟨h, c, r, v', rfl, rfl⟩ := h
    have hk : (b.atR a todo).kind = .deferred := h
    simp only [TrR]
    rw [tryRecover_deferred hk]
    simp [recoverD]

theorem going_leaving {P : Program} {fr : Frame} {w : World} {e : Ending} (h : fr.going P w e) (hk : fr.kind = .normal) : fr.leaving P w e := by
  cases e with
  | returned v => obtain ⟨h1, h2, h3⟩ := h; exact ⟨h1, h2, hk, h3⟩
  | panicked c => exact h
  | outgrown => trivial

section
variable {P : Program} {rec : Task → Option Res}

theorem evO_ok (hrec : RecOk P rec) {ro : Option Nat} {ops : Array Oper} : ∀ (is : List Nat) (os : List Oper), Ixs ops is os →
    ∀ st e st', evO P rec ro ops os st = some (e, st') → ∀ σ base b a cs0 cs w k, Pre σ base ro st b a cs0 cs w →
      Post P σ base ro st.H w b cs0 k (lone (b.atR a (.inRegion ops is :: k)) cs w) e st' := by
  intro is
  induction is with
  | nil =>
    intro os hx st e st' he σ base b a cs0 cs w k hp
    simp only [Ixs] at hx; subst hx
    simp only [evO] at he; cases he
    exact ⟨σ, a, cs, w, Sim.refl hp.sr.hr, hp, .one stepR_region_end⟩
  | cons i is ih =>
    intro os hx st e st' he σ base b a cs0 cs w k hp
    obtain ⟨o, r, rfl, ho, hx⟩ := hx
    unfold evO at he
    split at he
    · rename_i hw0
      have hw := wanted_ok hp.sr hw0
      -- on: the rest of the operations, from a state that the step has come to
      have on : ∀ (σ1 : Sg) (st1 : St) (a1 : Act) (cs1 : List Frame) (w1 : World), Sim σ base st.H w σ1 st1.H w1 → Pre σ1 base ro st1 b a1 cs0 cs1 w1 →
          Steps P (lone (b.atR a (.inRegion ops (i :: is) :: k)) cs w) (lone (b.atR a1 (.inRegion ops is :: k)) cs1 w1) → evO P rec ro ops r st1 = some (e, st') →
          Post P σ base ro st.H w b cs0 k (lone (b.atR a (.inRegion ops (i :: is) :: k)) cs w) e st' :=
        fun σ1 st1 a1 cs1 w1 hs hp1 hst hev => Post.trans hs hst (ih r hx st1 e st' hev σ1 base b a1 cs0 cs1 w1 k hp1)
      generalize hn : aexec P st.tmps st.H o = nx at he
      cases nx with
      | none => cases he
      | some nx =>
      have hnx := aexec_ok hp.sr hn
      have hsem : (∀ d, nx ≠ .defer d) ∨ ro = none → o.semAt b.roundOf a.eval = execOp a.eval o := by
        rintro (h | h)
        · refine Oper.semAt_eq _ _ _ fun c hc => ?_
          have h2 : oDefer st.H.ng st.tmps c = some nx := by
            rw [← hn]; unfold aexec; rw [hc]
          obtain ⟨d, hd⟩ := oDefer_defer h2
          exact h d hd
        · have := hp.ro; subst h; simp only [RoR] at this; rw [this]; rfl
      -- a value
      have val : ∀ (σ1 : Sg) (H1 : AH) (w1 : World) (v : V) (v' : Value) (nx1 : Next), Sim σ base st.H w σ1 H1 w1 → VR σ1 v v' → (nx1 = .value v' ∨ nx1 = .skip ∧ v' = undef) →
          (o.semAt b.roundOf a.eval).run P w = .ok nx1 w1 → ((st.put o.dst v H1).bind fun st => evO P rec ro ops r st) = some (e, st') →
          Post P σ base ro st.H w b cs0 k (lone (b.atR a (.inRegion ops (i :: is) :: k)) cs w) e st' := by
        intro σ1 H1 w1 v v' nx1 hs hv hnv hrun hb
        obtain ⟨st1, h1, h2⟩ := bind_some hb
        obtain ⟨hp1, hH⟩ := put_ok hp hs hv h1
        subst hH
        exact on σ1 st1 _ cs w1 hs hp1 (.one (step_value ho hw hnv hrun)) h2
      cases nx with
      | pv v =>
        obtain ⟨v', h1, h2⟩ := hnx
        exact val σ st.H w v v' (.value v') (Sim.refl hp.sr.hr) h2 (.inl rfl) (by rw [hsem (.inl (by simp))]; exact h1) he
      | new ob mk =>
        obtain ⟨o', n, v', h1, h2, h3, h4⟩ := hnx
        refine val _ _ _ _ v' (.value v') (hp.sr.hr.push ob o' n (fun hle => h3 _ _ _ hle) h2) (h4 _) (.inl rfl) ?_ he
        rw [hsem (.inl (by simp))]; exact h1
      | eff v H1 =>
        obtain ⟨σ1, w1, nx1, v', h1, h2, h3, h4⟩ := hnx
        exact val σ1 H1 w1 v v' nx1 h4 h3 h2 (by rw [hsem (.inl (by simp))]; exact h1) he
      | call f args =>
        obtain ⟨args', h1, h2⟩ := hnx
        have hs0 := hsem (.inl (by simp))
        rw [← hs0] at h1
        have hst := step_enter (P := P) (b := b) (a := a) (k := k) (cs := cs) (is := is) ho hw h1
        simp only at he
        split at he
        · rename_i v H1 hr
          obtain ⟨σ1, w1, cs1, fr1, e1, hs1, hcs1, ⟨v', rfl, hv⟩, hsteps, hfn, hkd, hgo⟩ := hrec.call _ _ _ _ _ _ _ hr σ base w args' .normal (b.atR a (.inRegion ops (i :: is) :: k) :: cs) hp.sr.hr h2 ⟨rfl, .inl rfl⟩
          obtain ⟨rfl, _⟩ := hcs1
          obtain ⟨st1, h5, h6⟩ := bind_some he
          obtain ⟨hp1, hH⟩ := put_ok hp hs1 hv h5
          subst hH
          refine on σ1 st1 _ cs w1 hs1 hp1 (.head hst (hsteps.trans (.one ?_))) h6
          rw [← fin_eq ho]; exact step_leave_returned (going_leaving hgo hkd)
        · rename_i v H1 hr
          obtain ⟨σ1, w1, cs1, fr1, e1, hs1, hcs1, ⟨v', rfl, hv⟩, hsteps, hfn, hkd, hgo⟩ := hrec.call _ _ _ _ _ _ _ hr σ base w args' .normal (b.atR a (.inRegion ops (i :: is) :: k) :: cs) hp.sr.hr h2 ⟨rfl, .inl rfl⟩
          obtain ⟨rfl, _⟩ := hcs1
          cases he
          refine ⟨σ1, a, cs, w1, hs1, ⟨⟨hs1.hr, hp.sr.tm.mono hs1.le⟩, hp.df.mono hs1.le, hp.cs.mono hs1.le, hp.ro.mono hs1.le⟩, .inRegion ops (i :: is) :: k, v', hv, trivial, .head hst (hsteps.trans (.one ?_))⟩
          rw [← Frame.raise_atR]; exact step_leave_panicked (going_leaving hgo hkd)
        · cases he
      | round l args =>
        obtain ⟨L, args', hl, h2, P0, h1⟩ := hnx
        have hs0 := hsem (.inl (by simp))
        simp only at he
        split at he
        · rename_i v H1 hr
          obtain ⟨fn, tmps, asg, body, hy, hon⟩ := hrec.round _ _ _ _ _ _ hr σ base w args' L hp.sr.hr h2 hl
          obtain ⟨σ1, w1, hs1, _, v', hv, hsteps⟩ := hon (b.atR a (.inRegion ops (i :: is) :: k)) cs
          have hst := step_round (P := P) (b := b) (a := a) (k := k) (cs := cs) (is := is) (w := w) (w' := w) (l := L.r) (f := fn) (tmps := tmps) (asg := asg) (body := body) ho hw (by rw [hs0, h1, hy P0])
          obtain ⟨st1, h5, h6⟩ := bind_some he
          obtain ⟨hp1, hH⟩ := put_ok hp hs1 hv h5
          subst hH
          refine on σ1 st1 _ cs w1 hs1 hp1 (.head hst ?_) h6
          rw [← fin_eq ho]; exact hsteps
        · rename_i v H1 hr
          obtain ⟨fn, tmps, asg, body, hy, hon⟩ := hrec.round _ _ _ _ _ _ hr σ base w args' L hp.sr.hr h2 hl
          obtain ⟨σ1, w1, hs1, _, v', hv, hsteps⟩ := hon (b.atR a (.inRegion ops (i :: is) :: k)) cs
          have hst := step_round (P := P) (b := b) (a := a) (k := k) (cs := cs) (is := is) (w := w) (w' := w) (l := L.r) (f := fn) (tmps := tmps) (asg := asg) (body := body) ho hw (by rw [hs0, h1, hy P0])
          cases he
          refine ⟨σ1, a, cs, w1, hs1, ⟨⟨hs1.hr, hp.sr.tm.mono hs1.le⟩, hp.df.mono hs1.le, hp.cs.mono hs1.le, hp.ro.mono hs1.le⟩, .inRegion ops (i :: is) :: k, v', hv, trivial, .head hst ?_⟩
          rw [← Frame.raise_atR]; exact hsteps
        · cases he
      | defer d =>
        obtain ⟨d', h1, h2⟩ := hnx
        simp only at he
        split at he
        · rename_i hro
          have hro' : ro = none := by simpa using hro
          rw [← hsem (.inr hro')] at h1
          obtain ⟨st1, h5, h6⟩ := bind_some he
          have hpd : Pre σ base ro ⟨st.tmps, st.nt, st.H, d :: st.defers, st.rc⟩ b { a with defers := d' :: a.defers } cs0 cs w :=
            ⟨⟨hp.sr.hr, hp.sr.tm⟩, ⟨d', a.defers, rfl, h2, hp.df⟩, hp.cs, hp.ro⟩
          obtain ⟨hp1, hH⟩ := put_ok hpd (Sim.refl hp.sr.hr) VR.undef h5
          exact on σ st1 _ cs w (by rw [hH]; exact Sim.refl hp.sr.hr) hp1 (.one (step_deferOp ho hw h1)) h6
        · cases he
      | recover =>
        simp only at he
        split at he
        · rename_i hro
          have hro' : ro = none := by simpa using hro
          have hrn : b.roundOf = none := by have := hp.ro; rw [hro'] at this; exact this
          have h1 : (o.semAt b.roundOf a.eval).run P w = .ok .recover w := by rw [hsem (.inr hro')]; exact hnx
          have hst := step_recoverOp (P := P) (k := k) (cs := cs) (is := is) ho hw hrn h1
          have ht := tryRecover_at (a := a) (todo := .inRegion ops (i :: is) :: k) hp.cs
          split at he
          · rename_i v hv
            rw [hv] at ht
            obtain ⟨v', cs', ht, hvv, hcs'⟩ := ht
            rw [ht] at hst
            obtain ⟨st1, h5, h6⟩ := bind_some he
            have hpd : Pre σ base ro ⟨st.tmps, st.nt, st.H, st.defers, .done⟩ b a cs0 cs' w := ⟨⟨hp.sr.hr, hp.sr.tm⟩, hp.df, hcs', hp.ro⟩
            obtain ⟨hp1, hH⟩ := put_ok hpd (Sim.refl hp.sr.hr) hvv h5
            exact on σ st1 _ cs' w (by rw [hH]; exact Sim.refl hp.sr.hr) hp1 (.one hst) h6
          · rename_i hne
            have ht' : tryRecover (b.atR a (.inRegion ops (i :: is) :: k)) cs = none := by
              generalize st.rc = rc at ht hne
              cases rc with
              | can v => exact absurd rfl (hne v)
              | no => exact ht
              | done => exact ht
            rw [ht'] at hst
            obtain ⟨st1, h5, h6⟩ := bind_some he
            obtain ⟨hp1, hH⟩ := put_ok hp (Sim.refl hp.sr.hr) (v := .nilIface) (v' := .nilIface) (by simp [VR]) h5
            exact on σ st1 _ cs w (by rw [hH]; exact Sim.refl hp.sr.hr) hp1 (.one hst) h6
        · cases he
      | panic v =>
        obtain ⟨v', h1, h2⟩ := hnx
        rw [← hsem (.inl (by simp))] at h1
        cases he
        exact ⟨σ, a, cs, w, Sim.refl hp.sr.hr, hp, .inRegion ops (i :: is) :: k, v', h2, trivial, .one (step_panicOp ho hw h1)⟩
    · rename_i hw0
      have hw := unwanted_ok hp.sr (by simpa using hw0 : wantedA ops st.tmps o.guard = false)
      obtain ⟨st1, h1, h2⟩ := bind_some he
      obtain ⟨hp1, hH⟩ := put_ok hp (Sim.refl hp.sr.hr) VR.undef h1
      refine Post.trans (by rw [hH]; exact Sim.refl hp.sr.hr) (.one ?_) (ih r hx st1 e st' h2 σ base b _ cs0 cs w k hp1)
      have := stepR_op_skip (P := P) (b := b) (a := a) (k := k) (cs := cs) (w := w) (ops := ops) (i := i) (rest := is) (by rw [ho]; simpa using hw)
      rw [ho] at this
      exact this
end
end Go.Am
