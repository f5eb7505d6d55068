/-
  A part of the proof that an abstract machine, which runs a program without orders, room or tape, says what the model does. No condition beside what each theorem states.
-/
import Derived.Test.YtjgejncgeklanaaDoorAmMach5
namespace Go.Am
open Go Go.RowKit

theorem tmpsOf_get : ∀ (l : List V) (i j : Nat), (tmpsOf i l).get j = if i ≤ j then l[j - i]? else none
  | [], i, j => by simp [tmpsOf, PT.get]
  | v :: l, i, j => by
    simp only [tmpsOf]
    rw [PT.get_set, tmpsOf_get l (i + 1) j]
    by_cases h : i = j
    · subst h; simp
    · rw [if_neg h]
      by_cases h2 : i + 1 ≤ j
      · rw [if_pos h2, if_pos (by omega)]
        have : j - i = (j - (i + 1)) + 1 := by omega
        rw [this]; simp
      · rw [if_neg h2, if_neg (by omega)]

theorem tmpsOf_ok {σ : Sg} {l : List V} {a : Array Value} (h : VRs σ l a.toList) (n : Nat) : TmR σ (Nat.max n l.length) (tmpsOf 0 l) (a ++ Array.replicate (n - a.size) undef) := by
  have hl : l.length = a.size := by simpa using h.length
  refine ⟨?_, fun i => ?_⟩
  · simp only [Array.size_append, Array.size_replicate]
    rw [hl]
    show a.size + (n - a.size) = max n a.size
    omega
  · rw [tmpsOf_get]
    simp only [Nat.zero_le, if_true, Nat.sub_zero]
    rw [Array.getD_eq_getD_getElem?]
    cases hi : l[i]? with
    | some v =>
      obtain ⟨v', h1, h2⟩ := h.get i v hi
      have hlt : i < a.size := by
        rw [← hl]; exact (List.getElem?_eq_some_iff.1 hi).1
      rw [Array.getElem?_append_left hlt]
      have h1' : a[i]? = some v' := by simpa using h1
      rw [h1']; exact h2
    | none =>
      have hge : a.size ≤ i := by
        rw [← hl]; exact List.getElem?_eq_none_iff.1 hi
      rw [Array.getElem?_append_right hge]
      have : ((Array.replicate (n - a.size) undef)[i - a.size]?).getD undef = undef := by
        cases hr : (Array.replicate (n - a.size) undef)[i - a.size]? with
        | none => rfl
        | some x =>
          rw [Array.getElem?_replicate] at hr
          split at hr <;> cases hr
          rfl
      rw [this]
      exact VR.undef

theorem zipSet_ok {σ : Sg} {nt : Nat} : ∀ (ps : List Tmp) (vs : List V) (vs' : List Value) (t : PT V) (a : Array Value), VRs σ vs vs' → vs.length = ps.length → (∀ p ∈ ps, p < nt) → TmR σ nt t a →
    TmR σ nt (zipSet ps vs t) ((ps.zip vs').foldl (fun t x => t.setIfInBounds x.1 x.2) a)
  | [], vs, vs', t, a, h, hl, hp, ht => by
    have : vs = [] := by simpa using hl
    subst this
    simpa [zipSet] using ht
  | p :: ps, [], vs', t, a, h, hl, hp, ht => by simp at hl
  | p :: ps, v :: vs, vs', t, a, h, hl, hp, ht => by
    simp only [VRs] at h
    obtain ⟨v', l', rfl, h1, h2⟩ := h
    simp only [zipSet, List.zip_cons_cons, List.foldl_cons]
    exact zipSet_ok ps vs l' _ _ h2 (by simpa using hl) (fun q hq => hp q (by simp [hq])) (ht.set (hp p (by simp)) h1)

theorem CsAt.normal {σ : Sg} {cs0 : List Frame} {rc : RecSt} {cs : List Frame} (h : CsAt σ .normal cs0 rc cs) : cs = cs0 := by
  cases rc with
  | no => exact h.1
  | can v => exact absurd h.2.1 (by simp)
  | done => exact absurd h.1 (by simp)

section
variable {P : Program} {rec : Task → Option Res}

theorem step_raise {fr c : Frame} {cs : List Frame} {w : World} {chain : List PanicEntry} (hm : fr.mode = .panicking chain) (hd : fr.defers = []) (hn : noCall fr.todo) :
    step P (lone fr (c :: cs) w) = .next (lone (c.raise chain) cs w) := by
  have hc : fr.catches P = false := by
    unfold Frame.catches
    split
    · rename_i h; rw [h] at hn; exact hn.elim
    · rfl
  exact step_lone_go (by simp [stepG, unwind, hm, hd, hc])

theorem DefsR.nil {σ : Sg} {l : List Deferred} (h : DefsR σ [] l) : l = [] := h

theorem evF_ok {dr : (Task → Option Res) → Option Nat → Array Oper → St → Option (Ex × St)} (hrec : RecOk P rec) (hdr : ∀ ro, DrOk P ro (dr rec ro)) : RecOk P (evF P dr rec) where
  loop := by
    intro ro c st e st' he σ base b a cs0 cs w k hp
    simp only [evF] at he
    split at he
    · rename_i st1 h1
      exact Post.next (evC_ok hrec (hdr ro) c st _ st1 h1 σ base b a cs0 cs w (.inLoop c :: k) hp) fun σ' a' cs' w' hp' =>
        Post.steps (.one stepR_inLoop) (hrec.loop ro c st1 e st' he σ' base b a' cs0 cs' w' k hp')
    · rename_i e1 st1 hne h1
      cases he
      exact Post.pass (evC_ok hrec (hdr ro) c st _ _ h1 σ base b a cs0 cs w (.inLoop c :: k) hp) (by rintro rfl; exact hne rfl) (fun _ _ _ => rfl)
    · cases he
  call := by
    intro f args rc H e rc' H' he σ base w args' kd cs hr ha hcs
    simp only [evF] at he
    split at he
    case h_2 => cases he
    rename_i fn hf
    split at he
    case h_2 => cases he
    rename_i c hb
    let b : Frame := { (default : Frame) with fn := f, kind := kd, roundOf := none }
    have henter : Frame.enter P f args' kd = b.atR { tmps := args' ++ Array.replicate (fn.ntmps - args'.size) undef, defers := [] } [.code c] := by
      simp [Frame.enter, Frame.atR, hf, hb, b]
    have hp : Pre σ base none ⟨tmpsOf 0 args, Nat.max fn.ntmps args.length, H, [], rc⟩ b { tmps := args' ++ Array.replicate (fn.ntmps - args'.size) undef, defers := [] } cs cs w :=
      ⟨⟨hr, tmpsOf_ok ha _⟩, rfl, hcs, rfl⟩
    have fin : ∀ (σ1 : Sg) (a1 : Act) (cs1 : List Frame) (w1 : World) (st1 : St) (p : Option V) (todo : List Item) (md : FrameMode), Sim σ base H w σ1 st1.H w1 → Pre σ1 base none st1 b a1 cs cs1 w1 → ModeR σ1 p md →
        Steps P (lone (Frame.enter P f args' kd) cs w) (lone { b.atR a1 todo with mode := md } cs1 w1) → leave P rec fn st1.tmps st1.rc st1.defers p st1.H = some (.en e rc' H') →
        ∃ σ' w' cs' fr' e', Sim σ base H w σ' H' w' ∧ CsAt σ' kd cs rc' cs' ∧ EndR σ' e e' ∧
          Steps P (lone (Frame.enter P f args' kd) cs w) (lone fr' cs' w') ∧ fr'.fn = f ∧ fr'.kind = kd ∧ fr'.going P w' e' := by
      intro σ1 a1 cs1 w1 st1 p todo md hs hp1 hmd hst hle
      obtain ⟨rfl, σ', w', fr', e', h2, h3, h4, h5, h6, h7⟩ := leave_ok hrec fn st1.tmps st1.rc st1.defers p st1.H e rc' H' hle σ1 base st1.nt w1 { b.atR a1 todo with mode := md } cs1 hp1.sr.hr hp1.sr.tm hp1.df hf hmd
      exact ⟨σ', w', cs1, fr', e', hs.trans h2, hp1.cs.mono h2.le, h3, hst.trans h4, h5, h6, h7⟩
    split at he
    · rename_i st1 h1
      obtain ⟨σ1, a1, cs1, w1, h2, h3, h4⟩ := evC_ok hrec (hdr none) c _ _ st1 h1 σ base b _ cs cs w [] hp
      rw [← henter] at h4
      exact fin σ1 a1 cs1 w1 st1 none [] .returning h2 h3 rfl (h4.trans (.one (stepR_end rfl))) he
    · rename_i st1 h1
      obtain ⟨σ1, a1, cs1, w1, h2, h3, todo, h4⟩ := evC_ok hrec (hdr none) c _ _ st1 h1 σ base b _ cs cs w [] hp
      rw [← henter] at h4
      exact fin σ1 a1 cs1 w1 st1 none _ .returning h2 h3 rfl (h4.trans (.one (stepR_ret rfl))) he
    · rename_i v st1 h1
      obtain ⟨σ1, a1, cs1, w1, h2, h3, todo, v', hv, hn, h4⟩ := evC_ok hrec (hdr none) c _ _ st1 h1 σ base b _ cs cs w [] hp
      rw [← henter] at h4
      exact fin σ1 a1 cs1 w1 st1 (some v) todo _ h2 h3 ⟨v', rfl, hv⟩ h4 he
    · cases he
  round := by
    intro l args H e rc' H' he σ base w args' L hr ha hl
    simp only [evF] at he
    split at he
    case h_2 => cases he
    rename_i A hA
    split at he
    case isFalse => cases he
    rename_i hcond
    obtain ⟨hready, hlen, hlt⟩ := hcond
    obtain ⟨A', hA', hLR⟩ := loop_obj hr hl hA
    have hLR0 := hLR
    obtain ⟨q1, q2, q3, q4, q5, q6, q7⟩ := hLR
    have hsz : args'.size = A'.params.size := by
      have := ha.length
      rw [q4, ← hlen, this]; simp
    refine ⟨_, _, _, _, fun P => run_yield hA' hsz, fun c cs => ?_⟩
    let b : Frame := { (default : Frame) with fn := A'.fn, kind := .normal, roundOf := some L.r }
    have hfr : Frame.round L.r A'.fn ((A'.params.zip args').foldl (fun tmps x => tmps.setIfInBounds x.1 x.2) A'.tmps) A'.assign A'.body .normal =
        b.atR { tmps := (A'.params.zip args').foldl (fun tmps x => tmps.setIfInBounds x.1 x.2) A'.tmps, defers := [] } [.code A'.assign, .beginRound, .code A'.body] := by
      simp [Frame.round, Frame.atR, b]
    have htm : TmR σ A.nt (zipSet A.params.toList args A.tmps) ((A'.params.zip args').foldl (fun tmps x => tmps.setIfInBounds x.1 x.2) A'.tmps) := by
      rw [q4, ← Array.foldl_toList, Array.toList_zip]
      refine zipSet_ok _ _ _ _ _ ha (by simpa using hlen) (fun p hp => ?_) q3
      simp only [List.all_eq_true, decide_eq_true_eq] at hlt
      exact hlt p hp
    have hp : Pre σ base (some l) ⟨zipSet A.params.toList args A.tmps, A.nt, H, [], .no⟩ b { tmps := (A'.params.zip args').foldl (fun tmps x => tmps.setIfInBounds x.1 x.2) A'.tmps, defers := [] } (c :: cs) (c :: cs) w :=
      ⟨⟨hr, htm⟩, rfl, ⟨rfl, .inl rfl⟩, ⟨L, hl, rfl, rfl⟩⟩
    show ∃ σ' w', Sim σ base H w σ' H' w' ∧ rc' = .no ∧ _
    split at he
    case h_2 => cases he
    rename_i st1 h1
    obtain ⟨σ1, a1, cs1, w1, h2, h3, h4⟩ := evC_ok hrec (hdr (some l)) A.assign _ _ st1 h1 σ base b _ (c :: cs) (c :: cs) w [.beginRound, .code A'.body] hp
    rw [← q5, ← hfr] at h4
    have hc1 := h3.cs.normal
    subst hc1
    split at he
    case h_2 => cases he
    rename_i A2 hA2
    split at he
    case isFalse => cases he
    rename_i hready2
    have hl1 := h2.le _ _ hl
    obtain ⟨A2', hA2', r1, r2, r3⟩ := loop_obj h3.sr.hr hl1 hA2
    have hbr := run_beginRound (P := P) hA2' (by rw [r1]; exact hready2)
    have hs2 : Sim σ1 base st1.H w1 σ1 (st1.H.put l (.loop { A2 with state := .busy })) (w1.putObj L.r (.loop { A2' with state := .busy })) := loop_put h3.sr.hr hl1 hA2 ⟨rfl, r2, r3⟩
    have hp2 : Pre σ1 base (some l) ⟨st1.tmps, st1.nt, st1.H.put l (.loop { A2 with state := .busy }), st1.defers, st1.rc⟩ b a1 (c :: cs) (c :: cs) (w1.putObj L.r (.loop { A2' with state := .busy })) :=
      ⟨⟨hs2.hr, h3.sr.tm⟩, h3.df, h3.cs, h3.ro⟩
    split at he
    case h_2 => cases he
    rename_i e2 st2 h5
    obtain ⟨σ2, a2, cs2, w2, h6, h7, g8⟩ := evC_ok hrec (hdr (some l)) A.body _ _ st2 h5 σ1 base b a1 (c :: cs) (c :: cs) _ [] hp2
    have hc2 := h7.cs.normal
    subst hc2
    split at he
    case isFalse => cases he
    rename_i hdem
    have hde : a2.defers = [] := by
      have h9 := h7.df
      cases hds : st2.defers with
      | nil => rw [hds] at h9; exact h9
      | cons x y => rw [hds] at hdem; simp at hdem
    have h8 : ArrA P (lone (Frame.round L.r A'.fn ((A'.params.zip args').foldl (fun tmps x => tmps.setIfInBounds x.1 x.2) A'.tmps) A'.assign A'.body .normal) (c :: cs) w) b [] a2 (c :: cs) w2 σ2 e2 :=
      .of_steps (Steps.trans h4 (.one (by rw [q6]; exact stepR_beginRound rfl hbr))) g8
    clear g8
    have hsim : Sim σ base H w σ2 st2.H w2 := (h2.trans hs2).trans h6
    have hl2 := h6.le _ _ hl1
    unfold endRoundA at he
    split at he
    case h_2 => cases he
    rename_i A3 hA3
    obtain ⟨A3', hA3', s1, s2, s3⟩ := loop_obj h7.sr.hr hl2 hA3
    split at he
    · cases he
      have hs3 : Sim σ2 base st2.H w2 σ2 _ _ := loop_put (A2 := { A3 with state := .ready, pending := none }) (A2' := { A3' with state := .ready, pending := none }) h7.sr.hr hl2 hA3 ⟨rfl, rfl, s3⟩
      exact ⟨σ2, _, hsim.trans hs3, rfl, .bool true, by simp [VR], h8.trans (.one (stepR_round_end rfl rfl (run_endRound none hA3')))⟩
    · cases he
      have hs3 : Sim σ2 base st2.H w2 σ2 _ _ := loop_put (A2 := { A3 with state := .done, pending := some .ret }) (A2' := { A3' with state := .done, pending := some .ret }) h7.sr.hr hl2 hA3 ⟨rfl, rfl, s3⟩
      obtain ⟨todo, h8⟩ := h8
      exact ⟨σ2, _, hsim.trans hs3, rfl, .bool false, by simp [VR], h8.trans (.one (stepR_round_ret rfl rfl (run_endRound (some .ret) hA3')))⟩
    · rename_i i
      cases he
      have hs3 : Sim σ2 base st2.H w2 σ2 _ _ := loop_put (A2 := { A3 with state := .done, pending := some (.exit i) }) (A2' := { A3' with state := .done, pending := some (.exit i) }) h7.sr.hr hl2 hA3 ⟨rfl, rfl, s3⟩
      obtain ⟨pre, hpre, h8⟩ := h8
      exact ⟨σ2, _, hsim.trans hs3, rfl, .bool false, by simp [VR], h8.trans (.one (stepR_round_exit rfl rfl (by rw [hpre]; rfl) (run_endRound (some (.exit i)) hA3')))⟩
    · rename_i v
      cases he
      obtain ⟨todo, v', hv, hn, h8⟩ := h8
      exact ⟨σ2, w2, hsim, rfl, v', hv, h8.trans (.one (step_raise rfl hde hn))⟩

theorem ev_ok {dr : (Task → Option Res) → Option Nat → Array Oper → St → Option (Ex × St)} (hdr : ∀ rec, RecOk P rec → ∀ ro, DrOk P ro (dr rec ro)) (n : Nat) : RecOk P (ev P dr n) := by
  induction n with
  | zero => exact ⟨fun _ _ _ _ _ h => by simp [ev] at h, fun _ _ _ _ _ _ _ h => by simp [ev] at h, fun _ _ _ _ _ _ h => by simp [ev] at h⟩
  | succ n ih => exact evF_ok ih (hdr _ ih)

/-- **the abstract run of a call is one of the model's.** -/
theorem calls_of_ev {dr : (Task → Option Res) → Option Nat → Array Oper → St → Option (Ex × St)} (hdr : ∀ rec, RecOk P rec → ∀ ro, DrOk P ro (dr rec ro)) {n : Nat} {f : FuncId} {args : List V} {H H' : AH} {v : V} {rc : RecSt}
    (he : ev P dr n (.call f args .no H) = some (.en (.ret v) rc H')) {σ : Sg} {base : Nat} {w : World} {args' : Array Value} (hr : HR σ base H w) (ha : VRs σ args args'.toList) :
    Calls P f args' w fun e w' => ∃ v' σ', e = .returned v' ∧ VR σ' v v' ∧ Sim σ base H w σ' H' w' := by
  intro cs
  obtain ⟨σ', w', cs', fr', e', h1, h2, ⟨v', rfl, h3⟩, h4, h5, h6, h7⟩ := (ev_ok hdr n).call f args .no H _ rc H' he σ base w args' .normal cs hr ha ⟨rfl, .inl rfl⟩
  have := h2.normal
  subst this
  exact ⟨.returned v', w', fr', ⟨v', σ', rfl, h3, h1⟩, h4, h5, going_leaving h7 h6⟩
end
end Go.Am
