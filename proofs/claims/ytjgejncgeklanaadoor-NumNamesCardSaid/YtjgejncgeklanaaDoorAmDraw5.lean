/-
  A part of the proof that an abstract machine, which runs a program without orders, room or tape, says what the model does. No condition beside what each theorem states.
-/
import Derived.Test.YtjgejncgeklanaaDoorAmDraw4
namespace Go.Am
open Go Go.RowKit

section
variable {P : Program} {rec : Task → Option Res} {ops : Array Oper} {σ0 : Sg} {base : Nat} {H0 : AH} {w0 : World} {nt : Nat}
  {b : Frame} {cs : List Frame} {k : List Item}

theorem effE_ok (hrec : RecOk P rec) {σ : Sg} {T tmS : PT V} {C : AH} {a : Act} {w : World} (hst : StR σ base tmS nt C a w) {i : Nat} {o : Oper} (ho : ops[i]? = some o) (hres : res1 P ops tmS C o = res1 P ops T C o)
    {v : V} {H' : AH} (he : effE P rec ops T C o = some (v, H')) (is : List Nat) :
    ∃ σ' w' v', Sim σ base C w σ' H' w' ∧ VR σ' v v' ∧ Steps P (lone (b.atR a (.inRegion ops (i :: is) :: k)) cs w) (lone (b.atR (a.put o.dst v') (.inRegion ops is :: k)) cs w') := by
  unfold effE at he
  rw [← hres] at he
  unfold res1 at he
  by_cases hwn : wantedA ops tmS o.guard = true
  · rw [if_pos hwn] at he
    have hw := wanted_ok hst hwn
    generalize hn : aexec P tmS C o = nx at he
    cases nx with
    | none => cases he
    | some nx =>
    have hnx := aexec_ok hst hn
    cases nx with
    | pv v =>
      cases he
      obtain ⟨v', h1, h2⟩ := hnx
      rw [← semAt_of hn (by simp) b.roundOf] at h1
      exact ⟨σ, w, v', Sim.refl hst.hr, h2, .one (step_value ho hw (.inl rfl) h1)⟩
    | eff v H1 =>
      cases he
      obtain ⟨σ1, w1, nx1, v', h1, h2, h3, h4⟩ := hnx
      rw [← semAt_of hn (by simp) b.roundOf] at h1
      exact ⟨σ1, w1, v', h4, h3, .one (step_value ho hw h2 h1)⟩
    | call f args =>
      obtain ⟨args', h1, h2⟩ := hnx
      rw [← semAt_of hn (by simp) b.roundOf] at h1
      have hstp := step_enter (P := P) (b := b) (a := a) (k := k) (cs := cs) (is := is) ho hw h1
      simp only at he
      split at he
      · rename_i v1 H1 hr
        cases he
        obtain ⟨σ1, w1, cs1, fr1, e1, hs1, hcs1, ⟨v', rfl, hv⟩, hsteps, hfn, hkd, hgo⟩ := hrec.call _ _ _ _ _ _ _ hr σ base w args' .normal (b.atR a (.inRegion ops (i :: is) :: k) :: cs) hst.hr h2 ⟨rfl, .inl rfl⟩
        obtain ⟨rfl, _⟩ := hcs1
        refine ⟨σ1, w1, v', hs1, hv, .head hstp (hsteps.trans (.one ?_))⟩
        rw [← fin_eq ho]; exact step_leave_returned (going_leaving hgo hkd)
      · cases he
    | round l args =>
      obtain ⟨L, args', hl, h2, P0, h1⟩ := hnx
      simp only at he
      split at he
      · rename_i v1 H1 hr
        cases he
        obtain ⟨fn, tmps, asg, body, hy, hon⟩ := hrec.round _ _ _ _ _ _ hr σ base w args' L hst.hr h2 hl
        obtain ⟨σ1, w1, hs1, _, v', hv, hsteps⟩ := hon (b.atR a (.inRegion ops (i :: is) :: k)) cs
        have hstp := step_round (P := P) (b := b) (a := a) (k := k) (cs := cs) (is := is) (w := w) (w' := w) (l := L.r) (f := fn) (tmps := tmps) (asg := asg) (body := body) ho hw (by rw [semAt_of hn (by simp) b.roundOf, h1, hy P0])
        refine ⟨σ1, w1, v', hs1, hv, .head hstp ?_⟩
        rw [← fin_eq ho]; exact hsteps
      · cases he
    | new ob mk => cases he
    | defer d => cases he
    | recover => cases he
    | panic v => cases he
  · rw [if_neg hwn] at he
    cases he
    have hw := unwanted_ok hst (by simpa using hwn : wantedA ops tmS o.guard = false)
    have hs := stepR_op_skip (P := P) (b := b) (a := a) (k := k) (cs := cs) (w := w) (ops := ops) (i := i) (rest := is) (by rw [ho]; simpa using hw)
    rw [ho] at hs
    exact ⟨σ, w, undef, Sim.refl hst.hr, VR.undef, .one hs⟩

theorem dr_run (hrec : RecOk P rec) (hu : usesOk ops (masks 0 ops.toList .nil) = true) : ∀ (stages : List (List Nat × Nat)) (last : List Nat), laterOk (masks 0 ops.toList .nil) stages last = true →
    ∀ (s : DS) (Tf : PT V) (Hf : AH), evStages P rec ops nt (masks 0 ops.toList .nil) stages last s = some (Tf, Hf) →
    ∀ (is : List Nat) (S : Nat → Prop) (σ : Sg) (a : Act) (w : World) (pd : List (Nat × Option Nat)), DI P ops σ0 base H0 w0 nt S s.T s.H pd σ a w → (∀ x ∈ pd, x ∈ s.O) → (∀ x ∈ pd, x.1 ∉ flatS stages last) → (∀ i ∈ flatS stages last, ¬ S i) →
      (∀ i, i < ops.size → S i ∨ (∃ x ∈ pd, x.1 = i) ∨ i ∈ flatS stages last) → Topo ops S is → Closed ops S →
      ∃ σ' a' w', Sim σ0 base H0 w0 σ' Hf w' ∧ TmR σ' nt Tf a'.tmps ∧ a'.defers = a.defers ∧ Le σ σ' ∧
        Steps P (lone (b.atR a (.inRegion ops is :: k)) cs w) (lone (b.atR a' k) cs w') := by
  intro stages
  induction stages with
  | nil =>
    intro last hlo s Tf Hf he is S σ a w pd hd hO hF hfS hcov ht hc
    simp only [evStages] at he
    obtain ⟨s1, h1, h2⟩ := bind_some he
    split at h2
    case isFalse => cases h2
    rename_i hchk
    cases h2
    rw [List.all_eq_true] at hchk
    simp only [flatS] at hF hfS hcov
    obtain ⟨pd1, q1, q2, q3, q4, q5⟩ := runNs_ok last s s1 pd h1 hd hO hfS
    obtain ⟨is', S', σ', a', w', pd', r1, r2, r3, r4, r5, r6, r7, r8, r9, r10, r11⟩ := consume (b := b) (cs := cs) (k := k) hu hchk (fut := []) is S σ a w pd1 q1 q2 (fun _ _ h => by cases h) (fun _ h => by cases h)
      (fun i hi => by
        rcases hcov i hi with h | ⟨x, hx, rfl⟩ | h
        · exact .inl h
        · exact .inr (.inl ⟨x, q3 x hx, rfl⟩)
        · exact .inr (.inl (q5 i h))) ht hc
    have hnil : is' = [] := by
      rcases r11 with h | ⟨_, _, _, h⟩
      · exact h
      · cases h
    subst hnil
    simp only [Topo] at r6
    obtain ⟨tmS, htm, hgv⟩ := r1.tm
    refine ⟨σ', a', w', r1.sim, ⟨htm.1, fun i => ?_⟩, r9, r8, r10.trans (.one stepR_region_end)⟩
    have : gv tmS i = gv s1.T i := hgv i fun x hx o ho hdst => r1.pdS x hx (r6 x.1 (Array.getElem?_eq_some_iff.1 ho).1)
    unfold gv at this
    rw [← this]; exact htm.2 i
  | cons st r ih =>
    obtain ⟨ns, e⟩ := st
    intro last hlo s Tf Hf he is S σ a w pd hd hO hF hfS hcov ht hc
    simp only [evStages] at he
    obtain ⟨s1, h1, h2⟩ := bind_some he
    split at h2
    case isFalse => cases h2
    rename_i hchk
    rw [List.all_eq_true] at hchk
    obtain ⟨o, ho, h3⟩ := bind_some h2
    obtain ⟨⟨v, H'⟩, h4, h5⟩ := bind_some h3
    obtain ⟨T', h6, h7⟩ := bind_some h5
    simp only [laterOk, Bool.and_eq_true, List.all_eq_true, Bool.not_eq_true'] at hlo
    obtain ⟨⟨⟨l1, l2⟩, l3⟩, l4⟩ := hlo
    simp only [flatS] at hF hfS hcov
    have l2' : e ∉ flatS r last := fun h => by rw [List.contains_iff_mem.2 h] at l2; cases l2
    have l1' : ∀ i ∈ ns, i ∉ e :: flatS r last := fun i hi h => by have := l1 i hi; rw [List.contains_iff_mem.2 h] at this; cases this
    obtain ⟨pd1, q1, q2, q3, q4, q5⟩ := runNs_ok ns s s1 pd h1 hd hO (fun i hi => hfS i (List.mem_append_left _ hi))
    obtain ⟨is', S', σ', a', w', pd', r1, r2, r3, r4, r5, r6, r7, r8, r9, r10, r11⟩ := consume (b := b) (cs := cs) (k := k) hu hchk (fut := e :: flatS r last) is S σ a w pd1 q1 q2
      (fun x hx h => by
        rcases q4 x hx with hx | hx
        · exact hF x hx (List.mem_append_right _ h)
        · exact l1' _ hx h)
      (fun i hi => hfS i (List.mem_append_right _ hi))
      (fun i hi => by
        rcases hcov i hi with h | ⟨x, hx, rfl⟩ | h
        · exact .inl h
        · exact .inr (.inl ⟨x, q3 x hx, rfl⟩)
        · rcases List.mem_append.1 h with h | h
          · exact .inr (.inl (q5 i h))
          · exact .inr (.inr h)) ht hc
    have he' : ¬ S' e := r4 e (List.mem_cons_self ..)
    have hlt : e < ops.size := (Array.getElem?_eq_some_iff.1 ho).1
    obtain ⟨i, r, rfl, hi⟩ : ∃ i r2, is' = i :: r2 ∧ i ∈ e :: flatS r last := by
      rcases r11 with h | h
      · subst h; simp only [Topo] at r6; exact absurd (r6 e hlt) he'
      · exact h
    rename_i rst
    obtain ⟨hSi, ⟨oi, hoi, hei⟩, r6'⟩ := r6
    have hie : i = e := by
      cases hi with
      | head => rfl
      | tail _ hi =>
        exact absurd (bits_in r7 hoi hei (l3 i hi)) he'
    subst hie
    rw [ho] at hoi; cases hoi
    obtain ⟨tmS, htm, hgv⟩ := r1.tm
    have hres := looks_ok hu r7 r1 ho hei hgv
    obtain ⟨σ2, w2, v', s2, hv, hst⟩ := effE_ok (b := b) (cs := cs) (k := k) hrec ⟨r1.sim.hr, htm⟩ ho hres h4 r
    obtain ⟨tmS2, t1, t2, t3⟩ := putT_tm h6 (htm.mono s2.le) hv
    have hnotbit : ∀ x ∈ pd', hasBit (masks 0 ops.toList .nil) i x.1 = false := fun x hx => by
      cases hb : hasBit (masks 0 ops.toList .nil) i x.1 with
      | false => rfl
      | true => exact absurd (bits_in r7 ho hei hb) (r1.pdS x hx)
    have hd2 : DI P ops σ0 base H0 w0 nt (fun j => j = i ∨ S' j) T' H' pd' σ2 (a'.put o.dst v') w2 := by
      refine ⟨r1.sim.trans s2, ⟨tmS2, t1, fun d hnd => ?_⟩, fun x hx h => ?_, fun x hx b' hb' => ?_, r1.blkd⟩
      · rw [t2, t3]
        split
        · rfl
        · exact hgv d hnd
      · rcases h with h | h
        · exact r3 x hx (by rw [h]; exact List.mem_cons_self ..)
        · exact r1.pdS x hx h
      · obtain ⟨u1, u2, u3⟩ := r1.blk x hx b' hb'
        refine ⟨?_, Nat.lt_of_lt_of_le u2 s2.next, u3⟩
        cases hσ : σ2 b' with
        | none => rfl
        | some L =>
          rcases s2.new b' L hσ with h | ⟨h, _⟩
          · rw [u1] at h; cases h
          · omega
    obtain ⟨σ3, a3, w3, v1, v2, v3, v4, v5⟩ := ih last l4 _ Tf Hf h7 r _ σ2 _ w2 pd' hd2
      (fun x hx => List.mem_filter.2 ⟨r2 x hx, by rw [hnotbit x hx]; rfl⟩)
      (fun x hx h => r3 x hx (List.mem_cons_of_mem _ h))
      (fun j hj => by
        rintro (h | h)
        · subst h; exact l2' hj
        · exact r4 j (List.mem_cons_of_mem _ hj) h)
      (fun j hj => by
        rcases r5 j hj with h | h | h
        · exact .inl (.inr h)
        · exact .inr (.inl h)
        · cases h with
          | head => exact .inl (.inl rfl)
          | tail _ h => exact .inr (.inr h)) r6' (topo_closed r7 ho hei)
    refine ⟨σ3, a3, w3, v1, v2, ?_, (r8.trans s2.le).trans v4, (r10.trans hst).trans v5⟩
    rw [v3, ← r9]
    cases o.dst <;> rfl

theorem evDr_ok (hm : P.follows .mixedOrders = true) (hrec : RecOk P rec) (ro : Option Nat) : DrOk P ro (evDr P rec ro) := by
  intro ops st e st' he id σ base b a cs0 cs w k hp
  unfold evDr at he
  simp only at he
  split at he
  case isFalse => cases he
  rename_i hpl
  obtain ⟨⟨T, H⟩, h1, h2⟩ := map_some' he
  cases h2
  simp only [planOk, Bool.and_eq_true, List.all_eq_true] at hpl
  obtain ⟨⟨⟨p1, p2⟩, p3⟩, p4⟩ := hpl
  have hdrew : Sim σ base st.H w σ st.H w.drew := hp.sr.hr.drew
  have htopo := schedule_topo (P := P) hm p1 (w.tape w.drawn (.order b.fn id))
  obtain ⟨σ', a', w', q1, q2, q3, q4, q5⟩ := dr_run (b := b) (cs := cs) (k := k) (σ0 := σ) (base := base) (H0 := st.H) (w0 := w) (nt := st.nt) hrec p2 _ _ p3 _ T H h1 _ (fun _ => False) σ a w.drew []
    ⟨hdrew, ⟨st.tmps, hp.sr.tm, fun _ _ => rfl⟩, (fun _ h => by cases h), (fun _ h => by cases h), (fun _ h => by cases h)⟩ (fun _ h => by cases h) (fun _ h => by cases h) (fun _ _ h => h)
    (fun i hi => .inr (.inr (by have := p4 i (by simpa using hi); exact List.contains_iff_mem.1 this))) htopo (fun _ _ _ h => h.elim)
  refine ⟨σ', a', cs, w', q1, ⟨⟨q1.hr, q2⟩, ?_, hp.cs.mono q1.le, hp.ro.mono q1.le⟩, .head stepR_region_draw q5⟩
  rw [q3]; exact hp.df.mono q1.le

/-- **the abstract run of a call is one of the model's**, drawn orders and all. -/
theorem calls_of_am (hm : P.follows .mixedOrders = true) {n : Nat} {f : FuncId} {args : List V} {H H' : AH} {v : V} {rc : RecSt}
    (he : ev P (evDr P) n (.call f args .no H) = some (.en (.ret v) rc H')) {σ : Sg} {base : Nat} {w : World} {args' : Array Value} (hr : HR σ base H w) (ha : VRs σ args args'.toList) :
    Calls P f args' w fun e w' => ∃ v' σ', e = .returned v' ∧ VR σ' v v' ∧ Sim σ base H w σ' H' w' :=
  calls_of_ev (fun _ hrec ro => evDr_ok hm hrec ro) he hr ha
end
end Go.Am
