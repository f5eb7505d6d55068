/-
  A part of the proof that an abstract machine, which runs a program without orders, room or tape, says what the model does. No condition beside what each theorem states.
-/
import Derived.Test.YtjgejncgeklanaaDoorAmMach2
import Derived.RangeFuncIn
namespace Go.Am
open Go Go.RowKit

section
variable {P : Program} {rec : Task → Option Res} {σ : Sg} {base : Nat} {H : AH} {w : World}

theorem loop_obj (h : HR σ base H w) {l : Nat} {L : Loc} (hb : σ l = some L) {A : ALoop} (ho : H.get l = some (.loop A)) : ∃ l', w.heap[L.r]? = some (.loop l') ∧ LoopR σ A l' :=
  (h.obj l L _ hb ho).2

theorem loop_put (h : HR σ base H w) {l : Nat} {L : Loc} (hb : σ l = some L) {A A2 : ALoop} (ho : H.get l = some (.loop A)) {A2' : Loop} (hn : LoopR σ A2 A2') :
    Sim σ base H w σ (H.put l (.loop A2)) (w.putObj L.r (.loop A2')) := by
  have hbase := (h.obj l L _ hb ho).1
  refine h.putObj hb ho rfl (fun _ => rfl) ⟨hbase, A2', ?_, hn⟩
  rw [heap_putO, if_pos ⟨rfl, h.lt l L hb⟩]

theorem range_go (hrec : RecOk P rec) {ro : Option Nat} {st : St} {g : FuncId} {first cap : List V} {l : Nat} {H2 : AH} {defs : List ADef} {e : Ex} {st' : St}
    (he : evRangeGo P rec st g (first ++ [.func (.yield l) [] []] ++ cap) l H2 defs = some (e, st'))
    {b : Frame} {a : Act} {cs0 cs : List Frame} (k : List Item) (hp : Pre σ base ro st b a cs0 cs w) {f : Operand} {ps : Array Tmp} {asg body : Code}
    (hf : VR σ (.func (.func g) first cap) (a.eval f)) {σ2 : Sg} {w2 : World} {Ll : Loc} {mark : List Deferred} (hs : Sim σ base st.H w σ2 H2 w2) (hl : σ2 l = some Ll)
    (hent : (Instr.enterLoop b.fn a.tmps ps asg body b.roundOf).run P w = .ok (Ll.r, mark) w2) (hd : DefsR σ2 defs (mark ++ a.defers)) :
    Post P σ base ro st.H w b cs0 k (lone (b.atR a (.code (.rangeFunc f ps asg body) :: k)) cs w) e st' := by
  unfold evRangeGo at he
  split at he
  case h_2 => cases he
  rename_i g2 args hoc
  have hf2 := hf.mono hs.le
  simp only [VR] at hf2
  obtain ⟨fn', f', c', hfe, h1, h2, h3⟩ := hf2
  simp only [FnR] at h1; subst h1
  have hy : VRs σ2 [V.func (.yield l) [] []] [Value.func (.yield Ll.r) #[] #[]] := by
    refine VRs.cons ?_ VRs.nil
    simp only [VR, FnR]
    exact ⟨_, _, _, rfl, ⟨Ll, hl, rfl⟩, by simp [VRs], by simp [VRs]⟩
  have h4 : VRs σ2 (first ++ [.func (.yield l) [] []] ++ cap) ((f' ++ #[Value.func (.yield Ll.r) #[] #[]]) ++ c').toList := by
    rw [Array.toList_append, Array.toList_append]; exact (h2.append hy).append h3
  obtain ⟨args', hrun, hargs⟩ := callFunc_ok (base := base) (H := H2) (w := w2) hoc h4
  have hres : (resolve a.eval (rangeCall f Ll.r) 0).run P w2 = .ok { target := .fn (.func g) c', args := f' ++ #[Value.func (.yield Ll.r) #[] #[]] } w2 := by
    have hm : Array.map a.eval #[Operand.const (Value.func (Fn.yield Ll.r) #[] #[])] = #[Value.func (.yield Ll.r) #[] #[]] := by simp [Act.eval]
    simp only [resolve, rangeCall, hfe, Deferred.ofValue, Sem.run_pure, hm]
  have hstep := stepR_rangeFunc (P := P) (b := b) (a := a) (k := k) (cs := cs) (w := w) hent hres (by simpa only [invoke] using hrun)
  have hcall := fun e rc H hr => hrec.call g2 args .no H2 e rc H hr σ2 base w2 args' .normal (b.atR { a with defers := mark ++ a.defers } (.inRangeFunc Ll.r :: k) :: cs) hs.hr hargs ⟨rfl, .inl rfl⟩
  split at he
  · rename_i v H hr
    obtain ⟨σ3, w3, cs3, fr3, e3, hs3, hcs3, ⟨v', rfl, hv⟩, hsteps, hfn, hkd, hgo⟩ := hcall _ _ _ hr
    obtain ⟨rfl, _⟩ := hcs3
    split at he
    case h_2 => cases he
    rename_i A hA
    split at he
    case isTrue => cases he
    rename_i hbusy
    have hl3 := hs3.le _ _ hl
    obtain ⟨A', hA', hLR⟩ := loop_obj hs3.hr hl3 hA
    obtain ⟨q1, q2, q3⟩ := hLR
    have hend : (Instr.endLoop Ll.r).run P w3 = .ok A.pending (w3.putObj Ll.r (.loop { A' with state := .exhausted })) := by
      rw [← q2]; exact run_endLoop (P := P) hA' (by rw [q1]; exact hbusy)
    have hs4 : Sim σ3 base H w3 σ3 (H.put l (.loop { A with state := .exhausted })) (w3.putObj Ll.r (.loop { A' with state := .exhausted })) :=
      loop_put hs3.hr hl3 hA ⟨rfl, q2, q3⟩
    have hsim := (hs.trans hs3).trans hs4
    have hbk : Steps P (lone (b.atR a (.code (.rangeFunc f ps asg body) :: k)) cs w)
        (lone (b.atR { a with defers := mark ++ a.defers } ((A.pending.map Item.code).toList ++ k)) cs (w3.putObj Ll.r (.loop { A' with state := .exhausted }))) := by
      refine .head hstep (hsteps.trans (.head ?_ (.one (stepR_endRangeFunc hend))))
      rw [← finish_atR_inRangeFunc Ll.r v']; exact step_leave_returned (going_leaving hgo hkd)
    have hpre : Pre σ3 base ro ⟨st.tmps, st.nt, H.put l (.loop { A with state := .exhausted }), defs, st.rc⟩ b { a with defers := mark ++ a.defers } cs0 cs (w3.putObj Ll.r (.loop { A' with state := .exhausted })) :=
      ⟨⟨hs4.hr, hp.sr.tm.mono hsim.le⟩, hd.mono hs3.le, hp.cs.mono hsim.le, hp.ro.mono hsim.le⟩
    simp only at he
    split at he
    · rename_i hpd; cases he
      rw [hpd] at hbk
      exact ⟨σ3, _, cs, _, hsim, hpre, hbk⟩
    · rename_i hpd; cases he
      rw [hpd] at hbk
      exact ⟨σ3, _, cs, _, hsim, hpre, k, hbk⟩
    · rename_i i hpd; cases he
      rw [hpd] at hbk
      exact ⟨σ3, _, cs, _, hsim, hpre, [], fun _ => rfl, hbk⟩
    · cases he
  · rename_i v H hr
    obtain ⟨σ3, w3, cs3, fr3, e3, hs3, hcs3, ⟨v', rfl, hv⟩, hsteps, hfn, hkd, hgo⟩ := hcall _ _ _ hr
    obtain ⟨rfl, _⟩ := hcs3
    cases he
    have hsim := hs.trans hs3
    refine ⟨σ3, { a with defers := mark ++ a.defers }, cs, w3, hsim, ⟨⟨hs3.hr, hp.sr.tm.mono hsim.le⟩, hd.mono hs3.le, hp.cs.mono hsim.le, hp.ro.mono hsim.le⟩, .inRangeFunc Ll.r :: k, v', hv, trivial, .head hstep (hsteps.trans (.one ?_))⟩
    rw [← Frame.raise_atR]; exact step_leave_panicked (going_leaving hgo hkd)
  · cases he

theorem ins_same (σ : Sg) (b : Nat) (L : Loc) : σ.ins b L b = some L := by simp [Sg.ins]

theorem range_ok (hrec : RecOk P rec) {ro : Option Nat} {f : Operand} {ps : Array Tmp} {asg body : Code} {st : St} {e : Ex} {st' : St}
    (he : evRange P rec ro f ps asg body st = some (e, st')) {b : Frame} {a : Act} {cs0 cs : List Frame} (k : List Item) (hp : Pre σ base ro st b a cs0 cs w) :
    Post P σ base ro st.H w b cs0 k (lone (b.atR a (.code (.rangeFunc f ps asg body) :: k)) cs w) e st' := by
  unfold evRange at he
  obtain ⟨fv, hfv, he⟩ := bind_some he
  have hf := eval_ok hp.sr hfv
  split at he
  case h_2 => cases he
  rename_i g first cap
  split at he
  · -- an outermost loop
    have hro : b.roundOf = none := hp.ro
    have hs1 : Sim σ base st.H w (σ.ins st.H.next ⟨w.heap.size, 0, 0⟩) (st.H.push (.deferred true)) (w.alloc (.deferred (some []))) :=
      hp.sr.hr.push (.deferred true) (.deferred (some [])) 0 (fun _ => ⟨hp.sr.hr.base, heap_alloc_new _ _⟩) (fun _ => rfl)
    have hs2 : Sim (σ.ins st.H.next ⟨w.heap.size, 0, 0⟩) base (st.H.push (.deferred true)) (w.alloc (.deferred (some [])))
        ((σ.ins st.H.next ⟨w.heap.size, 0, 0⟩).ins (st.H.push (.deferred true)).next ⟨(w.alloc (.deferred (some []))).heap.size, 0, 0⟩)
        ((st.H.push (.deferred true)).push (.loop ⟨.ready, none, st.nt, st.tmps, ps, asg, body, st.H.next⟩))
        ((w.alloc (.deferred (some []))).alloc (.loop { state := .ready, pending := none, fn := b.fn, tmps := a.tmps, params := ps, assign := asg, body := body, defers := w.heap.size })) := by
      refine hs1.hr.push _ _ 0 (fun hle => ⟨hs1.hr.base, _, heap_alloc_new _ _, rfl, rfl, (hp.sr.tm.mono hs1.le).mono hle, rfl, rfl, rfl, ?_⟩) (fun _ => rfl)
      exact ⟨_, hle _ _ (ins_same _ _ _), rfl⟩
    refine range_go hrec he k hp hf (hs1.trans hs2) (ins_same _ _ _) (mark := [{ target := .collected w.heap.size, args := #[] }]) ?_ ?_
    · rw [hro, run_enterLoop_outer]
      simp [World.size_alloc]
    · refine ⟨_, _, rfl, ⟨_, hs2.le _ _ (ins_same _ _ _), rfl⟩, hp.df.mono (hs1.trans hs2).le⟩
  · rename_i l0
    obtain ⟨L0, hL0, hro, hkd⟩ := hp.ro
    split at he
    case h_2 => cases he
    rename_i A0 hA0
    obtain ⟨A0', hA0', q1, q2, q3, q4, q5, q6, D, hD, q7⟩ := loop_obj hp.sr.hr hL0 hA0
    have hs2 : Sim σ base st.H w (σ.ins st.H.next ⟨w.heap.size, 0, 0⟩) (st.H.push (.loop ⟨.ready, none, st.nt, st.tmps, ps, asg, body, A0.defers⟩))
        (w.alloc (.loop { state := .ready, pending := none, fn := b.fn, tmps := a.tmps, params := ps, assign := asg, body := body, defers := A0'.defers })) := by
      refine hp.sr.hr.push _ _ 0 (fun hle => ⟨hp.sr.hr.base, _, heap_alloc_new _ _, rfl, rfl, hp.sr.tm.mono hle, rfl, rfl, rfl, ?_⟩) (fun _ => rfl)
      exact ⟨D, hle _ _ hD, q7⟩
    refine range_go hrec he k hp hf hs2 (ins_same _ _ _) (mark := []) ?_ ?_
    · rw [hro, run_enterLoop_inner hA0']
    · exact hp.df.mono hs2.le
end
end Go.Am
