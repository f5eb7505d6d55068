/-
  A part of the proof that an abstract machine, which runs a program without orders, room or tape, says what the model does. No condition beside what each theorem states.
-/
import Derived.Test.YtjgejncgeklanaaDoorAmSound14
namespace Go.Am
open Go Go.RowKit

section
variable {σ : Sg} {base : Nat} {H : AH} {w : World} {P : Program}

theorem callFunc_ok {f : FuncId} {args : List V} {nx : Nx} (e : oCallFunc P f args = some nx) {args' : Array Value} (ha : VRs σ args args'.toList) : NxR σ base H w ((callFunc f args').run P w) nx := by
  unfold oCallFunc at e
  split at e
  case h_2 => cases e
  rename_i fn hf
  split at e
  case isFalse => cases e
  rename_i hc
  cases e
  simp only [Bool.and_eq_true, bne_iff_ne, ne_eq] at hc
  obtain ⟨h1, h2⟩ := hc
  refine ⟨args', ?_, ha⟩
  have h3 : (fn.name == "runtime.NumGoroutine") = false := by simpa using h2
  have h4 : fn.body.isNone = false := by cases hb : fn.body <;> simp [hb] at h1 ⊢
  simp only [callFunc, Sem.run_bind, run_program, Result.andThen_ok, hf, h3, h4, Bool.false_eq_true, if_false, Sem.run_pure]

theorem methodOf_run {t : TypeId} {name : String} {f : FuncId} {pr isP : Bool} (h : methodOf P t name = some (f, pr, isP)) (hp : isP = pr) (v : Value) (n : Nat) (w : World) : (method (n + 1) t v name).run P w = .ok (f, v) w := by
  unfold methodOf at h
  cases hi : P.info? t with
  | none => simp [hi] at h
  | some i =>
    simp only [hi, Option.bind_some] at h
    cases hm : i.methods.find? (·.name == name) with
    | none => simp [hm] at h
    | some m =>
      simp only [hm, Option.bind_some] at h
      cases hfn : m.func with
      | none => simp [hfn] at h
      | some fp =>
        simp only [hfn, Option.bind_some] at h
        split at h
        case isFalse => cases h
        rename_i hpath
        cases hu : P.underlying t with
        | none => simp [hu] at h
        | some d =>
          simp only [hu, Option.map_some, Option.some.injEq, Prod.mk.injEq] at h
          obtain ⟨rfl, rfl, h3⟩ := h
          have hpath' : m.path.toList = [] := by simpa using hpath
          obtain ⟨ff, pp⟩ := fp
          simp only at h3 hp ⊢
          simp only [method, Sem.run_bind, typeInfo, run_program, Result.andThen_ok, hi, Sem.run_pure, hm, hpath', follow, hfn]
          subst hp
          cases d <;> simp only at h3 <;> subst h3 <;> simp [receiverAt, run_underlying hu, Place.get]

theorem callMethod_ok {recv : V} {name : String} {args : List V} {nx : Nx} (e : oCallMethod P recv name args = some nx) {recv' : Value} (hr : VR σ recv recv') {args' : Array Value} (ha : VRs σ args args'.toList) : NxR σ base H w ((callMethod recv' name args').run P w) nx := by
  unfold oCallMethod at e
  split at e
  · rename_i t v
    simp only [VR] at hr
    obtain ⟨v', rfl, hv⟩ := hr
    cases hm : methodOf P t name with
    | none => simp [hm] at e
    | some q =>
      obtain ⟨f, pr, isP⟩ := q
      simp only [hm, Option.bind_some] at e
      split at e
      case isFalse => cases e
      rename_i hp
      have hp : isP = pr := by simpa using hp
      have h1 := methodOf_run hm hp v' (P.types.size + 99) w
      have h2 := callFunc_ok (base := base) (H := H) (w := w) e (args' := #[v'] ++ args') (by simpa using VRs.cons hv ha)
      have h3 : (callMethod (.iface t v') name args').run P w = (callFunc f (#[v'] ++ args')).run P w := by
        simp only [callMethod, Sem.run_bind, run_program, Result.andThen_ok]
        rw [show P.types.size + Made.depth = P.types.size + 99 + 1 from rfl, h1]
        rfl
      rw [h3]; exact h2
  · simp only [VR] at hr; subst hr
    cases e
    exact ⟨_, by simp [callMethod, runtimePanic], rtErr_run σ _⟩
  · cases e

theorem VRs.list1 {σ : Sg} {x : V} {l : List Value} (h : VRs σ [x] l) : ∃ x', l = [x'] ∧ VR σ x x' := by
  simp only [VRs] at h
  obtain ⟨x', l', rfl, h1, rfl⟩ := h
  exact ⟨x', rfl, h1⟩
theorem VRs.list2 {σ : Sg} {x y : V} {l : List Value} (h : VRs σ [x, y] l) : ∃ x' y', l = [x', y'] ∧ VR σ x x' ∧ VR σ y y' := by
  simp only [VRs] at h
  obtain ⟨x', l', rfl, h1, y', l2, rfl, h2, rfl⟩ := h
  exact ⟨x', y', rfl, h1, h2⟩

theorem arr_eq {a : Array Value} {l : List Value} (h : a.toList = l) : a = l.toArray := by
  apply Array.ext'; simpa using h

theorem ok_builtin (hr : HR σ base H w) {b : Builtin} {ats : Array TypeId} {args : List V} {nx : Nx} (e : oBuiltin P H b ats args = some nx) {args' : Array Value} (ha : VRs σ args args'.toList) (ty : TypeId) (cs : Array Bool) :
    NxR σ base H w ((builtin b ats ty cs args').run P w) nx := by
  unfold oBuiltin at e
  split at e
  · obtain ⟨x', hl, h1⟩ := ha.list1
    rw [arr_eq hl]
    cases ht : ats[0]? with
    | none => simp [ht] at e
    | some t =>
      simp only [ht, Option.bind_some] at e
      exact ok_len hr ht e h1
  · rename_i a n c
    obtain ⟨x', hl, h1⟩ := ha.list1
    rw [arr_eq hl]
    cases ht : ats[0]? with
    | none => simp [ht] at e
    | some t =>
      simp only [ht, Option.bind_some] at e
      split at e
      · rename_i el hu
        cases e
        refine NxR.pv_of (s := Builtin.cap_ ats ty #[x']) (v' := .int .i64 c) ?_ (VR.int' _ _ _)
        cases a with
        | none => simp only [VR] at h1; obtain ⟨rfl, _⟩ := h1; simp [Builtin.cap_, ht, run_underlying hu, goInt]
        | some p => simp only [VR] at h1; obtain ⟨L, c', _, rfl, _, rfl⟩ := h1; simp [Builtin.cap_, ht, run_underlying hu, goInt]
      · cases e
  · obtain ⟨s', x', hl, h1, h2⟩ := ha.list2
    rw [arr_eq hl]
    cases ht : ats[0]? with
    | none => simp [ht] at e
    | some t =>
      cases hxt : ats[1]? with
      | none => simp [ht, hxt] at e
      | some xt =>
        simp only [ht, hxt, Option.bind_some] at e
        exact ok_append hr ht hxt e h1 h2
  · obtain ⟨s', x', hl, h1, h2⟩ := ha.list2
    rw [arr_eq hl]
    cases ht : ats[0]? with
    | none => simp [ht] at e
    | some t =>
      simp only [ht, Option.bind_some] at e
      exact ok_copy hr ht e h1 h2
  · rename_i v r
    simp only [VRs] at ha
    obtain ⟨v', l', hl, h1, h2⟩ := ha
    rw [arr_eq hl]
    cases hf : foldMin false v r with
    | none => simp [hf] at e
    | some x =>
      simp [hf] at e; subst e
      obtain ⟨x', h3, h4⟩ := foldMin_ok (P := P) r v x hf l' v' h2 h1 w
      simp only [Bool.false_eq_true, if_false] at h3
      exact NxR.pv_of (s := Builtin.min_ ats ty (v' :: l').toArray) (v' := x') (by simpa [Builtin.min_] using h3) h4
  · rename_i v r
    simp only [VRs] at ha
    obtain ⟨v', l', hl, h1, h2⟩ := ha
    rw [arr_eq hl]
    cases hf : foldMin true v r with
    | none => simp [hf] at e
    | some x =>
      simp [hf] at e; subst e
      obtain ⟨x', h3, h4⟩ := foldMin_ok (P := P) r v x hf l' v' h2 h1 w
      simp only [if_true] at h3
      exact NxR.pv_of (s := Builtin.max_ ats ty (v' :: l').toArray) (v' := x') (by simpa [Builtin.max_] using h3) h4
  · cases e
    exact rfl
  · obtain ⟨x', hl, h1⟩ := ha.list1
    rw [arr_eq hl]
    cases e
    have h2 := h1
    simp only [VR] at h1
    obtain ⟨v', rfl, _⟩ := h1
    exact ⟨_, by simp [builtin, Instr.panic], h2⟩
  · cases e

theorem ok_call {a : Act} {tm : PT V} {nt : Nat} (h : StR σ base tm nt H a w) {c : Call} {nx : Nx} (e : oCall P tm H c = some nx) (ty : TypeId) :
    NxR σ base H w ((do let d ← resolve a.eval c ty; invoke d.target d.args : Sem Next).run P w) nx := by
  unfold oCall at e
  cases hargs : evalAll H.ng tm c.args.toList with
  | none => simp [hargs] at e
  | some args =>
    simp only [hargs, Option.bind_some] at e
    have ha : VRs σ args (c.args.map a.eval).toList := by rw [Array.toList_map]; exact evalAll_ok h c.args.toList hargs
    split at e
    · rename_i b hc
      simp only [resolve, hc, Sem.run_bind, Sem.run_pure, Result.andThen_ok, invoke]
      exact ok_builtin h.hr e ha ty _
    · rename_i r name hc
      cases hrv : aeval H.ng tm r with
      | none => simp [hrv] at e
      | some rv =>
        simp only [hrv, Option.bind_some] at e
        have hr := eval_ok h hrv
        have := callMethod_ok (base := base) (H := H) (w := w) e hr ha
        simp only [resolve, hc, Sem.run_bind, Sem.run_pure, Result.andThen_ok, invoke]
        have h0 : (#[a.eval r] ++ c.args.map a.eval)[0]? = some (a.eval r) := by rw [Array.getElem?_append_left (by simp)]; rfl
        have h1 : (#[a.eval r] ++ c.args.map a.eval).extract 1 (#[a.eval r] ++ c.args.map a.eval).size = c.args.map a.eval := by
          apply Array.ext'; simp; exact List.take_of_length_le (by simp)
        rw [h0]; simp only [h1]; exact this
    · rename_i f hc
      cases hfv : aeval H.ng tm f with
      | none => simp [hfv] at e
      | some fv =>
        simp only [hfv, Option.bind_some] at e
        have hf := eval_ok h hfv
        split at e
        · rename_i fid first cap
          simp only [VR] at hf
          obtain ⟨fn', f', c', hfe, h1, h2, h3⟩ := hf
          simp only [FnR] at h1; subst h1
          have h4 : VRs σ (first ++ args ++ cap) ((f' ++ c.args.map a.eval) ++ c').toList := by
            rw [Array.toList_append, Array.toList_append]; exact (h2.append ha).append h3
          have := callFunc_ok (base := base) (H := H) (w := w) e h4
          simpa only [resolve, hc, hfe, Deferred.ofValue, Sem.run_bind, Sem.run_pure, Result.andThen_ok, invoke] using this
        · rename_i l
          simp only [VR] at hf
          obtain ⟨fn', f', c', hfe, h1, h2, h3⟩ := hf
          simp only [FnR] at h1
          obtain ⟨L, hL, rfl⟩ := h1
          simp only [VRs] at h2
          have h2' : f' = #[] := by apply Array.ext'; simpa using h2
          subst h2'
          cases e
          refine ⟨L, c.args.map a.eval, hL, ha, P, ?_⟩
          have h0 : #[] ++ c.args.map a.eval = c.args.map a.eval := by simp
          simp only [resolve, hc, hfe, Deferred.ofValue, Sem.run_bind, Sem.run_pure, Result.andThen_ok, invoke, h0]
        · rename_i name r
          simp only [VR] at hf
          obtain ⟨fn', f', c', hfe, h1, h2, h3⟩ := hf
          simp only [FnR] at h1; subst h1
          obtain ⟨r', hl, hr⟩ := h2.list1
          have hf' : f' = #[r'] := by rw [arr_eq hl]
          subst hf'
          have := callMethod_ok (base := base) (H := H) (w := w) e hr ha
          simp only [resolve, hc, hfe, Deferred.ofValue, Sem.run_bind, Sem.run_pure, Result.andThen_ok, invoke]
          have h0 : (#[r'] ++ c.args.map a.eval)[0]? = some r' := by rw [Array.getElem?_append_left (by simp)]; rfl
          have h1 : (#[r'] ++ c.args.map a.eval).extract 1 (#[r'] ++ c.args.map a.eval).size = c.args.map a.eval := by
            apply Array.ext'; simp; exact List.take_of_length_le (by simp)
          rw [h0]; simp only [h1]; exact this
        · simp only [VR] at hf
          cases e
          refine ⟨_, ?_, rtErr_run σ _⟩
          simp [resolve, hc, hf, Deferred.ofValue, invoke, runtimePanic]
        · cases e

theorem ok_defer {a : Act} {tm : PT V} {nt : Nat} (h : StR σ base tm nt H a w) {c : Call} {nx : Nx} (e : oDefer H.ng tm c = some nx) (ty : TypeId) :
    NxR σ base H w ((do pure (.defer (← resolve a.eval c ty)) : Sem Next).run P w) nx := by
  unfold oDefer at e
  cases hargs : evalAll H.ng tm c.args.toList with
  | none => simp [hargs] at e
  | some args =>
    simp only [hargs, Option.bind_some] at e
    have ha : VRs σ args (c.args.map a.eval).toList := by rw [Array.toList_map]; exact evalAll_ok h c.args.toList hargs
    split at e
    case h_2 => cases e
    rename_i f hc
    split at e
    case h_2 => cases e
    rename_i fid first cap hfv
    have hf := eval_ok h hfv
    simp only [VR] at hf
    obtain ⟨fn', f', c', hfe, h1, h2, h3⟩ := hf
    simp only [FnR] at h1; subst h1
    cases e
    refine ⟨{ target := .fn (.func fid) c', args := f' ++ c.args.map a.eval }, ?_, ?_⟩
    · simp [resolve, hc, hfe, Deferred.ofValue]
    · refine ⟨_, c', rfl, rfl, ?_⟩
      rw [Array.toList_append]; exact (h2.append ha).append h3
end
end Go.Am
