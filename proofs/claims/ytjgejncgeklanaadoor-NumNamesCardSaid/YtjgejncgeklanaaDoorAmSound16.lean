/-
  A part of the proof that an abstract machine, which runs a program without orders, room or tape, says what the model does. No condition beside what each theorem states.
-/
import Derived.Test.YtjgejncgeklanaaDoorAmSound15
namespace Go.Am
open Go Go.RowKit

section
variable {σ : Sg} {base : Nat} {H : AH} {w : World} {P : Program}

theorem bind_some {α β : Type} {x : Option α} {f : α → Option β} {y : β} (h : x.bind f = some y) : ∃ a, x = some a ∧ f a = some y := by
  cases x with
  | none => cases h
  | some a => exact ⟨a, rfl, h⟩
theorem map_some' {α β : Type} {x : Option α} {f : α → β} {y : β} (h : x.map f = some y) : ∃ a, x = some a ∧ f a = y := by
  cases x with
  | none => cases h
  | some a => exact ⟨a, rfl, by simpa using h⟩

theorem evalOpt_ok {a : Act} {tm : PT V} {nt : Nat} (h : StR σ base tm nt H a w) {x : Option Operand} {v : Option V} (e : evalOpt H.ng tm x = some v) :
    (∀ u, v = some u → ∃ u', x.map a.eval = some u' ∧ VR σ u u') ∧ (v = none → x.map a.eval = none) ∧ (v.isSome = x.isSome) := by
  cases x with
  | none => simp [evalOpt] at e; subst e; exact ⟨(fun u hu => by cases hu), fun _ => rfl, rfl⟩
  | some x =>
    simp only [evalOpt] at e
    obtain ⟨u, h1, rfl⟩ := map_some' e
    refine ⟨fun u2 hu => ?_, (fun hu => by cases hu), rfl⟩
    cases hu
    exact ⟨a.eval x, rfl, eval_ok h h1⟩

/-- ONE OPERATION. (The text's own slices with a third index have a second one: 'hsl'.) -/
theorem aexec_ok {a : Act} {tm : PT V} {nt : Nat} (h : StR σ base tm nt H a w) {o : Oper} {nx : Nx} (e : aexec P tm H o = some nx) : NxR σ base H w ((execOp a.eval o).run P w) nx := by
  unfold aexec at e
  split at e
  · rename_i x ho
    obtain ⟨v, h1, rfl⟩ := map_some' e
    exact ⟨a.eval x, by simp [execOp, ho], eval_ok h h1⟩
  · rename_i x ho
    obtain ⟨v, h1, rfl⟩ := map_some' e
    exact ⟨a.eval x, by simp [execOp, ho], eval_ok h h1⟩
  · rename_i c x y ho
    obtain ⟨cv, h1, e⟩ := bind_some e
    have hc := eval_ok h h1
    split at e
    · obtain ⟨v, h2, e⟩ := bind_some e
      obtain ⟨_, _, rfl⟩ := map_some' e
      simp only [VR] at hc
      exact ⟨a.eval x, by simp [execOp, ho, hc, asBool], eval_ok h h2⟩
    · obtain ⟨_, _, e⟩ := bind_some e
      obtain ⟨v, h2, rfl⟩ := map_some' e
      simp only [VR] at hc
      exact ⟨a.eval y, by simp [execOp, ho, hc, asBool], eval_ok h h2⟩
    · cases e
  · rename_i t ho
    have := ok_alloc (P := P) h.hr e
    simpa only [execOp, ho] using this
  · rename_i t x ho
    obtain ⟨v, h1, rfl⟩ := map_some' e
    have := ok_box (P := P) (t := t) h.hr (eval_ok h h1)
    simpa only [execOp, ho] using this
  · rename_i t parts ho
    obtain ⟨ps, h1, e⟩ := bind_some e
    obtain ⟨h2, h3⟩ := evalParts_ok h parts.toList h1
    have := ok_build (P := P) (ps' := parts.map fun (i, x) => (i, a.eval x)) h.hr (by rw [Array.toList_map]; exact h2) (by rw [Array.toList_map]; exact h3) e
    simpa only [execOp, ho] using this
  · rename_i t len parts ho
    obtain ⟨ps, h1, e⟩ := bind_some e
    obtain ⟨h2, h3⟩ := evalParts_ok h parts.toList h1
    have := ok_buildSlice (P := P) (ps' := parts.map fun (i, x) => (i, a.eval x)) h.hr (by rw [Array.toList_map]; exact h2) (by rw [Array.toList_map]; exact h3) e
    simpa only [execOp, ho] using this
  · rename_i t x ho
    obtain ⟨v, h1, e⟩ := bind_some e
    have := ok_load (P := P) h.hr (eval_ok h h1) e
    simpa only [execOp, ho] using this
  · rename_i t x y ho
    obtain ⟨v, h1, e⟩ := bind_some e
    obtain ⟨u, h2, e⟩ := bind_some e
    have := ok_store (P := P) h.hr (eval_ok h h1) (eval_ok h h2) e
    simpa only [execOp, ho] using this
  · rename_i x ho
    obtain ⟨v, h1, e⟩ := bind_some e
    exact ok_nilCheck h.hr (eval_ok h h1) e o x a.eval ho rfl
  · rename_i op t x y yt ho
    obtain ⟨v, h1, e⟩ := bind_some e
    obtain ⟨u, h2, e⟩ := bind_some e
    have := ok_bin (P := P) (base := base) (H := H) (w := w) e (eval_ok h h1) (eval_ok h h2) rfl
    simpa only [execOp, ho] using this
  · rename_i op t x ho
    obtain ⟨v, h1, e⟩ := bind_some e
    have := ok_un (P := P) (base := base) (H := H) (w := w) e (eval_ok h h1)
    simpa only [execOp, ho] using this
  · rename_i s d x ho
    obtain ⟨v, h1, e⟩ := bind_some e
    have := ok_convert (P := P) h.hr e (eval_ok h h1)
    simpa only [execOp, ho] using this
  · rename_i t x ho
    obtain ⟨v, h1, e⟩ := bind_some e
    have hv := eval_ok h h1
    split at e
    · cases e
    · rename_i d hd hu
      cases e
      refine ⟨.iface t (a.eval x), ?_, by simp only [VR]; exact ⟨_, rfl, hv⟩⟩
      cases d <;> first | exact (hd _ rfl).elim | simp [execOp, ho, Instr.makeInterface, run_underlying hu]
    · cases e
  · rename_i fn first cap ho
    obtain ⟨l1, h1, e⟩ := bind_some e
    obtain ⟨l2, h2, e⟩ := bind_some e
    have h3 := evalAll_ok h first.toList h1
    have h4 := evalAll_ok h cap.toList h2
    split at e
    · rename_i f _ _
      cases e
      refine ⟨.func (.func f) (first.map a.eval) (cap.map a.eval), by simp [execOp, ho, Instr.makeFunc], ?_⟩
      simp only [VR]; exact ⟨_, _, _, rfl, rfl, by rw [Array.toList_map]; exact h3, by rw [Array.toList_map]; exact h4⟩
    · rename_i f _ _
      cases e
      refine ⟨.func (.method f) (first.map a.eval) (cap.map a.eval), by simp [execOp, ho, Instr.makeFunc], ?_⟩
      simp only [VR]; exact ⟨_, _, _, rfl, rfl, by rw [Array.toList_map]; exact h3, by rw [Array.toList_map]; exact h4⟩
    · cases e
  · rename_i t ho
    cases e
    refine ⟨.map #[] 0, 1, .map (some w.heap.size), by simp [execOp, ho, Instr.makeMap], fun _ => rfl, fun _ _ _ _ => ⟨h.hr.base, #[], heap_alloc_new w _, rfl⟩, fun b => ?_⟩
    simp only [VR]; exact ⟨_, Sg.ins_self _ _ _, rfl⟩
  · rename_i t x ho
    obtain ⟨v, h1, e⟩ := bind_some e
    have hv := eval_ok h h1
    split at e
    · rename_i k n kt vt hu
      cases e
      simp only [VR] at hv
      refine ⟨.map #[] 0, 1, .map (some w.heap.size), by simp [execOp, ho, Instr.makeMap, run_underlying hu, hv, asInt, asIntOf], fun _ => rfl, fun _ _ _ _ => ⟨h.hr.base, #[], heap_alloc_new w _, rfl⟩, fun b => ?_⟩
      simp only [VR]; exact ⟨_, Sg.ins_self _ _ _, rfl⟩
    · cases e
  · rename_i t l c ho
    obtain ⟨v, h1, e⟩ := bind_some e
    obtain ⟨u, h2, e⟩ := bind_some e
    have := ok_makeSlice (P := P) h.hr e (eval_ok h h1) (eval_ok h h2)
    simpa only [execOp, ho] using this
  · rename_i t x lo hi mx ho
    obtain ⟨v, h1, e⟩ := bind_some e
    obtain ⟨lo2, h2, e⟩ := bind_some e
    obtain ⟨hi2, h3, e⟩ := bind_some e
    obtain ⟨mx2, h4, e⟩ := bind_some e
    obtain ⟨g1, g2, g3⟩ := evalOpt_ok h h2
    obtain ⟨g4, g5, g6⟩ := evalOpt_ok h h3
    obtain ⟨g7, g8, g9⟩ := evalOpt_ok h h4
    split at e
    · cases e
    rename_i hmx
    have := ok_slice (P := P) (base := base) (H := H) (w := w) e (eval_ok h h1) g1 g2 g4 g5 g7 g8 (by
      intro hs
      simp only [Bool.and_eq_true, not_and] at hmx
      have := hmx hs
      cases hi2 <;> simp at this ⊢)
    simpa only [execOp, ho] using this
  · rename_i s x f ho
    obtain ⟨v, h1, e⟩ := bind_some e
    have := ok_fieldAddr (P := P) (base := base) (H := H) (w := w) e (eval_ok h h1)
    simpa only [execOp, ho] using this
  · rename_i t x f ho
    obtain ⟨v, h1, e⟩ := bind_some e
    have := ok_field (P := P) (base := base) (H := H) (w := w) e (eval_ok h h1)
    simpa only [execOp, ho] using this
  · rename_i t x ix ho
    obtain ⟨v, h1, e⟩ := bind_some e
    obtain ⟨u, h2, e⟩ := bind_some e
    have := ok_indexAddr (P := P) (base := base) (H := H) (w := w) e (eval_ok h h1) (eval_ok h h2)
    simpa only [execOp, ho] using this
  · rename_i t x ix ho
    obtain ⟨v, h1, e⟩ := bind_some e
    obtain ⟨u, h2, e⟩ := bind_some e
    have := ok_index (P := P) (base := base) (H := H) (w := w) e (eval_ok h h1) (eval_ok h h2)
    simpa only [execOp, ho] using this
  · rename_i t x ix ok ho
    obtain ⟨v, h1, e⟩ := bind_some e
    obtain ⟨u, h2, e⟩ := bind_some e
    have := ok_lookup (P := P) h.hr e (eval_ok h h1) (eval_ok h h2)
    simpa only [execOp, ho] using this
  · rename_i t m k x ho
    obtain ⟨v, h1, e⟩ := bind_some e
    obtain ⟨u, h2, e⟩ := bind_some e
    obtain ⟨y, h3, e⟩ := bind_some e
    have := ok_mapPut (P := P) h.hr e (eval_ok h h1) (eval_ok h h2) (eval_ok h h3)
    simpa only [execOp, ho] using this
  · rename_i t m k x ho
    obtain ⟨v, h1, e⟩ := bind_some e
    obtain ⟨u, h2, e⟩ := bind_some e
    obtain ⟨y, h3, e⟩ := bind_some e
    have := ok_mapPut (P := P) h.hr e (eval_ok h h1) (eval_ok h h2) (eval_ok h h3)
    simpa only [execOp, ho] using this
  · rename_i t x ho
    obtain ⟨v, h1, e⟩ := bind_some e
    have := ok_range (P := P) h.hr e (eval_ok h h1)
    simpa only [execOp, ho] using this
  · rename_i it s ho
    obtain ⟨v, h1, e⟩ := bind_some e
    have := ok_next (P := P) h.hr e (eval_ok h h1) o.type
    simpa only [execOp, ho] using this
  · rename_i it ho
    obtain ⟨v, h1, e⟩ := bind_some e
    have := ok_entry (P := P) h.hr e (eval_ok h h1)
    simpa only [execOp, ho] using this
  · rename_i x xt at_ ok ho
    obtain ⟨v, h1, e⟩ := bind_some e
    have := ok_assert (P := P) (base := base) (H := H) (w := w) (xt := xt) e (eval_ok h h1)
    simpa only [execOp, ho] using this
  · rename_i t ix ho
    obtain ⟨v, h1, e⟩ := bind_some e
    have hv := eval_ok h h1
    split at e
    · rename_i vs
      obtain ⟨x, h2, rfl⟩ := map_some' e
      simp only [VR] at hv
      obtain ⟨vs', h3, h4⟩ := hv
      obtain ⟨x', h5, h6⟩ := h4.get ix x h2
      exact ⟨x', by simp at h5; simp [execOp, ho, Instr.extract, h3, h5], h6⟩
    · cases e
  · rename_i c ho
    have := ok_call (P := P) h e o.type
    simpa only [execOp, ho] using this
  · rename_i c ho
    have := ok_defer (P := P) h e o.type
    simpa only [execOp, ho] using this
  · rename_i x ho
    obtain ⟨v, h1, e⟩ := bind_some e
    have hv := eval_ok h h1
    split at e
    · rename_i t y
      cases e
      have hv0 := hv
      simp only [VR] at hv
      obtain ⟨y', h2, h3⟩ := hv
      refine ⟨a.eval x, ?_, hv0⟩
      rw [h2]
      simp [execOp, ho, h2, Instr.panic]
    · cases e
  · cases e
end
end Go.Am
