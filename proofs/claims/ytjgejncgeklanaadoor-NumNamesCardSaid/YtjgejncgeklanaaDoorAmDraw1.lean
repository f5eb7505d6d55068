/-
  A part of the proof that an abstract machine, which runs a program without orders, room or tape, says what the model does. No condition beside what each theorem states.
-/
import Derived.Test.YtjgejncgeklanaaDoorAmMach6
import Derived.Orders
namespace Go.Am
open Go Go.RowKit

section
variable {σ : Sg} {base : Nat} {H : AH} {w : World}

/-- a block that the abstract heap has already, the real one not yet -/
theorem HR.extend (h : HR σ base H w) (o : AObj) (hk : ∀ b, keyOf o b = some (b, false)) : HR σ base (H.push o) w := by
  have hvalid : ∀ x g2, (H.push o).valid x g2 = true → (∀ g3, g2 = some g3 → ∃ cur, H.get g3 = some (.grp cur)) → H.valid x g2 = true := by
    intro x g2 hv2 hgr
    cases g2 with
    | none => rfl
    | some g3 =>
      obtain ⟨cur, hc⟩ := hgr g3 rfl
      simp only [AH.valid] at hv2 ⊢
      rw [AH.get_push, if_neg] at hv2
      · exact hv2
      · intro e; subst e; rw [h.fresh _ (Nat.le_refl _)] at hc; cases hc
  have hget : ∀ b L, σ b = some L → (H.push o).get b = H.get b := by
    intro b L e
    have := h.dom b L e
    rw [AH.get_push, if_neg (by omega)]
  refine ⟨fun b L e => ?_, h.lt, fun b L ob e eo => ?_, fun x y Lx Ly ox oy kx ky hx hy ex ey => ?_, fun b hb => ?_, h.base, fun b c own g e => ?_, fun b cur e => ?_, h.glob⟩
  · rw [AH.next_push]; have := h.dom b L e; omega
  · rw [hget b L e] at eo
    refine (h.obj b L ob e eo).other (Le.refl _) rfl ?_
    intro c own g e2 hv
    subst e2
    exact hvalid b g hv (fun g3 e3 => by subst e3; exact h.grps b c own g3 eo)
  · rw [hget x Lx hx] at ex
    rw [hget y Ly hy] at ey
    exact h.sep x y Lx Ly ox oy kx ky hx hy ex ey
  · rw [AH.next_push] at hb
    rw [AH.get_push, if_neg (by omega)]
    exact h.fresh b (by omega)
  · rw [AH.get_push] at e
    split at e
    · cases e
      have := hk 0
      cases own <;> simp [keyOf] at this
    · obtain ⟨cur, h1⟩ := h.grps b c own g e
      refine ⟨cur, ?_⟩
      rw [AH.get_push, if_neg]
      · exact h1
      · intro e2; subst e2; rw [h.fresh _ (Nat.le_refl _)] at h1; cases h1
  · rw [AH.get_push] at e
    split at e
    · cases e; have := hk 0; simp [keyOf] at this
    · exact h.nogrp b cur e

theorem Sim.extend {σ0 : Sg} {H0 : AH} {w0 : World} (h : Sim σ0 base H0 w0 σ H w) (o : AObj) (hk : ∀ b, keyOf o b = some (b, false)) : Sim σ0 base H0 w0 σ (H.push o) w := by
  refine ⟨h.hr.extend o hk, h.le, h.new, by rw [AH.next_push]; have := h.next; omega, fun b hb hn hg => ?_, h.size, h.old, h.ro, h.os, h.tape, h.output⟩
  rw [AH.get_push, if_neg (by have := h.next; omega)]
  exact h.ab b hb hn hg

/-- the real block comes -/
theorem Sim.fill {σ0 : Sg} {H0 : AH} {w0 : World} (h : Sim σ0 base H0 w0 σ H w) {b0 : Nat} {ob : AObj} {o' : Obj} {n : Nat} (hb : σ b0 = none) (hlt : b0 < H.next) (hge : H0.next ≤ b0) (hget : H.get b0 = some ob)
    (hk : ∀ b, keyOf ob b = some (b, false)) (hobj : ∀ σ' H' b, Le σ σ' → ObjR σ' base H' (w.alloc o') b ⟨w.heap.size, 0, n⟩ ob) :
    Sim σ0 base H0 w0 (σ.ins b0 ⟨w.heap.size, 0, n⟩) H (w.alloc o') := by
  have hle : Le σ (σ.ins b0 ⟨w.heap.size, 0, n⟩) := by
    intro b L e
    show (if b = b0 then _ else σ b) = _
    rw [if_neg]
    · exact e
    · intro e2; subst e2; rw [hb] at e; cases e
  have hheap : ∀ r, r < w.heap.size → (w.alloc o').heap[r]? = w.heap[r]? := fun r hr => Below.heap_alloc w o' r hr
  have hr := h.hr
  have hnogr : ∀ cur, ob ≠ .grp cur := fun cur e => by subst e; have := hk 0; simp [keyOf] at this
  refine ⟨⟨?_, ?_, ?_, ?_, hr.fresh, ?_, hr.grps, ?_, fun g hg => (hr.glob g hg).imp fun n e => hle _ _ e⟩, h.le.trans hle, ?_, h.next, h.ab, ?_, ?_, ?_, h.os, h.tape, h.output⟩
  · intro b L e
    unfold Sg.ins at e
    split at e
    · omega
    · exact hr.dom b L e
  · intro b L e
    rw [World.size_alloc]
    unfold Sg.ins at e
    split at e
    · cases e; exact Nat.lt_succ_self _
    · have := hr.lt b L e; omega
  · intro b L o e eo
    unfold Sg.ins at e
    split at e
    · rename_i hbn; subst hbn
      rw [hget] at eo; cases eo; cases e
      exact hobj _ _ _ hle
    · exact (hr.obj b L o e eo).other hle (hheap _ (hr.lt b L e)) (fun _ _ _ _ hv => hv)
  · intro x y Lx Ly ox oy kx ky hx hy ex ey hkx hky hne
    unfold Sg.ins at hx hy
    split at hx
    · rename_i h1; subst h1; cases hx
      split at hy
      · rename_i h2; subst h2
        rw [ex] at ey; cases ey
        rw [hkx] at hky; cases hky
        exact absurd rfl hne
      · have := hr.lt y Ly hy; show w.heap.size ≠ Ly.r; omega
    · split at hy
      · cases hy; have := hr.lt x Lx hx; show Lx.r ≠ w.heap.size; omega
      · exact hr.sep x y Lx Ly ox oy kx ky hx hy ex ey hkx hky hne
  · have := hr.base; simp; omega
  · intro b cur e
    have h1 := hr.nogrp b cur e
    show (if b = b0 then _ else σ b) = _
    rw [if_neg]
    · exact h1
    · intro e2; subst e2; rw [hget] at e; cases e; exact hnogr cur rfl
  · intro b L e
    unfold Sg.ins at e
    split at e
    · rename_i h1; subst h1; cases e; exact .inr ⟨hge, .inl h.size⟩
    · exact h.new b L e
  · have := h.size; simp; omega
  · intro r hr' hn
    rw [hheap r (Nat.lt_of_lt_of_le hr' h.size)]; exact h.old r hr' hn
  · intro r hr'
    rw [hheap r (Nat.lt_of_lt_of_le hr' hr.base)]; exact h.ro r hr'
end

/-! ### an order that may be drawn -/
def edgesIn (S : Nat → Prop) (o : Oper) : Prop := ∀ e ∈ o.after.toList, Region.binds .any e = true → S e.on

def Topo (ops : Array Oper) : (Nat → Prop) → List Nat → Prop
  | S, [] => ∀ i, i < ops.size → S i
  | S, i :: is => ¬ S i ∧ (∃ o, ops[i]? = some o ∧ edgesIn S o) ∧ Topo ops (fun j => j = i ∨ S j) is

def topoFrom : Nat → List Oper → Bool
  | _, [] => true
  | i, o :: r => o.after.toList.all (fun e => !Region.binds .any e || Nat.blt e.on i) && topoFrom (i + 1) r

theorem topoFrom_get : ∀ (l : List Oper) (k i : Nat) (o : Oper), topoFrom k l = true → l[i]? = some o → ∀ e ∈ o.after.toList, Region.binds .any e = true → e.on < k + i
  | [], k, i, o, _, h => by simp at h
  | a :: l, k, i, o, ht, h => by
    simp only [topoFrom, Bool.and_eq_true, List.all_eq_true, Bool.or_eq_true, Bool.not_eq_true'] at ht
    cases i with
    | zero =>
      simp at h; subst h
      intro e he hb
      have := ht.1 e he
      rw [hb] at this
      simpa using this
    | succ i =>
      simp at h
      intro e he hb
      have := topoFrom_get l (k + 1) i o ht.2 h e he hb
      omega

def unl (n : Nat) (listed : Array Bool) : Nat := (List.range n).countP fun i => !listed.getD i true

theorem countP_lt {α : Type} (p q : α → Bool) : ∀ (l : List α), (∀ x, q x = true → p x = true) → (∃ x ∈ l, p x = true ∧ q x = false) → l.countP q < l.countP p
  | [], _, h => by obtain ⟨x, hx, _⟩ := h; cases hx
  | a :: l, hpq, h => by
    have hle : l.countP q ≤ l.countP p := List.countP_mono_left (fun x _ hx => hpq x hx)
    rw [List.countP_cons, List.countP_cons]
    by_cases ha : p a = true ∧ q a = false
    · rw [ha.1, ha.2]; simp; omega
    · obtain ⟨x, hx, h1, h2⟩ := h
      cases hx with
      | head => exact absurd ⟨h1, h2⟩ ha
      | tail _ hx =>
        have := countP_lt p q l hpq ⟨x, hx, h1, h2⟩
        have h3 : (if q a = true then 1 else 0) ≤ (if p a = true then 1 else 0 : Nat) := by
          cases hq : q a with
          | false => simp
          | true => rw [hpq a hq]; simp
        omega

theorem lin_topo {ops : Array Oper} (ht : topoFrom 0 ops.toList = true) : ∀ (fuel t : Nat) (listed : Array Bool), listed.size = ops.size → unl ops.size listed ≤ fuel →
    Topo ops (fun j => listed.getD j false = true) (Region.linearise.go .any ops fuel t listed []) := by
  have hall : ∀ listed : Array Bool, listed.size = ops.size → Region.ready .any ops listed = [] → ∀ i, i < ops.size → listed.getD i false = true := by
    intro listed hsz hr i
    induction i using Nat.strongRecOn with
    | ind i ih =>
      intro hi
      cases hc : listed.getD i false with
      | true => rfl
      | false =>
        exfalso
        have ho : ops[i]? = some ops[i] := by simp [hi]
        have hmem : i ∈ Region.ready .any ops listed := by
          unfold Region.ready
          rw [List.mem_filter]
          refine ⟨by simpa using hi, ?_⟩
          have h1 : listed.getD i true = false := by
            rw [Array.getD_eq_getD_getElem?] at hc ⊢
            rw [Array.getElem?_eq_getElem (by omega)] at hc ⊢
            exact hc
          rw [h1, ho]
          simp only [Bool.not_false, Bool.true_and, Option.map_some, Option.getD_some]
          rw [Array.all_eq_true_iff_forall_mem]
          intro e he
          cases hb : Region.binds .any e with
          | false => rfl
          | true =>
            have := topoFrom_get ops.toList 0 i ops[i] ht (by simp) e (Array.mem_toList_iff.2 he) hb
            simp only [Bool.not_true, Bool.false_or]
            exact ih e.on (by omega) (by omega)
        rw [hr] at hmem; cases hmem
  intro fuel
  induction fuel with
  | zero =>
    intro t listed hsz hu
    simp only [Region.linearise.go, List.reverse_nil, Topo]
    intro i hi
    cases hc : listed.getD i false with
    | true => rfl
    | false =>
      exfalso
      have h0 : unl ops.size listed = 0 := by omega
      unfold unl at h0
      rw [List.countP_eq_zero] at h0
      have := h0 i (by simpa using hi)
      rw [Array.getD_eq_getD_getElem?] at hc this
      rw [Array.getElem?_eq_getElem (by omega)] at hc this
      simp only [Option.getD_some] at hc this
      rw [hc] at this
      simp at this
  | succ fuel ih =>
    intro t listed hsz hu
    simp only [Region.linearise.go]
    change Topo ops _ (match (Region.ready .any ops listed)[t % (Region.ready .any ops listed).length]? with
      | some i => Region.linearise.go .any ops fuel (t / (Region.ready .any ops listed).length) (listed.setIfInBounds i true) [i]
      | none => [].reverse)
    cases hi : (Region.ready .any ops listed)[t % (Region.ready .any ops listed).length]? with
    | none =>
      have hnil : Region.ready .any ops listed = [] := by
        cases hr : Region.ready .any ops listed with
        | nil => rfl
        | cons x xs =>
          rw [hr] at hi
          have hlt : t % (x :: xs).length < (x :: xs).length := Nat.mod_lt _ (by simp)
          simp at hi
          simp at hlt
          omega
      simp only [List.reverse_nil, Topo]
      exact hall listed hsz hnil
    | some i =>
      simp only []
      rw [linearise_go_acc, List.reverse_singleton, List.singleton_append]
      have hm := List.mem_of_getElem? hi
      unfold Region.ready at hm
      rw [List.mem_filter] at hm
      obtain ⟨h1, h2⟩ := hm
      have hlt : i < ops.size := by simpa using h1
      simp only [Bool.and_eq_true, Bool.not_eq_true'] at h2
      obtain ⟨h3, h4⟩ := h2
      have h3' : listed.getD i false = false := by
        rw [Array.getD_eq_getD_getElem?] at h3 ⊢
        rw [Array.getElem?_eq_getElem (by omega)] at h3 ⊢
        exact h3
      have ho : ops[i]? = some ops[i] := by simp [hlt]
      refine ⟨by simp [h3'], ⟨ops[i], ho, fun e he hb => ?_⟩, ?_⟩
      · rw [ho] at h4
        simp only [Option.map_some, Option.getD_some] at h4
        rw [Array.all_eq_true_iff_forall_mem] at h4
        have := h4 e (Array.mem_toList_iff.1 he)
        rw [hb] at this
        simpa using this
      · have hS : (fun j => j = i ∨ listed.getD j false = true) = fun j => (listed.setIfInBounds i true).getD j false = true := by
          funext j
          apply propext
          simp only [Array.getD_eq_getD_getElem?, Array.getElem?_setIfInBounds]
          by_cases hj : i = j
          · subst hj; simp [hsz, hlt]
          · rw [if_neg hj]
            constructor
            · rintro (h | h)
              · exact absurd h.symm hj
              · exact h
            · exact .inr
        rw [hS]
        refine ih _ _ (by simpa using hsz) ?_
        have : unl ops.size (listed.setIfInBounds i true) < unl ops.size listed := by
          unfold unl
          refine countP_lt _ _ _ (fun x hx => ?_) ⟨i, by simpa using hlt, by rw [h3]; rfl, ?_⟩
          · simp only [Array.getD_eq_getD_getElem?, Array.getElem?_setIfInBounds] at hx ⊢
            by_cases hj : i = x
            · subst hj; simp [hsz, hlt] at hx
            · rw [if_neg hj] at hx; exact hx
          · simp [Array.getD_eq_getD_getElem?, hsz, hlt]
        omega

theorem schedule_topo {P : Program} {ops : Array Oper} (hm : P.follows .mixedOrders = true) (ht : topoFrom 0 ops.toList = true) (t : Nat) :
    Topo ops (fun _ => False) (Region.schedule (P.follows .mixedOrders) ops t) := by
  simp only [Region.schedule, hm, Bool.true_or, if_true, Region.linearise]
  have h := lin_topo (ops := ops) ht ops.size t (Array.replicate ops.size false) (by simp) (by
    unfold unl
    have := List.countP_le_length (p := fun i => !(Array.replicate ops.size false).getD i true) (l := List.range ops.size)
    simpa using this)
  have hS : (fun j => (Array.replicate ops.size false).getD j false = true) = fun _ => False := by
    funext j
    apply propext
    simp only [Array.getD_eq_getD_getElem?, Array.getElem?_replicate]
    split <;> simp
  rw [hS] at h
  exact h

/-! ### what must have been done before -/
def maskOf (acc : PT Nat) (o : Oper) : Nat := o.after.toList.foldl (fun s e => if Region.binds .any e then (s ||| 2 ^ e.on) ||| (acc.get e.on).getD 0 else s) 0
def masks : Nat → List Oper → PT Nat → PT Nat
  | _, [], acc => acc
  | i, o :: r, acc => masks (i + 1) r (acc.set i (maskOf acc o))

theorem maskOf_in {S : Nat → Prop} {acc : PT Nat} (hacc : ∀ i m j, acc.get i = some m → S i → m.testBit j = true → S j) {o : Oper} (ho : edgesIn S o) : ∀ j, (maskOf acc o).testBit j = true → S j := by
  unfold maskOf
  have : ∀ (l : List Edge) (s : Nat), (∀ e ∈ l, Region.binds .any e = true → S e.on) → (∀ j, s.testBit j = true → S j) →
      ∀ j, (l.foldl (fun s e => if Region.binds .any e then (s ||| 2 ^ e.on) ||| (acc.get e.on).getD 0 else s) s).testBit j = true → S j := by
    intro l
    induction l with
    | nil => intro s _ hs j; exact hs j
    | cons e l ih =>
      intro s hl hs
      simp only [List.foldl_cons]
      refine ih _ (fun e he => hl e (by simp [he])) ?_
      intro j hj
      split at hj
      · rename_i hb
        have hS := hl e (by simp) hb
        simp only [Nat.testBit_or, Bool.or_eq_true] at hj
        rcases hj with (hj | hj) | hj
        · exact hs j hj
        · rw [Nat.testBit_two_pow] at hj
          have : e.on = j := by simpa using hj
          rw [← this]; exact hS
        · cases hg : acc.get e.on with
          | none => rw [hg] at hj; simp at hj
          | some m => rw [hg] at hj; exact hacc _ m j hg hS hj
      · exact hs j hj
  exact this _ 0 ho (by simp)

theorem masks_in {S : Nat → Prop} : ∀ (l : List Oper) (k : Nat) (acc : PT Nat), (∀ i o, l[i]? = some o → S (k + i) → edgesIn S o) → (∀ i m j, acc.get i = some m → S i → m.testBit j = true → S j) →
    ∀ i m j, (masks k l acc).get i = some m → S i → m.testBit j = true → S j
  | [], k, acc, _, hacc => by simpa [masks] using hacc
  | o :: l, k, acc, hl, hacc => by
    simp only [masks]
    refine masks_in l (k + 1) _ (fun i o' ho hS => hl (i + 1) o' (by simpa using ho) (by rw [show k + (i + 1) = k + 1 + i by omega]; exact hS)) ?_
    intro i m j hg hS hj
    rw [PT.get_set] at hg
    split at hg
    · rename_i hki; subst hki; cases hg
      exact maskOf_in hacc (hl 0 o (by simp) (by simpa using hS)) j hj
    · exact hacc i m j hg hS hj
end Go.Am
