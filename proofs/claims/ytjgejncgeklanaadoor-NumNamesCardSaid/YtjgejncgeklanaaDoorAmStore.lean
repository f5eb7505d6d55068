/-
  A part of the proof that an abstract machine, which runs a program without orders, room or tape, says what the model does. No condition beside what each theorem states.
-/
import Derived.Test.YtjgejncgeklanaaDoorAmHeap
namespace Go.Am
open Go Go.RowKit

theorem AH.get_put (H : AH) (b c : Nat) (o : AObj) : (H.put b o).get c = if b = c then some o else H.get c := PT.get_set _ _ _ _
theorem AH.get_push (H : AH) (c : Nat) (o : AObj) : (H.push o).get c = if H.next = c then some o else H.get c := PT.get_set _ _ _ _
theorem AH.next_put (H : AH) (b : Nat) (o : AObj) : (H.put b o).next = H.next := rfl
theorem AH.next_push (H : AH) (o : AObj) : (H.push o).next = H.next + 1 := rfl

theorem okCell_setCell {w : World} {a : Addr} (h : World.okCell w a) (p : Addr) (v : Value) : World.okCell (w.setCell p v) a := by
  obtain ⟨⟨u, hu⟩, hf⟩ := h
  refine ⟨?_, by rw [World.frozen?_setCell]; exact hf⟩
  by_cases e : p = a
  · subst e; exact ⟨v, World.cell?_setCell_same w p v hu⟩
  · exact ⟨u, by rw [World.cell?_setCell_other w p a v e]; exact hu⟩

theorem heap_setCell_ne (w : World) (a : Addr) (v : Value) (r : Nat) (h : r ≠ a.block) : (w.setCell a v).heap[r]? = w.heap[r]? := Below.heap_setCell w a v r h

theorem cell_setCell_block {w : World} {p a : Addr} {v : Value} (h : a.block ≠ p.block) : (w.setCell p v).cell? a = w.cell? a :=
  World.cell?_setCell_other w p a v (fun e => h (by rw [e]))

theorem ContR.other {σ : Sg} {w w' : World} {L : Loc} {c : List V} (h : ContR σ w L c) (hb : w'.heap[L.r]? = w.heap[L.r]?) : ContR σ w' L c := by
  intro i v e
  obtain ⟨v', h1, h2⟩ := h i v e
  exact ⟨v', by rw [← h1]; exact World.cell?_of_block (w := w) (w' := w') hb, h2⟩

theorem okCell_other {w w' : World} {a : Addr} (h : World.okCell w a) (hb : w'.heap[a.block]? = w.heap[a.block]?) : World.okCell w' a := by
  obtain ⟨⟨u, hu⟩, hf⟩ := h
  exact ⟨⟨u, by rw [← hu]; exact World.cell?_of_block (w := w) (w' := w') hb⟩, by rw [← hf]; exact World.frozen?_of_block (w := w) (w' := w') hb⟩

theorem EsR.mono {σ σ' : Sg} (hle : Le σ σ') : ∀ {l : List (V × V × Nat)} {l' : List MapEntry}, EsR σ l l' → EsR σ' l l'
  | [], _, h => h
  | (k, v, n) :: r, _, h => by
    obtain ⟨e, l', h1, h2, h3, h4, h5⟩ := h
    exact ⟨e, l', h1, h2.mono hle, h3.mono hle, h4, h5.mono hle⟩

theorem TmR.mono {σ σ' : Sg} (hle : Le σ σ') {nt : Nat} {tm : PT V} {a : Array Value} (h : TmR σ nt tm a) : TmR σ' nt tm a :=
  ⟨h.1, fun i => (h.2 i).mono hle⟩

theorem LoopR.mono {σ σ' : Sg} (hle : Le σ σ') {l : ALoop} {l' : Loop} (h : LoopR σ l l') : LoopR σ' l l' := by
  obtain ⟨h1, h2, h3, h4, h5, h6, L, h7, h8⟩ := h
  exact ⟨h1, h2, h3.mono hle, h4, h5, h6, L, hle _ _ h7, h8⟩

/-- an object stands as it stood, where its block does, and its group's mark -/
theorem ObjR.other {σ σ' : Sg} {base : Nat} {H H' : AH} {w w' : World} {b : Nat} {L : Loc} {o : AObj} (h : ObjR σ base H w b L o) (hle : Le σ σ')
    (hb : w'.heap[L.r]? = w.heap[L.r]?) (hv : ∀ c own g, o = .cells c own g → H'.valid b g = true → H.valid b g = true) : ObjR σ' base H' w' b L o := by
  cases o with
  | cells c own g =>
    obtain ⟨h1, h2, h3⟩ := h
    refine ⟨fun e => ?_, h2, fun e => ?_⟩
    · obtain ⟨h4, h5, h6⟩ := h1 e
      exact ⟨h4, h5, fun i hi => okCell_other (h6 i hi) hb⟩
    · intro i v e'
      obtain ⟨v', h4, h5⟩ := (h3 (hv c own g rfl e)).other hb i v e'
      exact ⟨v', h4, h5.mono hle⟩
  | grp cur => trivial
  | map es clock => obtain ⟨h1, es', h2, h3⟩ := h; exact ⟨h1, es', by rw [hb]; exact h2, h3.mono hle⟩
  | strIter s pos => obtain ⟨h1, h0, s', h2, h3⟩ := h; exact ⟨h1, h0, s', by rw [hb]; exact h2, h3⟩
  | mapIter m since seen last =>
    obtain ⟨h1, h0, m', h2, h3⟩ := h
    refine ⟨h1, h0, m', by rw [hb]; exact h2, ?_⟩
    cases m with
    | none => exact h3
    | some m => obtain ⟨M, h4, h5⟩ := h3; exact ⟨M, hle _ _ h4, h5⟩
  | loop l => obtain ⟨h1, l', h2, h3⟩ := h; exact ⟨h1, l', by rw [hb]; exact h2, h3.mono hle⟩
  | deferred e => obtain ⟨h1, h2⟩ := h; exact ⟨h1, by rw [hb]; exact h2⟩

/-- the own blocks lie from base on -/
theorem ObjR.key_base {σ : Sg} {base : Nat} {H : AH} {w : World} {b : Nat} {L : Loc} {o : AObj} (h : ObjR σ base H w b L o) {k : Nat × Bool} (hk : keyOf o b = some k) : base ≤ L.r := by
  cases o with
  | cells c own g =>
    cases own with
    | true => exact (h.1 rfl).1
    | false => simp [keyOf] at hk
  | grp cur => simp [keyOf] at hk
  | map es clock => exact h.1
  | strIter s pos => exact h.1
  | mapIter m since seen last => exact h.1
  | loop l => exact h.1
  | deferred e => exact h.1

theorem key_none {σ : Sg} {base : Nat} {H : AH} {w : World} {b : Nat} {L : Loc} {o : AObj} (h : ObjR σ base H w b L o) (hn : keyOf o b = none) (hs : ∀ cur, o ≠ .grp cur) : L.r < base := by
  cases o with
  | cells c own g =>
    cases own with
    | true => cases g <;> simp [keyOf] at hn
    | false => exact (h.2.1 rfl).1
  | grp cur => exact absurd rfl (hs cur)
  | map es clock => simp [keyOf] at hn
  | strIter s pos => simp [keyOf] at hn
  | mapIter m since seen last => simp [keyOf] at hn
  | loop l => simp [keyOf] at hn
  | deferred e => simp [keyOf] at hn

/-- blocks that don't share their key don't share their memory -/
theorem HR.apart {σ : Sg} {base : Nat} {H : AH} {w : World} (h : HR σ base H w) {b b' : Nat} {L L' : Loc} {o o' : AObj} (hb : σ b = some L) (hb' : σ b' = some L')
    (ho : H.get b = some o) (ho' : H.get b' = some o') {k : Nat × Bool} (hk : keyOf o b = some k) (hne : keyOf o' b' ≠ some k) : L'.r ≠ L.r := by
  have hg : ∀ cur, o' ≠ .grp cur := fun cur e => by
    subst e; have := h.nogrp b' cur ho'; rw [hb'] at this; cases this
  have hbase := (h.obj b L o hb ho).key_base hk
  cases hk' : keyOf o' b' with
  | none => have := key_none (h.obj b' L' o' hb' ho') hk' hg; omega
  | some k' => exact (h.sep b b' L L' o o' k k' hb hb' ho ho' hk hk' (fun e => hne (by rw [hk', e]))).symm

theorem HR.store1 {σ : Sg} {base : Nat} {H H' : AH} {w : World} (h : HR σ base H w) {b o : Nat} {L : Loc} (hb : σ b = some L) {v : V} (hs : H.store1 b o v = some H')
    {v' : Value} (hv : VR σ v v') (P : Program) :
    (store ⟨L.r, L.s + o, none⟩ v').run P w = .ok () (w.setCell ⟨L.r, L.s + o, none⟩ v') ∧ Sim σ base H w σ H' (w.setCell ⟨L.r, L.s + o, none⟩ v') := by
  unfold AH.store1 at hs
  split at hs
  case h_2 => cases hs
  rename_i c g hg
  split at hs
  case isFalse => cases hs
  rename_i hc
  simp only [Bool.and_eq_true] at hc
  obtain ⟨⟨hval, hone⟩, hlt⟩ := hc
  have hlt : o < c.length := by simpa [Nat.blt_eq] using hlt
  cases hs
  obtain ⟨hbase, hlen, hroom⟩ := (h.obj b L _ hb hg).1 rfl
  have hcont := (h.obj b L _ hb hg).2.2 hval
  obtain ⟨⟨u, hu⟩, hfr⟩ := hroom o (by omega)
  have hget : ∀ x, (H.put b (.cells (c.set o v) true g)).get x = if b = x then some (.cells (c.set o v) true g) else H.get x := fun x => AH.get_put _ _ _ _
  have hkey : ∃ k, keyOf (.cells c true g) b = some k := by cases g <;> exact ⟨_, rfl⟩
  obtain ⟨k, hk⟩ := hkey
  have hvalid : ∀ x g2, (H.put b (.cells (c.set o v) true g)).valid x g2 = true → H.valid x g2 = true := by
    intro x g2 hv2
    cases g2 with
    | none => rfl
    | some g3 =>
      simp only [AH.valid] at hv2 ⊢
      rw [hget] at hv2
      by_cases e : b = g3
      · rw [if_pos e] at hv2; cases hv2
      · rw [if_neg e] at hv2; exact hv2
  refine ⟨?_, ?_⟩
  · rw [run_store P w _ _ _ (by rw [hv.one]; exact hone)]
    simp [hu, hfr]
  · refine ⟨⟨?_, ?_, ?_, ?_, ?_, ?_, ?_, ?_, h.glob⟩, Le.refl _, fun _ _ e => .inl e, Nat.le_refl _, ?_, ?_, ?_, ?_, rfl, rfl, rfl⟩
    · exact h.dom
    · intro x Lx e; rw [World.size_setCell]; exact h.lt x Lx e
    · -- obj
      intro x Lx o2 hx he
      rw [hget] at he
      by_cases hxb : b = x
      · subst hxb
        rw [if_pos rfl] at he; cases he
        rw [hb] at hx; cases hx
        refine ⟨fun _ => ⟨hbase, by simpa using hlen, fun i hi => okCell_setCell (hroom i hi) _ _⟩, (fun e => by cases e), fun _ => ?_⟩
        intro i u2 e2
        by_cases hi : o = i
        · subst hi
          rw [List.getElem?_set_self hlt] at e2; cases e2
          exact ⟨v', World.cell?_setCell_same w _ v' hu, hv⟩
        · rw [List.getElem?_set_ne hi] at e2
          obtain ⟨u', h1, h2⟩ := hcont i u2 e2
          exact ⟨u', by rw [World.cell?_setCell_other]; exact h1; intro e3; injection e3 with _ e4; omega, h2⟩
      · rw [if_neg hxb] at he
        by_cases hsame : keyOf o2 x = some k
        · -- the same group: it is not the good one
          cases g with
          | none =>
            simp only [keyOf] at hk; cases hk
            cases o2 with
            | cells c2 own2 g2 =>
              cases own2 <;> cases g2 <;> simp [keyOf] at hsame
              exact absurd hsame.symm hxb
            | _ => first | (simp [keyOf] at hsame; done) | (simp [keyOf] at hsame; exact absurd hsame.symm hxb)
          | some g0 =>
            simp only [keyOf] at hk; cases hk
            cases o2 with
            | cells c2 own2 g2 =>
              cases own2 <;> cases g2 <;> simp [keyOf] at hsame
              subst hsame
              have ho := h.obj x Lx _ hx he
              obtain ⟨h4, h5, h6⟩ := ho.1 rfl
              refine ⟨fun _ => ⟨h4, h5, fun i hi => okCell_setCell (h6 i hi) _ _⟩, ?_, fun hv2 => ?_⟩
              · intro e; cases e
              · exfalso
                have h7 := hvalid x _ hv2
                simp only [AH.valid] at h7 hval
                split at h7
                · rename_i cur e7
                  rw [e7] at hval
                  simp only [Nat.beq_eq] at h7 hval
                  omega
                · cases h7
            | _ => simp [keyOf] at hsame
        · have hap := h.apart hb hx hg he hk hsame
          exact (h.obj x Lx o2 hx he).other (Le.refl _) (heap_setCell_ne w _ _ _ hap) (fun c2 own2 g2 e hv2 => hvalid x g2 hv2)
    · -- sep
      intro x y Lx Ly ox oy kx ky hx hy ex ey hkx hky hne
      have conv : ∀ z oz kz, (H.put b (.cells (c.set o v) true g)).get z = some oz → keyOf oz z = some kz → ∃ oz', H.get z = some oz' ∧ keyOf oz' z = some kz := by
        intro z oz kz ez hkz
        rw [hget] at ez
        by_cases hzb : b = z
        · subst hzb
          rw [if_pos rfl] at ez; cases ez
          exact ⟨_, hg, by rw [← hkz]; cases g <;> rfl⟩
        · rw [if_neg hzb] at ez; exact ⟨oz, ez, hkz⟩
      obtain ⟨ox', h1, h2⟩ := conv x ox kx ex hkx
      obtain ⟨oy', h3, h4⟩ := conv y oy ky ey hky
      exact h.sep x y Lx Ly ox' oy' kx ky hx hy h1 h3 h2 h4 hne
    · intro x hx
      have h1 := h.fresh x hx
      rw [hget, if_neg, h1]
      intro e; subst e; rw [hg] at h1; cases h1
    · rw [World.size_setCell]; exact h.base
    · intro x c2 own2 g2 he
      rw [hget] at he
      have key : ∀ z, (∃ cur, H.get z = some (.grp cur)) → ∃ cur, (H.put b (.cells (c.set o v) true g)).get z = some (.grp cur) := by
        rintro z ⟨cur, hz⟩
        rw [hget, if_neg]
        · exact ⟨cur, hz⟩
        · intro e; subst e; rw [hg] at hz; cases hz
      split at he
      · cases he; exact key g2 (h.grps _ c true _ hg)
      · exact key g2 (h.grps x c2 own2 g2 he)
    · intro x cur he
      rw [hget] at he
      split at he
      · cases he
      · exact h.nogrp x cur he
    · -- what is not related stays
      intro x hx hn hng
      rw [hget, if_neg]
      intro e; subst e; rw [hb] at hn; cases hn
    · rw [World.size_setCell]; exact Nat.le_refl _
    · intro r hr hn
      exact heap_setCell_ne w _ _ _ (fun e => hn b L hb e.symm)
    · intro r hr
      exact heap_setCell_ne w _ _ _ (by show r ≠ L.r; omega)

theorem HR.storeN {σ : Sg} {base : Nat} {b : Nat} {L : Loc} (hb : σ b = some L) (P : Program) (a : Nat) : ∀ (vs : List V) (vs' : List Value) (i : Nat) {H H' : AH} {w : World}, HR σ base H w →
    H.storeN b (a + i) vs = some H' → VRs σ vs vs' →
    ∃ w', (storeCells ⟨L.r, L.s + a, none⟩ vs' i).run P w = .ok () w' ∧ Sim σ base H w σ H' w'
  | [], vs', i, H, H', w, h, hs, hv => by
    simp only [VRs] at hv; subst hv
    simp only [AH.storeN] at hs; cases hs
    exact ⟨w, by simp [storeCells], Sim.refl h⟩
  | v :: vs, vs', i, H, H', w, h, hs, hv => by
    simp only [VRs] at hv
    obtain ⟨v', l', rfl, h1, h2⟩ := hv
    simp only [AH.storeN] at hs
    cases h3 : H.store1 b (a + i) v with
    | none => rw [h3] at hs; cases hs
    | some H1 =>
      rw [h3] at hs
      simp only [Option.bind_some] at hs
      obtain ⟨h4, h5⟩ := h.store1 hb h3 h1 P
      obtain ⟨w', h6, h7⟩ := HR.storeN hb P a vs l' (i + 1) h5.hr hs h2
      refine ⟨w', ?_, h5.trans h7⟩
      simp only [storeCells, Sem.run_bind, add_loc]
      rw [Nat.add_assoc, h4]
      exact h6

def Sg.ins (σ : Sg) (b : Nat) (L : Loc) : Sg := fun x => if x = b then some L else σ x
theorem Sg.ins_self (σ : Sg) (b : Nat) (L : Loc) : σ.ins b L b = some L := if_pos rfl

/-- a new block of one's own -/
theorem HR.push {σ : Sg} {base : Nat} {H : AH} {w : World} (h : HR σ base H w) (o : AObj) (o' : Obj) (n : Nat)
    (hnew : Le σ (σ.ins H.next ⟨w.heap.size, 0, n⟩) → ObjR (σ.ins H.next ⟨w.heap.size, 0, n⟩) base (H.push o) (w.alloc o') H.next ⟨w.heap.size, 0, n⟩ o)
    (hk : ∀ b, keyOf o b = some (b, false)) :
    Sim σ base H w (σ.ins H.next ⟨w.heap.size, 0, n⟩) (H.push o) (w.alloc o') := by
  have hle : Le σ (σ.ins H.next ⟨w.heap.size, 0, n⟩) := by
    intro b L e
    have := h.dom b L e
    show (if b = H.next then _ else σ b) = _
    rw [if_neg (by omega)]; exact e
  have hheap : ∀ r, r < w.heap.size → (w.alloc o').heap[r]? = w.heap[r]? := fun r hr => Below.heap_alloc w o' r hr
  have hvalid : ∀ x g2, (H.push o).valid x g2 = true → (∀ g3, g2 = some g3 → ∃ cur, H.get g3 = some (.grp cur)) → H.valid x g2 = true := by
    intro x g2 hv2 hgr
    cases g2 with
    | none => rfl
    | some g3 =>
      obtain ⟨cur, hc⟩ := hgr g3 rfl
      simp only [AH.valid] at hv2 ⊢
      rw [AH.get_push, if_neg] at hv2
      · exact hv2
      · intro e; subst e; rw [h.fresh _ (Nat.le_refl _)] at hc; cases hc
  have hnogr : ∀ cur, o ≠ .grp cur := fun cur e => by subst e; have := hk 0; simp [keyOf] at this
  refine ⟨⟨?_, ?_, ?_, ?_, ?_, ?_, ?_, ?_, fun g hg => (h.glob g hg).imp fun n e => hle _ _ e⟩, hle, ?_, by rw [AH.next_push]; omega, ?_, by simp, ?_, ?_, rfl, rfl, rfl⟩
  · intro b L e
    rw [AH.next_push]
    unfold Sg.ins at e
    split at e
    · omega
    · have := h.dom b L e; omega
  · intro b L e
    rw [World.size_alloc]
    unfold Sg.ins at e
    split at e
    · cases e; exact Nat.lt_succ_self _
    · have := h.lt b L e; omega
  · intro b L ob e eo
    rw [AH.get_push] at eo
    unfold Sg.ins at e
    split at e
    · rename_i hbn
      subst hbn
      rw [if_pos rfl] at eo; cases eo; cases e
      exact hnew hle
    · rename_i hbn
      rw [if_neg (fun e2 => hbn e2.symm)] at eo
      refine (h.obj b L ob e eo).other hle (hheap _ (h.lt b L e)) ?_
      intro c own g e2 hv
      subst e2
      exact hvalid b g hv (fun g3 e3 => by subst e3; exact h.grps b c own g3 eo)
  · intro x y Lx Ly ox oy kx ky hx hy ex ey hkx hky hne
    rw [AH.get_push] at ex ey
    unfold Sg.ins at hx hy
    split at hx
    · rename_i h1
      rw [if_pos h1.symm] at ex; cases ex; cases hx
      split at hy
      · rename_i h2
        rw [if_pos h2.symm] at ey; cases ey
        rw [hk] at hkx hky; subst h1; subst h2
        exact absurd (by rw [← hkx, ← hky] : some kx = some ky) (fun e => hne (by injection e))
      · have := h.lt y Ly hy; show w.heap.size ≠ Ly.r; omega
    · rename_i h1
      rw [if_neg (fun e => h1 e.symm)] at ex
      split at hy
      · cases hy; have := h.lt x Lx hx; show Lx.r ≠ w.heap.size; omega
      · rename_i h2
        rw [if_neg (fun e => h2 e.symm)] at ey
        exact h.sep x y Lx Ly ox oy kx ky hx hy ex ey hkx hky hne
  · intro b hb
    rw [AH.next_push] at hb
    rw [AH.get_push, if_neg (by omega)]
    exact h.fresh b (by omega)
  · have := h.base; simp; omega
  · intro b c own g e
    rw [AH.get_push] at e
    split at e
    · cases e
      have := hk 0
      cases own <;> simp [keyOf] at this
    · obtain ⟨cur, h1⟩ := h.grps b c own g e
      refine ⟨cur, ?_⟩
      rw [AH.get_push, if_neg]
      · exact h1
      · intro e2; subst e2; rw [h.fresh _ (Nat.le_refl _)] at h1; cases h1
  · intro b cur e
    rw [AH.get_push] at e
    split at e
    · cases e; exact absurd rfl (hnogr cur)
    · rename_i hne
      show (if b = H.next then _ else σ b) = _
      rw [if_neg (fun e2 => hne e2.symm)]
      exact h.nogrp b cur e
  · intro b L e
    unfold Sg.ins at e
    split at e
    · cases e; rename_i h1; exact .inr ⟨by omega, .inl (Nat.le_refl _)⟩
    · exact .inl e
  · intro b hb hn hng
    rw [AH.get_push, if_neg (by omega)]
  · intro r hr hn; exact hheap r hr
  · intro r hr; exact hheap r (Nat.lt_of_lt_of_le hr h.base)

/-- a draw -/
theorem HR.drew {σ : Sg} {base : Nat} {H : AH} {w : World} (h : HR σ base H w) : Sim σ base H w σ H w.drew := by
  refine ⟨⟨h.dom, h.lt, fun b L o e eo => ?_, h.sep, h.fresh, h.base, h.grps, h.nogrp, h.glob⟩, Le.refl _, fun _ _ e => .inl e, Nat.le_refl _, fun _ _ _ _ => rfl, Nat.le_refl _, fun _ _ _ => rfl, fun _ _ => rfl, rfl, rfl, rfl⟩
  exact (h.obj b L o e eo).other (Le.refl _) rfl (fun _ _ _ _ hv => hv)
end Go.Am
