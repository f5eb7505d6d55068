/-
  A part of the proof that an abstract machine, which runs a program without orders, room or tape, says what the model does. No condition beside what each theorem states.
-/
import Derived.Test.YtjgejncgeklanaaDoorAmStore
namespace Go.Am
open Go Go.RowKit

theorem ContR.mono {σ σ' : Sg} (hle : Le σ σ') {w : World} {L : Loc} {c : List V} (h : ContR σ w L c) : ContR σ' w L c := by
  intro i v e
  obtain ⟨v', h1, h2⟩ := h i v e
  exact ⟨v', h1, h2.mono hle⟩

/-- a row that has grown: a new block of its group, and it is the good one -/
theorem HR.grow {σ : Sg} {base : Nat} {H : AH} {w : World} (h : HR σ base H w) {H2 : AH} {w' : World} {g b2 : Nat} {L' : Loc} {c : List V}
    (hng : H2.ng = H.ng) (hb2 : H.next ≤ b2) (hn : b2 < H2.next)
    (hget : ∀ x, x < H.next → x ≠ g → H2.get x = H.get x)
    (hg2 : H2.get g = some (.grp b2)) (hself : H2.get b2 = some (.cells c true (some g)))
    (hfr : ∀ x, H2.next ≤ x → H2.get x = none) (hmid : ∀ x, H.next ≤ x → x ≠ g → x ≠ b2 → H2.get x = none)
    (hgold : g < H.next → ∃ cur, H.get g = some (.grp cur))
    (hsz : w.heap.size ≤ w'.heap.size)
    (hoth : ∀ r, r < w.heap.size → r ≠ L'.r → w'.heap[r]? = w.heap[r]?)
    (hsame : ∀ x Lx ox k, σ x = some Lx → H.get x = some ox → keyOf ox x = some k → k ≠ (g, true) → Lx.r ≠ L'.r)
    (hroom : ∀ a, World.okCell w a → World.okCell w' a)
    (hbase : base ≤ L'.r) (hlt : L'.r < w'.heap.size) (hlen : c.length ≤ L'.n) (hroom' : ∀ i, i < L'.n → World.okCell w' ⟨L'.r, L'.s + i, none⟩) (hcont : ContR σ w' L' c)
    (hnew : w.heap.size ≤ L'.r ∨ ∃ b0 L0, σ b0 = some L0 ∧ L0.r = L'.r)
    (hos : w'.os = w.os) (htape : w'.tape = w.tape) (hout : w'.output = w.output) :
    Sim σ base H w (σ.ins b2 L') H2 w' := by
  have hle : Le σ (σ.ins b2 L') := by
    intro b L e
    have := h.dom b L e
    show (if b = b2 then _ else σ b) = _
    rw [if_neg (by omega)]; exact e
  have hgb : g ≠ b2 := fun e => by rw [e, hself] at hg2; cases hg2
  have hσg : σ g = none := by
    cases e : σ g with
    | none => rfl
    | some L =>
      obtain ⟨cur, h1⟩ := hgold (h.dom g L e)
      rw [h.nogrp g cur h1] at e; cases e
  -- what a related block's object was
  have hback : ∀ x Lx ox, σ x = some Lx → H2.get x = some ox → H.get x = some ox := by
    intro x Lx ox hx he
    rw [hget x (h.dom x Lx hx) (fun e => by rw [e, hσg] at hx; cases hx)] at he
    exact he
  refine ⟨⟨?_, ?_, ?_, ?_, hfr, Nat.le_trans h.base hsz, ?_, ?_, fun g hg => (h.glob g (hng ▸ hg)).imp fun n e => hle _ _ e⟩, hle, ?_, by omega, ?_, hsz, ?_, ?_, hos, htape, hout⟩
  · intro b L e
    unfold Sg.ins at e
    split at e
    · omega
    · have := h.dom b L e; omega
  · intro b L e
    unfold Sg.ins at e
    split at e
    · cases e; exact hlt
    · have := h.lt b L e; omega
  · intro b L o e eo
    unfold Sg.ins at e
    split at e
    · rename_i e1
      subst e1; cases e
      rw [hself] at eo; cases eo
      exact ⟨fun _ => ⟨hbase, hlen, hroom'⟩, (fun e => by cases e), fun _ => hcont.mono hle⟩
    · have eo' := hback b L o e eo
      have hob := h.obj b L o e eo'
      by_cases hk : keyOf o b = some (g, true)
      · cases o with
        | cells c2 own2 g2 =>
          cases own2 <;> cases g2 <;> simp [keyOf] at hk
          subst hk
          obtain ⟨h1, h2, h3⟩ := hob.1 rfl
          refine ⟨fun _ => ⟨h1, h2, fun i hi => hroom _ (h3 i hi)⟩, (fun e => by cases e), fun hv => ?_⟩
          exfalso
          simp only [AH.valid, hg2, Nat.beq_eq] at hv
          have := h.dom b L e
          omega
        | _ => simp [keyOf] at hk
      · have hr : L.r ≠ L'.r := by
          cases hk2 : keyOf o b with
          | none =>
            have := key_none hob hk2 (fun cur e2 => by subst e2; rw [h.nogrp b cur eo'] at e; cases e)
            omega
          | some k => exact hsame b L o k e eo' hk2 (fun e2 => hk (by rw [hk2, e2]))
        refine hob.other hle (hoth _ (h.lt b L e) hr) ?_
        intro c2 own2 g2 e2 hv
        subst e2
        cases g2 with
        | none => rfl
        | some g3 =>
          obtain ⟨cur, h1⟩ := h.grps b c2 own2 g3 eo'
          simp only [AH.valid] at hv ⊢
          by_cases e3 : g3 = g
          · subst e3
            exfalso
            cases own2 with
            | true => exact hk rfl
            | false => have := (hob.2.1 rfl).2; cases this
          · have h2 : g3 < H.next := by
              rcases Nat.lt_or_ge g3 H.next with h3 | h3
              · exact h3
              · rw [h.fresh g3 h3] at h1; cases h1
            rw [hget g3 h2 e3] at hv; exact hv
  · intro x y Lx Ly ox oy kx ky hx hy ex ey hkx hky hne
    unfold Sg.ins at hx hy
    split at hx
    · rename_i e1
      subst e1; cases hx
      rw [hself] at ex; cases ex
      simp only [keyOf] at hkx; cases hkx
      split at hy
      · rename_i e2
        subst e2
        rw [hself] at ey; cases ey
        simp only [keyOf] at hky; cases hky
        exact absurd rfl hne
      · exact (hsame y Ly oy ky hy (hback y Ly oy hy ey) hky (fun e => hne e.symm)).symm
    · split at hy
      · rename_i e2
        subst e2; cases hy
        rw [hself] at ey; cases ey
        simp only [keyOf] at hky; cases hky
        exact hsame x Lx ox kx hx (hback x Lx ox hx ex) hkx hne
      · exact h.sep x y Lx Ly ox oy kx ky hx hy (hback x Lx ox hx ex) (hback y Ly oy hy ey) hkx hky hne
  · intro b c2 own2 g2 e
    by_cases e1 : b = b2
    · subst e1; rw [hself] at e; cases e; exact ⟨_, hg2⟩
    · by_cases e2 : b = g
      · subst e2; rw [hg2] at e; cases e
      · rcases Nat.lt_or_ge b H.next with h1 | h1
        · rw [hget b h1 e2] at e
          obtain ⟨cur, h2⟩ := h.grps b c2 own2 g2 e
          by_cases e3 : g2 = g
          · subst e3; exact ⟨_, hg2⟩
          · have h3 : g2 < H.next := by
              rcases Nat.lt_or_ge g2 H.next with h3 | h3
              · exact h3
              · rw [h.fresh g2 h3] at h2; cases h2
            exact ⟨cur, by rw [hget g2 h3 e3]; exact h2⟩
        · rw [hmid b h1 e2 e1] at e; cases e
  · intro b cur e
    show (if b = b2 then _ else σ b) = _
    by_cases e1 : b = b2
    · subst e1; rw [hself] at e; cases e
    · rw [if_neg e1]
      by_cases e2 : b = g
      · subst e2; exact hσg
      · rcases Nat.lt_or_ge b H.next with h1 | h1
        · rw [hget b h1 e2] at e; exact h.nogrp b cur e
        · rw [hmid b h1 e2 e1] at e; cases e
  · intro b L e
    unfold Sg.ins at e
    split at e
    · rename_i e1; subst e1; cases e; exact .inr ⟨hb2, hnew⟩
    · exact .inl e
  · intro b hb hn hng
    refine hget b hb fun e => ?_
    subst e
    obtain ⟨cur, h1⟩ := hgold hb
    exact hng cur h1
  · intro r hr hn
    by_cases e : r = L'.r
    · subst e
      rcases hnew with h1 | ⟨b0, L0, h1, h2⟩
      · omega
      · exact absurd h2 (hn b0 L0 h1)
    · exact hoth r hr e
  · intro r hr
    exact hoth r (Nat.lt_of_lt_of_le hr h.base) (by omega)

theorem cell_newest (w : World) (cs : Array Value) (e : TypeId) (i : Nat) : (w.alloc (.cells cs e)).cell? ⟨w.heap.size, i, none⟩ = cs[i]? := World.cell?_alloc_new w cs e i

theorem okCell_alloc {w : World} {a : Addr} (h : World.okCell w a) (o : Obj) : World.okCell (w.alloc o) a := by
  obtain ⟨⟨u, hu⟩, hf⟩ := h
  have hb := World.block_lt_of_cell? w a hu
  exact okCell_other ⟨⟨u, hu⟩, hf⟩ (Below.heap_alloc w o _ hb)

theorem okCell_new (w : World) (cs : Array Value) (e : TypeId) (i : Nat) (h : i < cs.size) : World.okCell (w.alloc (.cells cs e)) ⟨w.heap.size, i, none⟩ :=
  ⟨⟨cs[i], by rw [cell_newest]; simp [h]⟩, World.frozen?_alloc_new w cs e i⟩

/-- a new row, and nothing else, but for draws -/
structure NewRow (w w' : World) (cs : Array Value) : Prop where
  size : w'.heap.size = w.heap.size + 1
  oth : ∀ r, r < w.heap.size → w'.heap[r]? = w.heap[r]?
  row : ∃ e lo hi, w'.heap[w.heap.size]? = some (.cells cs e (lo, hi)) ∧ ∀ i, i < cs.size → ¬ (lo ≤ i ∧ i < hi)
  os : w'.os = w.os
  tape : w'.tape = w.tape
  output : w'.output = w.output

theorem NewRow.cell {w w' : World} {cs : Array Value} (h : NewRow w w' cs) (i : Nat) : w'.cell? ⟨w.heap.size, i, none⟩ = cs[i]? := by
  obtain ⟨e, lo, hi, h1, _⟩ := h.row
  simp [World.cell?, h1]
theorem NewRow.ok {w w' : World} {cs : Array Value} (h : NewRow w w' cs) (i : Nat) (hi : i < cs.size) : World.okCell w' ⟨w.heap.size, i, none⟩ := by
  refine ⟨⟨cs[i], by rw [h.cell]; simp [hi]⟩, ?_⟩
  obtain ⟨e, lo, hi', h1, h2⟩ := h.row
  have := h2 i hi
  simp only [World.frozen?, h1]
  simpa using this
theorem NewRow.old {w w' : World} {cs : Array Value} (h : NewRow w w' cs) {a : Addr} (ha : World.okCell w a) : World.okCell w' a := by
  obtain ⟨⟨u, hu⟩, hf⟩ := ha
  exact okCell_other ⟨⟨u, hu⟩, hf⟩ (h.oth _ (World.block_lt_of_cell? w a hu))
theorem heap_alloc_new (w : World) (o : Obj) : (w.alloc o).heap[w.heap.size]? = some o := by
  show (w.heap.push o)[w.heap.size]? = some o
  simp
theorem NewRow.alloc (w : World) (cs : Array Value) (e : TypeId) : NewRow w (w.drew.alloc (.cells cs e)) cs :=
  ⟨by simp, fun r hr => Below.heap_alloc w.drew _ r hr, ⟨e, 0, 0, heap_alloc_new w.drew _, fun i _ => by omega⟩, rfl, rfl, rfl⟩

theorem ContR.new {σ : Sg} {w w' : World} {c : List V} {cs : Array Value} {n : Nat} (hw : NewRow w w' cs) (h : VRs σ c (cs.toList.take c.length)) : ContR σ w' ⟨w.heap.size, 0, n⟩ c := by
  intro i v e'
  obtain ⟨v', h1, h2⟩ := h.get i v e'
  rw [List.getElem?_take] at h1
  split at h1
  · exact ⟨v', by rw [Nat.zero_add, hw.cell]; simpa using h1, h2⟩
  · cases h1

/-- a new array of a new group -/
theorem HR.growNew {σ : Sg} {base : Nat} {H : AH} {w w' : World} (h : HR σ base H w) {c : List V} {cs : Array Value} (hw : NewRow w w' cs) (hc : VRs σ c (cs.toList.take c.length)) :
    Sim σ base H w (σ.ins (H.next + 1) ⟨w.heap.size, 0, cs.size⟩) ((H.push (.grp (H.next + 1))).push (.cells c true (some H.next))) w' := by
  have hlen := hc.length
  simp only [List.length_take, Array.length_toList] at hlen
  have hget : ∀ x, ((H.push (.grp (H.next + 1))).push (.cells c true (some H.next))).get x = if H.next + 1 = x then some (.cells c true (some H.next)) else if H.next = x then some (.grp (H.next + 1)) else H.get x := by
    intro x; rw [AH.get_push, AH.get_push]; rfl
  refine h.grow (g := H.next) (b2 := H.next + 1) rfl (by omega) (by simp [AH.next_push]) ?_ ?_ ?_ ?_ ?_ (fun e => by omega) (by rw [hw.size]; omega) ?_ ?_ (fun a ha => hw.old ha) h.base (by rw [hw.size]; exact Nat.lt_succ_self _) (by show c.length ≤ cs.size; omega) ?_ (ContR.new hw hc) (.inl (Nat.le_refl _)) hw.os hw.tape hw.output
  · intro x hx hne; rw [hget, if_neg (by omega), if_neg (by omega)]
  · rw [hget, if_neg (by omega), if_pos rfl]
  · rw [hget, if_pos rfl]
  · intro x hx
    simp only [AH.next_push] at hx
    rw [hget, if_neg (by omega), if_neg (by omega)]; exact h.fresh x (by omega)
  · intro x hx h1 h2
    rw [hget, if_neg (fun e => h2 e.symm), if_neg (fun e => h1 e.symm)]; exact h.fresh x hx
  · intro r hr hne; exact hw.oth r hr
  · intro x Lx ox k hx hox hk hne
    have := h.lt x Lx hx
    show Lx.r ≠ w.heap.size; omega
  · intro i hi
    rw [Nat.zero_add]; exact hw.ok i hi

/-- a new array of a group that is there -/
theorem HR.growMove {σ : Sg} {base : Nat} {H : AH} {w w' : World} (h : HR σ base H w) {c : List V} {cs : Array Value} (hw : NewRow w w' cs) (hc : VRs σ c (cs.toList.take c.length)) {g cur : Nat} (hg : H.get g = some (.grp cur)) :
    Sim σ base H w (σ.ins H.next ⟨w.heap.size, 0, cs.size⟩) ((H.put g (.grp H.next)).push (.cells c true (some g))) w' := by
  have hlen := hc.length
  simp only [List.length_take, Array.length_toList] at hlen
  have hgl : g < H.next := by
    rcases Nat.lt_or_ge g H.next with h1 | h1
    · exact h1
    · rw [h.fresh g h1] at hg; cases hg
  have hget : ∀ x, ((H.put g (.grp H.next)).push (.cells c true (some g))).get x = if H.next = x then some (.cells c true (some g)) else if g = x then some (.grp H.next) else H.get x := by
    intro x; rw [AH.get_push, AH.get_put]; rfl
  refine h.grow (g := g) (b2 := H.next) rfl (Nat.le_refl _) (by simp [AH.next_push, AH.next_put]) ?_ ?_ ?_ ?_ ?_ (fun _ => ⟨cur, hg⟩) (by rw [hw.size]; omega) ?_ ?_ (fun a ha => hw.old ha) h.base (by rw [hw.size]; exact Nat.lt_succ_self _) (by show c.length ≤ cs.size; omega) ?_ (ContR.new hw hc) (.inl (Nat.le_refl _)) hw.os hw.tape hw.output
  · intro x hx hne; rw [hget, if_neg (by omega), if_neg (fun e => hne e.symm)]
  · rw [hget, if_neg (by omega), if_pos rfl]
  · rw [hget, if_pos rfl]
  · intro x hx
    simp only [AH.next_push, AH.next_put] at hx
    rw [hget, if_neg (by omega), if_neg (by omega)]; exact h.fresh x (by omega)
  · intro x hx h1 h2
    rw [hget, if_neg (fun e => h2 e.symm), if_neg (fun e => h1 e.symm)]; exact h.fresh x hx
  · intro r hr hne; exact hw.oth r hr
  · intro x Lx ox k hx hox hk hne
    have := h.lt x Lx hx
    show Lx.r ≠ w.heap.size; omega
  · intro i hi
    rw [Nat.zero_add]; exact hw.ok i hi

/-- what stores into cells of one row leave -/
structure Wrote (w w' : World) (r : Nat) : Prop where
  size : w'.heap.size = w.heap.size
  oth : ∀ k, k ≠ r → w'.heap[k]? = w.heap[k]?
  room : ∀ a, World.okCell w a → World.okCell w' a
  os : w'.os = w.os
  tape : w'.tape = w.tape
  output : w'.output = w.output

theorem run_storeCells_wrote (P : Program) (r s : Nat) : ∀ (vs : List Value) (i : Nat) (w : World), (∀ v ∈ vs, v.oneCell' = true) → (∀ j, j < vs.length → World.okCell w ⟨r, s + (i + j), none⟩) →
    ∃ w', (storeCells ⟨r, s, none⟩ vs i).run P w = .ok () w' ∧ Wrote w w' r ∧ (∀ j v, vs[j]? = some v → w'.cell? ⟨r, s + (i + j), none⟩ = some v) ∧
      (∀ o, (o < s + i ∨ s + i + vs.length ≤ o) → w'.cell? ⟨r, o, none⟩ = w.cell? ⟨r, o, none⟩)
  | [], i, w, _, _ => ⟨w, by simp [storeCells], ⟨rfl, fun _ _ => rfl, fun _ h => h, rfl, rfl, rfl⟩, fun j v e => by simp at e, fun _ _ => rfl⟩
  | v :: vs, i, w, hone, hok => by
    obtain ⟨⟨u, hu⟩, hf⟩ := hok 0 (by simp)
    have h1 : (store ⟨r, s + i, none⟩ v).run P w = .ok () (w.setCell ⟨r, s + i, none⟩ v) := by
      rw [run_store P w _ _ _ (hone v (by simp))]
      simp only [Nat.add_zero] at hu hf
      simp [hu, hf]
    obtain ⟨w', h2, h3, h4, h5⟩ := run_storeCells_wrote P r s vs (i + 1) (w.setCell ⟨r, s + i, none⟩ v) (fun x hx => hone x (by simp [hx])) (fun j hj => by
      have := hok (j + 1) (by simpa using hj)
      rw [show i + 1 + j = i + (j + 1) by omega]
      exact okCell_setCell this _ _)
    refine ⟨w', ?_, ⟨h3.size.trans (by simp), fun k hk => (h3.oth k hk).trans (heap_setCell_ne w _ _ k hk), fun a ha => h3.room a (okCell_setCell ha _ _), h3.os, h3.tape, h3.output⟩, ?_, ?_⟩
    · simp only [storeCells, Sem.run_bind, add_loc, h1]; exact h2
    · intro j x e
      cases j with
      | zero =>
        simp at e; subst e
        rw [h5 _ (.inl (by omega))]
        simp only [Nat.add_zero] at hu ⊢
        exact World.cell?_setCell_same w _ _ hu
      | succ j =>
        have := h4 j x (by simpa using e)
        rw [show i + (j + 1) = i + 1 + j by omega]; exact this
    · intro o ho
      rw [h5 o (by simp at ho; omega)]
      refine World.cell?_setCell_other w _ _ _ fun e => ?_
      injection e with _ e2
      simp at ho; omega

/-- in the room behind what is there -/
theorem HR.growIn {σ : Sg} {base : Nat} {H : AH} {w w' : World} (h : HR σ base H w) {b o : Nat} {L : Loc} (hb : σ b = some L) {c0 : List V} {g cur : Nat} (hob : H.get b = some (.cells c0 true (some g)))
    (hg : H.get g = some (.grp cur)) {c : List V} (hw : Wrote w w' L.r) (ho : o ≤ L.n) (hlen : c.length ≤ L.n - o) (hcont : ContR σ w' ⟨L.r, L.s + o, L.n - o⟩ c) :
    Sim σ base H w (σ.ins H.next ⟨L.r, L.s + o, L.n - o⟩) ((H.put g (.grp H.next)).push (.cells c true (some g))) w' := by
  have hgl : g < H.next := by
    rcases Nat.lt_or_ge g H.next with h1 | h1
    · exact h1
    · rw [h.fresh g h1] at hg; cases hg
  obtain ⟨hbase, hlen0, hroom⟩ := (h.obj b L _ hb hob).1 rfl
  have hget : ∀ x, ((H.put g (.grp H.next)).push (.cells c true (some g))).get x = if H.next = x then some (.cells c true (some g)) else if g = x then some (.grp H.next) else H.get x := by
    intro x; rw [AH.get_push, AH.get_put]; rfl
  refine h.grow (g := g) (b2 := H.next) rfl (Nat.le_refl _) (by simp [AH.next_push, AH.next_put]) ?_ ?_ ?_ ?_ ?_ (fun _ => ⟨cur, hg⟩) (Nat.le_of_eq hw.size.symm) (fun r _ hr => hw.oth r hr) ?_ hw.room hbase (by rw [hw.size]; exact h.lt b L hb) hlen ?_ hcont (.inr ⟨b, L, hb, rfl⟩) hw.os hw.tape hw.output
  · intro x hx hne; rw [hget, if_neg (by omega), if_neg (fun e => hne e.symm)]
  · rw [hget, if_neg (by omega), if_pos rfl]
  · rw [hget, if_pos rfl]
  · intro x hx
    simp only [AH.next_push, AH.next_put] at hx
    rw [hget, if_neg (by omega), if_neg (by omega)]; exact h.fresh x (by omega)
  · intro x hx h1 h2
    rw [hget, if_neg (fun e => h2 e.symm), if_neg (fun e => h1 e.symm)]; exact h.fresh x hx
  · intro x Lx ox k hx hox hk hne
    have h9 : Lx.r ≠ L.r := h.apart hb hx hob hox (k := (g, true)) rfl (fun e => hne (by rw [hk] at e; injection e))
    exact h9
  · intro i hi
    refine hw.room _ ?_
    rw [Nat.add_assoc]
    exact hroom (o + i) (by show o + i < L.n; have : i < L.n - o := hi; omega)
end Go.Am
