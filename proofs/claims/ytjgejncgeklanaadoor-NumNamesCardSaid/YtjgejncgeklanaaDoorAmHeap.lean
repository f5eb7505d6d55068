/-
  A part of the proof that an abstract machine, which runs a program without orders, room or tape, says what the model does. No condition beside what each theorem states.
-/
import Derived.Test.YtjgejncgeklanaaDoorAmRel
namespace Go.Am
open Go Go.RowKit

/-- a block of one's own: blocks of unlike keys lie in unlike blocks -/
def keyOf : AObj → Nat → Option (Nat × Bool)
  | .cells _ true none, b => some (b, false)
  | .cells _ true (some g), _ => some (g, true)
  | .cells _ false _, _ => none
  | .grp _, _ => none
  | _, b => some (b, false)

def World.okCell (w : World) (a : Addr) : Prop := (∃ v, w.cell? a = some v) ∧ w.frozen? a = false

def ContR (σ : Sg) (w : World) (L : Loc) (c : List V) : Prop :=
  ∀ (i : Nat) (v : V), c[i]? = some v → ∃ v', w.cell? ⟨L.r, L.s + i, none⟩ = some v' ∧ VR σ v v'

def EsR (σ : Sg) : List (V × V × Nat) → List MapEntry → Prop
  | [], l => l = []
  | (k, v, n) :: r, l => ∃ e l', l = e :: l' ∧ VR σ k e.key ∧ VR σ v e.val ∧ e.born = n ∧ EsR σ r l'

/-- temporaries -/
def TmR (σ : Sg) (nt : Nat) (tm : PT V) (a : Array Value) : Prop :=
  a.size = nt ∧ ∀ i, VR σ ((tm.get i).getD vundef) (a.getD i undef)

def LoopR (σ : Sg) (l : ALoop) (l' : Loop) : Prop :=
  l'.state = l.state ∧ l'.pending = l.pending ∧ TmR σ l.nt l.tmps l'.tmps ∧ l'.params = l.params ∧ l'.assign = l.assign ∧ l'.body = l.body ∧
    ∃ L, σ l.defers = some L ∧ l'.defers = L.r

def ObjR (σ : Sg) (base : Nat) (H : AH) (w : World) (b : Nat) (L : Loc) : AObj → Prop
  | .cells c own g =>
    (own = true → base ≤ L.r ∧ c.length ≤ L.n ∧ ∀ i, i < L.n → World.okCell w ⟨L.r, L.s + i, none⟩) ∧
    (own = false → L.r < base ∧ g = none) ∧ (H.valid b g = true → ContR σ w L c)
  | .grp _ => True
  | .map es clock => base ≤ L.r ∧ ∃ es', w.heap[L.r]? = some (.map es' clock) ∧ EsR σ es es'.toList
  | .strIter s pos => base ≤ L.r ∧ L.s = 0 ∧ ∃ s' : ByteArray, w.heap[L.r]? = some (.stringIter s' pos) ∧ s'.data.toList.map UInt8.toNat = s
  | .mapIter m since seen last => base ≤ L.r ∧ L.s = 0 ∧ ∃ m', w.heap[L.r]? = some (.mapIter m' since seen.toArray last) ∧
      (match m with | none => m' = none | some m => ∃ M, σ m = some M ∧ m' = some M.r)
  | .loop l => base ≤ L.r ∧ ∃ l', w.heap[L.r]? = some (.loop l') ∧ LoopR σ l l'
  | .deferred e => base ≤ L.r ∧ w.heap[L.r]? = some (.deferred (if e then some [] else none))

structure HR (σ : Sg) (base : Nat) (H : AH) (w : World) : Prop where
  dom : ∀ b L, σ b = some L → b < H.next
  lt : ∀ b L, σ b = some L → L.r < w.heap.size
  obj : ∀ b L o, σ b = some L → H.get b = some o → ObjR σ base H w b L o
  sep : ∀ b b' L L' o o' k k', σ b = some L → σ b' = some L' → H.get b = some o → H.get b' = some o' → keyOf o b = some k → keyOf o' b' = some k' → k ≠ k' → L.r ≠ L'.r
  fresh : ∀ b, H.next ≤ b → H.get b = none
  base : base ≤ w.heap.size
  /-- a group's mark is none of the blocks that values name -/
  grps : ∀ b c own g, H.get b = some (.cells c own (some g)) → ∃ cur, H.get g = some (.grp cur)
  nogrp : ∀ b cur, H.get b = some (.grp cur) → σ b = none
  glob : ∀ g, g < H.ng → ∃ n, σ g = some ⟨g, 0, n⟩

/-- from one state to the next -/
structure Sim (σ : Sg) (base : Nat) (H : AH) (w : World) (σ' : Sg) (H' : AH) (w' : World) : Prop where
  hr : HR σ' base H' w'
  le : Le σ σ'
  new : ∀ b L, σ' b = some L → σ b = some L ∨ (H.next ≤ b ∧ (w.heap.size ≤ L.r ∨ ∃ b0 L0, σ b0 = some L0 ∧ L0.r = L.r))
  next : H.next ≤ H'.next
  ab : ∀ b, b < H.next → σ b = none → (∀ cur, H.get b ≠ some (.grp cur)) → H'.get b = H.get b
  size : w.heap.size ≤ w'.heap.size
  old : ∀ r, r < w.heap.size → (∀ b L, σ b = some L → L.r ≠ r) → w'.heap[r]? = w.heap[r]?
  ro : ∀ r, r < base → w'.heap[r]? = w.heap[r]?
  os : w'.os = w.os
  tape : w'.tape = w.tape
  output : w'.output = w.output

theorem Sim.refl {σ : Sg} {base : Nat} {H : AH} {w : World} (h : HR σ base H w) : Sim σ base H w σ H w :=
  ⟨h, Le.refl _, fun _ _ e => .inl e, Nat.le_refl _, fun _ _ _ _ => rfl, Nat.le_refl _, fun _ _ _ => rfl, fun _ _ => rfl, rfl, rfl, rfl⟩

theorem Sim.trans {σ σ1 σ2 : Sg} {base : Nat} {H H1 H2 : AH} {w w1 w2 : World} (a : Sim σ base H w σ1 H1 w1) (b : Sim σ1 base H1 w1 σ2 H2 w2) : Sim σ base H w σ2 H2 w2 := by
  have hσ : ∀ b, b < H.next → σ b = none → σ1 b = none := fun i hi e => by
    cases h : σ1 i with
    | none => rfl
    | some L => rcases a.new i L h with h1 | ⟨h1, _⟩
                · rw [e] at h1; cases h1
                · omega
  refine ⟨b.hr, a.le.trans b.le, fun i L e => ?_, Nat.le_trans a.next b.next, fun i hi e hn => ?_, Nat.le_trans a.size b.size, fun r hr hn => ?_, fun r hr => (b.ro r hr).trans (a.ro r hr), b.os.trans a.os, b.tape.trans a.tape, b.output.trans a.output⟩
  · rcases b.new i L e with h1 | ⟨h1, h2⟩
    · exact a.new i L h1
    · right
      refine ⟨Nat.le_trans a.next h1, ?_⟩
      rcases h2 with h2 | ⟨b0, L0, h3, h4⟩
      · exact .inl (Nat.le_trans a.size h2)
      · rcases a.new b0 L0 h3 with h5 | ⟨_, h5 | ⟨b1, L1, h6, h7⟩⟩
        · exact .inr ⟨b0, L0, h5, h4⟩
        · exact .inl (h4 ▸ h5)
        · exact .inr ⟨b1, L1, h6, h7.trans h4⟩
  · have h1 := a.ab i hi e hn
    rw [b.ab i (Nat.lt_of_lt_of_le hi a.next) (hσ i hi e) (by rw [h1]; exact hn), h1]
  · have h1 := a.old r hr hn
    rw [b.old r (Nat.lt_of_lt_of_le hr a.size) (fun i L e => ?_), h1]
    rcases a.new i L e with h2 | ⟨_, h2 | ⟨b1, L1, h3, h4⟩⟩
    · exact hn i L h2
    · omega
    · rw [← h4]; exact hn b1 L1 h3

theorem Sim.below {σ : Sg} {base : Nat} {H H' : AH} {w w' : World} {σ' : Sg} (h : Sim σ base H w σ' H' w') : Below base w w' :=
  ⟨h.os, h.tape, h.output, h.size, h.ro⟩

/-! ### reading -/
theorem HR.read {σ : Sg} {base : Nat} {H : AH} {w : World} (h : HR σ base H w) {b : Nat} {L : Loc} (hb : σ b = some L) {c : List V} (hr : H.read b = some c) : ContR σ w L c := by
  unfold AH.read at hr
  split at hr
  · rename_i c0 own g hg
    split at hr
    · rename_i hv; cases hr
      exact (h.obj b L _ hb hg).2.2 hv
    · cases hr
  · cases hr

theorem HR.load1 {σ : Sg} {base : Nat} {H : AH} {w : World} (h : HR σ base H w) {b o : Nat} {L : Loc} (hb : σ b = some L) {v : V} (hr : H.load1 b o = some v) :
    ∃ v', w.cell? ⟨L.r, L.s + o, none⟩ = some v' ∧ VR σ v v' := by
  unfold AH.load1 at hr
  cases hc : H.read b with
  | none => rw [hc] at hr; cases hr
  | some c => rw [hc] at hr; exact h.read hb hc o v hr

theorem add_loc (r s i : Nat) : (Addr.mk r s none).add i = ⟨r, s + i, none⟩ := by
  unfold Addr.add; split
  · rename_i h; subst h; rfl
  · rfl

theorem HR.loadN {σ : Sg} {base : Nat} {H : AH} {w : World} (h : HR σ base H w) {b o n : Nat} {L : Loc} (hb : σ b = some L) {l : List V} (hr : H.loadN b o n = some l) (P : Program) :
    l.length = n ∧ ∃ l' : List Value, (loadCells ⟨L.r, L.s + o, none⟩ n).run P w = .ok l'.toArray w ∧ VRs σ l l' := by
  unfold AH.loadN at hr
  cases hc : H.read b with
  | none => rw [hc] at hr; cases hr
  | some c =>
    rw [hc] at hr
    simp only [Option.bind_some] at hr
    split at hr
    · rename_i hle
      cases hr
      have hlen : ((c.drop o).take n).length = n := by simp; omega
      refine ⟨hlen, (List.range n).map (fun j => (w.cell? ⟨L.r, L.s + o + j, none⟩).getD undef), ?_, ?_⟩
      · refine run_loadCells w _ n (fun j => (w.cell? ⟨L.r, L.s + o + j, none⟩).getD undef) fun j hj => ?_
        rw [add_loc]
        have hj' : c[o + j]? = some (c[o + j]'(by omega)) := List.getElem?_eq_getElem (by omega)
        obtain ⟨v', h1, _⟩ := h.read hb hc (o + j) _ hj'
        rw [← Nat.add_assoc] at h1
        rw [h1]; rfl
      · refine VRs.of_get (by rw [hlen]; simp) fun i v e => ?_
        rw [List.getElem?_take] at e
        split at e
        · rename_i hi
          rw [List.getElem?_drop] at e
          obtain ⟨v', h1, h2⟩ := h.read hb hc (o + i) v e
          rw [← Nat.add_assoc] at h1
          refine ⟨v', ?_, h2⟩
          simp [hi, h1]
        · cases e
    · cases hr
end Go.Am
