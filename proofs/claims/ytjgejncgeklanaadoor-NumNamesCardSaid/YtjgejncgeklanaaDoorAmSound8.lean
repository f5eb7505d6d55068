/-
  A part of the proof that an abstract machine, which runs a program without orders, room or tape, says what the model does. No condition beside what each theorem states.
-/
import Derived.Test.YtjgejncgeklanaaDoorAmSound7
namespace Go.Am
open Go Go.RowKit

section
variable {σ : Sg} {base : Nat} {H : AH} {w : World} {P : Program}

def capOf : Value → Nat
  | .slice _ _ c => c
  | _ => 0

def baseR (σ : Sg) (a : Option (Nat × Nat)) (b : Option Addr) : Prop :=
  match a with
  | none => b = none
  | some p => ∃ L, σ p.1 = some L ∧ b = some ⟨L.r, L.s + p.2, none⟩

theorem firstCells_ok (hr : HR σ base H w) {a : Option (Nat × Nat)} {size n : Nat} {old : List V} (h : H.oldCells a (n * size) = some old)
    {b : Option Addr} (hb : baseR σ a b) (m c : Nat) :
    ∃ old' : Array Value, VRs σ old old'.toList ∧ (a.isSome → old.length = n * size) ∧ (Builtin.firstCells size n (.slice b m c)).run P w.drew = .ok old' w.drew ∧ (Builtin.firstCells size n (.slice b m c)).run P w = .ok old' w := by
  cases a with
  | none =>
    simp [AH.oldCells] at h; subst h
    simp only [baseR] at hb; subst hb
    exact ⟨#[], by simp [VRs], by simp, by simp [Builtin.firstCells], by simp [Builtin.firstCells]⟩
  | some p =>
    simp only [AH.oldCells] at h
    obtain ⟨L, hL, rfl⟩ := hb
    have hd := hr.drew.hr
    obtain ⟨h1, l', h2, h3⟩ := hr.loadN hL h P
    obtain ⟨_, l2, h4, h5⟩ := hd.loadN hL h P
    -- both are what the cells hold
    have hsame : l'.toArray = l2.toArray := by
      have e1 : (loadCells ⟨L.r, L.s + p.2, none⟩ (n * size)).run P w = .ok ((List.range (n * size)).map (fun j => (w.cell? ⟨L.r, L.s + p.2 + j, none⟩).getD undef)).toArray w := by
        refine run_loadCells w _ _ (fun j => (w.cell? ⟨L.r, L.s + p.2 + j, none⟩).getD undef) fun j hj => ?_
        rw [add_loc]
        cases hc : H.read p.1 with
        | none => simp [AH.loadN, hc] at h
        | some c =>
          simp only [AH.loadN, hc, Option.bind_some] at h
          split at h
          · have hj' : c[p.2 + j]? = some (c[p.2 + j]'(by omega)) := List.getElem?_eq_getElem (by omega)
            obtain ⟨v', h6, _⟩ := hr.read hL hc (p.2 + j) _ hj'
            rw [← Nat.add_assoc] at h6
            rw [h6]; rfl
          · cases h
      have e2 : (loadCells ⟨L.r, L.s + p.2, none⟩ (n * size)).run P w.drew = .ok ((List.range (n * size)).map (fun j => (w.cell? ⟨L.r, L.s + p.2 + j, none⟩).getD undef)).toArray w.drew := by
        refine run_loadCells w.drew _ _ (fun j => (w.cell? ⟨L.r, L.s + p.2 + j, none⟩).getD undef) fun j hj => ?_
        rw [add_loc, World.cell?_drew]
        cases hc : H.read p.1 with
        | none => simp [AH.loadN, hc] at h
        | some c =>
          simp only [AH.loadN, hc, Option.bind_some] at h
          split at h
          · have hj' : c[p.2 + j]? = some (c[p.2 + j]'(by omega)) := List.getElem?_eq_getElem (by omega)
            obtain ⟨v', h6, _⟩ := hr.read hL hc (p.2 + j) _ hj'
            rw [← Nat.add_assoc] at h6
            rw [h6]; rfl
          · cases h
      rw [h2] at e1; rw [h4] at e2
      injection e1 with e1; injection e2 with e2
      rw [e1, e2]
    refine ⟨l'.toArray, by simpa using h3, fun _ => h1, ?_, ?_⟩
    · simp only [Builtin.firstCells]; rw [h4, hsame]
    · simp only [Builtin.firstCells]; rw [h2]

set_option maxHeartbeats 1000000 in
theorem oAppend_ok (hr : HR σ base H w) {el : TypeId} {a : Option (Nat × Nat)} {len cap : Nat} {ex : Option Nat} {n : Nat} {new : List V} {nx : Nx} (e : oAppend P H el a len cap ex n new = some nx) {s' : Value} (hs : VR σ (.slice a len cap ex) s')
    (A : Value → Sem Value) {newA : Array Value} (hnew : VRs σ new newA.toList) {size bytes : Nat} {z : V} (hsz : sizeT P el = some size) (hbt : bytesT P el = some bytes) (hzt : zeroT P el = some z)
    (hroom : ∀ b c', len + n ≤ c' → (A (.slice b len c')).run P w = ((match b with | some a => storeCells (a.add (len * size)) newA.toList | none => pure () : Sem Unit).run P w).andThen fun _ w' => .ok (.slice b (len + n) c') w')
    (hgrow : ∀ b c' old, (Builtin.firstCells size len (.slice b len c')).run P w.drew = .ok old w.drew → c' < len + n → 1 ≤ bytes → (len + n) * bytes ≤ 1000000000000 → len + n ≤ 1000000000000 → z.cells.length = size →
      ∃ cap' rest e', len + n ≤ cap' ∧ rest.size = (cap' - (len + n)) * size ∧ (A (.slice b len c')).run P w = .ok (.slice (some ⟨w.heap.size, 0, none⟩) (len + n) cap') (w.drew.alloc (.cells (old ++ newA ++ rest) e'))) :
    NxR σ base H w ((valN (A s')).run P w) nx := by
  unfold oAppend at e
  simp only [hsz, hbt, hzt] at e
  split at e
  case isFalse => cases e
  rename_i hlens
  obtain ⟨hzl, hnl⟩ := hlens
  have hnA : newA.size = n * size := by have := hnew.length; simp only [Array.length_toList] at this; omega
  split at e
  · -- there is room, as far as the abstract slice tells
    rename_i hle
    cases a with
    | none =>
      simp only [VR] at hs
      obtain ⟨rfl, rfl, rfl, rfl⟩ := hs
      cases e
      have hn0 : n = 0 := by omega
      subst hn0
      refine NxR.pv_of (v' := .slice none 0 0) ?_ (by simp [VR])
      rw [hroom none 0 (by omega)]; simp
    | some p =>
      obtain ⟨b, o⟩ := p
      simp only [VR] at hs
      obtain ⟨L, c', hL, rfl, hlc, hcap⟩ := hs
      simp only at e hL hcap
      cases hst : H.storeN b (o + len * size) new with
      | none => simp [hst] at e
      | some H' =>
        simp [hst] at e; subst e
        have hle' : cap ≤ c' := by cases ex with
          | none => simp at hcap; omega
          | some _ => simp at hcap; exact hcap.1
        obtain ⟨w', h1, h2⟩ := HR.storeN hL P (o + len * size) new newA.toList 0 hr hst hnew
        refine ⟨σ, w', .value (.slice (some ⟨L.r, L.s + o, none⟩) (len + n) c'), .slice (some ⟨L.r, L.s + o, none⟩) (len + n) c', ?_, .inl rfl, ?_, h2⟩
        · have := hroom (some ⟨L.r, L.s + o, none⟩) c' (by omega)
          simp only [add_loc] at this
          rw [show L.s + o + len * size = L.s + (o + len * size) by omega] at this
          simp only [valN, Sem.run_bind]
          rw [show (Value.slice (some ⟨L.r, L.s + o, none⟩) len c') = _ from rfl, this, h1]
          simp
        · simp only [VR]
          exact ⟨L, c', hL, rfl, hle, hcap⟩
  · rename_i hnle
    split at e
    case isFalse => cases e
    rename_i hfit
    obtain ⟨hf1, hf2, hf3⟩ := hfit
    have hbb : ∃ b, s' = .slice b len (capOf s') ∧ baseR σ a b := by
      cases a with
      | none => simp only [VR] at hs; obtain ⟨rfl, _⟩ := hs; exact ⟨none, rfl, rfl⟩
      | some p => simp only [VR] at hs; obtain ⟨L, c', hL, rfl, _⟩ := hs; exact ⟨_, rfl, L, hL, rfl⟩
    obtain ⟨b', hs', hb'⟩ := hbb
    cases hld : H.oldCells a (len * size) with
    | none => simp only [hld, Option.bind_none] at e; cases e
    | some old =>
    obtain ⟨old', ho1, ho2, ho3, ho4⟩ := firstCells_ok (P := P) hr hld hb' len (capOf s')
    simp only [hld, Option.bind_some] at e
    have hol : old.length = len * size := by
      cases a with
      | none =>
        simp only [VR] at hs
        obtain ⟨_, _, _, rfl⟩ := hs
        simp [AH.oldCells] at hld; subst hld; simp
      | some p => exact ho2 rfl
    have hoA : old'.size = len * size := by have := ho1.length; simp only [Array.length_toList] at this; omega
    have hcat : VRs σ (old ++ new) (old' ++ newA).toList := by
      rw [Array.toList_append]; exact ho1.append hnew
    have htake : ∀ rest : Array Value, VRs σ (old ++ new) ((old' ++ newA ++ rest).toList.take (old ++ new).length) := by
      intro rest
      have h1 : (old' ++ newA ++ rest).toList.take (old ++ new).length = (old' ++ newA).toList := by
        rw [Array.toList_append]
        rw [List.take_append_of_le_length (by rw [hcat.length]; exact Nat.le_refl _)]
        rw [List.take_of_length_le (by rw [hcat.length]; exact Nat.le_refl _)]
      rw [h1]; exact hcat
    cases ex with
    | none =>
      -- the capacity is known: a new array
      cases e
      have hc' : (capOf s') = cap := by
        cases a with
        | none => simp only [VR] at hs; obtain ⟨rfl, _⟩ := hs; rfl
        | some p => simp only [VR] at hs; obtain ⟨L, c', hL, rfl, _, hcap⟩ := hs; exact hcap
      rw [hc'] at hs' ho3
      obtain ⟨cap', rest, e', h1, h2, h3⟩ := hgrow b' cap old' ho3 (by omega) hf2 hf1 hf3 hzl
      have hsim := hr.growNew (NewRow.alloc w (old' ++ newA ++ rest) e') (htake rest)
      refine ⟨_, _, _, .slice (some ⟨w.heap.size, 0, none⟩) (len + n) cap', by rw [hs']; simp only [valN, Sem.run_bind, h3, Result.andThen_ok, Sem.run_pure], .inl rfl, ?_, hsim⟩
      simp only [VR]
      refine ⟨_, cap', Sg.ins_self _ _ _, rfl, Nat.le_refl _, h1, ?_⟩
      show 0 + cap' * size ≤ (old' ++ newA ++ rest).size
      rw [Array.size_append, Array.size_append, hoA, hnA, h2]
      have : cap' = len + n + (cap' - (len + n)) := by omega
      rw [Nat.zero_add, ← Nat.add_mul, ← Nat.add_mul, ← this]
      exact Nat.le_refl _
    | some es =>
      cases a with
      | none => simp only [VR] at hs; obtain ⟨_, hex, _⟩ := hs; cases hex
      | some p =>
      obtain ⟨b, o⟩ := p
      simp only at e
      split at e
      case h_2 => cases e
      rename_i c0 g hob
      split at e
      case isFalse => cases e
      rename_i hcond
      obtain ⟨hes, hval, hone⟩ := hcond
      cases e
      subst hes
      simp only [VR] at hs
      obtain ⟨L, c', hL, rfl, hlc, hcap1, hcap2⟩ := hs
      simp only [capOf] at hs' ho3 ho4
      have hgr : ∃ cur, H.get g = some (.grp cur) := hr.grps b c0 true g hob
      obtain ⟨cur, hgr⟩ := hgr
      injection hs' with hs1
      by_cases hin : len + n ≤ c'
      · -- in place
        obtain ⟨hbase, hlen0, hrm⟩ := (hr.obj b L _ hL hob).1 rfl
        have hmul : (len + n) * es ≤ c' * es := Nat.mul_le_mul_right _ hin
        rw [Nat.add_mul] at hmul
        obtain ⟨w', h1, h2, h3, h4⟩ := run_storeCells_wrote P L.r (L.s + o + len * es) newA.toList 0 w (by
          intro v hv
          obtain ⟨i, hi, hv⟩ := List.getElem_of_mem hv
          have hi' : i < new.length := by rw [hnew.length]; exact hi
          obtain ⟨v2, h5, h6⟩ := hnew.get i _ (List.getElem?_eq_getElem hi')
          rw [List.getElem?_eq_getElem hi] at h5
          cases h5
          rw [← hv, h6.one]
          exact List.all_eq_true.1 hone _ (List.getElem_mem hi')) (by
          intro j hj
          simp only [Array.length_toList] at hj
          have := hrm (o + len * es + j) (by omega)
          rw [show L.s + o + len * es + (0 + j) = L.s + (o + len * es + j) by omega]
          exact this)
        have hcont : ContR σ w' ⟨L.r, L.s + o, L.n - o⟩ (old ++ new) := by
          intro i v ev
          rw [List.getElem?_append] at ev
          split at ev
          · rename_i hi
            obtain ⟨v', h5, h6⟩ := ho1.get i v ev
            refine ⟨v', ?_, h6⟩
            show w'.cell? ⟨L.r, L.s + o + i, none⟩ = some v'
            rw [h4 _ (.inl (by omega))]
            -- what the cells held
            have h7 : (loadCells ⟨L.r, L.s + o, none⟩ (len * es)).run P w = .ok ((List.range (len * es)).map (fun j => (w.cell? ⟨L.r, L.s + o + j, none⟩).getD undef)).toArray w := by
              refine run_loadCells w _ _ (fun j => (w.cell? ⟨L.r, L.s + o + j, none⟩).getD undef) fun j hj => ?_
              rw [add_loc]
              obtain ⟨⟨u, hu⟩, _⟩ := hrm (o + j) (by omega)
              rw [← Nat.add_assoc] at hu
              rw [hu]; rfl
            have h8 : (Builtin.firstCells es len (.slice b' len c')).run P w = .ok old' w := ho4
            rw [← hs1] at h8
            simp only [Builtin.firstCells] at h8
            rw [h7] at h8
            injection h8 with h8
            rw [← h8] at h5
            simp only [List.getElem?_map] at h5
            rw [List.getElem?_range (by omega)] at h5
            simp at h5
            obtain ⟨⟨u, hu⟩, _⟩ := hrm (o + i) (by omega)
            rw [← Nat.add_assoc] at hu
            rw [hu] at h5 ⊢
            simpa using h5
          · rename_i hi
            obtain ⟨v', h5, h6⟩ := hnew.get _ v ev
            refine ⟨v', ?_, h6⟩
            have h7 := h3 _ v' h5
            show w'.cell? ⟨L.r, L.s + o + i, none⟩ = some v'
            rw [show L.s + o + len * es + (0 + (i - old.length)) = L.s + o + i by omega] at h7
            exact h7
        have hsim := hr.growIn hL hob hgr h2 (by omega) (by rw [List.length_append, hol, hnl]; omega) hcont
        refine ⟨_, w', .value (.slice (some ⟨L.r, L.s + o, none⟩) (len + n) c'), .slice (some ⟨L.r, L.s + o, none⟩) (len + n) c', ?_, .inl rfl, ?_, hsim⟩
        · have := hroom (some ⟨L.r, L.s + o, none⟩) c' hin
          simp only [add_loc] at this
          simp only [valN, Sem.run_bind, this, h1]
          simp
        · simp only [VR]
          refine ⟨_, c', Sg.ins_self _ _ _, rfl, Nat.le_refl _, hin, ?_⟩
          show 0 + c' * es ≤ L.n - o
          omega
      · -- moved
        obtain ⟨cap', rest, e', h1, h2, h3⟩ := hgrow b' c' old' ho3 (by omega) hf2 hf1 hf3 hzl
        have hsim := hr.growMove (NewRow.alloc w (old' ++ newA ++ rest) e') (htake rest) hgr
        refine ⟨_, _, _, .slice (some ⟨w.heap.size, 0, none⟩) (len + n) cap', by rw [hs1]; simp only [valN, Sem.run_bind, h3, Result.andThen_ok, Sem.run_pure], .inl rfl, ?_, hsim⟩
        simp only [VR]
        refine ⟨_, cap', Sg.ins_self _ _ _, rfl, Nat.le_refl _, h1, ?_⟩
        show 0 + cap' * es ≤ (old' ++ newA ++ rest).size
        rw [Array.size_append, Array.size_append, hoA, hnA, h2]
        have : cap' = len + n + (cap' - (len + n)) := by omega
        rw [Nat.zero_add, ← Nat.add_mul, ← Nat.add_mul, ← this]
        exact Nat.le_refl _
end
end Go.Am
