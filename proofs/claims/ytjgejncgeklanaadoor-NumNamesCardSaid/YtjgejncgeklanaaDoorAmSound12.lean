/-
  A part of the proof that an abstract machine, which runs a program without orders, room or tape, says what the model does. No condition beside what each theorem states.
-/
import Derived.Test.YtjgejncgeklanaaDoorAmSound11
namespace Go.Am
open Go Go.RowKit

def World.putO (w : World) (r : Nat) (o : Obj) : World := { w with heap := w.heap.setIfInBounds r o }

theorem heap_putO (w : World) (r : Nat) (o : Obj) (k : Nat) : (World.putO w r o).heap[k]? = if k = r ∧ r < w.heap.size then some o else w.heap[k]? := by
  simp only [World.putO, Array.getElem?_setIfInBounds]
  by_cases h : r = k
  · subst h
    by_cases h2 : r < w.heap.size
    · simp [h2]
    · simp [h2]
  · rw [if_neg h, if_neg (fun e => h e.1.symm)]

theorem run_setObj' (P : Program) (w : World) (r : Nat) (o : Obj) (x : Obj) (hx : w.heap[r]? = some x) (hnc : ∀ c e f, x ≠ .cells c e f) : (setObj r o).run P w = .ok () (World.putO w r o) := by
  simp only [setObj, Sem.run, hx]
  cases x <;> first | rfl | exact absurd rfl (hnc _ _ _)

section
variable {σ : Sg} {base : Nat} {H : AH} {w : World} {P : Program}

theorem HR.putObj (h : HR σ base H w) {b : Nat} {L : Loc} {o o2 : AObj} {o' : Obj} (hb : σ b = some L) (ho : H.get b = some o) (hk : keyOf o b = some (b, false)) (hk2 : ∀ b, keyOf o2 b = some (b, false))
    (hnew : ObjR σ base (H.put b o2) (World.putO w L.r o') b L o2) : Sim σ base H w σ (H.put b o2) (World.putO w L.r o') := by
  have hlt := h.lt b L hb
  have hbase := (h.obj b L o hb ho).key_base hk
  have hng : ∀ cur, o ≠ .grp cur := fun cur e => by subst e; simp [keyOf] at hk
  have hng2 : ∀ cur, o2 ≠ .grp cur := fun cur e => by subst e; have := hk2 0; simp [keyOf] at this
  have hvalid : ∀ x g2, (H.put b o2).valid x g2 = true → H.valid x g2 = true := by
    intro x g2 hv2
    cases g2 with
    | none => rfl
    | some g3 =>
      simp only [AH.valid] at hv2 ⊢
      rw [AH.get_put] at hv2
      by_cases e : b = g3
      · rw [if_pos e] at hv2
        split at hv2
        · rename_i h1; cases h1; exact absurd rfl (hng2 _)
        · cases hv2
      · rw [if_neg e] at hv2; exact hv2
  have hoth : ∀ r, r ≠ L.r → (World.putO w L.r o').heap[r]? = w.heap[r]? := fun r hr => by rw [heap_putO, if_neg (fun e => hr e.1)]
  refine ⟨⟨h.dom, ?_, ?_, ?_, ?_, by simp [World.putO]; exact h.base, ?_, ?_, h.glob⟩, Le.refl _, fun _ _ e => .inl e, Nat.le_refl _, ?_, by simp [World.putO], ?_, ?_, rfl, rfl, rfl⟩
  · intro x Lx e; simp [World.putO]; exact h.lt x Lx e
  · intro x Lx ox hx he
    rw [AH.get_put] at he
    split at he
    · rename_i e; subst e; cases he; rw [hb] at hx; cases hx; exact hnew
    · rename_i hne
      have hap : Lx.r ≠ L.r := h.apart hb hx ho he hk (fun e => by
        cases ox with
        | cells c own g => cases own <;> cases g <;> simp [keyOf] at e; exact hne e.symm
        | grp cur => simp [keyOf] at e
        | _ => simp [keyOf] at e; exact hne e.symm)
      exact (h.obj x Lx ox hx he).other (Le.refl _) (hoth _ hap) (fun c own g _ hv => hvalid x g hv)
  · intro x y Lx Ly ox oy kx ky hx hy ex ey hkx hky hne
    have conv : ∀ z oz kz, (H.put b o2).get z = some oz → keyOf oz z = some kz → ∃ oz', H.get z = some oz' ∧ keyOf oz' z = some kz := by
      intro z oz kz ez hkz
      rw [AH.get_put] at ez
      by_cases hzb : b = z
      · subst hzb
        rw [if_pos rfl] at ez; cases ez
        exact ⟨_, ho, by rw [hk, ← hk2, hkz]⟩
      · rw [if_neg hzb] at ez; exact ⟨oz, ez, hkz⟩
    obtain ⟨ox', h1, h2⟩ := conv x ox kx ex hkx
    obtain ⟨oy', h3, h4⟩ := conv y oy ky ey hky
    exact h.sep x y Lx Ly ox' oy' kx ky hx hy h1 h3 h2 h4 hne
  · intro x hx
    have h1 := h.fresh x hx
    rw [AH.get_put, if_neg, h1]
    intro e; subst e; rw [ho] at h1; cases h1
  · intro x c own g he
    rw [AH.get_put] at he
    split at he
    · rename_i e; cases he
      have := hk2 0
      cases own <;> simp [keyOf] at this
    · obtain ⟨cur, h1⟩ := h.grps x c own g he
      refine ⟨cur, ?_⟩
      rw [AH.get_put, if_neg]
      · exact h1
      · intro e; subst e; rw [ho] at h1; cases h1; exact hng _ rfl
  · intro x cur he
    rw [AH.get_put] at he
    split at he
    · cases he; exact absurd rfl (hng2 _)
    · exact h.nogrp x cur he
  · intro x hx hn hg
    rw [AH.get_put, if_neg]
    intro e; subst e; rw [hb] at hn; cases hn
  · intro r hr hn; exact hoth r (fun e => hn b L hb e.symm)
  · intro r hr; exact hoth r (by omega)

theorem EsR.set {l : List (V × V × Nat)} {l' : List MapEntry} : EsR σ l l' → ∀ (i : Nat) (k v : V) (n : Nat) (e : MapEntry), VR σ k e.key → VR σ v e.val → e.born = n → EsR σ (l.set i (k, v, n)) (l'.set i e) := by
  induction l generalizing l' with
  | nil => intro h i k v n e _ _ _; simp only [EsR] at h; subst h; simp [EsR]
  | cons a r ih =>
    intro h i k v n e h1 h2 h3
    obtain ⟨k0, v0, n0⟩ := a
    simp only [EsR] at h
    obtain ⟨e0, l2, rfl, g1, g2, g3, g4⟩ := h
    cases i with
    | zero => simp only [List.set_cons_zero, EsR]; exact ⟨e, l2, rfl, h1, h2, h3, g4⟩
    | succ i => simp only [List.set_cons_succ, EsR]; exact ⟨e0, _, rfl, g1, g2, g3, ih g4 i k v n e h1 h2 h3⟩

theorem EsR.snoc {l : List (V × V × Nat)} {l' : List MapEntry} (h : EsR σ l l') {k v : V} {n : Nat} {e : MapEntry} (h1 : VR σ k e.key) (h2 : VR σ v e.val) (h3 : e.born = n) : EsR σ (l ++ [(k, v, n)]) (l' ++ [e]) := by
  induction l generalizing l' with
  | nil => simp only [EsR] at h; subst h; simp only [List.nil_append, EsR]; exact ⟨e, [], rfl, h1, h2, h3, rfl⟩
  | cons a r ih =>
    obtain ⟨k0, v0, n0⟩ := a
    simp only [EsR] at h
    obtain ⟨e0, l2, rfl, g1, g2, g3, g4⟩ := h
    simp only [List.cons_append, EsR]
    exact ⟨e0, _, rfl, g1, g2, g3, ih g4⟩

theorem EsR.get {l : List (V × V × Nat)} {l' : List MapEntry} (h : EsR σ l l') (i : Nat) {k v : V} {n : Nat} (e : l[i]? = some (k, v, n)) : ∃ en, l'[i]? = some en ∧ VR σ k en.key ∧ VR σ v en.val ∧ en.born = n := by
  induction l generalizing l' i with
  | nil => simp at e
  | cons a r ih =>
    obtain ⟨k0, v0, n0⟩ := a
    simp only [EsR] at h
    obtain ⟨e0, l2, rfl, g1, g2, g3, g4⟩ := h
    cases i with
    | zero => simp at e; obtain ⟨rfl, rfl, rfl⟩ := e; exact ⟨e0, by simp, g1, g2, g3⟩
    | succ i => simp at e; obtain ⟨en, h1, h2⟩ := ih g4 i e; exact ⟨en, by simpa using h1, h2⟩

theorem modify_set {α : Type} (a : Array α) (i : Nat) (f : α → α) (x : α) (h : a[i]? = some x) : (a.modify i f).toList = a.toList.set i (f x) := by
  apply List.ext_getElem?
  intro j
  have hi : i < a.size := by
    rcases Nat.lt_or_ge i a.size with h1 | h1
    · exact h1
    · rw [Array.getElem?_eq_none h1] at h; cases h
  have hx : a[i] = x := by rw [Array.getElem?_eq_getElem hi] at h; injection h
  by_cases hj : i = j
  · subst hj
    rw [List.getElem?_set_self (by simpa using hi)]
    simp [Array.getElem?_modify, h, hi, hx]
  · rw [List.getElem?_set_ne hj]
    simp [Array.getElem?_modify, hj]

theorem ok_mapPut (hr : HR σ base H w) {t : TypeId} {m k v : V} {nx : Nx} (e : oMapPut P H t m k v = some nx) {m' k' v' : Value} (hm : VR σ m m') (hk : VR σ k k') (hv : VR σ v v') :
    NxR σ base H w ((do Instr.mapUpdate t m' k' v'; pure .skip : Sem Next).run P w) nx := by
  unfold oMapPut at e
  split at e
  case h_2 => cases e
  rename_i kt vt r ht
  simp only [VR] at hm
  obtain ⟨L, hL, rfl⟩ := hm
  split at e
  case h_2 => cases e
  rename_i es clock hg
  obtain ⟨es', h1, h2, h3⟩ := map_obj hr hL hg
  have hbase := (hr.obj r L _ hL hg).1
  split at e
  case isFalse => cases e
  rename_i hko
  have hck := checkKey_ok (P := P) false 5 kt k hko k' hk 10000 (by omega) w
  have hset : ∀ o, (setObj L.r o).run P w = .ok () (World.putO w L.r o) := fun o => run_setObj' P w L.r o _ h1 (by intros; simp)
  have hlt := hr.lt r L hL
  split at e
  · rename_i i v0 hf
    obtain ⟨r', h4, h5⟩ := findKey_ok (P := P) hk h2 hf hko w
    obtain ⟨v0', rfl, _⟩ := h5
    split at e
    case h_2 => cases e
    rename_i k2 v2 born hi
    split at e
    case isFalse => cases e
    rename_i hsame
    cases e
    obtain ⟨en, h6, h7, h8, h9⟩ := h2.get i hi
    have h6' : es'[i]? = some en := by simpa using h6
    have hbits := sameV_ok hsame h7 hk 9999
    refine ⟨σ, World.putO w L.r (.map (es'.modify i fun e => { e with key := k', val := v' }) clock), .skip, undef, ?_, .inr ⟨rfl, rfl⟩, VR.undef, ?_⟩
    · simp [Instr.mapUpdate, run_underlying ht, h3, hck, h4, h6', Instr.keyThatStays, hbits, hset]
    · refine hr.putObj hL hg rfl (fun _ => rfl) ⟨hbase, es'.modify i fun e => { e with key := k', val := v' }, ?_, ?_⟩
      · rw [heap_putO, if_pos ⟨rfl, hlt⟩]
      · rw [modify_set _ _ _ _ h6']
        exact h2.set i k v born _ hk hv h9
  · rename_i hf
    obtain ⟨r', h4, h5⟩ := findKey_ok (P := P) hk h2 hf hko w
    simp only [FoundR] at h5; subst h5
    cases e
    refine ⟨σ, World.putO w L.r (.map (es'.push { key := k', val := v', born := clock }) (clock + 1)), .skip, undef, ?_, .inr ⟨rfl, rfl⟩, VR.undef, ?_⟩
    · simp [Instr.mapUpdate, run_underlying ht, h3, hck, h4, hset]
    · refine hr.putObj hL hg rfl (fun _ => rfl) ⟨hbase, es'.push { key := k', val := v', born := clock }, ?_, ?_⟩
      · rw [heap_putO, if_pos ⟨rfl, hlt⟩]
      · rw [Array.toList_push]
        exact h2.snoc hk hv rfl
  · cases e

theorem ok_lookup (hr : HR σ base H w) {t : TypeId} {x ix : V} {ok : Bool} {nx : Nx} (e : oLookup P H t x ix ok = some nx) {x' ix' : Value} (hx : VR σ x x') (hi : VR σ ix ix') :
    NxR σ base H w ((valN (Instr.lookup t x' ix' ok)).run P w) nx := by
  unfold oLookup at e
  split at e
  case h_2 => cases e
  rename_i kt vt ht
  split at e
  case isFalse => cases e
  rename_i hko
  have yes : ∀ (v : V) (v' : Value), VR σ v v' → VR σ (if ok then .tuple [v, .bool true] else v) (if ok then .tuple #[v', .bool true] else v') := by
    intro v v' hv
    cases ok
    · exact hv
    · simp only [if_true, VR]; exact ⟨_, rfl, VRs.cons hv (VRs.cons (VR.bool' _ _) VRs.nil)⟩
  have no : ∀ (v : V) (v' : Value), VR σ v v' → VR σ (if ok then .tuple [v, .bool false] else v) (if ok then .tuple #[v', .bool false] else v') := by
    intro v v' hv
    cases ok
    · exact hv
    · simp only [if_true, VR]; exact ⟨_, rfl, VRs.cons hv (VRs.cons (VR.bool' _ _) VRs.nil)⟩
  cases x with
  | map r =>
    cases r with
    | none =>
      simp only [VR] at hx; subst hx
      simp only [Option.bind_some] at e
      have hck := checkKey_ok (P := P) true 5 kt ix hko ix' hi 10000 (by omega) w
      have hfk : (Instr.findKey kt ix' []).run P w = .ok none w := by
        obtain ⟨r', h3, h4⟩ := findKey_ok (P := P) (es := []) (es' := []) (r := none) hi (by simp [EsR]) rfl hko w
        simp only [FoundR] at h4; subst h4; exact h3
      cases hz : zeroT P vt with
      | none => simp [hz] at e
      | some z =>
        simp [hz] at e; subst e
        obtain ⟨z', h1, h2⟩ := zeroT_run hz σ w
        refine NxR.pv_of (v' := if ok then .tuple #[z', .bool false] else z') ?_ (no z z' h2)
        have he : (#[] : Array MapEntry).isEmpty = true := rfl
        simp [Instr.lookup, run_underlying ht, hck, hfk, h1]
    | some r =>
      simp only [VR] at hx
      obtain ⟨L, hL, rfl⟩ := hx
      cases hg : H.get r with
      | none => simp [hg] at e
      | some o =>
        cases o with
        | map es clock =>
          simp only [hg] at e
          obtain ⟨es', h1, h2, h3⟩ := map_obj hr hL hg
          cases hf : findK P kt ix es 0 with
          | none => simp [hf] at e
          | some fr =>
            simp only [hf, Option.bind_some] at e
            obtain ⟨r', h4, h5⟩ := findKey_ok (P := P) hi h2 hf hko w
            have hck := checkKey_ok (P := P) es'.isEmpty 5 kt ix hko ix' hi 10000 (by omega) w
            cases fr with
            | none =>
              simp only [FoundR] at h5; subst h5
              cases hz : zeroT P vt with
              | none => simp [hz] at e
              | some z =>
                simp [hz] at e; subst e
                obtain ⟨z', h6, h7⟩ := zeroT_run hz σ w
                refine NxR.pv_of (v' := if ok then .tuple #[z', .bool false] else z') ?_ (no z z' h7)
                simp only [Instr.lookup, Sem.run_bind, run_underlying ht, Result.andThen_ok, Sem.run_pure, h3, hck, h4, h6]
            | some p =>
              obtain ⟨i, v⟩ := p
              obtain ⟨v', rfl, h7⟩ := h5
              simp at e; subst e
              refine NxR.pv_of (v' := if ok then .tuple #[v', .bool true] else v') ?_ (yes v v' h7)
              simp only [Instr.lookup, Sem.run_bind, run_underlying ht, Result.andThen_ok, Sem.run_pure, h3, hck, h4]
        | _ => simp [hg] at e
  | _ => simp at e
end
end Go.Am
