/-
  A part of the proof that an abstract machine, which runs a program without orders, room or tape, says what the model does. No condition beside what each theorem states.
-/
import Derived.Test.YtjgejncgeklanaaDoorAmDraw2
namespace Go.Am
open Go Go.RowKit

theorem masks_lt : ∀ (l : List Oper) (k : Nat) (acc : PT Nat) (j : Nat), j < k → (masks k l acc).get j = acc.get j
  | [], _, _, _, _ => rfl
  | o :: l, k, acc, j, h => by
    simp only [masks]
    rw [masks_lt l (k + 1) _ j (by omega), PT.get_set, if_neg (by omega)]

theorem masks_in2 {S : Nat → Prop} : ∀ (l : List Oper) (k : Nat) (acc : PT Nat), (∀ i o, l[i]? = some o → S (k + i) → edgesIn S o) → (∀ i m j, acc.get i = some m → S i → m.testBit j = true → S j) →
    ∀ i o m j, l[i]? = some o → (masks k l acc).get (k + i) = some m → edgesIn S o → m.testBit j = true → S j
  | [], _, _, _, _, i, o, m, j, h, _, _, _ => by simp at h
  | a :: l, k, acc, hl, hacc, i, o, m, j, h, hg, he, hj => by
    simp only [masks] at hg
    cases i with
    | zero =>
      simp at h; subst h
      rw [masks_lt _ _ _ _ (by omega), PT.get_set, if_pos (by omega)] at hg
      cases hg
      exact maskOf_in hacc he j hj
    | succ i =>
      refine masks_in2 l (k + 1) _ (fun i' o' ho hS => hl (i' + 1) o' (by simpa using ho) (by rw [show k + (i' + 1) = k + 1 + i' by omega]; exact hS)) ?_ i o m j (by simpa using h) (by rw [show k + 1 + i = k + (i + 1) by omega]; exact hg) he hj
      intro i m j hg hS hj
      rw [PT.get_set] at hg
      split at hg
      · rename_i hki; subst hki; cases hg
        exact maskOf_in hacc (hl 0 a (by simp) (by simpa using hS)) j hj
      · exact hacc i m j hg hS hj

def Closed (ops : Array Oper) (S : Nat → Prop) : Prop := ∀ i o, ops[i]? = some o → S i → edgesIn S o

theorem bits_in {ops : Array Oper} {S : Nat → Prop} (hc : Closed ops S) {i : Nat} {o : Oper} (ho : ops[i]? = some o) (he : edgesIn S o) {j : Nat} (h : hasBit (masks 0 ops.toList .nil) i j = true) : S j := by
  unfold hasBit at h
  cases hg : (masks 0 ops.toList PT.nil).get i with
  | none => rw [hg] at h; simp at h
  | some m =>
    rw [hg] at h
    exact masks_in2 ops.toList 0 .nil (fun i o h1 h2 => hc i o (by simpa using h1) (by simpa using h2)) (fun i m j h => by simp [PT.get] at h) i o m j (by simpa using ho) (by simpa using hg) he h

/-- values of temporaries, whether set or not -/
def gv (T : PT V) (d : Nat) : V := (T.get d).getD vundef

theorem gv_set (T : PT V) (d : Nat) (v : V) (i : Nat) : gv (T.set d v) i = if d = i then v else gv T i := by
  unfold gv; rw [PT.get_set]; split <;> rfl

theorem aeval_gv {ng : Nat} {T T' : PT V} {x : Operand} (h : ∀ t, x = .tmp t → gv T t = gv T' t) : aeval ng T x = aeval ng T' x := by
  cases x with
  | tmp t => simp only [aeval]; exact congrArg some (h t rfl)
  | _ => rfl

theorem res1_congr {P : Program} {ops : Array Oper} {T T' : PT V} {H : AH} {o : Oper} (h : ∀ t ∈ o.looksAt ops, gv T t = gv T' t) : res1 P ops T H o = res1 P ops T' H o := by
  have h1 : aexec P T H o = aexec P T' H o := aexec_congr o fun x hx => aeval_gv fun t e => h t (by
    subst e
    exact List.mem_append_left _ (List.mem_filterMap.2 ⟨.tmp t, by simpa using hx, rfl⟩))
  have h2 : wantedA ops T o.guard = wantedA ops T' o.guard := by
    unfold wantedA
    cases hg : o.guard with
    | none => rfl
    | some x =>
      obtain ⟨j, want⟩ := x
      simp only
      cases hd : (ops[j]?).bind (·.dst) with
      | none => rfl
      | some d =>
        simp only
        have : gv T d = gv T' d := h d (List.mem_append_right _ (by rw [hg]; simp [hd]))
        unfold gv at this
        rw [this]
  unfold res1
  rw [h1, h2]

section
variable {P : Program} {rec : Task → Option Res} {ops : Array Oper} {σ0 : Sg} {base : Nat} {H0 : AH} {w0 : World} {nt : Nat}

/-- the state amid a region: 'pd': what the abstract run has carried out and the real one not yet -/
structure DI (P : Program) (ops : Array Oper) (σ0 : Sg) (base : Nat) (H0 : AH) (w0 : World) (nt : Nat) (S : Nat → Prop) (T : PT V) (C : AH) (pd : List (Nat × Option Nat)) (σ : Sg) (a : Act) (w : World) : Prop where
  sim : Sim σ0 base H0 w0 σ C w
  tm : ∃ tmS, TmR σ nt tmS a.tmps ∧ ∀ d, (∀ x ∈ pd, ∀ o, ops[x.1]? = some o → o.dst ≠ some d) → gv tmS d = gv T d
  pdS : ∀ x ∈ pd, ¬ S x.1
  blk : ∀ x ∈ pd, ∀ b, x.2 = some b → σ b = none ∧ b < C.next ∧ H0.next ≤ b
  blkd : ∀ x ∈ pd, ∀ y ∈ pd, ∀ b, x.2 = some b → y.2 = some b → x.1 = y.1

theorem none_fresh {σ : Sg} {H : AH} {w : World} (h : HR σ base H w) : σ H.next = none := by
  cases e : σ H.next with
  | none => rfl
  | some L => have := h.dom _ L e; omega

theorem putT_tm {σ : Sg} {T T' : PT V} {dst : Option Tmp} {v : V} (h : putT nt T dst v = some T') {tmS : PT V} {a : Act} (ht : TmR σ nt tmS a.tmps) {v' : Value} (hv : VR σ v v') :
    ∃ tmS', TmR σ nt tmS' (a.put dst v').tmps ∧ (∀ d, gv tmS' d = if dst = some d then v else gv tmS d) ∧ (∀ d, gv T' d = if dst = some d then v else gv T d) := by
  cases dst with
  | none =>
    simp only [putT] at h; cases h
    exact ⟨tmS, ht, fun d => by simp, fun d => by simp⟩
  | some t =>
    simp only [putT] at h
    split at h
    · rename_i hlt; cases h
      exact ⟨tmS.set t v, ht.set hlt hv, fun d => by rw [gv_set]; simp, fun d => by rw [gv_set]; simp⟩
    · cases h

theorem putT_gv {T T' : PT V} {dst : Option Tmp} {v : V} (h : putT nt T dst v = some T') (d : Nat) : gv T' d = if dst = some d then v else gv T d := by
  cases dst with
  | none => simp only [putT] at h; cases h; simp
  | some t =>
    simp only [putT] at h
    split at h
    · cases h; rw [gv_set]; simp
    · cases h

/-- ahead of the real run -/
theorem runNs_ok {S : Nat → Prop} {σ : Sg} {a : Act} {w : World} : ∀ (ns : List Nat) (s s' : DS) (pd : List (Nat × Option Nat)), runNs P ops nt ns s = some s' → DI P ops σ0 base H0 w0 nt S s.T s.H pd σ a w → (∀ x ∈ pd, x ∈ s.O) → (∀ i ∈ ns, ¬ S i) →
    ∃ pd', DI P ops σ0 base H0 w0 nt S s'.T s'.H pd' σ a w ∧ (∀ x ∈ pd', x ∈ s'.O) ∧ (∀ x ∈ pd, x ∈ pd') ∧ (∀ x ∈ pd', x ∈ pd ∨ x.1 ∈ ns) ∧ (∀ i ∈ ns, ∃ x ∈ pd', x.1 = i)
  | [], s, s', pd, h, hd, hO, _ => by
    simp only [runNs] at h; cases h
    exact ⟨pd, hd, hO, fun _ h => h, fun _ h => .inl h, fun _ h => by cases h⟩
  | i :: ns, s, s', pd, h, hd, hO, hS => by
    simp only [runNs] at h
    split at h
    case h_2 => cases h
    rename_i o ho
    have go : ∀ (x : Nat × Option Nat) (T : PT V) (H : AH), x.1 = i → DI P ops σ0 base H0 w0 nt S T H (x :: pd) σ a w → runNs P ops nt ns ⟨T, H, x :: s.O⟩ = some s' →
        ∃ pd', DI P ops σ0 base H0 w0 nt S s'.T s'.H pd' σ a w ∧ (∀ x ∈ pd', x ∈ s'.O) ∧ (∀ x ∈ pd, x ∈ pd') ∧ (∀ x ∈ pd', x ∈ pd ∨ x.1 ∈ i :: ns) ∧ (∀ j ∈ i :: ns, ∃ x ∈ pd', x.1 = j) := by
      intro x T H hx hd' hr
      obtain ⟨pd', h1, h2, h3, h4, h5⟩ := runNs_ok ns ⟨T, H, x :: s.O⟩ s' (x :: pd) hr hd' (fun y hy => by
        cases hy with
        | head => exact List.mem_cons_self ..
        | tail _ hy => exact List.mem_cons_of_mem _ (hO y hy)) (fun j hj => hS j (List.mem_cons_of_mem _ hj))
      refine ⟨pd', h1, h2, fun y hy => h3 y (List.mem_cons_of_mem _ hy), fun y hy => ?_, fun j hj => ?_⟩
      · rcases h4 y hy with h | h
        · cases h with
          | head => exact .inr (by rw [hx]; exact List.mem_cons_self ..)
          | tail _ h => exact .inl h
        · exact .inr (List.mem_cons_of_mem _ h)
      · cases hj with
        | head => exact ⟨x, h3 x (List.mem_cons_self ..), hx⟩
        | tail _ hj => exact h5 j hj
    split at h
    · rename_i v hr
      obtain ⟨T, h1, h2⟩ := bind_some h
      refine go (i, none) T s.H rfl ⟨hd.sim, ?_, ?_, ?_, ?_⟩ h2
      · obtain ⟨tmS, h3, h4⟩ := hd.tm
        refine ⟨tmS, h3, fun d hx => ?_⟩
        rw [putT_gv h1 d, if_neg (hx _ (List.mem_cons_self ..) o ho)]
        exact h4 d fun y hy => hx y (List.mem_cons_of_mem _ hy)
      · intro y hy
        cases hy with
        | head => exact hS i (List.mem_cons_self ..)
        | tail _ hy => exact hd.pdS y hy
      · intro y hy b hb
        cases hy with
        | head => cases hb
        | tail _ hy => exact hd.blk y hy b hb
      · intro y hy z hz b hyb hzb
        cases hy with
        | head => cases hyb
        | tail _ hy =>
          cases hz with
          | head => cases hzb
          | tail _ hz => exact hd.blkd y hy z hz b hyb hzb
    · rename_i ob mk hr
      split at h
      case isFalse => cases h
      rename_i hoq
      obtain ⟨T, h1, h2⟩ := bind_some h
      refine go (i, some s.H.next) T (s.H.push ob) rfl ⟨hd.sim.extend ob (oeq_key hoq), ?_, ?_, ?_, ?_⟩ h2
      · obtain ⟨tmS, h3, h4⟩ := hd.tm
        refine ⟨tmS, h3, fun d hx => ?_⟩
        rw [putT_gv h1 d, if_neg (hx _ (List.mem_cons_self ..) o ho)]
        exact h4 d fun y hy => hx y (List.mem_cons_of_mem _ hy)
      · intro y hy
        cases hy with
        | head => exact hS i (List.mem_cons_self ..)
        | tail _ hy => exact hd.pdS y hy
      · intro y hy b hb
        cases hy with
        | head => cases hb; exact ⟨none_fresh hd.sim.hr, by rw [AH.next_push]; omega, hd.sim.next⟩
        | tail _ hy =>
          obtain ⟨q1, q2, q3⟩ := hd.blk y hy b hb
          exact ⟨q1, by rw [AH.next_push]; omega, q3⟩
      · intro y hy z hz b hyb hzb
        cases hy with
        | head =>
          cases hyb
          cases hz with
          | head => rfl
          | tail _ hz => have := (hd.blk z hz _ hzb).2.1; omega
        | tail _ hy =>
          cases hz with
          | head => cases hzb; have := (hd.blk y hy _ hyb).2.1; omega
          | tail _ hz => exact hd.blkd y hy z hz b hyb hzb
    · cases h

theorem uses_get {M : PT Nat} (h : usesOk ops M = true) {i j : Nat} {o o' : Oper} (ho : ops[i]? = some o) (ho' : ops[j]? = some o') {d : Tmp} (hd : o'.dst = some d) (hl : d ∈ o.looksAt ops) : hasBit M i j = true := by
  unfold usesOk at h
  rw [List.all_eq_true] at h
  have hi : i < ops.size := (Array.getElem?_eq_some_iff.1 ho).1
  have hj : j < ops.size := (Array.getElem?_eq_some_iff.1 ho').1
  have h1 := h i (by simpa using hi)
  rw [ho] at h1
  simp only [Bool.or_eq_true] at h1
  rcases h1 with h1 | h1
  · rw [List.isEmpty_iff] at h1; rw [h1] at hl; cases hl
  · rw [List.all_eq_true] at h1
    have h2 := h1 j (by simpa using hj)
    rw [ho'] at h2
    simp only [hd, Bool.or_eq_true, Bool.not_eq_true'] at h2
    rcases h2 with h2 | h2
    · have : (o.looksAt ops).contains d = true := List.contains_iff_mem.2 hl
      rw [h2] at this; cases this
    · exact h2

/-- an operation that is next looks at nothing that is pending -/
theorem looks_ok (hu : usesOk ops (masks 0 ops.toList .nil) = true) {S : Nat → Prop} (hc : Closed ops S) {T : PT V} {C : AH} {pd : List (Nat × Option Nat)} {σ : Sg} {a : Act} {w : World} (hd : DI P ops σ0 base H0 w0 nt S T C pd σ a w)
    {i : Nat} {o : Oper} (ho : ops[i]? = some o) (he : edgesIn S o) {tmS : PT V} (hS : ∀ d, (∀ x ∈ pd, ∀ o, ops[x.1]? = some o → o.dst ≠ some d) → gv tmS d = gv T d) : res1 P ops tmS C o = res1 P ops T C o := by
  refine res1_congr fun t ht => hS t fun x hx o' ho' hdst => ?_
  exact hd.pdS x hx (bits_in hc ho he (uses_get hu ho ho' hdst ht))

theorem dst_gv {T : PT V} {dst : Option Tmp} {v : V} (h : dstIs nt T dst v = true) {d : Nat} (hd : dst = some d) : d < nt ∧ gv T d = v := by
  subst hd
  simp only [dstIs, Bool.and_eq_true] at h
  exact ⟨by simpa using h.1, veq_eq _ _ h.2⟩
end
end Go.Am
