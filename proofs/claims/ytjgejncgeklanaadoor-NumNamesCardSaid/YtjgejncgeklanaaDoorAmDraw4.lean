/-
  A part of the proof that an abstract machine, which runs a program without orders, room or tape, says what the model does. No condition beside what each theorem states.
-/
import Derived.Test.YtjgejncgeklanaaDoorAmDraw3
namespace Go.Am
open Go Go.RowKit

section
variable {P : Program} {rec : Task → Option Res} {ops : Array Oper} {σ0 : Sg} {base : Nat} {H0 : AH} {w0 : World} {nt : Nat}
  {b : Frame} {cs : List Frame} {k : List Item}

theorem topo_closed {S : Nat → Prop} (hc : Closed ops S) {i : Nat} {o : Oper} (ho : ops[i]? = some o) (he : edgesIn S o) : Closed ops (fun j => j = i ∨ S j) := by
  intro j o' ho' hj e hm hb
  rcases hj with rfl | hj
  · rw [ho] at ho'; cases ho'
    exact .inr (he e hm hb)
  · exact .inr (hc j o' ho' hj e hm hb)

theorem semAt_of {T : PT V} {H : AH} {o : Oper} {nx : Nx} (h : aexec P T H o = some nx) (hn : ∀ d, nx ≠ .defer d) (ro : Option Nat) (ρ : Operand → Value) : o.semAt ro ρ = execOp ρ o := by
  refine Oper.semAt_eq _ _ _ fun c hc => ?_
  have h2 : oDefer H.ng T c = some nx := by
    rw [← h]; unfold aexec; rw [hc]
  obtain ⟨d, hd⟩ := oDefer_defer h2
  exact hn d hd

/-- the real run, as far as it goes without an effect -/
theorem consume (hu : usesOk ops (masks 0 ops.toList .nil) = true) {T : PT V} {C : AH} {O : List (Nat × Option Nat)} (hchk : ∀ x ∈ O, chk1 P ops nt T C x = true) {fut : List Nat} :
    ∀ (is : List Nat) (S : Nat → Prop) (σ : Sg) (a : Act) (w : World) (pd : List (Nat × Option Nat)), DI P ops σ0 base H0 w0 nt S T C pd σ a w → (∀ x ∈ pd, x ∈ O) → (∀ x ∈ pd, x.1 ∉ fut) → (∀ i ∈ fut, ¬ S i) →
      (∀ i, i < ops.size → S i ∨ (∃ x ∈ pd, x.1 = i) ∨ i ∈ fut) → Topo ops S is → Closed ops S →
      ∃ is' S' σ' a' w' pd', DI P ops σ0 base H0 w0 nt S' T C pd' σ' a' w' ∧ (∀ x ∈ pd', x ∈ O) ∧ (∀ x ∈ pd', x.1 ∉ fut) ∧ (∀ i ∈ fut, ¬ S' i) ∧
        (∀ i, i < ops.size → S' i ∨ (∃ x ∈ pd', x.1 = i) ∨ i ∈ fut) ∧ Topo ops S' is' ∧ Closed ops S' ∧ Le σ σ' ∧ a'.defers = a.defers ∧
        Steps P (lone (b.atR a (.inRegion ops is :: k)) cs w) (lone (b.atR a' (.inRegion ops is' :: k)) cs w') ∧ (is' = [] ∨ ∃ i r, is' = i :: r ∧ i ∈ fut) := by
  intro is
  induction is with
  | nil =>
    intro S σ a w pd hd hO hF hfS hcov ht hc
    exact ⟨[], S, σ, a, w, pd, hd, hO, hF, hfS, hcov, ht, hc, Le.refl _, rfl, .refl _ _, .inl rfl⟩
  | cons i is ih =>
    intro S σ a w pd hd hO hF hfS hcov ht hc
    by_cases hif : i ∈ fut
    · exact ⟨i :: is, S, σ, a, w, pd, hd, hO, hF, hfS, hcov, ht, hc, Le.refl _, rfl, .refl _ _, .inr ⟨i, is, rfl, hif⟩⟩
    obtain ⟨hSi, ⟨o, ho, he⟩, ht'⟩ := ht
    have hi : i < ops.size := (Array.getElem?_eq_some_iff.1 ho).1
    obtain ⟨x, hx, rfl⟩ : ∃ x ∈ pd, x.1 = i := by
      rcases hcov i hi with h | h | h
      · exact absurd h hSi
      · exact h
      · exact absurd h hif
    obtain ⟨tmS, htm, hgv⟩ := hd.tm
    have hres := looks_ok hu hc hd ho he hgv
    have hst : StR σ base tmS nt C a w := ⟨hd.sim.hr, htm⟩
    have hck := hchk x (hO x hx)
    unfold chk1 at hck
    rw [ho] at hck
    simp only at hck
    -- on with the rest
    have on : ∀ (σ1 : Sg) (a1 : Act) (w1 : World) (v : V) (v' : Value), Sim σ0 base H0 w0 σ1 C w1 → Le σ σ1 → a1 = a.put o.dst v' → VR σ1 v v' → (∀ d, o.dst = some d → d < nt ∧ gv T d = v) →
        (∀ y ∈ pd, y.1 ≠ x.1 → ∀ b, y.2 = some b → σ1 b = none) →
        Steps P (lone (b.atR a (.inRegion ops (x.1 :: is) :: k)) cs w) (lone (b.atR a1 (.inRegion ops is :: k)) cs w1) →
        ∃ is' S' σ' a' w' pd', DI P ops σ0 base H0 w0 nt S' T C pd' σ' a' w' ∧ (∀ x ∈ pd', x ∈ O) ∧ (∀ x ∈ pd', x.1 ∉ fut) ∧ (∀ i ∈ fut, ¬ S' i) ∧
          (∀ i, i < ops.size → S' i ∨ (∃ x ∈ pd', x.1 = i) ∨ i ∈ fut) ∧ Topo ops S' is' ∧ Closed ops S' ∧ Le σ σ' ∧ a'.defers = a.defers ∧
          Steps P (lone (b.atR a (.inRegion ops (x.1 :: is) :: k)) cs w) (lone (b.atR a' (.inRegion ops is' :: k)) cs w') ∧ (is' = [] ∨ ∃ i r, is' = i :: r ∧ i ∈ fut) := by
      intro σ1 a1 w1 v v' hsim hle ha1 hv hT hblk hsteps
      subst ha1
      have hd1 : DI P ops σ0 base H0 w0 nt (fun j => j = x.1 ∨ S j) T C (pd.filter fun y => y.1 != x.1) σ1 (a.put o.dst v') w1 := by
        refine ⟨hsim, ?_, ?_, ?_, ?_⟩
        · cases hdst : o.dst with
          | none =>
            refine ⟨tmS, by rw [show (a.put none v').tmps = a.tmps from rfl]; exact htm.mono hle, fun d hnd => hgv d fun y hy o' ho' hd' => ?_⟩
            by_cases hyx : y.1 = x.1
            · rw [hyx, ho] at ho'; cases ho'; rw [hdst] at hd'; cases hd'
            · exact hnd y (List.mem_filter.2 ⟨hy, by simpa using hyx⟩) o' ho' hd'
          | some d0 =>
            obtain ⟨hlt, hTv⟩ := hT d0 hdst
            refine ⟨tmS.set d0 v, (htm.mono hle).set hlt hv, fun d hnd => ?_⟩
            · by_cases hdd : d = d0
              · subst hdd
                rw [hTv, gv_set, if_pos rfl]
              · rw [gv_set, if_neg (fun e => hdd e.symm)]
                refine hgv d fun y hy o' ho' hd' => ?_
                by_cases hyx : y.1 = x.1
                · rw [hyx, ho] at ho'; cases ho'; rw [hdst] at hd'; cases hd'; exact hdd rfl
                · exact hnd y (List.mem_filter.2 ⟨hy, by simpa using hyx⟩) o' ho' hd'
        · intro y hy
          obtain ⟨h1, h2⟩ := List.mem_filter.1 hy
          rintro (h3 | h3)
          · rw [h3] at h2; simp at h2
          · exact hd.pdS y h1 h3
        · intro y hy b' hb'
          obtain ⟨h1, h2⟩ := List.mem_filter.1 hy
          obtain ⟨q1, q2, q3⟩ := hd.blk y h1 b' hb'
          exact ⟨hblk y h1 (by simpa using h2) b' hb', q2, q3⟩
        · intro y hy z hz
          exact hd.blkd y (List.mem_filter.1 hy).1 z (List.mem_filter.1 hz).1
      obtain ⟨is', S', σ', a', w', pd', q1, q2, q3, q4, q5, q6, q7, q8, q9, q10, q11⟩ := ih _ σ1 _ w1 _ hd1 (fun y hy => hO y (List.mem_filter.1 hy).1) (fun y hy => hF y (List.mem_filter.1 hy).1)
        (fun j hj => by rintro (h | h); exact hif (h ▸ hj); exact hfS j hj h)
        (fun j hj => by
          rcases hcov j hj with h | ⟨y, hy, rfl⟩ | h
          · exact .inl (.inr h)
          · by_cases hyx : y.1 = x.1
            · exact .inl (.inl hyx)
            · exact .inr (.inl ⟨y, List.mem_filter.2 ⟨hy, by simpa using hyx⟩, rfl⟩)
          · exact .inr (.inr h)) ht' (topo_closed hc ho he)
      refine ⟨is', S', σ', a', w', pd', q1, q2, q3, q4, q5, q6, q7, hle.trans q8, by rw [q9]; cases o.dst <;> rfl, hsteps.trans q10, q11⟩
    generalize hr : res1 P ops T C o = r at hck
    rw [hr] at hres
    unfold res1 at hres
    split at hck
    · rename_i v hx2
      have hTd : ∀ d, o.dst = some d → d < nt ∧ gv T d = v := fun d hdd => dst_gv hck hdd
      split at hres
      · rename_i hwn
        obtain ⟨v', h1, h2⟩ := aexec_ok hst hres
        rw [← semAt_of hres (by simp) b.roundOf] at h1
        exact on σ _ w v v' hd.sim (Le.refl _) rfl h2 hTd (fun y hy _ b' hb' => (hd.blk y hy b' hb').1) (.one (step_value ho (wanted_ok hst hwn) (.inl rfl) h1))
      · rename_i hwn
        cases hres
        have hw := unwanted_ok hst (by simpa using hwn : wantedA ops tmS o.guard = false)
        have hs := stepR_op_skip (P := P) (b := b) (a := a) (k := k) (cs := cs) (w := w) (ops := ops) (i := x.1) (rest := is) (by rw [ho]; simpa using hw)
        rw [ho] at hs
        exact on σ _ w vundef undef hd.sim (Le.refl _) rfl VR.undef hTd (fun y hy _ b' hb' => (hd.blk y hy b' hb').1) (.one hs)
    · rename_i ob mk b0 hx2
      simp only [Bool.and_eq_true] at hck
      obtain ⟨hck1, hck2⟩ := hck
      split at hck1
      case h_2 => cases hck1
      rename_i ob' hget
      have hob := oeq_eq hck1
      subst hob
      split at hres
      · rename_i hwn
        obtain ⟨o', n, v', h1, h2, h3, h4⟩ := aexec_ok hst hres
        rw [← semAt_of hres (by simp) b.roundOf] at h1
        obtain ⟨q1, q2, q3⟩ := hd.blk x hx b0 hx2
        have hfill := hd.sim.fill q1 q2 q3 hget h2 h3
        refine on (σ.ins b0 ⟨w.heap.size, 0, n⟩) _ (w.alloc o') (mk b0) v' hfill ?_ rfl (h4 b0) (fun d hdd => dst_gv hck2 hdd) ?_ (.one (step_value ho (wanted_ok hst hwn) (.inl rfl) h1))
        · intro b' L e
          show (if b' = b0 then _ else σ b') = _
          rw [if_neg]
          · exact e
          · intro e2; subst e2; rw [q1] at e; cases e
        · intro y hy hyx b' hb'
          show (if b' = b0 then _ else σ b') = _
          rw [if_neg]
          · exact (hd.blk y hy b' hb').1
          · intro e2; subst e2; exact hyx (hd.blkd y hy x hx b' hb' hx2)
      · cases hres
    · cases hck
end
end Go.Am
