/-
  A part of the proof that an abstract machine, which runs a program without orders, room or tape, says what the model does. No condition beside what each theorem states.
-/
import Derived.Test.YtjgejncgeklanaaDoorAmSound3
namespace Go.Am
open Go Go.RowKit

section
variable {σ : Sg} {base : Nat} {H : AH} {w : World} {P : Program}

/-- the operation as execOp has it -/
abbrev valN (s : Sem Value) : Sem Next := do pure (.value (← s))

theorem NxR.pv_of {s : Sem Value} {v : V} {v' : Value} (h : s.run P w = .ok v' w) (hv : VR σ v v') : NxR σ base H w ((valN s).run P w) (.pv v) :=
  ⟨v', by simp [valN, h], hv⟩

theorem VR.int' (σ : Sg) (k : IntKind) (n : Int) : VR σ (.int k n) (.int k n) := by simp [VR]
theorem VR.bool' (σ : Sg) (b : Bool) : VR σ (.bool b) (.bool b) := by simp [VR]

theorem divzero_ok (s : Sem Value) (h : s.run P w = .halt (.panic (.iface P.rt.errorString (strVal "integer divide by zero"))) w) : NxR σ base H w ((valN s).run P w) (.panic (rtErr P "integer divide by zero")) :=
  ⟨_, by simp [valN, h], rtErr_run σ _⟩

theorem int_run (op : BinOp) (hop : op ≠ .shl ∧ op ≠ .shr) (k : IntKind) (a b : Int) (t : TypeId) (X Y : Operand) (w : World) :
    (do eqGuard op t X Y (.int k a) (.int k b); binOp op t (.int k a) (.int k b) : Sem Value).run P w =
    (match op with
    | .add | .sub | .mul => Op.intArith op k a b
    | .quo | .rem => Op.intDiv op k a b
    | .and | .or | .xor | .andNot => Op.intBits op k a b
    | _ => Op.intCmp op a b : Sem Value).run P w := by
  obtain ⟨h1, h2⟩ := hop
  cases op <;> first
    | exact absurd rfl h1
    | exact absurd rfl h2
    | simp [eqGuard, binOp]

theorem intBin_ok {op : BinOp} {k : IntKind} {a b : Int} {nx : Nx} (e : intBin P op k a b = some nx) (hop : op ≠ .shl ∧ op ≠ .shr) (t : TypeId) (X Y : Operand) :
    NxR σ base H w ((valN (do eqGuard op t X Y (.int k a) (.int k b); binOp op t (.int k a) (.int k b))).run P w) nx := by
  have hr := int_run (P := P) op hop k a b t X Y w
  obtain ⟨h1, h2⟩ := hop
  cases op
  case shl => exact absurd rfl h1
  case shr => exact absurd rfl h2
  case quo =>
    simp only [intBin] at e
    split at e
    · rename_i h0; cases e; subst h0
      exact divzero_ok _ (hr.trans (by simp [Op.intDiv, runtimePanic]))
    · rename_i h0; cases e
      exact NxR.pv_of (hr.trans (by simp only [Op.intDiv]; rw [if_neg h0]; rfl)) (VR.int' _ _ _)
  case rem =>
    simp only [intBin] at e
    split at e
    · rename_i h0; cases e; subst h0
      exact divzero_ok _ (hr.trans (by simp [Op.intDiv, runtimePanic]))
    · rename_i h0; cases e
      exact NxR.pv_of (hr.trans (by simp only [Op.intDiv]; rw [if_neg h0]; rfl)) (VR.int' _ _ _)
  case add => simp only [intBin] at e; cases e; exact NxR.pv_of (hr.trans rfl) (VR.int' _ _ _)
  case sub => simp only [intBin] at e; cases e; exact NxR.pv_of (hr.trans rfl) (VR.int' _ _ _)
  case mul => simp only [intBin] at e; cases e; exact NxR.pv_of (hr.trans rfl) (VR.int' _ _ _)
  case and => simp only [intBin] at e; cases e; exact NxR.pv_of (hr.trans rfl) (VR.int' _ _ _)
  case or => simp only [intBin] at e; cases e; exact NxR.pv_of (hr.trans rfl) (VR.int' _ _ _)
  case xor => simp only [intBin] at e; cases e; exact NxR.pv_of (hr.trans rfl) (VR.int' _ _ _)
  case andNot => simp only [intBin] at e; cases e; exact NxR.pv_of (hr.trans rfl) (VR.int' _ _ _)
  case eql => simp only [intBin] at e; cases e; exact NxR.pv_of (hr.trans rfl) (VR.bool' _ _)
  case neq => simp only [intBin] at e; cases e; exact NxR.pv_of (hr.trans rfl) (VR.bool' _ _)
  case lss => simp only [intBin] at e; cases e; exact NxR.pv_of (hr.trans rfl) (VR.bool' _ _)
  case leq => simp only [intBin] at e; cases e; exact NxR.pv_of (hr.trans rfl) (VR.bool' _ _)
  case gtr => simp only [intBin] at e; cases e; exact NxR.pv_of (hr.trans rfl) (VR.bool' _ _)
  case geq => simp only [intBin] at e; cases e; exact NxR.pv_of (hr.trans rfl) (VR.bool' _ _)

theorem str_run (op : BinOp) (x y : ByteArray) (t : TypeId) (X Y : Operand) (w : World) :
    (do eqGuard op t X Y (.string x) (.string y); binOp op t (.string x) (.string y) : Sem Value).run P w = (Op.stringOp op x y).run P w := by
  cases op <;> simp [eqGuard, binOp]

theorem strBin_ok {op : BinOp} {a b : List Nat} {nx : Nx} (e : strBin op a b = some nx) {x y : ByteArray} (hx : x.data.toList.map UInt8.toNat = a) (hy : y.data.toList.map UInt8.toNat = b) (t : TypeId) (X Y : Operand) :
    NxR σ base H w ((valN (do eqGuard op t X Y (.string x) (.string y); binOp op t (.string x) (.string y))).run P w) nx := by
  have hr := str_run (P := P) op x y t X Y w
  have he : (a == b) = (x.toList == y.toList) := by rw [← hx, ← hy, mapNat_inj, ByteArray.toList_eq, ByteArray.toList_eq]
  have hl : ltL a b = Op.bytesLess x.toList y.toList := by rw [← hx, ← hy, ltL_ok, ByteArray.toList_eq, ByteArray.toList_eq]
  have hla : a.length = x.size := by rw [← hx]; simp
  have hlb : b.length = y.size := by rw [← hy]; simp
  cases op
  case add =>
    simp only [strBin] at e
    split at e
    case isFalse => cases e
    rename_i hle
    cases e
    refine NxR.pv_of (v' := .string (x ++ y)) (hr.trans ?_) ?_
    · have : ¬ (((x.size + y.size : Nat) : Int) > IntKind.i64.max) := by
        have : IntKind.i64.max = 9223372036854775807 := by decide
        rw [this]; omega
      simp only [Op.stringOp]
      rw [if_neg this]
      rfl
    · simp only [VR]
      refine ⟨_, rfl, ?_⟩
      rw [← hx, ← hy]
      simp [ByteArray.data_append]
  case eql => simp only [strBin] at e; cases e; rw [he]; exact NxR.pv_of (hr.trans rfl) (VR.bool' _ _)
  case neq => simp only [strBin] at e; cases e; rw [he]; exact NxR.pv_of (hr.trans rfl) (VR.bool' _ _)
  case lss => simp only [strBin] at e; cases e; rw [hl]; exact NxR.pv_of (hr.trans rfl) (VR.bool' _ _)
  case leq => simp only [strBin] at e; cases e; rw [hl, he]; exact NxR.pv_of (hr.trans rfl) (VR.bool' _ _)
  case gtr => simp only [strBin] at e; cases e; rw [hl, he]; exact NxR.pv_of (hr.trans rfl) (VR.bool' _ _)
  case geq => simp only [strBin] at e; cases e; rw [hl]; exact NxR.pv_of (hr.trans rfl) (VR.bool' _ _)
  all_goals (simp [strBin] at e)

/-- what eqGuard lets by -/
theorem aequal_run {cst : Bool} {t : TypeId} {x y : V} {b : Bool} (e : aequal P cst t x y = some b) {x' y' : Value} (hx : VR σ x x') (hy : VR σ y y') (op : BinOp) {X Y : Operand} (hc : cst = (isConst X || isConst Y)) :
    (eqGuard op t X Y x' y').run P w = .ok () w ∧ (Op.equal t x' y').run P w = .ok b w := by
  unfold aequal at e
  split at e
  · split at e
    · rename_i hcst
      refine ⟨?_, aeqIn_ok _ _ _ _ _ _ _ e hx hy w⟩
      simp only [VR] at hx hy; subst hx hy
      rw [hc] at hcst
      cases op <;> (try (simp [eqGuard]; done)) <;>
        (cases X <;> cases Y <;> simp [isConst] at hcst <;> simp [eqGuard])
    · cases e
  · split at e
    · cases e
    · rename_i hg
      refine ⟨?_, aeqIn_ok _ _ _ _ _ _ _ e hx hy w⟩
      simp only [VR] at hx hy
      obtain ⟨_, rfl, _⟩ := hx
      obtain ⟨_, rfl, _⟩ := hy
      exact run_eqGuard_agg w op t X Y _ _ (by simpa using hg)
  · cases e
  · cases e
  · rename_i h1 h2 h3 h4
    refine ⟨?_, aeqIn_ok _ _ _ _ _ _ _ e hx hy w⟩
    have hne : ¬ (x' = .nilIface ∧ y' = .nilIface) := by
      rintro ⟨rfl, rfl⟩
      have hxn : x = .nilIface := by
        cases x with
        | ptr p => cases p <;> simp [VR] at hx
        | slice p => cases p <;> simp [VR] at hx
        | map p => cases p <;> simp [VR] at hx
        | nilIface => rfl
        | _ => simp [VR] at hx
      have hyn : y = .nilIface := by
        cases y with
        | ptr p => cases p <;> simp [VR] at hy
        | slice p => cases p <;> simp [VR] at hy
        | map p => cases p <;> simp [VR] at hy
        | nilIface => rfl
        | _ => simp [VR] at hy
      exact h3 hxn hyn
    have hna : ∀ c d, ¬ (x' = .agg c ∧ y' = .agg d) := by
      rintro c d ⟨rfl, rfl⟩
      have hxn : ∃ cs, x = .agg cs := by
        cases x with
        | ptr p => cases p <;> simp [VR] at hx
        | slice p => cases p <;> simp [VR] at hx
        | map p => cases p <;> simp [VR] at hx
        | agg cs => exact ⟨cs, rfl⟩
        | _ => simp [VR] at hx
      have hyn : ∃ cs, y = .agg cs := by
        cases y with
        | ptr p => cases p <;> simp [VR] at hy
        | slice p => cases p <;> simp [VR] at hy
        | map p => cases p <;> simp [VR] at hy
        | agg cs => exact ⟨cs, rfl⟩
        | _ => simp [VR] at hy
      obtain ⟨_, rfl⟩ := hxn
      obtain ⟨_, rfl⟩ := hyn
      exact h4 _ _ rfl rfl
    cases op <;> (try (simp [eqGuard]; done)) <;>
      (simp only [eqGuard]
       cases x' <;> cases y' <;> first | (simp; done) | exact absurd ⟨rfl, rfl⟩ hne | exact absurd ⟨rfl, rfl⟩ (hna _ _))

theorem shift_ok {left : Bool} {k yk : IntKind} {a b : Int} (t : TypeId) (X Y : Operand) :
    NxR σ base H w ((valN (do eqGuard (if left then .shl else .shr) t X Y (.int k a) (.int yk b); binOp (if left then .shl else .shr) t (.int k a) (.int yk b))).run P w) (shiftBin P left k a b) := by
  unfold shiftBin
  by_cases hb : b < 0
  · rw [if_pos hb]
    refine ⟨_, ?_, rtErr_run σ _⟩
    cases left <;> simp [valN, eqGuard, binOp, Op.shift, hb, runtimePanic]
  · rw [if_neg hb]
    refine NxR.pv_of (v' := .int k (if left then k.wrap (a * 2 ^ (min b.toNat k.bits)) else a.fdiv (2 ^ (min b.toNat k.bits)))) ?_ (VR.int' _ _ _)
    cases left <;> simp [eqGuard, binOp, Op.shift, hb]

/-- which shape a value has -/
def V.kind : V → Nat
  | .bool _ => 0 | .int _ _ => 1 | .str _ => 2 | .ptr _ => 3 | .slice _ _ _ _ => 4 | .map _ => 5 | .func _ _ _ => 6 | .nilFunc => 7 | .iface _ _ => 8 | .nilIface => 9 | .agg _ => 10 | .tuple _ => 11
def kindOf : Value → Nat
  | .bool _ => 0 | .int _ _ => 1 | .string _ => 2 | .pointer _ => 3 | .slice _ _ _ => 4 | .map _ => 5 | .func _ _ _ => 6 | .nilFunc => 7 | .iface _ _ => 8 | .nilIface => 9 | .agg _ => 10 | .tuple _ => 11
  | .float _ _ => 12 | .complex _ _ _ => 13 | .chan _ => 14
theorem VR.kind {σ : Sg} {v : V} {v' : Value} (h : VR σ v v') : kindOf v' = v.kind := by
  cases v with
  | ptr p => cases p <;> simp only [VR] at h <;> first | (subst h; rfl) | (obtain ⟨_, _, rfl⟩ := h; rfl)
  | slice p => cases p <;> simp only [VR] at h <;> first | (obtain ⟨rfl, _⟩ := h; rfl) | (obtain ⟨_, _, _, rfl, _⟩ := h; rfl)
  | map p => cases p <;> simp only [VR] at h <;> first | (subst h; rfl) | (obtain ⟨_, _, rfl⟩ := h; rfl)
  | str s => simp only [VR] at h; obtain ⟨_, rfl, _⟩ := h; rfl
  | func fn a b => simp only [VR] at h; obtain ⟨_, _, _, rfl, _⟩ := h; rfl
  | iface t x => simp only [VR] at h; obtain ⟨_, rfl, _⟩ := h; rfl
  | agg cs => simp only [VR] at h; obtain ⟨_, rfl, _⟩ := h; rfl
  | tuple cs => simp only [VR] at h; obtain ⟨_, rfl, _⟩ := h; rfl
  | _ => simp only [VR] at h; subst h; rfl

theorem binOp_eql (t : TypeId) (x y : Value) (h1 : ¬ (kindOf x = 1 ∧ kindOf y = 1)) (h2 : ¬ (kindOf x = 2 ∧ kindOf y = 2)) (h3 : kindOf x < 12) :
    binOp .eql t x y = (do pure (.bool (← Op.equal t x y))) := by
  cases x <;> first | (simp [kindOf] at h3; done) | (cases y <;> first | rfl | (exact absurd ⟨rfl, rfl⟩ h1) | (exact absurd ⟨rfl, rfl⟩ h2))
theorem binOp_neq (t : TypeId) (x y : Value) (h1 : ¬ (kindOf x = 1 ∧ kindOf y = 1)) (h2 : ¬ (kindOf x = 2 ∧ kindOf y = 2)) (h3 : kindOf x < 12) :
    binOp .neq t x y = (do pure (.bool (!(← Op.equal t x y)))) := by
  cases x <;> first | (simp [kindOf] at h3; done) | (cases y <;> first | rfl | (exact absurd ⟨rfl, rfl⟩ h1) | (exact absurd ⟨rfl, rfl⟩ h2))
theorem V.kind_lt (v : V) : v.kind < 12 := by cases v <;> simp [V.kind]
theorem V.kind_int {v : V} (h : v.kind = 1) : ∃ k n, v = .int k n := by cases v <;> simp [V.kind] at h; exact ⟨_, _, rfl⟩
theorem V.kind_str {v : V} (h : v.kind = 2) : ∃ s, v = .str s := by cases v <;> simp [V.kind] at h; exact ⟨_, rfl⟩

theorem ok_bin {op : BinOp} {cst : Bool} {t : TypeId} {x y : V} {nx : Nx} (e : oBin P op cst t x y = some nx) {x' y' : Value} (hx : VR σ x x') (hy : VR σ y y') {X Y : Operand} (hc : cst = (isConst X || isConst Y)) :
    NxR σ base H w ((valN (do eqGuard op t X Y x' y'; binOp op t x' y')).run P w) nx := by
  unfold oBin at e
  split at e
  · simp only [VR] at hx hy; subst hx hy; cases e; exact shift_ok (left := true) t X Y
  · simp only [VR] at hx hy; subst hx hy; cases e; exact shift_ok (left := false) t X Y
  · rename_i h1 h2
    simp only [VR] at hx hy; subst hx hy
    split at e
    · rename_i hk; subst hk
      exact intBin_ok e ⟨h1, h2⟩ t X Y
    · cases e
  · simp only [VR] at hx hy
    obtain ⟨s, rfl, hs⟩ := hx
    obtain ⟨s', rfl, hs'⟩ := hy
    exact strBin_ok e hs hs' t X Y
  · rename_i h1 h2
    cases ha : aequal P cst t x y with
    | none => simp [ha] at e
    | some b =>
      simp [ha] at e; subst e
      obtain ⟨h3, h4⟩ := aequal_run (P := P) (w := w) ha hx hy .eql hc
      refine NxR.pv_of (v' := .bool b) ?_ (VR.bool' _ _)
      rw [Sem.run_bind, h3, Result.andThen_ok, binOp_eql]
      · simp [h4]
      · rw [hx.kind, hy.kind]
        rintro ⟨h5, h6⟩
        obtain ⟨_, _, rfl⟩ := V.kind_int h5
        obtain ⟨_, _, rfl⟩ := V.kind_int h6
        exact h1 _ _ _ _ rfl rfl
      · rw [hx.kind, hy.kind]
        rintro ⟨h5, h6⟩
        obtain ⟨_, rfl⟩ := V.kind_str h5
        obtain ⟨_, rfl⟩ := V.kind_str h6
        exact h2 _ _ rfl rfl
      · rw [hx.kind]; exact V.kind_lt x
  · rename_i h1 h2
    cases ha : aequal P cst t x y with
    | none => simp [ha] at e
    | some b =>
      simp [ha] at e; subst e
      obtain ⟨h3, h4⟩ := aequal_run (P := P) (w := w) ha hx hy .neq hc
      refine NxR.pv_of (v' := .bool (!b)) ?_ (VR.bool' _ _)
      rw [Sem.run_bind, h3, Result.andThen_ok, binOp_neq]
      · simp [h4]
      · rw [hx.kind, hy.kind]
        rintro ⟨h5, h6⟩
        obtain ⟨_, _, rfl⟩ := V.kind_int h5
        obtain ⟨_, _, rfl⟩ := V.kind_int h6
        exact h1 _ _ _ _ rfl rfl
      · rw [hx.kind, hy.kind]
        rintro ⟨h5, h6⟩
        obtain ⟨_, rfl⟩ := V.kind_str h5
        obtain ⟨_, rfl⟩ := V.kind_str h6
        exact h2 _ _ rfl rfl
      · rw [hx.kind]; exact V.kind_lt x
  · cases e

theorem ok_un {op : UnOp} {x : V} {nx : Nx} (e : oUn op x = some nx) {x' : Value} (hx : VR σ x x') : NxR σ base H w ((valN (Op.unary op x')).run P w) nx := by
  unfold oUn at e
  split at e
  · simp only [VR] at hx; subst hx; cases e; exact NxR.pv_of rfl (VR.int' _ _ _)
  · simp only [VR] at hx; subst hx; cases e; exact NxR.pv_of rfl (VR.int' _ _ _)
  · simp only [VR] at hx; subst hx; cases e; exact NxR.pv_of rfl (VR.bool' _ _)
  · cases e
end
end Go.Am
