/-
  A part of the proof that an abstract machine, which runs a program without orders, room or tape, says what the model does. No condition beside what each theorem states.
-/
import Derived.Test.YtjgejncgeklanaaDoorAmDraw1
namespace Go.Am
open Go Go.RowKit

/-! ### what an operation looks at -/
theorem evalAll_congr {ng : Nat} {tm tm' : PT V} : ∀ (l : List Operand), (∀ x ∈ l, aeval ng tm x = aeval ng tm' x) → evalAll ng tm l = evalAll ng tm' l
  | [], _ => rfl
  | x :: r, h => by
    simp only [evalAll]
    rw [h x (by simp), evalAll_congr r fun y hy => h y (by simp [hy])]

theorem evalParts_congr {ng : Nat} {tm tm' : PT V} : ∀ (l : List (Nat × Operand)), (∀ x ∈ l, aeval ng tm x.2 = aeval ng tm' x.2) → evalParts ng tm l = evalParts ng tm' l
  | [], _ => rfl
  | (i, x) :: r, h => by
    simp only [evalParts]
    rw [h (i, x) (by simp), evalParts_congr r fun y hy => h y (by simp [hy])]

theorem oCall_congr {P : Program} {tm tm' : PT V} {H : AH} (c : Call) (h : ∀ x ∈ c.operands, aeval H.ng tm x = aeval H.ng tm' x) : oCall P tm H c = oCall P tm' H c := by
  have hargs : evalAll H.ng tm c.args.toList = evalAll H.ng tm' c.args.toList := evalAll_congr _ fun x hx => h x (by
    have : x ∈ c.args := Array.mem_toList_iff.1 hx
    simp [Call.operands, this])
  unfold oCall
  rw [hargs]
  cases hc : c.callee with
  | value f => have hf := h f (by simp [Call.operands, hc]); simp only [hf]
  | invoke r m => have hr := h r (by simp [Call.operands, hc]); simp only [hr]
  | builtin b => rfl

theorem oDefer_congr {ng : Nat} {tm tm' : PT V} (c : Call) (h : ∀ x ∈ c.operands, aeval ng tm x = aeval ng tm' x) : oDefer ng tm c = oDefer ng tm' c := by
  have hargs : evalAll ng tm c.args.toList = evalAll ng tm' c.args.toList := evalAll_congr _ fun x hx => h x (by
    have : x ∈ c.args := Array.mem_toList_iff.1 hx
    simp [Call.operands, this])
  unfold oDefer
  rw [hargs]
  cases hc : c.callee with
  | value f => have hf := h f (by simp [Call.operands, hc]); simp only [hf]
  | invoke r m => rfl
  | builtin b => rfl

theorem aexec_congr {P : Program} {tm tm' : PT V} {H : AH} (o : Oper) (h : ∀ x ∈ o.op.operands, aeval H.ng tm x = aeval H.ng tm' x) : aexec P tm H o = aexec P tm' H o := by
  obtain ⟨dst, op, type, pos, after, guard⟩ := o
  cases op <;> simp only [Op.operands] at h <;> simp only [aexec]
  case build t ps => rw [evalParts_congr ps.toList fun x hx => h x.2 (by simp; exact ⟨x.1, by simpa using hx⟩)]
  case buildSlice t n ps => rw [evalParts_congr ps.toList fun x hx => h x.2 (by simp; exact ⟨x.1, by simpa using hx⟩)]
  case makeFunc fn first captured =>
    rw [evalAll_congr first.toList fun x hx => h x (by simp [Array.mem_toList_iff.1 hx]), evalAll_congr captured.toList fun x hx => h x (by simp [Array.mem_toList_iff.1 hx])]
  case call c => exact oCall_congr c h
  case defer c => exact oDefer_congr c h
  case makeMap t r => cases r <;> simp_all
  case slice t x lo hi mx => cases lo <;> cases hi <;> cases mx <;> simp_all [evalOpt]
  all_goals (first | rfl | (simp_all; done))

/-! ### equal values -/
mutual
def veq : V → V → Bool
  | .bool a, .bool b => decide (a = b)
  | .int j a, .int k b => decide (j = k) && decide (a = b)
  | .str a, .str b => decide (a = b)
  | .ptr a, .ptr b => decide (a = b)
  | .slice a l c e, .slice a' l' c' e' => decide (a = a') && decide (l = l') && decide (c = c') && decide (e = e')
  | .map a, .map b => decide (a = b)
  | .func (.func f) a b, .func (.func g) c d => decide (f = g) && veqs a c && veqs b d
  | .nilFunc, .nilFunc => true
  | .iface t v, .iface u x => decide (t = u) && veq v x
  | .nilIface, .nilIface => true
  | .agg a, .agg b => veqs a b
  | .tuple a, .tuple b => veqs a b
  | _, _ => false
def veqs : List V → List V → Bool
  | [], [] => true
  | a :: l, b :: r => veq a b && veqs l r
  | _, _ => false
end

mutual
theorem veq_eq : ∀ (a b : V), veq a b = true → a = b
  | .bool _, b, h => by cases b <;> simp [veq] at h; rw [h]
  | .int _ _, b, h => by cases b <;> simp [veq] at h; rw [h.1, h.2]
  | .str _, b, h => by cases b <;> simp [veq] at h; rw [h]
  | .ptr _, b, h => by cases b <;> simp [veq] at h; rw [h]
  | .slice _ _ _ _, b, h => by cases b <;> simp [veq] at h; obtain ⟨⟨⟨h1, h2⟩, h3⟩, h4⟩ := h; subst h1; subst h2; subst h3; subst h4; rfl
  | .map _, b, h => by cases b <;> simp [veq] at h; rw [h]
  | .func f a b, y, h => by
    cases y with
    | func g c d =>
      cases f <;> cases g <;> simp [veq] at h
      obtain ⟨⟨h1, h2⟩, h3⟩ := h
      rw [h1, veqs_eq a c h2, veqs_eq b d h3]
    | _ => cases f <;> simp [veq] at h
  | .nilFunc, b, h => by cases b <;> simp [veq] at h; rfl
  | .iface t v, b, h => by
    cases b with
    | iface u x =>
      simp [veq] at h
      rw [h.1, veq_eq v x h.2]
    | _ => simp [veq] at h
  | .nilIface, b, h => by cases b <;> simp [veq] at h; rfl
  | .agg a, b, h => by
    cases b with
    | agg c => simp only [veq] at h; rw [veqs_eq a c h]
    | _ => simp [veq] at h
  | .tuple a, b, h => by
    cases b with
    | tuple c => simp only [veq] at h; rw [veqs_eq a c h]
    | _ => simp [veq] at h
theorem veqs_eq : ∀ (a b : List V), veqs a b = true → a = b
  | [], b, h => by cases b <;> simp [veqs] at h; rfl
  | a :: l, b, h => by
    cases b with
    | nil => simp [veqs] at h
    | cons c r =>
      simp only [veqs, Bool.and_eq_true] at h
      rw [veq_eq a c h.1, veqs_eq l r h.2]
end

def oeq : AObj → AObj → Bool
  | .cells c true none, .cells d true none => veqs c d
  | .map [] n, .map [] m => decide (n = m)
  | .strIter s p, .strIter t q => decide (s = t) && decide (p = q)
  | _, _ => false
theorem oeq_eq {a b : AObj} (h : oeq a b = true) : a = b := by
  unfold oeq at h
  split at h
  · rw [veqs_eq _ _ h]
  · rw [of_decide_eq_true h]
  · simp only [Bool.and_eq_true, decide_eq_true_eq] at h; rw [h.1, h.2]
  · cases h

theorem oeq_key {a b : AObj} (h : oeq a b = true) (n : Nat) : keyOf a n = some (n, false) := by
  unfold oeq at h
  split at h <;> first | rfl | cases h

/-! ### a region whose order is drawn -/
def res1 (P : Program) (ops : Array Oper) (tm : PT V) (H : AH) (o : Oper) : Option Nx :=
  if wantedA ops tm o.guard then aexec P tm H o else some (.pv vundef)

def putT (nt : Nat) (T : PT V) : Option Tmp → V → Option (PT V)
  | none, _ => some T
  | some d, v => if d < nt then some (T.set d v) else none

structure DS where
  T : PT V
  H : AH
  /-- carried out, and with whatever time left for it; the number of its block -/
  O : List (Nat × Option Nat)

def runNs (P : Program) (ops : Array Oper) (nt : Nat) : List Nat → DS → Option DS
  | [], s => some s
  | i :: is, s => match ops[i]? with
    | some o => match res1 P ops s.T s.H o with
      | some (.pv v) => (putT nt s.T o.dst v).bind fun T => runNs P ops nt is ⟨T, s.H, (i, none) :: s.O⟩
      | some (.new ob mk) => if oeq ob ob then (putT nt s.T o.dst (mk s.H.next)).bind fun T => runNs P ops nt is ⟨T, s.H.push ob, (i, some s.H.next) :: s.O⟩ else none
      | _ => none
    | none => none

def dstIs (nt : Nat) (T : PT V) : Option Tmp → V → Bool
  | none, _ => true
  | some d, v => Nat.blt d nt && veq ((T.get d).getD vundef) v

def chk1 (P : Program) (ops : Array Oper) (nt : Nat) (T : PT V) (H : AH) (x : Nat × Option Nat) : Bool :=
  match ops[x.1]? with
  | some o => match res1 P ops T H o, x.2 with
    | some (.pv v), none => dstIs nt T o.dst v
    | some (.new ob mk), some b => (match H.get b with | some ob' => oeq ob ob' | none => false) && dstIs nt T o.dst (mk b)
    | _, _ => false
  | none => false

def hasBit (M : PT Nat) (i j : Nat) : Bool := ((M.get i).getD 0).testBit j

/-- one operation with an effect -/
def effE (P : Program) (rec : Task → Option Res) (ops : Array Oper) (T : PT V) (H : AH) (o : Oper) : Option (V × AH) :=
  match res1 P ops T H o with
  | some (.pv v) => some (v, H)
  | some (.eff v H) => some (v, H)
  | some (.call f args) => match rec (.call f args .no H) with
    | some (.en (.ret v) .no H) => some (v, H)
    | _ => none
  | some (.round l args) => match rec (.round l args H) with
    | some (.en (.ret v) .no H) => some (v, H)
    | _ => none
  | _ => none

def evStages (P : Program) (rec : Task → Option Res) (ops : Array Oper) (nt : Nat) (M : PT Nat) : List (List Nat × Nat) → List Nat → DS → Option (PT V × AH)
  | [], last, s => (runNs P ops nt last s).bind fun s => if s.O.all (chk1 P ops nt s.T s.H) then some (s.T, s.H) else none
  | (ns, e) :: r, last, s => (runNs P ops nt ns s).bind fun s => if s.O.all (chk1 P ops nt s.T s.H) then
      (ops[e]?).bind fun o => (effE P rec ops s.T s.H o).bind fun (v, H) => (putT nt s.T o.dst v).bind fun T =>
        evStages P rec ops nt M r last ⟨T, H, s.O.filter fun x => !hasBit M e x.1⟩
    else none

def flatS : List (List Nat × Nat) → List Nat → List Nat
  | [], last => last
  | (ns, e) :: r, last => ns ++ e :: flatS r last

def laterOk (M : PT Nat) : List (List Nat × Nat) → List Nat → Bool
  | [], _ => true
  | (ns, e) :: r, last => ns.all (fun i => !(e :: flatS r last).contains i) && !(flatS r last).contains e && (flatS r last).all (fun i => hasBit M i e) && laterOk M r last

def usesOk (ops : Array Oper) (M : PT Nat) : Bool :=
  (List.range ops.size).all fun i => match ops[i]? with
    | some o => let l := o.looksAt ops
      l.isEmpty || (List.range ops.size).all fun j => match ops[j]? with
        | some o' => match o'.dst with
          | some d => !l.contains d || hasBit M i j
          | none => true
        | none => true
    | none => true

def planOk (ops : Array Oper) (M : PT Nat) (stages : List (List Nat × Nat)) (last : List Nat) : Bool :=
  topoFrom 0 ops.toList && usesOk ops M && laterOk M stages last && (List.range ops.size).all fun i => (flatS stages last).contains i

/-- the operations that end a stage: those with an effect. Any choice is good that 'planOk' takes. -/
def isEff (P : Program) : Op → Bool
  | .call c => (match c.callee with | .builtin .len | .builtin .cap | .builtin .min | .builtin .max => false | _ => true)
  | .store .. | .mapUpdate .. | .insert .. | .next .. | .defer .. | .panic .. | .mapEntry .. | .entryStore .. => true
  | .convert _ d _ => (match P.underlying d with | some (.slice _) => true | _ => false)
  | _ => false

def planOf (P : Program) (ops : Array Oper) : List (List Nat × Nat) × List Nat × PT Nat :=
  let M := masks 0 ops.toList .nil
  let es := (List.range ops.size).filter fun i => (ops[i]?).any fun o => isEff P o.op
  let st := (List.range ops.size).filterMap fun i => if (ops[i]?).any fun o => isEff P o.op then none else some (i, es.countP fun e => hasBit M i e)
  (es.zipIdx.map fun (e, k) => ((st.filter fun x => x.2 == k).map (·.1), e), (st.filter fun x => x.2 == es.length).map (·.1), M)

def evDr (P : Program) (rec : Task → Option Res) (ro : Option Nat) (ops : Array Oper) (st : St) : Option (Ex × St) :=
  match planOf P ops with
  | (stages, last, M) =>
    if planOk ops (masks 0 ops.toList .nil) stages last then
      (evStages P rec ops st.nt (masks 0 ops.toList .nil) stages last ⟨st.tmps, st.H, []⟩).map fun (T, H) => (.normal, ⟨T, st.nt, H, st.defers, st.rc⟩)
    else none
end Go.Am
