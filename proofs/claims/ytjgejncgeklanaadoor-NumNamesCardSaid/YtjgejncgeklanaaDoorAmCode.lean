/-
  A part of the proof that an abstract machine, which runs a program without orders, room or tape, says what the model does. No condition beside what each theorem states.
-/
import Derived.Test.YtjgejncgeklanaaDoorAmOps
namespace Go.Am
open Go

inductive Ex where
  | normal
  | exit (id : Nat)
  | ret
  | panic (v : V)

inductive AEnd where
  | ret (v : V)
  | pan (v : V)

inductive Task where
  | loop (ro : Option Nat) (c : Code) (st : St)
  | call (f : FuncId) (args : List V) (rc : RecSt) (H : AH)
  | round (l : Nat) (args : List V) (H : AH)
inductive Res where
  | ex (e : Ex) (st : St)
  | en (e : AEnd) (rc : RecSt) (H : AH)

def St.put (st : St) (dst : Option Tmp) (v : V) (H : AH) : Option St :=
  match dst with
  | none => some ⟨st.tmps, st.nt, H, st.defers, st.rc⟩
  | some d => if d < st.nt then some ⟨st.tmps.set d v, st.nt, H, st.defers, st.rc⟩ else none

def wantedA (ops : Array Oper) (tm : PT V) : Option (Nat × Bool) → Bool
  | none => true
  | some (j, want) => match (ops[j]?).bind (·.dst) with
    | some d => match (tm.get d).getD vundef with
      | .bool b => b == want
      | _ => false
    | none => false

def evO (P : Program) (rec : Task → Option Res) (ro : Option Nat) (ops : Array Oper) : List Oper → St → Option (Ex × St)
  | [], st => some (.normal, st)
  | o :: rest, st =>
    if wantedA ops st.tmps o.guard then
      match aexec P st.tmps st.H o with
      | some (.pv v) => (st.put o.dst v st.H).bind fun st => evO P rec ro ops rest st
      | some (.new ob mk) => (st.put o.dst (mk st.H.next) (st.H.push ob)).bind fun st => evO P rec ro ops rest st
      | some (.eff v H) => (st.put o.dst v H).bind fun st => evO P rec ro ops rest st
      | some (.call f args) => match rec (.call f args .no st.H) with
        | some (.en (.ret v) .no H) => (st.put o.dst v H).bind fun st => evO P rec ro ops rest st
        | some (.en (.pan v) .no H) => some (.panic v, ⟨st.tmps, st.nt, H, st.defers, st.rc⟩)
        | _ => none
      | some (.round l args) => match rec (.round l args st.H) with
        | some (.en (.ret v) .no H) => (st.put o.dst v H).bind fun st => evO P rec ro ops rest st
        | some (.en (.pan v) .no H) => some (.panic v, ⟨st.tmps, st.nt, H, st.defers, st.rc⟩)
        | _ => none
      | some (.defer d) => if ro.isNone then ((⟨st.tmps, st.nt, st.H, d :: st.defers, st.rc⟩ : St).put o.dst vundef st.H).bind fun st => evO P rec ro ops rest st else none
      | some .recover => if ro.isNone then
          (match st.rc with
          | .can v => ((⟨st.tmps, st.nt, st.H, st.defers, .done⟩ : St).put o.dst v st.H).bind fun st => evO P rec ro ops rest st
          | _ => (st.put o.dst .nilIface st.H).bind fun st => evO P rec ro ops rest st) else none
      | some (.panic v) => some (.panic v, st)
      | none => none
    else (st.put o.dst vundef st.H).bind fun st => evO P rec ro ops rest st

def evRangeGo (P : Program) (rec : Task → Option Res) (st : St) (g : FuncId) (args : List V) (l : Nat) (H2 : AH) (defs : List ADef) : Option (Ex × St) :=
  match oCallFunc P g args with
  | some (.call g args) => match rec (.call g args .no H2) with
    | some (.en (.ret _) .no H) => match H.get l with
      | some (.loop L) => if L.state = .busy then none else
        let st' : St := ⟨st.tmps, st.nt, H.put l (.loop { L with state := .exhausted }), defs, st.rc⟩
        match L.pending with
        | none => some (.normal, st')
        | some .ret => some (.ret, st')
        | some (.exit i) => some (.exit i, st')
        | _ => none
      | _ => none
    | some (.en (.pan v) .no H) => some (.panic v, ⟨st.tmps, st.nt, H, defs, st.rc⟩)
    | _ => none
  | _ => none

def evRange (P : Program) (rec : Task → Option Res) (ro : Option Nat) (f : Operand) (ps : Array Tmp) (asg body : Code) (st : St) : Option (Ex × St) :=
  (aeval st.H.ng st.tmps f).bind fun fv => match fv with
  | .func (.func g) first cap => match ro with
    | none =>
      let D := st.H.next
      let H1 := st.H.push (.deferred true)
      let l := H1.next
      let H2 := H1.push (.loop ⟨.ready, none, st.nt, st.tmps, ps, asg, body, D⟩)
      evRangeGo P rec st g (first ++ [.func (.yield l) [] []] ++ cap) l H2 (.collected D :: st.defers)
    | some l0 => match st.H.get l0 with
      | some (.loop L0) =>
        let l := st.H.next
        let H2 := st.H.push (.loop ⟨.ready, none, st.nt, st.tmps, ps, asg, body, L0.defers⟩)
        evRangeGo P rec st g (first ++ [.func (.yield l) [] []] ++ cap) l H2 st.defers
      | _ => none
  | _ => none

def evC (P : Program) (dr : Array Oper → St → Option (Ex × St)) (rec : Task → Option Res) (ro : Option Nat) : Code → St → Option (Ex × St)
  | .skip, st => some (.normal, st)
  | .region _ ops draw, st => if draw then dr ops st else evO P rec ro ops ops.toList st
  | .seq a b, st => match evC P dr rec ro a st with
    | some (.normal, st) => evC P dr rec ro b st
    | r => r
  | .cond c a b, st => match aeval st.H.ng st.tmps c with
    | some (.bool true) => evC P dr rec ro a st
    | some (.bool false) => evC P dr rec ro b st
    | _ => none
  | .block id c, st => match evC P dr rec ro c st with
    | some (.exit i, st) => if i = id then some (.normal, st) else some (.exit i, st)
    | r => r
  | .loop c, st => match rec (.loop ro c st) with
    | some (.ex e st) => some (e, st)
    | _ => none
  | .rangeFunc f ps asg body, st => evRange P rec ro f ps asg body st
  | .exit i, st => some (.exit i, st)
  | .scope c, st => evC P dr rec ro c st
  | .label _, st => some (.normal, st)
  | .goto _, _ => none
  | .ret, st => some (.ret, st)
  | .refuse _, _ => none

def resultsV (P : Program) (H : AH) (tm : PT V) : List ResultVar → Option (List V)
  | [] => some []
  | .tmp t :: r => (resultsV P H tm r).map fun l => (tm.get t).getD vundef :: l
  | .cell a t :: r => match (tm.get a).getD vundef, isAggT P t, sizeT P t with
    | .ptr (some (b, o)), some true, some n => (H.loadN b o n).bind fun c => (resultsV P H tm r).map fun l => .agg c :: l
    | .ptr (some (b, o)), some false, _ => (H.load1 b o).bind fun v => (resultsV P H tm r).map fun l => v :: l
    | _, _, _ => none

def packR : List V → V
  | [v] => v
  | l => .tuple l

def leave (P : Program) (rec : Task → Option Res) (fn : Func) (tm : PT V) (rc0 : RecSt) : List ADef → Option V → AH → Option Res
  | [], none, H => (resultsV P H tm fn.results.toList).map fun l => .en (.ret (packR l)) rc0 H
  | [], some v, H => some (.en (.pan v) rc0 H)
  | .call f args :: ds, none, H => match oCallFunc P f args with
    | some (.call f args) => match rec (.call f args .no H) with
      | some (.en (.ret _) .no H) => leave P rec fn tm rc0 ds none H
      | some (.en (.pan v) .no H) => leave P rec fn tm rc0 ds (some v) H
      | _ => none
    | _ => none
  | .call f args :: ds, some v, H => match oCallFunc P f args with
    | some (.call f args) => match rec (.call f args (.can v) H) with
      | some (.en (.ret _) .done H) => leave P rec fn tm rc0 ds none H
      | some (.en (.ret _) (.can _) H) => leave P rec fn tm rc0 ds (some v) H
      | _ => none
    | _ => none
  | .collected D :: ds, p, H => match H.get D with
    | some (.deferred true) => leave P rec fn tm rc0 ds p (H.put D (.deferred false))
    | _ => none

def tmpsOf : Nat → List V → PT V
  | _, [] => .nil
  | i, v :: l => (tmpsOf (i + 1) l).set i v

def zipSet : List Tmp → List V → PT V → PT V
  | p :: ps, v :: vs, t => zipSet ps vs (t.set p v)
  | _, _, t => t

def endRoundA (H : AH) (l : Nat) (e : Ex) : Option Res :=
  match H.get l with
  | some (.loop L) => match e with
    | .normal => some (.en (.ret (.bool true)) .no (H.put l (.loop { L with state := .ready, pending := none })))
    | .ret => some (.en (.ret (.bool false)) .no (H.put l (.loop { L with state := .done, pending := some .ret })))
    | .exit i => some (.en (.ret (.bool false)) .no (H.put l (.loop { L with state := .done, pending := some (.exit i) })))
    | .panic v => some (.en (.pan v) .no H)
  | _ => none

def evF (P : Program) (dr : (Task → Option Res) → Option Nat → Array Oper → St → Option (Ex × St)) (rec : Task → Option Res) : Task → Option Res
  | .loop ro c st => match evC P (dr rec ro) rec ro c st with
    | some (.normal, st) => rec (.loop ro c st)
    | some (e, st) => some (.ex e st)
    | none => none
  | .call f args rc H => match P.funcs[f]? with
    | some fn => match fn.body with
      | some c => match evC P (dr rec none) rec none c ⟨tmpsOf 0 args, Nat.max fn.ntmps args.length, H, [], rc⟩ with
        | some (.normal, st) => leave P rec fn st.tmps st.rc st.defers none st.H
        | some (.ret, st) => leave P rec fn st.tmps st.rc st.defers none st.H
        | some (.panic v, st) => leave P rec fn st.tmps st.rc st.defers (some v) st.H
        | _ => none
      | none => none
    | none => none
  | .round l args H => match H.get l with
    | some (.loop L) => if L.state = .ready ∧ args.length = L.params.size ∧ L.params.toList.all (· < L.nt) = true then
        match evC P (dr rec (some l)) rec (some l) L.assign ⟨zipSet L.params.toList args L.tmps, L.nt, H, [], .no⟩ with
        | some (.normal, st) => match st.H.get l with
          | some (.loop L2) => if L2.state = .ready then
            match evC P (dr rec (some l)) rec (some l) L.body ⟨st.tmps, st.nt, st.H.put l (.loop { L2 with state := .busy }), st.defers, st.rc⟩ with
            | some (e, st) => if st.defers.isEmpty then endRoundA st.H l e else none
            | none => none
            else none
          | _ => none
        | _ => none
      else none
    | _ => none

def ev (P : Program) (dr : (Task → Option Res) → Option Nat → Array Oper → St → Option (Ex × St)) : Nat → Task → Option Res
  | 0 => fun _ => none
  | n + 1 => evF P dr (ev P dr n)
end Go.Am
