/-
  A part of the proof that an abstract machine, which runs a program without orders, room or tape, says what the model does. No condition beside what each theorem states.
-/
import Derived.Test.YtjgejncgeklanaaDoorAmSound6
namespace Go.Am
open Go Go.RowKit

section
variable {σ : Sg} {base : Nat} {H : AH} {w : World} {P : Program}

set_option maxHeartbeats 1000000 in
/-- append where there is room -/
theorem append_room {ats : Array TypeId} {t xt e : TypeId} {xd : TypeDesc} (ty : TypeId) (h0 : ats[0]? = some t) (h1 : ats[1]? = some xt) (ht : P.underlying t = some (.slice e)) (hx : P.underlying xt = some xd) {size : Nat} (hs : sizeT P e = some size)
    (hxd : xd = .string ∨ ∃ e', xd = .slice e') {b : Option Addr} {len cap n : Nat} {x : Value} (hl : (Builtin.lenOf x).run P w = .ok n w) {new : Array Value} (hf : (Builtin.firstCells size n x).run P w = .ok new w) (hle : len + n ≤ cap) :
    (Builtin.append_ ats ty #[.slice b len cap, x]).run P w = ((match b with | some a => storeCells (a.add (len * size)) new.toList | none => pure () : Sem Unit).run P w).andThen fun _ w' => .ok (.slice b (len + n) cap) w' := by
  rcases hxd with rfl | ⟨e', rfl⟩ <;> (cases b <;> simp [Builtin.append_, h0, h1, run_underlying ht, run_underlying hx, sizeT_run hs, hl, hf, hle])

set_option maxHeartbeats 1000000 in
theorem append_grow {ats : Array TypeId} {t xt e : TypeId} {xd : TypeDesc} (ty : TypeId) (h0 : ats[0]? = some t) (h1 : ats[1]? = some xt) (ht : P.underlying t = some (.slice e)) (hx : P.underlying xt = some xd) {size bytes : Nat} (hs : sizeT P e = some size) (hb : bytesT P e = some bytes)
    (hxd : xd = .string ∨ ∃ e', xd = .slice e') {b : Option Addr} {len cap n : Nat} {x : Value} (hl : (Builtin.lenOf x).run P w = .ok n w) {old new : Array Value}
    (hfo : (Builtin.firstCells size len (.slice b len cap)).run P w.drew = .ok old w.drew) (hf : (Builtin.firstCells size n x).run P w.drew = .ok new w.drew) (hlt : cap < len + n) (h1b : 1 ≤ bytes) (hfit : (len + n) * bytes ≤ 1000000000000) {z : Value} (hz : (zeroValue e).run P w.drew = .ok z w.drew) :
    ∃ cap', len + n ≤ cap' ∧ (Builtin.append_ ats ty #[.slice b len cap, x]).run P w = .ok (.slice (some ⟨w.heap.size, 0, none⟩) (len + n) cap')
      (w.drew.alloc (.cells (old ++ new ++ Builtin.zeroCells z.cells (cap' - (len + n))) e)) := by
  have hnle : ¬ (len + n ≤ cap) := by omega
  unfold bytesT at hb
  cases hi : P.info? e with
  | none => simp [hi] at hb
  | some i =>
  simp [hi] at hb
  have hfit2 : ¬ (281474976710656 < Builtin.nextslicecap (len + n) cap * i.bytes) := by
    have := growslice_fits (bytes := i.bytes) hlt (by rw [hb]; omega)
    omega
  have hb0 : i.bytes ≠ 0 := by omega
  refine ⟨(Question.appendCap (len + n) cap e).cut (w.tape w.drawn (.appendCap (len + n) cap e)), ?_, ?_⟩
  · simp only [Question.cut]; omega
  · rcases hxd with rfl | ⟨e', rfl⟩ <;> (simp [Builtin.append_, h0, h1, run_underlying ht, run_underlying hx, sizeT_run hs, hl, hnle, typeInfo, hi, hb0, hfit2, Question.forced, hfo, hf, hz, newRow])

theorem i64_id {l : Int} (h0 : 0 ≤ l) (h1 : l ≤ 1000000000) : IntKind.i64.wrap l = l := by
  simp [IntKind.wrap, IntKind.signed, IntKind.bits]
  omega

set_option maxHeartbeats 1000000 in
theorem append_room_z {ats : Array TypeId} {t xt e : TypeId} {kx : IntKind} (ty : TypeId) (h0 : ats[0]? = some t) (h1 : ats[1]? = some xt) (ht : P.underlying t = some (.slice e)) (hx : P.underlying xt = some (.int kx)) {size bytes : Nat} (hs : sizeT P e = some size) (hb : bytesT P e = some bytes)
    {b : Option Addr} {len cap : Nat} {k : IntKind} {l : Int} (hl0 : 0 ≤ l) (hl1 : l ≤ 1000000000) (hfit : l.toNat * bytes ≤ 1000000000000) {z : Value} (hz : (zeroValue e).run P w = .ok z w) (hzs : z.cells.size = size) (hle : len + l.toNat ≤ cap) :
    (Builtin.append_ ats ty #[.slice b len cap, .int k l]).run P w = ((match b with | some a => storeCells (a.add (len * size)) ((Array.range (l.toNat * z.cells.size)).map (fun i => z.cells[i % z.cells.size]!)).toList | none => pure () : Sem Unit).run P w).andThen fun _ w' => .ok (.slice b (len + l.toNat) cap) w' := by
  unfold bytesT at hb
  cases hi : P.info? e with
  | none => simp [hi] at hb
  | some i =>
  simp [hi] at hb
  have hw := i64_id hl0 hl1
  have hb2 : ¬ (281474976710656 < l * i.bytes) := by
    have : l * (i.bytes : Int) = ((l.toNat * bytes : Nat) : Int) := by rw [hb]; simp [Int.toNat_of_nonneg hl0]
    rw [this]; omega
  have hn0 : ¬ l < 0 := by omega
  have hz0 : l.toNat * size = 0 → Builtin.zeroCells z.cells l.toNat = #[] := by
    intro h
    simp [Builtin.zeroCells, hzs, h]
  have happ : ∀ w2, (zeroValue e).run P w2 = .ok z w2 → (if l.toNat * size = 0 then pure #[] else (do pure (Builtin.zeroCells (← zeroValue e).cells l.toNat)) : Sem (Array Value)).run P w2 = .ok (Builtin.zeroCells z.cells l.toNat) w2 := by
    intro w2 h2
    by_cases h : l.toNat * size = 0
    · rw [if_pos h, hz0 h]; rfl
    · rw [if_neg h]; simp [h2]
  by_cases h : l.toNat * size = 0
  · have hz1 := hz0 h
    simp only [Builtin.zeroCells] at hz1
    cases b <;> simp [Builtin.append_, h0, h1, run_underlying ht, run_underlying hx, sizeT_run hs, asInt, asIntOf, hw, hn0, typeInfo, hi, hb2, hle, h, hz1]
  · cases b <;> simp [Builtin.append_, h0, h1, run_underlying ht, run_underlying hx, sizeT_run hs, asInt, asIntOf, hw, hn0, typeInfo, hi, hb2, hle, h, hz, Builtin.zeroCells]

set_option maxHeartbeats 1000000 in
theorem append_grow_z {ats : Array TypeId} {t xt e : TypeId} {kx : IntKind} (ty : TypeId) (h0 : ats[0]? = some t) (h1 : ats[1]? = some xt) (ht : P.underlying t = some (.slice e)) (hx : P.underlying xt = some (.int kx)) {size bytes : Nat} (hs : sizeT P e = some size) (hb : bytesT P e = some bytes)
    {b : Option Addr} {len cap : Nat} {k : IntKind} {l : Int} (hl0 : 0 ≤ l) (hl1 : l ≤ 1000000000) {old : Array Value} (hfo : (Builtin.firstCells size len (.slice b len cap)).run P w.drew = .ok old w.drew)
    (hlt : cap < len + l.toNat) (h1b : 1 ≤ bytes) (hfit : (len + l.toNat) * bytes ≤ 1000000000000) (hneed : len + l.toNat ≤ 1000000000000) {z : Value} (hz : (zeroValue e).run P w.drew = .ok z w.drew) (hzs : z.cells.size = size) :
    ∃ cap', len + l.toNat ≤ cap' ∧ (Builtin.append_ ats ty #[.slice b len cap, .int k l]).run P w = .ok (.slice (some ⟨w.heap.size, 0, none⟩) (len + l.toNat) cap')
      (w.drew.alloc (.cells (old ++ (Array.range (l.toNat * z.cells.size)).map (fun i => z.cells[i % z.cells.size]!) ++ Builtin.zeroCells z.cells (cap' - (len + l.toNat))) e)) := by
  have hnle : ¬ (len + l.toNat ≤ cap) := by omega
  unfold bytesT at hb
  cases hi : P.info? e with
  | none => simp [hi] at hb
  | some i =>
  simp [hi] at hb
  have hfit2 : ¬ (281474976710656 < Builtin.nextslicecap (len + l.toNat) cap * i.bytes) := by
    have := growslice_fits (bytes := i.bytes) hlt (by rw [hb]; omega)
    omega
  have hb0 : i.bytes ≠ 0 := by omega
  have hw := i64_id hl0 hl1
  have hle1 : l.toNat * bytes ≤ (len + l.toNat) * bytes := Nat.mul_le_mul_right _ (by omega)
  have hb2 : ¬ (281474976710656 < l * i.bytes) := by
    have : l * (i.bytes : Int) = ((l.toNat * bytes : Nat) : Int) := by rw [hb]; simp [Int.toNat_of_nonneg hl0]
    rw [this]; omega
  have hn0 : ¬ l < 0 := by omega
  have hmax : ¬ (9223372036854775807 < (len : Int) + max l 0) := by omega
  have hz0 : l.toNat * size = 0 → (Array.range (l.toNat * z.cells.size)).map (fun i => z.cells[i % z.cells.size]!) = #[] := by
    intro h
    simp [hzs, h]
  refine ⟨(Question.appendCap (len + l.toNat) cap e).cut (w.tape w.drawn (.appendCap (len + l.toNat) cap e)), ?_, ?_⟩
  · simp only [Question.cut]; omega
  · by_cases h : l.toNat * size = 0
    · rw [hz0 h]
      simp [Builtin.append_, h0, h1, run_underlying ht, run_underlying hx, sizeT_run hs, asInt, asIntOf, hw, hn0, typeInfo, hi, hb2, hnle, hmax, hb0, hfit2, Question.forced, hfo, h, hz, newRow]
    · simp [Builtin.append_, h0, h1, run_underlying ht, run_underlying hx, sizeT_run hs, asInt, asIntOf, hw, hn0, typeInfo, hi, hb2, hnle, hmax, hb0, hfit2, Question.forced, hfo, h, hz, newRow, Builtin.zeroCells]
end
end Go.Am
