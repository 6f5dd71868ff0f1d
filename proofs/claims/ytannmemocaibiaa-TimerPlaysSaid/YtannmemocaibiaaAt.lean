/-
  The walk of At.
-/
import Derived.Test.YtannmemocaibiaaLive
namespace Go.Proofs.Ytannmemocaibiaa
open Go.RowKit

theorem run_look1 {w : World} {m : Nat} {f : List (ByteArray × Value)} (h : SMap w m f) (s : ByteArray) :
    (Instr.lookup 59 (.map (some m)) (.string s) false).run Try.prog w = .ok ((slook f s).getD (.pointer none)) w := by
  have := run_lookup_string Try.underlying59 Try.underlying9 (zero64 w) h s false
  simpa using this

set_option maxRecDepth 100000 in
set_option maxHeartbeats 1000000 in
theorem at_none (q m : Nat) (sv : Value) (f : List (ByteArray × Value)) (rows : List Row) (s : ByteArray) (w : World) (h : QRep w q m sv f rows) (hs : slook f s = none) :
    Calls Try.prog 15 #[.pointer (some ⟨q, 0, none⟩), .string s] w fun e w' => e = .returned (.tuple #[.int .i64 0, .bool false]) ∧ w = w' := by
  have hlk := run_look1 h.map s
  rw [hs] at hlk
  simp only [Option.getD_none] at hlk
  have c1 := h.heap.q.cell 1
  simp only [List.getElem?_toArray, List.getElem?_cons_succ, List.getElem?_cons_zero] at c1
  clear h hs
  go_enter Try.func15, Try.ntmps15
  go_wp2
  go_ret2
  exact ⟨rfl, rfl⟩

set_option maxRecDepth 100000 in
set_option maxHeartbeats 1000000 in
theorem at_some (q m p : Nat) (sv : Value) (f : List (ByteArray × Value)) (rows : List Row) (s : ByteArray) (nm o : Value) (x : Int) (w : World) (h : QRep w q m sv f rows) (hs : slook f s = some (.pointer (some ⟨p, 0, none⟩))) (hp : Blk w p 67 #[nm, .int .i64 x, o]) :
    Calls Try.prog 15 #[.pointer (some ⟨q, 0, none⟩), .string s] w fun e w' => e = .returned (.tuple #[.int .i64 x, .bool true]) ∧ w = w' := by
  have hlk := run_look1 h.map s
  rw [hs] at hlk
  simp only [Option.getD_some] at hlk
  have c1 := h.heap.q.cell 1
  have c2 := hp.cell 1
  simp only [List.getElem?_toArray, List.getElem?_cons_succ, List.getElem?_cons_zero] at c1 c2
  clear h hs hp
  go_enter Try.func15, Try.ntmps15
  go_wp2
  go_ret2
  exact ⟨rfl, rfl⟩

theorem que_at_none {w : World} {q : Nat} {F : Nat → Prop} {L : List KV} (h : Que w q F L) (s : ByteArray) (hs : ¬ hasN L s) :
    Calls Try.prog 15 #[.pointer (some ⟨q, 0, none⟩), .string s] w fun e w' => e = .returned (.tuple #[.int .i64 0, .bool false]) ∧ w = w' := by
  obtain ⟨m, sv, f, rows, h1, h2, h3, rfl⟩ := h.ex
  refine at_none q m sv f rows s w h1 ?_
  cases hl : slook f s with
  | none => rfl
  | some v =>
    obtain ⟨r, hr, hn, _⟩ := (h1.look s v).1 hl
    exact absurd ⟨r.kv, h3.mem_iff.1 (List.mem_map.2 ⟨r, hr, rfl⟩), hn⟩ hs
theorem que_at_some {w : World} {q : Nat} {F : Nat → Prop} {L : List KV} (h : Que w q F L) (x : KV) (hx : x ∈ L) :
    Calls Try.prog 15 #[.pointer (some ⟨q, 0, none⟩), .string x.1] w fun e w' => e = .returned (.tuple #[.int .i64 x.2, .bool true]) ∧ w = w' := by
  obtain ⟨m, sv, f, rows, h1, h2, h3, rfl⟩ := h.ex
  obtain ⟨r, hr, rfl⟩ := List.mem_map.1 (h3.mem_iff.2 hx)
  obtain ⟨i, hi⟩ := List.mem_iff_getElem?.1 hr
  exact at_some q m r.p sv f rows r.name _ _ r.tm w h1 ((h1.look _ _).2 ⟨r, hr, rfl, rfl⟩) (h1.heap.ones i r hi)

/-! ### A slice of acts that came in -/
structure ActV where
  kind : Int
  name : ByteArray
  tm : Int
/-- The slice value's address A leads to these acts. -/
structure Acts (w : World) (A : Option Addr) (xs : List ActV) : Prop where
  cells : 0 < xs.length → ∃ b off, A = some ⟨b, off, none⟩ ∧ b < w.heap.size ∧ ∀ (i : Nat) (x : ActV), xs[i]? = some x →
    w.cell? ⟨b, off + i * 3, none⟩ = some (.int .i64 x.kind) ∧ w.cell? ⟨b, off + i * 3 + 1, none⟩ = some (.string x.name) ∧ w.cell? ⟨b, off + i * 3 + 2, none⟩ = some (.int .i64 x.tm)
  bd : ∀ x ∈ xs, -9223372036854775808 ≤ x.tm ∧ x.tm ≤ 9223372036854775807 ∧ -9223372036854775808 ≤ x.kind ∧ x.kind ≤ 9223372036854775807 ∧ x.name.size ≤ maxLen
theorem Acts.below {w w' : World} {A : Option Addr} {xs : List ActV} (h : Acts w A xs) (hb : Below w.heap.size w w') : Acts w' A xs :=
  ⟨fun hn => by
    obtain ⟨b, off, e, hlt, hc⟩ := h.cells hn
    refine ⟨b, off, e, Nat.lt_of_lt_of_le hlt hb.size, fun i x hx => ?_⟩
    obtain ⟨c1, c2, c3⟩ := hc i x hx
    exact ⟨(hb.cell (p := ⟨b, _, none⟩) hlt).trans c1, (hb.cell (p := ⟨b, _, none⟩) hlt).trans c2, (hb.cell (p := ⟨b, _, none⟩) hlt).trans c3⟩, h.bd⟩
end Go.Proofs.Ytannmemocaibiaa
