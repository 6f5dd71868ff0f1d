/-
  The document's Queue: Pop.
-/
import Derived.Test.YtannmemocaibiaaRef
namespace Go.Proofs.Ytannmemocaibiaa
open Go.RowKit

/-- The row behind: a new one or one of the old one's block. -/
def RStep (w : World) (A A' : Option Addr) : Prop := ∀ ad', A' = some ad' → w.heap.size ≤ ad'.block ∨ ∃ ad, A = some ad ∧ ad.block = ad'.block

theorem Only.of_allocs {F : Nat → Prop} {w : World} (o : Obj) : Only F w (w.alloc o) := (Only.refl _ _).alloc o

set_option maxRecDepth 100000 in
set_option maxHeartbeats 2000000 in
theorem rpop_nil {w : World} {p c : Nat} {A : Option Addr} (h : RR w p A c []) (now : Int) :
    Calls Try.prog 24 #[.pointer (some ⟨p, 0, none⟩), .int .i64 now] w fun e w' => e = .returned (.tuple #[due0, .bool false]) ∧ Below w.heap.size w w' := by
  have c0 := h.blk.cell 0
  have hp := h.blk.lt
  simp only [List.getElem?_toArray, List.getElem?_cons_zero, List.length_nil] at c0
  clear h
  go_enter Try.func24, Try.ntmps24
  go_wp2_with fail
  refine bodyPost_ret (v := .tuple #[due0, .bool false]) ?_ rfl ⟨rfl, (Below.refl _ _).alloc (Nat.le_refl _) _⟩
  have k := Blk.new w 40 #[.string ⟨#[]⟩, .int .i64 0]
  have k0 := k.cell 0
  have k1 := k.cell 1
  simp only [List.getElem?_toArray, List.getElem?_cons_succ, List.getElem?_cons_zero] at k0 k1
  simp [results, Try.results24, go_sem, due0, k0, k1]

set_option maxRecDepth 100000 in
set_option maxHeartbeats 2000000 in
theorem rpop_later {w : World} {p c : Nat} {A : Option Addr} {d : KV} {l : List KV} (h : RR w p A c (d :: l)) (now : Int) (hn : l.length < 1000000) (ht : now < d.2) :
    Calls Try.prog 24 #[.pointer (some ⟨p, 0, none⟩), .int .i64 now] w fun e w' => e = .returned (.tuple #[due0, .bool false]) ∧ Below w.heap.size w w' := by
  have c0 := h.blk.cell 0
  have hp := h.blk.lt
  simp only [List.getElem?_toArray, List.getElem?_cons_zero, List.length_cons] at c0
  obtain ⟨b, off, hA, hb, hbp, hc⟩ := h.row (by simp)
  subst hA
  obtain ⟨e0, e1⟩ := hc 0 d rfl
  obtain ⟨s, t⟩ := d
  simp only [Nat.zero_mul, Nat.add_zero] at e0 e1
  dsimp only at ht
  clear h hc
  generalize l.length = n at *
  have hb1 : decide (now < t) = true := decide_eq_true ht
  go_enter Try.func24, Try.ntmps24
  go_wp2_with fail
  refine bodyPost_ret (v := .tuple #[due0, .bool false]) ?_ rfl ⟨rfl, (Below.refl _ _).alloc (Nat.le_refl _) _⟩
  have k := Blk.new w 40 #[.string ⟨#[]⟩, .int .i64 0]
  have k0 := k.cell 0
  have k1 := k.cell 1
  simp only [List.getElem?_toArray, List.getElem?_cons_succ, List.getElem?_cons_zero] at k0 k1
  simp [results, Try.results24, go_sem, due0, k0, k1]

set_option maxRecDepth 100000 in
set_option maxHeartbeats 2000000 in
theorem rpop_due {w : World} {p c : Nat} {A : Option Addr} {d : KV} {l : List KV} (h : RR w p A c (d :: l)) (now : Int) (hn : l.length < 1000000) (ht : d.2 ≤ now) :
    Calls Try.prog 24 #[.pointer (some ⟨p, 0, none⟩), .int .i64 now] w fun e w' => e = .returned (.tuple #[dueV d, .bool true]) ∧ ∃ A' c', RR w' p A' c' l ∧ Only (fun k => k = p) w w' ∧ RStep w A A' := by
  have H := Lib.hid h
  have c0 := h.blk.cell 0
  have hf := h.blk.frozen 0
  have hp := h.blk.lt
  have hcap := h.cap
  have hmax := h.max
  simp only [List.getElem?_toArray, List.getElem?_cons_zero, List.length_cons] at c0 hcap
  obtain ⟨b, off, hA, hb, hbp, hc⟩ := h.row (by simp)
  subst hA
  obtain ⟨e0, e1⟩ := hc 0 d rfl
  obtain ⟨s, t⟩ := d
  simp only [Nat.zero_mul, Nat.add_zero] at e0 e1
  dsimp only at ht
  have HC := Lib.hid hc
  clear h hc
  generalize hlen : l.length = n at *
  have HL := Lib.hid hlen
  unfold maxLen at hmax
  clear hlen
  have hb1 : decide (now < t) = false := decide_eq_false (by omega)
  go_enter Try.func24, Try.ntmps24
  go_wp2_with fail
  · have hO : Only (fun k => k = p) w (((w.setCell ⟨p, 0, none⟩ (.slice (some ⟨b, off, none⟩) n 0)).alloc (.cells #[.string s, .int .i64 t] 40)).alloc (.cells #[.string s, .int .i64 t] 40)) :=
      ((Only.setCell (p := ⟨p, 0, none⟩) (Only.refl (fun k => k = p) w) (fun _ => rfl) _).alloc _).alloc _
    have k := (Blk.new (w.setCell ⟨p, 0, none⟩ (.slice (some ⟨b, off, none⟩) n 0)) 40 #[.string s, .int .i64 t]).alloc (.cells #[.string s, .int .i64 t] 40)
    have k0 := k.cell 0
    have k1 := k.cell 1
    have hz : (w.setCell ⟨p, 0, none⟩ (.slice (some ⟨b, off, none⟩) n 0)).heap.size = w.heap.size := by simp [World.setCell]
    rw [hz] at k0 k1
    simp only [List.getElem?_toArray, List.getElem?_cons_succ, List.getElem?_cons_zero] at k0 k1
    have hn0 : n = 0 := by omega
    subst hn0
    refine bodyPost_ret (v := .tuple #[dueV (s, t), .bool true]) (by simp [results, Try.results24, go_sem, dueV, k0, k1]) rfl ⟨rfl, some ⟨b, off, none⟩, ⟨0, ?_⟩, hO, ?_⟩
    · refine ⟨?_, by rw [HL.out]; exact Nat.le_refl _, by unfold maxLen; omega, fun h => by rw [HL.out] at h; omega⟩
      rw [HL.out]
      exact ((H.out.blk.set_ 0 _).alloc _).alloc _
    · intro ad' e
      exact .inr ⟨_, rfl, by injection e with e; rw [← e]⟩
  · have hO : Only (fun k => k = p) w (((w.setCell ⟨p, 0, none⟩ (.slice (some ⟨b, off + 2, none⟩) n (c - 1))).alloc (.cells #[.string s, .int .i64 t] 40)).alloc (.cells #[.string s, .int .i64 t] 40)) :=
      ((Only.setCell (p := ⟨p, 0, none⟩) (Only.refl (fun k => k = p) w) (fun _ => rfl) _).alloc _).alloc _
    have k := (Blk.new (w.setCell ⟨p, 0, none⟩ (.slice (some ⟨b, off + 2, none⟩) n (c - 1))) 40 #[.string s, .int .i64 t]).alloc (.cells #[.string s, .int .i64 t] 40)
    have k0 := k.cell 0
    have k1 := k.cell 1
    have hz : (w.setCell ⟨p, 0, none⟩ (.slice (some ⟨b, off + 2, none⟩) n (c - 1))).heap.size = w.heap.size := by simp [World.setCell]
    rw [hz] at k0 k1
    simp only [List.getElem?_toArray, List.getElem?_cons_succ, List.getElem?_cons_zero] at k0 k1
    refine bodyPost_ret (v := .tuple #[dueV (s, t), .bool true]) (by simp [results, Try.results24, go_sem, dueV, k0, k1]) rfl ⟨rfl, some ⟨b, off + 2, none⟩, ⟨c - 1, ?_⟩, hO, ?_⟩
    · refine ⟨?_, by rw [HL.out]; omega, by unfold maxLen; omega, fun h => ⟨b, off + 2, rfl, by have := hO.size; omega, hbp, fun i x hx => ?_⟩⟩
      · rw [HL.out]
        exact ((H.out.blk.set_ 0 _).alloc _).alloc _
      · have hk := hO.block b hb hbp
        have hx2 := HC.out (i + 1) x hx
        rw [World.cell?_of_block (a := ⟨b, off + 2 + i * 2, none⟩) hk, World.cell?_of_block (a := ⟨b, off + 2 + i * 2 + 1, none⟩) hk]
        rw [show off + (i + 1) * 2 = off + 2 + i * 2 by omega] at hx2
        exact hx2
    · intro ad' e
      exact .inr ⟨_, rfl, by injection e with e; rw [← e]⟩
end Go.Proofs.Ytannmemocaibiaa
