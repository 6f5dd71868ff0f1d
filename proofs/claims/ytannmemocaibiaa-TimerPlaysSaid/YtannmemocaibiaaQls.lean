/-
  List of a queue.
-/
import Derived.Test.YtannmemocaibiaaLst
import Derived.Test.YtannmemocaibiaaLive
namespace Go.Proofs.Ytannmemocaibiaa
open Go.RowKit


theorem que_list {w : World} {q : Nat} {F : Nat → Prop} {L : List KV} (h : Que w q F L) (hn : L.length ≤ 1000000) :
    Calls Try.prog 17 #[.pointer (some ⟨q, 0, none⟩)] w fun e w' => (∃ A c, e = .returned (.slice A L.length c) ∧ DueO w.heap.size w' A L) ∧ Below w.heap.size w w' := by
  obtain ⟨m, sv, f, rows, h1, h2, h3, h4⟩ := h.ex
  have hl : rows.length = L.length := by have := h3.length_eq; simpa using this
  refine (list_cells q m sv rows w h1.heap (by omega) (fun e w' => (∃ A c, e = .returned (.slice A L.length c) ∧ DueO w.heap.size w' A L) ∧ Below w.heap.size w w') ?_)
  intro A c w1 hrow hb hbase
  have hm : (rows.map Row.kv).length = rows.length := by simp
  rw [← hm] at hrow hbase ⊢
  refine (sort_any A c _ w1 w.heap.size hb.size hrow hbase (by omega)).mono ?_
  rintro e w2 ⟨rfl, hd, hb2⟩
  rw [mergeSort_ord h3 h.ord] at hd
  rw [hm, hl]
  exact ⟨rfl, ⟨A, c, rfl, hd⟩, hb.trans hb2⟩
theorem qb_list {w0 w : World} {q : Nat} {F : Nat → Prop} {L : List KV} (h : QB w0 w q F L) (hn : L.length ≤ 1000000) :
    Calls Try.prog 17 #[.pointer (some ⟨q, 0, none⟩)] w fun e w' => ∃ A c, e = .returned (.slice A L.length c) ∧ DueO w.heap.size w' A L ∧ QB w0 w' q F L ∧ Below w.heap.size w w' := by
  refine (que_list h.que hn).mono ?_
  rintro e w' ⟨⟨A, c, rfl, hd⟩, hb⟩
  exact ⟨A, c, rfl, hd, h.later hb, hb⟩
end Go.Proofs.Ytannmemocaibiaa
