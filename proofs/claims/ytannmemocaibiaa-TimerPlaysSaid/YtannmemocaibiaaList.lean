/-
  The walk of List.
-/
import Derived.Test.YtannmemocaibiaaAt
import Derived.Maps.AppendAt
namespace Go.Proofs.Ytannmemocaibiaa
open Go.RowKit

theorem info40 : (Try.prog.info? 40).map (fun i => (i.zero, i.size, i.bytes)) = some (some (.agg #[.string ⟨#[]⟩, .int .i64 0]), 2, 24) := by kernel_rfl
/-- The cells of a list of (name, time). -/
def dueC (l : List KV) : List Value := l.flatMap fun x => [.string x.1, .int .i64 x.2]
theorem dueC_append (l : List KV) (x : KV) : dueC (l ++ [x]) = dueC l ++ [.string x.1, .int .i64 x.2] := by simp [dueC]
theorem dueC_len (l : List KV) : (dueC l).length = l.length * 2 := by
  induction l with
  | nil => rfl
  | cons x l ih => simp only [dueC, List.flatMap_cons, List.length_append, List.length_cons, List.length_nil] at ih ⊢; omega

theorem row_slice2 {w : World} {sv : Value} {n : Nat} {xs : List Value} {e size : TypeId} (h : w.ownsRow 0 e size sv n xs) : ∃ A c, sv = .slice A n c := by
  rcases h.2 with ⟨h1, h2⟩ | ⟨g, cap, cur, h1, _⟩
  · exact ⟨none, 0, by rw [h1, h2]⟩
  · exact ⟨_, _, h1⟩
theorem cell_two_new' (w : World) (x y : Value) (t : TypeId) : ∀ j u, [x, y][j]? = some u → (w.alloc (.cells #[x, y] t)).cell? ((⟨w.heap.size, 0, none⟩ : Addr).add j) = some u := by
  intro j u hj
  have hb := Blk.new w t #[x, y]
  match j, hj with
  | 0, hj =>
    have := hb.cell 0
    simp only [List.getElem?_cons_zero] at hj
    rw [← hj]
    exact this
  | 1, hj =>
    have := hb.cell 1
    simp only [List.getElem?_cons_succ, List.getElem?_cons_zero] at hj
    rw [← hj]
    exact this
  | j + 2, hj => simp at hj

set_option maxRecDepth 100000 in
set_option maxHeartbeats 4000000 in
theorem list_cells (q m : Nat) (sv : Value) (rows : List Row) (w : World) (h : HeapAt w q m sv rows) (hn : rows.length ≤ 1000000)
    (R : Ending → World → Prop)
    (hsort : ∀ (A : Option Addr) (c : Nat) (w1 : World), w1.ownsRow 0 40 2 (.slice A rows.length c) rows.length (dueC (rows.map Row.kv)) → Below w.heap.size w w1 → (∀ g, (Value.slice A rows.length c).ownBlock = some g → w.heap.size ≤ g) →
      Calls Try.prog 30 #[.slice A rows.length c, .func (.func 31) #[] #[]] w1 fun e w2 => e = .returned (.tuple #[]) ∧ R (.returned (.slice A rows.length c)) w2) :
    Calls Try.prog 17 #[.pointer (some ⟨q, 0, none⟩)] w R := by
  obtain ⟨i0, hi, hz0, hz1, hz2⟩ := info_parts info40
  obtain ⟨A, c, rfl⟩ := row_slice h.row
  have c0 := h.q.cell 0
  simp only [List.getElem?_toArray, List.getElem?_cons_zero] at c0
  have H := Lib.hid h
  have HS := Lib.hid hsort
  clear h hsort
  go_enter Try.func17, Try.ntmps17
  go_wp2_with fail
  go_loopw [2, 12] (fun v2 vi wr => ∃ (k : Nat) (A2 : Option Addr) (c2 : Nat), k ≤ rows.length ∧ vi = .int .i64 k ∧ v2 = .slice A2 k c2 ∧ wr.ownsRow 0 40 2 (.slice A2 k c2) k (dueC ((rows.take k).map Row.kv)) ∧ Below w.heap.size w wr ∧ (∀ g, (Value.slice A2 k c2).ownBlock = some g → w.heap.size ≤ g))
    (fun _ vi _ => rows.length - (intOf vi).toNat)
  case atStart => exact ⟨0, none, 0, Nat.zero_le _, rfl, rfl, World.ownsRow_nil _ _ _ _, Below.refl _ _, fun g h => by simp [Value.ownBlock] at h⟩
  case round =>
    obtain ⟨k, A2, c2, hk, rfl, rfl, hrow, hb, hbase⟩ := hrel
    have HR := Lib.hid hrow
    have HB := Lib.hid hb
    have HBa := Lib.hid hbase
    clear hrow hb hbase
    by_cases hkn : k < rows.length
    · obtain ⟨B, cap, cur, hsv, hBl, hc, hm, hs, ht⟩ := row_form H.out.row (by omega)
      injection hsv with hA _ hcc
      subst hA hcc
      have hb2 := H.out.ones.at_ hkn
      have e0 := ((hBl.below' HB.out).cell k).trans (cur_get ht hkn)
      have e1 := (hb2.below' HB.out).cell 0
      have e2 := (hb2.below' HB.out).cell 1
      have htake : (rows.take (k + 1)).map Row.kv = (rows.take k).map Row.kv ++ [gt rows k] := by
        rw [List.take_succ_eq_append_getElem hkn, List.map_append]
        simp [gt, hkn]
      have f1 : (rows.getD k default).name = (gt rows k).1 := rfl
      have f2 : (rows.getD k default).tm = (gt rows k).2 := rfl
      rw [f1] at e1
      rw [f2] at e2
      simp only [List.getElem?_toArray, List.getElem?_cons_succ, List.getElem?_cons_zero] at e1 e2
      generalize gt rows k = x at *
      obtain ⟨s, t⟩ := x
      generalize (rows.getD k default).p = p at *
      have HT := Lib.hid htake
      clear hBl ht hs hm hb2 htake f1 f2
      go_wp2_with (at_builtin; refine wpList_append_own_at _ rfl (.tmp 16) (.tmp 21) _ rfl 0 40 i0 _ 2 24 Try.underlying44 hi hz0 hz1 hz2 rfl (by decide) (.slice A2 k c2) k (dueC ((rows.take k).map Row.kv)) rfl (HR.out.alloc _) ⟨wr.heap.size, 0, none⟩ 1 1 [.string s, .int .i64 t] rfl rfl ?c1 ?c2 ?c3 ?c4 (Nat.zero_le _) ?_)
      case c2 => exact ⟨rfl, rfl⟩
      case c3 => unfold maxLen; omega
      case c4 => omega
      intro v' w3 hown3 hgrow _ hat
      obtain ⟨A7, c7, rfl⟩ := row_slice2 hown3
      have hb3 : Below w.heap.size w w3 := ((HB.out.alloc HB.out.size (.cells #[.string s, .int .i64 t] 40)).grown hgrow (by have := HB.out.size; simp; omega) (fun g hg => HBa.out g hg))
      have hbase3 : ∀ g, (Value.slice A7 (k + 1) c7).ownBlock = some g → w.heap.size ≤ g := by
        intro g hg
        rcases hat with e | e
        · exact HBa.out g (by rw [← e]; exact hg)
        · rw [e] at hg
          injection hg with hg
          have := HB.out.size
          omega
      have HR3 := Lib.hid hown3
      have HB3 := Lib.hid hb3
      have HBa3 := Lib.hid hbase3
      clear hown3 hb3 hbase3 hgrow hat e0 e1 e2
      go_wp2_with fail
      refine ⟨⟨k + 1, A7, c7, by omega, by go_num, rfl, ?_, HB3.out, HBa3.out⟩, by simp [intOf]; omega⟩
      rw [HT.out, dueC_append, List.map_take]
      exact HR3.out
    · have hke : k = rows.length := by omega
      subst hke
      have HR2 : Hid (wr.ownsRow 0 40 2 (.slice A2 rows.length c2) rows.length (dueC (rows.map Row.kv))) := by
        have := HR.out
        rw [List.take_length] at this
        exact this
      go_wp2_with fail
      refine (HS.out A2 c2 wr HR2.out HB.out HBa.out).mono ?_
      rintro e w2 ⟨rfl, hr⟩
      have HRR := Lib.hid hr
      clear hr
      go_wp2_with fail
      exact HRR.out
end Go.Proofs.Ytannmemocaibiaa
