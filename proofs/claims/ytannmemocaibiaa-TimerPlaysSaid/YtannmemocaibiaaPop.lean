/-
  The walks of Pop, At and Jitter.
-/
import Derived.Test.YtannmemocaibiaaCan
namespace Go.Proofs.Ytannmemocaibiaa
open Go.RowKit

def due0 : Value := .agg #[.string ⟨#[]⟩, .int .i64 0]
def dueV (x : ByteArray × Int) : Value := .agg #[.string x.1, .int .i64 x.2]

set_option maxRecDepth 100000 in
set_option maxHeartbeats 1000000 in
theorem pop_nil (now : Int) (w : World) : Calls Try.prog 16 #[.pointer none, .int .i64 now] w fun e w' => e = .returned (.tuple #[due0, .bool false]) ∧ Below w.heap.size w w' := by
  go_enter Try.func16, Try.ntmps16
  go_wp2_with fail
  refine (next_nil _).mono ?_
  rintro e w' ⟨rfl, hb⟩
  have hb' : Below w.heap.size w w' := ((Below.refl _ _).alloc (Nat.le_refl _) _).trans (hb.mono (by simp))
  have hz : w.heap.size < w'.heap.size := by have := hb.size; simp at this; omega
  have kb : Blk w' w.heap.size 40 #[.string ⟨#[]⟩, .int .i64 0] := (Blk.new w 40 _).below' hb
  have k0 := kb.cell 0
  have k1 := kb.cell 1
  have f0 := kb.frozen 0
  have f1 := kb.frozen 1
  simp only [List.getElem?_toArray, List.getElem?_cons_succ, List.getElem?_cons_zero] at k0 k1
  have KB := Lib.hid kb
  have HB := Lib.hid hb'
  clear kb hb hb'
  go_wp2_with fail
  have e := (((KB.out.set_ 0 (.string ⟨#[]⟩)).set_ 1 (.int .i64 0)).alloc (.cells #[.string ⟨#[]⟩, .int .i64 0] 40))
  have e0 := e.cell 0
  have e1 := e.cell 1
  simp only [List.setIfInBounds_toArray, List.set_cons_zero, List.set_cons_succ, List.getElem?_toArray, List.getElem?_cons_succ, List.getElem?_cons_zero] at e0 e1
  refine bodyPost_ret (v := .tuple #[due0, .bool false]) ?_ rfl ⟨rfl, ?_⟩
  · simp [results, Try.results16, go_sem, due0, e0, e1]
  · exact ((HB.out.setCell (p := ⟨w.heap.size, 0, none⟩) (Nat.le_refl _) _).setCell (p := ⟨w.heap.size, 1, none⟩) (Nat.le_refl _) _).alloc (by simp [World.setCell]; omega) _

set_option maxRecDepth 100000 in
set_option maxHeartbeats 1000000 in
theorem pop_empty (q m : Nat) (sv : Value) (now : Int) (w : World) (h : HeapAt w q m sv []) : Calls Try.prog 16 #[.pointer (some ⟨q, 0, none⟩), .int .i64 now] w fun e w' => e = .returned (.tuple #[due0, .bool false]) ∧ Below w.heap.size w w' := by
  have H := Lib.hid (h.below ((Below.refl _ _).alloc (Nat.le_refl _) (.cells #[.string ⟨#[]⟩, .int .i64 0] 40)))
  clear h
  go_enter Try.func16, Try.ntmps16
  go_wp2_with fail
  refine (next_empty q m sv _ H.out).mono ?_
  rintro e w' ⟨rfl, hb⟩
  have hb' : Below w.heap.size w w' := ((Below.refl _ _).alloc (Nat.le_refl _) _).trans (hb.mono (by simp))
  have hz : w.heap.size < w'.heap.size := by have := hb.size; simp at this; omega
  have kb : Blk w' w.heap.size 40 #[.string ⟨#[]⟩, .int .i64 0] := (Blk.new w 40 _).below' hb
  have k0 := kb.cell 0
  have k1 := kb.cell 1
  have f0 := kb.frozen 0
  have f1 := kb.frozen 1
  simp only [List.getElem?_toArray, List.getElem?_cons_succ, List.getElem?_cons_zero] at k0 k1
  have KB := Lib.hid kb
  have HB := Lib.hid hb'
  clear kb hb hb'
  go_wp2_with fail
  have e := (((KB.out.set_ 0 (.string ⟨#[]⟩)).set_ 1 (.int .i64 0)).alloc (.cells #[.string ⟨#[]⟩, .int .i64 0] 40))
  have e0 := e.cell 0
  have e1 := e.cell 1
  simp only [List.setIfInBounds_toArray, List.set_cons_zero, List.set_cons_succ, List.getElem?_toArray, List.getElem?_cons_succ, List.getElem?_cons_zero] at e0 e1
  refine bodyPost_ret (v := .tuple #[due0, .bool false]) ?_ rfl ⟨rfl, ?_⟩
  · simp [results, Try.results16, go_sem, due0, e0, e1]
  · exact ((HB.out.setCell (p := ⟨w.heap.size, 0, none⟩) (Nat.le_refl _) _).setCell (p := ⟨w.heap.size, 1, none⟩) (Nat.le_refl _) _).alloc (by simp [World.setCell]; omega) _

set_option maxRecDepth 100000 in
set_option maxHeartbeats 1000000 in
theorem pop_later (q m : Nat) (sv : Value) (rows : List Row) (now : Int) (w : World) (h : HeapAt w q m sv rows) (hr : 0 < rows.length) (hn : rows.length ≤ 1000000) (hnow : now < (gt rows 0).2) : Calls Try.prog 16 #[.pointer (some ⟨q, 0, none⟩), .int .i64 now] w fun e w' => e = .returned (.tuple #[due0, .bool false]) ∧ Below w.heap.size w w' := by
  have H := Lib.hid (h.below ((Below.refl _ _).alloc (Nat.le_refl _) (.cells #[.string ⟨#[]⟩, .int .i64 0] 40)))
  clear h
  go_enter Try.func16, Try.ntmps16
  go_wp2_with fail
  refine (next_some q m sv rows _ H.out hr hn).mono ?_
  rintro e w' ⟨rfl, hb⟩
  generalize (gt rows 0).1 = s at *
  generalize (gt rows 0).2 = x at *
  have hb' : Below w.heap.size w w' := ((Below.refl _ _).alloc (Nat.le_refl _) _).trans (hb.mono (by simp))
  have hz : w.heap.size < w'.heap.size := by have := hb.size; simp at this; omega
  have kb : Blk w' w.heap.size 40 #[.string ⟨#[]⟩, .int .i64 0] := (Blk.new w 40 _).below' hb
  have k0 := kb.cell 0
  have k1 := kb.cell 1
  have f0 := kb.frozen 0
  have f1 := kb.frozen 1
  simp only [List.getElem?_toArray, List.getElem?_cons_succ, List.getElem?_cons_zero] at k0 k1
  have KB := Lib.hid kb
  have HB := Lib.hid hb'
  clear kb hb hb'
  go_wp2_with fail
  have e := (((KB.out.set_ 0 (.string ⟨#[]⟩)).set_ 1 (.int .i64 0)).alloc (.cells #[.string s, .int .i64 x] 40))
  have e0 := e.cell 0
  have e1 := e.cell 1
  simp only [List.setIfInBounds_toArray, List.set_cons_zero, List.set_cons_succ, List.getElem?_toArray, List.getElem?_cons_succ, List.getElem?_cons_zero] at e0 e1
  refine bodyPost_ret (v := .tuple #[due0, .bool false]) ?_ rfl ⟨rfl, ?_⟩
  · simp [results, Try.results16, go_sem, due0, e0, e1]
  · exact ((HB.out.setCell (p := ⟨w.heap.size, 0, none⟩) (Nat.le_refl _) _).setCell (p := ⟨w.heap.size, 1, none⟩) (Nat.le_refl _) _).alloc (by simp [World.setCell]; omega) _

theorem names_one {w : World} (s : ByteArray) : Names (w.alloc (.cells #[.string s] 9)) (some ⟨w.heap.size, 0, none⟩) [s] w.heap.size := by
  intro _
  refine ⟨_, rfl, rfl, _, Blk.new w 9 _, fun j t hj => ?_⟩
  match j, hj with
  | 0, hj => simp only [List.getElem?_cons_zero, Option.some.injEq] at hj; subst hj; rfl
  | j + 1, hj => simp at hj

set_option maxRecDepth 100000 in
set_option maxHeartbeats 2000000 in
theorem pop_now (q m : Nat) (sv : Value) (f : List (ByteArray × Value)) (rows : List Row) (now : Int) (w : World) (h : QRep w q m sv f rows) (hr : 0 < rows.length) (hn : rows.length ≤ 1000000) (hnow : (gt rows 0).2 ≤ now) :
    Calls Try.prog 16 #[.pointer (some ⟨q, 0, none⟩), .int .i64 now] w fun e w' => e = .returned (.tuple #[dueV (gt rows 0), .bool true]) ∧
      ∃ sv' f', QRep w' q m sv' f' (cancelL rows [(gt rows 0).1]).1 ∧ Only (Qfp q m sv rows) w w' ∧ (∀ k, Qfp q m sv' (cancelL rows [(gt rows 0).1]).1 k → Qfp q m sv rows k) := by
  have hbA : Below w.heap.size w (w.alloc (.cells #[.string ⟨#[]⟩, .int .i64 0] 40)) := (Below.refl _ _).alloc (Nat.le_refl _) _
  have H := Lib.hid h
  have HA := Lib.hid (h.below hbA)
  have hfpl : ∀ k, Qfp q m sv rows k → k < w.heap.size := by
    rintro k (e | e | e | ⟨r, hr, e⟩)
    · subst e; exact h.heap.q.lt
    · subst e; exact h.map.lt
    · rcases h.heap.row.2 with ⟨h1, _⟩ | ⟨g, cap, cur, h1, _, hh, _⟩
      · rw [h1] at e; simp [Value.ownBlock] at e
      · rw [h1] at e
        have : g = k := by simpa [Value.ownBlock] using e
        subst this
        exact Blk.lt (t := 64) hh
    · subst e
      obtain ⟨i, hi⟩ := List.mem_iff_getElem?.1 hr
      exact (h.heap.ones i r hi).lt
  have HL := Lib.hid hfpl
  have HbA := Lib.hid hbA
  clear h hfpl hbA
  obtain ⟨s, x, hg⟩ : ∃ s x, gt rows 0 = (s, x) := ⟨_, _, rfl⟩
  have hdv : dueV (gt rows 0) = .agg #[.string s, .int .i64 x] := by rw [hg]; rfl
  rw [hdv, hg]
  rw [hg] at hnow
  have Hg := Lib.hid hg
  clear hdv hg
  dsimp only at hnow ⊢
  go_enter Try.func16, Try.ntmps16
  go_wp2_with fail
  refine (next_some q m sv rows _ HA.out.heap hr hn).mono ?_
  rintro e w' ⟨rfl, hb⟩
  rw [Hg.out] at *
  dsimp only at hb ⊢
  have hb' : Below w.heap.size w w' := ((Below.refl _ _).alloc (Nat.le_refl _) _).trans (hb.mono (by simp))
  have hz : w.heap.size < w'.heap.size := by have := hb.size; simp at this; omega
  have kb : Blk w' w.heap.size 40 #[.string ⟨#[]⟩, .int .i64 0] := (Blk.new w 40 _).below' hb
  have k0 := kb.cell 0
  have k1 := kb.cell 1
  have f0 := kb.frozen 0
  have f1 := kb.frozen 1
  simp only [List.getElem?_toArray, List.getElem?_cons_succ, List.getElem?_cons_zero] at k0 k1
  have KB := Lib.hid kb
  have HB := Lib.hid hb'
  clear kb hb hb'
  have HQ := Lib.hid (H.out.below HB.out)
  go_wp2_with fail
  generalize hW1 : w'.alloc (.cells #[.string s, .int .i64 x] 40) = W1
  have hz1 : w'.heap.size + 1 = W1.heap.size := by rw [← hW1]; simp
  have kd : Blk W1 w'.heap.size 40 #[.string s, .int .i64 x] := by rw [← hW1]; exact Blk.new _ _ _
  have hB1 : Below w'.heap.size w' W1 := by rw [← hW1]; exact (Below.refl _ _).alloc (Nat.le_refl _) _
  rw [hz1]
  have HW1 := Lib.hid hW1
  have Hz1 := Lib.hid hz1
  have HB1 := Lib.hid hB1
  have KD := Lib.hid kd
  clear hW1 hz1 hB1 kd
  have hQ : QRep (W1.alloc (.cells #[.string s] 9)) q m sv f rows := (HQ.out.below HB1.out).below ((Below.refl _ _).alloc (Nat.le_refl _) _)
  have hnot : ∀ k, w.heap.size ≤ k → ¬ Qfp q m sv rows k := fun k hk hq => by have := HL.out k hq; omega
  have HN := Lib.hid hnot
  refine (cancel_any q m 1 W1.heap.size (some ⟨W1.heap.size, 0, none⟩) [s] sv f rows _ hQ (names_one s) (fun _ => HN.out _ (by have := Hz1.out; omega)) hn (by simp)).mono ?_
  rintro e w2 ⟨rfl, sv', f', hq2, hO2, hfp2⟩
  have hs2 := hO2.size
  have hzz : w'.heap.size < w2.heap.size := by have := Hz1.out; simp at hs2; omega
  have kb2 : Blk w2 w.heap.size 40 #[.string ⟨#[]⟩, .int .i64 0] := (((KB.out.below' HB1.out).alloc _).only hO2 (HN.out _ (Nat.le_refl _)))
  have kd2 : Blk w2 w'.heap.size 40 #[.string s, .int .i64 x] := ((KD.out.alloc _).only hO2 (HN.out _ (by omega)))
  have q0 := kb2.cell 0
  have q1 := kb2.cell 1
  have g0 := kb2.frozen 0
  have g1 := kb2.frozen 1
  have r0 := kd2.cell 0
  have r1 := kd2.cell 1
  simp only [List.getElem?_toArray, List.getElem?_cons_succ, List.getElem?_cons_zero] at q0 q1 r0 r1
  have HQ2 := Lib.hid hq2
  have HO2 := Lib.hid hO2
  have HF2 := Lib.hid hfp2
  have KB2 := Lib.hid kb2
  clear hq2 hO2 hfp2 kb2 kd2 hQ hnot k0 k1 f0 f1 hs2
  go_wp2_with fail
  have e := ((KB2.out.set_ 0 (.string s)).set_ 1 (.int .i64 x))
  have e0 := e.cell 0
  have e1 := e.cell 1
  simp only [List.setIfInBounds_toArray, List.set_cons_zero, List.set_cons_succ, List.getElem?_toArray, List.getElem?_cons_succ, List.getElem?_cons_zero] at e0 e1
  have hO3 : Only (Qfp q m sv rows) w w2 := ((((Only.of_below (F := Qfp q m sv rows) HB.out).trans (Only.of_below (F := Qfp q m sv rows) HB1.out) (fun _ _ h => h)).alloc _).trans HO2.out (fun _ _ h => h))
  have hO4 := (hO3.setCell (p := ⟨w.heap.size, 0, none⟩) (fun h => absurd h (Nat.lt_irrefl _)) (.string s)).setCell (p := ⟨w.heap.size, 1, none⟩) (fun h => absurd h (Nat.lt_irrefl _)) (.int .i64 x)
  have hb3 : Only (fun k => k = w.heap.size) w2 ((w2.setCell ⟨w.heap.size, 0, none⟩ (.string s)).setCell ⟨w.heap.size, 1, none⟩ (.int .i64 x)) :=
    ((Only.refl (fun k => k = w.heap.size) w2).setCell (p := ⟨w.heap.size, 0, none⟩) (fun _ => rfl) (.string s)).setCell (p := ⟨w.heap.size, 1, none⟩) (fun _ => rfl) (.int .i64 x)
  refine bodyPost_ret (v := .tuple #[.agg #[.string s, .int .i64 x], .bool true]) ?_ rfl ⟨rfl, sv', f', ?_, hO4, HF2.out⟩
  · simp [results, Try.results16, go_sem, e0, e1]
  · exact HQ2.out.only hb3 (fun k hk e => HN.out k (by rw [e]; exact Nat.le_refl _) (HF2.out k hk))
end Go.Proofs.Ytannmemocaibiaa
