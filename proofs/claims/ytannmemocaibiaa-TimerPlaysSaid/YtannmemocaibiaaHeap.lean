/-
  The heap of timers in memory, and the walks of its five methods.
-/
import Derived.Test.YtannmemocaibiaaCmp
import Derived.RegionTactic
import Derived.ChangeAlike
namespace Go.Proofs.Ytannmemocaibiaa
open Go.RowKit

/-- A timer: its block, its name, its time. -/
structure Row where
  p : Nat
  name : ByteArray
  tm : Int
instance : Inhabited Row := ⟨⟨0, ByteArray.empty, 0⟩⟩

def ptrs (rows : List Row) : List Value := rows.map fun r => .pointer (some ⟨r.p, 0, none⟩)
def Ones (w : World) (rows : List Row) : Prop := ∀ (i : Nat) (r : Row), rows[i]? = some r → Blk w r.p 67 #[.string r.name, .int .i64 r.tm, .int .i64 i]
structure HeapAt (w : World) (q m : Nat) (sv : Value) (rows : List Row) : Prop where
  q : Blk w q 63 #[sv, .map (some m)]
  row : w.ownsRow 0 64 1 sv rows.length (ptrs rows)
  ones : Ones w rows

def lessR (a b : Row) : Bool := decide (cmpD (a.name, a.tm) (b.name, b.tm) < 0)
def lessL (rows : List Row) (i j : Nat) : Bool := lessR (rows.getD i default) (rows.getD j default)
def swapL (rows : List Row) (i j : Nat) : List Row := (rows.set i (rows.getD j default)).set j (rows.getD i default)

theorem row_form {w : World} {sv : Value} {rows : List Row} (h : w.ownsRow 0 64 1 sv rows.length (ptrs rows)) (hn : 0 < rows.length) :
    ∃ B cap cur, sv = .slice (some ⟨B, 0, none⟩) rows.length cap ∧ Blk w B 64 cur ∧ rows.length ≤ cap ∧ cap ≤ maxLen ∧ cur.size = cap ∧ cur.toList.take rows.length = ptrs rows := by
  rcases h.2 with ⟨_, h0⟩ | ⟨g, cap, cur, hv, _, hh, h1, h2, h3, h4⟩
  · omega
  · exact ⟨g, cap, cur, hv, hh, h1, h2, by simpa using h3, by simpa using h4⟩

theorem ptrs_get {rows : List Row} {i : Nat} (hi : i < rows.length) : (ptrs rows)[i]? = some (.pointer (some ⟨(rows.getD i default).p, 0, none⟩)) := by
  simp [ptrs, hi]
theorem cur_get {rows : List Row} {cur : Array Value} {i : Nat} (h : cur.toList.take rows.length = ptrs rows) (hi : i < rows.length) :
    cur[i]? = some (.pointer (some ⟨(rows.getD i default).p, 0, none⟩)) := by
  rw [← ptrs_get hi, ← h, List.getElem?_take_of_lt hi, Array.getElem?_toList]
theorem Ones.at_ {w : World} {rows : List Row} (h : Ones w rows) {i : Nat} (hi : i < rows.length) :
    Blk w (rows.getD i default).p 67 #[.string (rows.getD i default).name, .int .i64 (rows.getD i default).tm, .int .i64 i] :=
  h i _ (by simp [hi])

set_option maxRecDepth 100000 in
set_option maxHeartbeats 400000 in
theorem less_cells (B n cap i j pi pj : Nat) (s t : ByteArray) (x y : Int) (w : World) (hi : i < n) (hj : j < n) (_hn : n ≤ 9223372036854775807)
    (hbi : w.cell? ⟨B, i, none⟩ = some (.pointer (some ⟨pi, 0, none⟩))) (hbj : w.cell? ⟨B, j, none⟩ = some (.pointer (some ⟨pj, 0, none⟩)))
    (h0 : w.cell? ⟨pi, 0, none⟩ = some (.string s)) (h1 : w.cell? ⟨pi, 1, none⟩ = some (.int .i64 x))
    (g0 : w.cell? ⟨pj, 0, none⟩ = some (.string t)) (g1 : w.cell? ⟨pj, 1, none⟩ = some (.int .i64 y)) :
    Calls Try.prog 75 #[.slice (some ⟨B, 0, none⟩) n cap, .int .i64 i, .int .i64 j] w fun e w' => e = .returned (.bool (decide (cmpD (s, x) (t, y) < 0))) ∧ Below w.heap.size w w' := by
  go_enter Try.func75, Try.ntmps75
  go_wp2
  refine region_tail 14 (by kernel_rfl) (by kernel_rfl) ?_
  simp only [List.take_succ_cons, List.take_zero, List.drop_succ_cons, List.drop_zero]
  repeat still_step
  refine wpStill_nil ?_
  go_wp2_with fail
  refine (compare_any _ _ _ _ _).mono ?_
  rintro e w' ⟨rfl, hb⟩
  go_wp2
  go_ret
  exact ⟨rfl, (Below.refl _ _).drew.trans hb⟩

theorem less_any (sv : Value) (rows : List Row) (i j : Nat) (w : World) (hi : i < rows.length) (hj : j < rows.length) (hrow : w.ownsRow 0 64 1 sv rows.length (ptrs rows)) (ho : Ones w rows) :
    Calls Try.prog 75 #[sv, .int .i64 i, .int .i64 j] w fun e w' => e = .returned (.bool (lessL rows i j)) ∧ Below w.heap.size w w' := by
  obtain ⟨B, cap, cur, rfl, hB, hc, hm, hs, ht⟩ := row_form hrow (by omega)
  unfold maxLen at hm
  have bi := ho.at_ hi
  have bj := ho.at_ hj
  exact less_cells B rows.length cap i j _ _ _ _ _ _ w hi hj (by omega) ((hB.cell i).trans (cur_get ht hi)) ((hB.cell j).trans (cur_get ht hj)) (bi.cell 0) (bi.cell 1) (bj.cell 0) (bj.cell 1)

set_option maxRecDepth 100000 in
set_option maxHeartbeats 1000000 in
theorem swap_cells (B n cap i j pi pj : Nat) (cur : Array Value) (s t x y oi oj : Value) (w : World) (hi : i < n) (hj : j < n) (hij : i ≠ j) (hp : pi ≠ pj) (_hn : n ≤ 9223372036854775807)
    (hB : Blk w B 64 cur) (hci : cur[i]? = some (.pointer (some ⟨pi, 0, none⟩))) (hcj : cur[j]? = some (.pointer (some ⟨pj, 0, none⟩)))
    (hpi : Blk w pi 67 #[s, x, oi]) (hpj : Blk w pj 67 #[t, y, oj]) :
    Calls Try.prog 76 #[.slice (some ⟨B, 0, none⟩) n cap, .int .i64 i, .int .i64 j] w fun e w' => e = .returned (.tuple #[]) ∧
      Blk w' B 64 ((cur.setIfInBounds i (.pointer (some ⟨pj, 0, none⟩))).setIfInBounds j (.pointer (some ⟨pi, 0, none⟩))) ∧ Blk w' pi 67 #[s, x, .int .i64 j] ∧ Blk w' pj 67 #[t, y, .int .i64 i] ∧
      Only (fun k => k = B ∨ k = pi ∨ k = pj) w w' := by
  have n1 : pi ≠ B := Blk.ne_ hpi hB (by decide)
  have n2 : pj ≠ B := Blk.ne_ hpj hB (by decide)
  have hbi := (hB.cell i).trans hci
  have hbj := (hB.cell j).trans hcj
  have fbi := hB.frozen i
  have fbj := hB.frozen j
  have HB := Lib.hid hB
  have HI := Lib.hid hci
  have HJ := Lib.hid hcj
  have HPI := Lib.hid hpi
  have HPJ := Lib.hid hpj
  clear hB hci hcj hpi hpj
  go_enter Try.func76, Try.ntmps76
  go_wp2
  go_region
  go_wp2
  generalize hW : (w.setCell { block := B, off := i } (Value.pointer (some { block := pj, off := 0 }))).setCell { block := B, off := j } (Value.pointer (some { block := pi, off := 0 })) = W
  have kB : Blk W B 64 ((cur.setIfInBounds i (.pointer (some ⟨pj, 0, none⟩))).setIfInBounds j (.pointer (some ⟨pi, 0, none⟩))) := by rw [← hW]; exact (HB.out.set_ i _).set_ j _
  have kI : Blk W pi 67 #[s, x, oi] := by rw [← hW]; exact (HPI.out.far (p := ⟨B, i, none⟩) n1 _).far (p := ⟨B, j, none⟩) n1 _
  have kJ : Blk W pj 67 #[t, y, oj] := by rw [← hW]; exact (HPJ.out.far (p := ⟨B, i, none⟩) n2 _).far (p := ⟨B, j, none⟩) n2 _
  have kO : Only (fun k => k = B ∨ k = pi ∨ k = pj) w W := by rw [← hW]; exact ((Only.refl _ _).setCell (fun _ => .inl rfl) _).setCell (fun _ => .inl rfl) _
  have hsz : i < cur.size ∧ j < cur.size := ⟨(Array.getElem?_eq_some_iff.1 HI.out).1, (Array.getElem?_eq_some_iff.1 HJ.out).1⟩
  have c1 : W.cell? ⟨B, i, none⟩ = some (.pointer (some ⟨pj, 0, none⟩)) := (kB.cell i).trans (by rw [Array.getElem?_setIfInBounds, if_neg (Ne.symm hij), Array.getElem?_setIfInBounds]; simp [hsz.1])
  have c2 : W.cell? ⟨B, j, none⟩ = some (.pointer (some ⟨pi, 0, none⟩)) := (kB.cell j).trans (by rw [Array.getElem?_setIfInBounds]; simp [hsz.2])
  have c3 := kI.cell 2
  have c4 := kJ.cell 2
  have c5 := kI.frozen 2
  have c6 := kJ.frozen 2
  simp only [List.getElem?_toArray, List.getElem?_cons_succ, List.getElem?_cons_zero] at c3 c4
  have KB := Lib.hid kB
  have KI := Lib.hid kI
  have KJ := Lib.hid kJ
  have KO := Lib.hid kO
  clear hW kB kI kJ kO hbi hbj fbi fbj hsz
  go_region
  go_wp2
  go_end0
  have zB := ((KB.out.drew.far (p := ⟨pj, 2, none⟩) (Ne.symm n2) (.int .i64 i)).far (p := ⟨pi, 2, none⟩) (Ne.symm n1) (.int .i64 j))
  have zI := ((KI.out.drew.far (p := ⟨pj, 2, none⟩) hp (.int .i64 i)).set_ 2 (.int .i64 j))
  have zJ := ((KJ.out.drew.set_ 2 (.int .i64 i)).far (p := ⟨pi, 2, none⟩) (Ne.symm hp) (.int .i64 j))
  exact ⟨rfl, zB, zI, zJ, ((KO.out.setCell (p := ⟨pj, 2, none⟩) (fun _ => .inr (.inr rfl)) _).setCell (p := ⟨pi, 2, none⟩) (fun _ => .inr (.inl rfl)) _).drew.drew⟩

def Hfp (sv : Value) (rows : List Row) (k : Nat) : Prop := sv.ownBlock = some k ∨ ∃ r ∈ rows, r.p = k

theorem Ones.inj {w : World} {rows : List Row} (h : Ones w rows) {i j : Nat} {r r' : Row} (hi : rows[i]? = some r) (hj : rows[j]? = some r') (hp : r.p = r'.p) : i = j := by
  have h1 := h i r hi
  have h2 := h j r' hj
  rw [hp] at h1
  have h3 := Blk.eq_ h1 h2
  simp at h3
  omega

theorem swapL_length (rows : List Row) (i j : Nat) : (swapL rows i j).length = rows.length := by simp [swapL]
theorem swapL_get (rows : List Row) {i j : Nat} (hi : i < rows.length) (hj : j < rows.length) (k : Nat) :
    (swapL rows i j)[k]? = if k = j then some (rows.getD i default) else if k = i then some (rows.getD j default) else rows[k]? := by
  unfold swapL
  rw [List.getElem?_set, List.getElem?_set]
  by_cases h1 : j = k
  · subst h1; simp [hj]
  · rw [if_neg h1, if_neg (Ne.symm h1)]
    by_cases h2 : i = k
    · subst h2; simp [hi]
    · rw [if_neg h2, if_neg (Ne.symm h2)]
theorem swapL_mem {rows : List Row} {i j : Nat} (hi : i < rows.length) (hj : j < rows.length) (r : Row) : r ∈ swapL rows i j ↔ r ∈ rows := by
  have key : ∀ rows : List Row, i < rows.length → j < rows.length → r ∈ swapL rows i j → r ∈ rows := by
    intro rows hi hj h
    obtain ⟨k, hk⟩ := List.mem_iff_getElem?.1 h
    rw [swapL_get rows hi hj] at hk
    split at hk
    · injection hk with hk; rw [← hk]; simp [hi]
    · split at hk
      · injection hk with hk; rw [← hk]; simp [hj]
      · exact List.mem_iff_getElem?.2 ⟨k, hk⟩
  refine ⟨key rows hi hj, fun h => ?_⟩
  obtain ⟨k, hk⟩ := List.mem_iff_getElem?.1 h
  by_cases hki : k = i
  · subst hki
    refine List.mem_iff_getElem?.2 ⟨j, ?_⟩
    rw [swapL_get rows hi hj, if_pos rfl, ← hk]; simp [hi]
  · by_cases hkj : k = j
    · subst hkj
      refine List.mem_iff_getElem?.2 ⟨i, ?_⟩
      rw [swapL_get rows hi hj, if_neg (Ne.symm hki), if_pos rfl, ← hk]; simp [hj]
    · exact List.mem_iff_getElem?.2 ⟨k, by rw [swapL_get rows hi hj, if_neg hkj, if_neg hki]; exact hk⟩
theorem Hfp_swap {sv : Value} {rows : List Row} {i j : Nat} (hi : i < rows.length) (hj : j < rows.length) (k : Nat) : Hfp sv (swapL rows i j) k ↔ Hfp sv rows k := by
  unfold Hfp
  simp only [swapL_mem hi hj]

theorem swap_any (q m : Nat) (sv : Value) (rows : List Row) (i j : Nat) (w : World) (h : HeapAt w q m sv rows) (hi : i < rows.length) (hj : j < rows.length) (hij : i ≠ j) :
    Calls Try.prog 76 #[sv, .int .i64 i, .int .i64 j] w fun e w' => e = .returned (.tuple #[]) ∧ HeapAt w' q m sv (swapL rows i j) ∧ Only (Hfp sv rows) w w' := by
  obtain ⟨B, cap, cur, rfl, hB, hc, hm, hs, ht⟩ := row_form h.row (by omega)
  have hm' := hm
  unfold maxLen at hm
  have bi := h.ones.at_ hi
  have bj := h.ones.at_ hj
  have gi : rows[i]? = some (rows.getD i default) := by simp [hi]
  have gj : rows[j]? = some (rows.getD j default) := by simp [hj]
  refine (swap_cells B rows.length cap i j _ _ cur _ _ _ _ _ _ w hi hj hij (fun e => hij (h.ones.inj gi gj e)) (by omega) hB (cur_get ht hi) (cur_get ht hj) bi bj).mono ?_
  rintro e w' ⟨rfl, kB, kI, kJ, kO⟩
  have kO' : Only (Hfp (.slice (some ⟨B, 0, none⟩) rows.length cap) rows) w w' := kO.mono (by
    rintro k _ (rfl | rfl | rfl)
    · exact .inl rfl
    · exact .inr ⟨_, List.mem_iff_getElem?.2 ⟨i, gi⟩, rfl⟩
    · exact .inr ⟨_, List.mem_iff_getElem?.2 ⟨j, gj⟩, rfl⟩)
  refine ⟨rfl, ⟨?_, ?_, ?_⟩, kO'⟩
  · refine h.q.only kO ?_
    rintro (e | e | e)
    · exact Blk.ne_ h.q hB (by decide) e
    · exact Blk.ne_ h.q bi (by decide) e
    · exact Blk.ne_ h.q bj (by decide) e
  · rw [swapL_length]
    refine ⟨by simp [ptrs, swapL_length], .inr ⟨B, cap, _, rfl, Nat.zero_le _, kB, hc, hm', by simp [hs], ?_⟩⟩
    refine List.ext_getElem? fun k => ?_
    rw [Nat.mul_one]
    rcases Nat.lt_or_ge k rows.length with hk | hk
    · rw [List.getElem?_take_of_lt hk, Array.getElem?_toList, ptrs, List.getElem?_map, swapL_get rows hi hj, Array.getElem?_setIfInBounds, Array.getElem?_setIfInBounds]
      by_cases h1 : j = k
      · subst h1; simp [hs]; omega
      · rw [if_neg h1, if_neg (Ne.symm h1)]
        by_cases h2 : i = k
        · subst h2; simp [hs]; omega
        · rw [if_neg h2, if_neg (Ne.symm h2), cur_get ht hk]; simp [hk]
    · rw [List.getElem?_eq_none (by simp; omega), List.getElem?_eq_none (by simp [ptrs, swapL_length]; omega)]
  · intro k r hr
    rw [swapL_get rows hi hj] at hr
    by_cases h1 : k = j
    · rw [if_pos h1] at hr
      injection hr with hr
      rw [← hr, h1]; exact kI
    · rw [if_neg h1] at hr
      by_cases h2 : k = i
      · rw [if_pos h2] at hr
        injection hr with hr
        rw [← hr, h2]; exact kJ
      · rw [if_neg h2] at hr
        refine (h.ones k r hr).only kO ?_
        rintro (e | e | e)
        · exact Blk.ne_ (h.ones k r hr) hB (by decide) e
        · exact h2 (h.ones.inj hr gi e)
        · exact h1 (h.ones.inj hr gj e)

theorem row_below {w w' : World} {base : Nat} {e : TypeId} {size : Nat} {v : Value} {n : Nat} {xs : List Value} (h : w.ownsRow base e size v n xs) (hb : Below w.heap.size w w') : w'.ownsRow base e size v n xs :=
  h.kept (row := none) ⟨hb.os, hb.tape, hb.output, hb.size, fun k hk _ => hb.block k hk⟩ (by cases v.ownBlock <;> simp)
theorem row_only {F : Nat → Prop} {w w' : World} {base : Nat} {e : TypeId} {size : Nat} {v : Value} {n : Nat} {xs : List Value} (h : w.ownsRow base e size v n xs) (hb : Only F w w') (hF : ∀ k, v.ownBlock = some k → ¬ F k) : w'.ownsRow base e size v n xs := by
  refine ⟨h.1, ?_⟩
  rcases h.2 with h2 | ⟨g, cap, cur, hv, h1, h2, h3⟩
  · exact .inl h2
  · exact .inr ⟨g, cap, cur, hv, h1, Blk.only (t := e) h2 hb (hF g (by rw [hv]; rfl)), h3⟩
theorem HeapAt.below {w w' : World} {q m : Nat} {sv : Value} {rows : List Row} (h : HeapAt w q m sv rows) (hb : Below w.heap.size w w') : HeapAt w' q m sv rows :=
  ⟨h.q.below' hb, row_below h.row hb, fun i r hr => (h.ones i r hr).below' hb⟩
theorem HeapAt.only {F : Nat → Prop} {w w' : World} {q m : Nat} {sv : Value} {rows : List Row} (h : HeapAt w q m sv rows) (hb : Only F w w') (hF : ∀ k, k = q ∨ Hfp sv rows k → ¬ F k) : HeapAt w' q m sv rows :=
  ⟨h.q.only hb (hF q (.inl rfl)), row_only h.row hb (fun k hk => hF k (.inr (.inl hk))), fun i r hr => (h.ones i r hr).only hb (hF r.p (.inr (.inr ⟨r, List.mem_iff_getElem?.2 ⟨i, hr⟩, rfl⟩)))⟩
end Go.Proofs.Ytannmemocaibiaa
