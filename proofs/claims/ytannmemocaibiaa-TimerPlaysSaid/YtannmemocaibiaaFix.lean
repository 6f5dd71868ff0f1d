/-
  The walks of heap.Fix, heap.Push and heap.Remove.
-/
import Derived.Test.YtannmemocaibiaaUp
namespace Go.Proofs.Ytannmemocaibiaa
open Go.RowKit

def fixL (rows : List Row) (i n : Nat) : List Row := if i < (downL rows i n).2 then (downL rows i n).1 else upL (downL rows i n).1 i
def removeL (rows : List Row) (i : Nat) : List Row :=
  (if rows.length - 1 = i then rows else fixL (swapL rows i (rows.length - 1)) i (rows.length - 1)).dropLast

theorem downF_length : ∀ (f : Nat) (l : List Row) (i n : Nat), (downF f l i n).1.length = l.length
  | 0, _, _, _ => rfl
  | f + 1, l, i, n => by
    simp only [downF]
    split
    · rfl
    · split
      · rw [downF_length f, swapL_length]
      · rfl
theorem downF_mem : ∀ (f : Nat) (l : List Row) (i n : Nat), n ≤ l.length → ∀ r, r ∈ (downF f l i n).1 ↔ r ∈ l
  | 0, _, _, _, _, _ => Iff.rfl
  | f + 1, l, i, n, hn, r => by
    simp only [downF]
    split
    · exact Iff.rfl
    · have := kid_lt (l := l) (i := i) (n := n) (by omega)
      split
      · rw [downF_mem f _ _ _ (by rw [swapL_length]; omega), swapL_mem (by omega) (by omega)]
      · exact Iff.rfl
theorem downL_length (l : List Row) (i n : Nat) : (downL l i n).1.length = l.length := downF_length _ _ _ _
theorem downL_mem (l : List Row) (i n : Nat) (hn : n ≤ l.length) (r : Row) : r ∈ (downL l i n).1 ↔ r ∈ l := downF_mem _ _ _ _ hn r
theorem upL_len (l : List Row) (j : Nat) : (upL l j).length = l.length := upL_length _ _ _
theorem upL_mem (l : List Row) (j : Nat) (h : j < l.length) (r : Row) : r ∈ upL l j ↔ r ∈ l := upF_mem _ _ _ h r
theorem fixL_length (l : List Row) (i n : Nat) : (fixL l i n).length = l.length := by
  unfold fixL; split
  · exact downL_length _ _ _
  · rw [upL_len, downL_length]
theorem fixL_mem (l : List Row) (i n : Nat) (hi : i < l.length) (hn : n ≤ l.length) (r : Row) : r ∈ fixL l i n ↔ r ∈ l := by
  unfold fixL; split
  · exact downL_mem _ _ _ hn r
  · rw [upL_mem _ _ (by rw [downL_length]; exact hi), downL_mem _ _ _ hn]
theorem Hfp_of_mem {sv : Value} {l l' : List Row} (h : ∀ r, r ∈ l' ↔ r ∈ l) (k : Nat) : Hfp sv l' k ↔ Hfp sv l k := by
  unfold Hfp; simp only [h]

set_option maxRecDepth 100000 in
set_option maxHeartbeats 1000000 in
theorem len_any (A : Option Addr) (n c : Nat) (w : World) : Calls Try.prog 74 #[.slice A n c] w fun e w' => e = .returned (.int .i64 n) ∧ w = w' := by
  go_enter Try.func74, Try.ntmps74
  go_wp2
  go_ret
  exact ⟨rfl, rfl⟩

theorem len_row {sv : Value} {n : Nat} {xs : List Value} {w : World} (h : w.ownsRow 0 64 1 sv n xs) : Calls Try.prog 74 #[sv] w fun e w' => e = .returned (.int .i64 n) ∧ w = w' := by
  obtain ⟨A, c, rfl⟩ := row_slice h
  exact len_any A n c w

set_option maxRecDepth 100000 in
set_option maxHeartbeats 2000000 in
theorem fix_any (q m : Nat) (sv : Value) (rows : List Row) (i : Nat) (w : World) (h : HeapAt w q m sv rows) (hi : i < rows.length) (hn : rows.length ≤ 1000000) :
    Calls Try.prog 27 #[.iface 69 (.pointer (some ⟨q, 0, none⟩)), .int .i64 i] w fun e w' => e = .returned (.tuple #[]) ∧ HeapAt w' q m sv (fixL rows i rows.length) ∧ Only (Hfp sv rows) w w' := by
  have Hh := Lib.hid h
  have hl := method_len (h.q.cell 0)
  clear h
  go_enter Try.func27, Try.ntmps27
  go_wp2_with fail
  refine (len_row Hh.out.row).mono ?_
  rintro e w' ⟨rfl, rfl⟩
  go_wp2_with fail
  refine (down_any q m sv rows i rows.length w Hh.out (by omega) (Nat.le_refl _) hn).mono ?_
  rintro e w1 ⟨rfl, h1, hO1⟩
  have H1 := Lib.hid h1
  have HO1 := Lib.hid hO1
  clear h1 hO1 hl
  cases hd : decide (i < (downL rows i rows.length).2)
  · have Hd := Lib.hid hd
    have hfl := fixL_length rows i rows.length
    clear hd
    go_wp2_with fail
    refine (up_any q m sv _ i w1 H1.out (by rw [downL_length]; exact hi) (by rw [downL_length]; exact hn)).mono ?_
    rintro e w2 ⟨rfl, h2, hO2⟩
    have H2 := Lib.hid h2
    have HO2 := Lib.hid hO2
    clear h2 hO2
    go_wp2_with fail
    go_end0
    refine ⟨rfl, ?_, HO1.out.trans HO2.out (fun k _ hk => (Hfp_of_mem (downL_mem _ _ _ (Nat.le_refl _)) k).1 hk)⟩
    unfold fixL; rw [if_neg (of_decide_eq_false Hd.out)]; exact H2.out
  · have Hd := Lib.hid hd
    clear hd
    go_wp2_with fail
    go_end0
    refine ⟨rfl, ?_, HO1.out⟩
    unfold fixL; rw [if_pos (of_decide_eq_true Hd.out)]; exact H1.out

set_option maxRecDepth 100000 in
set_option maxHeartbeats 2000000 in
theorem hpush_any (q m p : Nat) (sv : Value) (rows : List Row) (s : ByteArray) (x : Int) (o : Value) (w : World) (h : HeapAt w q m sv rows) (hp : Blk w p 67 #[.string s, .int .i64 x, o]) (hn : rows.length < 1000000) (hf : ∀ r ∈ rows, r.p ≠ p) :
    Calls Try.prog 28 #[.iface 69 (.pointer (some ⟨q, 0, none⟩)), .iface 64 (.pointer (some ⟨p, 0, none⟩))] w fun e w' => e = .returned (.tuple #[]) ∧
      ∃ sv', HeapAt w' q m sv' (upL (rows ++ [⟨p, s, x⟩]) rows.length) ∧ Only (fun k => Hfp sv rows k ∨ k = q ∨ k = p) w w' ∧ (sv'.ownBlock = sv.ownBlock ∨ ∃ k, sv'.ownBlock = some k ∧ w.heap.size ≤ k) := by
  have Hh := Lib.hid h
  have Hp := Lib.hid hp
  have Hf := Lib.hid hf
  have hpu := method_push q w
  clear h hp hf
  go_enter Try.func28, Try.ntmps28
  go_wp2_with fail
  refine (push_any q m p sv rows s x o w Hh.out Hp.out (by omega) Hf.out).mono ?_
  rintro e w1 ⟨rfl, sv', h1, hO1, hat⟩
  have H1 := Lib.hid h1
  have HO1 := Lib.hid hO1
  have Hat := Lib.hid hat
  clear h1 hO1 hat hpu
  have hl := method_len (H1.out.q.cell 0)
  go_wp2_with fail
  refine (len_row H1.out.row).mono ?_
  rintro e w' ⟨rfl, rfl⟩
  have e1 : ((rows ++ [(⟨p, s, x⟩ : Row)]).length : Int) = (rows.length : Int) + 1 := by simp
  rw [e1]
  clear e1 hl
  go_wp2_with fail
  refine (up_any q m sv' _ rows.length w1 H1.out (by simp) (by simp; omega)).mono ?_
  rintro e w2 ⟨rfl, h2, hO2⟩
  have H2 := Lib.hid h2
  have HO2 := Lib.hid hO2
  clear h2 hO2
  go_wp2_with fail
  go_end0
  refine ⟨rfl, sv', H2.out, HO1.out.trans HO2.out ?_, Hat.out⟩
  rintro k hk (hb | ⟨r, hr, rfl⟩)
  · rcases Hat.out with e | ⟨k', e, hk'⟩
    · exact .inl (.inl (by rw [← e]; exact hb))
    · rw [e] at hb; injection hb with hb; omega
  · rcases List.mem_append.1 hr with hr | hr
    · exact .inl (.inr ⟨r, hr, rfl⟩)
    · simp only [List.mem_singleton] at hr; subst hr; exact .inr (.inr rfl)

theorem removeL_length (rows : List Row) (i : Nat) : (removeL rows i).length = rows.length - 1 := by
  unfold removeL
  rw [List.length_dropLast]
  split
  · rfl
  · rw [fixL_length, swapL_length]
theorem removeL_sub {rows : List Row} {i : Nat} (hi : i < rows.length) {r : Row} (hr : r ∈ removeL rows i) : r ∈ rows := by
  unfold removeL at hr
  have := (List.dropLast_sublist _).subset hr
  split at this
  · exact this
  · rw [fixL_mem _ _ _ (by rw [swapL_length]; exact hi) (by rw [swapL_length]; omega), swapL_mem hi (by omega)] at this
    exact this

set_option maxRecDepth 100000 in
set_option maxHeartbeats 2000000 in
theorem remove_any (q m : Nat) (sv : Value) (rows : List Row) (i : Nat) (w : World) (h : HeapAt w q m sv rows) (hi : i < rows.length) (hn : rows.length ≤ 1000000) :
    Calls Try.prog 29 #[.iface 69 (.pointer (some ⟨q, 0, none⟩)), .int .i64 i] w fun e w' => ∃ v, e = .returned v ∧
      ∃ sv', HeapAt w' q m sv' (removeL rows i) ∧ Only (fun k => Hfp sv rows k ∨ k = q) w w' ∧ sv'.ownBlock = sv.ownBlock := by
  have Hh := Lib.hid h
  have hl := method_len (h.q.cell 0)
  clear h
  go_enter Try.func29, Try.ntmps29
  go_wp2_with fail
  refine (len_row Hh.out.row).mono ?_
  rintro e w' ⟨rfl, rfl⟩
  obtain ⟨n, hn1⟩ : ∃ n, rows.length = n + 1 := ⟨rows.length - 1, by omega⟩
  have e1 : (rows.length : Int) = (n : Int) + 1 := by omega
  rw [e1]
  have Hn1 := Lib.hid hn1
  have hin : i ≤ n := by omega
  have hn2 : n + 1 ≤ 1000000 := by omega
  clear e1 hl hn1 hi hn
  by_cases hni : n = i
  · subst hni
    have hb : ((n : Int) != (n : Int)) = false := by simp
    have hpo := method_pop q w
    go_wp2_with fail
    obtain ⟨l, r, hlr⟩ : ∃ l r, rows = l ++ [r] := ⟨rows.dropLast, rows.getLast (by intro e; rw [e] at Hn1; exact absurd Hn1.out (by simp)), (List.dropLast_concat_getLast _).symm⟩
    have hll : l.length = n := by have := Hn1.out; rw [hlr] at this; simpa using this
    refine (pop_any q m sv l r w (by rw [← hlr]; exact Hh.out) (by omega)).mono ?_
    rintro e w1 ⟨rfl, sv', h1, hO1, hat⟩
    have H1 := Lib.hid h1
    have HO1 := Lib.hid hO1
    have Hat := Lib.hid hat
    have Hlr := Lib.hid hlr
    have Hll := Lib.hid hll
    clear h1 hO1 hat hpo hlr hll
    go_wp2_with fail
    go_ret
    refine ⟨_, rfl, sv', ?_, HO1.out.mono (fun k _ hk => .inr hk), Hat.out⟩
    have : removeL rows n = l := by unfold removeL; rw [if_pos (by have := Hn1.out; omega), Hlr.out]; simp
    rw [this]; exact H1.out
  · have hb : ((n : Int) != (i : Int)) = true := by rw [bne_iff_ne]; omega
    have hsw := method_swap (Hh.out.q.cell 0)
    have hil : i < rows.length := by have := Hn1.out; omega
    have hnl : n < rows.length := by have := Hn1.out; omega
    have Hni := Lib.hid hni
    clear hni
    go_wp2_with fail
    refine (swap_any q m sv rows i n _ Hh.out hil hnl (fun e => Hni.out e.symm)).mono ?_
    rintro e w1 ⟨rfl, h1, hO1⟩
    have H1 := Lib.hid h1
    have HO1 := Lib.hid hO1
    clear h1 hO1 hsw
    go_wp2_with fail
    refine (down_any q m sv _ i n w1 H1.out hin (by rw [swapL_length]; exact Nat.le_of_lt hnl) (by rw [swapL_length]; have := Hn1.out; omega)).mono ?_
    rintro e w2 ⟨rfl, h2, hO2⟩
    have H2 := Lib.hid h2
    have HO2 := Lib.hid hO2
    clear h2 hO2
    generalize hL : swapL rows i n = L
    rw [hL] at H2 HO2
    have hLlen : L.length = n + 1 := by rw [← hL, swapL_length]; exact Hn1.out
    have hLm : ∀ r, r ∈ L ↔ r ∈ rows := fun r => by rw [← hL]; exact swapL_mem hil hnl r
    have HL := Lib.hid hL
    have HLl := Lib.hid hLlen
    have HLm := Lib.hid hLm
    clear hL hLlen hLm
    have fin : ∀ (w3 : World) (T : List Row), HeapAt w3 q m sv T → T = fixL L i n → Only (Hfp sv rows) w w3 →
        Calls Try.prog 77 #[.pointer (some ⟨q, 0, none⟩)] w3 fun e w' => ∃ v, e = .returned v ∧ ∃ sv', HeapAt w' q m sv' (removeL rows i) ∧ Only (fun k => Hfp sv rows k ∨ k = q) w w' ∧ sv'.ownBlock = sv.ownBlock := by
      intro w3 T hT hTe hO
      have hTl : T.length = n + 1 := by rw [hTe, fixL_length]; exact HLl.out
      have hne : T ≠ [] := by intro e; rw [e] at hTl; exact absurd hTl (by simp)
      have hlr : T = T.dropLast ++ [T.getLast hne] := (List.dropLast_concat_getLast hne).symm
      refine (pop_any q m sv T.dropLast (T.getLast hne) w3 (by rw [← hlr]; exact hT) (by rw [List.length_dropLast]; omega)).mono ?_
      rintro e w4 ⟨rfl, sv', h4, hO4, hat⟩
      refine ⟨_, rfl, sv', ?_, (hO.mono (fun k _ hk => .inl hk)).trans hO4 (fun k _ hk => .inr hk), hat⟩
      have : removeL rows i = T.dropLast := by
        unfold removeL; rw [if_neg (by have := Hn1.out; have := Hni.out; omega), hTe, ← HL.out]
        have : rows.length - 1 = n := by have := Hn1.out; omega
        rw [this]
      rw [this]; exact h4
    have Fin := Lib.hid fin
    clear fin
    cases hd : decide (i < (downL L i n).2)
    · have Hd := Lib.hid hd
      clear hd
      go_wp2_with fail
      refine (up_any q m sv _ i w2 H2.out (by rw [downL_length, HLl.out]; omega) (by rw [downL_length, HLl.out]; omega)).mono ?_
      rintro e w3 ⟨rfl, h3, hO3⟩
      have H3 := Lib.hid h3
      have HO3 := Lib.hid hO3
      clear h3 hO3
      have hpo := method_pop q w3
      go_wp2_with fail
      refine (Fin.out w3 _ H3.out (by unfold fixL; rw [if_neg (of_decide_eq_false Hd.out)]) ((HO1.out.trans HO2.out (fun k _ hk => (Hfp_of_mem HLm.out k).1 hk)).trans HO3.out (fun k _ hk => (Hfp_of_mem HLm.out k).1 ((Hfp_of_mem (downL_mem _ _ _ (by rw [HLl.out]; omega)) k).1 hk)))).mono ?_
      rintro e w4 ⟨v, rfl, hv⟩
      have HV := Lib.hid hv
      clear hv hpo
      go_wp2_with fail
      go_ret
      exact ⟨_, rfl, HV.out⟩
    · have Hd := Lib.hid hd
      clear hd
      have hpo := method_pop q w2
      go_wp2_with fail
      refine (Fin.out w2 _ H2.out (by unfold fixL; rw [if_pos (of_decide_eq_true Hd.out)]) (HO1.out.trans HO2.out (fun k _ hk => (Hfp_of_mem HLm.out k).1 hk))).mono ?_
      rintro e w4 ⟨v, rfl, hv⟩
      have HV := Lib.hid hv
      clear hv hpo
      go_wp2_with fail
      go_ret
      exact ⟨_, rfl, HV.out⟩
end Go.Proofs.Ytannmemocaibiaa
