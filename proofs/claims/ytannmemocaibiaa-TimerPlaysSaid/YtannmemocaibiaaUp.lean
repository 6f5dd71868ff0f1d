/-
  The walks of heap.up and heap.down.
-/
import Derived.Test.YtannmemocaibiaaPush
namespace Go.Proofs.Ytannmemocaibiaa
open Go.RowKit

def upF : Nat → List Row → Nat → List Row
  | 0, l, _ => l
  | f + 1, l, j => if j = 0 then l else if lessL l j ((j - 1) / 2) then upF f (swapL l ((j - 1) / 2) j) ((j - 1) / 2) else l
def upL (l : List Row) (j : Nat) : List Row := upF j l j

theorem upF_enough : ∀ (f : Nat) (l : List Row) (j : Nat), j ≤ f → upF f l j = upF j l j
  | 0, l, j, h => by have : j = 0 := by omega
                     subst this; rfl
  | f + 1, l, 0, _ => by simp [upF]
  | f + 1, l, j + 1, h => by
    simp only [upF]
    split
    · rfl
    · split
      · rw [upF_enough f _ _ (by omega), upF_enough j _ _ (by omega)]
      · rfl
theorem upL_eq (l : List Row) (j : Nat) : upL l j = if j = 0 then l else if lessL l j ((j - 1) / 2) then upL (swapL l ((j - 1) / 2) j) ((j - 1) / 2) else l := by
  cases j with
  | zero => rfl
  | succ j =>
    unfold upL
    simp only [upF]
    split
    · rfl
    · split
      · rw [upF_enough j _ _ (by omega)]
      · rfl

theorem method_row {P : Program} {n : Nat} {t e : TypeId} {nm : String} {f : FuncId} {q : Addr} {w : World} {sv : Value} (h : w.cell? q = some sv) (ht : P.underlying t = some (.pointer e)) (hg : ∀ w, (isAgg e).run P w = .ok false w) {m : Method}
    (hi : (P.info? t).map (fun i => i.methods.find? (·.name == nm)) = some (some m)) (hp : m.path = #[]) (hf : m.func = some (f, false)) :
    (method (n + 1) t (.pointer (some q)) nm).run P w = .ok (f, sv) w := by
  obtain ⟨i, hi1, hi2⟩ := Option.map_eq_some_iff.1 hi
  have hs : ∀ nn, (Builtin.ssaWrapNilChk_ #[t] t #[.pointer (some q), strVal "", strVal nn]).run P w = .ok (.pointer (some q)) w := fun _ => rfl
  unfold method
  simp only [typeInfo, Sem.run_bind, run_program, Result.andThen_ok, hi1, Sem.run_pure, hi2, hp, hf, follow, receiverAt, run_underlying ht, Place.get]
  simp [hs, asAddr, loadVar, hg, h]
theorem method_less {q : Nat} {w : World} {sv : Value} (h : w.cell? ⟨q, 0, none⟩ = some sv) : (method 223 69 (.pointer (some ⟨q, 0, none⟩)) "Less").run Try.prog w = .ok (75, sv) w :=
  method_row h Try.underlying69 (fun _ => by kernel_rfl) (m := { name := "Less", sig := 85, path := #[], func := some (75, false) }) (by kernel_rfl) rfl rfl
theorem method_swap {q : Nat} {w : World} {sv : Value} (h : w.cell? ⟨q, 0, none⟩ = some sv) : (method 223 69 (.pointer (some ⟨q, 0, none⟩)) "Swap").run Try.prog w = .ok (76, sv) w :=
  method_row h Try.underlying69 (fun _ => by kernel_rfl) (m := { name := "Swap", sig := 79, path := #[], func := some (76, false) }) (by kernel_rfl) rfl rfl
theorem method_len {q : Nat} {w : World} {sv : Value} (h : w.cell? ⟨q, 0, none⟩ = some sv) : (method 223 69 (.pointer (some ⟨q, 0, none⟩)) "Len").run Try.prog w = .ok (74, sv) w :=
  method_row h Try.underlying69 (fun _ => by kernel_rfl) (m := { name := "Len", sig := 30, path := #[], func := some (74, false) }) (by kernel_rfl) rfl rfl
theorem method_push (q : Nat) (w : World) : (method 223 69 (.pointer (some ⟨q, 0, none⟩)) "Push").run Try.prog w = .ok (78, .pointer (some ⟨q, 0, none⟩)) w := by kernel_rfl
theorem method_pop (q : Nat) (w : World) : (method 223 69 (.pointer (some ⟨q, 0, none⟩)) "Pop").run Try.prog w = .ok (77, .pointer (some ⟨q, 0, none⟩)) w := by kernel_rfl

set_option maxRecDepth 100000 in
set_option maxHeartbeats 1000000 in
theorem up_any (q m : Nat) (sv : Value) (rows : List Row) (j : Nat) (w : World) (h : HeapAt w q m sv rows) (hj : j < rows.length) (hn : rows.length ≤ 1000000) :
    Calls Try.prog 34 #[.iface 69 (.pointer (some ⟨q, 0, none⟩)), .int .i64 j] w fun e w' => e = .returned (.tuple #[]) ∧ HeapAt w' q m sv (upL rows j) ∧ Only (Hfp sv rows) w w' := by
  go_enter Try.func34, Try.ntmps34
  go_wp2
  go_loopw [1] (fun vj wr => ∃ (k : Nat) (rows' : List Row), k < rows.length ∧ vj = .int .i64 k ∧ HeapAt wr q m sv rows' ∧ Only (Hfp sv rows) w wr ∧ upL rows' k = upL rows j ∧ rows'.length = rows.length ∧ (∀ b, Hfp sv rows' b ↔ Hfp sv rows b))
    (fun vj _ => (intOf vj).toNat)
  case atStart => exact ⟨j, rows, hj, rfl, h, Only.refl _ _, rfl, rfl, fun _ => Iff.rfl⟩
  case round =>
    obtain ⟨k, rows', hk, rfl, hh, hO, hup, hlen, hfp⟩ := hrel
    by_cases h0 : k = 0
    · subst h0
      go_wp2_with fail
      go_end0
      refine ⟨rfl, ?_, hO⟩
      rw [← hup]; exact hh
    · have h1 : 1 ≤ k := by omega
      obtain ⟨i, hi, hi2⟩ : ∃ i : Nat, ((k : Int) - 1) / 2 = (i : Int) ∧ i = (k - 1) / 2 := ⟨(k - 1) / 2, by omega, rfl⟩
      have hne : ((i : Int) == (k : Int)) = false := by rw [beq_eq_false_iff_ne]; omega
      have hil : i < rows'.length := by omega
      have hkl : k < rows'.length := by omega
      have hik : i ≠ k := by omega
      have hl := method_less (hh.q.cell 0)
      have Hh := Lib.hid hh
      have HO := Lib.hid hO
      have Hup := Lib.hid hup
      have Hlen := Lib.hid hlen
      have Hfp' := Lib.hid hfp
      have Hi2 := Lib.hid hi2
      have H0 := Lib.hid h0
      clear hh hO hup hlen hfp hi2 h0 h
      cases hle : lessL rows' k i
      · have Hle := Lib.hid hle
        go_wp2_with fail
        refine (less_any sv rows' k i _ hkl hil Hh.out.row Hh.out.ones).mono ?_
        rintro e w1 ⟨rfl, hb⟩
        rw [Hle.out]
        have h2 : HeapAt w1 q m sv rows' := Hh.out.below hb
        have HB := Lib.hid hb
        have H2 := Lib.hid h2
        clear hb h2 hl hle
        go_wp2_with fail
        go_end0
        refine ⟨rfl, ?_, HO.out.trans (Only.of_below (F := Hfp sv rows) HB.out) (fun _ _ h => h)⟩
        rw [← Hup.out, upL_eq, if_neg H0.out, ← Hi2.out, Hle.out, if_neg (by simp)]
        exact H2.out
      · have Hle := Lib.hid hle
        clear hle
        go_wp2_with fail
        refine (less_any sv rows' k i _ hkl hil Hh.out.row Hh.out.ones).mono ?_
        rintro e w1 ⟨rfl, hb⟩
        rw [Hle.out]
        have h2 : HeapAt w1 q m sv rows' := Hh.out.below hb
        have HB := Lib.hid hb
        have H2 := Lib.hid h2
        clear hb h2 hl
        have hl := method_swap (H2.out.q.cell 0)
        go_wp2_with fail
        refine (swap_any q m sv rows' i k _ H2.out hil hkl hik).mono ?_
        rintro e w2 ⟨rfl, h3, hO3⟩
        have H3 := Lib.hid h3
        have HO3 := Lib.hid hO3
        clear h3 hO3 hl
        go_wp2_with fail
        refine ⟨⟨i, swapL rows' i k, by omega, rfl, H3.out, ?_, ?_, by rw [swapL_length]; exact Hlen.out, fun b => (Hfp_swap hil hkl b).trans (Hfp'.out b)⟩, by simp [intOf]; omega⟩
        · exact (HO.out.trans (Only.of_below (F := Hfp sv rows) HB.out) (fun _ _ h => h)).trans HO3.out (fun b _ hb => (Hfp'.out b).1 hb)
        · rw [← Hup.out, upL_eq rows' k, if_neg H0.out, ← Hi2.out, if_pos Hle.out]

theorem upL_length : ∀ (f : Nat) (l : List Row) (j : Nat), (upF f l j).length = l.length
  | 0, _, _ => rfl
  | f + 1, l, j => by
    simp only [upF]
    split
    · rfl
    · split
      · rw [upL_length f, swapL_length]
      · rfl
theorem upF_mem : ∀ (f : Nat) (l : List Row) (j : Nat), j < l.length → ∀ r, r ∈ upF f l j ↔ r ∈ l
  | 0, _, _, _, _ => Iff.rfl
  | f + 1, l, j, hj, r => by
    simp only [upF]
    split
    · exact Iff.rfl
    · split
      · rw [upF_mem f _ _ (by rw [swapL_length]; omega), swapL_mem (by omega) hj]
      · exact Iff.rfl

/-- The child to compare with. -/
def kid (l : List Row) (i n : Nat) : Nat := if decide (2 * i + 2 < n) && lessL l (2 * i + 2) (2 * i + 1) then 2 * i + 2 else 2 * i + 1
def downF : Nat → List Row → Nat → Nat → List Row × Nat
  | 0, l, i, _ => (l, i)
  | f + 1, l, i, n => if n ≤ 2 * i + 1 then (l, i) else if lessL l (kid l i n) i then downF f (swapL l i (kid l i n)) (kid l i n) n else (l, i)
def downL (l : List Row) (i n : Nat) : List Row × Nat := downF n l i n
theorem kid_lt {l : List Row} {i n : Nat} (h : 2 * i + 1 < n) : kid l i n < n ∧ i < kid l i n := by
  unfold kid
  split
  · rename_i h1; simp at h1; omega
  · omega
theorem downF_enough : ∀ (f : Nat) (l : List Row) (i n : Nat), n - i ≤ f → downF f l i n = downF (f + 1) l i n
  | 0, l, i, n, h => by simp only [downF]; rw [if_pos (by omega)]
  | f + 1, l, i, n, h => by
    rw [downF, downF]
    split
    · rfl
    · have := kid_lt (l := l) (i := i) (n := n) (by omega)
      split
      · exact downF_enough f _ _ _ (by omega)
      · rfl
theorem downF_eq (d : Nat) : ∀ (f : Nat) (l : List Row) (i n : Nat), n - i ≤ f → downF f l i n = downF (f + d) l i n := by
  induction d with
  | zero => intros; rfl
  | succ d ih => intro f l i n h; rw [ih f l i n h, downF_enough (f + d) l i n (by omega)]; rfl
theorem downL_eq (l : List Row) (i n : Nat) : downL l i n = if n ≤ 2 * i + 1 then (l, i) else if lessL l (kid l i n) i then downL (swapL l i (kid l i n)) (kid l i n) n else (l, i) := by
  unfold downL
  rw [downF_enough n l i n (by omega), downF]

set_option maxRecDepth 100000 in
set_option maxHeartbeats 8000000 in
theorem down_any (q m : Nat) (sv : Value) (rows : List Row) (i0 n : Nat) (w : World) (h : HeapAt w q m sv rows) (hi : i0 ≤ n) (hnr : n ≤ rows.length) (hn : rows.length ≤ 1000000) :
    Calls Try.prog 33 #[.iface 69 (.pointer (some ⟨q, 0, none⟩)), .int .i64 i0, .int .i64 n] w fun e w' => e = .returned (.bool (decide (i0 < (downL rows i0 n).2))) ∧ HeapAt w' q m sv (downL rows i0 n).1 ∧ Only (Hfp sv rows) w w' := by
  go_enter Try.func33, Try.ntmps33
  go_wp2
  go_loopw [7] (fun vi wr => ∃ (k : Nat) (rows' : List Row), k ≤ n ∧ vi = .int .i64 k ∧ HeapAt wr q m sv rows' ∧ Only (Hfp sv rows) w wr ∧ downL rows' k n = downL rows i0 n ∧ rows'.length = rows.length ∧ (∀ b, Hfp sv rows' b ↔ Hfp sv rows b))
    (fun vi _ => n - (intOf vi).toNat)
  case atStart => exact ⟨i0, rows, hi, rfl, h, Only.refl _ _, rfl, rfl, fun _ => Iff.rfl⟩
  case round =>
    obtain ⟨k, rows', hk, rfl, hh, hO, hup, hlen, hfp⟩ := hrel
    have Hh := Lib.hid hh
    have HO := Lib.hid hO
    have Hup := Lib.hid hup
    have Hlen := Lib.hid hlen
    have Hfp' := Lib.hid hfp
    clear hh hO hup hlen hfp h
    by_cases h0 : n ≤ 2 * k + 1
    · have h0' : decide ((n : Int) ≤ 2 * (k : Int) + 1) = true := by simp; omega
      have H0 := Lib.hid h0
      clear h0
      go_wp2_with fail
      go_ret
      have hd : downL rows i0 n = (rows', k) := by rw [← Hup.out, downL_eq, if_pos H0.out]
      refine ⟨?_, ?_, HO.out⟩
      · rw [hd]; rfl
      · rw [hd]; exact Hh.out
    · have h0' : decide ((n : Int) ≤ 2 * (k : Int) + 1) = false := by simp; omega
      obtain ⟨j1, hj1, ej1⟩ : ∃ j1 : Nat, 2 * (k : Int) + 1 = (j1 : Int) ∧ j1 = 2 * k + 1 := ⟨2 * k + 1, by omega, rfl⟩
      obtain ⟨j2, hj2, ej2⟩ : ∃ j2 : Nat, (j1 : Int) + 1 = (j2 : Int) ∧ j2 = 2 * k + 2 := ⟨2 * k + 2, by omega, rfl⟩
      have h0a : decide (n ≤ j1) = false := decide_eq_false (by omega)
      have h0c : j1 < n := by omega
      have h0b : decide ((j1 : Int) < 0) = false := decide_eq_false (by omega)
      have hkl : k < rows'.length := by have := Hlen.out; omega
      have hj1l : j1 < rows'.length := by have := Hlen.out; omega
      have hkj1 : k ≠ j1 := by omega
      have hkj2 : k ≠ j2 := by omega
      have hlt1 : k < j1 := by omega
      have hlt2 : k < j2 := by omega
      have hj1n : j1 ≤ n := by omega
      have H0 := Lib.hid h0
      have Ej1 := Lib.hid ej1
      have Ej2 := Lib.hid ej2
      by_cases h1 : 2 * k + 2 < n
      · have h1' : decide (j2 < n) = true := by simp; omega
        have hj2l : j2 < rows'.length := by have := Hlen.out; omega
        have hj2n : j2 < n := by omega
        have H1 := Lib.hid h1
        clear h0 h0' h1 ej1 ej2
        cases hll : lessL rows' j2 j1
        · have Hll := Lib.hid hll
          clear hll
          have hl := method_less (Hh.out.q.cell 0)
          go_wp2_with fail
          refine (less_any sv rows' j2 j1 _ hj2l hj1l Hh.out.row Hh.out.ones).mono ?_
          rintro e w1 ⟨rfl, hb⟩
          rw [Hll.out]
          have h2 : HeapAt w1 q m sv rows' := Hh.out.below hb
          have hO2 : Only (Hfp sv rows) w w1 := HO.out.trans (Only.of_below (F := Hfp sv rows) hb) (fun _ _ h => h)
          have H2 := Lib.hid h2
          have HO2 := Lib.hid hO2
          clear hb h2 hO2 hl
          have hkid : kid rows' k n = j1 := by unfold kid; rw [if_neg (by rw [← Ej1.out, ← Ej2.out, Hll.out]; simp), Ej1.out]
          have Hkid := Lib.hid hkid
          clear hkid
          have hl := method_less (H2.out.q.cell 0)
          cases hle : lessL rows' j1 k
          · have Hle := Lib.hid hle
            clear hle
            go_wp2_with fail
            refine (less_any sv rows' j1 k _ hj1l hkl H2.out.row H2.out.ones).mono ?_
            rintro e w4 ⟨rfl, hb⟩
            rw [Hle.out]
            have h4 : HeapAt w4 q m sv rows' := H2.out.below hb
            have HB4 := Lib.hid hb
            have H4 := Lib.hid h4
            clear hb h4 hl
            go_wp2_with fail
            go_ret
            have hd : downL rows i0 n = (rows', k) := by rw [← Hup.out, downL_eq, if_neg H0.out, Hkid.out, if_neg (by rw [Hle.out]; simp)]
            refine ⟨?_, ?_, HO2.out.trans (Only.of_below (F := Hfp sv rows) HB4.out) (fun _ _ h => h)⟩
            · rw [hd]; rfl
            · rw [hd]; exact H4.out
          · have Hle := Lib.hid hle
            clear hle
            go_wp2_with fail
            refine (less_any sv rows' j1 k _ hj1l hkl H2.out.row H2.out.ones).mono ?_
            rintro e w4 ⟨rfl, hb⟩
            rw [Hle.out]
            have h4 : HeapAt w4 q m sv rows' := H2.out.below hb
            have HB4 := Lib.hid hb
            have H4 := Lib.hid h4
            clear hb h4 hl
            have hl := method_swap (H4.out.q.cell 0)
            go_wp2_with fail
            refine (swap_any q m sv rows' k j1 _ H4.out hkl hj1l hkj1).mono ?_
            rintro e w5 ⟨rfl, h5, hO5⟩
            have H5 := Lib.hid h5
            have HO5 := Lib.hid hO5
            clear h5 hO5 hl
            go_wp2_with fail
            refine ⟨⟨j1, swapL rows' k j1, by omega, rfl, H5.out, ?_, ?_, by rw [swapL_length]; exact Hlen.out, fun b => (Hfp_swap hkl hj1l b).trans (Hfp'.out b)⟩, by simp [intOf]; omega⟩
            · exact (HO2.out.trans (Only.of_below (F := Hfp sv rows) HB4.out) (fun _ _ h => h)).trans HO5.out (fun b _ hb => (Hfp'.out b).1 hb)
            · rw [← Hup.out, downL_eq rows' k, if_neg H0.out, Hkid.out, if_pos Hle.out]
        · have Hll := Lib.hid hll
          clear hll
          have hl := method_less (Hh.out.q.cell 0)
          go_wp2_with fail
          refine (less_any sv rows' j2 j1 _ hj2l hj1l Hh.out.row Hh.out.ones).mono ?_
          rintro e w1 ⟨rfl, hb⟩
          rw [Hll.out]
          have h2 : HeapAt w1 q m sv rows' := Hh.out.below hb
          have hO2 : Only (Hfp sv rows) w w1 := HO.out.trans (Only.of_below (F := Hfp sv rows) hb) (fun _ _ h => h)
          have H2 := Lib.hid h2
          have HO2 := Lib.hid hO2
          clear hb h2 hO2 hl
          have hkid : kid rows' k n = j2 := by unfold kid; rw [if_pos (by rw [← Ej1.out, ← Ej2.out, Hll.out]; simp [Ej2.out, H1.out]), Ej2.out]
          have Hkid := Lib.hid hkid
          clear hkid
          have hl := method_less (H2.out.q.cell 0)
          cases hle : lessL rows' j2 k
          · have Hle := Lib.hid hle
            clear hle
            go_wp2_with fail
            refine (less_any sv rows' j2 k _ hj2l hkl H2.out.row H2.out.ones).mono ?_
            rintro e w4 ⟨rfl, hb⟩
            rw [Hle.out]
            have h4 : HeapAt w4 q m sv rows' := H2.out.below hb
            have HB4 := Lib.hid hb
            have H4 := Lib.hid h4
            clear hb h4 hl
            go_wp2_with fail
            go_ret
            have hd : downL rows i0 n = (rows', k) := by rw [← Hup.out, downL_eq, if_neg H0.out, Hkid.out, if_neg (by rw [Hle.out]; simp)]
            refine ⟨?_, ?_, HO2.out.trans (Only.of_below (F := Hfp sv rows) HB4.out) (fun _ _ h => h)⟩
            · rw [hd]; rfl
            · rw [hd]; exact H4.out
          · have Hle := Lib.hid hle
            clear hle
            go_wp2_with fail
            refine (less_any sv rows' j2 k _ hj2l hkl H2.out.row H2.out.ones).mono ?_
            rintro e w4 ⟨rfl, hb⟩
            rw [Hle.out]
            have h4 : HeapAt w4 q m sv rows' := H2.out.below hb
            have HB4 := Lib.hid hb
            have H4 := Lib.hid h4
            clear hb h4 hl
            have hl := method_swap (H4.out.q.cell 0)
            go_wp2_with fail
            refine (swap_any q m sv rows' k j2 _ H4.out hkl hj2l hkj2).mono ?_
            rintro e w5 ⟨rfl, h5, hO5⟩
            have H5 := Lib.hid h5
            have HO5 := Lib.hid hO5
            clear h5 hO5 hl
            go_wp2_with fail
            refine ⟨⟨j2, swapL rows' k j2, by omega, rfl, H5.out, ?_, ?_, by rw [swapL_length]; exact Hlen.out, fun b => (Hfp_swap hkl hj2l b).trans (Hfp'.out b)⟩, by simp [intOf]; omega⟩
            · exact (HO2.out.trans (Only.of_below (F := Hfp sv rows) HB4.out) (fun _ _ h => h)).trans HO5.out (fun b _ hb => (Hfp'.out b).1 hb)
            · rw [← Hup.out, downL_eq rows' k, if_neg H0.out, Hkid.out, if_pos Hle.out]
      · have h1' : decide (j2 < n) = false := by simp; omega
        have hj2n : n ≤ j2 := by omega
        have H1 := Lib.hid h1
        clear h0 h0' h1 ej1 ej2
        have hkid : kid rows' k n = j1 := by unfold kid; rw [if_neg (by simp [H1.out]), Ej1.out]
        have Hkid := Lib.hid hkid
        clear hkid
        have hl := method_less (Hh.out.q.cell 0)
        cases hle : lessL rows' j1 k
        · have Hle := Lib.hid hle
          clear hle
          go_wp2_with fail
          refine (less_any sv rows' j1 k _ hj1l hkl Hh.out.row Hh.out.ones).mono ?_
          rintro e w4 ⟨rfl, hb⟩
          rw [Hle.out]
          have h4 : HeapAt w4 q m sv rows' := Hh.out.below hb
          have HB4 := Lib.hid hb
          have H4 := Lib.hid h4
          clear hb h4 hl
          go_wp2_with fail
          go_ret
          have hd : downL rows i0 n = (rows', k) := by rw [← Hup.out, downL_eq, if_neg H0.out, Hkid.out, if_neg (by rw [Hle.out]; simp)]
          refine ⟨?_, ?_, HO.out.trans (Only.of_below (F := Hfp sv rows) HB4.out) (fun _ _ h => h)⟩
          · rw [hd]; rfl
          · rw [hd]; exact H4.out
        · have Hle := Lib.hid hle
          clear hle
          go_wp2_with fail
          refine (less_any sv rows' j1 k _ hj1l hkl Hh.out.row Hh.out.ones).mono ?_
          rintro e w4 ⟨rfl, hb⟩
          rw [Hle.out]
          have h4 : HeapAt w4 q m sv rows' := Hh.out.below hb
          have HB4 := Lib.hid hb
          have H4 := Lib.hid h4
          clear hb h4 hl
          have hl := method_swap (H4.out.q.cell 0)
          go_wp2_with fail
          refine (swap_any q m sv rows' k j1 _ H4.out hkl hj1l hkj1).mono ?_
          rintro e w5 ⟨rfl, h5, hO5⟩
          have H5 := Lib.hid h5
          have HO5 := Lib.hid hO5
          clear h5 hO5 hl
          go_wp2_with fail
          refine ⟨⟨j1, swapL rows' k j1, by omega, rfl, H5.out, ?_, ?_, by rw [swapL_length]; exact Hlen.out, fun b => (Hfp_swap hkl hj1l b).trans (Hfp'.out b)⟩, by simp [intOf]; omega⟩
          · exact (HO.out.trans (Only.of_below (F := Hfp sv rows) HB4.out) (fun _ _ h => h)).trans HO5.out (fun b _ hb => (Hfp'.out b).1 hb)
          · rw [← Hup.out, downL_eq rows' k, if_neg H0.out, Hkid.out, if_pos Hle.out]
end Go.Proofs.Ytannmemocaibiaa
