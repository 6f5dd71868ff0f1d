/-
  The walk of TimerMany.
-/
import Derived.Test.YtannmemocaibiaaLive
namespace Go.Proofs.Ytannmemocaibiaa
open Go.RowKit

set_option maxRecDepth 100000 in
set_option maxHeartbeats 4000000 in
theorem many_out (n : Int) (b : Bool) (w : World) (h : n < 0 ∨ 4098 < n ∨ (50 < n ∧ n < 4094)) : Calls Try.prog 3 #[.int .i64 n, .bool b] w fun e w' => e = .returned (.bool true) ∧ Below w.heap.size w w' := by
  rcases h with h | h | ⟨h, h2⟩
  · go_enter Try.func3, Try.ntmps3
    go_wp2_with fail
    refine (live_any _).mono ?_
    rintro e w3 ⟨rfl, hb⟩
    have HB := Lib.hid hb
    clear hb
    go_wp2_with fail
    go_ret
    exact ⟨rfl, HB.out⟩
  · have h1 : 0 ≤ n := by omega
    go_enter Try.func3, Try.ntmps3
    go_wp2_with fail
    refine (live_any _).mono ?_
    rintro e w3 ⟨rfl, hb⟩
    have HB := Lib.hid hb
    clear hb
    go_wp2_with fail
    go_ret
    exact ⟨rfl, HB.out⟩
  · have h1 : 0 ≤ n := by omega
    have h3 : n ≤ 4098 := by omega
    go_enter Try.func3, Try.ntmps3
    go_wp2_with fail
    refine (live_any _).mono ?_
    rintro e w3 ⟨rfl, hb⟩
    have HB := Lib.hid hb
    clear hb
    go_wp2_with fail
    go_ret
    exact ⟨rfl, HB.out⟩

/-- The name of the i-th timer. -/
def tname (i : Nat) : ByteArray := ⟨#[116, UInt8.ofNat (i / 256), UInt8.ofNat (i % 256)]⟩

theorem conv2 (w : World) (x y : Int) : (convert 26 9 (.slice (some ⟨w.heap.size, 0, none⟩) 2 2)).run Try.prog (w.alloc (.cells #[.int .u8 x, .int .u8 y] 5)) =
    .ok (.string ⟨#[UInt8.ofNat x.toNat, UInt8.ofNat y.toNat]⟩) (w.alloc (.cells #[.int .u8 x, .int .u8 y] 5)) := by
  rw [run_convert_bytes_string _ 26 9 5 _ _ _ Try.underlying26 Try.underlying5 Try.underlying9]
  rw [run_bytesToString _ _ 2 2 [x, y] (by simp [loadCells, loadCellsFrom, Addr.add])]
  rfl

theorem tname1 (k : Nat) : (⟨#[116]⟩ : ByteArray) ++ ⟨#[UInt8.ofNat (k / 256), UInt8.ofNat k]⟩ = tname k := by
  have : UInt8.ofNat (k % 256) = UInt8.ofNat k := by
    apply UInt8.toNat.inj
    simp
  unfold tname
  rw [this]
  rfl
theorem tname2 (k : Nat) : (⟨#[116]⟩ : ByteArray) ++ ⟨#[UInt8.ofNat (k / 256), UInt8.ofNat (k % 256)]⟩ = tname k := rfl
theorem tname_inj {i j : Nat} (hi : i < 65536) (hj : j < 65536) (h : tname i = tname j) : i = j := by
  unfold tname at h
  simp only [ByteArray.mk.injEq, Array.mk.injEq, List.cons.injEq, and_true, true_and] at h
  obtain ⟨h1, h2⟩ := h
  have g1 := congrArg UInt8.toNat h1
  have g2 := congrArg UInt8.toNat h2
  simp at g1 g2
  omega

theorem others_not {L : List KV} {s : ByteArray} (h : ¬ hasN L s) : others L s = L :=
  List.filter_eq_self.2 fun x hx => by
    have : x.1 ≠ s := fun e => h ⟨x, hx, e⟩
    simpa using this
theorem others_len : ∀ {L : List KV} {s : ByteArray}, (L.map (·.1)).Nodup → hasN L s → (others L s).length + 1 = L.length
  | [], _, _, ⟨x, hx, _⟩ => by simp at hx
  | y :: L, s, hn, ⟨x, hx, hs⟩ => by
    have h2 := List.nodup_cons.1 hn
    by_cases hy : y.1 = s
    · have hno : ¬ hasN L s := by
        rintro ⟨z, hz, e⟩
        exact h2.1 (List.mem_map.2 ⟨z, hz, e.trans hy.symm⟩)
      have : others (y :: L) s = L := by
        have h3 := others_not hno
        unfold others at h3 ⊢
        rw [List.filter_cons]
        simp only [hy, beq_self_eq_true, Bool.not_true, Bool.false_eq_true, if_false]
        exact h3
      rw [this]; rfl
    · have hx' : hasN L s := by
        rcases List.mem_cons.1 hx with e | e
        · exact absurd (by rw [← e]; exact hs) hy
        · exact ⟨x, e, hs⟩
      have ih := others_len h2.2 hx'
      have : others (y :: L) s = y :: others L s := by
        unfold others
        rw [List.filter_cons]
        have : (y.1 == s) = false := by simpa using hy
        simp [this]
      rw [this]
      simp only [List.length_cons]
      omega
theorem setS_len_new {L : List KV} {s : ByteArray} (a : Int) (h : ¬ hasN L s) : (setS L s a).length = L.length + 1 := by
  rw [(setS_perm L s a).length_eq, List.length_cons, others_not h]
theorem setS_len_old {L : List KV} {s : ByteArray} (a : Int) (hn : (L.map (·.1)).Nodup) (h : hasN L s) : (setS L s a).length = L.length := by
  rw [(setS_perm L s a).length_eq, List.length_cons, others_len hn h]
theorem setS_has {L : List KV} {s t : ByteArray} (a : Int) : hasN (setS L s a) t ↔ t = s ∨ hasN L t := by
  unfold hasN
  constructor
  · rintro ⟨x, hx, rfl⟩
    rcases List.mem_cons.1 ((setS_perm L s a).mem_iff.1 hx) with e | e
    · exact .inl (by rw [e])
    · exact .inr ⟨x, (List.mem_filter.1 e).1, rfl⟩
  · intro h
    by_cases ht : t = s
    · exact ⟨(s, a), (setS_perm L s a).mem_iff.2 List.mem_cons_self, ht.symm⟩
    · rcases h with h | ⟨x, hx, e⟩
      · exact absurd h ht
      · refine ⟨x, (setS_perm L s a).mem_iff.2 (List.mem_cons_of_mem _ (List.mem_filter.2 ⟨hx, ?_⟩)), e⟩
        have : x.1 ≠ s := fun e2 => ht (e.symm.trans e2)
        simpa using this

theorem qb_full {w0 w : World} {q : Nat} {F : Nat → Prop} {L : List KV} (h : QB w0 w q F L) (s : ByteArray) (a : Int) (hs : ¬ hasN L s) (hn : 4096 ≤ L.length) :
    Calls Try.prog 11 #[.pointer (some ⟨q, 0, none⟩), .string s, .int .i64 a] w fun e w' => e = .returned (.int .i64 6) ∧ w = w' := que_full h.que s a hs hn

set_option maxRecDepth 100000 in
set_option maxHeartbeats 8000000 in
theorem many_in1 (n : Nat) (b : Bool) (w : World) (h1 : n ≤ 4098) (h2 : n ≤ 50) : Calls Try.prog 3 #[.int .i64 n, .bool b] w fun e w' => e = .returned (.bool true) ∧ Below w.heap.size w w' := by
  go_enter Try.func3, Try.ntmps3
  go_wp2_with fail
  refine (qb_new _).mono ?_
  rintro e w1 ⟨q, F1, rfl, hq⟩
  have HQ1 := Lib.hid hq
  clear hq
  go_wp2_with fail
  go_loopw [6] (fun vi wr => ∃ (k : Nat) (F : Nat → Prop) (L : List KV), k ≤ n ∧ vi = .int .i64 k ∧ QB w wr q F L ∧ L.length = min k 4096 ∧ (∀ s, hasN L s ↔ ∃ j, j < min k 4096 ∧ s = tname j))
    (fun vi _ => n - (intOf vi).toNat)
  case atStart => exact ⟨0, F1, [], Nat.zero_le _, rfl, HQ1.out, rfl, fun s => by simp [hasN]⟩
  case round =>
    obtain ⟨k, F, L, hk, rfl, hq, hlen, hmem⟩ := hrel
    have HQ := Lib.hid hq
    have HL := Lib.hid hlen
    have HM := Lib.hid hmem
    clear hq hlen hmem
    by_cases hkn : k < n
    · have hcv := conv2 wr (k / 256) k
      go_wp2_with fail
      rw [tname1 k]
      clear hcv
      have hno : ¬ hasN L (tname k) := by
        intro h
        obtain ⟨j, hj, e⟩ := (HM.out _).1 h
        have := tname_inj (by omega) (by omega) e
        omega
      have HNo := Lib.hid hno
      clear hno
      have hb1 : decide ((k : Int) < 4096) = true := by simp; omega
      refine (qb_set (HQ.out.alloc _) (tname k) k (.inr (by have := HL.out; omega)) (by have := HL.out; omega)).mono ?_
      rintro e w2 ⟨rfl, F2, hq, _⟩
      have HQ2 := Lib.hid hq
      clear hq
      go_wp2_with fail
      refine (num_any _ _).mono ?_
      rintro e w' ⟨rfl, rfl⟩
      go_wp2_with fail
      refine (num_any _ _).mono ?_
      rintro e w' ⟨rfl, rfl⟩
      go_wp2_with fail
      refine ⟨⟨k + 1, F2, setS L (tname k) k, by omega, by go_num, HQ2.out, ?_, fun s => ?_⟩, by simp [intOf]; omega⟩
      · rw [setS_len_new _ HNo.out, HL.out]; omega
      · rw [setS_has, HM.out]
        constructor
        · rintro (h | ⟨j, hj, h⟩)
          · exact ⟨k, by omega, h⟩
          · exact ⟨j, by omega, h⟩
        · rintro ⟨j, hj, h⟩
          by_cases hjk : j = k
          · subst hjk; exact .inl h
          · exact .inr ⟨j, by omega, h⟩
    · have hke : k = n := by omega
      subst hke
      cases b
      · go_wp2_with fail
        refine (HQ.out.que.len).mono ?_
        rintro e w' ⟨rfl, rfl⟩
        rw [show (L.length : Int) = (k : Int) by have := HL.out; omega]
        go_wp2_with fail
        refine (live_any _).mono ?_
        rintro e w9 ⟨rfl, hb⟩
        have HB := Lib.hid hb
        clear hb
        go_wp2_with fail
        go_ret
        exact ⟨rfl, HQ.out.below.trans (HB.out.mono HQ.out.below.size)⟩
      · by_cases hz : k = 0
        · subst hz
          go_wp2_with fail
          refine (HQ.out.que.len).mono ?_
          rintro e w' ⟨rfl, rfl⟩
          rw [show (L.length : Int) = ((0 : Nat) : Int) by have := HL.out; omega]
          go_wp2_with fail
          refine (live_any _).mono ?_
          rintro e w9 ⟨rfl, hb⟩
          have HB := Lib.hid hb
          clear hb
          go_wp2_with fail
          go_ret
          exact ⟨rfl, HQ.out.below.trans (HB.out.mono HQ.out.below.size)⟩
        · have hz1 : 1 ≤ k := by omega
          have hz2 : decide ((0 : Int) < k) = true := by simp; omega
          have hin : hasN L ⟨#[116, 0, 0]⟩ := (HM.out _).2 ⟨0, by omega, rfl⟩
          have HIn := Lib.hid hin
          clear hin
          go_wp2_with fail
          refine (qb_set HQ.out _ _ (.inl HIn.out) (by have := HL.out; omega)).mono ?_
          rintro e w2 ⟨rfl, F2, hq, _⟩
          have hl2 : (setS L ⟨#[116, 0, 0]⟩ 7).length = min k 4096 := by rw [setS_len_old _ HQ.out.que.names HIn.out]; exact HL.out
          generalize setS L ⟨#[116, 0, 0]⟩ 7 = L2 at hq hl2
          have HQ2 := Lib.hid hq
          have HL2 := Lib.hid hl2
          clear hq hl2
          go_wp2_with fail
          refine (num_any _ _).mono ?_
          rintro e w' ⟨rfl, rfl⟩
          go_wp2_with fail
          refine (HQ2.out.que.len).mono ?_
          rintro e w' ⟨rfl, rfl⟩
          rw [show (L2.length : Int) = (k : Int) by have := HL2.out; omega]
          go_wp2_with fail
          refine (live_any _).mono ?_
          rintro e w9 ⟨rfl, hb⟩
          have HB := Lib.hid hb
          clear hb
          go_wp2_with fail
          go_ret
          exact ⟨rfl, HQ2.out.below.trans (HB.out.mono HQ2.out.below.size)⟩

set_option maxRecDepth 100000 in
set_option maxHeartbeats 8000000 in
theorem many_in2 (n : Nat) (b : Bool) (w : World) (h1 : n ≤ 4098) (h2 : 4094 ≤ n) : Calls Try.prog 3 #[.int .i64 n, .bool b] w fun e w' => e = .returned (.bool true) ∧ Below w.heap.size w w' := by
  go_enter Try.func3, Try.ntmps3
  go_wp2_with fail
  refine (qb_new _).mono ?_
  rintro e w1 ⟨q, F1, rfl, hq⟩
  have HQ1 := Lib.hid hq
  clear hq
  go_wp2_with fail
  go_loopw [6] (fun vi wr => ∃ (k : Nat) (F : Nat → Prop) (L : List KV), k ≤ n ∧ vi = .int .i64 k ∧ QB w wr q F L ∧ L.length = min k 4096 ∧ (∀ s, hasN L s ↔ ∃ j, j < min k 4096 ∧ s = tname j))
    (fun vi _ => n - (intOf vi).toNat)
  case atStart => exact ⟨0, F1, [], Nat.zero_le _, rfl, HQ1.out, rfl, fun s => by simp [hasN]⟩
  case round =>
    obtain ⟨k, F, L, hk, rfl, hq, hlen, hmem⟩ := hrel
    have HQ := Lib.hid hq
    have HL := Lib.hid hlen
    have HM := Lib.hid hmem
    clear hq hlen hmem
    by_cases hkn : k < n
    · have hcv := conv2 wr (k / 256) (k % 256)
      go_wp2_with fail
      rw [tname2 k]
      clear hcv
      have hno : ¬ hasN L (tname k) := by
        intro h
        obtain ⟨j, hj, e⟩ := (HM.out _).1 h
        have := tname_inj (by omega) (by omega) e
        omega
      have HNo := Lib.hid hno
      clear hno
      by_cases hk4 : k < 4096
      · have hb1 : decide ((k : Int) < 4096) = true := by simp; omega
        refine (qb_set (HQ.out.alloc _) (tname k) k (.inr (by have := HL.out; omega)) (by have := HL.out; omega)).mono ?_
        rintro e w2 ⟨rfl, F2, hq, _⟩
        have HQ2 := Lib.hid hq
        clear hq
        go_wp2_with fail
        refine (num_any _ _).mono ?_
        rintro e w' ⟨rfl, rfl⟩
        go_wp2_with fail
        refine (num_any _ _).mono ?_
        rintro e w' ⟨rfl, rfl⟩
        go_wp2_with fail
        refine ⟨⟨k + 1, F2, setS L (tname k) k, by omega, by go_num, HQ2.out, ?_, fun s => ?_⟩, by simp [intOf]; omega⟩
        · rw [setS_len_new _ HNo.out, HL.out]; omega
        · rw [setS_has, HM.out]
          constructor
          · rintro (h | ⟨j, hj, h⟩)
            · exact ⟨k, by omega, h⟩
            · exact ⟨j, by omega, h⟩
          · rintro ⟨j, hj, h⟩
            by_cases hjk : j = k
            · subst hjk; exact .inl h
            · exact .inr ⟨j, by omega, h⟩
      · have hb1 : decide ((k : Int) < 4096) = false := by simp; omega
        have hqa := HQ.out.alloc (.cells #[.int .u8 (k / 256), .int .u8 (k % 256)] 5)
        have HQA := Lib.hid hqa
        clear hqa
        refine (qb_full HQA.out (tname k) k HNo.out (by have := HL.out; omega)).mono ?_
        rintro e w2 ⟨rfl, rfl⟩
        go_wp2_with fail
        refine (num_any _ _).mono ?_
        rintro e w' ⟨rfl, rfl⟩
        go_wp2_with fail
        refine (num_any _ _).mono ?_
        rintro e w' ⟨rfl, rfl⟩
        go_wp2_with fail
        refine (num_any _ _).mono ?_
        rintro e w' ⟨rfl, rfl⟩
        go_wp2_with fail
        refine ⟨⟨k + 1, F, L, by omega, by go_num, HQA.out, by have := HL.out; omega, fun s => ?_⟩, by simp [intOf]; omega⟩
        rw [HM.out]
        constructor
        · rintro ⟨j, hj, h⟩; exact ⟨j, by omega, h⟩
        · rintro ⟨j, hj, h⟩; exact ⟨j, by omega, h⟩
    · have hke : k = n := by omega
      subst hke
      by_cases hk4 : k ≤ 4096
      · cases b
        · go_wp2_with fail
          refine (HQ.out.que.len).mono ?_
          rintro e w' ⟨rfl, rfl⟩
          rw [show (L.length : Int) = (k : Int) by have := HL.out; omega]
          go_wp2_with fail
          refine (live_any _).mono ?_
          rintro e w9 ⟨rfl, hb⟩
          have HB := Lib.hid hb
          clear hb
          go_wp2_with fail
          go_ret
          exact ⟨rfl, HQ.out.below.trans (HB.out.mono HQ.out.below.size)⟩
        · by_cases hz : k = 0
          · exfalso; omega
          · have hz1 : 1 ≤ k := by omega
            have hz2 : decide ((0 : Int) < k) = true := by simp; omega
            have hin : hasN L ⟨#[116, 0, 0]⟩ := (HM.out _).2 ⟨0, by omega, rfl⟩
            have HIn := Lib.hid hin
            clear hin
            go_wp2_with fail
            refine (qb_set HQ.out _ _ (.inl HIn.out) (by have := HL.out; omega)).mono ?_
            rintro e w2 ⟨rfl, F2, hq, _⟩
            have hl2 : (setS L ⟨#[116, 0, 0]⟩ 7).length = min k 4096 := by rw [setS_len_old _ HQ.out.que.names HIn.out]; exact HL.out
            generalize setS L ⟨#[116, 0, 0]⟩ 7 = L2 at hq hl2
            have HQ2 := Lib.hid hq
            have HL2 := Lib.hid hl2
            clear hq hl2
            go_wp2_with fail
            refine (num_any _ _).mono ?_
            rintro e w' ⟨rfl, rfl⟩
            go_wp2_with fail
            refine (HQ2.out.que.len).mono ?_
            rintro e w' ⟨rfl, rfl⟩
            rw [show (L2.length : Int) = (k : Int) by have := HL2.out; omega]
            go_wp2_with fail
            refine (live_any _).mono ?_
            rintro e w9 ⟨rfl, hb⟩
            have HB := Lib.hid hb
            clear hb
            go_wp2_with fail
            go_ret
            exact ⟨rfl, HQ2.out.below.trans (HB.out.mono HQ2.out.below.size)⟩
      · cases b
        · go_wp2_with fail
          refine (HQ.out.que.len).mono ?_
          rintro e w' ⟨rfl, rfl⟩
          rw [show (L.length : Int) = 4096 by have := HL.out; omega]
          go_wp2_with fail
          refine (live_any _).mono ?_
          rintro e w9 ⟨rfl, hb⟩
          have HB := Lib.hid hb
          clear hb
          go_wp2_with fail
          go_ret
          exact ⟨rfl, HQ.out.below.trans (HB.out.mono HQ.out.below.size)⟩
        · by_cases hz : k = 0
          · exfalso; omega
          · have hz1 : 1 ≤ k := by omega
            have hz2 : decide ((0 : Int) < k) = true := by simp; omega
            have hin : hasN L ⟨#[116, 0, 0]⟩ := (HM.out _).2 ⟨0, by omega, rfl⟩
            have HIn := Lib.hid hin
            clear hin
            go_wp2_with fail
            refine (qb_set HQ.out _ _ (.inl HIn.out) (by have := HL.out; omega)).mono ?_
            rintro e w2 ⟨rfl, F2, hq, _⟩
            have hl2 : (setS L ⟨#[116, 0, 0]⟩ 7).length = min k 4096 := by rw [setS_len_old _ HQ.out.que.names HIn.out]; exact HL.out
            generalize setS L ⟨#[116, 0, 0]⟩ 7 = L2 at hq hl2
            have HQ2 := Lib.hid hq
            have HL2 := Lib.hid hl2
            clear hq hl2
            go_wp2_with fail
            refine (num_any _ _).mono ?_
            rintro e w' ⟨rfl, rfl⟩
            go_wp2_with fail
            refine (HQ2.out.que.len).mono ?_
            rintro e w' ⟨rfl, rfl⟩
            rw [show (L2.length : Int) = 4096 by have := HL2.out; omega]
            go_wp2_with fail
            refine (live_any _).mono ?_
            rintro e w9 ⟨rfl, hb⟩
            have HB := Lib.hid hb
            clear hb
            go_wp2_with fail
            go_ret
            exact ⟨rfl, HQ2.out.below.trans (HB.out.mono HQ2.out.below.size)⟩

theorem timerMany_walk (n : Int) (b : Bool) (w : World) (_ : (Lit.int .i64 n).wf = true) : Calls Try.prog 3 #[.int .i64 n, .bool b] w fun e w' => e = .returned (.bool true) ∧ Below w.heap.size w w' := by
  by_cases h : n < 0 ∨ 4098 < n ∨ (50 < n ∧ n < 4094)
  · exact many_out n b w h
  · obtain ⟨m, rfl⟩ := Int.eq_ofNat_of_zero_le (show 0 ≤ n by omega)
    by_cases h2 : m ≤ 50
    · exact many_in1 m b w (by omega) h2
    · exact many_in2 m b w (by omega) (by omega)
end Go.Proofs.Ytannmemocaibiaa
