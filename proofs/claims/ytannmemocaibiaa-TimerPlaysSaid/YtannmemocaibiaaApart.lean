/-
  The walk of TimerApart.
-/
import Derived.Test.YtannmemocaibiaaCopy
import Derived.Test.YtannmemocaibiaaCanc
namespace Go.Proofs.Ytannmemocaibiaa
open Go.RowKit

theorem popS_len (L : List KV) (now : Int) : (popS L now).2.length ≤ L.length := by
  unfold popS
  split
  · simp
  · split <;> simp
theorem popS_max (L : List KV) (h : ∀ y ∈ L, y.2 ≤ 9223372036854775807) : (popS L 9223372036854775807).2.length = L.length - 1 := by
  unfold popS
  split
  · simp
  · rename_i d l
    rw [if_pos (h d (List.mem_cons_self ..))]
    simp

set_option maxRecDepth 100000 in
set_option maxHeartbeats 16000000 in
theorem apart_any (A : Option Addr) (c : Nat) (xs : List ActV) (now : Int) (w : World) (hA : Acts w A xs) (h1 : xs.length ≤ 200) :
    Calls Try.prog 6 #[.slice A xs.length c, .int .i64 now] w fun e w' => e = .returned (.bool true) ∧ Below w.heap.size w w' := by
  have HA := Lib.hid hA
  clear hA
  go_enter Try.func6, Try.ntmps6
  go_wp2_with fail
  refine (qb_new _).mono ?_
  rintro e w1 ⟨q, F1, rfl, hq⟩
  have HQ1 := Lib.hid hq
  clear hq
  go_wp2_with fail
  go_loopw [6] (fun vi wr => ∃ (k : Nat) (F : Nat → Prop), k ≤ xs.length ∧ vi = .int .i64 k ∧ QB w wr q F (SL (xs.take k)))
    (fun vi _ => xs.length - (intOf vi).toNat)
  case atStart => exact ⟨0, F1, Nat.zero_le _, rfl, HQ1.out⟩
  case round =>
    obtain ⟨k, F, hk, rfl, hq⟩ := hrel
    have HQ := Lib.hid hq
    clear hq
    by_cases hkn : k < xs.length
    · obtain ⟨b, off, hAe, hbl, hcells⟩ := HA.out.cells (by omega)
      subst hAe
      obtain ⟨x, hx⟩ : ∃ x, xs[k]? = some x := ⟨xs[k], List.getElem?_eq_getElem hkn⟩
      obtain ⟨_, c1, c2⟩ := hcells k x hx
      have hbw : Below w.heap.size w wr := HQ.out.below
      have d1 : wr.cell? ⟨b, off + k * 3 + 1, none⟩ = some (.string x.name) := (hbw.cell (p := ⟨b, _, none⟩) hbl).trans c1
      have d2 : wr.cell? ⟨b, off + k * 3 + 2, none⟩ = some (.int .i64 x.tm) := (hbw.cell (p := ⟨b, _, none⟩) hbl).trans c2
      have Hx := Lib.hid hx
      clear hx hcells c1 c2 hbw
      by_cases hsz : x.name.size ≤ 5000
      · have htake : xs.take (k + 1) = xs.take k ++ [x] := by
          rw [List.take_add_one, Hx.out]; rfl
        have HT := Lib.hid htake
        have hsl : (SL (xs.take k)).length ≤ k := by have := SL_len (xs.take k); simp at this; omega
        have HSL := Lib.hid hsl
        clear htake hsl
        go_wp2_with fail
        refine region_tail 11 (by kernel_rfl) (by kernel_rfl) ?_
        simp only [List.take_succ_cons, List.take_zero, List.drop_succ_cons, List.drop_zero]
        repeat still_step
        refine wpStill_nil ?_
        go_wp2_with fail
        refine (qb_set HQ.out.drew x.name x.tm (.inr (by have := HSL.out; omega)) (by have := HSL.out; omega)).mono ?_
        rintro e w2 ⟨rfl, F2, hq2, hmv⟩
        have HQ2 := Lib.hid hq2
        clear hq2 hmv d1 d2
        go_wp2_with fail
        refine ⟨⟨k + 1, F2, by omega, by go_num, ?_⟩, by simp [intOf]; omega⟩
        rw [HT.out, SL_snoc]; exact HQ2.out
      · go_wp2_with fail
        refine (live_any _).mono ?_
        rintro e w9 ⟨rfl, hb⟩
        have HB := Lib.hid hb
        clear hb
        go_wp2_with fail
        go_ret
        exact ⟨rfl, HQ.out.below.trans (HB.out.mono HQ.out.below.size)⟩
    · have hke : k = xs.length := by omega
      subst hke
      have HSx : Hid (SL (xs.take xs.length) = SL xs) := by show _ = _; rw [List.take_length]
      rw [HSx.out] at HQ
      have hbd : ∀ y ∈ SL xs, y.2 ≤ 9223372036854775807 := by
        intro y hy
        obtain ⟨x, hx, rfl⟩ := SL_mem hy
        exact (HA.out.bd x hx).2.1
      have HBd := Lib.hid hbd
      have hlen := SL_len xs
      have HLen := Lib.hid hlen
      clear hbd hlen HSx
      generalize SL xs = L at *
      go_wp2_with fail
      refine (qb_list HQ.out (by have := HLen.out; omega)).mono ?_
      rintro e w2 ⟨A2, c2, rfl, hd, hq2, hb2⟩
      have HD2 := Lib.hid hd
      have HQ2 := Lib.hid hq2
      have HB2 := Lib.hid hb2
      clear hd hq2 hb2
      go_wp2_with fail
      refine (copy_any HQ2.out.que (by have := HLen.out; omega)).mono ?_
      rintro e w3 ⟨p, F3, rfl, hc⟩
      have HC := Lib.hid hc
      clear hc
      go_wp2_with fail
      refine (qb_list HC.out (by have := HLen.out; omega)).mono ?_
      rintro e w4 ⟨A4, c4, rfl, hd, hq4, hb4⟩
      have HD4 := Lib.hid hd
      have HC4 := Lib.hid hq4
      clear hd hq4 hb4
      go_wp2_with fail
      refine (same_any A4 A2 c4 c2 L L w4 HD4.out.same (HD2.out.later HC4.out.below).same (by have := HLen.out; omega) (by have := HLen.out; omega)).mono ?_
      rintro e w' ⟨rfl, n, rfl⟩
      rw [show decide (L = L) = true from decide_eq_true rfl]
      have HC5 : Hid (QB w2 (w4.drewN n) p F3 L) := HC4.out.later ⟨rfl, rfl, rfl, Nat.le_refl _, fun _ _ => rfl⟩
      clear HD4 HC4
      generalize w4.drewN n = w5 at *
      go_wp2_with fail
      go_loopw [9] (fun vi wr => ∃ (k : Nat) (F : Nat → Prop) (L' : List KV), k ≤ xs.length + 1 ∧ vi = .int .i64 k ∧ L'.length ≤ 200 ∧ QB w2 wr p F L')
        (fun vi _ => xs.length + 1 - (intOf vi).toNat)
      case atStart => exact ⟨0, F3, L, Nat.zero_le _, rfl, by have := HLen.out; omega, HC5.out⟩
      case round =>
        obtain ⟨k, F6, L6, hk6, rfl, hL6, hq6⟩ := hrel
        have HQ6 := Lib.hid hq6
        have HL6 := Lib.hid hL6
        clear hq6 hL6
        by_cases hkm : k < xs.length + 1
        · go_wp2_with fail
          refine (qb_pop HQ6.out (by have := HL6.out; omega) now).mono ?_
          rintro e w7 ⟨rfl, F7, hq7, hmv⟩
          have HQ7 := Lib.hid hq7
          have HL7 : Hid ((popS L6 now).2.length ≤ 200) := by have := popS_len L6 now; have := HL6.out; show _ ≤ _; omega
          clear hq7 hmv
          generalize popS L6 now = pr at *
          obtain ⟨pv, L7⟩ := pr
          dsimp only at HQ7 HL7 ⊢
          go_wp2_with fail
          exact ⟨⟨k + 1, F7, L7, by omega, by go_num, HL7.out, HQ7.out⟩, by simp [intOf]; omega⟩
        · have hke : k = xs.length + 1 := by omega
          subst hke
          go_wp2_with fail
          refine (qb_set HQ6.out _ now (.inr (by have := HL6.out; omega)) (by have := HL6.out; omega)).mono ?_
          rintro e w7 ⟨rfl, F7, hq7, _⟩
          have HQ7 : Hid (QB w w7 q F L) := HQ2.out.later hq7.below
          have HD7 : Hid (DueN w7 F A2 L) := (HD2.out.later hq7.below).notin HQ.out.que.lt
          clear hq7 HC5 HQ6
          go_wp2_with fail
          refine (copy_any HQ7.out.que (by have := HLen.out; omega)).mono ?_
          rintro e w8 ⟨d, F8, rfl, hc⟩
          have HC8 := Lib.hid hc
          clear hc
          go_wp2_with fail
          refine (qb_pop (HQ7.out.later HC8.out.below) (by have := HLen.out; omega) 9223372036854775807).mono ?_
          rintro e w9 ⟨rfl, F9, hq9, hmv⟩
          have HQ9 : Hid (QB w w9 q F9 (popS L 9223372036854775807).2) := hq9
          have HD9 : Hid (DueN w9 F9 A2 L) := (HD7.out.later HC8.out.below).move hmv
          have HC9 : Hid (Que w9 d F8 L) := HC8.out.que.only hmv.only (fun k hk hf => by
            have a1 := HC8.out.base k hk
            have a2 := HQ7.out.que.lt k hf
            omega)
          have HP9 := popS_max L HBd.out
          clear hq9 hmv
          generalize popS L 9223372036854775807 = pr at *
          obtain ⟨pv, L9⟩ := pr
          dsimp only at HQ9 HP9 ⊢
          have HP := Lib.hid HP9
          clear HP9
          go_wp2_with fail
          refine (que_list HC9.out (by have := HLen.out; omega)).mono ?_
          rintro e w10 ⟨⟨A10, c10, rfl, hd10⟩, hb10⟩
          have HQ10 := Lib.hid (HQ9.out.later hb10)
          have HD10 := Lib.hid (HD9.out.later hb10)
          have HE10 := Lib.hid hd10
          clear hd10 hb10
          go_wp2_with fail
          refine (same_any A10 A2 c10 c2 L L w10 HE10.out.same HD10.out.same (by have := HLen.out; omega) (by have := HLen.out; omega)).mono ?_
          rintro e w' ⟨rfl, n', rfl⟩
          rw [show decide (L = L) = true from decide_eq_true rfl]
          have HQ11 := Lib.hid (HQ10.out.later (w' := w10.drewN n') ⟨rfl, rfl, rfl, Nat.le_refl _, fun _ _ => rfl⟩)
          generalize w10.drewN n' = w11 at *
          go_wp2_with fail
          refine (HQ11.out.que.len).mono ?_
          rintro e w' ⟨rfl, rfl⟩
          have hmx : ((L9.length : Int) == max (wrap64 ((L.length : Int) - 1)) 0) = true := by
            have a1 := HP.out
            have a2 := HLen.out
            rw [IntWalk.wrap64_in _ ⟨by omega, by omega⟩, beq_iff_eq, a1]
            omega
          go_wp2_with fail
          refine (live_any _).mono ?_
          rintro e w12 ⟨rfl, hb⟩
          have HB := Lib.hid hb
          clear hb
          go_wp2_with fail
          go_ret
          exact ⟨rfl, HQ11.out.below.trans (HB.out.mono HQ11.out.below.size)⟩

set_option maxRecDepth 100000 in
set_option maxHeartbeats 1000000 in
theorem apart_out (A : Option Addr) (n c : Nat) (now : Int) (w : World) (h1 : 200 < n) :
    Calls Try.prog 6 #[.slice A n c, .int .i64 now] w fun e w' => e = .returned (.bool true) ∧ Below w.heap.size w w' := by
  go_enter Try.func6, Try.ntmps6
  go_wp2_with fail
  refine (live_any _).mono ?_
  rintro e w9 ⟨rfl, hb⟩
  have HB := Lib.hid hb
  clear hb
  go_wp2_with fail
  go_ret
  exact ⟨rfl, HB.out⟩

theorem timerApart_walk (A : Option Addr) (n c : Nat) (now : Int) (w : World) {H : Type} {enc : TypeId × Value → H} {d : DataW H} {p : List MemPlace} (k : DataW.Trod enc Try.prog w 0 (fun _ => true) true 32 (.slice A n c) d p) (_ : (Lit.int .i64 now).wf = true) :
    Calls Try.prog 6 #[.slice A n c, .int .i64 now] w fun e w' => e = .returned (.bool true) ∧ Below w.heap.size w w' := by
  obtain ⟨xs, hl, hA⟩ := acts_of k
  by_cases h : 200 < n
  · exact apart_out A n c now w h
  · subst hl
    exact apart_any A c xs now w hA (by omega)
end Go.Proofs.Ytannmemocaibiaa
