/-
  The walk of TimerOrder.
-/
import Derived.Test.YtannmemocaibiaaCopy
import Derived.Test.YtannmemocaibiaaCanc
import Derived.Test.YtannmemocaibiaaJit
namespace Go.Proofs.Ytannmemocaibiaa
open Go.RowKit

/-- How many are due. -/
def dueN (L : List KV) (now : Int) : Nat := (L.filter (fun y => decide (y.2 ≤ now))).length
theorem dueN_len (L : List KV) (now : Int) : dueN L now ≤ L.length := List.length_filter_le _ _
theorem dueN_snoc (L : List KV) (x : KV) (now : Int) : dueN (L ++ [x]) now = if x.2 ≤ now then dueN L now + 1 else dueN L now := by
  unfold dueN
  rw [List.filter_append, List.length_append]
  by_cases h : x.2 ≤ now <;> simp [h]
theorem ord_tm {x : KV} {L : List KV} (h : Ord (x :: L)) : ∀ y ∈ L, x.2 ≤ y.2 := by
  intro y hy
  rcases (List.pairwise_cons.1 h).1 y hy with h1 | ⟨h1, _⟩ <;> omega
theorem due_at : ∀ {L : List KV} {now : Int} {k : Nat}, Ord L → k < dueN L now → ∃ d, L[k]? = some d ∧ d.2 ≤ now
  | [], _, _, _, h => by simp [dueN] at h
  | x :: L, now, k, ho, h => by
    by_cases hx : x.2 ≤ now
    · match k with
      | 0 => exact ⟨x, rfl, hx⟩
      | k + 1 =>
        have h' : dueN (x :: L) now = dueN L now + 1 := by simp [dueN, hx]
        rw [List.getElem?_cons_succ]
        exact due_at (List.pairwise_cons.1 ho).2 (by omega)
    · have h' : dueN (x :: L) now = 0 := by
        unfold dueN
        rw [List.length_eq_zero_iff, List.filter_eq_nil_iff]
        intro y hy
        rw [List.mem_cons] at hy
        rcases hy with rfl | hy
        · simpa using hx
        · have := ord_tm ho y hy; simp; omega
      omega
theorem due_none : ∀ {L : List KV} {now : Int}, Ord L → ∀ y ∈ L.drop (dueN L now), now < y.2
  | [], _, _, y, hy => by simp at hy
  | x :: L, now, ho, y, hy => by
    by_cases hx : x.2 ≤ now
    · have h' : dueN (x :: L) now = dueN L now + 1 := by simp [dueN, hx]
      rw [h', List.drop_succ_cons] at hy
      exact due_none (List.pairwise_cons.1 ho).2 y hy
    · have hy2 := List.mem_of_mem_drop hy
      rw [List.mem_cons] at hy2
      rcases hy2 with rfl | hy2
      · omega
      · have := ord_tm ho y hy2; omega
theorem popS_due {L : List KV} {now : Int} {k : Nat} {d : KV} (hd : L[k]? = some d) (hn : d.2 ≤ now) : popS (L.drop k) now = (.tuple #[dueV d, .bool true], L.drop (k + 1)) := by
  have hk : k < L.length := by
    rcases Nat.lt_or_ge k L.length with h | h
    · exact h
    · rw [List.getElem?_eq_none h] at hd; cases hd
  have e : L[k] = d := by rw [List.getElem?_eq_getElem hk] at hd; exact Option.some.inj hd
  rw [← List.getElem_cons_drop hk, e]
  exact if_pos hn
theorem popS_none {L : List KV} {now : Int} (h : ∀ y ∈ L, now < y.2) : (popS L now).1 = .tuple #[due0, .bool false] := by
  unfold popS
  split
  · rfl
  · rename_i d l
    have := h d (List.mem_cons_self ..)
    rw [if_neg (by omega)]
theorem ord_at {L : List KV} (ho : Ord L) {k : Nat} {x y : KV} (hx : L[k]? = some x) (hy : L[k + 1]? = some y) : lt2 x y := by
  have hk : k + 1 < L.length := by
    rcases Nat.lt_or_ge (k + 1) L.length with h | h
    · exact h
    · rw [List.getElem?_eq_none h] at hy; cases hy
  have e1 : L[k] = x := by rw [List.getElem?_eq_getElem (by omega)] at hx; exact Option.some.inj hx
  have e2 : L[k + 1] = y := by rw [List.getElem?_eq_getElem hk] at hy; exact Option.some.inj hy
  rw [← e1, ← e2]
  exact List.pairwise_iff_getElem.1 ho k (k + 1) (by omega) hk (by omega)

theorem Own.put2 {w : World} {F : Nat → Prop} {g : Nat} {t : TypeId} {x y : Value} (h : Own w F g t #[x, y]) (u v : Value) : Own ((w.setCell ⟨g, 0, none⟩ u).setCell ⟨g, 1, none⟩ v) F g t #[u, v] :=
  ⟨(h.blk.set_ 0 u).set_ 1 v, h.not⟩
theorem QB.put2 {w0 w : World} {q : Nat} {F : Nat → Prop} {L : List KV} {g : Nat} (h : QB w0 w q F L) (hg : ¬ F g) (h0 : w0.heap.size ≤ g) (u v : Value) : QB w0 ((w.setCell ⟨g, 0, none⟩ u).setCell ⟨g, 1, none⟩ v) q F L :=
  (h.setCell hg h0 u).setCell hg h0 v

set_option maxRecDepth 100000 in
set_option maxHeartbeats 16000000 in
theorem order_any (A : Option Addr) (c : Nat) (xs : List ActV) (now iv dr : Int) (w : World) (hA : Acts w A xs) (h1 : xs.length ≤ 200) (hi1 : -9223372036854775808 ≤ iv) (hi2 : iv ≤ 9223372036854775807) (hd1 : -9223372036854775808 ≤ dr) (hd2 : dr ≤ 9223372036854775807) :
    Calls Try.prog 5 #[.slice A xs.length c, .int .i64 now, .int .i64 iv, .int .i64 dr] w fun e w' => e = .returned (.bool true) ∧ Below w.heap.size w w' := by
  have HA := Lib.hid hA
  clear hA
  go_enter Try.func5, Try.ntmps5
  go_wp2_with fail
  refine (qb_new _).mono ?_
  rintro e w1 ⟨q, F1, rfl, hq⟩
  have HQ1 := Lib.hid hq
  clear hq
  go_wp2_with fail
  go_loopw [10] (fun vi wr => ∃ (k : Nat) (F : Nat → Prop), k ≤ xs.length ∧ vi = .int .i64 k ∧ QB w wr q F (SL (xs.take k)))
    (fun vi _ => xs.length - (intOf vi).toNat)
  case atStart => exact ⟨0, F1, Nat.zero_le _, rfl, HQ1.out⟩
  case round =>
    obtain ⟨k, F, hk, rfl, hq⟩ := hrel
    have HQ := Lib.hid hq
    clear hq
    by_cases hkn : k < xs.length
    · obtain ⟨b, off, hAe, hbl, hcells⟩ := HA.out.cells (by omega)
      subst hAe
      obtain ⟨x, hx⟩ : ∃ x, xs[k]? = some x := ⟨xs[k], List.getElem?_eq_getElem hkn⟩
      obtain ⟨_, c1, c2⟩ := hcells k x hx
      have hbw : Below w.heap.size w wr := HQ.out.below
      have d1 : wr.cell? ⟨b, off + k * 3 + 1, none⟩ = some (.string x.name) := (hbw.cell (p := ⟨b, _, none⟩) hbl).trans c1
      have d2 : wr.cell? ⟨b, off + k * 3 + 2, none⟩ = some (.int .i64 x.tm) := (hbw.cell (p := ⟨b, _, none⟩) hbl).trans c2
      have Hx := Lib.hid hx
      clear hx hcells c1 c2 hbw
      by_cases hsz : x.name.size ≤ 5000
      · have htake : xs.take (k + 1) = xs.take k ++ [x] := by
          rw [List.take_add_one, Hx.out]; rfl
        have HT := Lib.hid htake
        have hsl : (SL (xs.take k)).length ≤ k := by have := SL_len (xs.take k); simp at this; omega
        have HSL := Lib.hid hsl
        clear htake hsl
        have hz : decide ((5000 : Int) < (x.name.size : Int)) = false := decide_eq_false (by omega)
        go_wp2_with fail
        refine region_tail 19 (by kernel_rfl) (by kernel_rfl) ?_
        simp only [List.take_succ_cons, List.take_zero, List.drop_succ_cons, List.drop_zero]
        repeat still_step
        refine wpStill_nil ?_
        go_wp2_with fail
        refine (qb_set HQ.out.drew x.name x.tm (.inr (by have := HSL.out; omega)) (by have := HSL.out; omega)).mono ?_
        rintro e w2 ⟨rfl, F2, hq2, hmv⟩
        have HQ2 := Lib.hid hq2
        clear hq2 hmv d1 d2
        go_wp2_with fail
        refine (num_any _ _).mono ?_
        rintro e w' ⟨rfl, rfl⟩
        go_wp2_with fail
        refine ⟨⟨k + 1, F2, by omega, by go_num, ?_⟩, by simp [intOf]; omega⟩
        rw [HT.out, SL_snoc]; exact HQ2.out
      · have hz : decide ((5000 : Int) < (x.name.size : Int)) = true := decide_eq_true (by omega)
        go_wp2_with fail
        go_quiet (fail)
        go_wp2_with fail
        refine (live_any _).mono ?_
        rintro e w9 ⟨rfl, hb⟩
        have HB := Lib.hid hb
        clear hb
        go_wp2_with fail
        go_ret
        exact ⟨rfl, (HQ.out.later (w' := wr.drewN _) ⟨rfl, rfl, rfl, Nat.le_refl _, fun _ _ => rfl⟩).below.trans (HB.out.mono HQ.out.below.size)⟩
    · have hke : k = xs.length := by omega
      subst hke
      have HSx : Hid (SL (xs.take xs.length) = SL xs) := by show _ = _; rw [List.take_length]
      rw [HSx.out] at HQ
      have HLen := Lib.hid (SL_len xs)
      clear HSx
      generalize SL xs = L at *
      go_wp2_with fail
      refine (qb_list HQ.out (by have := HLen.out; omega)).mono ?_
      rintro e w2 ⟨A2, c2, rfl, hd, hq2, hb2⟩
      have HD2 := Lib.hid hd
      have HQ2 := Lib.hid hq2
      clear hd hq2 hb2
      go_wp2_with fail
      go_loopw [11, 13] (fun vd vi wr2 => ∃ (k n : Nat), k ≤ L.length ∧ vi = .int .i64 k ∧ vd = .int .i64 (dueN (L.take k) now : Nat) ∧ wr2 = w2.drewN n)
        (fun _ vi _ => L.length - (intOf vi).toNat)
      case atStart => exact ⟨0, 0, Nat.zero_le _, rfl, rfl, rfl⟩
      case round =>
        obtain ⟨k, n, hk2, rfl, rfl, rfl⟩ := hrel
        by_cases hkm : k < L.length
        · obtain ⟨b, hAe, _, hbl, hc⟩ := HD2.out (by omega)
          subst hAe
          obtain ⟨x, hx⟩ : ∃ x, L[k]? = some x := ⟨L[k], List.getElem?_eq_getElem hkm⟩
          obtain ⟨_, e1⟩ := hc k x hx
          have ht : L.take (k + 1) = L.take k ++ [x] := by rw [List.take_add_one, hx]; rfl
          have hdn := dueN_snoc (L.take k) x now
          rw [← ht] at hdn
          have hdl := dueN_len (L.take k) now
          rw [List.length_take] at hdl
          generalize dueN (L.take k) now = D at *
          have HT := Lib.hid hdn
          have hDl : D ≤ L.length := by omega
          have hL200 : L.length ≤ 200 := by have := HLen.out; omega
          clear hx hc ht hdn hdl
          obtain ⟨s, t⟩ := x
          dsimp only at e1
          by_cases htn : t ≤ now
          · go_wp2_with fail
            refine ⟨⟨k + 1, n, by omega, by go_num, ?_, rfl⟩, by simp [intOf]; omega⟩
            rw [HT.out, if_pos htn]; go_num
          · go_wp2_with fail
            refine ⟨⟨k + 1, n, by omega, by go_num, ?_, rfl⟩, by simp [intOf]; omega⟩
            rw [HT.out, if_neg htn]
        · have hke : k = L.length := by omega
          subst hke
          rw [List.take_length]
          have HQ3 := Lib.hid (HQ2.out.later (w' := w2.drewN n) ⟨rfl, rfl, rfl, Nat.le_refl _, fun _ _ => rfl⟩)
          generalize w2.drewN n = w3 at *
          have hD0 : dueN L now ≤ 200 := by have := HLen.out; have := dueN_len L now; omega
          generalize hDD : dueN L now = D at *
          have HDD := Lib.hid hDD
          clear hDD HD2 HQ2
          go_wp2_with fail
          go_loopw [15] (fun vi wr3 => ∃ (k : Nat) (F3 : Nat → Prop) (s : ByteArray) (t : Int), k ≤ D ∧ vi = .int .i64 k ∧ QB w wr3 q F3 (L.drop k) ∧ Own wr3 F3 w3.heap.size 40 #[.string s, .int .i64 t] ∧ (0 < k → L[k - 1]? = some (s, t)))
            (fun vi _ => D - (intOf vi).toNat)
          case atStart => exact ⟨0, F, _, _, Nat.zero_le _, rfl, HQ3.out.alloc _, Own.new HQ3.out _ _, fun h => by omega⟩
          case round =>
            obtain ⟨k, F3, s, t, hk3, rfl, hq, ho, hlast⟩ := hrel
            have HQ4 := Lib.hid hq
            have HO := Lib.hid ho
            have HLa := Lib.hid hlast
            clear hq ho hlast
            by_cases hkD : k < D
            · obtain ⟨d, hd, hdn⟩ := due_at HQ.out.que.ord (by rw [HDD.out]; exact hkD)
              have HDat := Lib.hid hd
              go_wp2_with fail
              refine (qb_pop HQ4.out (by rw [List.length_drop]; have := HLen.out; omega) now).mono ?_
              rintro e w5 ⟨rfl, F5, hq5, hmv⟩
              rw [popS_due hd hdn] at hq5 ⊢
              have HQ5 := Lib.hid hq5
              have HO5 := Lib.hid (HO.out.move hmv)
              dsimp only at HQ5
              obtain ⟨s2, t2⟩ := d
              dsimp only at hdn
              clear hq5 hmv hd
              unfold dueV
              have hb1 : decide (now < t2) = false := decide_eq_false (by omega)
              have c0 := HO5.out.blk.cell 0
              have c1 := HO5.out.blk.cell 1
              simp only [List.getElem?_toArray, List.getElem?_cons_succ, List.getElem?_cons_zero] at c0 c1
              have hg : w3.heap.size < w5.heap.size := HO5.out.blk.lt
              have hgb : w.heap.size ≤ w3.heap.size := HQ3.out.below.size
              have hf0 := HO5.out.blk.frozen 0
              have hf1 := HO5.out.blk.frozen 1
              obtain hk0 | ⟨k1, hk1⟩ : k = 0 ∨ ∃ k1, k = k1 + 1 := by
                cases k with
                | zero => exact .inl rfl
                | succ n => exact .inr ⟨n, rfl⟩
              · subst hk0
                go_wp2_with fail
                refine ⟨⟨1, F5, s2, t2, by omega, by go_num, (HQ5.out.put2 HO5.out.not hgb _ _).alloc _, (HO5.out.put2 _ _).alloc _, fun _ => HDat.out⟩, by simp [intOf]; omega⟩
              · subst hk1
                have hb2 : decide ((0 : Int) < ((k1 + 1 : Nat) : Int)) = true := decide_eq_true (by omega)
                rcases ord_at HQ.out.que.ord (HLa.out (by omega)) HDat.out with hlt | ⟨heq, hlt⟩
                · dsimp only at hlt
                  have hb3 : decide (t2 < t) = false := decide_eq_false (by omega)
                  have hb4 : (t2 == t) = false := by simp; omega
                  have hb5 : decide (t2 = t) = false := decide_eq_false (by omega)
                  go_wp2_with fail
                  refine ⟨⟨k1 + 1 + 1, F5, s2, t2, by omega, by go_num, (HQ5.out.put2 HO5.out.not hgb _ _).alloc _, (HO5.out.put2 _ _).alloc _, fun _ => HDat.out⟩, by simp [intOf]; omega⟩
                · dsimp only at hlt heq
                  subst heq
                  have hb3 : decide (t < t) = false := decide_eq_false (by omega)
                  have hb4 : Op.bytesLess s2.toList s.toList = false := bl_asymm hlt
                  have hb5 : (s2.toList == s.toList) = false := by
                    cases he : (s2.toList == s.toList) with
                    | false => rfl
                    | true => rw [beq_iff_eq] at he; rw [he, bl_irrefl] at hlt; cases hlt
                  go_wp2_with fail
                  refine ⟨⟨k1 + 1 + 1, F5, s2, t, by omega, by go_num, (HQ5.out.put2 HO5.out.not hgb _ _).alloc _, (HO5.out.put2 _ _).alloc _, fun _ => HDat.out⟩, by simp [intOf]; omega⟩
            · have hke : k = D := by omega
              subst hke
              have hpn := popS_none (L := L.drop k) (now := now) (fun y hy => due_none HQ.out.que.ord y (by rw [HDD.out]; exact hy))
              have HPn := Lib.hid hpn
              have hll : (L.drop k).length ≤ 200 := by rw [List.length_drop]; have := HLen.out; omega
              clear hpn
              generalize L.drop k = L5 at *
              go_wp2_with fail
              refine (qb_pop HQ4.out (by omega) now).mono ?_
              rintro e w5 ⟨rfl, F5, hq5, _⟩
              have hbw := hq5.below
              have HBw := Lib.hid hbw
              clear hbw hq5
              rw [HPn.out]
              unfold due0
              go_wp2_with fail
              refine (jitter_any iv dr _ hi1 hi2 hd1 hd2).mono ?_
              rintro e w' ⟨rfl, rfl⟩
              by_cases hiv : iv < 1
              · rw [jitV_small iv dr hiv]
                have hb1 : decide (1 ≤ iv) = false := decide_eq_false (by omega)
                go_wp2_with fail
                refine (jitter_anyR iv dr _ hi1 hi2 hd1 hd2).mono ?_
                rintro e w' ⟨rfl, rfl⟩
                rw [jitV_small iv dr hiv]
                go_wp2_with fail
                refine (live_any _).mono ?_
                rintro e w6 ⟨rfl, hb⟩
                have HB := Lib.hid hb
                clear hb
                go_wp2_with fail
                go_ret
                exact ⟨rfl, (HBw.out.alloc HBw.out.size _).trans (HB.out.mono (by have := HBw.out.size; simp; omega))⟩
              · have hb1 : decide (1 ≤ iv) = true := decide_eq_true (by omega)
                obtain ⟨hj1, hj2⟩ := jitV_bound iv dr (by omega)
                have HJ2 := Lib.hid hj2
                clear hj2
                generalize hJ : jitV iv dr = J at *
                have HJ := Lib.hid hJ
                clear hJ
                have hb2 : decide (J ≤ iv) = true := decide_eq_true (by omega)
                have hb3 : decide (iv - iv / 4 ≤ J) = true := decide_eq_true HJ2.out
                go_wp2_with fail
                refine (jitter_anyR iv dr _ hi1 hi2 hd1 hd2).mono ?_
                rintro e w' ⟨rfl, rfl⟩
                rw [HJ.out]
                go_wp2_with fail
                refine (live_any _).mono ?_
                rintro e w6 ⟨rfl, hb⟩
                have HB := Lib.hid hb
                clear hb
                go_wp2_with fail
                go_ret
                exact ⟨rfl, (HBw.out.alloc HBw.out.size _).trans (HB.out.mono (by have := HBw.out.size; simp; omega))⟩

set_option maxRecDepth 100000 in
set_option maxHeartbeats 1000000 in
theorem order_out (A : Option Addr) (n c : Nat) (now iv dr : Int) (w : World) (h1 : 200 < n) :
    Calls Try.prog 5 #[.slice A n c, .int .i64 now, .int .i64 iv, .int .i64 dr] w fun e w' => e = .returned (.bool true) ∧ Below w.heap.size w w' := by
  go_enter Try.func5, Try.ntmps5
  go_wp2_with fail
  refine (live_any _).mono ?_
  rintro e w9 ⟨rfl, hb⟩
  have HB := Lib.hid hb
  clear hb
  go_wp2_with fail
  go_ret
  exact ⟨rfl, HB.out⟩

theorem wf64 {n : Int} (h : (Lit.int .i64 n).wf = true) : -9223372036854775808 ≤ n ∧ n ≤ 9223372036854775807 := by
  have h1 : IntKind.i64.min = -9223372036854775808 := by decide
  have h2 : IntKind.i64.max = 9223372036854775807 := by decide
  simp [Lit.wf, h1, h2] at h
  omega
theorem timerOrder_walk (A : Option Addr) (n c : Nat) (now iv dr : Int) (w : World) {H : Type} {enc : TypeId × Value → H} {d : DataW H} {p : List MemPlace} (k : DataW.Trod enc Try.prog w 0 (fun _ => true) true 32 (.slice A n c) d p) (_ : (Lit.int .i64 now).wf = true) (h2 : (Lit.int .i64 iv).wf = true) (h3 : (Lit.int .i64 dr).wf = true) :
    Calls Try.prog 5 #[.slice A n c, .int .i64 now, .int .i64 iv, .int .i64 dr] w fun e w' => e = .returned (.bool true) ∧ Below w.heap.size w w' := by
  obtain ⟨xs, hl, hA⟩ := acts_of k
  by_cases h : 200 < n
  · exact order_out A n c now iv dr w h
  · subst hl
    exact order_any A c xs now iv dr w hA (by omega) (wf64 h2).1 (wf64 h2).2 (wf64 h3).1 (wf64 h3).2
end Go.Proofs.Ytannmemocaibiaa
