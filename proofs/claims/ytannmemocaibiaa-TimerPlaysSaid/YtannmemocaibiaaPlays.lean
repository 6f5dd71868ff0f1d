/-
  The walk of TimerPlays.
-/
import Derived.Test.YtannmemocaibiaaRq
import Derived.Test.YtannmemocaibiaaLast
import Derived.Test.YtannmemocaibiaaApart
import Derived.Test.YtannmemocaibiaaOrder
import Derived.Deep.RegionHeld3
import Derived.Deep.DeepCutAuto
import Derived.Deep.CutBlock
namespace Go.Proofs.Ytannmemocaibiaa
open Go.RowKit

theorem popS_form (L : List KV) (now : Int) : ∃ s t b, (popS L now).1 = .tuple #[.agg #[.string s, .int .i64 t], .bool b] := by
  unfold popS
  split
  · exact ⟨_, _, _, rfl⟩
  · split
    · exact ⟨_, _, _, rfl⟩
    · exact ⟨_, _, _, rfl⟩

/-- Both queues hold the same list. -/
structure Both (w0 w : World) (q p : Nat) (n : Nat) : Prop where
  ex : ∃ (F : Nat → Prop) (L : List KV), L.length ≤ n ∧ QB w0 w q F L ∧ RQ w p L F

set_option maxRecDepth 100000 in
set_option maxHeartbeats 100000000 in
theorem plays_any (A : Option Addr) (c : Nat) (xs : List ActV) (w : World) (hA : Acts w A xs) (h1 : xs.length ≤ 200) :
    Calls Try.prog 7 #[.slice A xs.length c] w fun e w' => e = .returned (.bool true) ∧ Below w.heap.size w w' := by
  have HA := Lib.hid hA
  clear hA
  go_enter Try.func7, Try.ntmps7
  go_wp2_with fail
  go_loopw [3, 4] (fun vn vi wr => ∃ (k : Nat) (n : Int), k ≤ xs.length ∧ vi = .int .i64 k ∧ vn = .int .i64 n ∧ w = wr)
    (fun _ vi _ => xs.length - (intOf vi).toNat)
  case atStart => exact ⟨0, 0, Nat.zero_le _, rfl, rfl, rfl⟩
  case round =>
    obtain ⟨k, n, hk, rfl, rfl, rfl⟩ := hrel
    by_cases hkn : k < xs.length
    · obtain ⟨b, off, hAe, hbl, hcells⟩ := HA.out.cells (by omega)
      subst hAe
      obtain ⟨x, hx⟩ : ∃ x, xs[k]? = some x := ⟨xs[k], List.getElem?_eq_getElem hkn⟩
      obtain ⟨_, c1, _⟩ := hcells k x hx
      clear hx hcells
      have hk2 : decide ((k : Int) ≤ 200) = true := decide_eq_true (by omega)
      have hk3 : decide ((k : Int) < (xs.length : Int)) = true := decide_eq_true (by omega)
      go_wp2_with fail
      refine ⟨⟨k + 1, _, by omega, by go_num, rfl, trivial⟩, by simp [intOf]; omega⟩
    · have hke : k = xs.length := by omega
      subst hke
      have hz0 : decide ((200 : Int) < (xs.length : Int)) = false := decide_eq_false (by omega)
      by_cases hn5 : 5000 < n
      · have hz : decide ((5000 : Int) < n) = true := decide_eq_true (by omega)
        go_wp2_with fail
        refine (live_any _).mono ?_
        rintro e w9 ⟨rfl, hb⟩
        have HB := Lib.hid hb
        clear hb
        go_wp2_with fail
        go_ret
        exact ⟨rfl, HB.out⟩
      · have hz : decide ((5000 : Int) < n) = false := decide_eq_false (by omega)
        go_wp2_with fail
        refine (qb_new _).mono ?_
        rintro e w1 ⟨q, F1, rfl, hq⟩
        have HQ1 := Lib.hid hq
        clear hq
        go_wp2_with fail
        have HP0 : Hid (w.heap.size ≤ w1.heap.size) := HQ1.out.below.size
        have HBoth : Hid (Both w (w1.alloc (.cells #[.slice none 0 0] 52)) q w1.heap.size 0) :=
          ⟨F1, [], Nat.le_refl _, HQ1.out.alloc _, ⟨⟨none, 0, ⟨Blk.new w1 52 _, Nat.le_refl _, Nat.zero_le _, fun h => by simp at h⟩, fun h => by simp at h⟩, fun hf => Nat.lt_irrefl _ (HQ1.out.que.lt _ hf)⟩⟩
        clear HQ1
        generalize hW2 : w1.alloc (.cells #[.slice none 0 0] 52) = w2 at *
        clear hW2
        generalize w1.heap.size = p at *
        go_loopw [7] (fun vi wr => ∃ (k : Nat), k ≤ xs.length ∧ vi = .int .i64 k ∧ Both w wr q p k)
          (fun vi _ => xs.length - (intOf vi).toNat)
        case atStart => exact ⟨0, Nat.zero_le _, rfl, HBoth.out⟩
        case round =>
          obtain ⟨k, hk, rfl, hboth⟩ := hrel
          have HBk := Lib.hid hboth
          clear hboth HBoth
          by_cases hkn : k < xs.length
          · obtain ⟨b, off, hAe, hbl, hcells⟩ := HA.out.cells (by omega)
            subst hAe
            obtain ⟨x, hx⟩ : ∃ x, xs[k]? = some x := ⟨xs[k], List.getElem?_eq_getElem hkn⟩
            have hc := hcells k x hx
            have HC : Hid (w.cell? ⟨b, off + k * 3, none⟩ = some (.int .i64 x.kind) ∧ w.cell? ⟨b, off + k * 3 + 1, none⟩ = some (.string x.name) ∧ w.cell? ⟨b, off + k * 3 + 2, none⟩ = some (.int .i64 x.tm)) := hc
            clear hx hcells hc
            obtain ⟨kd, nm, tm⟩ := x
            dsimp only at HC
            obtain ⟨F, L, hL, hq, hr⟩ := HBk.out.ex
            have hbw := hq.below
            have d0 := (hbw.cell (p := ⟨b, off + k * 3, none⟩) hbl).trans HC.out.1
            have d1 := (hbw.cell (p := ⟨b, off + k * 3 + 1, none⟩) hbl).trans HC.out.2.1
            have d2 := (hbw.cell (p := ⟨b, off + k * 3 + 2, none⟩) hbl).trans HC.out.2.2
            have HQ := Lib.hid hq
            have HR := Lib.hid hr
            clear hbw hq hr
            go_upto_block 4 with fail
            go_cut [8, 9, 10, 11, 12, 13] from 50 to 246 (fun _ _ _ _ _ _ wx => Both w wx q p (k + 1))
            case first =>
              by_cases h0 : kd = 0
              · as_aux_lemma =>
                  subst h0
                  go_wp2_with fail
                  go_region_held3 (fun W => W.cell? ⟨b, off + k * 3 + 1, none⟩ = some (.string nm) ∧ W.cell? ⟨b, off + k * 3 + 2, none⟩ = some (.int .i64 tm))
                    (first | (refine ⟨?_, ?_⟩ <;> assumption) | go_keep)
                    (first
                      | (go_at_call 11
                         refine (qb_set HQ.out.drew nm tm (.inr (by omega)) (by omega)).mono ?_
                         rintro e w2 ⟨rfl, F2, hq2, hmv2⟩
                         have HQ2 := Lib.hid hq2
                         have HR2 := Lib.hid (HR.out.drew.move hmv2)
                         have e1 := (HQ2.out.below.cell (p := ⟨b, off + k * 3 + 1, none⟩) hbl).trans HC.out.2.1
                         have e2 := (HQ2.out.below.cell (p := ⟨b, off + k * 3 + 2, none⟩) hbl).trans HC.out.2.2
                         clear hq2 hmv2 d0 d1 d2)
                      | (go_at_call 12
                         refine (num_any _ _).mono ?_
                         rintro e w' ⟨rfl, rfl⟩)
                      | (go_at_call 22
                         refine (rq_set HR2.out HQ2.out.que.lt nm tm (by omega) HQ.out.que.ord HQ.out.que.names).mono ?_
                         rintro e w3 ⟨rfl, hr3, hO3⟩
                         have HQ3 := Lib.hid (HQ2.out.ref hO3 HR2.out.notp (by have := HP0.out; omega))
                         have HR3 := Lib.hid hr3
                         have e3 := (HQ3.out.below.cell (p := ⟨b, off + k * 3 + 1, none⟩) hbl).trans HC.out.2.1
                         have e4 := (HQ3.out.below.cell (p := ⟨b, off + k * 3 + 2, none⟩) hbl).trans HC.out.2.2
                         clear hr3 hO3))
                  go_wp2_with fail
                  go_meet
                  exact ⟨F2, _, by have := setS_len_le L nm tm; omega, HQ3.out, HR3.out⟩
              · have k0 : (kd == 0) = false := by simpa using h0
                clear h0
                by_cases h1 : kd = 1
                · as_aux_lemma =>
                    subst h1
                    clear k0
                    go_wp2_with fail
                    refine (rq_cancel HR.out HQ.out.que.lt nm (by omega) HQ.out.que.names).mono ?_
                    rintro e w2 ⟨rfl, hr2, hO2⟩
                    have HQ2 := Lib.hid (HQ.out.ref hO2 HR.out.notp (by have := HP0.out; omega))
                    have HR2 := Lib.hid hr2
                    have e1 := (HQ2.out.below.cell (p := ⟨b, off + k * 3 + 1, none⟩) hbl).trans HC.out.2.1
                    have HOL : Hid ((others L nm).length ≤ L.length) := List.length_filter_le _ _
                    clear hr2 hO2 d0 d1 d2
                    cases hbv : hasB L nm
                    all_goals
                      have HBv := Lib.hid hbv
                      clear hbv
                      go_wp2_with fail
                      go_region_held3 (fun W => W.cell? ⟨b, off + k * 3 + 1, none⟩ = some (.string nm))
                        (first | assumption | go_keep)
                        (first
                          | (go_at_call 14
                             refine (qb_cancel (HQ2.out.alloc (.cells #[.string nm, .string nm] 9)).drew (some ⟨w2.heap.size, 0, none⟩) [nm, nm] 2 w2.heap.size (names_two nm nm) (fun _ hf => by have := HQ2.out.que.lt _ hf; omega) (by omega) (by simp)).mono ?_
                             rintro e w3 ⟨rfl, F3, hq3, hmv3⟩
                             rw [canS_two, HBv.out] at hq3 ⊢
                             have HQ3 := Lib.hid hq3
                             have HR3 := Lib.hid ((HR2.out.alloc (.cells #[.string nm, .string nm] 9)).drew.move hmv3)
                             dsimp only at HQ3
                             have e3 := (HQ3.out.below.cell (p := ⟨b, off + k * 3 + 1, none⟩) hbl).trans HC.out.2.1
                             clear hq3 hmv3))
                      go_wp2_with fail
                      go_meet
                      exact ⟨F3, _, by have := HOL.out; omega, HQ3.out, HR3.out⟩
                · have k1 : (kd == 1) = false := by simpa using h1
                  clear h1
                  by_cases h2 : kd = 2
                  · as_aux_lemma =>
                      subst h2
                      clear k0 k1
                      obtain ⟨s9, t9, b9, hp9⟩ := popS_form L tm
                      have HPL : Hid ((popS L tm).2.length ≤ L.length) := popS_len L tm
                      have HP9 := Lib.hid hp9
                      clear hp9
                      go_wp2_with fail
                      refine (qb_pop HQ.out (by omega) tm).mono ?_
                      rintro e w2 ⟨rfl, F2, hq2, hmv2⟩
                      rw [HP9.out]
                      have HQ2 := Lib.hid (hq2.alloc (.cells #[.string s9, .int .i64 t9] 40))
                      have HR2 := Lib.hid ((HR.out.move hmv2).alloc (.cells #[.string s9, .int .i64 t9] 40))
                      have HOn := Lib.hid (Own.new hq2 40 #[.string s9, .int .i64 t9])
                      have e2 := (HQ2.out.below.cell (p := ⟨b, off + k * 3 + 2, none⟩) hbl).trans HC.out.2.2
                      have HOw : Hid (wr.heap.size ≤ w2.heap.size) := hmv2.only.size
                      clear hq2 hmv2 d0 d1 d2
                      go_wp2_with fail
                      refine (rq_pop HR2.out HQ2.out.que.lt tm (by omega)).mono ?_
                      rintro e w3 ⟨rfl, hr3, hO3⟩
                      have HQ3 := Lib.hid (HQ2.out.ref hO3 HR2.out.notp (by have := HP0.out; omega))
                      have HR3 := Lib.hid hr3
                      have kb := (HOn.out.blk).only hO3 (by obtain ⟨A0, c0, hr0, _⟩ := HR.out.ex; have := hr0.blk.lt; have := HOw.out; omega)
                      have g0 := kb.cell 0
                      have g1 := kb.cell 1
                      have gl := kb.lt
                      simp only [List.getElem?_toArray, List.getElem?_cons_succ, List.getElem?_cons_zero] at g0 g1
                      clear hr3 hO3 kb e2
                      rw [HP9.out]
                      go_wp2_with fail
                      go_meet
                      exact ⟨F2, _, by have := HPL.out; omega, HQ3.out.alloc _, HR3.out.alloc _⟩
                  · as_aux_lemma =>
                      have k2 : (kd == 2) = false := by simpa using h2
                      clear h2
                      by_cases h3 : kd = 3
                      · subst h3
                        clear k0 k1 k2
                        go_wp2_with fail
                        refine (copy_any HQ.out.que (by omega)).mono ?_
                        rintro e w2 ⟨cc, F2, rfl, hc⟩
                        have HC2 := Lib.hid hc
                        have HQ2 := Lib.hid (HQ.out.later hc.below)
                        have HR2 := Lib.hid (HR.out.later hc.below)
                        clear hc d0 d1 d2
                        obtain ⟨Ar, cr, hrr, hrF⟩ := HR2.out.ex
                        have HRr := Lib.hid hrr
                        have p0 := hrr.blk.cell 0
                        have pl := hrr.blk.lt
                        simp only [List.getElem?_toArray, List.getElem?_cons_zero] at p0
                        clear hrr hrF
                        go_wp2_with fail
                        go_region_held3 (fun W => W.cell? ⟨p, 0, none⟩ = some (.slice Ar L.length cr))
                          (first | assumption | go_keep)
                          (first
                            | (go_at_call 17
                               refine (qb_list HC2.out.drew (by omega)).mono ?_
                               rintro e w3 ⟨A3, c3, rfl, hd3, hq3, hb3⟩
                               have HC3 := Lib.hid hq3
                               have HD3 := Lib.hid hd3
                               have HB3 := Lib.hid hb3
                               have p1 := (hb3.cell (p := ⟨p, 0, none⟩) (by simpa using pl)).trans (by simpa using p0)
                               clear hd3 hq3 hb3)
                            | (go_at_call 21
                               refine (same_any A3 Ar c3 cr L L w3 HD3.out.same (HRr.out.drew.below HB3.out).dueS (by omega) (by omega)).mono ?_
                               rintro e w' ⟨rfl, nn, rfl⟩
                               rw [show decide (L = L) = true from decide_eq_true rfl]))
                        have HC4 : Hid (QB wr (w3.drewN nn) cc F2 L) := HC3.out.later ⟨rfl, rfl, rfl, Nat.le_refl _, fun _ _ => rfl⟩
                        clear HC3 HC2 p0 p1 pl
                        generalize w3.drewN nn = w4 at *
                        go_wp2_with fail
                        refine (qb_set HC4.out _ 0 (.inr (by omega)) (by omega)).mono ?_
                        rintro e w5 ⟨rfl, F5, hq5, _⟩
                        have HC5 := Lib.hid hq5
                        have HL5 : Hid ((setS L _ 0).length ≤ L.length + 1) := setS_len_le L ⟨#[111, 110, 108, 121, 32, 116, 104, 101, 114, 101]⟩ 0
                        clear hq5
                        go_wp2_with fail
                        refine (qb_pop HC5.out (by have := HL5.out; omega) _).mono ?_
                        rintro e w6 ⟨rfl, F6, hq6, _⟩
                        have HB6 := Lib.hid hq6.below
                        clear hq6
                        generalize (popS (setS L _ 0) _).1 = pv at *
                        go_wp2_with fail
                        go_meet
                        exact ⟨F, L, by omega, HQ.out.later HB6.out, HR.out.later HB6.out⟩
                      · have k3 : (kd == 3) = false := by simpa using h3
                        clear h3
                        go_wp2_with fail
                        go_meet
                        exact ⟨F, L, by omega, HQ.out, HR.out⟩
            case rest =>
              rename World => wc
              clear HQ HR HBk hL d0 d1 d2
              obtain ⟨F, L, hL, hq, hr⟩ := hcut.ex
              clear hcut
              have HLk := Lib.hid hL
              have HLe : Hid (L.length ≤ 201) := by show _ ≤ _; omega
              have HQ := Lib.hid hq
              have HR := Lib.hid hr
              clear hq hr hL
              cases L with
              | nil =>
                as_aux_lemma =>
                  go_wp2_with fail
                  refine (que_next_nil HQ.out.que).mono ?_
                  rintro e w2 ⟨rfl, hb2⟩
                  unfold due0
                  have HQ2 := Lib.hid ((HQ.out.later hb2).alloc (.cells #[.string ⟨#[]⟩, .int .i64 0] 40))
                  have HR2 := Lib.hid ((HR.out.later hb2).alloc (.cells #[.string ⟨#[]⟩, .int .i64 0] 40))
                  have d1 := (HQ2.out.below.cell (p := ⟨b, off + k * 3 + 1, none⟩) hbl).trans HC.out.2.1
                  clear hb2
                  go_wp2_with fail
                  refine (que_at_none HQ2.out.que nm (by rintro ⟨x, hx, _⟩; simp at hx)).mono ?_
                  rintro e w' ⟨rfl, rfl⟩
                  go_wp2_with fail
                  refine (rq_find HR2.out nm (by simp)).mono ?_
                  rintro e w' ⟨rfl, rfl⟩
                  rw [show findV [] nm = -1 from rfl]
                  obtain ⟨Ar, cr, hrr, hrF⟩ := HR2.out.ex
                  have HRr := Lib.hid hrr
                  have p0 := hrr.blk.cell 0
                  have pl := hrr.blk.lt
                  simp only [List.getElem?_toArray, List.getElem?_cons_zero] at p0
                  clear hrr hrF d1
                  generalize w2.alloc (.cells #[.string ⟨#[]⟩, .int .i64 0] 40) = w3 at *
                  simp only [List.length_nil] at p0
                  go_wp2_with fail
                  have p0d : w3.drew.cell? ⟨p, 0, none⟩ = some (.slice Ar 0 cr) := by simpa using p0
                  refine wp_region_held_drew (S := (fun W => W.cell? ⟨p, 0, none⟩ = some (.slice Ar 0 cr))) (by kernel_rfl) ?hS1 (fun hHeld => ?_)
                  case hS1 =>
                    try dsimp only
                    exact p0d
                  first
                    | (refine wpAnyH_takeB (i := 0) (v := ?v2) rfl (by kernel_rfl) (by kernel_rfl) (by kernel_rfl) (fun _ _ _ h => h) (by rfl) ?hy2 hHeld ?_
                       case hy2 =>
                         intro W hW
                         try dsimp only at hW
                         go_simp
                         try with_reducible rfl)
                    | (refine wpAnyH_takeN (i := 0) rfl (by kernel_rfl) (by kernel_rfl) (by kernel_rfl) (fun _ _ _ h => h) (by rfl) hHeld ?_)
                  try simp only [Act.put, List.setIfInBounds_toArray, List.set_cons_zero, List.set_cons_succ]
                  first
                    | (refine wpAnyH_takeB (i := 2) (v := ?v3) rfl (by kernel_rfl) (by kernel_rfl) (by kernel_rfl) (fun _ _ _ h => h) (by rfl) ?hy3 hHeld ?_
                       case hy3 =>
                         intro W hW
                         try dsimp only at hW
                         go_simp
                         try with_reducible rfl)
                    | (refine wpAnyH_takeN (i := 2) rfl (by kernel_rfl) (by kernel_rfl) (by kernel_rfl) (fun _ _ _ h => h) (by rfl) hHeld ?_)
                  try simp only [Act.put, List.setIfInBounds_toArray, List.set_cons_zero, List.set_cons_succ]
                  first
                    | (refine wpAnyH_takeB (i := 3) (v := ?v4) rfl (by kernel_rfl) (by kernel_rfl) (by kernel_rfl) (fun _ _ _ h => h) (by rfl) ?hy4 hHeld ?_
                       case hy4 =>
                         intro W hW
                         try dsimp only at hW
                         go_simp
                         try with_reducible rfl)
                    | (refine wpAnyH_takeN (i := 3) rfl (by kernel_rfl) (by kernel_rfl) (by kernel_rfl) (fun _ _ _ h => h) (by rfl) hHeld ?_)
                  try simp only [Act.put, List.setIfInBounds_toArray, List.set_cons_zero, List.set_cons_succ]
                  first
                    | (refine wpAnyH_takeB (i := 4) (v := ?v5) rfl (by kernel_rfl) (by kernel_rfl) (by kernel_rfl) (fun _ _ _ h => h) (by rfl) ?hy5 hHeld ?_
                       case hy5 =>
                         intro W hW
                         try dsimp only at hW
                         go_simp
                         try with_reducible rfl)
                    | (refine wpAnyH_takeN (i := 4) rfl (by kernel_rfl) (by kernel_rfl) (by kernel_rfl) (fun _ _ _ h => h) (by rfl) hHeld ?_)
                  try simp only [Act.put, List.setIfInBounds_toArray, List.set_cons_zero, List.set_cons_succ]
                  first
                    | (refine wpAnyH_takeB (i := 5) (v := ?v6) rfl (by kernel_rfl) (by kernel_rfl) (by kernel_rfl) (fun _ _ _ h => h) (by rfl) ?hy6 hHeld ?_
                       case hy6 =>
                         intro W hW
                         try dsimp only at hW
                         go_simp
                         try with_reducible rfl)
                    | (refine wpAnyH_takeN (i := 5) rfl (by kernel_rfl) (by kernel_rfl) (by kernel_rfl) (fun _ _ _ h => h) (by rfl) hHeld ?_)
                  try simp only [Act.put, List.setIfInBounds_toArray, List.set_cons_zero, List.set_cons_succ]
                  refine AllReadyH.one (i := 1) (by kernel_rfl) rfl (fun K hK => ?_)
                  go_simp
                  refine (qb_list HQ2.out.drew (by have := HLe.out; omega)).mono ?_
                  rintro e w4 ⟨A3, c3, rfl, hd3, hq3, hb3⟩
                  have HQ3 := Lib.hid hq3
                  have HD3 := Lib.hid hd3
                  have HB3 := Lib.hid hb3
                  have p0b := (hb3.cell (p := ⟨p, 0, none⟩) (pl)).trans p0d
                  clear hd3 hq3 hb3
                  refine hK.out _ _ ?hS7 (fun hHeld => ?_)
                  case hS7 =>
                    try dsimp only
                    exact p0b
                  clear hK K
                  try simp only [Act.put, List.setIfInBounds_toArray, List.set_cons_zero, List.set_cons_succ]
                  refine AllReadyH.one (i := 6) (by kernel_rfl) rfl (fun K hK => ?_)
                  go_simp
                  refine (same_any A3 Ar c3 cr ([]) ([]) w4 HD3.out.same (HRr.out.drew.below HB3.out).dueS (by have := HLe.out; omega) (by have := HLe.out; omega)).mono ?_
                  rintro e w' ⟨rfl, nn, rfl⟩
                  rw [show decide (([] : List KV) = []) = true from decide_eq_true rfl]
                  refine hK.out _ _ ?hS8 (fun hHeld => ?_)
                  case hS8 =>
                    try dsimp only
                    exact p0b
                  clear hK K
                  try simp only [Act.put, List.setIfInBounds_toArray, List.set_cons_zero, List.set_cons_succ]
                  first
                    | (refine wpAnyH_takeB (i := 7) (v := ?v9) rfl (by kernel_rfl) (by kernel_rfl) (by kernel_rfl) (fun _ _ _ h => h) (by rfl) ?hy9 hHeld ?_
                       case hy9 =>
                         intro W hW
                         try dsimp only at hW
                         go_simp
                         try with_reducible rfl)
                    | (refine wpAnyH_takeN (i := 7) rfl (by kernel_rfl) (by kernel_rfl) (by kernel_rfl) (fun _ _ _ h => h) (by rfl) hHeld ?_)
                  try simp only [Act.put, List.setIfInBounds_toArray, List.set_cons_zero, List.set_cons_succ]
                  first
                    | (refine wpAnyH_takeB (i := 8) (v := ?v10) rfl (by kernel_rfl) (by kernel_rfl) (by kernel_rfl) (fun _ _ _ h => h) (by rfl) ?hy10 hHeld ?_
                       case hy10 =>
                         intro W hW
                         try dsimp only at hW
                         go_simp
                         try with_reducible rfl)
                    | (refine wpAnyH_takeN (i := 8) rfl (by kernel_rfl) (by kernel_rfl) (by kernel_rfl) (fun _ _ _ h => h) (by rfl) hHeld ?_)
                  try simp only [Act.put, List.setIfInBounds_toArray, List.set_cons_zero, List.set_cons_succ]
                  first
                    | (refine wpAnyH_takeB (i := 9) (v := ?v11) rfl (by kernel_rfl) (by kernel_rfl) (by kernel_rfl) (fun _ _ _ h => h) (by rfl) ?hy11 hHeld ?_
                       case hy11 =>
                         intro W hW
                         try dsimp only at hW
                         go_simp
                         try with_reducible rfl)
                    | (refine wpAnyH_takeN (i := 9) rfl (by kernel_rfl) (by kernel_rfl) (by kernel_rfl) (fun _ _ _ h => h) (by rfl) hHeld ?_)
                  try simp only [Act.put, List.setIfInBounds_toArray, List.set_cons_zero, List.set_cons_succ]
                  first
                    | (refine wpAnyH_takeB (i := 11) (v := ?v12) rfl (by kernel_rfl) (by kernel_rfl) (by kernel_rfl) (fun _ _ _ h => h) (by rfl) ?hy12 hHeld ?_
                       case hy12 =>
                         intro W hW
                         try dsimp only at hW
                         go_simp
                         try with_reducible rfl)
                    | (refine wpAnyH_takeN (i := 11) rfl (by kernel_rfl) (by kernel_rfl) (by kernel_rfl) (fun _ _ _ h => h) (by rfl) hHeld ?_)
                  try simp only [Act.put, List.setIfInBounds_toArray, List.set_cons_zero, List.set_cons_succ]
                  first
                    | (refine wpAnyH_takeB (i := 12) (v := ?v13) rfl (by kernel_rfl) (by kernel_rfl) (by kernel_rfl) (fun _ _ _ h => h) (by rfl) ?hy13 hHeld ?_
                       case hy13 =>
                         intro W hW
                         try dsimp only at hW
                         go_simp
                         try with_reducible rfl)
                    | (refine wpAnyH_takeN (i := 12) rfl (by kernel_rfl) (by kernel_rfl) (by kernel_rfl) (fun _ _ _ h => h) (by rfl) hHeld ?_)
                  try simp only [Act.put, List.setIfInBounds_toArray, List.set_cons_zero, List.set_cons_succ]
                  first
                    | (refine wpAnyH_takeB (i := 13) (v := ?v14) rfl (by kernel_rfl) (by kernel_rfl) (by kernel_rfl) (fun _ _ _ h => h) (by rfl) ?hy14 hHeld ?_
                       case hy14 =>
                         intro W hW
                         try dsimp only at hW
                         go_simp
                         try with_reducible rfl)
                    | (refine wpAnyH_takeN (i := 13) rfl (by kernel_rfl) (by kernel_rfl) (by kernel_rfl) (fun _ _ _ h => h) (by rfl) hHeld ?_)
                  try simp only [Act.put, List.setIfInBounds_toArray, List.set_cons_zero, List.set_cons_succ]
                  first
                    | (refine wpAnyH_takeB (i := 14) (v := ?v15) rfl (by kernel_rfl) (by kernel_rfl) (by kernel_rfl) (fun _ _ _ h => h) (by rfl) ?hy15 hHeld ?_
                       case hy15 =>
                         intro W hW
                         try dsimp only at hW
                         go_simp
                         try with_reducible rfl)
                    | (refine wpAnyH_takeN (i := 14) rfl (by kernel_rfl) (by kernel_rfl) (by kernel_rfl) (fun _ _ _ h => h) (by rfl) hHeld ?_)
                  try simp only [Act.put, List.setIfInBounds_toArray, List.set_cons_zero, List.set_cons_succ]
                  first
                    | (refine wpAnyH_takeB (i := 15) (v := ?v16) rfl (by kernel_rfl) (by kernel_rfl) (by kernel_rfl) (fun _ _ _ h => h) (by rfl) ?hy16 hHeld ?_
                       case hy16 =>
                         intro W hW
                         try dsimp only at hW
                         go_simp
                         try with_reducible rfl)
                    | (refine wpAnyH_takeN (i := 15) rfl (by kernel_rfl) (by kernel_rfl) (by kernel_rfl) (fun _ _ _ h => h) (by rfl) hHeld ?_)
                  try simp only [Act.put, List.setIfInBounds_toArray, List.set_cons_zero, List.set_cons_succ]
                  refine AllReadyH.one (i := 10) (by kernel_rfl) rfl (fun K hK => ?_)
                  go_simp
                  refine ((HQ3.out.later (w' := w4.drewN nn) ⟨rfl, rfl, rfl, Nat.le_refl _, fun _ _ => rfl⟩).que.len).mono ?_
                  rintro e w' ⟨rfl, rfl⟩
                  refine hK.out _ _ ?hS17 (fun hHeld => ?_)
                  case hS17 =>
                    try dsimp only
                    exact p0b
                  clear hK K
                  try simp only [Act.put, List.setIfInBounds_toArray, List.set_cons_zero, List.set_cons_succ]
                  first
                    | (refine wpAnyH_takeB (i := 16) (v := ?v18) rfl (by kernel_rfl) (by kernel_rfl) (by kernel_rfl) (fun _ _ _ h => h) (by rfl) ?hy18 hHeld ?_
                       case hy18 =>
                         intro W hW
                         try dsimp only at hW
                         go_simp
                         try with_reducible rfl)
                    | (refine wpAnyH_takeN (i := 16) rfl (by kernel_rfl) (by kernel_rfl) (by kernel_rfl) (fun _ _ _ h => h) (by rfl) hHeld ?_)
                  try simp only [Act.put, List.setIfInBounds_toArray, List.set_cons_zero, List.set_cons_succ]
                  first
                    | (refine wpAnyH_takeB (i := 17) (v := ?v19) rfl (by kernel_rfl) (by kernel_rfl) (by kernel_rfl) (fun _ _ _ h => h) (by rfl) ?hy19 hHeld ?_
                       case hy19 =>
                         intro W hW
                         try dsimp only at hW
                         go_simp
                         try with_reducible rfl)
                    | (refine wpAnyH_takeN (i := 17) rfl (by kernel_rfl) (by kernel_rfl) (by kernel_rfl) (fun _ _ _ h => h) (by rfl) hHeld ?_)
                  try simp only [Act.put, List.setIfInBounds_toArray, List.set_cons_zero, List.set_cons_succ]
                  first
                    | (refine wpAnyH_takeB (i := 18) (v := ?v20) rfl (by kernel_rfl) (by kernel_rfl) (by kernel_rfl) (fun _ _ _ h => h) (by rfl) ?hy20 hHeld ?_
                       case hy20 =>
                         intro W hW
                         try dsimp only at hW
                         go_simp
                         try with_reducible rfl)
                    | (refine wpAnyH_takeN (i := 18) rfl (by kernel_rfl) (by kernel_rfl) (by kernel_rfl) (fun _ _ _ h => h) (by rfl) hHeld ?_)
                  try simp only [Act.put, List.setIfInBounds_toArray, List.set_cons_zero, List.set_cons_succ]
                  first
                    | (refine wpAnyH_takeB (i := 19) (v := ?v21) rfl (by kernel_rfl) (by kernel_rfl) (by kernel_rfl) (fun _ _ _ h => h) (by rfl) ?hy21 hHeld ?_
                       case hy21 =>
                         intro W hW
                         try dsimp only at hW
                         go_simp
                         try with_reducible rfl)
                    | (refine wpAnyH_takeN (i := 19) rfl (by kernel_rfl) (by kernel_rfl) (by kernel_rfl) (fun _ _ _ h => h) (by rfl) hHeld ?_)
                  try simp only [Act.put, List.setIfInBounds_toArray, List.set_cons_zero, List.set_cons_succ]
                  first
                    | (refine wpAnyH_takeB (i := 20) (v := ?v22) rfl (by kernel_rfl) (by kernel_rfl) (by kernel_rfl) (fun _ _ _ h => h) (by rfl) ?hy22 hHeld ?_
                       case hy22 =>
                         intro W hW
                         try dsimp only at hW
                         go_simp
                         try with_reducible rfl)
                    | (refine wpAnyH_takeN (i := 20) rfl (by kernel_rfl) (by kernel_rfl) (by kernel_rfl) (fun _ _ _ h => h) (by rfl) hHeld ?_)
                  try simp only [Act.put, List.setIfInBounds_toArray, List.set_cons_zero, List.set_cons_succ]
                  first
                    | (refine wpAnyH_takeB (i := 21) (v := ?v23) rfl (by kernel_rfl) (by kernel_rfl) (by kernel_rfl) (fun _ _ _ h => h) (by rfl) ?hy23 hHeld ?_
                       case hy23 =>
                         intro W hW
                         try dsimp only at hW
                         go_simp
                         try with_reducible rfl)
                    | (refine wpAnyH_takeN (i := 21) rfl (by kernel_rfl) (by kernel_rfl) (by kernel_rfl) (fun _ _ _ h => h) (by rfl) hHeld ?_)
                  try simp only [Act.put, List.setIfInBounds_toArray, List.set_cons_zero, List.set_cons_succ]
                  first
                    | (refine wpAnyH_takeB (i := 22) (v := ?v24) rfl (by kernel_rfl) (by kernel_rfl) (by kernel_rfl) (fun _ _ _ h => h) (by rfl) ?hy24 hHeld ?_
                       case hy24 =>
                         intro W hW
                         try dsimp only at hW
                         go_simp
                         try with_reducible rfl)
                    | (refine wpAnyH_takeN (i := 22) rfl (by kernel_rfl) (by kernel_rfl) (by kernel_rfl) (fun _ _ _ h => h) (by rfl) hHeld ?_)
                  try simp only [Act.put, List.setIfInBounds_toArray, List.set_cons_zero, List.set_cons_succ]
                  first
                    | (refine wpAnyH_takeB (i := 23) (v := ?v25) rfl (by kernel_rfl) (by kernel_rfl) (by kernel_rfl) (fun _ _ _ h => h) (by rfl) ?hy25 hHeld ?_
                       case hy25 =>
                         intro W hW
                         try dsimp only at hW
                         go_simp
                         try with_reducible rfl)
                    | (refine wpAnyH_takeN (i := 23) rfl (by kernel_rfl) (by kernel_rfl) (by kernel_rfl) (fun _ _ _ h => h) (by rfl) hHeld ?_)
                  try simp only [Act.put, List.setIfInBounds_toArray, List.set_cons_zero, List.set_cons_succ]
                  first
                    | (refine wpAnyH_takeB (i := 24) (v := ?v26) rfl (by kernel_rfl) (by kernel_rfl) (by kernel_rfl) (fun _ _ _ h => h) (by rfl) ?hy26 hHeld ?_
                       case hy26 =>
                         intro W hW
                         try dsimp only at hW
                         go_simp
                         try with_reducible rfl)
                    | (refine wpAnyH_takeN (i := 24) rfl (by kernel_rfl) (by kernel_rfl) (by kernel_rfl) (fun _ _ _ h => h) (by rfl) hHeld ?_)
                  try simp only [Act.put, List.setIfInBounds_toArray, List.set_cons_zero, List.set_cons_succ]
                  first
                    | (refine wpAnyH_takeB (i := 25) (v := ?v27) rfl (by kernel_rfl) (by kernel_rfl) (by kernel_rfl) (fun _ _ _ h => h) (by rfl) ?hy27 hHeld ?_
                       case hy27 =>
                         intro W hW
                         try dsimp only at hW
                         go_simp
                         try with_reducible rfl)
                    | (refine wpAnyH_takeN (i := 25) rfl (by kernel_rfl) (by kernel_rfl) (by kernel_rfl) (fun _ _ _ h => h) (by rfl) hHeld ?_)
                  try simp only [Act.put, List.setIfInBounds_toArray, List.set_cons_zero, List.set_cons_succ]
                  first
                    | (refine wpAnyH_takeB (i := 26) (v := ?v28) rfl (by kernel_rfl) (by kernel_rfl) (by kernel_rfl) (fun _ _ _ h => h) (by rfl) ?hy28 hHeld ?_
                       case hy28 =>
                         intro W hW
                         try dsimp only at hW
                         go_simp
                         try with_reducible rfl)
                    | (refine wpAnyH_takeN (i := 26) rfl (by kernel_rfl) (by kernel_rfl) (by kernel_rfl) (fun _ _ _ h => h) (by rfl) hHeld ?_)
                  try simp only [Act.put, List.setIfInBounds_toArray, List.set_cons_zero, List.set_cons_succ]
                  first
                    | (refine wpAnyH_takeB (i := 27) (v := ?v29) rfl (by kernel_rfl) (by kernel_rfl) (by kernel_rfl) (fun _ _ _ h => h) (by rfl) ?hy29 hHeld ?_
                       case hy29 =>
                         intro W hW
                         try dsimp only at hW
                         go_simp
                         try with_reducible rfl)
                    | (refine wpAnyH_takeN (i := 27) rfl (by kernel_rfl) (by kernel_rfl) (by kernel_rfl) (fun _ _ _ h => h) (by rfl) hHeld ?_)
                  try simp only [Act.put, List.setIfInBounds_toArray, List.set_cons_zero, List.set_cons_succ]
                  first
                    | (refine wpAnyH_takeB (i := 28) (v := ?v30) rfl (by kernel_rfl) (by kernel_rfl) (by kernel_rfl) (fun _ _ _ h => h) (by rfl) ?hy30 hHeld ?_
                       case hy30 =>
                         intro W hW
                         try dsimp only at hW
                         go_simp
                         try with_reducible rfl)
                    | (refine wpAnyH_takeN (i := 28) rfl (by kernel_rfl) (by kernel_rfl) (by kernel_rfl) (fun _ _ _ h => h) (by rfl) hHeld ?_)
                  try simp only [Act.put, List.setIfInBounds_toArray, List.set_cons_zero, List.set_cons_succ]
                  first
                    | (refine wpAnyH_takeB (i := 29) (v := ?v31) rfl (by kernel_rfl) (by kernel_rfl) (by kernel_rfl) (fun _ _ _ h => h) (by rfl) ?hy31 hHeld ?_
                       case hy31 =>
                         intro W hW
                         try dsimp only at hW
                         go_simp
                         try with_reducible rfl)
                    | (refine wpAnyH_takeN (i := 29) rfl (by kernel_rfl) (by kernel_rfl) (by kernel_rfl) (fun _ _ _ h => h) (by rfl) hHeld ?_)
                  try simp only [Act.put, List.setIfInBounds_toArray, List.set_cons_zero, List.set_cons_succ]
                  first
                    | (refine wpAnyH_takeB (i := 30) (v := ?v32) rfl (by kernel_rfl) (by kernel_rfl) (by kernel_rfl) (fun _ _ _ h => h) (by rfl) ?hy32 hHeld ?_
                       case hy32 =>
                         intro W hW
                         try dsimp only at hW
                         go_simp
                         try with_reducible rfl)
                    | (refine wpAnyH_takeN (i := 30) rfl (by kernel_rfl) (by kernel_rfl) (by kernel_rfl) (fun _ _ _ h => h) (by rfl) hHeld ?_)
                  try simp only [Act.put, List.setIfInBounds_toArray, List.set_cons_zero, List.set_cons_succ]
                  first
                    | (refine wpAnyH_takeB (i := 31) (v := ?v33) rfl (by kernel_rfl) (by kernel_rfl) (by kernel_rfl) (fun _ _ _ h => h) (by rfl) ?hy33 hHeld ?_
                       case hy33 =>
                         intro W hW
                         try dsimp only at hW
                         go_simp
                         try with_reducible rfl)
                    | (refine wpAnyH_takeN (i := 31) rfl (by kernel_rfl) (by kernel_rfl) (by kernel_rfl) (fun _ _ _ h => h) (by rfl) hHeld ?_)
                  try simp only [Act.put, List.setIfInBounds_toArray, List.set_cons_zero, List.set_cons_succ]
                  first
                    | (refine wpAnyH_takeB (i := 32) (v := ?v34) rfl (by kernel_rfl) (by kernel_rfl) (by kernel_rfl) (fun _ _ _ h => h) (by rfl) ?hy34 hHeld ?_
                       case hy34 =>
                         intro W hW
                         try dsimp only at hW
                         go_simp
                         try with_reducible rfl)
                    | (refine wpAnyH_takeN (i := 32) rfl (by kernel_rfl) (by kernel_rfl) (by kernel_rfl) (fun _ _ _ h => h) (by rfl) hHeld ?_)
                  try simp only [Act.put, List.setIfInBounds_toArray, List.set_cons_zero, List.set_cons_succ]
                  first
                    | (refine wpAnyH_takeB (i := 33) (v := ?v35) rfl (by kernel_rfl) (by kernel_rfl) (by kernel_rfl) (fun _ _ _ h => h) (by rfl) ?hy35 hHeld ?_
                       case hy35 =>
                         intro W hW
                         try dsimp only at hW
                         go_simp
                         try with_reducible rfl)
                    | (refine wpAnyH_takeN (i := 33) rfl (by kernel_rfl) (by kernel_rfl) (by kernel_rfl) (fun _ _ _ h => h) (by rfl) hHeld ?_)
                  try simp only [Act.put, List.setIfInBounds_toArray, List.set_cons_zero, List.set_cons_succ]
                  first
                    | (refine wpAnyH_takeB (i := 34) (v := ?v36) rfl (by kernel_rfl) (by kernel_rfl) (by kernel_rfl) (fun _ _ _ h => h) (by rfl) ?hy36 hHeld ?_
                       case hy36 =>
                         intro W hW
                         try dsimp only at hW
                         go_simp
                         try with_reducible rfl)
                    | (refine wpAnyH_takeN (i := 34) rfl (by kernel_rfl) (by kernel_rfl) (by kernel_rfl) (fun _ _ _ h => h) (by rfl) hHeld ?_)
                  try simp only [Act.put, List.setIfInBounds_toArray, List.set_cons_zero, List.set_cons_succ]
                  first
                    | (refine wpAnyH_takeB (i := 35) (v := ?v37) rfl (by kernel_rfl) (by kernel_rfl) (by kernel_rfl) (fun _ _ _ h => h) (by rfl) ?hy37 hHeld ?_
                       case hy37 =>
                         intro W hW
                         try dsimp only at hW
                         go_simp
                         try with_reducible rfl)
                    | (refine wpAnyH_takeN (i := 35) rfl (by kernel_rfl) (by kernel_rfl) (by kernel_rfl) (fun _ _ _ h => h) (by rfl) hHeld ?_)
                  try simp only [Act.put, List.setIfInBounds_toArray, List.set_cons_zero, List.set_cons_succ]
                  first
                    | (refine wpAnyH_takeB (i := 36) (v := ?v38) rfl (by kernel_rfl) (by kernel_rfl) (by kernel_rfl) (fun _ _ _ h => h) (by rfl) ?hy38 hHeld ?_
                       case hy38 =>
                         intro W hW
                         try dsimp only at hW
                         go_simp
                         try with_reducible rfl)
                    | (refine wpAnyH_takeN (i := 36) rfl (by kernel_rfl) (by kernel_rfl) (by kernel_rfl) (fun _ _ _ h => h) (by rfl) hHeld ?_)
                  try simp only [Act.put, List.setIfInBounds_toArray, List.set_cons_zero, List.set_cons_succ]
                  first
                    | (refine wpAnyH_takeB (i := 37) (v := ?v39) rfl (by kernel_rfl) (by kernel_rfl) (by kernel_rfl) (fun _ _ _ h => h) (by rfl) ?hy39 hHeld ?_
                       case hy39 =>
                         intro W hW
                         try dsimp only at hW
                         go_simp
                         try with_reducible rfl)
                    | (refine wpAnyH_takeN (i := 37) rfl (by kernel_rfl) (by kernel_rfl) (by kernel_rfl) (fun _ _ _ h => h) (by rfl) hHeld ?_)
                  try simp only [Act.put, List.setIfInBounds_toArray, List.set_cons_zero, List.set_cons_succ]
                  first
                    | (refine wpAnyH_takeB (i := 38) (v := ?v40) rfl (by kernel_rfl) (by kernel_rfl) (by kernel_rfl) (fun _ _ _ h => h) (by rfl) ?hy40 hHeld ?_
                       case hy40 =>
                         intro W hW
                         try dsimp only at hW
                         go_simp
                         try with_reducible rfl)
                    | (refine wpAnyH_takeN (i := 38) rfl (by kernel_rfl) (by kernel_rfl) (by kernel_rfl) (fun _ _ _ h => h) (by rfl) hHeld ?_)
                  try simp only [Act.put, List.setIfInBounds_toArray, List.set_cons_zero, List.set_cons_succ]
                  first
                    | (refine wpAnyH_takeB (i := 39) (v := ?v41) rfl (by kernel_rfl) (by kernel_rfl) (by kernel_rfl) (fun _ _ _ h => h) (by rfl) ?hy41 hHeld ?_
                       case hy41 =>
                         intro W hW
                         try dsimp only at hW
                         go_simp
                         try with_reducible rfl)
                    | (refine wpAnyH_takeN (i := 39) rfl (by kernel_rfl) (by kernel_rfl) (by kernel_rfl) (fun _ _ _ h => h) (by rfl) hHeld ?_)
                  try simp only [Act.put, List.setIfInBounds_toArray, List.set_cons_zero, List.set_cons_succ]
                  first
                    | (refine wpAnyH_takeB (i := 40) (v := ?v42) rfl (by kernel_rfl) (by kernel_rfl) (by kernel_rfl) (fun _ _ _ h => h) (by rfl) ?hy42 hHeld ?_
                       case hy42 =>
                         intro W hW
                         try dsimp only at hW
                         go_simp
                         try with_reducible rfl)
                    | (refine wpAnyH_takeN (i := 40) rfl (by kernel_rfl) (by kernel_rfl) (by kernel_rfl) (fun _ _ _ h => h) (by rfl) hHeld ?_)
                  try simp only [Act.put, List.setIfInBounds_toArray, List.set_cons_zero, List.set_cons_succ]
                  first
                    | (refine wpAnyH_takeB (i := 41) (v := ?v43) rfl (by kernel_rfl) (by kernel_rfl) (by kernel_rfl) (fun _ _ _ h => h) (by rfl) ?hy43 hHeld ?_
                       case hy43 =>
                         intro W hW
                         try dsimp only at hW
                         go_simp
                         try with_reducible rfl)
                    | (refine wpAnyH_takeN (i := 41) rfl (by kernel_rfl) (by kernel_rfl) (by kernel_rfl) (fun _ _ _ h => h) (by rfl) hHeld ?_)
                  try simp only [Act.put, List.setIfInBounds_toArray, List.set_cons_zero, List.set_cons_succ]
                  first
                    | (refine wpAnyH_takeB (i := 42) (v := ?v44) rfl (by kernel_rfl) (by kernel_rfl) (by kernel_rfl) (fun _ _ _ h => h) (by rfl) ?hy44 hHeld ?_
                       case hy44 =>
                         intro W hW
                         try dsimp only at hW
                         go_simp
                         try with_reducible rfl)
                    | (refine wpAnyH_takeN (i := 42) rfl (by kernel_rfl) (by kernel_rfl) (by kernel_rfl) (fun _ _ _ h => h) (by rfl) hHeld ?_)
                  try simp only [Act.put, List.setIfInBounds_toArray, List.set_cons_zero, List.set_cons_succ]
                  first
                    | (refine wpAnyH_takeB (i := 43) (v := ?v45) rfl (by kernel_rfl) (by kernel_rfl) (by kernel_rfl) (fun _ _ _ h => h) (by rfl) ?hy45 hHeld ?_
                       case hy45 =>
                         intro W hW
                         try dsimp only at hW
                         go_simp
                         try with_reducible rfl)
                    | (refine wpAnyH_takeN (i := 43) rfl (by kernel_rfl) (by kernel_rfl) (by kernel_rfl) (fun _ _ _ h => h) (by rfl) hHeld ?_)
                  try simp only [Act.put, List.setIfInBounds_toArray, List.set_cons_zero, List.set_cons_succ]
                  first
                    | (refine wpAnyH_takeB (i := 44) (v := ?v46) rfl (by kernel_rfl) (by kernel_rfl) (by kernel_rfl) (fun _ _ _ h => h) (by rfl) ?hy46 hHeld ?_
                       case hy46 =>
                         intro W hW
                         try dsimp only at hW
                         go_simp
                         try with_reducible rfl)
                    | (refine wpAnyH_takeN (i := 44) rfl (by kernel_rfl) (by kernel_rfl) (by kernel_rfl) (fun _ _ _ h => h) (by rfl) hHeld ?_)
                  try simp only [Act.put, List.setIfInBounds_toArray, List.set_cons_zero, List.set_cons_succ]
                  first
                    | (refine wpAnyH_takeB (i := 45) (v := ?v47) rfl (by kernel_rfl) (by kernel_rfl) (by kernel_rfl) (fun _ _ _ h => h) (by rfl) ?hy47 hHeld ?_
                       case hy47 =>
                         intro W hW
                         try dsimp only at hW
                         go_simp
                         try with_reducible rfl)
                    | (refine wpAnyH_takeN (i := 45) rfl (by kernel_rfl) (by kernel_rfl) (by kernel_rfl) (fun _ _ _ h => h) (by rfl) hHeld ?_)
                  try simp only [Act.put, List.setIfInBounds_toArray, List.set_cons_zero, List.set_cons_succ]
                  first
                    | (refine wpAnyH_takeB (i := 46) (v := ?v48) rfl (by kernel_rfl) (by kernel_rfl) (by kernel_rfl) (fun _ _ _ h => h) (by rfl) ?hy48 hHeld ?_
                       case hy48 =>
                         intro W hW
                         try dsimp only at hW
                         go_simp
                         try with_reducible rfl)
                    | (refine wpAnyH_takeN (i := 46) rfl (by kernel_rfl) (by kernel_rfl) (by kernel_rfl) (fun _ _ _ h => h) (by rfl) hHeld ?_)
                  try simp only [Act.put, List.setIfInBounds_toArray, List.set_cons_zero, List.set_cons_succ]
                  first
                    | (refine wpAnyH_takeB (i := 47) (v := ?v49) rfl (by kernel_rfl) (by kernel_rfl) (by kernel_rfl) (fun _ _ _ h => h) (by rfl) ?hy49 hHeld ?_
                       case hy49 =>
                         intro W hW
                         try dsimp only at hW
                         go_simp
                         try with_reducible rfl)
                    | (refine wpAnyH_takeN (i := 47) rfl (by kernel_rfl) (by kernel_rfl) (by kernel_rfl) (fun _ _ _ h => h) (by rfl) hHeld ?_)
                  try simp only [Act.put, List.setIfInBounds_toArray, List.set_cons_zero, List.set_cons_succ]
                  first
                    | (refine wpAnyH_takeB (i := 48) (v := ?v50) rfl (by kernel_rfl) (by kernel_rfl) (by kernel_rfl) (fun _ _ _ h => h) (by rfl) ?hy50 hHeld ?_
                       case hy50 =>
                         intro W hW
                         try dsimp only at hW
                         go_simp
                         try with_reducible rfl)
                    | (refine wpAnyH_takeN (i := 48) rfl (by kernel_rfl) (by kernel_rfl) (by kernel_rfl) (fun _ _ _ h => h) (by rfl) hHeld ?_)
                  try simp only [Act.put, List.setIfInBounds_toArray, List.set_cons_zero, List.set_cons_succ]
                  first
                    | (refine wpAnyH_takeB (i := 49) (v := ?v51) rfl (by kernel_rfl) (by kernel_rfl) (by kernel_rfl) (fun _ _ _ h => h) (by rfl) ?hy51 hHeld ?_
                       case hy51 =>
                         intro W hW
                         try dsimp only at hW
                         go_simp
                         try with_reducible rfl)
                    | (refine wpAnyH_takeN (i := 49) rfl (by kernel_rfl) (by kernel_rfl) (by kernel_rfl) (fun _ _ _ h => h) (by rfl) hHeld ?_)
                  try simp only [Act.put, List.setIfInBounds_toArray, List.set_cons_zero, List.set_cons_succ]
                  first
                    | (refine wpAnyH_takeB (i := 50) (v := ?v52) rfl (by kernel_rfl) (by kernel_rfl) (by kernel_rfl) (fun _ _ _ h => h) (by rfl) ?hy52 hHeld ?_
                       case hy52 =>
                         intro W hW
                         try dsimp only at hW
                         go_simp
                         try with_reducible rfl)
                    | (refine wpAnyH_takeN (i := 50) rfl (by kernel_rfl) (by kernel_rfl) (by kernel_rfl) (fun _ _ _ h => h) (by rfl) hHeld ?_)
                  try simp only [Act.put, List.setIfInBounds_toArray, List.set_cons_zero, List.set_cons_succ]
                  first
                    | (refine wpAnyH_takeB (i := 51) (v := ?v53) rfl (by kernel_rfl) (by kernel_rfl) (by kernel_rfl) (fun _ _ _ h => h) (by rfl) ?hy53 hHeld ?_
                       case hy53 =>
                         intro W hW
                         try dsimp only at hW
                         go_simp
                         try with_reducible rfl)
                    | (refine wpAnyH_takeN (i := 51) rfl (by kernel_rfl) (by kernel_rfl) (by kernel_rfl) (fun _ _ _ h => h) (by rfl) hHeld ?_)
                  try simp only [Act.put, List.setIfInBounds_toArray, List.set_cons_zero, List.set_cons_succ]
                  first
                    | (refine wpAnyH_takeB (i := 52) (v := ?v54) rfl (by kernel_rfl) (by kernel_rfl) (by kernel_rfl) (fun _ _ _ h => h) (by rfl) ?hy54 hHeld ?_
                       case hy54 =>
                         intro W hW
                         try dsimp only at hW
                         go_simp
                         try with_reducible rfl)
                    | (refine wpAnyH_takeN (i := 52) rfl (by kernel_rfl) (by kernel_rfl) (by kernel_rfl) (fun _ _ _ h => h) (by rfl) hHeld ?_)
                  try simp only [Act.put, List.setIfInBounds_toArray, List.set_cons_zero, List.set_cons_succ]
                  first
                    | (refine wpAnyH_takeB (i := 53) (v := ?v55) rfl (by kernel_rfl) (by kernel_rfl) (by kernel_rfl) (fun _ _ _ h => h) (by rfl) ?hy55 hHeld ?_
                       case hy55 =>
                         intro W hW
                         try dsimp only at hW
                         go_simp
                         try with_reducible rfl)
                    | (refine wpAnyH_takeN (i := 53) rfl (by kernel_rfl) (by kernel_rfl) (by kernel_rfl) (fun _ _ _ h => h) (by rfl) hHeld ?_)
                  try simp only [Act.put, List.setIfInBounds_toArray, List.set_cons_zero, List.set_cons_succ]
                  first
                    | (refine wpAnyH_takeB (i := 54) (v := ?v56) rfl (by kernel_rfl) (by kernel_rfl) (by kernel_rfl) (fun _ _ _ h => h) (by rfl) ?hy56 hHeld ?_
                       case hy56 =>
                         intro W hW
                         try dsimp only at hW
                         go_simp
                         try with_reducible rfl)
                    | (refine wpAnyH_takeN (i := 54) rfl (by kernel_rfl) (by kernel_rfl) (by kernel_rfl) (fun _ _ _ h => h) (by rfl) hHeld ?_)
                  try simp only [Act.put, List.setIfInBounds_toArray, List.set_cons_zero, List.set_cons_succ]
                  first
                    | (refine wpAnyH_takeB (i := 55) (v := ?v57) rfl (by kernel_rfl) (by kernel_rfl) (by kernel_rfl) (fun _ _ _ h => h) (by rfl) ?hy57 hHeld ?_
                       case hy57 =>
                         intro W hW
                         try dsimp only at hW
                         go_simp
                         try with_reducible rfl)
                    | (refine wpAnyH_takeN (i := 55) rfl (by kernel_rfl) (by kernel_rfl) (by kernel_rfl) (fun _ _ _ h => h) (by rfl) hHeld ?_)
                  try simp only [Act.put, List.setIfInBounds_toArray, List.set_cons_zero, List.set_cons_succ]
                  first
                    | (refine wpAnyH_takeB (i := 56) (v := ?v58) rfl (by kernel_rfl) (by kernel_rfl) (by kernel_rfl) (fun _ _ _ h => h) (by rfl) ?hy58 hHeld ?_
                       case hy58 =>
                         intro W hW
                         try dsimp only at hW
                         go_simp
                         try with_reducible rfl)
                    | (refine wpAnyH_takeN (i := 56) rfl (by kernel_rfl) (by kernel_rfl) (by kernel_rfl) (fun _ _ _ h => h) (by rfl) hHeld ?_)
                  try simp only [Act.put, List.setIfInBounds_toArray, List.set_cons_zero, List.set_cons_succ]
                  first
                    | (refine wpAnyH_takeB (i := 57) (v := ?v59) rfl (by kernel_rfl) (by kernel_rfl) (by kernel_rfl) (fun _ _ _ h => h) (by rfl) ?hy59 hHeld ?_
                       case hy59 =>
                         intro W hW
                         try dsimp only at hW
                         go_simp
                         try with_reducible rfl)
                    | (refine wpAnyH_takeN (i := 57) rfl (by kernel_rfl) (by kernel_rfl) (by kernel_rfl) (fun _ _ _ h => h) (by rfl) hHeld ?_)
                  try simp only [Act.put, List.setIfInBounds_toArray, List.set_cons_zero, List.set_cons_succ]
                  first
                    | (refine wpAnyH_takeB (i := 58) (v := ?v60) rfl (by kernel_rfl) (by kernel_rfl) (by kernel_rfl) (fun _ _ _ h => h) (by rfl) ?hy60 hHeld ?_
                       case hy60 =>
                         intro W hW
                         try dsimp only at hW
                         go_simp
                         try with_reducible rfl)
                    | (refine wpAnyH_takeN (i := 58) rfl (by kernel_rfl) (by kernel_rfl) (by kernel_rfl) (fun _ _ _ h => h) (by rfl) hHeld ?_)
                  try simp only [Act.put, List.setIfInBounds_toArray, List.set_cons_zero, List.set_cons_succ]
                  first
                    | (refine wpAnyH_takeB (i := 59) (v := ?v61) rfl (by kernel_rfl) (by kernel_rfl) (by kernel_rfl) (fun _ _ _ h => h) (by rfl) ?hy61 hHeld ?_
                       case hy61 =>
                         intro W hW
                         try dsimp only at hW
                         go_simp
                         try with_reducible rfl)
                    | (refine wpAnyH_takeN (i := 59) rfl (by kernel_rfl) (by kernel_rfl) (by kernel_rfl) (fun _ _ _ h => h) (by rfl) hHeld ?_)
                  try simp only [Act.put, List.setIfInBounds_toArray, List.set_cons_zero, List.set_cons_succ]
                  first
                    | (refine wpAnyH_takeB (i := 60) (v := ?v62) rfl (by kernel_rfl) (by kernel_rfl) (by kernel_rfl) (fun _ _ _ h => h) (by rfl) ?hy62 hHeld ?_
                       case hy62 =>
                         intro W hW
                         try dsimp only at hW
                         go_simp
                         try with_reducible rfl)
                    | (refine wpAnyH_takeN (i := 60) rfl (by kernel_rfl) (by kernel_rfl) (by kernel_rfl) (fun _ _ _ h => h) (by rfl) hHeld ?_)
                  try simp only [Act.put, List.setIfInBounds_toArray, List.set_cons_zero, List.set_cons_succ]
                  first
                    | (refine wpAnyH_takeB (i := 61) (v := ?v63) rfl (by kernel_rfl) (by kernel_rfl) (by kernel_rfl) (fun _ _ _ h => h) (by rfl) ?hy63 hHeld ?_
                       case hy63 =>
                         intro W hW
                         try dsimp only at hW
                         go_simp
                         try with_reducible rfl)
                    | (refine wpAnyH_takeN (i := 61) rfl (by kernel_rfl) (by kernel_rfl) (by kernel_rfl) (fun _ _ _ h => h) (by rfl) hHeld ?_)
                  try simp only [Act.put, List.setIfInBounds_toArray, List.set_cons_zero, List.set_cons_succ]
                  refine wpAnyH_done (by kernel_rfl) ?_ _
                  have HR4 : Hid (RQ (w4.drewN nn) p ([]) F) := (HR2.out.drew.later HB3.out).later ⟨rfl, rfl, rfl, Nat.le_refl _, fun _ _ => rfl⟩
                  have HQ4 : Hid (QB w (w4.drewN nn) q F ([])) := HQ3.out.later ⟨rfl, rfl, rfl, Nat.le_refl _, fun _ _ => rfl⟩
                  clear hHeld
                  generalize w4.drewN nn = w5 at *
                  go_wp2_with fail
                  exact ⟨⟨k + 1, by omega, by go_num, ⟨F, _, HLk.out, HQ4.out, HR4.out⟩⟩, by simp [intOf]; omega⟩
              | cons d l =>
                rcases findV_split (s := nm) HQ.out.que.names with ⟨h1, h2, _, _⟩ | ⟨i, x, hi, hx, hxs, hf, _, _⟩
                · as_aux_lemma =>
                    go_wp2_with fail
                    refine (que_next HQ.out.que (by have := HLe.out; simp only [List.length_cons] at this; omega)).mono ?_
                    rintro e w2 ⟨rfl, hb2⟩
                    obtain ⟨ds, dt⟩ := d
                    unfold dueV
                    have hq2 := HQ.out.later hb2
                    have HQ2 := Lib.hid (hq2.alloc (.cells #[.string ds, .int .i64 dt] 40))
                    have HR2 := Lib.hid ((HR.out.later hb2).alloc (.cells #[.string ds, .int .i64 dt] 40))
                    have kb := Blk.new w2 40 #[.string ds, .int .i64 dt]
                    have a0 := kb.cell 0
                    have a1 := kb.cell 1
                    have al := kb.lt
                    simp only [List.getElem?_toArray, List.getElem?_cons_succ, List.getElem?_cons_zero] at a0 a1
                    have d1 := (HQ2.out.below.cell (p := ⟨b, off + k * 3 + 1, none⟩) hbl).trans HC.out.2.1
                    clear hb2 hq2 kb
                    try dsimp only
                    go_wp2_with fail
                    refine (que_at_none HQ2.out.que nm h2).mono ?_
                    rintro e w' ⟨rfl, rfl⟩
                    go_wp2_with fail
                    refine (rq_find HR2.out nm (by have := HLe.out; omega)).mono ?_
                    rintro e w' ⟨rfl, rfl⟩
                    rw [h1]
                    obtain ⟨Ar, cr, hrr, hrF⟩ := HR2.out.ex
                    have HRr := Lib.hid hrr
                    have p0 := hrr.blk.cell 0
                    have pl := hrr.blk.lt
                    simp only [List.getElem?_toArray, List.getElem?_cons_zero] at p0
                    obtain ⟨rb, ro, rfl, rl, _, rc⟩ := hrr.row (by simp)
                    obtain ⟨r0, r1⟩ := rc 0 (ds, dt) rfl
                    simp only [Nat.zero_mul, Nat.add_zero] at r0 r1
                    try dsimp only at r0 r1
                    clear hrr hrF d1 rc
                    have hl0 : (0 : Int) < (l.length : Int) + 1 := by omega
                    simp only [List.length_cons] at p0
                    generalize w2.alloc (.cells #[.string ds, .int .i64 dt] 40) = w3 at *
                    generalize w2.heap.size = ga at *
                    go_wp2_with fail
                    have p0d : w3.drew.cell? ⟨p, 0, none⟩ = some (.slice (some ⟨rb, ro, none⟩) (l.length + 1) cr) := by simpa using p0
                    have a0d : w3.drew.cell? ⟨ga, 0, none⟩ = some (.string ds) := by simpa using a0
                    have a1d : w3.drew.cell? ⟨ga, 1, none⟩ = some (.int .i64 dt) := by simpa using a1
                    have r0d : w3.drew.cell? ⟨rb, ro, none⟩ = some (.string ds) := by simpa using r0
                    have r1d : w3.drew.cell? ⟨rb, ro + 1, none⟩ = some (.int .i64 dt) := by simpa using r1
                    refine wp_region_held_drew (S := (fun W => W.cell? ⟨p, 0, none⟩ = some (.slice (some ⟨rb, ro, none⟩) (l.length + 1) cr) ∧ W.cell? ⟨ga, 0, none⟩ = some (.string ds) ∧ W.cell? ⟨ga, 1, none⟩ = some (.int .i64 dt) ∧ W.cell? ⟨rb, ro, none⟩ = some (.string ds) ∧ W.cell? ⟨rb, ro + 1, none⟩ = some (.int .i64 dt))) (by kernel_rfl) ?hS64 (fun hHeld => ?_)
                    case hS64 =>
                      try dsimp only
                      exact ⟨p0d, a0d, a1d, r0d, r1d⟩
                    first
                      | (refine wpAnyH_takeB (i := 0) (v := ?v65) rfl (by kernel_rfl) (by kernel_rfl) (by kernel_rfl) (fun _ _ _ h => h) (by rfl) ?hy65 hHeld ?_
                         case hy65 =>
                           intro W hW
                           try dsimp only at hW
                           go_simp
                           try with_reducible rfl)
                      | (refine wpAnyH_takeN (i := 0) rfl (by kernel_rfl) (by kernel_rfl) (by kernel_rfl) (fun _ _ _ h => h) (by rfl) hHeld ?_)
                    try simp only [Act.put, List.setIfInBounds_toArray, List.set_cons_zero, List.set_cons_succ]
                    first
                      | (refine wpAnyH_takeB (i := 2) (v := ?v66) rfl (by kernel_rfl) (by kernel_rfl) (by kernel_rfl) (fun _ _ _ h => h) (by rfl) ?hy66 hHeld ?_
                         case hy66 =>
                           intro W hW
                           try dsimp only at hW
                           go_simp
                           try with_reducible rfl)
                      | (refine wpAnyH_takeN (i := 2) rfl (by kernel_rfl) (by kernel_rfl) (by kernel_rfl) (fun _ _ _ h => h) (by rfl) hHeld ?_)
                    try simp only [Act.put, List.setIfInBounds_toArray, List.set_cons_zero, List.set_cons_succ]
                    first
                      | (refine wpAnyH_takeB (i := 3) (v := ?v67) rfl (by kernel_rfl) (by kernel_rfl) (by kernel_rfl) (fun _ _ _ h => h) (by rfl) ?hy67 hHeld ?_
                         case hy67 =>
                           intro W hW
                           try dsimp only at hW
                           go_simp
                           try with_reducible rfl)
                      | (refine wpAnyH_takeN (i := 3) rfl (by kernel_rfl) (by kernel_rfl) (by kernel_rfl) (fun _ _ _ h => h) (by rfl) hHeld ?_)
                    try simp only [Act.put, List.setIfInBounds_toArray, List.set_cons_zero, List.set_cons_succ]
                    first
                      | (refine wpAnyH_takeB (i := 4) (v := ?v68) rfl (by kernel_rfl) (by kernel_rfl) (by kernel_rfl) (fun _ _ _ h => h) (by rfl) ?hy68 hHeld ?_
                         case hy68 =>
                           intro W hW
                           try dsimp only at hW
                           go_simp
                           try with_reducible rfl)
                      | (refine wpAnyH_takeN (i := 4) rfl (by kernel_rfl) (by kernel_rfl) (by kernel_rfl) (fun _ _ _ h => h) (by rfl) hHeld ?_)
                    try simp only [Act.put, List.setIfInBounds_toArray, List.set_cons_zero, List.set_cons_succ]
                    first
                      | (refine wpAnyH_takeB (i := 5) (v := ?v69) rfl (by kernel_rfl) (by kernel_rfl) (by kernel_rfl) (fun _ _ _ h => h) (by rfl) ?hy69 hHeld ?_
                         case hy69 =>
                           intro W hW
                           try dsimp only at hW
                           go_simp
                           try with_reducible rfl)
                      | (refine wpAnyH_takeN (i := 5) rfl (by kernel_rfl) (by kernel_rfl) (by kernel_rfl) (fun _ _ _ h => h) (by rfl) hHeld ?_)
                    try simp only [Act.put, List.setIfInBounds_toArray, List.set_cons_zero, List.set_cons_succ]
                    refine AllReadyH.one (i := 1) (by kernel_rfl) rfl (fun K hK => ?_)
                    go_simp
                    refine (qb_list HQ2.out.drew (by have := HLe.out; omega)).mono ?_
                    rintro e w4 ⟨A3, c3, rfl, hd3, hq3, hb3⟩
                    have HQ3 := Lib.hid hq3
                    have HD3 := Lib.hid hd3
                    have HB3 := Lib.hid hb3
                    have p0b := (hb3.cell (p := ⟨p, 0, none⟩) (pl)).trans p0d
                    have a0b := (hb3.cell (p := ⟨ga, 0, none⟩) (al)).trans a0d
                    have a1b := (hb3.cell (p := ⟨ga, 1, none⟩) (al)).trans a1d
                    have r0b := (hb3.cell (p := ⟨rb, ro, none⟩) (rl)).trans r0d
                    have r1b := (hb3.cell (p := ⟨rb, ro + 1, none⟩) (rl)).trans r1d
                    clear hd3 hq3 hb3
                    refine hK.out _ _ ?hS70 (fun hHeld => ?_)
                    case hS70 =>
                      try dsimp only
                      exact ⟨p0b, a0b, a1b, r0b, r1b⟩
                    clear hK K
                    try simp only [Act.put, List.setIfInBounds_toArray, List.set_cons_zero, List.set_cons_succ]
                    refine AllReadyH.one (i := 6) (by kernel_rfl) rfl (fun K hK => ?_)
                    go_simp
                    refine (same_any A3 (some ⟨rb, ro, none⟩) c3 cr ((ds, dt) :: l) ((ds, dt) :: l) w4 HD3.out.same (HRr.out.drew.below HB3.out).dueS (by have := HLe.out; omega) (by have := HLe.out; omega)).mono ?_
                    rintro e w' ⟨rfl, nn, rfl⟩
                    rw [show decide (((ds, dt) :: l : List KV) = (ds, dt) :: l) = true from decide_eq_true rfl]
                    refine hK.out _ _ ?hS71 (fun hHeld => ?_)
                    case hS71 =>
                      try dsimp only
                      exact ⟨p0b, a0b, a1b, r0b, r1b⟩
                    clear hK K
                    try simp only [Act.put, List.setIfInBounds_toArray, List.set_cons_zero, List.set_cons_succ]
                    first
                      | (refine wpAnyH_takeB (i := 7) (v := ?v72) rfl (by kernel_rfl) (by kernel_rfl) (by kernel_rfl) (fun _ _ _ h => h) (by rfl) ?hy72 hHeld ?_
                         case hy72 =>
                           intro W hW
                           try dsimp only at hW
                           go_simp
                           try with_reducible rfl)
                      | (refine wpAnyH_takeN (i := 7) rfl (by kernel_rfl) (by kernel_rfl) (by kernel_rfl) (fun _ _ _ h => h) (by rfl) hHeld ?_)
                    try simp only [Act.put, List.setIfInBounds_toArray, List.set_cons_zero, List.set_cons_succ]
                    first
                      | (refine wpAnyH_takeB (i := 8) (v := ?v73) rfl (by kernel_rfl) (by kernel_rfl) (by kernel_rfl) (fun _ _ _ h => h) (by rfl) ?hy73 hHeld ?_
                         case hy73 =>
                           intro W hW
                           try dsimp only at hW
                           go_simp
                           try with_reducible rfl)
                      | (refine wpAnyH_takeN (i := 8) rfl (by kernel_rfl) (by kernel_rfl) (by kernel_rfl) (fun _ _ _ h => h) (by rfl) hHeld ?_)
                    try simp only [Act.put, List.setIfInBounds_toArray, List.set_cons_zero, List.set_cons_succ]
                    first
                      | (refine wpAnyH_takeB (i := 9) (v := ?v74) rfl (by kernel_rfl) (by kernel_rfl) (by kernel_rfl) (fun _ _ _ h => h) (by rfl) ?hy74 hHeld ?_
                         case hy74 =>
                           intro W hW
                           try dsimp only at hW
                           go_simp
                           try with_reducible rfl)
                      | (refine wpAnyH_takeN (i := 9) rfl (by kernel_rfl) (by kernel_rfl) (by kernel_rfl) (fun _ _ _ h => h) (by rfl) hHeld ?_)
                    try simp only [Act.put, List.setIfInBounds_toArray, List.set_cons_zero, List.set_cons_succ]
                    first
                      | (refine wpAnyH_takeB (i := 11) (v := ?v75) rfl (by kernel_rfl) (by kernel_rfl) (by kernel_rfl) (fun _ _ _ h => h) (by rfl) ?hy75 hHeld ?_
                         case hy75 =>
                           intro W hW
                           try dsimp only at hW
                           go_simp
                           try with_reducible rfl)
                      | (refine wpAnyH_takeN (i := 11) rfl (by kernel_rfl) (by kernel_rfl) (by kernel_rfl) (fun _ _ _ h => h) (by rfl) hHeld ?_)
                    try simp only [Act.put, List.setIfInBounds_toArray, List.set_cons_zero, List.set_cons_succ]
                    first
                      | (refine wpAnyH_takeB (i := 12) (v := ?v76) rfl (by kernel_rfl) (by kernel_rfl) (by kernel_rfl) (fun _ _ _ h => h) (by rfl) ?hy76 hHeld ?_
                         case hy76 =>
                           intro W hW
                           try dsimp only at hW
                           go_simp
                           try with_reducible rfl)
                      | (refine wpAnyH_takeN (i := 12) rfl (by kernel_rfl) (by kernel_rfl) (by kernel_rfl) (fun _ _ _ h => h) (by rfl) hHeld ?_)
                    try simp only [Act.put, List.setIfInBounds_toArray, List.set_cons_zero, List.set_cons_succ]
                    first
                      | (refine wpAnyH_takeB (i := 13) (v := ?v77) rfl (by kernel_rfl) (by kernel_rfl) (by kernel_rfl) (fun _ _ _ h => h) (by rfl) ?hy77 hHeld ?_
                         case hy77 =>
                           intro W hW
                           try dsimp only at hW
                           go_simp
                           try with_reducible rfl)
                      | (refine wpAnyH_takeN (i := 13) rfl (by kernel_rfl) (by kernel_rfl) (by kernel_rfl) (fun _ _ _ h => h) (by rfl) hHeld ?_)
                    try simp only [Act.put, List.setIfInBounds_toArray, List.set_cons_zero, List.set_cons_succ]
                    first
                      | (refine wpAnyH_takeB (i := 14) (v := ?v78) rfl (by kernel_rfl) (by kernel_rfl) (by kernel_rfl) (fun _ _ _ h => h) (by rfl) ?hy78 hHeld ?_
                         case hy78 =>
                           intro W hW
                           try dsimp only at hW
                           go_simp
                           try with_reducible rfl)
                      | (refine wpAnyH_takeN (i := 14) rfl (by kernel_rfl) (by kernel_rfl) (by kernel_rfl) (fun _ _ _ h => h) (by rfl) hHeld ?_)
                    try simp only [Act.put, List.setIfInBounds_toArray, List.set_cons_zero, List.set_cons_succ]
                    first
                      | (refine wpAnyH_takeB (i := 15) (v := ?v79) rfl (by kernel_rfl) (by kernel_rfl) (by kernel_rfl) (fun _ _ _ h => h) (by rfl) ?hy79 hHeld ?_
                         case hy79 =>
                           intro W hW
                           try dsimp only at hW
                           go_simp
                           try with_reducible rfl)
                      | (refine wpAnyH_takeN (i := 15) rfl (by kernel_rfl) (by kernel_rfl) (by kernel_rfl) (fun _ _ _ h => h) (by rfl) hHeld ?_)
                    try simp only [Act.put, List.setIfInBounds_toArray, List.set_cons_zero, List.set_cons_succ]
                    refine AllReadyH.one (i := 10) (by kernel_rfl) rfl (fun K hK => ?_)
                    go_simp
                    refine ((HQ3.out.later (w' := w4.drewN nn) ⟨rfl, rfl, rfl, Nat.le_refl _, fun _ _ => rfl⟩).que.len).mono ?_
                    rintro e w' ⟨rfl, rfl⟩
                    refine hK.out _ _ ?hS80 (fun hHeld => ?_)
                    case hS80 =>
                      try dsimp only
                      exact ⟨p0b, a0b, a1b, r0b, r1b⟩
                    clear hK K
                    try simp only [Act.put, List.setIfInBounds_toArray, List.set_cons_zero, List.set_cons_succ]
                    first
                      | (refine wpAnyH_takeB (i := 16) (v := ?v81) rfl (by kernel_rfl) (by kernel_rfl) (by kernel_rfl) (fun _ _ _ h => h) (by rfl) ?hy81 hHeld ?_
                         case hy81 =>
                           intro W hW
                           try dsimp only at hW
                           go_simp
                           try with_reducible rfl)
                      | (refine wpAnyH_takeN (i := 16) rfl (by kernel_rfl) (by kernel_rfl) (by kernel_rfl) (fun _ _ _ h => h) (by rfl) hHeld ?_)
                    try simp only [Act.put, List.setIfInBounds_toArray, List.set_cons_zero, List.set_cons_succ]
                    first
                      | (refine wpAnyH_takeB (i := 17) (v := ?v82) rfl (by kernel_rfl) (by kernel_rfl) (by kernel_rfl) (fun _ _ _ h => h) (by rfl) ?hy82 hHeld ?_
                         case hy82 =>
                           intro W hW
                           try dsimp only at hW
                           go_simp
                           try with_reducible rfl)
                      | (refine wpAnyH_takeN (i := 17) rfl (by kernel_rfl) (by kernel_rfl) (by kernel_rfl) (fun _ _ _ h => h) (by rfl) hHeld ?_)
                    try simp only [Act.put, List.setIfInBounds_toArray, List.set_cons_zero, List.set_cons_succ]
                    first
                      | (refine wpAnyH_takeB (i := 18) (v := ?v83) rfl (by kernel_rfl) (by kernel_rfl) (by kernel_rfl) (fun _ _ _ h => h) (by rfl) ?hy83 hHeld ?_
                         case hy83 =>
                           intro W hW
                           try dsimp only at hW
                           go_simp
                           try with_reducible rfl)
                      | (refine wpAnyH_takeN (i := 18) rfl (by kernel_rfl) (by kernel_rfl) (by kernel_rfl) (fun _ _ _ h => h) (by rfl) hHeld ?_)
                    try simp only [Act.put, List.setIfInBounds_toArray, List.set_cons_zero, List.set_cons_succ]
                    first
                      | (refine wpAnyH_takeB (i := 19) (v := ?v84) rfl (by kernel_rfl) (by kernel_rfl) (by kernel_rfl) (fun _ _ _ h => h) (by rfl) ?hy84 hHeld ?_
                         case hy84 =>
                           intro W hW
                           try dsimp only at hW
                           go_simp
                           try with_reducible rfl)
                      | (refine wpAnyH_takeN (i := 19) rfl (by kernel_rfl) (by kernel_rfl) (by kernel_rfl) (fun _ _ _ h => h) (by rfl) hHeld ?_)
                    try simp only [Act.put, List.setIfInBounds_toArray, List.set_cons_zero, List.set_cons_succ]
                    first
                      | (refine wpAnyH_takeB (i := 20) (v := ?v85) rfl (by kernel_rfl) (by kernel_rfl) (by kernel_rfl) (fun _ _ _ h => h) (by rfl) ?hy85 hHeld ?_
                         case hy85 =>
                           intro W hW
                           try dsimp only at hW
                           go_simp
                           try with_reducible rfl)
                      | (refine wpAnyH_takeN (i := 20) rfl (by kernel_rfl) (by kernel_rfl) (by kernel_rfl) (fun _ _ _ h => h) (by rfl) hHeld ?_)
                    try simp only [Act.put, List.setIfInBounds_toArray, List.set_cons_zero, List.set_cons_succ]
                    first
                      | (refine wpAnyH_takeB (i := 21) (v := ?v86) rfl (by kernel_rfl) (by kernel_rfl) (by kernel_rfl) (fun _ _ _ h => h) (by rfl) ?hy86 hHeld ?_
                         case hy86 =>
                           intro W hW
                           try dsimp only at hW
                           go_simp
                           try with_reducible rfl)
                      | (refine wpAnyH_takeN (i := 21) rfl (by kernel_rfl) (by kernel_rfl) (by kernel_rfl) (fun _ _ _ h => h) (by rfl) hHeld ?_)
                    try simp only [Act.put, List.setIfInBounds_toArray, List.set_cons_zero, List.set_cons_succ]
                    first
                      | (refine wpAnyH_takeB (i := 22) (v := ?v87) rfl (by kernel_rfl) (by kernel_rfl) (by kernel_rfl) (fun _ _ _ h => h) (by rfl) ?hy87 hHeld ?_
                         case hy87 =>
                           intro W hW
                           try dsimp only at hW
                           go_simp
                           try with_reducible rfl)
                      | (refine wpAnyH_takeN (i := 22) rfl (by kernel_rfl) (by kernel_rfl) (by kernel_rfl) (fun _ _ _ h => h) (by rfl) hHeld ?_)
                    try simp only [Act.put, List.setIfInBounds_toArray, List.set_cons_zero, List.set_cons_succ]
                    first
                      | (refine wpAnyH_takeB (i := 23) (v := ?v88) rfl (by kernel_rfl) (by kernel_rfl) (by kernel_rfl) (fun _ _ _ h => h) (by rfl) ?hy88 hHeld ?_
                         case hy88 =>
                           intro W hW
                           try dsimp only at hW
                           go_simp
                           try with_reducible rfl)
                      | (refine wpAnyH_takeN (i := 23) rfl (by kernel_rfl) (by kernel_rfl) (by kernel_rfl) (fun _ _ _ h => h) (by rfl) hHeld ?_)
                    try simp only [Act.put, List.setIfInBounds_toArray, List.set_cons_zero, List.set_cons_succ]
                    first
                      | (refine wpAnyH_takeB (i := 24) (v := ?v89) rfl (by kernel_rfl) (by kernel_rfl) (by kernel_rfl) (fun _ _ _ h => h) (by rfl) ?hy89 hHeld ?_
                         case hy89 =>
                           intro W hW
                           try dsimp only at hW
                           go_simp
                           try with_reducible rfl)
                      | (refine wpAnyH_takeN (i := 24) rfl (by kernel_rfl) (by kernel_rfl) (by kernel_rfl) (fun _ _ _ h => h) (by rfl) hHeld ?_)
                    try simp only [Act.put, List.setIfInBounds_toArray, List.set_cons_zero, List.set_cons_succ]
                    first
                      | (refine wpAnyH_takeB (i := 25) (v := ?v90) rfl (by kernel_rfl) (by kernel_rfl) (by kernel_rfl) (fun _ _ _ h => h) (by rfl) ?hy90 hHeld ?_
                         case hy90 =>
                           intro W hW
                           try dsimp only at hW
                           go_simp
                           try with_reducible rfl)
                      | (refine wpAnyH_takeN (i := 25) rfl (by kernel_rfl) (by kernel_rfl) (by kernel_rfl) (fun _ _ _ h => h) (by rfl) hHeld ?_)
                    try simp only [Act.put, List.setIfInBounds_toArray, List.set_cons_zero, List.set_cons_succ]
                    first
                      | (refine wpAnyH_takeB (i := 26) (v := ?v91) rfl (by kernel_rfl) (by kernel_rfl) (by kernel_rfl) (fun _ _ _ h => h) (by rfl) ?hy91 hHeld ?_
                         case hy91 =>
                           intro W hW
                           try dsimp only at hW
                           go_simp
                           try with_reducible rfl)
                      | (refine wpAnyH_takeN (i := 26) rfl (by kernel_rfl) (by kernel_rfl) (by kernel_rfl) (fun _ _ _ h => h) (by rfl) hHeld ?_)
                    try simp only [Act.put, List.setIfInBounds_toArray, List.set_cons_zero, List.set_cons_succ]
                    first
                      | (refine wpAnyH_takeB (i := 27) (v := ?v92) rfl (by kernel_rfl) (by kernel_rfl) (by kernel_rfl) (fun _ _ _ h => h) (by rfl) ?hy92 hHeld ?_
                         case hy92 =>
                           intro W hW
                           try dsimp only at hW
                           go_simp
                           try with_reducible rfl)
                      | (refine wpAnyH_takeN (i := 27) rfl (by kernel_rfl) (by kernel_rfl) (by kernel_rfl) (fun _ _ _ h => h) (by rfl) hHeld ?_)
                    try simp only [Act.put, List.setIfInBounds_toArray, List.set_cons_zero, List.set_cons_succ]
                    first
                      | (refine wpAnyH_takeB (i := 28) (v := ?v93) rfl (by kernel_rfl) (by kernel_rfl) (by kernel_rfl) (fun _ _ _ h => h) (by rfl) ?hy93 hHeld ?_
                         case hy93 =>
                           intro W hW
                           try dsimp only at hW
                           go_simp
                           try with_reducible rfl)
                      | (refine wpAnyH_takeN (i := 28) rfl (by kernel_rfl) (by kernel_rfl) (by kernel_rfl) (fun _ _ _ h => h) (by rfl) hHeld ?_)
                    try simp only [Act.put, List.setIfInBounds_toArray, List.set_cons_zero, List.set_cons_succ]
                    first
                      | (refine wpAnyH_takeB (i := 29) (v := ?v94) rfl (by kernel_rfl) (by kernel_rfl) (by kernel_rfl) (fun _ _ _ h => h) (by rfl) ?hy94 hHeld ?_
                         case hy94 =>
                           intro W hW
                           try dsimp only at hW
                           go_simp
                           try with_reducible rfl)
                      | (refine wpAnyH_takeN (i := 29) rfl (by kernel_rfl) (by kernel_rfl) (by kernel_rfl) (fun _ _ _ h => h) (by rfl) hHeld ?_)
                    try simp only [Act.put, List.setIfInBounds_toArray, List.set_cons_zero, List.set_cons_succ]
                    first
                      | (refine wpAnyH_takeB (i := 30) (v := ?v95) rfl (by kernel_rfl) (by kernel_rfl) (by kernel_rfl) (fun _ _ _ h => h) (by rfl) ?hy95 hHeld ?_
                         case hy95 =>
                           intro W hW
                           try dsimp only at hW
                           go_simp
                           try with_reducible rfl)
                      | (refine wpAnyH_takeN (i := 30) rfl (by kernel_rfl) (by kernel_rfl) (by kernel_rfl) (fun _ _ _ h => h) (by rfl) hHeld ?_)
                    try simp only [Act.put, List.setIfInBounds_toArray, List.set_cons_zero, List.set_cons_succ]
                    first
                      | (refine wpAnyH_takeB (i := 31) (v := ?v96) rfl (by kernel_rfl) (by kernel_rfl) (by kernel_rfl) (fun _ _ _ h => h) (by rfl) ?hy96 hHeld ?_
                         case hy96 =>
                           intro W hW
                           try dsimp only at hW
                           go_simp
                           try with_reducible rfl)
                      | (refine wpAnyH_takeN (i := 31) rfl (by kernel_rfl) (by kernel_rfl) (by kernel_rfl) (fun _ _ _ h => h) (by rfl) hHeld ?_)
                    try simp only [Act.put, List.setIfInBounds_toArray, List.set_cons_zero, List.set_cons_succ]
                    first
                      | (refine wpAnyH_takeB (i := 32) (v := ?v97) rfl (by kernel_rfl) (by kernel_rfl) (by kernel_rfl) (fun _ _ _ h => h) (by rfl) ?hy97 hHeld ?_
                         case hy97 =>
                           intro W hW
                           try dsimp only at hW
                           go_simp
                           try with_reducible rfl)
                      | (refine wpAnyH_takeN (i := 32) rfl (by kernel_rfl) (by kernel_rfl) (by kernel_rfl) (fun _ _ _ h => h) (by rfl) hHeld ?_)
                    try simp only [Act.put, List.setIfInBounds_toArray, List.set_cons_zero, List.set_cons_succ]
                    first
                      | (refine wpAnyH_takeB (i := 33) (v := ?v98) rfl (by kernel_rfl) (by kernel_rfl) (by kernel_rfl) (fun _ _ _ h => h) (by rfl) ?hy98 hHeld ?_
                         case hy98 =>
                           intro W hW
                           try dsimp only at hW
                           go_simp
                           try with_reducible rfl)
                      | (refine wpAnyH_takeN (i := 33) rfl (by kernel_rfl) (by kernel_rfl) (by kernel_rfl) (fun _ _ _ h => h) (by rfl) hHeld ?_)
                    try simp only [Act.put, List.setIfInBounds_toArray, List.set_cons_zero, List.set_cons_succ]
                    first
                      | (refine wpAnyH_takeB (i := 34) (v := ?v99) rfl (by kernel_rfl) (by kernel_rfl) (by kernel_rfl) (fun _ _ _ h => h) (by rfl) ?hy99 hHeld ?_
                         case hy99 =>
                           intro W hW
                           try dsimp only at hW
                           go_simp
                           try with_reducible rfl)
                      | (refine wpAnyH_takeN (i := 34) rfl (by kernel_rfl) (by kernel_rfl) (by kernel_rfl) (fun _ _ _ h => h) (by rfl) hHeld ?_)
                    try simp only [Act.put, List.setIfInBounds_toArray, List.set_cons_zero, List.set_cons_succ]
                    first
                      | (refine wpAnyH_takeB (i := 35) (v := ?v100) rfl (by kernel_rfl) (by kernel_rfl) (by kernel_rfl) (fun _ _ _ h => h) (by rfl) ?hy100 hHeld ?_
                         case hy100 =>
                           intro W hW
                           try dsimp only at hW
                           go_simp
                           try with_reducible rfl)
                      | (refine wpAnyH_takeN (i := 35) rfl (by kernel_rfl) (by kernel_rfl) (by kernel_rfl) (fun _ _ _ h => h) (by rfl) hHeld ?_)
                    try simp only [Act.put, List.setIfInBounds_toArray, List.set_cons_zero, List.set_cons_succ]
                    first
                      | (refine wpAnyH_takeB (i := 36) (v := ?v101) rfl (by kernel_rfl) (by kernel_rfl) (by kernel_rfl) (fun _ _ _ h => h) (by rfl) ?hy101 hHeld ?_
                         case hy101 =>
                           intro W hW
                           try dsimp only at hW
                           go_simp
                           try with_reducible rfl)
                      | (refine wpAnyH_takeN (i := 36) rfl (by kernel_rfl) (by kernel_rfl) (by kernel_rfl) (fun _ _ _ h => h) (by rfl) hHeld ?_)
                    try simp only [Act.put, List.setIfInBounds_toArray, List.set_cons_zero, List.set_cons_succ]
                    first
                      | (refine wpAnyH_takeB (i := 37) (v := ?v102) rfl (by kernel_rfl) (by kernel_rfl) (by kernel_rfl) (fun _ _ _ h => h) (by rfl) ?hy102 hHeld ?_
                         case hy102 =>
                           intro W hW
                           try dsimp only at hW
                           go_simp
                           try with_reducible rfl)
                      | (refine wpAnyH_takeN (i := 37) rfl (by kernel_rfl) (by kernel_rfl) (by kernel_rfl) (fun _ _ _ h => h) (by rfl) hHeld ?_)
                    try simp only [Act.put, List.setIfInBounds_toArray, List.set_cons_zero, List.set_cons_succ]
                    first
                      | (refine wpAnyH_takeB (i := 38) (v := ?v103) rfl (by kernel_rfl) (by kernel_rfl) (by kernel_rfl) (fun _ _ _ h => h) (by rfl) ?hy103 hHeld ?_
                         case hy103 =>
                           intro W hW
                           try dsimp only at hW
                           go_simp
                           try with_reducible rfl)
                      | (refine wpAnyH_takeN (i := 38) rfl (by kernel_rfl) (by kernel_rfl) (by kernel_rfl) (fun _ _ _ h => h) (by rfl) hHeld ?_)
                    try simp only [Act.put, List.setIfInBounds_toArray, List.set_cons_zero, List.set_cons_succ]
                    first
                      | (refine wpAnyH_takeB (i := 39) (v := ?v104) rfl (by kernel_rfl) (by kernel_rfl) (by kernel_rfl) (fun _ _ _ h => h) (by rfl) ?hy104 hHeld ?_
                         case hy104 =>
                           intro W hW
                           try dsimp only at hW
                           go_simp
                           try with_reducible rfl)
                      | (refine wpAnyH_takeN (i := 39) rfl (by kernel_rfl) (by kernel_rfl) (by kernel_rfl) (fun _ _ _ h => h) (by rfl) hHeld ?_)
                    try simp only [Act.put, List.setIfInBounds_toArray, List.set_cons_zero, List.set_cons_succ]
                    first
                      | (refine wpAnyH_takeB (i := 40) (v := ?v105) rfl (by kernel_rfl) (by kernel_rfl) (by kernel_rfl) (fun _ _ _ h => h) (by rfl) ?hy105 hHeld ?_
                         case hy105 =>
                           intro W hW
                           try dsimp only at hW
                           go_simp
                           try with_reducible rfl)
                      | (refine wpAnyH_takeN (i := 40) rfl (by kernel_rfl) (by kernel_rfl) (by kernel_rfl) (fun _ _ _ h => h) (by rfl) hHeld ?_)
                    try simp only [Act.put, List.setIfInBounds_toArray, List.set_cons_zero, List.set_cons_succ]
                    first
                      | (refine wpAnyH_takeB (i := 41) (v := ?v106) rfl (by kernel_rfl) (by kernel_rfl) (by kernel_rfl) (fun _ _ _ h => h) (by rfl) ?hy106 hHeld ?_
                         case hy106 =>
                           intro W hW
                           try dsimp only at hW
                           go_simp
                           try with_reducible rfl)
                      | (refine wpAnyH_takeN (i := 41) rfl (by kernel_rfl) (by kernel_rfl) (by kernel_rfl) (fun _ _ _ h => h) (by rfl) hHeld ?_)
                    try simp only [Act.put, List.setIfInBounds_toArray, List.set_cons_zero, List.set_cons_succ]
                    first
                      | (refine wpAnyH_takeB (i := 42) (v := ?v107) rfl (by kernel_rfl) (by kernel_rfl) (by kernel_rfl) (fun _ _ _ h => h) (by rfl) ?hy107 hHeld ?_
                         case hy107 =>
                           intro W hW
                           try dsimp only at hW
                           go_simp
                           try with_reducible rfl)
                      | (refine wpAnyH_takeN (i := 42) rfl (by kernel_rfl) (by kernel_rfl) (by kernel_rfl) (fun _ _ _ h => h) (by rfl) hHeld ?_)
                    try simp only [Act.put, List.setIfInBounds_toArray, List.set_cons_zero, List.set_cons_succ]
                    first
                      | (refine wpAnyH_takeB (i := 43) (v := ?v108) rfl (by kernel_rfl) (by kernel_rfl) (by kernel_rfl) (fun _ _ _ h => h) (by rfl) ?hy108 hHeld ?_
                         case hy108 =>
                           intro W hW
                           try dsimp only at hW
                           go_simp
                           try with_reducible rfl)
                      | (refine wpAnyH_takeN (i := 43) rfl (by kernel_rfl) (by kernel_rfl) (by kernel_rfl) (fun _ _ _ h => h) (by rfl) hHeld ?_)
                    try simp only [Act.put, List.setIfInBounds_toArray, List.set_cons_zero, List.set_cons_succ]
                    first
                      | (refine wpAnyH_takeB (i := 44) (v := ?v109) rfl (by kernel_rfl) (by kernel_rfl) (by kernel_rfl) (fun _ _ _ h => h) (by rfl) ?hy109 hHeld ?_
                         case hy109 =>
                           intro W hW
                           try dsimp only at hW
                           go_simp
                           try with_reducible rfl)
                      | (refine wpAnyH_takeN (i := 44) rfl (by kernel_rfl) (by kernel_rfl) (by kernel_rfl) (fun _ _ _ h => h) (by rfl) hHeld ?_)
                    try simp only [Act.put, List.setIfInBounds_toArray, List.set_cons_zero, List.set_cons_succ]
                    first
                      | (refine wpAnyH_takeB (i := 45) (v := ?v110) rfl (by kernel_rfl) (by kernel_rfl) (by kernel_rfl) (fun _ _ _ h => h) (by rfl) ?hy110 hHeld ?_
                         case hy110 =>
                           intro W hW
                           try dsimp only at hW
                           go_simp
                           try with_reducible rfl)
                      | (refine wpAnyH_takeN (i := 45) rfl (by kernel_rfl) (by kernel_rfl) (by kernel_rfl) (fun _ _ _ h => h) (by rfl) hHeld ?_)
                    try simp only [Act.put, List.setIfInBounds_toArray, List.set_cons_zero, List.set_cons_succ]
                    first
                      | (refine wpAnyH_takeB (i := 46) (v := ?v111) rfl (by kernel_rfl) (by kernel_rfl) (by kernel_rfl) (fun _ _ _ h => h) (by rfl) ?hy111 hHeld ?_
                         case hy111 =>
                           intro W hW
                           try dsimp only at hW
                           go_simp
                           try with_reducible rfl)
                      | (refine wpAnyH_takeN (i := 46) rfl (by kernel_rfl) (by kernel_rfl) (by kernel_rfl) (fun _ _ _ h => h) (by rfl) hHeld ?_)
                    try simp only [Act.put, List.setIfInBounds_toArray, List.set_cons_zero, List.set_cons_succ]
                    first
                      | (refine wpAnyH_takeB (i := 47) (v := ?v112) rfl (by kernel_rfl) (by kernel_rfl) (by kernel_rfl) (fun _ _ _ h => h) (by rfl) ?hy112 hHeld ?_
                         case hy112 =>
                           intro W hW
                           try dsimp only at hW
                           go_simp
                           try with_reducible rfl)
                      | (refine wpAnyH_takeN (i := 47) rfl (by kernel_rfl) (by kernel_rfl) (by kernel_rfl) (fun _ _ _ h => h) (by rfl) hHeld ?_)
                    try simp only [Act.put, List.setIfInBounds_toArray, List.set_cons_zero, List.set_cons_succ]
                    first
                      | (refine wpAnyH_takeB (i := 48) (v := ?v113) rfl (by kernel_rfl) (by kernel_rfl) (by kernel_rfl) (fun _ _ _ h => h) (by rfl) ?hy113 hHeld ?_
                         case hy113 =>
                           intro W hW
                           try dsimp only at hW
                           go_simp
                           try with_reducible rfl)
                      | (refine wpAnyH_takeN (i := 48) rfl (by kernel_rfl) (by kernel_rfl) (by kernel_rfl) (fun _ _ _ h => h) (by rfl) hHeld ?_)
                    try simp only [Act.put, List.setIfInBounds_toArray, List.set_cons_zero, List.set_cons_succ]
                    first
                      | (refine wpAnyH_takeB (i := 49) (v := ?v114) rfl (by kernel_rfl) (by kernel_rfl) (by kernel_rfl) (fun _ _ _ h => h) (by rfl) ?hy114 hHeld ?_
                         case hy114 =>
                           intro W hW
                           try dsimp only at hW
                           go_simp
                           try with_reducible rfl)
                      | (refine wpAnyH_takeN (i := 49) rfl (by kernel_rfl) (by kernel_rfl) (by kernel_rfl) (fun _ _ _ h => h) (by rfl) hHeld ?_)
                    try simp only [Act.put, List.setIfInBounds_toArray, List.set_cons_zero, List.set_cons_succ]
                    first
                      | (refine wpAnyH_takeB (i := 50) (v := ?v115) rfl (by kernel_rfl) (by kernel_rfl) (by kernel_rfl) (fun _ _ _ h => h) (by rfl) ?hy115 hHeld ?_
                         case hy115 =>
                           intro W hW
                           try dsimp only at hW
                           go_simp
                           try with_reducible rfl)
                      | (refine wpAnyH_takeN (i := 50) rfl (by kernel_rfl) (by kernel_rfl) (by kernel_rfl) (fun _ _ _ h => h) (by rfl) hHeld ?_)
                    try simp only [Act.put, List.setIfInBounds_toArray, List.set_cons_zero, List.set_cons_succ]
                    first
                      | (refine wpAnyH_takeB (i := 51) (v := ?v116) rfl (by kernel_rfl) (by kernel_rfl) (by kernel_rfl) (fun _ _ _ h => h) (by rfl) ?hy116 hHeld ?_
                         case hy116 =>
                           intro W hW
                           try dsimp only at hW
                           go_simp
                           try with_reducible rfl)
                      | (refine wpAnyH_takeN (i := 51) rfl (by kernel_rfl) (by kernel_rfl) (by kernel_rfl) (fun _ _ _ h => h) (by rfl) hHeld ?_)
                    try simp only [Act.put, List.setIfInBounds_toArray, List.set_cons_zero, List.set_cons_succ]
                    first
                      | (refine wpAnyH_takeB (i := 52) (v := ?v117) rfl (by kernel_rfl) (by kernel_rfl) (by kernel_rfl) (fun _ _ _ h => h) (by rfl) ?hy117 hHeld ?_
                         case hy117 =>
                           intro W hW
                           try dsimp only at hW
                           go_simp
                           try with_reducible rfl)
                      | (refine wpAnyH_takeN (i := 52) rfl (by kernel_rfl) (by kernel_rfl) (by kernel_rfl) (fun _ _ _ h => h) (by rfl) hHeld ?_)
                    try simp only [Act.put, List.setIfInBounds_toArray, List.set_cons_zero, List.set_cons_succ]
                    first
                      | (refine wpAnyH_takeB (i := 53) (v := ?v118) rfl (by kernel_rfl) (by kernel_rfl) (by kernel_rfl) (fun _ _ _ h => h) (by rfl) ?hy118 hHeld ?_
                         case hy118 =>
                           intro W hW
                           try dsimp only at hW
                           go_simp
                           try with_reducible rfl)
                      | (refine wpAnyH_takeN (i := 53) rfl (by kernel_rfl) (by kernel_rfl) (by kernel_rfl) (fun _ _ _ h => h) (by rfl) hHeld ?_)
                    try simp only [Act.put, List.setIfInBounds_toArray, List.set_cons_zero, List.set_cons_succ]
                    first
                      | (refine wpAnyH_takeB (i := 54) (v := ?v119) rfl (by kernel_rfl) (by kernel_rfl) (by kernel_rfl) (fun _ _ _ h => h) (by rfl) ?hy119 hHeld ?_
                         case hy119 =>
                           intro W hW
                           try dsimp only at hW
                           go_simp
                           try with_reducible rfl)
                      | (refine wpAnyH_takeN (i := 54) rfl (by kernel_rfl) (by kernel_rfl) (by kernel_rfl) (fun _ _ _ h => h) (by rfl) hHeld ?_)
                    try simp only [Act.put, List.setIfInBounds_toArray, List.set_cons_zero, List.set_cons_succ]
                    first
                      | (refine wpAnyH_takeB (i := 55) (v := ?v120) rfl (by kernel_rfl) (by kernel_rfl) (by kernel_rfl) (fun _ _ _ h => h) (by rfl) ?hy120 hHeld ?_
                         case hy120 =>
                           intro W hW
                           try dsimp only at hW
                           go_simp
                           try with_reducible rfl)
                      | (refine wpAnyH_takeN (i := 55) rfl (by kernel_rfl) (by kernel_rfl) (by kernel_rfl) (fun _ _ _ h => h) (by rfl) hHeld ?_)
                    try simp only [Act.put, List.setIfInBounds_toArray, List.set_cons_zero, List.set_cons_succ]
                    first
                      | (refine wpAnyH_takeB (i := 56) (v := ?v121) rfl (by kernel_rfl) (by kernel_rfl) (by kernel_rfl) (fun _ _ _ h => h) (by rfl) ?hy121 hHeld ?_
                         case hy121 =>
                           intro W hW
                           try dsimp only at hW
                           go_simp
                           try with_reducible rfl)
                      | (refine wpAnyH_takeN (i := 56) rfl (by kernel_rfl) (by kernel_rfl) (by kernel_rfl) (fun _ _ _ h => h) (by rfl) hHeld ?_)
                    try simp only [Act.put, List.setIfInBounds_toArray, List.set_cons_zero, List.set_cons_succ]
                    first
                      | (refine wpAnyH_takeB (i := 57) (v := ?v122) rfl (by kernel_rfl) (by kernel_rfl) (by kernel_rfl) (fun _ _ _ h => h) (by rfl) ?hy122 hHeld ?_
                         case hy122 =>
                           intro W hW
                           try dsimp only at hW
                           go_simp
                           try with_reducible rfl)
                      | (refine wpAnyH_takeN (i := 57) rfl (by kernel_rfl) (by kernel_rfl) (by kernel_rfl) (fun _ _ _ h => h) (by rfl) hHeld ?_)
                    try simp only [Act.put, List.setIfInBounds_toArray, List.set_cons_zero, List.set_cons_succ]
                    first
                      | (refine wpAnyH_takeB (i := 58) (v := ?v123) rfl (by kernel_rfl) (by kernel_rfl) (by kernel_rfl) (fun _ _ _ h => h) (by rfl) ?hy123 hHeld ?_
                         case hy123 =>
                           intro W hW
                           try dsimp only at hW
                           go_simp
                           try with_reducible rfl)
                      | (refine wpAnyH_takeN (i := 58) rfl (by kernel_rfl) (by kernel_rfl) (by kernel_rfl) (fun _ _ _ h => h) (by rfl) hHeld ?_)
                    try simp only [Act.put, List.setIfInBounds_toArray, List.set_cons_zero, List.set_cons_succ]
                    first
                      | (refine wpAnyH_takeB (i := 59) (v := ?v124) rfl (by kernel_rfl) (by kernel_rfl) (by kernel_rfl) (fun _ _ _ h => h) (by rfl) ?hy124 hHeld ?_
                         case hy124 =>
                           intro W hW
                           try dsimp only at hW
                           go_simp
                           try with_reducible rfl)
                      | (refine wpAnyH_takeN (i := 59) rfl (by kernel_rfl) (by kernel_rfl) (by kernel_rfl) (fun _ _ _ h => h) (by rfl) hHeld ?_)
                    try simp only [Act.put, List.setIfInBounds_toArray, List.set_cons_zero, List.set_cons_succ]
                    first
                      | (refine wpAnyH_takeB (i := 60) (v := ?v125) rfl (by kernel_rfl) (by kernel_rfl) (by kernel_rfl) (fun _ _ _ h => h) (by rfl) ?hy125 hHeld ?_
                         case hy125 =>
                           intro W hW
                           try dsimp only at hW
                           go_simp
                           try with_reducible rfl)
                      | (refine wpAnyH_takeN (i := 60) rfl (by kernel_rfl) (by kernel_rfl) (by kernel_rfl) (fun _ _ _ h => h) (by rfl) hHeld ?_)
                    try simp only [Act.put, List.setIfInBounds_toArray, List.set_cons_zero, List.set_cons_succ]
                    first
                      | (refine wpAnyH_takeB (i := 61) (v := ?v126) rfl (by kernel_rfl) (by kernel_rfl) (by kernel_rfl) (fun _ _ _ h => h) (by rfl) ?hy126 hHeld ?_
                         case hy126 =>
                           intro W hW
                           try dsimp only at hW
                           go_simp
                           try with_reducible rfl)
                      | (refine wpAnyH_takeN (i := 61) rfl (by kernel_rfl) (by kernel_rfl) (by kernel_rfl) (fun _ _ _ h => h) (by rfl) hHeld ?_)
                    try simp only [Act.put, List.setIfInBounds_toArray, List.set_cons_zero, List.set_cons_succ]
                    refine wpAnyH_done (by kernel_rfl) ?_ _
                    have HR4 : Hid (RQ (w4.drewN nn) p ((ds, dt) :: l) F) := (HR2.out.drew.later HB3.out).later ⟨rfl, rfl, rfl, Nat.le_refl _, fun _ _ => rfl⟩
                    have HQ4 : Hid (QB w (w4.drewN nn) q F ((ds, dt) :: l)) := HQ3.out.later ⟨rfl, rfl, rfl, Nat.le_refl _, fun _ _ => rfl⟩
                    clear hHeld
                    generalize w4.drewN nn = w5 at *
                    go_wp2_with fail
                    exact ⟨⟨k + 1, by omega, by go_num, ⟨F, _, HLk.out, HQ4.out, HR4.out⟩⟩, by simp [intOf]; omega⟩
                · as_aux_lemma =>
                    have Hx := Lib.hid hx
                    have Hxs := Lib.hid hxs
                    have Hf := Lib.hid hf
                    clear hx hxs hf
                    go_wp2_with fail
                    refine (que_next HQ.out.que (by have := HLe.out; simp only [List.length_cons] at this; omega)).mono ?_
                    rintro e w2 ⟨rfl, hb2⟩
                    obtain ⟨ds, dt⟩ := d
                    unfold dueV
                    have hq2 := HQ.out.later hb2
                    have HQ2 := Lib.hid (hq2.alloc (.cells #[.string ds, .int .i64 dt] 40))
                    have HR2 := Lib.hid ((HR.out.later hb2).alloc (.cells #[.string ds, .int .i64 dt] 40))
                    have kb := Blk.new w2 40 #[.string ds, .int .i64 dt]
                    have a0 := kb.cell 0
                    have a1 := kb.cell 1
                    have al := kb.lt
                    simp only [List.getElem?_toArray, List.getElem?_cons_succ, List.getElem?_cons_zero] at a0 a1
                    have d1 := (HQ2.out.below.cell (p := ⟨b, off + k * 3 + 1, none⟩) hbl).trans HC.out.2.1
                    clear hb2 hq2 kb
                    try dsimp only
                    go_wp2_with fail
                    refine (by have := que_at_some HQ2.out.que x (List.mem_of_getElem? Hx.out); rwa [Hxs.out] at this : Calls Try.prog 15 #[.pointer (some ⟨q, 0, none⟩), .string nm] _ _).mono ?_
                    rintro e w' ⟨rfl, rfl⟩
                    go_wp2_with fail
                    refine (rq_find HR2.out nm (by have := HLe.out; omega)).mono ?_
                    rintro e w' ⟨rfl, rfl⟩
                    rw [Hf.out]
                    obtain ⟨Ar, cr, hrr, hrF⟩ := HR2.out.ex
                    have HRr := Lib.hid hrr
                    have p0 := hrr.blk.cell 0
                    have pl := hrr.blk.lt
                    simp only [List.getElem?_toArray, List.getElem?_cons_zero] at p0
                    obtain ⟨rb, ro, rfl, rl, _, rc⟩ := hrr.row (by simp)
                    obtain ⟨r0, r1⟩ := rc 0 (ds, dt) rfl
                    simp only [Nat.zero_mul, Nat.add_zero] at r0 r1
                    try dsimp only at r0 r1
                    obtain ⟨_, ri⟩ := rc i x Hx.out
                    obtain ⟨xs0, xt⟩ := x
                    try dsimp only at ri
                    clear hrr hrF d1 rc
                    have hl0 : (0 : Int) < (l.length : Int) + 1 := by omega
                    simp only [List.length_cons] at p0
                    generalize w2.alloc (.cells #[.string ds, .int .i64 dt] 40) = w3 at *
                    have hi1 : (i : Int) < (l.length : Int) + 1 := by simp only [List.length_cons] at hi; omega
                    have hi2 : (0 : Int) ≤ (i : Int) := by omega
                    generalize w2.heap.size = ga at *
                    go_wp2_with fail
                    have p0d : w3.drew.cell? ⟨p, 0, none⟩ = some (.slice (some ⟨rb, ro, none⟩) (l.length + 1) cr) := by simpa using p0
                    have a0d : w3.drew.cell? ⟨ga, 0, none⟩ = some (.string ds) := by simpa using a0
                    have a1d : w3.drew.cell? ⟨ga, 1, none⟩ = some (.int .i64 dt) := by simpa using a1
                    have r0d : w3.drew.cell? ⟨rb, ro, none⟩ = some (.string ds) := by simpa using r0
                    have r1d : w3.drew.cell? ⟨rb, ro + 1, none⟩ = some (.int .i64 dt) := by simpa using r1
                    have rid : w3.drew.cell? ⟨rb, ro + i * 2 + 1, none⟩ = some (.int .i64 xt) := by simpa using ri
                    refine wp_region_held_drew (S := (fun W => W.cell? ⟨p, 0, none⟩ = some (.slice (some ⟨rb, ro, none⟩) (l.length + 1) cr) ∧ W.cell? ⟨ga, 0, none⟩ = some (.string ds) ∧ W.cell? ⟨ga, 1, none⟩ = some (.int .i64 dt) ∧ W.cell? ⟨rb, ro, none⟩ = some (.string ds) ∧ W.cell? ⟨rb, ro + 1, none⟩ = some (.int .i64 dt) ∧ W.cell? ⟨rb, ro + i * 2 + 1, none⟩ = some (.int .i64 xt))) (by kernel_rfl) ?hS127 (fun hHeld => ?_)
                    case hS127 =>
                      try dsimp only
                      exact ⟨p0d, a0d, a1d, r0d, r1d, rid⟩
                    first
                      | (refine wpAnyH_takeB (i := 0) (v := ?v128) rfl (by kernel_rfl) (by kernel_rfl) (by kernel_rfl) (fun _ _ _ h => h) (by rfl) ?hy128 hHeld ?_
                         case hy128 =>
                           intro W hW
                           try dsimp only at hW
                           go_simp
                           try with_reducible rfl)
                      | (refine wpAnyH_takeN (i := 0) rfl (by kernel_rfl) (by kernel_rfl) (by kernel_rfl) (fun _ _ _ h => h) (by rfl) hHeld ?_)
                    try simp only [Act.put, List.setIfInBounds_toArray, List.set_cons_zero, List.set_cons_succ]
                    first
                      | (refine wpAnyH_takeB (i := 2) (v := ?v129) rfl (by kernel_rfl) (by kernel_rfl) (by kernel_rfl) (fun _ _ _ h => h) (by rfl) ?hy129 hHeld ?_
                         case hy129 =>
                           intro W hW
                           try dsimp only at hW
                           go_simp
                           try with_reducible rfl)
                      | (refine wpAnyH_takeN (i := 2) rfl (by kernel_rfl) (by kernel_rfl) (by kernel_rfl) (fun _ _ _ h => h) (by rfl) hHeld ?_)
                    try simp only [Act.put, List.setIfInBounds_toArray, List.set_cons_zero, List.set_cons_succ]
                    first
                      | (refine wpAnyH_takeB (i := 3) (v := ?v130) rfl (by kernel_rfl) (by kernel_rfl) (by kernel_rfl) (fun _ _ _ h => h) (by rfl) ?hy130 hHeld ?_
                         case hy130 =>
                           intro W hW
                           try dsimp only at hW
                           go_simp
                           try with_reducible rfl)
                      | (refine wpAnyH_takeN (i := 3) rfl (by kernel_rfl) (by kernel_rfl) (by kernel_rfl) (fun _ _ _ h => h) (by rfl) hHeld ?_)
                    try simp only [Act.put, List.setIfInBounds_toArray, List.set_cons_zero, List.set_cons_succ]
                    first
                      | (refine wpAnyH_takeB (i := 4) (v := ?v131) rfl (by kernel_rfl) (by kernel_rfl) (by kernel_rfl) (fun _ _ _ h => h) (by rfl) ?hy131 hHeld ?_
                         case hy131 =>
                           intro W hW
                           try dsimp only at hW
                           go_simp
                           try with_reducible rfl)
                      | (refine wpAnyH_takeN (i := 4) rfl (by kernel_rfl) (by kernel_rfl) (by kernel_rfl) (fun _ _ _ h => h) (by rfl) hHeld ?_)
                    try simp only [Act.put, List.setIfInBounds_toArray, List.set_cons_zero, List.set_cons_succ]
                    first
                      | (refine wpAnyH_takeB (i := 5) (v := ?v132) rfl (by kernel_rfl) (by kernel_rfl) (by kernel_rfl) (fun _ _ _ h => h) (by rfl) ?hy132 hHeld ?_
                         case hy132 =>
                           intro W hW
                           try dsimp only at hW
                           go_simp
                           try with_reducible rfl)
                      | (refine wpAnyH_takeN (i := 5) rfl (by kernel_rfl) (by kernel_rfl) (by kernel_rfl) (fun _ _ _ h => h) (by rfl) hHeld ?_)
                    try simp only [Act.put, List.setIfInBounds_toArray, List.set_cons_zero, List.set_cons_succ]
                    refine AllReadyH.one (i := 1) (by kernel_rfl) rfl (fun K hK => ?_)
                    go_simp
                    refine (qb_list HQ2.out.drew (by have := HLe.out; omega)).mono ?_
                    rintro e w4 ⟨A3, c3, rfl, hd3, hq3, hb3⟩
                    have HQ3 := Lib.hid hq3
                    have HD3 := Lib.hid hd3
                    have HB3 := Lib.hid hb3
                    have p0b := (hb3.cell (p := ⟨p, 0, none⟩) (pl)).trans p0d
                    have a0b := (hb3.cell (p := ⟨ga, 0, none⟩) (al)).trans a0d
                    have a1b := (hb3.cell (p := ⟨ga, 1, none⟩) (al)).trans a1d
                    have r0b := (hb3.cell (p := ⟨rb, ro, none⟩) (rl)).trans r0d
                    have r1b := (hb3.cell (p := ⟨rb, ro + 1, none⟩) (rl)).trans r1d
                    have rib := (hb3.cell (p := ⟨rb, ro + i * 2 + 1, none⟩) (rl)).trans rid
                    clear hd3 hq3 hb3
                    refine hK.out _ _ ?hS133 (fun hHeld => ?_)
                    case hS133 =>
                      try dsimp only
                      exact ⟨p0b, a0b, a1b, r0b, r1b, rib⟩
                    clear hK K
                    try simp only [Act.put, List.setIfInBounds_toArray, List.set_cons_zero, List.set_cons_succ]
                    refine AllReadyH.one (i := 6) (by kernel_rfl) rfl (fun K hK => ?_)
                    go_simp
                    refine (same_any A3 (some ⟨rb, ro, none⟩) c3 cr ((ds, dt) :: l) ((ds, dt) :: l) w4 HD3.out.same (HRr.out.drew.below HB3.out).dueS (by have := HLe.out; omega) (by have := HLe.out; omega)).mono ?_
                    rintro e w' ⟨rfl, nn, rfl⟩
                    rw [show decide (((ds, dt) :: l : List KV) = (ds, dt) :: l) = true from decide_eq_true rfl]
                    refine hK.out _ _ ?hS134 (fun hHeld => ?_)
                    case hS134 =>
                      try dsimp only
                      exact ⟨p0b, a0b, a1b, r0b, r1b, rib⟩
                    clear hK K
                    try simp only [Act.put, List.setIfInBounds_toArray, List.set_cons_zero, List.set_cons_succ]
                    first
                      | (refine wpAnyH_takeB (i := 7) (v := ?v135) rfl (by kernel_rfl) (by kernel_rfl) (by kernel_rfl) (fun _ _ _ h => h) (by rfl) ?hy135 hHeld ?_
                         case hy135 =>
                           intro W hW
                           try dsimp only at hW
                           go_simp
                           try with_reducible rfl)
                      | (refine wpAnyH_takeN (i := 7) rfl (by kernel_rfl) (by kernel_rfl) (by kernel_rfl) (fun _ _ _ h => h) (by rfl) hHeld ?_)
                    try simp only [Act.put, List.setIfInBounds_toArray, List.set_cons_zero, List.set_cons_succ]
                    first
                      | (refine wpAnyH_takeB (i := 8) (v := ?v136) rfl (by kernel_rfl) (by kernel_rfl) (by kernel_rfl) (fun _ _ _ h => h) (by rfl) ?hy136 hHeld ?_
                         case hy136 =>
                           intro W hW
                           try dsimp only at hW
                           go_simp
                           try with_reducible rfl)
                      | (refine wpAnyH_takeN (i := 8) rfl (by kernel_rfl) (by kernel_rfl) (by kernel_rfl) (fun _ _ _ h => h) (by rfl) hHeld ?_)
                    try simp only [Act.put, List.setIfInBounds_toArray, List.set_cons_zero, List.set_cons_succ]
                    first
                      | (refine wpAnyH_takeB (i := 9) (v := ?v137) rfl (by kernel_rfl) (by kernel_rfl) (by kernel_rfl) (fun _ _ _ h => h) (by rfl) ?hy137 hHeld ?_
                         case hy137 =>
                           intro W hW
                           try dsimp only at hW
                           go_simp
                           try with_reducible rfl)
                      | (refine wpAnyH_takeN (i := 9) rfl (by kernel_rfl) (by kernel_rfl) (by kernel_rfl) (fun _ _ _ h => h) (by rfl) hHeld ?_)
                    try simp only [Act.put, List.setIfInBounds_toArray, List.set_cons_zero, List.set_cons_succ]
                    first
                      | (refine wpAnyH_takeB (i := 11) (v := ?v138) rfl (by kernel_rfl) (by kernel_rfl) (by kernel_rfl) (fun _ _ _ h => h) (by rfl) ?hy138 hHeld ?_
                         case hy138 =>
                           intro W hW
                           try dsimp only at hW
                           go_simp
                           try with_reducible rfl)
                      | (refine wpAnyH_takeN (i := 11) rfl (by kernel_rfl) (by kernel_rfl) (by kernel_rfl) (fun _ _ _ h => h) (by rfl) hHeld ?_)
                    try simp only [Act.put, List.setIfInBounds_toArray, List.set_cons_zero, List.set_cons_succ]
                    first
                      | (refine wpAnyH_takeB (i := 12) (v := ?v139) rfl (by kernel_rfl) (by kernel_rfl) (by kernel_rfl) (fun _ _ _ h => h) (by rfl) ?hy139 hHeld ?_
                         case hy139 =>
                           intro W hW
                           try dsimp only at hW
                           go_simp
                           try with_reducible rfl)
                      | (refine wpAnyH_takeN (i := 12) rfl (by kernel_rfl) (by kernel_rfl) (by kernel_rfl) (fun _ _ _ h => h) (by rfl) hHeld ?_)
                    try simp only [Act.put, List.setIfInBounds_toArray, List.set_cons_zero, List.set_cons_succ]
                    first
                      | (refine wpAnyH_takeB (i := 13) (v := ?v140) rfl (by kernel_rfl) (by kernel_rfl) (by kernel_rfl) (fun _ _ _ h => h) (by rfl) ?hy140 hHeld ?_
                         case hy140 =>
                           intro W hW
                           try dsimp only at hW
                           go_simp
                           try with_reducible rfl)
                      | (refine wpAnyH_takeN (i := 13) rfl (by kernel_rfl) (by kernel_rfl) (by kernel_rfl) (fun _ _ _ h => h) (by rfl) hHeld ?_)
                    try simp only [Act.put, List.setIfInBounds_toArray, List.set_cons_zero, List.set_cons_succ]
                    first
                      | (refine wpAnyH_takeB (i := 14) (v := ?v141) rfl (by kernel_rfl) (by kernel_rfl) (by kernel_rfl) (fun _ _ _ h => h) (by rfl) ?hy141 hHeld ?_
                         case hy141 =>
                           intro W hW
                           try dsimp only at hW
                           go_simp
                           try with_reducible rfl)
                      | (refine wpAnyH_takeN (i := 14) rfl (by kernel_rfl) (by kernel_rfl) (by kernel_rfl) (fun _ _ _ h => h) (by rfl) hHeld ?_)
                    try simp only [Act.put, List.setIfInBounds_toArray, List.set_cons_zero, List.set_cons_succ]
                    first
                      | (refine wpAnyH_takeB (i := 15) (v := ?v142) rfl (by kernel_rfl) (by kernel_rfl) (by kernel_rfl) (fun _ _ _ h => h) (by rfl) ?hy142 hHeld ?_
                         case hy142 =>
                           intro W hW
                           try dsimp only at hW
                           go_simp
                           try with_reducible rfl)
                      | (refine wpAnyH_takeN (i := 15) rfl (by kernel_rfl) (by kernel_rfl) (by kernel_rfl) (fun _ _ _ h => h) (by rfl) hHeld ?_)
                    try simp only [Act.put, List.setIfInBounds_toArray, List.set_cons_zero, List.set_cons_succ]
                    refine AllReadyH.one (i := 10) (by kernel_rfl) rfl (fun K hK => ?_)
                    go_simp
                    refine ((HQ3.out.later (w' := w4.drewN nn) ⟨rfl, rfl, rfl, Nat.le_refl _, fun _ _ => rfl⟩).que.len).mono ?_
                    rintro e w' ⟨rfl, rfl⟩
                    refine hK.out _ _ ?hS143 (fun hHeld => ?_)
                    case hS143 =>
                      try dsimp only
                      exact ⟨p0b, a0b, a1b, r0b, r1b, rib⟩
                    clear hK K
                    try simp only [Act.put, List.setIfInBounds_toArray, List.set_cons_zero, List.set_cons_succ]
                    first
                      | (refine wpAnyH_takeB (i := 16) (v := ?v144) rfl (by kernel_rfl) (by kernel_rfl) (by kernel_rfl) (fun _ _ _ h => h) (by rfl) ?hy144 hHeld ?_
                         case hy144 =>
                           intro W hW
                           try dsimp only at hW
                           go_simp
                           try with_reducible rfl)
                      | (refine wpAnyH_takeN (i := 16) rfl (by kernel_rfl) (by kernel_rfl) (by kernel_rfl) (fun _ _ _ h => h) (by rfl) hHeld ?_)
                    try simp only [Act.put, List.setIfInBounds_toArray, List.set_cons_zero, List.set_cons_succ]
                    first
                      | (refine wpAnyH_takeB (i := 17) (v := ?v145) rfl (by kernel_rfl) (by kernel_rfl) (by kernel_rfl) (fun _ _ _ h => h) (by rfl) ?hy145 hHeld ?_
                         case hy145 =>
                           intro W hW
                           try dsimp only at hW
                           go_simp
                           try with_reducible rfl)
                      | (refine wpAnyH_takeN (i := 17) rfl (by kernel_rfl) (by kernel_rfl) (by kernel_rfl) (fun _ _ _ h => h) (by rfl) hHeld ?_)
                    try simp only [Act.put, List.setIfInBounds_toArray, List.set_cons_zero, List.set_cons_succ]
                    first
                      | (refine wpAnyH_takeB (i := 18) (v := ?v146) rfl (by kernel_rfl) (by kernel_rfl) (by kernel_rfl) (fun _ _ _ h => h) (by rfl) ?hy146 hHeld ?_
                         case hy146 =>
                           intro W hW
                           try dsimp only at hW
                           go_simp
                           try with_reducible rfl)
                      | (refine wpAnyH_takeN (i := 18) rfl (by kernel_rfl) (by kernel_rfl) (by kernel_rfl) (fun _ _ _ h => h) (by rfl) hHeld ?_)
                    try simp only [Act.put, List.setIfInBounds_toArray, List.set_cons_zero, List.set_cons_succ]
                    first
                      | (refine wpAnyH_takeB (i := 19) (v := ?v147) rfl (by kernel_rfl) (by kernel_rfl) (by kernel_rfl) (fun _ _ _ h => h) (by rfl) ?hy147 hHeld ?_
                         case hy147 =>
                           intro W hW
                           try dsimp only at hW
                           go_simp
                           try with_reducible rfl)
                      | (refine wpAnyH_takeN (i := 19) rfl (by kernel_rfl) (by kernel_rfl) (by kernel_rfl) (fun _ _ _ h => h) (by rfl) hHeld ?_)
                    try simp only [Act.put, List.setIfInBounds_toArray, List.set_cons_zero, List.set_cons_succ]
                    first
                      | (refine wpAnyH_takeB (i := 20) (v := ?v148) rfl (by kernel_rfl) (by kernel_rfl) (by kernel_rfl) (fun _ _ _ h => h) (by rfl) ?hy148 hHeld ?_
                         case hy148 =>
                           intro W hW
                           try dsimp only at hW
                           go_simp
                           try with_reducible rfl)
                      | (refine wpAnyH_takeN (i := 20) rfl (by kernel_rfl) (by kernel_rfl) (by kernel_rfl) (fun _ _ _ h => h) (by rfl) hHeld ?_)
                    try simp only [Act.put, List.setIfInBounds_toArray, List.set_cons_zero, List.set_cons_succ]
                    first
                      | (refine wpAnyH_takeB (i := 21) (v := ?v149) rfl (by kernel_rfl) (by kernel_rfl) (by kernel_rfl) (fun _ _ _ h => h) (by rfl) ?hy149 hHeld ?_
                         case hy149 =>
                           intro W hW
                           try dsimp only at hW
                           go_simp
                           try with_reducible rfl)
                      | (refine wpAnyH_takeN (i := 21) rfl (by kernel_rfl) (by kernel_rfl) (by kernel_rfl) (fun _ _ _ h => h) (by rfl) hHeld ?_)
                    try simp only [Act.put, List.setIfInBounds_toArray, List.set_cons_zero, List.set_cons_succ]
                    first
                      | (refine wpAnyH_takeB (i := 22) (v := ?v150) rfl (by kernel_rfl) (by kernel_rfl) (by kernel_rfl) (fun _ _ _ h => h) (by rfl) ?hy150 hHeld ?_
                         case hy150 =>
                           intro W hW
                           try dsimp only at hW
                           go_simp
                           try with_reducible rfl)
                      | (refine wpAnyH_takeN (i := 22) rfl (by kernel_rfl) (by kernel_rfl) (by kernel_rfl) (fun _ _ _ h => h) (by rfl) hHeld ?_)
                    try simp only [Act.put, List.setIfInBounds_toArray, List.set_cons_zero, List.set_cons_succ]
                    first
                      | (refine wpAnyH_takeB (i := 23) (v := ?v151) rfl (by kernel_rfl) (by kernel_rfl) (by kernel_rfl) (fun _ _ _ h => h) (by rfl) ?hy151 hHeld ?_
                         case hy151 =>
                           intro W hW
                           try dsimp only at hW
                           go_simp
                           try with_reducible rfl)
                      | (refine wpAnyH_takeN (i := 23) rfl (by kernel_rfl) (by kernel_rfl) (by kernel_rfl) (fun _ _ _ h => h) (by rfl) hHeld ?_)
                    try simp only [Act.put, List.setIfInBounds_toArray, List.set_cons_zero, List.set_cons_succ]
                    first
                      | (refine wpAnyH_takeB (i := 24) (v := ?v152) rfl (by kernel_rfl) (by kernel_rfl) (by kernel_rfl) (fun _ _ _ h => h) (by rfl) ?hy152 hHeld ?_
                         case hy152 =>
                           intro W hW
                           try dsimp only at hW
                           go_simp
                           try with_reducible rfl)
                      | (refine wpAnyH_takeN (i := 24) rfl (by kernel_rfl) (by kernel_rfl) (by kernel_rfl) (fun _ _ _ h => h) (by rfl) hHeld ?_)
                    try simp only [Act.put, List.setIfInBounds_toArray, List.set_cons_zero, List.set_cons_succ]
                    first
                      | (refine wpAnyH_takeB (i := 25) (v := ?v153) rfl (by kernel_rfl) (by kernel_rfl) (by kernel_rfl) (fun _ _ _ h => h) (by rfl) ?hy153 hHeld ?_
                         case hy153 =>
                           intro W hW
                           try dsimp only at hW
                           go_simp
                           try with_reducible rfl)
                      | (refine wpAnyH_takeN (i := 25) rfl (by kernel_rfl) (by kernel_rfl) (by kernel_rfl) (fun _ _ _ h => h) (by rfl) hHeld ?_)
                    try simp only [Act.put, List.setIfInBounds_toArray, List.set_cons_zero, List.set_cons_succ]
                    first
                      | (refine wpAnyH_takeB (i := 26) (v := ?v154) rfl (by kernel_rfl) (by kernel_rfl) (by kernel_rfl) (fun _ _ _ h => h) (by rfl) ?hy154 hHeld ?_
                         case hy154 =>
                           intro W hW
                           try dsimp only at hW
                           go_simp
                           try with_reducible rfl)
                      | (refine wpAnyH_takeN (i := 26) rfl (by kernel_rfl) (by kernel_rfl) (by kernel_rfl) (fun _ _ _ h => h) (by rfl) hHeld ?_)
                    try simp only [Act.put, List.setIfInBounds_toArray, List.set_cons_zero, List.set_cons_succ]
                    first
                      | (refine wpAnyH_takeB (i := 27) (v := ?v155) rfl (by kernel_rfl) (by kernel_rfl) (by kernel_rfl) (fun _ _ _ h => h) (by rfl) ?hy155 hHeld ?_
                         case hy155 =>
                           intro W hW
                           try dsimp only at hW
                           go_simp
                           try with_reducible rfl)
                      | (refine wpAnyH_takeN (i := 27) rfl (by kernel_rfl) (by kernel_rfl) (by kernel_rfl) (fun _ _ _ h => h) (by rfl) hHeld ?_)
                    try simp only [Act.put, List.setIfInBounds_toArray, List.set_cons_zero, List.set_cons_succ]
                    first
                      | (refine wpAnyH_takeB (i := 28) (v := ?v156) rfl (by kernel_rfl) (by kernel_rfl) (by kernel_rfl) (fun _ _ _ h => h) (by rfl) ?hy156 hHeld ?_
                         case hy156 =>
                           intro W hW
                           try dsimp only at hW
                           go_simp
                           try with_reducible rfl)
                      | (refine wpAnyH_takeN (i := 28) rfl (by kernel_rfl) (by kernel_rfl) (by kernel_rfl) (fun _ _ _ h => h) (by rfl) hHeld ?_)
                    try simp only [Act.put, List.setIfInBounds_toArray, List.set_cons_zero, List.set_cons_succ]
                    first
                      | (refine wpAnyH_takeB (i := 29) (v := ?v157) rfl (by kernel_rfl) (by kernel_rfl) (by kernel_rfl) (fun _ _ _ h => h) (by rfl) ?hy157 hHeld ?_
                         case hy157 =>
                           intro W hW
                           try dsimp only at hW
                           go_simp
                           try with_reducible rfl)
                      | (refine wpAnyH_takeN (i := 29) rfl (by kernel_rfl) (by kernel_rfl) (by kernel_rfl) (fun _ _ _ h => h) (by rfl) hHeld ?_)
                    try simp only [Act.put, List.setIfInBounds_toArray, List.set_cons_zero, List.set_cons_succ]
                    first
                      | (refine wpAnyH_takeB (i := 30) (v := ?v158) rfl (by kernel_rfl) (by kernel_rfl) (by kernel_rfl) (fun _ _ _ h => h) (by rfl) ?hy158 hHeld ?_
                         case hy158 =>
                           intro W hW
                           try dsimp only at hW
                           go_simp
                           try with_reducible rfl)
                      | (refine wpAnyH_takeN (i := 30) rfl (by kernel_rfl) (by kernel_rfl) (by kernel_rfl) (fun _ _ _ h => h) (by rfl) hHeld ?_)
                    try simp only [Act.put, List.setIfInBounds_toArray, List.set_cons_zero, List.set_cons_succ]
                    first
                      | (refine wpAnyH_takeB (i := 31) (v := ?v159) rfl (by kernel_rfl) (by kernel_rfl) (by kernel_rfl) (fun _ _ _ h => h) (by rfl) ?hy159 hHeld ?_
                         case hy159 =>
                           intro W hW
                           try dsimp only at hW
                           go_simp
                           try with_reducible rfl)
                      | (refine wpAnyH_takeN (i := 31) rfl (by kernel_rfl) (by kernel_rfl) (by kernel_rfl) (fun _ _ _ h => h) (by rfl) hHeld ?_)
                    try simp only [Act.put, List.setIfInBounds_toArray, List.set_cons_zero, List.set_cons_succ]
                    first
                      | (refine wpAnyH_takeB (i := 32) (v := ?v160) rfl (by kernel_rfl) (by kernel_rfl) (by kernel_rfl) (fun _ _ _ h => h) (by rfl) ?hy160 hHeld ?_
                         case hy160 =>
                           intro W hW
                           try dsimp only at hW
                           go_simp
                           try with_reducible rfl)
                      | (refine wpAnyH_takeN (i := 32) rfl (by kernel_rfl) (by kernel_rfl) (by kernel_rfl) (fun _ _ _ h => h) (by rfl) hHeld ?_)
                    try simp only [Act.put, List.setIfInBounds_toArray, List.set_cons_zero, List.set_cons_succ]
                    first
                      | (refine wpAnyH_takeB (i := 33) (v := ?v161) rfl (by kernel_rfl) (by kernel_rfl) (by kernel_rfl) (fun _ _ _ h => h) (by rfl) ?hy161 hHeld ?_
                         case hy161 =>
                           intro W hW
                           try dsimp only at hW
                           go_simp
                           try with_reducible rfl)
                      | (refine wpAnyH_takeN (i := 33) rfl (by kernel_rfl) (by kernel_rfl) (by kernel_rfl) (fun _ _ _ h => h) (by rfl) hHeld ?_)
                    try simp only [Act.put, List.setIfInBounds_toArray, List.set_cons_zero, List.set_cons_succ]
                    first
                      | (refine wpAnyH_takeB (i := 34) (v := ?v162) rfl (by kernel_rfl) (by kernel_rfl) (by kernel_rfl) (fun _ _ _ h => h) (by rfl) ?hy162 hHeld ?_
                         case hy162 =>
                           intro W hW
                           try dsimp only at hW
                           go_simp
                           try with_reducible rfl)
                      | (refine wpAnyH_takeN (i := 34) rfl (by kernel_rfl) (by kernel_rfl) (by kernel_rfl) (fun _ _ _ h => h) (by rfl) hHeld ?_)
                    try simp only [Act.put, List.setIfInBounds_toArray, List.set_cons_zero, List.set_cons_succ]
                    first
                      | (refine wpAnyH_takeB (i := 35) (v := ?v163) rfl (by kernel_rfl) (by kernel_rfl) (by kernel_rfl) (fun _ _ _ h => h) (by rfl) ?hy163 hHeld ?_
                         case hy163 =>
                           intro W hW
                           try dsimp only at hW
                           go_simp
                           try with_reducible rfl)
                      | (refine wpAnyH_takeN (i := 35) rfl (by kernel_rfl) (by kernel_rfl) (by kernel_rfl) (fun _ _ _ h => h) (by rfl) hHeld ?_)
                    try simp only [Act.put, List.setIfInBounds_toArray, List.set_cons_zero, List.set_cons_succ]
                    first
                      | (refine wpAnyH_takeB (i := 36) (v := ?v164) rfl (by kernel_rfl) (by kernel_rfl) (by kernel_rfl) (fun _ _ _ h => h) (by rfl) ?hy164 hHeld ?_
                         case hy164 =>
                           intro W hW
                           try dsimp only at hW
                           go_simp
                           try with_reducible rfl)
                      | (refine wpAnyH_takeN (i := 36) rfl (by kernel_rfl) (by kernel_rfl) (by kernel_rfl) (fun _ _ _ h => h) (by rfl) hHeld ?_)
                    try simp only [Act.put, List.setIfInBounds_toArray, List.set_cons_zero, List.set_cons_succ]
                    first
                      | (refine wpAnyH_takeB (i := 37) (v := ?v165) rfl (by kernel_rfl) (by kernel_rfl) (by kernel_rfl) (fun _ _ _ h => h) (by rfl) ?hy165 hHeld ?_
                         case hy165 =>
                           intro W hW
                           try dsimp only at hW
                           go_simp
                           try with_reducible rfl)
                      | (refine wpAnyH_takeN (i := 37) rfl (by kernel_rfl) (by kernel_rfl) (by kernel_rfl) (fun _ _ _ h => h) (by rfl) hHeld ?_)
                    try simp only [Act.put, List.setIfInBounds_toArray, List.set_cons_zero, List.set_cons_succ]
                    first
                      | (refine wpAnyH_takeB (i := 38) (v := ?v166) rfl (by kernel_rfl) (by kernel_rfl) (by kernel_rfl) (fun _ _ _ h => h) (by rfl) ?hy166 hHeld ?_
                         case hy166 =>
                           intro W hW
                           try dsimp only at hW
                           go_simp
                           try with_reducible rfl)
                      | (refine wpAnyH_takeN (i := 38) rfl (by kernel_rfl) (by kernel_rfl) (by kernel_rfl) (fun _ _ _ h => h) (by rfl) hHeld ?_)
                    try simp only [Act.put, List.setIfInBounds_toArray, List.set_cons_zero, List.set_cons_succ]
                    first
                      | (refine wpAnyH_takeB (i := 39) (v := ?v167) rfl (by kernel_rfl) (by kernel_rfl) (by kernel_rfl) (fun _ _ _ h => h) (by rfl) ?hy167 hHeld ?_
                         case hy167 =>
                           intro W hW
                           try dsimp only at hW
                           go_simp
                           try with_reducible rfl)
                      | (refine wpAnyH_takeN (i := 39) rfl (by kernel_rfl) (by kernel_rfl) (by kernel_rfl) (fun _ _ _ h => h) (by rfl) hHeld ?_)
                    try simp only [Act.put, List.setIfInBounds_toArray, List.set_cons_zero, List.set_cons_succ]
                    first
                      | (refine wpAnyH_takeB (i := 40) (v := ?v168) rfl (by kernel_rfl) (by kernel_rfl) (by kernel_rfl) (fun _ _ _ h => h) (by rfl) ?hy168 hHeld ?_
                         case hy168 =>
                           intro W hW
                           try dsimp only at hW
                           go_simp
                           try with_reducible rfl)
                      | (refine wpAnyH_takeN (i := 40) rfl (by kernel_rfl) (by kernel_rfl) (by kernel_rfl) (fun _ _ _ h => h) (by rfl) hHeld ?_)
                    try simp only [Act.put, List.setIfInBounds_toArray, List.set_cons_zero, List.set_cons_succ]
                    first
                      | (refine wpAnyH_takeB (i := 41) (v := ?v169) rfl (by kernel_rfl) (by kernel_rfl) (by kernel_rfl) (fun _ _ _ h => h) (by rfl) ?hy169 hHeld ?_
                         case hy169 =>
                           intro W hW
                           try dsimp only at hW
                           go_simp
                           try with_reducible rfl)
                      | (refine wpAnyH_takeN (i := 41) rfl (by kernel_rfl) (by kernel_rfl) (by kernel_rfl) (fun _ _ _ h => h) (by rfl) hHeld ?_)
                    try simp only [Act.put, List.setIfInBounds_toArray, List.set_cons_zero, List.set_cons_succ]
                    first
                      | (refine wpAnyH_takeB (i := 42) (v := ?v170) rfl (by kernel_rfl) (by kernel_rfl) (by kernel_rfl) (fun _ _ _ h => h) (by rfl) ?hy170 hHeld ?_
                         case hy170 =>
                           intro W hW
                           try dsimp only at hW
                           go_simp
                           try with_reducible rfl)
                      | (refine wpAnyH_takeN (i := 42) rfl (by kernel_rfl) (by kernel_rfl) (by kernel_rfl) (fun _ _ _ h => h) (by rfl) hHeld ?_)
                    try simp only [Act.put, List.setIfInBounds_toArray, List.set_cons_zero, List.set_cons_succ]
                    first
                      | (refine wpAnyH_takeB (i := 43) (v := ?v171) rfl (by kernel_rfl) (by kernel_rfl) (by kernel_rfl) (fun _ _ _ h => h) (by rfl) ?hy171 hHeld ?_
                         case hy171 =>
                           intro W hW
                           try dsimp only at hW
                           go_simp
                           try with_reducible rfl)
                      | (refine wpAnyH_takeN (i := 43) rfl (by kernel_rfl) (by kernel_rfl) (by kernel_rfl) (fun _ _ _ h => h) (by rfl) hHeld ?_)
                    try simp only [Act.put, List.setIfInBounds_toArray, List.set_cons_zero, List.set_cons_succ]
                    first
                      | (refine wpAnyH_takeB (i := 44) (v := ?v172) rfl (by kernel_rfl) (by kernel_rfl) (by kernel_rfl) (fun _ _ _ h => h) (by rfl) ?hy172 hHeld ?_
                         case hy172 =>
                           intro W hW
                           try dsimp only at hW
                           go_simp
                           try with_reducible rfl)
                      | (refine wpAnyH_takeN (i := 44) rfl (by kernel_rfl) (by kernel_rfl) (by kernel_rfl) (fun _ _ _ h => h) (by rfl) hHeld ?_)
                    try simp only [Act.put, List.setIfInBounds_toArray, List.set_cons_zero, List.set_cons_succ]
                    first
                      | (refine wpAnyH_takeB (i := 45) (v := ?v173) rfl (by kernel_rfl) (by kernel_rfl) (by kernel_rfl) (fun _ _ _ h => h) (by rfl) ?hy173 hHeld ?_
                         case hy173 =>
                           intro W hW
                           try dsimp only at hW
                           go_simp
                           try with_reducible rfl)
                      | (refine wpAnyH_takeN (i := 45) rfl (by kernel_rfl) (by kernel_rfl) (by kernel_rfl) (fun _ _ _ h => h) (by rfl) hHeld ?_)
                    try simp only [Act.put, List.setIfInBounds_toArray, List.set_cons_zero, List.set_cons_succ]
                    first
                      | (refine wpAnyH_takeB (i := 46) (v := ?v174) rfl (by kernel_rfl) (by kernel_rfl) (by kernel_rfl) (fun _ _ _ h => h) (by rfl) ?hy174 hHeld ?_
                         case hy174 =>
                           intro W hW
                           try dsimp only at hW
                           go_simp
                           try with_reducible rfl)
                      | (refine wpAnyH_takeN (i := 46) rfl (by kernel_rfl) (by kernel_rfl) (by kernel_rfl) (fun _ _ _ h => h) (by rfl) hHeld ?_)
                    try simp only [Act.put, List.setIfInBounds_toArray, List.set_cons_zero, List.set_cons_succ]
                    first
                      | (refine wpAnyH_takeB (i := 47) (v := ?v175) rfl (by kernel_rfl) (by kernel_rfl) (by kernel_rfl) (fun _ _ _ h => h) (by rfl) ?hy175 hHeld ?_
                         case hy175 =>
                           intro W hW
                           try dsimp only at hW
                           go_simp
                           try with_reducible rfl)
                      | (refine wpAnyH_takeN (i := 47) rfl (by kernel_rfl) (by kernel_rfl) (by kernel_rfl) (fun _ _ _ h => h) (by rfl) hHeld ?_)
                    try simp only [Act.put, List.setIfInBounds_toArray, List.set_cons_zero, List.set_cons_succ]
                    first
                      | (refine wpAnyH_takeB (i := 48) (v := ?v176) rfl (by kernel_rfl) (by kernel_rfl) (by kernel_rfl) (fun _ _ _ h => h) (by rfl) ?hy176 hHeld ?_
                         case hy176 =>
                           intro W hW
                           try dsimp only at hW
                           go_simp
                           try with_reducible rfl)
                      | (refine wpAnyH_takeN (i := 48) rfl (by kernel_rfl) (by kernel_rfl) (by kernel_rfl) (fun _ _ _ h => h) (by rfl) hHeld ?_)
                    try simp only [Act.put, List.setIfInBounds_toArray, List.set_cons_zero, List.set_cons_succ]
                    first
                      | (refine wpAnyH_takeB (i := 49) (v := ?v177) rfl (by kernel_rfl) (by kernel_rfl) (by kernel_rfl) (fun _ _ _ h => h) (by rfl) ?hy177 hHeld ?_
                         case hy177 =>
                           intro W hW
                           try dsimp only at hW
                           go_simp
                           try with_reducible rfl)
                      | (refine wpAnyH_takeN (i := 49) rfl (by kernel_rfl) (by kernel_rfl) (by kernel_rfl) (fun _ _ _ h => h) (by rfl) hHeld ?_)
                    try simp only [Act.put, List.setIfInBounds_toArray, List.set_cons_zero, List.set_cons_succ]
                    first
                      | (refine wpAnyH_takeB (i := 50) (v := ?v178) rfl (by kernel_rfl) (by kernel_rfl) (by kernel_rfl) (fun _ _ _ h => h) (by rfl) ?hy178 hHeld ?_
                         case hy178 =>
                           intro W hW
                           try dsimp only at hW
                           go_simp
                           try with_reducible rfl)
                      | (refine wpAnyH_takeN (i := 50) rfl (by kernel_rfl) (by kernel_rfl) (by kernel_rfl) (fun _ _ _ h => h) (by rfl) hHeld ?_)
                    try simp only [Act.put, List.setIfInBounds_toArray, List.set_cons_zero, List.set_cons_succ]
                    first
                      | (refine wpAnyH_takeB (i := 51) (v := ?v179) rfl (by kernel_rfl) (by kernel_rfl) (by kernel_rfl) (fun _ _ _ h => h) (by rfl) ?hy179 hHeld ?_
                         case hy179 =>
                           intro W hW
                           try dsimp only at hW
                           go_simp
                           try with_reducible rfl)
                      | (refine wpAnyH_takeN (i := 51) rfl (by kernel_rfl) (by kernel_rfl) (by kernel_rfl) (fun _ _ _ h => h) (by rfl) hHeld ?_)
                    try simp only [Act.put, List.setIfInBounds_toArray, List.set_cons_zero, List.set_cons_succ]
                    first
                      | (refine wpAnyH_takeB (i := 52) (v := ?v180) rfl (by kernel_rfl) (by kernel_rfl) (by kernel_rfl) (fun _ _ _ h => h) (by rfl) ?hy180 hHeld ?_
                         case hy180 =>
                           intro W hW
                           try dsimp only at hW
                           go_simp
                           try with_reducible rfl)
                      | (refine wpAnyH_takeN (i := 52) rfl (by kernel_rfl) (by kernel_rfl) (by kernel_rfl) (fun _ _ _ h => h) (by rfl) hHeld ?_)
                    try simp only [Act.put, List.setIfInBounds_toArray, List.set_cons_zero, List.set_cons_succ]
                    first
                      | (refine wpAnyH_takeB (i := 53) (v := ?v181) rfl (by kernel_rfl) (by kernel_rfl) (by kernel_rfl) (fun _ _ _ h => h) (by rfl) ?hy181 hHeld ?_
                         case hy181 =>
                           intro W hW
                           try dsimp only at hW
                           go_simp
                           try with_reducible rfl)
                      | (refine wpAnyH_takeN (i := 53) rfl (by kernel_rfl) (by kernel_rfl) (by kernel_rfl) (fun _ _ _ h => h) (by rfl) hHeld ?_)
                    try simp only [Act.put, List.setIfInBounds_toArray, List.set_cons_zero, List.set_cons_succ]
                    first
                      | (refine wpAnyH_takeB (i := 54) (v := ?v182) rfl (by kernel_rfl) (by kernel_rfl) (by kernel_rfl) (fun _ _ _ h => h) (by rfl) ?hy182 hHeld ?_
                         case hy182 =>
                           intro W hW
                           try dsimp only at hW
                           go_simp
                           try with_reducible rfl)
                      | (refine wpAnyH_takeN (i := 54) rfl (by kernel_rfl) (by kernel_rfl) (by kernel_rfl) (fun _ _ _ h => h) (by rfl) hHeld ?_)
                    try simp only [Act.put, List.setIfInBounds_toArray, List.set_cons_zero, List.set_cons_succ]
                    first
                      | (refine wpAnyH_takeB (i := 55) (v := ?v183) rfl (by kernel_rfl) (by kernel_rfl) (by kernel_rfl) (fun _ _ _ h => h) (by rfl) ?hy183 hHeld ?_
                         case hy183 =>
                           intro W hW
                           try dsimp only at hW
                           go_simp
                           try with_reducible rfl)
                      | (refine wpAnyH_takeN (i := 55) rfl (by kernel_rfl) (by kernel_rfl) (by kernel_rfl) (fun _ _ _ h => h) (by rfl) hHeld ?_)
                    try simp only [Act.put, List.setIfInBounds_toArray, List.set_cons_zero, List.set_cons_succ]
                    first
                      | (refine wpAnyH_takeB (i := 56) (v := ?v184) rfl (by kernel_rfl) (by kernel_rfl) (by kernel_rfl) (fun _ _ _ h => h) (by rfl) ?hy184 hHeld ?_
                         case hy184 =>
                           intro W hW
                           try dsimp only at hW
                           go_simp
                           try with_reducible rfl)
                      | (refine wpAnyH_takeN (i := 56) rfl (by kernel_rfl) (by kernel_rfl) (by kernel_rfl) (fun _ _ _ h => h) (by rfl) hHeld ?_)
                    try simp only [Act.put, List.setIfInBounds_toArray, List.set_cons_zero, List.set_cons_succ]
                    first
                      | (refine wpAnyH_takeB (i := 57) (v := ?v185) rfl (by kernel_rfl) (by kernel_rfl) (by kernel_rfl) (fun _ _ _ h => h) (by rfl) ?hy185 hHeld ?_
                         case hy185 =>
                           intro W hW
                           try dsimp only at hW
                           go_simp
                           try with_reducible rfl)
                      | (refine wpAnyH_takeN (i := 57) rfl (by kernel_rfl) (by kernel_rfl) (by kernel_rfl) (fun _ _ _ h => h) (by rfl) hHeld ?_)
                    try simp only [Act.put, List.setIfInBounds_toArray, List.set_cons_zero, List.set_cons_succ]
                    first
                      | (refine wpAnyH_takeB (i := 58) (v := ?v186) rfl (by kernel_rfl) (by kernel_rfl) (by kernel_rfl) (fun _ _ _ h => h) (by rfl) ?hy186 hHeld ?_
                         case hy186 =>
                           intro W hW
                           try dsimp only at hW
                           go_simp
                           try with_reducible rfl)
                      | (refine wpAnyH_takeN (i := 58) rfl (by kernel_rfl) (by kernel_rfl) (by kernel_rfl) (fun _ _ _ h => h) (by rfl) hHeld ?_)
                    try simp only [Act.put, List.setIfInBounds_toArray, List.set_cons_zero, List.set_cons_succ]
                    first
                      | (refine wpAnyH_takeB (i := 59) (v := ?v187) rfl (by kernel_rfl) (by kernel_rfl) (by kernel_rfl) (fun _ _ _ h => h) (by rfl) ?hy187 hHeld ?_
                         case hy187 =>
                           intro W hW
                           try dsimp only at hW
                           go_simp
                           try with_reducible rfl)
                      | (refine wpAnyH_takeN (i := 59) rfl (by kernel_rfl) (by kernel_rfl) (by kernel_rfl) (fun _ _ _ h => h) (by rfl) hHeld ?_)
                    try simp only [Act.put, List.setIfInBounds_toArray, List.set_cons_zero, List.set_cons_succ]
                    first
                      | (refine wpAnyH_takeB (i := 60) (v := ?v188) rfl (by kernel_rfl) (by kernel_rfl) (by kernel_rfl) (fun _ _ _ h => h) (by rfl) ?hy188 hHeld ?_
                         case hy188 =>
                           intro W hW
                           try dsimp only at hW
                           go_simp
                           try with_reducible rfl)
                      | (refine wpAnyH_takeN (i := 60) rfl (by kernel_rfl) (by kernel_rfl) (by kernel_rfl) (fun _ _ _ h => h) (by rfl) hHeld ?_)
                    try simp only [Act.put, List.setIfInBounds_toArray, List.set_cons_zero, List.set_cons_succ]
                    first
                      | (refine wpAnyH_takeB (i := 61) (v := ?v189) rfl (by kernel_rfl) (by kernel_rfl) (by kernel_rfl) (fun _ _ _ h => h) (by rfl) ?hy189 hHeld ?_
                         case hy189 =>
                           intro W hW
                           try dsimp only at hW
                           go_simp
                           try with_reducible rfl)
                      | (refine wpAnyH_takeN (i := 61) rfl (by kernel_rfl) (by kernel_rfl) (by kernel_rfl) (fun _ _ _ h => h) (by rfl) hHeld ?_)
                    try simp only [Act.put, List.setIfInBounds_toArray, List.set_cons_zero, List.set_cons_succ]
                    refine wpAnyH_done (by kernel_rfl) ?_ _
                    have HR4 : Hid (RQ (w4.drewN nn) p ((ds, dt) :: l) F) := (HR2.out.drew.later HB3.out).later ⟨rfl, rfl, rfl, Nat.le_refl _, fun _ _ => rfl⟩
                    have HQ4 : Hid (QB w (w4.drewN nn) q F ((ds, dt) :: l)) := HQ3.out.later ⟨rfl, rfl, rfl, Nat.le_refl _, fun _ _ => rfl⟩
                    clear hHeld
                    generalize w4.drewN nn = w5 at *
                    go_wp2_with fail
                    exact ⟨⟨k + 1, by omega, by go_num, ⟨F, _, HLk.out, HQ4.out, HR4.out⟩⟩, by simp [intOf]; omega⟩
          · have hke : k = xs.length := by omega
            subst hke
            obtain ⟨F, L, hL, hq, hr⟩ := HBk.out.ex
            have HQ := Lib.hid hq
            clear hq hr
            go_wp2_with fail
            refine (live_any _).mono ?_
            rintro e w9 ⟨rfl, hb⟩
            have HB := Lib.hid hb
            clear hb
            go_wp2_with fail
            go_ret
            exact ⟨rfl, HQ.out.below.trans (HB.out.mono HQ.out.below.size)⟩
end Go.Proofs.Ytannmemocaibiaa
