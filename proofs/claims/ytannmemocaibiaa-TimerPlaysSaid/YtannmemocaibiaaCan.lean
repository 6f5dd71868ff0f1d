/-
  The walks of New, Len, Next, At, Jitter.
-/
import Derived.Test.YtannmemocaibiaaQue
import Derived.Test.YtannmemocaibiaaOrd
namespace Go.Proofs.Ytannmemocaibiaa
open Go.RowKit

set_option maxRecDepth 100000 in
set_option maxHeartbeats 1000000 in
theorem new_any (w : World) : Calls Try.prog 10 #[] w fun e w' => e = .returned (.pointer (some ⟨w.heap.size + 1, 0, none⟩)) ∧
    w' = (w.alloc (.map #[] 0)).alloc (.cells #[.slice none 0 0, .map (some w.heap.size)] 63) := by
  have hmm := @run_makeMap Try.prog
  go_enter Try.func10, Try.ntmps10
  go_wp2
  go_ret
  exact ⟨rfl, rfl⟩

set_option maxRecDepth 100000 in
set_option maxHeartbeats 1000000 in
theorem qlen_nil (w : World) : Calls Try.prog 13 #[.pointer none] w fun e w' => e = .returned (.int .i64 0) ∧ w = w' := by
  go_enter Try.func13, Try.ntmps13
  go_wp2
  go_ret
  exact ⟨rfl, rfl⟩

set_option maxRecDepth 100000 in
set_option maxHeartbeats 1000000 in
theorem qlen_any (q m : Nat) (sv : Value) (rows : List Row) (w : World) (h : HeapAt w q m sv rows) : Calls Try.prog 13 #[.pointer (some ⟨q, 0, none⟩)] w fun e w' => e = .returned (.int .i64 rows.length) ∧ w = w' := by
  obtain ⟨A, c, rfl⟩ := row_slice h.row
  have c0 := h.q.cell 0
  simp only [List.getElem?_toArray, List.getElem?_cons_zero] at c0
  clear h
  go_enter Try.func13, Try.ntmps13
  go_wp2
  go_ret
  exact ⟨rfl, rfl⟩

set_option maxRecDepth 100000 in
set_option maxHeartbeats 1000000 in
theorem next_nil (w : World) : Calls Try.prog 25 #[.pointer none] w fun e w' => e = .returned (.tuple #[.agg #[.string ⟨#[]⟩, .int .i64 0], .bool false]) ∧ Below w.heap.size w w' := by
  go_enter Try.func25, Try.ntmps25
  go_wp2_with fail
  refine (qlen_nil _).mono ?_
  rintro e w' ⟨rfl, rfl⟩
  go_wp2_with fail
  exact bodyPost_ret (v := .tuple #[.agg #[.string ⟨#[]⟩, .int .i64 0], .bool false]) (by simp [results, Try.results25, go_sem]) rfl ⟨rfl, (Below.refl _ _).alloc (Nat.le_refl _) _⟩

set_option maxRecDepth 100000 in
set_option maxHeartbeats 1000000 in
theorem next_empty (q m : Nat) (sv : Value) (w : World) (h : HeapAt w q m sv []) : Calls Try.prog 25 #[.pointer (some ⟨q, 0, none⟩)] w fun e w' => e = .returned (.tuple #[.agg #[.string ⟨#[]⟩, .int .i64 0], .bool false]) ∧ Below w.heap.size w w' := by
  have H := Lib.hid h
  clear h
  go_enter Try.func25, Try.ntmps25
  go_wp2_with fail
  refine (qlen_any q m sv [] _ (H.out.below ((Below.refl _ _).alloc (Nat.le_refl _) _))).mono ?_
  rintro e w' ⟨rfl, rfl⟩
  go_wp2_with fail
  exact bodyPost_ret (v := .tuple #[.agg #[.string ⟨#[]⟩, .int .i64 0], .bool false]) (by simp [results, Try.results25, go_sem]) rfl ⟨rfl, (Below.refl _ _).alloc (Nat.le_refl _) _⟩

set_option maxRecDepth 100000 in
set_option maxHeartbeats 1000000 in
theorem next_some (q m : Nat) (sv : Value) (rows : List Row) (w : World) (h : HeapAt w q m sv rows) (hr : 0 < rows.length) (hn : rows.length ≤ 1000000) : Calls Try.prog 25 #[.pointer (some ⟨q, 0, none⟩)] w fun e w' =>
    e = .returned (.tuple #[.agg #[.string (gt rows 0).1, .int .i64 (gt rows 0).2], .bool true]) ∧ Below w.heap.size w w' := by
  obtain ⟨B, cap, cur, rfl, hB, hc, hm, hs, ht⟩ := row_form h.row hr
  have H := Lib.hid h
  have hbe : ((rows.length : Int) == 0) = false := by rw [beq_eq_false_iff_ne]; omega
  have hb1 : Below w.heap.size w (w.alloc (.cells #[.string ⟨#[]⟩, .int .i64 0] 40)) := (Below.refl _ _).alloc (Nat.le_refl _) _
  have h1 := h.below hb1
  have bi := (h.ones.at_ hr).below' hb1
  have c0 := h1.q.cell 0
  have c1 := ((hB.below' hb1).cell 0).trans (cur_get ht hr)
  have c2 := bi.cell 0
  have c3 := bi.cell 1
  have f1 : (rows.getD 0 default).name = (gt rows 0).1 := rfl
  have f2 : (rows.getD 0 default).tm = (gt rows 0).2 := rfl
  rw [f1] at c2
  rw [f2] at c3
  generalize (gt rows 0).1 = s at *
  generalize (gt rows 0).2 = x at *
  generalize (rows.getD 0 default).p = p at *
  simp only [List.getElem?_toArray, List.getElem?_cons_succ, List.getElem?_cons_zero] at c0 c1 c2 c3
  have Ht := Lib.hid ht
  have Hs := Lib.hid hs
  have HB := Lib.hid hB
  have Hm := Lib.hid hm
  have H1 := Lib.hid h1
  have Hb1 := Lib.hid hb1
  clear ht hs hB hm bi h h1 f1 f2 hb1
  go_enter Try.func25, Try.ntmps25
  go_wp2_with fail
  refine (qlen_any q m _ rows _ H1.out).mono ?_
  rintro e w' ⟨rfl, rfl⟩
  go_wp2_with fail
  exact bodyPost_ret (v := .tuple #[.agg #[.string s, .int .i64 x], .bool true]) (by simp [results, Try.results25, go_sem]) rfl ⟨rfl, (Below.refl _ _).alloc (Nat.le_refl _) _⟩

/-! ### Cancel -/
def idx (rows : List Row) (s : ByteArray) : Option Nat := rows.findIdx? (fun r => r.name == s)
def cancel1 (x : List Row × Nat) (s : ByteArray) : List Row × Nat :=
  match idx x.1 s with
  | some i => (removeL x.1 i, x.2 + 1)
  | none => x
def cancelL (rows : List Row) (ns : List ByteArray) : List Row × Nat := ns.foldl cancel1 (rows, 0)

theorem idx_some {rows : List Row} {s : ByteArray} {i : Nat} (h : idx rows s = some i) : ∃ r, rows[i]? = some r ∧ r.name = s := by
  obtain ⟨hi, h2, _⟩ := List.findIdx?_eq_some_iff_getElem.1 h
  exact ⟨rows[i], List.getElem?_eq_getElem hi, by simpa using h2⟩
theorem idx_none {rows : List Row} {s : ByteArray} (h : idx rows s = none) : ∀ r ∈ rows, r.name ≠ s := by
  intro r hr e
  have := List.findIdx?_eq_none_iff.1 h r hr
  simp [e] at this

theorem QRep.look_idx {w : World} {q m : Nat} {sv : Value} {f : List (ByteArray × Value)} {rows : List Row} (h : QRep w q m sv f rows) (s : ByteArray) :
    (idx rows s = none → slook f s = none) ∧ (∀ i r, idx rows s = some i → rows[i]? = some r → slook f s = some (rptr r)) := by
  constructor
  · intro hi
    cases hs : slook f s with
    | none => rfl
    | some v =>
      obtain ⟨r, hr, hn, _⟩ := (h.look s v).1 hs
      exact absurd hn (idx_none hi r hr)
  · intro i r hi hr
    obtain ⟨r', hr', hn⟩ := idx_some hi
    rw [hr] at hr'
    injection hr' with hr'
    subst hr'
    exact (h.look s _).2 ⟨r, List.mem_iff_getElem?.2 ⟨i, hr⟩, hn, rfl⟩

theorem sdel_look (f : List (ByteArray × Value)) (s t : ByteArray) : slook (sdel f s) t = if t = s then none else slook f t := by
  unfold slook sdel
  rw [List.find?_filter]
  by_cases ht : t = s
  · subst ht
    rw [if_pos rfl]
    have : f.find? (fun a => decide ((!(t == a.1)) = true ∧ (t == a.1) = true)) = none := by
      rw [List.find?_eq_none]; intro x _; cases t == x.1 <;> simp
    rw [this]; rfl
  · rw [if_neg ht]
    congr 1
    refine congrArg (fun p => List.find? p f) (funext fun x => ?_)
    cases hx : t == x.1 with
    | false => simp
    | true =>
      have : t = x.1 := by simpa using hx
      have hs : (s == x.1) = false := by rw [← this]; simpa using Ne.symm ht
      simp [hs]

theorem QRep.nodup {w : World} {q m : Nat} {sv : Value} {f : List (ByteArray × Value)} {rows : List Row} (h : QRep w q m sv f rows) : (rows.map (·.name)).Nodup := by
  unfold List.Nodup
  rw [List.pairwise_map, List.pairwise_iff_getElem]
  intro i j hi hj hij e
  have := h.names (List.getElem?_eq_getElem hi) (List.getElem?_eq_getElem hj) e
  omega
theorem removeL_nodup {rows : List Row} (h : (rows.map (·.name)).Nodup) {i : Nat} {r : Row} (hr : rows[i]? = some r) : ((removeL rows i).map (·.name)).Nodup ∧ ∀ r' ∈ removeL rows i, r'.name ≠ r.name := by
  have hp := (removeL_perm rows i hr).map (·.name)
  rw [hp.nodup_iff, List.map_append, List.nodup_append] at h
  exact ⟨h.1, fun r' hr' => h.2.2 _ (List.mem_map.2 ⟨r', hr', rfl⟩) _ (by simp)⟩
theorem removeL_mem {rows : List Row} (h : (rows.map (·.name)).Nodup) {i : Nat} {r : Row} (hr : rows[i]? = some r) (r' : Row) : r' ∈ removeL rows i ↔ r' ∈ rows ∧ r'.name ≠ r.name := by
  have hp := removeL_perm rows i hr
  constructor
  · intro hm
    exact ⟨hp.mem_iff.2 (List.mem_append_left _ hm), (removeL_nodup h hr).2 r' hm⟩
  · rintro ⟨hm, hne⟩
    rcases List.mem_append.1 (hp.mem_iff.1 hm) with h1 | h1
    · exact h1
    · simp only [List.mem_singleton] at h1; subst h1; exact absurd rfl hne

theorem cancel1_le (x : List Row × Nat) (s : ByteArray) : (cancel1 x s).1.length ≤ x.1.length := by
  unfold cancel1
  split
  · rw [removeL_length]; omega
  · exact Nat.le_refl _
theorem cancel1_cnt (x : List Row × Nat) (s : ByteArray) : (cancel1 x s).2 ≤ x.2 + 1 := by
  unfold cancel1
  split <;> simp
theorem cancelL_snoc (rows : List Row) (ns : List ByteArray) (s : ByteArray) : cancelL rows (ns ++ [s]) = cancel1 (cancelL rows ns) s := by
  unfold cancelL; rw [List.foldl_append]; rfl
theorem cancelL_cnt (rows : List Row) : ∀ ns : List ByteArray, (cancelL rows ns).2 ≤ ns.length := by
  intro ns
  have key : ∀ (ns : List ByteArray) (x : List Row × Nat), (ns.foldl cancel1 x).2 ≤ x.2 + ns.length := by
    intro ns
    induction ns with
    | nil => intro x; simp
    | cons s ns ih =>
      intro x
      rw [List.foldl_cons]
      have := ih (cancel1 x s)
      have h2 := cancel1_cnt x s
      simp only [List.length_cons]; omega
  have := key ns (rows, 0)
  simpa [cancelL] using this
theorem cancelL_len (rows : List Row) (ns : List ByteArray) : (cancelL rows ns).1.length ≤ rows.length := by
  have key : ∀ (ns : List ByteArray) (x : List Row × Nat), (ns.foldl cancel1 x).1.length ≤ x.1.length := by
    intro ns
    induction ns with
    | nil => intro x; simp
    | cons s ns ih =>
      intro x
      rw [List.foldl_cons]
      exact Nat.le_trans (ih _) (cancel1_le x s)
  exact key ns (rows, 0)

/-- A slice of names in memory. -/
def Names (w : World) (A : Option Addr) (ns : List ByteArray) (B : Nat) : Prop :=
  0 < ns.length → ∃ g, A = some ⟨g, 0, none⟩ ∧ B = g ∧ ∃ cs, Blk w g 9 cs ∧ ∀ (j : Nat) (s : ByteArray), ns[j]? = some s → cs[j]? = some (Value.string s)

set_option maxRecDepth 100000 in
set_option maxHeartbeats 4000000 in
theorem cancel_any (q m c g : Nat) (A : Option Addr) (ns : List ByteArray) (sv : Value) (f : List (ByteArray × Value)) (rows : List Row) (w : World) (h : QRep w q m sv f rows) (hA : Names w A ns g) (hg : 0 < ns.length → ¬ Qfp q m sv rows g)
    (hn : rows.length ≤ 1000000) (hns : ns.length ≤ 1000000) :
    Calls Try.prog 14 #[.pointer (some ⟨q, 0, none⟩), .slice A ns.length c] w fun e w' => e = .returned (.int .i64 (cancelL rows ns).2) ∧
      ∃ sv' f', QRep w' q m sv' f' (cancelL rows ns).1 ∧ Only (Qfp q m sv rows) w w' ∧ (∀ k, Qfp q m sv' (cancelL rows ns).1 k → Qfp q m sv rows k) := by
  unfold Names at hA
  have H := Lib.hid h
  have HA := Lib.hid hA
  have HG := Lib.hid hg
  clear h hA hg
  go_enter Try.func14, Try.ntmps14
  go_wp2
  go_loopw [4, 13] (fun v4 vi wr => ∃ (k : Nat) (sv' : Value) (f' : List (ByteArray × Value)), k ≤ ns.length ∧ vi = .int .i64 k ∧ v4 = .int .i64 (cancelL rows (ns.take k)).2 ∧ QRep wr q m sv' f' (cancelL rows (ns.take k)).1 ∧ Only (Qfp q m sv rows) w wr ∧ (∀ b, Qfp q m sv' (cancelL rows (ns.take k)).1 b → Qfp q m sv rows b))
    (fun _ vi _ => ns.length - (intOf vi).toNat)
  case atStart => exact ⟨0, sv, f, Nat.zero_le _, rfl, rfl, H.out, Only.refl _ _, fun _ h => h⟩
  case round =>
    obtain ⟨k, sv', f', hk, rfl, rfl, hq, hO, hfp⟩ := hrel
    by_cases hkn : k < ns.length
    · obtain ⟨gg, hAe, hge, cs, hcs, hcv⟩ := HA.out (by omega)
      subst hge
      have hcell := (((hcs.only hO (HG.out (by omega))).cell k)).trans (hcv k ns[k] (List.getElem?_eq_getElem hkn))
      have htake : ns.take (k + 1) = ns.take k ++ [ns[k]] := by rw [List.take_succ_eq_append_getElem hkn]
      have hcnt := cancelL_cnt rows (ns.take k)
      have hlen := cancelL_len rows (ns.take k)
      have hstep := cancelL_snoc rows (ns.take k) ns[k]
      rw [← htake] at hstep
      generalize ns[k] = nm at *
      generalize hX : cancelL rows (ns.take k) = X at *
      have hcnt2 : X.2 ≤ k := by simpa [Nat.min_eq_left hk] using hcnt
      have c1 := hq.heap.q.cell 1
      simp only [List.getElem?_toArray, List.getElem?_cons_succ, List.getElem?_cons_zero] at c1
      have hlk := run_look hq.map nm
      subst hAe
      have Hstep := Lib.hid hstep
      have Htake := Lib.hid htake
      have HX := Lib.hid hX
      have HQ := Lib.hid hq
      have HO := Lib.hid hO
      have HF := Lib.hid hfp
      have Hlen := Lib.hid hlen
      clear hstep htake hX hq hO hfp hcnt hlen hcs hcv
      cases hix : idx X.1 nm with
      | none =>
        have hl0 := (HQ.out.look_idx nm).1 hix
        rw [hl0] at hlk
        simp only [Option.getD_none, Option.isSome_none] at hlk
        have Hix := Lib.hid hix
        clear hl0 hix
        go_wp2_with fail
        refine ⟨⟨k + 1, sv', f', by omega, by go_num, ?_, ?_, HO.out, ?_⟩, by simp [intOf]; omega⟩
        all_goals rw [Hstep.out]
        all_goals simp only [cancel1, Hix.out]
        · exact HQ.out
        · exact HF.out
      | some i =>
        obtain ⟨r, hr, hrn⟩ := idx_some hix
        have hl0 := (HQ.out.look_idx nm).2 i r hix hr
        rw [hl0] at hlk
        simp only [Option.getD_some, Option.isSome_some, rptr] at hlk
        have hb := HQ.out.heap.ones i r hr
        have b2 := hb.cell 2
        simp only [List.getElem?_toArray, List.getElem?_cons_succ, List.getElem?_cons_zero] at b2
        have hil : i < X.1.length := (List.getElem?_eq_some_iff.1 hr).1
        have Hix := Lib.hid hix
        have Hr := Lib.hid hr
        have Hrn := Lib.hid hrn
        clear hl0 hix hr hrn hb
        go_wp2_with fail
        refine region_tail 8 (by kernel_rfl) (by kernel_rfl) ?_
        simp only [List.take_succ_cons, List.take_zero, List.drop_succ_cons, List.drop_zero]
        repeat still_step
        refine wpStill_nil ?_
        go_wp2_with fail
        refine (remove_any q m sv' X.1 i wr.drew (HQ.out.heap.below (Below.refl _ _).drew) hil (Nat.le_trans Hlen.out hn)).mono ?_
        rintro e w1 ⟨v, rfl, sv2, h2, hO2, hat⟩
        have d1 := h2.q.cell 1
        simp only [List.getElem?_toArray, List.getElem?_cons_succ, List.getElem?_cons_zero] at d1
        have hm1 : SMap w1 m f' := (SMap.of_block (w' := wr.drew) HQ.out.map rfl).only hO2 (by
          rintro (e | e)
          · exact HQ.out.m_not e
          · exact HQ.out.m_ne_q e)
        obtain ⟨o, hdel, hsm⟩ := run_delete_string (tys := #[59, 9]) 0 rfl Try.underlying59 Try.underlying9 hm1 HQ.out.uniq nm
        have H2 := Lib.hid h2
        have HO2 := Lib.hid hO2
        have Hat := Lib.hid hat
        have Hsm := Lib.hid hsm
        have HM1 := Lib.hid hm1
        clear h2 hO2 hat hsm hm1 hlk c1 b2
        go_wp2_with fail
        have hmem := fun r' => removeL_mem HQ.out.nodup Hr.out r'
        have hsub : ∀ b, Hfp sv2 (removeL X.1 i) b → Hfp sv' X.1 b := by
          rintro b (e | ⟨r', hr', e⟩)
          · exact .inl (by rw [← Hat.out]; exact e)
          · exact .inr ⟨r', ((hmem r').1 hr').1, e⟩
        refine ⟨⟨k + 1, sv2, sdel f' nm, by omega, by go_num, ?_, ?_, ?_, ?_⟩, by simp [intOf]; omega⟩
        · rw [Hstep.out]; simp only [cancel1, Hix.out]; go_num
        · rw [Hstep.out]; simp only [cancel1, Hix.out]
          refine ⟨H2.out.only (setO_only o) ?_, Hsm.out, sdel_uniq HQ.out.uniq _, fun s v => ?_⟩
          · rintro b (e | e) e'
            · exact HQ.out.m_ne_q (e'.symm.trans e)
            · exact HQ.out.m_not (by rw [← e']; exact hsub b e)
          · rw [sdel_look]
            by_cases hs : s = nm
            · subst hs
              rw [if_pos rfl]
              constructor
              · intro e; cases e
              · rintro ⟨r', hr', e, _⟩
                exact absurd (e.trans Hrn.out.symm) ((hmem r').1 hr').2
            · rw [if_neg hs, HQ.out.look]
              constructor
              · rintro ⟨r', hr', e, e2⟩
                exact ⟨r', (hmem r').2 ⟨hr', fun e3 => hs (e.symm.trans (e3.trans Hrn.out))⟩, e, e2⟩
              · rintro ⟨r', hr', e, e2⟩
                exact ⟨r', ((hmem r').1 hr').1, e, e2⟩
        · refine ((HO.out.drew.trans HO2.out ?_).trans (setO_only o) ?_)
          · rintro b _ (e | e)
            · exact HF.out b (.inr (.inr e))
            · exact .inl e
          · rintro b _ e; exact .inr (.inl e)
        · rw [Hstep.out]; simp only [cancel1, Hix.out]
          rintro b (e | e | e)
          · exact .inl e
          · exact .inr (.inl e)
          · exact HF.out b (.inr (.inr (hsub b e)))
    · have hke : k = ns.length := by omega
      subst hke
      rw [List.take_length] at *
      have HQ := Lib.hid hq
      have HO := Lib.hid hO
      have HF := Lib.hid hfp
      clear hq hO hfp
      go_wp2_with fail
      go_ret
      exact ⟨rfl, sv', f', HQ.out, HO.out, HF.out⟩
end Go.Proofs.Ytannmemocaibiaa
