/-
  A queue as a list in order: what Set, Cancel, At, Next, Pop and Len do to it.
-/
import Derived.Test.YtannmemocaibiaaPop
import Derived.Test.YtannmemocaibiaaJit
namespace Go.Proofs.Ytannmemocaibiaa
open Go.RowKit

abbrev KV := ByteArray × Int
def ltB (a b : KV) : Bool := decide (a.2 < b.2) || (decide (a.2 = b.2) && Op.bytesLess a.1.toList b.1.toList)
theorem ltB_iff (a b : KV) : ltB a b = true ↔ lt2 a b := by
  unfold ltB lt2; simp
def ins (d : KV) : List KV → List KV
  | [] => [d]
  | x :: l => if ltB d x then d :: x :: l else x :: ins d l
def Ord (l : List KV) : Prop := l.Pairwise lt2
def others (l : List KV) (s : ByteArray) : List KV := l.filter (fun x => !(x.1 == s))
def setS (l : List KV) (s : ByteArray) (a : Int) : List KV := ins (s, a) (others l s)

theorem ins_perm (d : KV) : ∀ l : List KV, (ins d l).Perm (d :: l)
  | [] => List.Perm.refl _
  | x :: l => by
    unfold ins
    split
    · exact List.Perm.refl _
    · exact ((ins_perm d l).cons x).trans (List.Perm.swap d x l)
theorem ins_ord {d : KV} : ∀ {l : List KV}, Ord l → (∀ x ∈ l, x.1 ≠ d.1) → Ord (ins d l)
  | [], _, _ => by simp [Ord, ins]
  | x :: l, h, hn => by
    have h' := List.pairwise_cons.1 h
    unfold ins
    split
    · rename_i hl
      have hl := (ltB_iff _ _).1 hl
      exact List.pairwise_cons.2 ⟨fun y hy => by
        rcases List.mem_cons.1 hy with rfl | hy
        · exact hl
        · exact lt2_trans hl (h'.1 y hy), h⟩
    · rename_i hl
      have hx : lt2 x d := by
        by_cases h2 : lt2 x d
        · exact h2
        · have := lt2_total h2 (fun h3 => hl ((ltB_iff _ _).2 h3))
          exact absurd (by rw [this]) (hn x (by simp))
      refine List.pairwise_cons.2 ⟨fun y hy => ?_, ins_ord h'.2 (fun y hy => hn y (by simp [hy]))⟩
      rcases List.mem_cons.1 ((ins_perm d l).mem_iff.1 hy) with rfl | hy
      · exact hx
      · exact h'.1 y hy
theorem ord_eq : ∀ {l l' : List KV}, l.Perm l' → Ord l → Ord l' → l = l'
  | [], l', hp, _, _ => hp.nil_eq
  | x :: l, [], hp, _, _ => absurd hp.length_eq (by simp)
  | x :: l, y :: l', hp, h, h' => by
    have h1 := List.pairwise_cons.1 h
    have h2 := List.pairwise_cons.1 h'
    have hxy : x = y := by
      rcases List.mem_cons.1 (hp.mem_iff.1 (List.mem_cons_self)) with e | e
      · exact e
      · rcases List.mem_cons.1 (hp.mem_iff.2 (List.mem_cons_self (a := y))) with e' | e'
        · exact e'.symm
        · exact absurd (lt2_trans (h1.1 y e') (h2.1 x e)) (lt2_irrefl x)
    subst hxy
    rw [ord_eq (List.Perm.cons_inv hp) h1.2 h2.2]
theorem others_ord {l : List KV} (h : Ord l) (s : ByteArray) : Ord (others l s) := List.Pairwise.filter _ h
theorem others_ne {l : List KV} {s : ByteArray} : ∀ x ∈ others l s, x.1 ≠ s := by
  intro x hx
  have := (List.mem_filter.1 hx).2
  simpa using this
theorem setS_ord {l : List KV} (h : Ord l) (s : ByteArray) (a : Int) : Ord (setS l s a) := ins_ord (others_ord h s) others_ne
theorem setS_perm (l : List KV) (s : ByteArray) (a : Int) : (setS l s a).Perm ((s, a) :: others l s) := ins_perm _ _

theorem others_map (rows : List Row) (s : ByteArray) : others (rows.map Row.kv) s = (rows.filter (fun r => !(r.name == s))).map Row.kv := by
  unfold others
  rw [List.filter_map]
  rfl

/-- The queue at q reads as the list L. -/
structure Que (w : World) (q : Nat) (F : Nat → Prop) (L : List KV) : Prop where
  ord : Ord L
  ex : ∃ m sv f rows, QRep w q m sv f rows ∧ HeapN rows rows.length ∧ (rows.map Row.kv).Perm L ∧ F = Qfp q m sv rows

theorem QRep.lt {w : World} {q m : Nat} {sv : Value} {f : List (ByteArray × Value)} {rows : List Row} (h : QRep w q m sv f rows) : ∀ k, Qfp q m sv rows k → k < w.heap.size := by
  rintro k (e | e | e | ⟨r, hr, e⟩)
  · subst e; exact h.heap.q.lt
  · subst e; exact h.map.lt
  · rcases h.heap.row.2 with ⟨h1, _⟩ | ⟨g, cap, cur, h1, _, hh, _⟩
    · rw [h1] at e; simp [Value.ownBlock] at e
    · rw [h1] at e
      have : g = k := by simpa [Value.ownBlock] using e
      subst this
      exact Blk.lt (t := 64) hh
  · subst e
    obtain ⟨i, hi⟩ := List.mem_iff_getElem?.1 hr
    exact (h.heap.ones i r hi).lt

section
variable {w w' : World} {q : Nat} {F : Nat → Prop} {L : List KV}
theorem Que.lt (h : Que w q F L) : ∀ k, F k → k < w.heap.size := by
  obtain ⟨m, sv, f, rows, h1, _, _, rfl⟩ := h.ex
  exact h1.lt
theorem Que.only {G : Nat → Prop} (h : Que w q F L) (hb : Only G w w') (hF : ∀ k, F k → ¬ G k) : Que w' q F L := by
  obtain ⟨m, sv, f, rows, h1, h2, h3, rfl⟩ := h.ex
  exact ⟨h.ord, m, sv, f, rows, h1.only hb hF, h2, h3, rfl⟩
theorem Que.below (h : Que w q F L) (hb : Below w.heap.size w w') : Que w' q F L := by
  obtain ⟨m, sv, f, rows, h1, h2, h3, rfl⟩ := h.ex
  exact ⟨h.ord, m, sv, f, rows, h1.below hb, h2, h3, rfl⟩
theorem Que.names (h : Que w q F L) : (L.map (·.1)).Nodup := by
  obtain ⟨m, sv, f, rows, h1, h2, h3, rfl⟩ := h.ex
  have := h3.map (·.1)
  rw [← this.nodup_iff, List.map_map]
  exact h1.nodup
theorem Que.len (h : Que w q F L) : Calls Try.prog 13 #[.pointer (some ⟨q, 0, none⟩)] w fun e w' => e = .returned (.int .i64 L.length) ∧ w = w' := by
  obtain ⟨m, sv, f, rows, h1, h2, h3, rfl⟩ := h.ex
  have := h3.length_eq
  rw [List.length_map] at this
  rw [← this]
  exact qlen_any q m sv rows w h1.heap
end

theorem que_new (w : World) : Calls Try.prog 10 #[] w fun e w' => ∃ q F, e = .returned (.pointer (some ⟨q, 0, none⟩)) ∧ Que w' q F [] ∧ Below w.heap.size w w' ∧ (∀ k, F k → w.heap.size ≤ k) := by
  refine (new_any w).mono ?_
  rintro e w' ⟨rfl, rfl⟩
  have hs : (w.alloc (.map #[] 0)).heap.size = w.heap.size + 1 := by simp
  have kq := Blk.new (w.alloc (.map #[] 0)) 63 #[.slice none 0 0, .map (some w.heap.size)]
  rw [hs] at kq
  have km : SMap ((w.alloc (.map #[] 0)).alloc (.cells #[.slice none 0 0, .map (some w.heap.size)] 63)) w.heap.size [] :=
    (SMap.new w).of_block (Below.heap_alloc _ _ _ (by simp))
  refine ⟨w.heap.size + 1, _, rfl, ⟨List.Pairwise.nil, w.heap.size, .slice none 0 0, [], [], ⟨⟨kq, World.ownsRow_nil _ _ _ _, fun i r hr => by simp at hr⟩, km, by simp [Uniq], fun s v => by simp [slook]⟩, fun c _ h => absurd h (by simp), List.Perm.refl _, rfl⟩, ((Below.refl _ _).alloc (Nat.le_refl _) _).alloc (by simp) _, ?_⟩
  rintro k (e | e | e | ⟨r, hr, _⟩)
  · omega
  · omega
  · simp [Value.ownBlock] at e
  · simp at hr

def hasN (L : List KV) (s : ByteArray) : Prop := ∃ x ∈ L, x.1 = s

theorem filter_split {rows : List Row} {i : Nat} {r : Row} (hr : rows[i]? = some r) (hnd : (rows.map (·.name)).Nodup) : rows.filter (fun r' => !(r'.name == r.name)) = rows.take i ++ rows.drop (i + 1) := by
  have hi : i < rows.length := (List.getElem?_eq_some_iff.1 hr).1
  have he : rows = rows.take i ++ r :: rows.drop (i + 1) := by
    have h1 : rows[i] = r := by simpa [hi] using hr
    rw [← h1, List.getElem_cons_drop hi, List.take_append_drop]
  have hn : ((rows.take i ++ r :: rows.drop (i + 1)).map (·.name)).Nodup := by rw [← he]; exact hnd
  rw [List.map_append, List.map_cons, List.nodup_append] at hn
  obtain ⟨_, h2, h3⟩ := hn
  have h4 := List.nodup_cons.1 h2
  conv => lhs; rw [he]
  rw [List.filter_append, List.filter_cons]
  have e1 : (rows.take i).filter (fun r' => !(r'.name == r.name)) = rows.take i := List.filter_eq_self.2 fun x hx => by
    have := h3 x.name (List.mem_map.2 ⟨x, hx, rfl⟩) r.name (by simp)
    simpa using this
  have e2 : (rows.drop (i + 1)).filter (fun r' => !(r'.name == r.name)) = rows.drop (i + 1) := List.filter_eq_self.2 fun x hx => by
    have : x.name ≠ r.name := fun e => h4.1 (by rw [← e]; exact List.mem_map.2 ⟨x, hx, rfl⟩)
    simpa using this
  rw [e1, e2]
  simp

theorem others_perm {l l' : List KV} (h : l.Perm l') (s : ByteArray) : (others l s).Perm (others l' s) := h.filter _

theorem que_set {w : World} {q : Nat} {F : Nat → Prop} {L : List KV} (h : Que w q F L) (s : ByteArray) (a : Int) (hroom : hasN L s ∨ L.length < 4096) (hn : L.length ≤ 1000000) :
    Calls Try.prog 11 #[.pointer (some ⟨q, 0, none⟩), .string s, .int .i64 a] w fun e w' => e = .returned (.int .i64 0) ∧
      ∃ F', Que w' q F' (setS L s a) ∧ Only F w w' ∧ (∀ k, F' k → F k ∨ w.heap.size ≤ k) := by
  obtain ⟨m, sv, f, rows, h1, h2, h3, rfl⟩ := h.ex
  have hlen : rows.length = L.length := by have := h3.length_eq; rwa [List.length_map] at this
  cases hix : idx rows s with
  | some i =>
    obtain ⟨r, hr, hrn⟩ := idx_some hix
    have hi : i < rows.length := (List.getElem?_eq_some_iff.1 hr).1
    refine (set_found q m i s a sv f rows r w h1 hr hrn (by omega)).mono ?_
    rintro e w' ⟨rfl, g1, g2⟩
    have hl : (fixL (rows.set i { r with tm := a }) i rows.length).length = rows.length := by rw [fixL_length]; simp
    refine ⟨rfl, _, ⟨setS_ord h.ord s a, m, sv, f, _, g1, ?_, ?_, rfl⟩, g2, ?_⟩
    · rw [hl]; exact set_heap rows i _ hi h2
    · have p1 := (fixL_perm (rows.set i { r with tm := a }) i rows.length (by simpa using hi) (by simp)).map Row.kv
      refine p1.trans ((?_ : List.Perm _ _).trans (setS_perm L s a).symm)
      have p2 : (rows.set i { r with tm := a }).Perm ({ r with tm := a } :: rows.filter (fun r' => !(r'.name == r.name))) := by
        rw [filter_split hr h1.nodup, List.set_eq_take_append_cons_drop, if_pos hi]
        exact List.perm_middle
      refine (p2.map Row.kv).trans ?_
      rw [List.map_cons, hrn, ← others_map]
      exact (others_perm h3 s).cons (s, a)
    · rintro k (e | e | e | ⟨r', hr', e⟩)
      · exact .inl (.inl e)
      · exact .inl (.inr (.inl e))
      · exact .inl (.inr (.inr (.inl e)))
      · rw [fixL_mem _ _ _ (by simpa using hi) (by simp)] at hr'
        rcases List.mem_or_eq_of_mem_set hr' with h5 | h5
        · exact .inl (.inr (.inr (.inr ⟨r', h5, e⟩)))
        · subst h5; exact .inl (.inr (.inr (.inr ⟨r, List.mem_iff_getElem?.2 ⟨i, hr⟩, e⟩)))
  | none =>
    have hno := idx_none hix
    have hroom' : rows.length < 4096 := by
      rcases hroom with ⟨x, hx, e⟩ | h5
      · have := h3.mem_iff.2 hx
        obtain ⟨r, hr, rfl⟩ := List.mem_map.1 this
        exact absurd e (hno r hr)
      · omega
    refine (set_new q m s a sv f rows w h1 hno hroom').mono ?_
    rintro e w' ⟨rfl, sv', f', g1, g2, g3⟩
    refine ⟨rfl, _, ⟨setS_ord h.ord s a, m, sv', f', _, g1, ?_, ?_, rfl⟩, g2, g3⟩
    · rw [upL_len, List.length_append]; exact push_heap rows _ h2
    · have p1 := (upL_perm (rows ++ [⟨w.heap.size, s, a⟩]) rows.length (by simp)).map Row.kv
      refine p1.trans ((?_ : List.Perm _ _).trans (setS_perm L s a).symm)
      rw [List.map_append]
      refine List.perm_append_comm.trans ?_
      have h6 : others (rows.map Row.kv) s = rows.map Row.kv := List.filter_eq_self.2 fun x hx => by
        obtain ⟨r, hr, rfl⟩ := List.mem_map.1 hx
        have := hno r hr
        simpa [Row.kv] using this
      have h7 := others_perm h3 s
      rw [h6] at h7
      exact h7.cons _

theorem que_full {w : World} {q : Nat} {F : Nat → Prop} {L : List KV} (h : Que w q F L) (s : ByteArray) (a : Int) (hs : ¬ hasN L s) (hn : 4096 ≤ L.length) :
    Calls Try.prog 11 #[.pointer (some ⟨q, 0, none⟩), .string s, .int .i64 a] w fun e w' => e = .returned (.int .i64 6) ∧ w = w' := by
  obtain ⟨m, sv, f, rows, h1, h2, h3, rfl⟩ := h.ex
  have hlen : rows.length = L.length := by have := h3.length_eq; rwa [List.length_map] at this
  refine set_full q m s a sv f rows w h1 (fun r hr e => hs ⟨r.kv, h3.mem_iff.1 (List.mem_map.2 ⟨r, hr, rfl⟩), e⟩) (by omega)

/-! ### Cancel, At, Next, Pop -/
def hasB (L : List KV) (s : ByteArray) : Bool := L.any (fun x => x.1 == s)
theorem hasB_iff (L : List KV) (s : ByteArray) : hasB L s = true ↔ hasN L s := by
  unfold hasB hasN
  rw [List.any_eq_true]
  simp
def can1 (x : List KV × Nat) (s : ByteArray) : List KV × Nat := (others x.1 s, if hasB x.1 s then x.2 + 1 else x.2)
def canS (L : List KV) (ns : List ByteArray) : List KV × Nat := ns.foldl can1 (L, 0)

theorem kv_hasB (rows : List Row) (s : ByteArray) : hasB (rows.map Row.kv) s = (idx rows s).isSome := by
  unfold hasB idx
  rw [List.any_map, Bool.eq_iff_iff, List.findIdx?_isSome]
  rfl
theorem hasB_perm {l l' : List KV} (h : l.Perm l') (s : ByteArray) : hasB l s = hasB l' s := by
  rw [Bool.eq_iff_iff, hasB_iff, hasB_iff]
  unfold hasN
  simp only [h.mem_iff]
theorem cancel1_perm {x : List Row × Nat} {y : List KV × Nat} (hnd : (x.1.map (·.name)).Nodup) (hp : (x.1.map Row.kv).Perm y.1) (hc : x.2 = y.2) (s : ByteArray) :
    ((cancel1 x s).1.map (·.name)).Nodup ∧ ((cancel1 x s).1.map Row.kv).Perm (can1 y s).1 ∧ (cancel1 x s).2 = (can1 y s).2 := by
  have hb := hasB_perm hp s
  rw [kv_hasB] at hb
  unfold cancel1 can1
  cases hix : idx x.1 s with
  | none =>
    rw [hix] at hb
    have hno := idx_none hix
    refine ⟨hnd, ?_, ?_⟩
    · have h6 : others (x.1.map Row.kv) s = x.1.map Row.kv := List.filter_eq_self.2 fun z hz => by
        obtain ⟨r, hr, rfl⟩ := List.mem_map.1 hz
        have := hno r hr
        simpa [Row.kv] using this
      have h7 := others_perm hp s
      rw [h6] at h7
      exact h7
    · rw [← hb]; exact hc
  | some i =>
    rw [hix] at hb
    obtain ⟨r, hr, hrn⟩ := idx_some hix
    refine ⟨(removeL_nodup hnd hr).1, ?_, ?_⟩
    · have p1 := removeL_perm x.1 i hr
      have p2 := (p1.filter (fun r' => !(r'.name == s)))
      rw [List.filter_append] at p2
      have e1 : (removeL x.1 i).filter (fun r' => !(r'.name == s)) = removeL x.1 i := List.filter_eq_self.2 fun r' hr' => by
        have := (removeL_nodup hnd hr).2 r' hr'
        rw [hrn] at this
        simpa using this
      have e2 : [r].filter (fun r' => !(r'.name == s)) = [] := by simp [hrn]
      rw [e1, e2, List.append_nil] at p2
      have p3 := p2.map Row.kv
      rw [← others_map] at p3
      exact p3.symm.trans (others_perm hp s)
    · rw [← hb, hc]; simp
theorem cancelL_perm {rows : List Row} {L : List KV} (hnd : (rows.map (·.name)).Nodup) (hp : (rows.map Row.kv).Perm L) (ns : List ByteArray) :
    ((cancelL rows ns).1.map (·.name)).Nodup ∧ ((cancelL rows ns).1.map Row.kv).Perm (canS L ns).1 ∧ (cancelL rows ns).2 = (canS L ns).2 := by
  have key : ∀ (ns : List ByteArray) (x : List Row × Nat) (y : List KV × Nat), (x.1.map (·.name)).Nodup → (x.1.map Row.kv).Perm y.1 → x.2 = y.2 →
      ((ns.foldl cancel1 x).1.map (·.name)).Nodup ∧ ((ns.foldl cancel1 x).1.map Row.kv).Perm (ns.foldl can1 y).1 ∧ (ns.foldl cancel1 x).2 = (ns.foldl can1 y).2 := by
    intro ns
    induction ns with
    | nil => intro x y h1 h2 h3; exact ⟨h1, h2, h3⟩
    | cons s ns ih =>
      intro x y h1 h2 h3
      obtain ⟨g1, g2, g3⟩ := cancel1_perm h1 h2 h3 s
      exact ih _ _ g1 g2 g3
  exact key ns (rows, 0) (L, 0) hnd hp rfl
theorem canS_ord {L : List KV} (h : Ord L) (ns : List ByteArray) : Ord (canS L ns).1 := by
  have key : ∀ (ns : List ByteArray) (y : List KV × Nat), Ord y.1 → Ord (ns.foldl can1 y).1 := by
    intro ns
    induction ns with
    | nil => intro y h; exact h
    | cons s ns ih => intro y h; exact ih _ (others_ord h s)
  exact key ns (L, 0) h
theorem cancelL_heap {rows : List Row} (h : HeapN rows rows.length) (ns : List ByteArray) : HeapN (cancelL rows ns).1 (cancelL rows ns).1.length := by
  have key : ∀ (ns : List ByteArray) (x : List Row × Nat), HeapN x.1 x.1.length → HeapN (ns.foldl cancel1 x).1 (ns.foldl cancel1 x).1.length := by
    intro ns
    induction ns with
    | nil => intro x h; exact h
    | cons s ns ih =>
      intro x h
      refine ih _ ?_
      unfold cancel1
      cases hix : idx x.1 s with
      | none => exact h
      | some i =>
        obtain ⟨r, hr, _⟩ := idx_some hix
        exact remove_heap x.1 i (List.getElem?_eq_some_iff.1 hr).1 h
  exact key ns (rows, 0) h

theorem que_cancel {w : World} {q : Nat} {F : Nat → Prop} {L : List KV} (h : Que w q F L) (A : Option Addr) (ns : List ByteArray) (c g : Nat) (hA : Names w A ns g) (hg : 0 < ns.length → ¬ F g) (hn : L.length ≤ 1000000) (hns : ns.length ≤ 1000000) :
    Calls Try.prog 14 #[.pointer (some ⟨q, 0, none⟩), .slice A ns.length c] w fun e w' => e = .returned (.int .i64 (canS L ns).2) ∧
      ∃ F', Que w' q F' (canS L ns).1 ∧ Only F w w' ∧ (∀ k, F' k → F k) := by
  obtain ⟨m, sv, f, rows, h1, h2, h3, rfl⟩ := h.ex
  have hlen : rows.length = L.length := by have := h3.length_eq; rwa [List.length_map] at this
  obtain ⟨p1, p2, p3⟩ := cancelL_perm h1.nodup h3 ns
  refine (cancel_any q m c g A ns sv f rows w h1 hA hg (by omega) hns).mono ?_
  rintro e w' ⟨rfl, sv', f', g1, g2, g3⟩
  exact ⟨by rw [p3], _, ⟨canS_ord h.ord ns, m, sv', f', _, g1, cancelL_heap h2 ns, p2, rfl⟩, g2, g3⟩

theorem que_head {w : World} {q m : Nat} {sv : Value} {f : List (ByteArray × Value)} {rows : List Row} {d : KV} {L : List KV} (_h1 : QRep w q m sv f rows) (h2 : HeapN rows rows.length) (h3 : (rows.map Row.kv).Perm (d :: L)) (ho : Ord (d :: L)) : gt rows 0 = d := by
  have hlen : rows.length = L.length + 1 := by have := h3.length_eq; rwa [List.length_map] at this
  have h0 : gt rows 0 ∈ d :: L := by
    refine h3.mem_iff.1 (List.mem_map.2 ⟨rows.getD 0 default, ?_, rfl⟩)
    simp [hlen]
  rcases List.mem_cons.1 h0 with e | e
  · exact e
  · have hlt := (List.pairwise_cons.1 ho).1 _ e
    have hd : d ∈ rows.map Row.kv := h3.mem_iff.2 List.mem_cons_self
    obtain ⟨r, hr, rfl⟩ := List.mem_map.1 hd
    obtain ⟨k, hk⟩ := List.mem_iff_getElem?.1 hr
    have hkl : k < rows.length := (List.getElem?_eq_some_iff.1 hk).1
    have hroot := heap_root h2 k hkl
    have : gt rows k = r.kv := by unfold gt; rw [getD_of hk]
    rw [this] at hroot
    exact absurd hlt hroot

theorem que_next_nil {w : World} {q : Nat} {F : Nat → Prop} (h : Que w q F []) : Calls Try.prog 25 #[.pointer (some ⟨q, 0, none⟩)] w fun e w' => e = .returned (.tuple #[due0, .bool false]) ∧ Below w.heap.size w w' := by
  obtain ⟨m, sv, f, rows, h1, h2, h3, rfl⟩ := h.ex
  have hr : rows = [] := by have := h3.length_eq; rw [List.length_map] at this; exact List.eq_nil_of_length_eq_zero this
  subst hr
  exact next_empty q m sv w h1.heap
theorem que_next {w : World} {q : Nat} {F : Nat → Prop} {d : KV} {L : List KV} (h : Que w q F (d :: L)) (hn : L.length < 1000000) : Calls Try.prog 25 #[.pointer (some ⟨q, 0, none⟩)] w fun e w' => e = .returned (.tuple #[dueV d, .bool true]) ∧ Below w.heap.size w w' := by
  obtain ⟨m, sv, f, rows, h1, h2, h3, rfl⟩ := h.ex
  have hlen : rows.length = L.length + 1 := by have := h3.length_eq; rwa [List.length_map] at this
  have hd := que_head h1 h2 h3 h.ord
  rw [← hd]
  exact next_some q m sv rows w h1.heap (by omega) (by omega)
theorem que_pop_nil {w : World} {q : Nat} {F : Nat → Prop} (h : Que w q F []) (now : Int) : Calls Try.prog 16 #[.pointer (some ⟨q, 0, none⟩), .int .i64 now] w fun e w' => e = .returned (.tuple #[due0, .bool false]) ∧ Below w.heap.size w w' := by
  obtain ⟨m, sv, f, rows, h1, h2, h3, rfl⟩ := h.ex
  have hr : rows = [] := by have := h3.length_eq; rw [List.length_map] at this; exact List.eq_nil_of_length_eq_zero this
  subst hr
  exact pop_empty q m sv now w h1.heap
theorem que_pop_later {w : World} {q : Nat} {F : Nat → Prop} {d : KV} {L : List KV} (h : Que w q F (d :: L)) (hn : L.length < 1000000) (now : Int) (hnow : now < d.2) : Calls Try.prog 16 #[.pointer (some ⟨q, 0, none⟩), .int .i64 now] w fun e w' => e = .returned (.tuple #[due0, .bool false]) ∧ Below w.heap.size w w' := by
  obtain ⟨m, sv, f, rows, h1, h2, h3, rfl⟩ := h.ex
  have hlen : rows.length = L.length + 1 := by have := h3.length_eq; rwa [List.length_map] at this
  have hd := que_head h1 h2 h3 h.ord
  exact pop_later q m sv rows now w h1.heap (by omega) (by omega) (by rw [hd]; exact hnow)
theorem que_pop {w : World} {q : Nat} {F : Nat → Prop} {d : KV} {L : List KV} (h : Que w q F (d :: L)) (hn : L.length < 1000000) (now : Int) (hnow : d.2 ≤ now) : Calls Try.prog 16 #[.pointer (some ⟨q, 0, none⟩), .int .i64 now] w fun e w' => e = .returned (.tuple #[dueV d, .bool true]) ∧
    ∃ F', Que w' q F' L ∧ Only F w w' ∧ (∀ k, F' k → F k) := by
  have hnm := h.names
  obtain ⟨m, sv, f, rows, h1, h2, h3, rfl⟩ := h.ex
  have hlen : rows.length = L.length + 1 := by have := h3.length_eq; rwa [List.length_map] at this
  have hd := que_head h1 h2 h3 h.ord
  obtain ⟨p1, p2, p3⟩ := cancelL_perm h1.nodup h3 [(gt rows 0).1]
  refine (pop_now q m sv f rows now w h1 (by omega) (by omega) (by rw [hd]; exact hnow)).mono ?_
  rintro e w' ⟨rfl, sv', f', g1, g2, g3⟩
  have hc : (canS (d :: L) [(gt rows 0).1]).1 = L := by
    rw [hd]
    show others (d :: L) d.1 = L
    unfold others
    rw [List.filter_cons]
    simp only [beq_self_eq_true, Bool.not_true, Bool.false_eq_true, if_false]
    refine List.filter_eq_self.2 fun x hx => ?_
    have : x.1 ≠ d.1 := fun e => (List.nodup_cons.1 hnm).1 (List.mem_map.2 ⟨x, hx, e⟩)
    simpa using this
  rw [hc] at p2
  exact ⟨by rw [hd], _, ⟨(List.pairwise_cons.1 h.ord).2, m, sv', f', _, g1, cancelL_heap h2 _, p2, rfl⟩, g2, g3⟩
end Go.Proofs.Ytannmemocaibiaa
