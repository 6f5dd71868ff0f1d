/-
  A slice of acts, read as data: its cells.
-/
import Derived.Test.YtannmemocaibiaaAt
import Derived.Deep.Slices
import Derived.Deep.Fields
import Derived.ChangeSame
import Derived.OpenShut
namespace Go.Proofs.Ytannmemocaibiaa
open Go.RowKit Go.ChangeShapes Go.WideShapes Go.Deep

theorem cells35 : Try.prog.cellsOf 35 = 3 := by kernel_rfl
theorem cells3' : Try.prog.cellsOf 3 = 1 := by kernel_rfl
theorem cells9' : Try.prog.cellsOf 9 = 1 := by kernel_rfl

theorem len3 {α : Type} : ∀ {l : List α}, l.length = 3 → ∃ a b c, l = [a, b, c]
  | [a, b, c], _ => ⟨a, b, c, rfl⟩
  | [], h => by simp at h
  | [_], h => by simp at h
  | [_, _], h => by simp at h
  | _ :: _ :: _ :: _ :: _, h => by simp at h

set_option maxRecDepth 100000 in
theorem acts_of {H : Type} {enc : TypeId × Value → H} {w : World} {A : Option Addr} {len cap : Nat} {d : DataW H} {p : List MemPlace} (h : DataW.Trod enc Try.prog w 0 (fun _ => true) true 32 (.slice A len cap) d p) :
    ∃ xs : List ActV, xs.length = len ∧ Acts w A xs := by
  obtain ⟨fuel, hf⟩ := h
  rcases open_slice Try.underlying32 hf with ⟨hcs, _⟩ | ⟨a, l, c, m, n, D, Pl, hcs, _, hl, _, hmm, _, hi⟩
  · simp [Value.cells] at hcs
    obtain ⟨rfl, rfl, rfl⟩ := hcs
    exact ⟨[], rfl, fun hn => absurd hn (by simp), fun x hx => by simp at hx⟩
  · simp [Value.cells] at hcs
    obtain ⟨rfl, rfl, rfl⟩ := hcs
    simp only [if_true] at hmm
    subst hmm
    have key : ∀ i, ∃ x : ActV, i < len → (w.cell? (a.add (i * 3)) = some (.int .i64 x.kind) ∧ w.cell? ((a.add (i * 3)).add 1) = some (.string x.name) ∧ w.cell? ((a.add (i * 3)).add 2) = some (.int .i64 x.tm) ∧
        (Lit.int .i64 x.kind).wf = true ∧ (Lit.int .i64 x.tm).wf = true ∧ x.name.size ≤ maxLen) := by
      intro i
      by_cases hil : i < len
      · obtain ⟨cs', hc, ht⟩ := hi i (by omega)
        rw [cells35] at hc
        obtain ⟨_, hcl, hat⟩ := World.cells?_some hc
        obtain ⟨ys, n', _, _, _, hyl, hg⟩ := DataW.trod_struct Try.underlying35 ht
        obtain ⟨v0, v1, v2, rfl⟩ := len3 hcl
        have hyl3 : ys.length = 3 := hyl
        obtain ⟨y0, y1, y2, rfl⟩ := len3 hyl3
        have g0 : DataW.trod enc Try.prog w 0 (fun _ => true) true n' 3 (([v0, v1, v2].drop 0).take (Try.prog.cellsOf 3)) = some y0 := hg 0 _ rfl
        have g1 : DataW.trod enc Try.prog w 0 (fun _ => true) true n' 9 (([v0, v1, v2].drop 1).take (Try.prog.cellsOf 9)) = some y1 := hg 1 _ rfl
        have g2 : DataW.trod enc Try.prog w 0 (fun _ => true) true n' 3 (([v0, v1, v2].drop 2).take (Try.prog.cellsOf 3)) = some y2 := hg 2 _ rfl
        rw [cells3'] at g0 g2
        rw [cells9'] at g1
        obtain ⟨k, e0, _, w0⟩ := DataW.trod_int Try.underlying3 g0
        obtain ⟨s, e1, _, w1⟩ := DataW.trod_string Try.underlying9 g1
        obtain ⟨t, e2, _, w2⟩ := DataW.trod_int Try.underlying3 g2
        simp only [List.drop_zero, List.take_succ_cons, List.take_zero, List.drop_succ_cons, List.cons.injEq, and_true] at e0 e1 e2
        subst e0 e1 e2
        have c0 := hat 0 (by omega)
        have c1 := hat 1 (by omega)
        have c2 := hat 2 (by omega)
        exact ⟨⟨k, s, t⟩, fun _ => ⟨by simpa [Addr.add] using c0, by simpa using c1, by simpa using c2, w0, w2, w1⟩⟩
      · exact ⟨⟨0, ByteArray.empty, 0⟩, fun h => absurd h hil⟩
    obtain ⟨g, hg⟩ := Classical.axiomOfChoice key
    refine ⟨(List.range len).map g, by simp, fun hn => ?_, fun x hx => ?_⟩
    · have hlen : 0 < len := by simpa using hn
      obtain ⟨b, off, spot⟩ := a
      have hspot : spot = none := by simpa [Addr.add] using World.cell?_spot (hg 0 hlen).1
      subst hspot
      refine ⟨b, off, rfl, World.block_lt_of_cell? w ⟨b, off, none⟩ (by simpa [Addr.add] using (hg 0 hlen).1), fun i x hx => ?_⟩
      have hil : i < len := by
        have := (List.getElem?_eq_some_iff.1 hx).1
        simpa using this
      have hx' : g i = x := by simpa [hil] using hx
      subst hx'
      obtain ⟨c0, c1, c2, _⟩ := hg i hil
      rw [add_plain] at c0 c1 c2
      rw [add_plain] at c1 c2
      exact ⟨c0, c1, c2⟩
    · obtain ⟨i, hi, rfl⟩ := List.mem_map.1 hx
      obtain ⟨_, _, _, w0, w2, w1⟩ := hg i (by simpa using hi)
      have b0 := bounds_i64 w0
      have b2 := bounds_i64 w2
      exact ⟨by omega, by omega, by omega, by omega, w1⟩
end Go.Proofs.Ytannmemocaibiaa
