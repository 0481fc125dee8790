/- What is proved here: a formula that came in is read: the row's data, in the printed words. -/
import Derived.Test.YtjfmoildblcjiaaWWords
import Derived.Lib.SmallJoins
import Derived.Deep.Slices
import Derived.Test.YtjfmoildblcjiaaProg
namespace Go.Proofs.Ytjfmoildblcjiaa.Lift
open Go.ChangeShapes Go.WideShapes Go.ChangeAt Go.RowKit Go.Proofs.YtjfmoildblcjiaaW.PrintWords Go.Deep
variable {H : Type} {enc : TypeId × Value → H} {P : Program} {w : World} {base : Nat} {spare : Nat → Bool} {held : Bool}

theorem ints_C {t e : TypeId} {fuel : Nat} {u : Value} {x : DataW H × List MemPlace} (ht : P.underlying t = some (.slice e)) (he : P.underlying e = some (.int .i64)) (hc : P.cellsOf e = 1)
    (h : DataW.trod enc P w base spare held fuel t [u] = some x) : ∃ A c l, u = .slice A (l : List Int).length c ∧ l.length ≤ c ∧ Kd.C (Kd.int .i64) w A l.length l := by
  rcases open_ints ht he hc h with ⟨hcs, _⟩ | ⟨a, len, cap, zs, hcs, _, hl, hm, hz, _, hcell, _⟩
  · injection hcs with hcs _
    exact ⟨none, 0, [], hcs, Nat.le_refl _, rfl, by simp, fun h => absurd h (by simp)⟩
  · injection hcs with hcs _
    have hlz : len ≤ zs.length := by rw [hz]; split <;> omega
    have e1 : (zs.take len).length = len := by rw [List.length_take]; omega
    refine ⟨some a, cap, zs.take len, by rw [e1]; exact hcs, by rw [e1]; exact hl, rfl, by rw [e1]; unfold maxLen at hm; omega, fun _ => ⟨a, rfl, fun j p hj => ⟨[.int .i64 p], rfl, rfl, fun i v hv => ?_⟩⟩⟩
    cases i with
    | succ i => simp at hv
    | zero =>
      obtain rfl : Value.int .i64 p = v := by simpa using hv
      have hjl : j < len := by rw [← e1]; exact (List.getElem?_eq_some_iff.1 hj).1
      have h2 := hcell j (by omega)
      rw [List.getElem?_take, if_pos hjl] at hj
      rw [List.getD_eq_getElem?_getD, hj] at h2
      show w.cell? (a.add (j * 1 + 0)) = _
      rw [Nat.mul_one, Nat.add_zero]
      exact h2
theorem clauses_C {t e e1 : TypeId} {fuel : Nat} {u : Value} {x : DataW H × List MemPlace} (ht : P.underlying t = some (.slice e)) (he : P.underlying e = some (.slice e1)) (hc : P.cellsOf e = 1) (he1 : P.underlying e1 = some (.int .i64)) (hc1 : P.cellsOf e1 = 1)
    (h : DataW.trod enc P w base spare held fuel t [u] = some x) : ∃ A c cs, u = .slice A (cs : List (List Int)).length c ∧ cs.length ≤ c ∧ Kd.C (Kd.slice e1 (Kd.int .i64)) w A cs.length cs := by
  rcases open_slice1 ht hc h with ⟨hcs, _⟩ | ⟨a, len, cap, m, n, V, D, Pl, hcs, _, hl, hm, hmm, _, hV⟩
  · injection hcs with hcs _
    exact ⟨none, 0, [], hcs, Nat.le_refl _, rfl, by simp, fun h => absurd h (by simp)⟩
  · injection hcs with hcs _
    have hlm : len ≤ m := by rw [hmm]; split <;> omega
    obtain ⟨L, hL⟩ := choose_lt (α := List Int) (n := len) (p := fun i l => ∃ A c, V i = .slice A l.length c ∧ l.length ≤ c ∧ Kd.C (Kd.int .i64) w A l.length l) (fun i hi => by
      obtain ⟨A, c, l, h1, h2, h3⟩ := ints_C he he1 hc1 (hV i (by omega)).2
      exact ⟨l, A, c, h1, h2, h3⟩)
    have e2 : ((List.range len).map L).length = len := by simp
    refine ⟨some a, cap, (List.range len).map L, by rw [e2]; exact hcs, by rw [e2]; exact hl, rfl, by rw [e2]; unfold maxLen at hm; omega, fun _ => ⟨a, rfl, fun j p hj => ?_⟩⟩
    have hjl : j < len := by rw [← e2]; exact (List.getElem?_eq_some_iff.1 hj).1
    rw [List.getElem?_map, List.getElem?_range hjl] at hj
    obtain rfl : L j = p := by simpa using hj
    obtain ⟨A, c, h1, h2, h3⟩ := hL j hjl
    refine ⟨[V j], rfl, ⟨A, c, by rw [h1], h2, h3⟩, fun i v hv => ?_⟩
    cases i with
    | succ i => simp at hv
    | zero =>
      obtain rfl : V j = v := by simpa using hv
      show w.cell? (a.add (j * 1 + 0)) = _
      rw [Nat.mul_one, Nat.add_zero]
      exact (hV j (by omega)).1
end Go.Proofs.Ytjfmoildblcjiaa.Lift
