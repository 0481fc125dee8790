/- What is proved here: each line of the proof of ProofThere comes by propagation. -/
import Derived.Test.YtjfmoildblcjiaaH17
import Derived.Test.YtjfmoildblcjiaaH8
namespace Go.Proofs.Ytjfmoildblcjiaa.H18
open Go.RowKit Go.Proofs.YtjfmoildblcjiaaW.PrintWords Go.Proofs.Ytjfmoildblcjiaa.H1 Go.Proofs.Ytjfmoildblcjiaa.H2 Go.Proofs.Ytjfmoildblcjiaa.HM Go.Proofs.Ytjfmoildblcjiaa.H3 Go.Proofs.Ytjfmoildblcjiaa.H4 Go.Proofs.Ytjfmoildblcjiaa.H6 Go.Proofs.Ytjfmoildblcjiaa.H7 Go.Proofs.Ytjfmoildblcjiaa.H8 Go.Proofs.Ytjfmoildblcjiaa.H9 Go.Proofs.Ytjfmoildblcjiaa.H10 Go.Proofs.Ytjfmoildblcjiaa.H17

def litOf (i a : Nat) : Int := if i.testBit a then (a : Int) + 1 else -(a : Int) - 1
/-- The i-th clause over the first k variables. -/
def clauseOf (k i : Nat) : List Int := (List.range k).map (litOf i)
theorem litOf_neg {i a : Nat} (h : a ≤ 100) : wrap64 (-litOf i a) = -litOf i a := by
  unfold litOf wrap64
  split <;> omega
theorem neg_mem {R : List Int} {k i : Nat} (hk : k ≤ 100) (h : ∀ x ∈ negL (clauseOf k i), x ∈ R) : ∀ x ∈ clauseOf k i, -x ∈ R := fun x hx => by
  obtain ⟨a, ha, rfl⟩ := List.mem_map.1 hx
  have ha' : a < k := List.mem_range.1 ha
  refine h _ (List.mem_map.2 ⟨litOf i a, hx, ?_⟩)
  exact litOf_neg (by omega)
theorem not_of_neg {v : Int} {R : List Int} (hg : LGood v R) {x : Int} (h : -x ∈ R) : x ∉ R := fun hx => hg.apart x hx h

/-- Below the last level. -/
theorem step_low {v : Int} {F : List (List Int)} {k i : Nat} (hk : k ≤ 100) (h1 : clauseOf k i ++ [(k : Int) + 1] ∈ F) (h2 : clauseOf k i ++ [-(k : Int) - 1] ∈ F) : okF v F (negL (clauseOf k i)) = false := by
  cases hb : okF v F (negL (clauseOf k i)) with
  | false => rfl
  | true =>
    obtain ⟨R, hg, hsub, hs, _, _⟩ := okF_shut hb
    have hneg := neg_mem hk hsub
    have hall : ∀ x ∈ clauseOf k i, x ∉ R ∧ -x ∈ R := fun x hx => ⟨not_of_neg hg (hneg x hx), hneg x hx⟩
    have m1 : (k : Int) + 1 ∈ R := Decidable.byContradiction fun hz => by
      have := unit_lastL hz _ hall
      rw [hs _ h1] at this
      cases this
    have m2 : -(k : Int) - 1 ∈ R := Decidable.byContradiction fun hz => by
      have := unit_lastL hz _ hall
      rw [hs _ h2] at this
      cases this
    exact absurd (show -((k : Int) + 1) ∈ R by rw [show -((k : Int) + 1) = -(k : Int) - 1 by omega]; exact m2) (hg.apart _ m1)

theorem models_all : ∀ (v : Nat) (m : List Bool), m.length = v → ∃ n, n < 2 ^ v ∧ modelOf v n = m
  | 0, m, h => ⟨0, by decide, by rw [List.length_eq_zero_iff.1 h]; rfl⟩
  | v + 1, [], h => by simp at h
  | v + 1, b :: r, h => by
    obtain ⟨n, hn, hm⟩ := models_all v r (by simpa using h)
    have hp : 0 < 2 ^ v := Nat.two_pow_pos v
    refine ⟨(if b then 2 ^ v else 0) + n, by rw [Nat.pow_succ]; cases b <;> simp <;> omega, ?_⟩
    apply List.ext_getElem
    · rw [modelOf_length]; exact h.symm
    · intro j h1 h2
      rw [modelOf_length] at h1
      simp only [modelOf, List.getElem_map, List.getElem_range]
      cases j with
      | zero =>
        simp only [Nat.sub_zero, Nat.add_sub_cancel, List.getElem_cons_zero]
        cases b
        · have e : (0 + n) / 2 ^ v = 0 := by rw [Nat.zero_add]; exact Nat.div_eq_of_lt hn
          simp [Nat.div_eq_of_lt hn]
        · have e : (2 ^ v + n) / 2 ^ v = 1 := by rw [Nat.add_div_left _ hp, Nat.div_eq_of_lt hn]
          simp [e]
      | succ j =>
        have hj : j < v := by omega
        have e0 : v + 1 - 1 - (j + 1) = v - 1 - j := by omega
        rw [e0, List.getElem_cons_succ]
        have hr : r[j]'(by simp at h; omega) = decide ((n / 2 ^ (v - 1 - j)) % 2 = 1) := by
          have := congrArg (fun l => l[j]?) hm
          simp only [modelOf, List.getElem?_map, List.getElem?_range hj, Option.map_some] at this
          rw [List.getElem?_eq_getElem (by simp at h; omega)] at this
          exact (Option.some.inj this).symm
        rw [hr]
        cases b
        · simp
        · have e : (2 ^ v + n) / 2 ^ (v - 1 - j) = 2 ^ (j + 1) + n / 2 ^ (v - 1 - j) := by
            have e2 : 2 ^ v = 2 ^ (v - 1 - j) * 2 ^ (j + 1) := by rw [← Nat.pow_add]; congr 1; omega
            rw [e2, Nat.mul_add_div (Nat.two_pow_pos _)]
          have e3 : (2 ^ (j + 1) + n / 2 ^ (v - 1 - j)) % 2 = (n / 2 ^ (v - 1 - j)) % 2 := by rw [Nat.pow_succ]; omega
          simp only [if_true, e, e3]
theorem count_none {v : Nat} {cs : List (List Int)} (h : countM (v : Int) cs = 0) {m : List Bool} (hm : m.length = v) : sat m cs = false := by
  unfold countM at h
  rw [Int.toNat_natCast, List.length_eq_zero_iff, List.filter_eq_nil_iff] at h
  obtain ⟨n, hn, he⟩ := models_all v m hm
  have := h m (List.mem_map.2 ⟨n, List.mem_range.2 hn, he⟩)
  simpa using this
/-- The last level: all values of all variables. -/
theorem step_top {v : Nat} {cs F : List (List Int)} {i : Nat} (hv : v ≤ 100) (hsub : ∀ c ∈ cs, c ∈ F) (h : countM (v : Int) cs = 0) : okF v F (negL (clauseOf v i)) = false := by
  cases hb : okF v F (negL (clauseOf v i)) with
  | false => rfl
  | true =>
    obtain ⟨R, hg, hin, hs, ha, _⟩ := okF_shut hb
    have hneg := neg_mem hv hin
    have hu := count_none h (m := (List.range v).map fun a => !i.testBit a) (by simp)
    unfold sat at hu
    rw [List.all_eq_false] at hu
    obtain ⟨d, hd, hd2⟩ := hu
    have hdF := hsub d hd
    have hall : ∀ x ∈ d, x ∉ R ∧ -x ∈ R := fun x hx => by
      have hr := ha d hdF x hx
      have hlit : litT ((List.range v).map fun a => !i.testBit a) x = false := by
        have := hd2
        unfold clauseT at this
        rw [Bool.not_eq_true, List.any_eq_false] at this
        simpa using this x hx
      have hmx : -x ∈ R := by
        unfold litT at hlit
        split at hlit
        · rename_i hn
          obtain ⟨a, hae⟩ : ∃ a : Nat, -x - 1 = (a : Int) := ⟨(-x - 1).toNat, by omega⟩
          have hav : a < v := by omega
          have e : rdOf false ((List.range v).map fun a => !i.testBit a) (-x - 1) = !i.testBit a := by
            rw [hae]
            simp [rdOf, List.getD_eq_getElem?_getD, List.getElem?_map, List.getElem?_range hav]
          rw [e, Bool.not_not] at hlit
          have hm := hneg (litOf i a) (List.mem_map.2 ⟨a, List.mem_range.2 hav, rfl⟩)
          unfold litOf at hm
          rw [hlit] at hm
          have e2 : -(-(a : Int) - 1) = -x := by omega
          simpa [e2] using hm
        · rename_i hn
          obtain ⟨a, hae⟩ : ∃ a : Nat, x - 1 = (a : Int) := ⟨(x - 1).toNat, by omega⟩
          have hav : a < v := by omega
          have e : rdOf false ((List.range v).map fun a => !i.testBit a) (x - 1) = !i.testBit a := by
            rw [hae]
            simp [rdOf, List.getD_eq_getElem?_getD, List.getElem?_map, List.getElem?_range hav]
          rw [e] at hlit
          have hm := hneg (litOf i a) (List.mem_map.2 ⟨a, List.mem_range.2 hav, rfl⟩)
          unfold litOf at hm
          have ht : i.testBit a = true := by simpa using hlit
          rw [ht, if_pos rfl] at hm
          rwa [show -((a : Int) + 1) = -x by omega] at hm
      exact ⟨not_of_neg hg hmx, hmx⟩
    have := hs d hdF
    rw [unit_falseL d 0 hall] at this
    cases this
theorem clause_succ (k i : Nat) : clauseOf (k + 1) i = clauseOf k i ++ [litOf i k] := by simp [clauseOf, List.range_succ]
end Go.Proofs.Ytjfmoildblcjiaa.H18
