/- What is proved here: what proof.check answers. -/
import Derived.Test.YtjfmoildblcjiaaQKx
import Derived.Test.YtjfmoildblcjiaaH11
namespace Go.Proofs.Ytjfmoildblcjiaa.H12
open Go.RowKit Go.Proofs.YtjfmoildblcjiaaW.PrintWords Go.Proofs.YtjfmoildblcjiaaW.PrintLast Go.Proofs.YtjfmoildblcjiaaW.PrintMore Go.Proofs.Ytjfmoildblcjiaa.QK Go.Proofs.Ytjfmoildblcjiaa.H1 Go.Proofs.Ytjfmoildblcjiaa.H9

def badP (x : Int) : Bool := decide (x = 0) || decide (x < -262144) || decide (x > 262144)
def litP (c : List Int) : Int := if (c.length : Int) > 16384 then 2 else if c.any badP then 141 else 0
def checkPL : List S39 → Int
  | [] => 0
  | x :: r => if litP x.f1 = 0 then checkPL r else litP x.f1
def checkP (l : List S39) : Int := if (l.length : Int) > 16384 then 2 else checkPL l

theorem lits_loop (c : List Int) (hc : c.length ≤ 16384) : ∀ (n i : Nat), i + n = c.length → proof_literals.l0 (n + 1) c (c.length : Int) (i : Int) = some (if (c.drop i).any badP then 141 else 0)
  | 0, i, h => by
    rw [proof_literals.l0, if_neg (by omega), List.drop_of_length_le (by omega)]; rfl
  | n + 1, i, h => by
    have hi : i < c.length := by omega
    rw [proof_literals.l0, if_pos (by omega), if_pos (by omega), if_pos (by omega), List.drop_eq_getElem_cons hi, List.any_cons]
    have e : rd c (i : Int) = c[i] := by simp [rd, List.getD_eq_getElem?_getD, List.getElem?_eq_getElem hi]
    rw [e, wrapn hi (by omega), lits_loop c hc n (i + 1) (by omega)]
    generalize c[i] = x
    unfold badP
    by_cases h0 : x = 0
    · rw [if_pos h0]; simp [h0]
    · rw [if_neg h0]
      by_cases h1 : x < -262144
      · rw [if_pos h1]; simp [h1]
      · rw [if_neg h1]
        by_cases h2 : x > 262144
        · rw [if_pos h2]; simp [h2]
        · rw [if_neg h2]; simp [h0, h1, h2]
theorem lits_total (c : List Int) : ∃ k, proof_literals.f k c = some (litP c) := by
  unfold litP
  by_cases h : (c.length : Int) > 16384
  · exact ⟨0, by rw [proof_literals.f, if_pos h, if_pos h]⟩
  · refine ⟨c.length + 1, ?_⟩
    rw [proof_literals.f, if_neg h, if_neg h]
    have := lits_loop c (by omega) c.length 0 (by omega)
    simpa using this
theorem check_loop (l : List S39) (hl : l.length ≤ 16384) : ∀ (n i : Nat), i + n = l.length → ∃ K, ∀ k, K ≤ k → proof_check.l0 k l (l.length : Int) (i : Int) = some (checkPL (l.drop i))
  | 0, i, h => by
    refine ⟨1, fun k hk => ?_⟩
    obtain ⟨k, rfl⟩ : ∃ k', k = k' + 1 := ⟨k - 1, by omega⟩
    rw [proof_check.l0, if_neg (by omega), List.drop_of_length_le (by omega)]; rfl
  | n + 1, i, h => by
    have hi : i < l.length := by omega
    obtain ⟨K1, h1⟩ := check_loop l hl n (i + 1) (by omega)
    obtain ⟨K2, h2⟩ := lits_total (l[i]).f1
    refine ⟨max K1 K2 + 1, fun k hk => ?_⟩
    obtain ⟨k, rfl⟩ : ∃ k', k = k' + 1 := ⟨k - 1, by omega⟩
    have e : rd_T39 l (i : Int) = l[i] := by simp [rd_T39, List.getD_eq_getElem?_getD, List.getElem?_eq_getElem hi]
    rw [proof_check.l0, if_pos (by omega), if_pos (by omega), if_pos (by omega), e, at_rounds (fun k => proof_literals.mono (l[i]).f1 k) (show K2 ≤ k by omega) h2, Option.bind_some, wrapn hi (by omega), h1 k (by omega), List.drop_eq_getElem_cons hi]
    rw [checkPL]
    split <;> rfl
theorem check_total (l : List S39) : ∃ k, proof_check.f k l = some (checkP l) := by
  unfold checkP
  by_cases h : (l.length : Int) > 16384
  · exact ⟨0, by rw [proof_check.f, if_pos h, if_pos h]⟩
  · obtain ⟨K, h1⟩ := check_loop l (by omega) l.length 0 (by omega)
    refine ⟨K, ?_⟩
    rw [proof_check.f, if_neg h, if_neg h]
    have := h1 K (Nat.le_refl _)
    simpa using this
theorem pcheck_any (A : Option Addr) (c : Nat) (l : List S39) (w : World) (hr : Kd.C k39 w A l.length l) (hc : l.length ≤ c) :
    Calls Try.prog 37 #[.slice A l.length c] w fun e w' => e = .returned (.int .i64 (checkP l)) ∧ Below w.heap.size w w' := by
  obtain ⟨k, hk⟩ := check_total l
  exact proof_check.calls k A c l _ w hr hc hk
theorem litP_ok {c : List Int} (h : litP c = 0) : c.length ≤ 16384 ∧ Within 262144 c := by
  unfold litP at h
  split at h
  · cases h
  · split at h
    · cases h
    · rename_i h0 h1
      refine ⟨by omega, fun x hx => ?_⟩
      have h2 := List.any_eq_false.1 (by simpa using h1) x hx
      simp [badP] at h2
      omega
theorem checkPL_ok : ∀ {l : List S39}, checkPL l = 0 → ∀ x ∈ l, litP x.f1 = 0
  | [], _, _, hx => by cases hx
  | y :: r, h, x, hx => by
    rw [checkPL] at h
    split at h
    · rename_i h0
      rcases List.mem_cons.1 hx with rfl | hx
      · exact h0
      · exact checkPL_ok h x hx
    · rename_i h0; exact absurd h h0
theorem checkP_ok {l : List S39} (h : checkP l = 0) : l.length ≤ 16384 ∧ ∀ x ∈ l, x.f1.length ≤ 16384 ∧ Within 262144 x.f1 := by
  unfold checkP at h
  split at h
  · cases h
  · exact ⟨by omega, fun x hx => litP_ok (checkPL_ok h x hx)⟩
end Go.Proofs.Ytjfmoildblcjiaa.H12
