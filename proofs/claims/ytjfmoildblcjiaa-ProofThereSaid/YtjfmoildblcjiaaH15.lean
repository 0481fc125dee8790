/- What is proved here: what proof.Check answers of the example in works of layer 18. -/
import Derived.Test.YtjfmoildblcjiaaOrc
namespace Go.Proofs.Ytjfmoildblcjiaa.H15
open Go.RowKit Go.Proofs.YtjfmoildblcjiaaW.PrintWords Go.Proofs.YtjfmoildblcjiaaW.PrintLast Go.Proofs.YtjfmoildblcjiaaW.PrintMore Go.Proofs.Ytjfmoildblcjiaa.QK Go.Proofs.Ytjfmoildblcjiaa.H1 Go.Proofs.Ytjfmoildblcjiaa.H2 Go.Proofs.Ytjfmoildblcjiaa.HM Go.Proofs.Ytjfmoildblcjiaa.H3 Go.Proofs.Ytjfmoildblcjiaa.H4 Go.Proofs.Ytjfmoildblcjiaa.H9 Go.Proofs.Ytjfmoildblcjiaa.H10 Go.Proofs.Ytjfmoildblcjiaa.H11 Go.Proofs.Ytjfmoildblcjiaa.H12 Go.Proofs.Ytjfmoildblcjiaa.H13 Go.Proofs.Ytjfmoildblcjiaa.H14 Go.Proofs.Ytjfmoildblcjiaa.Orc

def ex4 : List (List Int) := [[1, 2], [1, -2], [-1, 2], [-1, -2]]
theorem g1 : greatL 2 [1] = 2 := by simp [greatL, wrap64]; decide
theorem n1 : negL [1] = [-1] := by simp [negL, wrap64]
theorem ok_a : okF 2 ex4 [] = true := by
  have h : forceV ex4 [] = some [] := forceV_eq (.done (by decide))
  unfold okF
  rw [if_neg (by decide), if_neg (by decide), show initL [] [] = some [] from rfl, Option.bind_some, h]
  rfl
theorem ok_b : okF 2 ex4 [-1] = false := by
  have h : forceV ex4 [-1] = none := forceV_eq (.stop (by decide))
  unfold okF
  rw [if_neg (by decide), if_neg (by decide), show initL [] [-1] = some [-1] by decide, Option.bind_some, h]
  rfl
theorem ok_c : okF 2 (ex4 ++ [[1]]) [] = false := by
  have h : forceV (ex4 ++ [[1]]) [] = none := forceV_eq (.again (S' := [1]) (by decide) (.stop (by decide)))
  unfold okF
  rw [if_neg (by decide), if_neg (by decide), show initL [] [] = some [] from rfl, Option.bind_some, h]
  rfl
theorem fol_a : folE 2 ex4 [] = 0 := by unfold folE; rw [show greatL 2 [] = 2 from rfl, show negL [] = [] from rfl, ok_a]; rfl
theorem fol_b : folE 2 ex4 [1] = 1 := by unfold folE; rw [g1, n1, ok_b]; rfl
theorem fol_c : folE 2 (ex4 ++ [[1]]) [] = 1 := by unfold folE; rw [show greatL 2 [] = 2 from rfl, show negL [] = [] from rfl, ok_c]; rfl

theorem check_a : proof_Check.f 2 ex4 [⟨false, []⟩] = some (false, 0, 180) := by
  have e0 : erF 2 ex4 [⟨false, []⟩] 0 = 180 := by unfold erF; rw [if_pos]; exact fol_a
  unfold proof_Check.f
  rw [if_pos]
  · unfold walkE
    rw [if_neg (by decide), if_neg (by decide)]
    show some (resFrom _ _ 1 0) = _
    rw [resFrom, if_pos (by rw [e0]; decide), e0]
    rfl
  · intro _ _ k hk _
    obtain rfl : k = 0 := by simp at hk; exact hk
    exact ⟨rfl, fun _ => rfl⟩
theorem check_b : proof_Check.f 2 ex4 [⟨false, [1]⟩, ⟨false, []⟩] = some (true, 1, 0) := by
  have s1 : stF 2 ex4 [⟨false, [1]⟩, ⟨false, []⟩] 1 = (2, ex4 ++ [[1]]) := by
    rw [stF, if_neg]
    · show (greatL 2 [1], ex4 ++ [[1]]) = _
      rw [g1]
    · show ¬ folE 2 ex4 [1] = 0
      rw [fol_b]; decide
  have e0 : erF 2 ex4 [⟨false, [1]⟩, ⟨false, []⟩] 0 = 0 := by
    unfold erF; rw [if_neg]
    show ¬ folE 2 ex4 [1] = 0
    rw [fol_b]; decide
  have e1 : erF 2 ex4 [⟨false, [1]⟩, ⟨false, []⟩] 1 = 0 := by
    unfold erF; rw [s1, if_neg]
    show ¬ folE 2 (ex4 ++ [[1]]) [] = 0
    rw [fol_c]; decide
  unfold proof_Check.f
  rw [if_pos]
  · unfold walkE
    rw [if_neg (by decide), if_neg (by decide)]
    show some (resFrom _ _ 2 0) = _
    rw [resFrom, if_neg (by rw [e0]; decide), if_neg (by decide), resFrom, if_neg (by rw [e1]; decide), if_pos (by decide)]
    rfl
  · intro _ _ k hk _
    have hk : k < 2 := hk
    have : k = 0 ∨ k = 1 := by omega
    rcases this with rfl | rfl
    · refine ⟨rfl, fun h => ?_⟩
      have h2 : okF (greatL 2 [1]) ex4 (negL [1]) = true := h
      rw [g1, n1, ok_b] at h2
      cases h2
    · exact ⟨rfl, fun _ => rfl⟩
end Go.Proofs.Ytjfmoildblcjiaa.H15
