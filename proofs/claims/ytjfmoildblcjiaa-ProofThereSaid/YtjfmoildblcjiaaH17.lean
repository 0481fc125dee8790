/- What is proved here: plain laws of forcing: it ends; what it ends in is closed, good, and holds what it began with. -/
import Derived.Test.YtjfmoildblcjiaaH10
namespace Go.Proofs.Ytjfmoildblcjiaa.H17
open Go.RowKit Go.Proofs.Ytjfmoildblcjiaa.H1 Go.Proofs.Ytjfmoildblcjiaa.H2 Go.Proofs.Ytjfmoildblcjiaa.HM Go.Proofs.Ytjfmoildblcjiaa.H3 Go.Proofs.Ytjfmoildblcjiaa.H4 Go.Proofs.Ytjfmoildblcjiaa.H9 Go.Proofs.Ytjfmoildblcjiaa.H10

/-- The set is closed under the clauses. -/
def Shut (cs : List (List Int)) (R : List Int) : Prop := ∀ c ∈ cs, (unitL R 0 c).2 = false
def AllOk (v : Int) (cs : List (List Int)) : Prop := ∀ c ∈ cs, litsOk v c

theorem pass_false : ∀ (cs : List (List Int)) (S S' : List Int) (ag : Bool), passL S ag cs = some (S', false) → ag = false ∧ S' = S ∧ Shut cs S
  | [], S, S', ag, h => by
    rw [passL] at h
    injection h with h
    injection h with h1 h2
    exact ⟨h2, h1.symm, fun c hc => by cases hc⟩
  | c :: r, S, S', ag, h => by
    rw [passL] at h
    split at h
    · rename_i hu
      obtain ⟨h1, h2, h3⟩ := pass_false r S S' ag h
      refine ⟨h1, h2, fun d hd => ?_⟩
      rcases List.mem_cons.1 hd with rfl | hd
      · exact hu
      · exact h3 d hd
    · split at h
      · cases h
      · have := (pass_false r _ S' true h).1
        cases this
theorem pass_good {v : Int} : ∀ (cs : List (List Int)) (S S' : List Int) (ag ag' : Bool), LGood v S → AllOk v cs → passL S ag cs = some (S', ag') → LGood v S' ∧ (∀ x ∈ S, x ∈ S') ∧ S.length ≤ S'.length ∧ (ag' = true → ag = true ∨ S.length + 1 ≤ S'.length)
  | [], S, S', ag, ag', hg, _, h => by
    rw [passL] at h
    injection h with h
    injection h with h1 h2
    subst h1; subst h2
    exact ⟨hg, fun x hx => hx, Nat.le_refl _, fun h => .inl h⟩
  | c :: r, S, S', ag, ag', hg, ha, h => by
    have har : AllOk v r := fun d hd => ha d (List.mem_cons_of_mem _ hd)
    rw [passL] at h
    split at h
    · exact pass_good r S S' ag ag' hg har h
    · rename_i hu
      split at h
      · cases h
      · rename_i h0
        have hu' : (unitL S 0 c).2 = true := by cases hh : (unitL S 0 c).2 <;> simp_all
        obtain ⟨hm, hn, hnn⟩ := unit_good (S := S) (c := c) (x := (unitL S 0 c).1) (by rw [← hu']) h0
        have hx := ha c List.mem_cons_self _ hm
        have hg2 := good_put hg hx.1 hx.2.1 hx.2.2 hnn
        obtain ⟨h1, h2, h3, _⟩ := pass_good r _ S' true ag' hg2 har h
        have hl := put_len hn
        exact ⟨h1, fun x hx => h2 x (put_mem.2 (.inl hx)), by omega, fun _ => .inr (by omega)⟩
theorem forces_total {v : Int} (hv : 0 ≤ v) {cs : List (List Int)} (ha : AllOk v cs) : ∀ (n : Nat) (S : List Int), LGood v S → (2 * v + 1).toNat ≤ S.length + n → ∃ R, Forces cs S R
  | n, S, hg, hn => by
    cases hp : passL S false cs with
    | none => exact ⟨_, .stop hp⟩
    | some q =>
      obtain ⟨S', ag⟩ := q
      cases ag with
      | false => exact ⟨_, .done hp⟩
      | true =>
        obtain ⟨hg', _, hl, hl2⟩ := pass_good cs S S' false true hg ha hp
        have h1 := (hl2 rfl).resolve_left (by simp)
        have h2 := good_len hg' hv
        cases n with
        | zero => omega
        | succ n =>
          obtain ⟨R, hR⟩ := forces_total hv ha n S' hg' (by omega)
          exact ⟨R, .again hp hR⟩
theorem forces_shut {v : Int} {cs : List (List Int)} (ha : AllOk v cs) {S : List Int} {Q : Option (List Int)} (h : Forces cs S Q) : ∀ R, Q = some R → LGood v S → LGood v R ∧ (∀ x ∈ S, x ∈ R) ∧ Shut cs R := by
  induction h with
  | stop _ => intro R e; cases e
  | done hp =>
    intro R e hg
    cases e
    obtain ⟨_, rfl, hs⟩ := pass_false _ _ _ _ hp
    exact ⟨hg, fun x hx => hx, hs⟩
  | again hp _ ih =>
    intro R e hg
    obtain ⟨hg', hsub, _, _⟩ := pass_good _ _ _ _ _ hg ha hp
    obtain ⟨h1, h2, h3⟩ := ih R e hg'
    exact ⟨h1, fun x hx => h2 x (hsub x hx), h3⟩
theorem init_good {v : Int} : ∀ (l : List Int) (S S' : List Int), LGood v S → litsOk v l → initL S l = some S' → LGood v S' ∧ (∀ x ∈ S, x ∈ S') ∧ (∀ x ∈ l, x ∈ S')
  | [], S, S', hg, _, h => by
    rw [initL] at h; cases h
    exact ⟨hg, fun x hx => hx, fun x hx => by cases hx⟩
  | x :: r, S, S', hg, hl, h => by
    rw [initL] at h
    split at h
    · cases h
    · rename_i hn
      have hx := hl x List.mem_cons_self
      obtain ⟨h1, h2, h3⟩ := init_good r _ S' (good_put hg hx.1 hx.2.1 hx.2.2 hn) (fun y hy => hl y (List.mem_cons_of_mem _ hy)) h
      refine ⟨h1, fun y hy => h2 y (put_mem.2 (.inl hy)), fun y hy => ?_⟩
      rcases List.mem_cons.1 hy with rfl | hy
      · exact h2 y (put_mem.2 (.inr rfl))
      · exact h3 y hy
/-- Where Force finds no conflict there is a closed good set that holds the literals. -/
theorem okF_shut {v : Int} {cs : List (List Int)} {l : List Int} (h : okF v cs l = true) : ∃ R, LGood v R ∧ (∀ x ∈ l, x ∈ R) ∧ Shut cs R ∧ AllOk v cs ∧ 0 ≤ v := by
  unfold okF at h
  split at h
  · cases h
  · rename_i h0
    split at h
    · cases h
    · rename_i h1
      obtain ⟨hv, _, _, hall⟩ := checkE_ok (Decidable.not_not.1 h0)
      have ha : AllOk v cs := fun c hc => (litsE_ok (hall c hc)).1
      have hl := (litsE_ok (Decidable.not_not.1 h1)).1
      cases hi : initL [] l with
      | none => rw [hi] at h; cases h
      | some S0 =>
        rw [hi, Option.bind_some] at h
        obtain ⟨hg, _, hsub⟩ := init_good l [] S0 (good_nil v) hl hi
        obtain ⟨Q, hQ⟩ := forces_total hv ha (2 * v + 1).toNat S0 hg (by omega)
        rw [forceV_eq hQ] at h
        cases Q with
        | none => cases h
        | some R =>
          obtain ⟨h1, h2, h3⟩ := forces_shut ha hQ R rfl hg
          exact ⟨R, h1, fun x hx => h2 x (hsub x hx), h3, ha, hv⟩
/-- A clause whose literals are all false, and one all of whose literals but the last are. -/
theorem unit_falseL {R : List Int} : ∀ (c : List Int) (left : Int), (∀ x ∈ c, x ∉ R ∧ -x ∈ R) → unitL R left c = (left, true)
  | [], _, _ => rfl
  | x :: r, left, h => by
    have hx := h x List.mem_cons_self
    rw [unitL_neg hx.1 hx.2]
    exact unit_falseL r left (fun y hy => h y (List.mem_cons_of_mem _ hy))
theorem unit_lastL {R : List Int} {z : Int} (hz : z ∉ R) : ∀ (c : List Int), (∀ x ∈ c, x ∉ R ∧ -x ∈ R) → (unitL R 0 (c ++ [z])).2 = true
  | [], _ => by
    show (unitL R 0 [z]).2 = true
    rw [unitL, if_neg hz]
    split
    · rfl
    · split
      · rfl
      · rw [if_pos rfl]; rfl
  | x :: r, h => by
    have hx := h x List.mem_cons_self
    rw [List.cons_append, unitL_neg hx.1 hx.2]
    exact unit_lastL hz r (fun y hy => h y (List.mem_cons_of_mem _ hy))
end Go.Proofs.Ytjfmoildblcjiaa.H17
