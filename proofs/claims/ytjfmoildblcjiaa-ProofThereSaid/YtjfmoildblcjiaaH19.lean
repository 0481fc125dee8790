/- What is proved here: the whole proof of ProofThere is accepted. -/
import Derived.Test.YtjfmoildblcjiaaH18
import Derived.Test.YtjfmoildblcjiaaOrc
namespace Go.Proofs.Ytjfmoildblcjiaa.H19
open Go.RowKit Go.Proofs.YtjfmoildblcjiaaW.PrintWords Go.Proofs.Ytjfmoildblcjiaa.QK Go.Proofs.Ytjfmoildblcjiaa.H1 Go.Proofs.Ytjfmoildblcjiaa.H2 Go.Proofs.Ytjfmoildblcjiaa.HM Go.Proofs.Ytjfmoildblcjiaa.H3 Go.Proofs.Ytjfmoildblcjiaa.H4 Go.Proofs.Ytjfmoildblcjiaa.H6 Go.Proofs.Ytjfmoildblcjiaa.H7 Go.Proofs.Ytjfmoildblcjiaa.H8 Go.Proofs.Ytjfmoildblcjiaa.H9 Go.Proofs.Ytjfmoildblcjiaa.H10 Go.Proofs.Ytjfmoildblcjiaa.H11 Go.Proofs.Ytjfmoildblcjiaa.H12 Go.Proofs.Ytjfmoildblcjiaa.H13 Go.Proofs.Ytjfmoildblcjiaa.H14 Go.Proofs.Ytjfmoildblcjiaa.H17 Go.Proofs.Ytjfmoildblcjiaa.H18 Go.Proofs.Ytjfmoildblcjiaa.Orc

def lvl (k : Nat) : List S39 := (List.range (2 ^ k)).map fun i => ⟨false, clauseOf k i⟩
def fullL : Nat → List S39
  | 0 => lvl 0
  | k + 1 => lvl (k + 1) ++ fullL k
/-- Each line comes by propagation of D and of the lines ahead of it. -/
def Ps (v : Int) (D : List (List Int)) (L : List S39) : Prop := ∀ A x B, L = A ++ x :: B → okF v (D ++ A.map S39.f1) (negL x.f1) = false
theorem Ps.append {v : Int} {D : List (List Int)} {L1 L2 : List S39} (h1 : Ps v D L1) (h2 : Ps v (D ++ L1.map S39.f1) L2) : Ps v D (L1 ++ L2) := by
  intro A x B he
  rcases List.append_eq_append_iff.1 he with ⟨C, rfl, h3⟩ | ⟨C, rfl, h3⟩
  · have := h2 C x B h3
    rwa [List.append_assoc, ← List.map_append] at this
  · cases C with
    | nil =>
      have := h2 [] x B (by simpa using h3.symm)
      simpa using this
    | cons y C =>
      injection h3 with h4 h5
      subst h4
      exact h1 A x C rfl
theorem lvl_mem {k : Nat} {A : List S39} {x : S39} {B : List S39} (h : lvl k = A ++ x :: B) : ∃ i, i < 2 ^ k ∧ x = ⟨false, clauseOf k i⟩ := by
  have : x ∈ lvl k := by rw [h]; simp
  obtain ⟨i, hi, rfl⟩ := List.mem_map.1 this
  exact ⟨i, List.mem_range.1 hi, rfl⟩
theorem lvl_top {v : Nat} {cs D : List (List Int)} (hv : v ≤ 100) (hs : ∀ c ∈ cs, c ∈ D) (h : countM (v : Int) cs = 0) : Ps v D (lvl v) := by
  intro A x B he
  obtain ⟨i, _, rfl⟩ := lvl_mem he
  exact step_top hv (fun c hc => List.mem_append_left _ (hs c hc)) h
theorem clause_low {k i : Nat} (_h : i < 2 ^ k) : clauseOf k (2 ^ k + i) = clauseOf k i := by
  unfold clauseOf
  apply List.map_congr_left
  intro a ha
  have ha' : a < k := List.mem_range.1 ha
  unfold litOf
  rw [Nat.testBit_two_pow_add_gt ha']
theorem lvl_low {v : Int} {k : Nat} {D : List (List Int)} (hk : k ≤ 100) (hs : ∀ i, i < 2 ^ (k + 1) → clauseOf (k + 1) i ∈ D) : Ps v D (lvl k) := by
  intro A x B he
  obtain ⟨i, hi, rfl⟩ := lvl_mem he
  have hp : 2 ^ (k + 1) = 2 * 2 ^ k := by rw [Nat.pow_succ, Nat.mul_comm]
  have h1 := hs i (by omega)
  have h2 := hs (2 ^ k + i) (by omega)
  rw [clause_succ] at h1 h2
  rw [clause_low hi] at h2
  have e1 : litOf i k = -(k : Int) - 1 := by unfold litOf; rw [Nat.testBit_lt_two_pow hi]; rfl
  have e2 : litOf (2 ^ k + i) k = (k : Int) + 1 := by
    unfold litOf
    rw [Nat.testBit_two_pow_add_eq, Nat.testBit_lt_two_pow hi]
    rfl
  rw [e1] at h1
  rw [e2] at h2
  exact step_low hk (List.mem_append_left _ h2) (List.mem_append_left _ h1)
theorem lvl_clauses (k : Nat) (D : List (List Int)) : ∀ i, i < 2 ^ k → clauseOf k i ∈ D ++ (lvl k).map S39.f1 := fun i hi =>
  List.mem_append_right _ (by rw [lvl, List.map_map]; exact List.mem_map.2 ⟨i, List.mem_range.2 hi, rfl⟩)
theorem full_low {v : Int} : ∀ (k : Nat) (D : List (List Int)), k ≤ 100 → (∀ i, i < 2 ^ (k + 1) → clauseOf (k + 1) i ∈ D) → Ps v D (fullL k)
  | 0, _, hk, hs => lvl_low hk hs
  | k + 1, D, hk, hs => (lvl_low hk hs).append (full_low k _ (by omega) (lvl_clauses (k + 1) D))
theorem full_top {cs D : List (List Int)} (hs : ∀ c ∈ cs, c ∈ D) : ∀ (v : Nat), v ≤ 100 → countM (v : Int) cs = 0 → Ps v D (fullL v)
  | 0, hv, h => lvl_top hv hs h
  | v + 1, hv, h => (lvl_top hv hs h).append (full_low v _ (by omega) (lvl_clauses (v + 1) D))
theorem lit_in {v : Int} {k i : Nat} (h : (k : Int) ≤ v) : Within v (clauseOf k i) := fun x hx => by
  obtain ⟨a, ha, rfl⟩ := List.mem_map.1 hx
  have ha' : a < k := List.mem_range.1 ha
  unfold litOf
  split <;> omega
theorem full_lines : ∀ (v : Nat) (x : S39), x ∈ fullL v → ∃ k i, k ≤ v ∧ x = ⟨false, clauseOf k i⟩
  | 0, x, hx => by
    obtain ⟨i, _, rfl⟩ := List.mem_map.1 hx
    exact ⟨0, i, Nat.le_refl _, rfl⟩
  | v + 1, x, hx => by
    rcases List.mem_append.1 hx with hx | hx
    · obtain ⟨i, _, rfl⟩ := List.mem_map.1 hx
      exact ⟨v + 1, i, Nat.le_refl _, rfl⟩
    · obtain ⟨k, i, hk, e⟩ := full_lines v x hx
      exact ⟨k, i, by omega, e⟩
theorem full_last : ∀ (v : Nat), ∃ I, fullL v = I ++ [⟨false, []⟩] ∧ ∀ x ∈ I, x.f1 ≠ []
  | 0 => ⟨[], rfl, fun x hx => by cases hx⟩
  | v + 1 => by
    obtain ⟨I, he, hI⟩ := full_last v
    refine ⟨lvl (v + 1) ++ I, by rw [fullL, he, List.append_assoc], fun x hx => ?_⟩
    rcases List.mem_append.1 hx with hx | hx
    · obtain ⟨i, _, rfl⟩ := List.mem_map.1 hx
      intro e
      have := congrArg List.length e
      simp [clauseOf] at this
    · exact hI x hx
theorem full_len : ∀ v, (fullL v).length + 1 = 2 ^ (v + 1)
  | 0 => rfl
  | v + 1 => by
    have := full_len v
    have h2 : (lvl (v + 1)).length = 2 ^ (v + 1) := by simp [lvl]
    have h3 : 2 ^ (v + 1 + 1) = 2 * 2 ^ (v + 1) := by rw [Nat.pow_succ, Nat.mul_comm]
    rw [fullL, List.length_append]
    omega
theorem great_same {v : Int} {c : List Int} (hv : v ≤ 262144) (h : Within v c) : greatL v c = v := by
  have h1 := greatL_le hv c v (Int.le_refl _) h
  have h2 := greatL_ge c v
  omega
theorem states {v : Int} {cs : List (List Int)} {L : List S39} (hv : v ≤ 262144) (hw : ∀ x ∈ L, Within v x.f1) (hp : Ps v cs L) : ∀ j, j ≤ L.length → stF v cs L j = (v, cs ++ (L.take j).map S39.f1) ∧ ∀ i, i < j → erF v cs L i = 0
  | 0, _ => ⟨by simp [stF], fun i hi => absurd hi (Nat.not_lt_zero _)⟩
  | j + 1, hj => by
    obtain ⟨h1, h2⟩ := states hv hw hp j (by omega)
    have hx : rd_T39 L (j : Int) = L[j] := by simp [rd_T39, List.getD_eq_getElem?_getD, List.getElem?_eq_getElem (show j < L.length by omega)]
    have hsplit : L = L.take j ++ L[j] :: L.drop (j + 1) := by rw [← List.drop_eq_getElem_cons (by omega), List.take_append_drop]
    have hok := hp _ _ _ hsplit
    have hgr := great_same hv (hw L[j] (List.getElem_mem (by omega)))
    have hf : folE v (cs ++ (L.take j).map S39.f1) (L[j]).f1 = 1 := by
      unfold folE
      rw [hgr, hok]
      rfl
    refine ⟨?_, fun i hi => ?_⟩
    · rw [stF, h1, hx, if_neg (by rw [hf]; decide), hgr, List.append_assoc]
      congr 2
      rw [List.take_succ_eq_append_getElem (by omega), List.map_append]
      rfl
    · rcases Nat.lt_or_ge i j with h3 | h3
      · exact h2 i h3
      · obtain rfl : i = j := by omega
        unfold erF
        rw [h1, hx, if_neg (by rw [hf]; decide)]
theorem check_full {v : Nat} {cs : List (List Int)} (hv : v ≤ 6) (h0 : (checkE (v : Int) cs).2 = 0) (hc : countM (v : Int) cs = 0) :
    proof_Check.f (v : Int) cs (fullL v) = some (true, ((fullL v).length : Int) - 1, 0) := by
  have hw : ∀ x ∈ fullL v, Within (v : Int) x.f1 := fun x hx => by
    obtain ⟨k, i, hk, rfl⟩ := full_lines v x hx
    exact lit_in (by omega)
  have hp := full_top (cs := cs) (D := cs) (fun _ h => h) v (by omega) hc
  have hst := states (v := (v : Int)) (cs := cs) (L := fullL v) (by omega) hw hp
  have hlen := full_len v
  have hpow : 2 ^ (v + 1) ≤ 2 ^ 7 := Nat.pow_le_pow_right (by decide) (by omega)
  have hck : checkP (fullL v) = 0 := by
    unfold checkP
    rw [if_neg (by omega)]
    have key : ∀ L : List S39, (∀ x ∈ L, litP x.f1 = 0) → checkPL L = 0 := fun L => by
      induction L with
      | nil => intro _; rfl
      | cons y r ih => intro h; rw [checkPL, if_pos (h y List.mem_cons_self)]; exact ih (fun x hx => h x (List.mem_cons_of_mem _ hx))
    refine key _ (fun x hx => ?_)
    obtain ⟨k, i, hk, rfl⟩ := full_lines v x hx
    have hw2 := lit_in (v := (v : Int)) (k := k) (i := i) (by omega)
    unfold litP
    rw [if_neg (by simp [clauseOf]; omega), if_neg]
    rw [Bool.not_eq_true, List.any_eq_false]
    intro y hy
    have := hw2 y hy
    simp [badP]
    omega
  obtain ⟨I, hI, hne⟩ := full_last v
  have hIl : (fullL v).length = I.length + 1 := by rw [hI]; simp
  have hlast : rd_T39 (fullL v) (I.length : Int) = ⟨false, []⟩ := by simp [rd_T39, hI]
  have hmid : ∀ i, i < I.length → isEnd (rd_T39 (fullL v) (i : Int)) = false := fun i hi => by
    have e : rd_T39 (fullL v) (i : Int) = I[i] := by simp [rd_T39, hI, List.getD_eq_getElem?_getD, List.getElem?_append_left hi, List.getElem?_eq_getElem hi]
    rw [e]
    have := hne I[i] (List.getElem_mem hi)
    unfold isEnd
    have h3 : (I[i].f1.length : Int) ≠ 0 := fun h => this (List.length_eq_zero_iff.1 (by omega))
    rw [decide_eq_false h3, Bool.and_false]
  have her := (hst _ (Nat.le_refl _)).2
  unfold proof_Check.f
  rw [if_pos]
  · unfold walkE
    rw [if_neg (by rw [h0]; simp), if_neg (by rw [hck]; simp)]
    rw [res_end (k := I.length) (by omega) (fun i hi => ⟨her i (by omega), hmid i hi⟩) (her _ (by omega)) (by rw [hlast]; rfl)]
    rw [hIl]
    simp
  · intro _ _ k hk _
    obtain ⟨h1, _⟩ := hst k (by omega)
    have hx : rd_T39 (fullL v) (k : Int) = (fullL v)[k] := by simp [rd_T39, List.getD_eq_getElem?_getD, List.getElem?_eq_getElem hk]
    have hmem : (fullL v)[k] ∈ fullL v := List.getElem_mem hk
    obtain ⟨k', i', hk', e⟩ := full_lines v _ hmem
    rw [hx, h1]
    refine ⟨by rw [e], fun hok => ?_⟩
    have hsplit : fullL v = (fullL v).take k ++ (fullL v)[k] :: (fullL v).drop (k + 1) := by rw [← List.drop_eq_getElem_cons hk, List.take_append_drop]
    have h2 := hp _ _ _ hsplit
    rw [great_same (by omega) (hw _ hmem)] at hok
    rw [h2] at hok
    cases hok
end Go.Proofs.Ytjfmoildblcjiaa.H19
