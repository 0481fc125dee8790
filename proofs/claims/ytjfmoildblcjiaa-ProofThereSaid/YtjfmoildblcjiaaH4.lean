/- What is proved here: what cnf.Force computes, as plain Lean: the literals that follow of some by clauses of one literal left. -/
import Derived.Test.YtjfmoildblcjiaaH3
namespace Go.Proofs.Ytjfmoildblcjiaa.H4
open Go.RowKit Go.Proofs.YtjfmoildblcjiaaW.PrintWords Go.Proofs.YtjfmoildblcjiaaW.PrintLast Go.Proofs.YtjfmoildblcjiaaW.PrintMore Go.Proofs.Ytjfmoildblcjiaa.H1 Go.Proofs.Ytjfmoildblcjiaa.H2 Go.Proofs.Ytjfmoildblcjiaa.HM Go.Proofs.Ytjfmoildblcjiaa.H3

def initL (S : List Int) : List Int → Option (List Int)
  | [] => some S
  | x :: r => if -x ∈ S then none else initL (put S x) r
def passL (S : List Int) (again : Bool) : List (List Int) → Option (List Int × Bool)
  | [] => some (S, again)
  | c :: r => if (unitL S 0 c).2 = false then passL S again r else if (unitL S 0 c).1 = 0 then none else passL (put S (unitL S 0 c).1) true r
inductive Forces (cs : List (List Int)) : List Int → Option (List Int) → Prop
  | stop {S} : passL S false cs = none → Forces cs S none
  | done {S S'} : passL S false cs = some (S', false) → Forces cs S (some S')
  | again {S S' R} : passL S false cs = some (S', true) → Forces cs S' R → Forces cs S R
theorem Forces.fn {cs : List (List Int)} {S : List Int} {R R' : Option (List Int)} (h : Forces cs S R) (h' : Forces cs S R') : R = R' := by
  induction h with
  | stop h1 =>
    cases h' with
    | stop h2 => rfl
    | done h2 => rw [h1] at h2; cases h2
    | again h2 _ => rw [h1] at h2; cases h2
  | done h1 =>
    cases h' with
    | stop h2 => rw [h1] at h2; cases h2
    | done h2 => rw [h1] at h2; cases h2; rfl
    | again h2 _ => rw [h1] at h2; cases h2
  | again h1 _ ih =>
    cases h' with
    | stop h2 => rw [h1] at h2; cases h2
    | done h2 => rw [h1] at h2; cases h2
    | again h2 h3 => rw [h1] at h2; cases h2; exact ih h3
noncomputable def forceV (cs : List (List Int)) (S : List Int) : Option (List Int) := Classical.epsilon (Forces cs S)
theorem forceV_eq {cs : List (List Int)} {S : List Int} {R : Option (List Int)} (h : Forces cs S R) : forceV cs S = R := Forces.fn (Classical.epsilon_spec (p := Forces cs S) ⟨R, h⟩) h

/-- A set of literals of so many variables, none with its contrary. -/
structure LGood (v : Int) (S : List Int) : Prop where
  nodup : S.Nodup
  rng : ∀ x ∈ S, x ≠ 0 ∧ -v ≤ x ∧ x ≤ v
  apart : ∀ x ∈ S, -x ∉ S
theorem good_nil (v : Int) : LGood v [] := ⟨List.nodup_nil, by simp, by simp⟩
theorem put_mem {S : List Int} {x y : Int} : y ∈ put S x ↔ y ∈ S ∨ y = x := by
  unfold put
  split
  · rename_i h
    constructor
    · exact .inl
    · rintro (h1 | rfl)
      · exact h1
      · exact h
  · simp
theorem good_put {v x : Int} {S : List Int} (h : LGood v S) (h0 : x ≠ 0) (h1 : -v ≤ x) (h2 : x ≤ v) (h3 : -x ∉ S) : LGood v (put S x) := by
  refine ⟨?_, ?_, ?_⟩
  · unfold put
    split
    · exact h.nodup
    · rename_i hx
      rw [List.nodup_append]
      exact ⟨h.nodup, by simp, fun a ha c hc => by rw [List.mem_singleton.1 hc]; exact fun e => hx (e ▸ ha)⟩
  · intro y hy
    rcases put_mem.1 hy with hy | rfl
    · exact h.rng y hy
    · exact ⟨h0, h1, h2⟩
  · intro y hy hn
    rcases put_mem.1 hy with hy | rfl
    · rcases put_mem.1 hn with hn | hn
      · exact h.apart y hy hn
      · exact h3 (by rw [← hn, Int.neg_neg]; exact hy)
    · rcases put_mem.1 hn with hn | hn
      · exact h3 hn
      · omega
theorem good_len {v : Int} {S : List Int} (h : LGood v S) (hv : 0 ≤ v) : S.length ≤ (2 * v + 1).toNat := by
  have hsub : S ⊆ (List.range (2 * v + 1).toNat).map (fun (i : Nat) => (i : Int) - v) := by
    intro x hx
    obtain ⟨_, h1, h2⟩ := h.rng x hx
    rw [List.mem_map]
    exact ⟨(x + v).toNat, by rw [List.mem_range]; omega, by omega⟩
  have := h.nodup.length_le_of_subset hsub
  simpa using this
theorem put_len {S : List Int} {x : Int} (h : x ∉ S) : (put S x).length = S.length + 1 := by unfold put; rw [if_neg h]; simp
/-- The literal that is left is open, and one of the clause's. -/
theorem unitL_open {S : List Int} : ∀ (c : List Int) (left : Int), (left ≠ 0 → left ∉ S ∧ -left ∉ S) → (unitL S left c).2 = true → (unitL S left c).1 ≠ 0 → ((unitL S left c).1 ∈ c ∨ (unitL S left c).1 = left) ∧ (unitL S left c).1 ∉ S ∧ -(unitL S left c).1 ∉ S
  | [], left, hl, _, h0 => ⟨.inr rfl, hl h0⟩
  | x :: r, left, hl, h1, h0 => by
    by_cases m1 : x ∈ S
    · rw [unitL_in m1] at h1; cases h1
    · by_cases m2 : -x ∈ S
      · rw [unitL_neg m1 m2] at h1 h0 ⊢
        obtain ⟨a, b⟩ := unitL_open r left hl h1 h0
        exact ⟨a.imp (List.mem_cons_of_mem _) id, b⟩
      · by_cases m3 : x = left
        · rw [unitL_same m1 m2 m3] at h1 h0 ⊢
          obtain ⟨a, b⟩ := unitL_open r left hl h1 h0
          exact ⟨a.imp (List.mem_cons_of_mem _) id, b⟩
        · by_cases m4 : left = 0
          · rw [unitL_new m1 m2 m3 m4] at h1 h0 ⊢
            obtain ⟨a, b⟩ := unitL_open r x (fun _ => ⟨m1, m2⟩) h1 h0
            refine ⟨.inl ?_, b⟩
            rcases a with a | a
            · exact List.mem_cons_of_mem _ a
            · rw [a]; exact List.mem_cons_self
          · rw [unitL_two m1 m2 m3 m4] at h1; cases h1
theorem unit_good {S c : List Int} {x : Int} (h : unitL S 0 c = (x, true)) (h0 : x ≠ 0) : x ∈ c ∧ x ∉ S ∧ -x ∉ S := by
  have := unitL_open (S := S) c 0 (fun h => absurd rfl h) (by rw [h]) (by rw [h]; exact h0)
  rw [h] at this
  exact ⟨this.1.resolve_right h0, this.2⟩

/-- By their variables. -/
def absL (x : Int) : Int := mx x (-x)
def leA (x y : Int) : Bool := decide (absL x ≤ absL y)
def sortA (S : List Int) : List Int := S.mergeSort leA
theorem leA_trans (a b c : Int) (h : leA a b = true) (h' : leA b c = true) : leA a c = true := by
  simp only [leA, decide_eq_true_eq] at *; omega
theorem leA_total (a b : Int) : (leA a b || leA b a) = true := by
  simp only [leA, Bool.or_eq_true, decide_eq_true_eq]; omega
theorem absL_eq {a b : Int} (h : absL a = absL b) : a = b ∨ a = -b := by
  unfold absL mx at h
  split at h <;> split at h <;> omega
/-- The literals by their variables: there is one such order alone. -/
theorem sortA_unique {v : Int} {S l : List Int} (hg : LGood v S) (hp : l.Perm S) (hs : l.Pairwise (fun a b => leA a b = true)) : l = sortA S := by
  refine List.Perm.eq_of_pairwise (le := fun a b => leA a b = true) ?_ hs (List.pairwise_mergeSort leA_trans leA_total S) (hp.trans (List.mergeSort_perm S leA).symm)
  intro a b ha hb h1 h2
  simp only [leA, decide_eq_true_eq] at h1 h2
  have hb' : b ∈ S := (List.mergeSort_perm S leA).mem_iff.1 hb
  rcases absL_eq (show absL a = absL b from by omega) with h | h
  · exact h
  · exact absurd (h ▸ hp.mem_iff.1 ha) (hg.apart b hb')
theorem sortA_perm {v : Int} {S l : List Int} (hg : LGood v S) (hp : l.Perm S) : sortA l = sortA S :=
  sortA_unique hg ((List.mergeSort_perm l leA).trans hp) (List.pairwise_mergeSort leA_trans leA_total l)
theorem perm_of_len {S l : List Int} (h1 : l.Nodup) (h2 : ∀ x ∈ l, x ∈ S) (hS : S.Nodup) (hl : l.length = S.length) : l.Perm S := by
  rw [List.perm_ext_iff_of_nodup h1 hS]
  intro a
  refine ⟨h2 a, fun ha => ?_⟩
  rcases Classical.em (a ∈ l) with h | h
  · exact h
  · have : (a :: l).length ≤ S.length := (List.nodup_cons.2 ⟨h, h1⟩).length_le_of_subset (fun y hy => by
      rcases List.mem_cons.1 hy with rfl | hy
      · exact ha
      · exact h2 y hy)
    simp only [List.length_cons] at this
    omega
theorem good_perm {v : Int} {S l : List Int} (hg : LGood v S) (hp : l.Perm S) : LGood v l :=
  ⟨hp.nodup_iff.2 hg.nodup, fun x hx => hg.rng x (hp.mem_iff.1 hx), fun x hx hn => hg.apart x (hp.mem_iff.1 hx) (hp.mem_iff.1 hn)⟩
theorem good_mono {v v' : Int} {S : List Int} (hg : LGood v S) (h : v ≤ v') : LGood v' S := ⟨hg.nodup, fun x hx => by have := hg.rng x hx; omega, hg.apart⟩
def litsOk (v : Int) (l : List Int) : Prop := ∀ x ∈ l, x ≠ 0 ∧ -v ≤ x ∧ x ≤ v
theorem litsE_ok {l : List Int} {v : Int} (h : litsE l v = 0) : litsOk v l ∧ (l.length : Int) ≤ 16384 := by
  unfold litsE at h
  split at h
  · cases h
  · rename_i hlen
    split at h
    · cases h
    · rename_i hb
      refine ⟨fun x hx => ?_, by omega⟩
      have : litBad v x = false := by
        cases hh : litBad v x with
        | false => rfl
        | true => exact absurd (List.any_eq_true.2 ⟨x, hx, hh⟩) hb
      simp [litBad] at this
      exact ⟨this.1.1, this.1.2, this.2⟩
theorem checkL_ok {v : Int} : ∀ (cs : List (List Int)) (i : Nat), (checkL v i cs).2 = 0 → ∀ c ∈ cs, litsE c v = 0
  | [], _, _ => by simp
  | c :: r, i, h => by
    unfold checkL at h
    split at h
    · rename_i h0
      intro d hd
      rcases List.mem_cons.1 hd with rfl | hd
      · exact h0
      · exact checkL_ok r (i + 1) h d hd
    · rename_i h0; exact absurd h h0
theorem checkE_ok {v : Int} {cs : List (List Int)} (h : (checkE v cs).2 = 0) : 0 ≤ v ∧ v ≤ 262144 ∧ (cs.length : Int) ≤ 524288 ∧ ∀ c ∈ cs, litsE c v = 0 := by
  unfold checkE at h
  split at h
  · cases h
  · split at h
    · cases h
    · split at h
      · cases h
      · exact ⟨by omega, by omega, by omega, checkL_ok cs 0 h⟩

end Go.Proofs.Ytjfmoildblcjiaa.H4
