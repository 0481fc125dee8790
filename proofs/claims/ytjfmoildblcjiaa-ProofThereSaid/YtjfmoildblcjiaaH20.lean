/- What is proved here: ProofThere's printed function says true. -/
import Derived.Test.YtjfmoildblcjiaaH19
import Derived.Test.YtjfmoildblcjiaaQTx
namespace Go.Proofs.Ytjfmoildblcjiaa.H20
open Go.RowKit Go.Proofs.YtjfmoildblcjiaaW.PrintWords Go.Proofs.YtjfmoildblcjiaaW.PrintMore Go.Proofs.Ytjfmoildblcjiaa.QK Go.Proofs.Ytjfmoildblcjiaa.QT Go.Proofs.Ytjfmoildblcjiaa.H2 Go.Proofs.Ytjfmoildblcjiaa.H7 Go.Proofs.Ytjfmoildblcjiaa.H8 Go.Proofs.Ytjfmoildblcjiaa.H18 Go.Proofs.Ytjfmoildblcjiaa.H19 Go.Proofs.Ytjfmoildblcjiaa.Orc

theorem bit_test (i a : Nat) (ha : a ≤ 6) (hi : i ≤ 64) : (Go.bits .and .i64 (shr .i64 (i : Int) (a : Int)) 1 = 1) ↔ i.testBit a = true := by
  have e : shr .i64 (i : Int) (a : Int) = ((i / 2 ^ a : Nat) : Int) := by
    unfold shr
    rw [show min ((a : Int).toNat) IntKind.i64.bits = a by rw [Int.toNat_natCast]; exact Nat.min_eq_left (by show a ≤ 64; omega)]
    simp
  rw [e, Go.Proofs.and_one _ (Nat.lt_of_le_of_lt (Nat.div_le_self _ _) (by omega)), Nat.testBit_eq_decide_div_mod_eq, decide_eq_true_iff]
  generalize i / 2 ^ a % 2 = r
  omega
theorem loop2 (kk i : Nat) (hk : kk ≤ 6) (hi : i ≤ 64) (V : Int) (cs : List (List Int)) (x5 : List S39) (h5 : x5.length ≤ 1000) : ∀ (n a : Nat) (x8 : List Int), a + n = kk → x8.length ≤ a → ∀ k,
    trestlelaw18_ProofThere.l2 (k + n + 1) x5 (kk : Int) (i : Int) x8 (a : Int) V cs = trestlelaw18_ProofThere.l1 k (x5 ++ [⟨false, x8 ++ (List.range' a n).map (litOf i)⟩]) (kk : Int) (wrap64 ((i : Int) + 1)) V cs
  | 0, a, x8, ha, _, k => by
    rw [trestlelaw18_ProofThere.l2, if_neg (by omega), if_pos (by omega)]
    simp
  | n + 1, a, x8, ha, h8, k => by
    have hw : wrap64 ((a : Int) + 1) = ((a + 1 : Nat) : Int) := by unfold wrap64; omega
    have hw2 : wrap64 (wrap64 (-(a : Int)) - 1) = -(a : Int) - 1 := by unfold wrap64; omega
    rw [show k + (n + 1) + 1 = (k + n + 1) + 1 by omega, trestlelaw18_ProofThere.l2, if_pos (by omega), if_pos (by omega)]
    have ih := loop2 kk i hk hi V cs x5 h5 n (a + 1) (x8 ++ [litOf i a]) (by omega) (by simp; omega) k
    have e : x8 ++ (List.range' a (n + 1)).map (litOf i) = x8 ++ [litOf i a] ++ (List.range' (a + 1) n).map (litOf i) := by rw [List.range'_succ]; simp
    rw [e, ← ih]
    by_cases hb : i.testBit a = true
    · rw [if_pos ((bit_test i a (by omega) hi).2 hb), if_pos (by omega), hw]
      unfold litOf
      rw [if_pos hb]
      rfl
    · rw [if_neg (fun h => hb ((bit_test i a (by omega) hi).1 h)), if_pos (by omega), hw, hw2]
      unfold litOf
      rw [if_neg hb]
theorem loop1 (kk : Nat) (hk : kk ≤ 6) (V : Int) (cs : List (List Int)) : ∀ (n i : Nat) (x5 : List S39), i + n = 2 ^ kk → x5.length + n ≤ 1000 → ∃ c, ∀ k,
    trestlelaw18_ProofThere.l1 (k + c) x5 (kk : Int) (i : Int) V cs = trestlelaw18_ProofThere.l0 k (x5 ++ (List.range' i n).map (fun j => ⟨false, clauseOf kk j⟩)) (wrap64 ((kk : Int) - 1)) V cs
  | 0, i, x5, hi, _ => ⟨1, fun k => by
    have hp : (2 : Nat) ^ kk ≤ 2 ^ 6 := Nat.pow_le_pow_right (by decide) hk
    have hs : shl .i64 1 (kk : Int) = ((2 ^ kk : Nat) : Int) := by
      unfold shl
      rw [show min ((kk : Int).toNat) IntKind.i64.bits = kk by rw [Int.toNat_natCast]; exact Nat.min_eq_left (by show kk ≤ 64; omega), Int.one_mul, IntKind.wrap_i64]
      have h3 : (2 : Int) ^ kk = ((2 ^ kk : Nat) : Int) := by simp
      rw [h3]
      omega
    rw [trestlelaw18_ProofThere.l1, if_pos (by omega), hs, if_neg (by omega)]
    simp⟩
  | n + 1, i, x5, hi, hl => by
    have hp : (2 : Nat) ^ kk ≤ 2 ^ 6 := Nat.pow_le_pow_right (by decide) hk
    obtain ⟨c, hc⟩ := loop1 kk hk V cs n (i + 1) (x5 ++ [⟨false, clauseOf kk i⟩]) (by omega) (by simp; omega)
    refine ⟨c + kk + 1 + 1, fun k => ?_⟩
    have hs : shl .i64 1 (kk : Int) = ((2 ^ kk : Nat) : Int) := by
      unfold shl
      rw [show min ((kk : Int).toNat) IntKind.i64.bits = kk by rw [Int.toNat_natCast]; exact Nat.min_eq_left (by show kk ≤ 64; omega), Int.one_mul, IntKind.wrap_i64]
      have h3 : (2 : Int) ^ kk = ((2 ^ kk : Nat) : Int) := by simp
      rw [h3]
      omega
    have h2 := loop2 kk i hk (by omega) V cs x5 (by omega) kk 0 [] (by omega) (by simp) (k + c)
    have hw : wrap64 ((i : Int) + 1) = ((i + 1 : Nat) : Int) := by unfold wrap64; omega
    rw [show k + (c + kk + 1 + 1) = (k + c + kk + 1) + 1 by omega, trestlelaw18_ProofThere.l1, if_pos (by omega), hs, if_pos (by omega)]
    rw [show ((0 : Nat) : Int) = 0 from rfl] at h2
    rw [h2, hw, List.nil_append, show (List.range' 0 kk).map (litOf i) = clauseOf kk i by rw [clauseOf, List.range_eq_range'], hc k]
    congr 1
    rw [List.range'_succ]
    simp
theorem lvl_range (k : Nat) : (List.range' 0 (2 ^ k)).map (fun j => (⟨false, clauseOf k j⟩ : S39)) = lvl k := by rw [lvl, List.range_eq_range']
theorem loop0 (V : Int) (cs : List (List Int)) : ∀ (kk : Nat) (x5 : List S39), kk ≤ 6 → x5.length + (fullL kk).length ≤ 1000 → ∃ c, ∀ k,
    trestlelaw18_ProofThere.l0 (k + c) x5 (kk : Int) V cs = trestlelaw18_ProofThere.l0 k (x5 ++ fullL kk) (-1) V cs
  | 0, x5, hk, hl => by
    obtain ⟨c, hc⟩ := loop1 0 hk V cs 1 0 x5 rfl (by simp [fullL, lvl] at hl; omega)
    refine ⟨c + 1, fun k => ?_⟩
    rw [show k + (c + 1) = (k + c) + 1 by omega, trestlelaw18_ProofThere.l0, if_pos (by simp)]
    have := hc k
    rw [show ((0 : Nat) : Int) = 0 from rfl] at this ⊢
    rw [this, show wrap64 ((0 : Int) - 1) = -1 by unfold wrap64; omega]
    rfl
  | kk + 1, x5, hk, hl => by
    have hl2 : (lvl (kk + 1)).length = 2 ^ (kk + 1) := by simp [lvl]
    rw [fullL, List.length_append, hl2] at hl
    obtain ⟨c, hc⟩ := loop1 (kk + 1) hk V cs (2 ^ (kk + 1)) 0 x5 (by omega) (by omega)
    obtain ⟨c2, hc2⟩ := loop0 V cs kk (x5 ++ lvl (kk + 1)) (by omega) (by rw [List.length_append, hl2]; omega)
    refine ⟨c2 + c + 1, fun k => ?_⟩
    rw [show k + (c2 + c + 1) = (k + c2 + c) + 1 by omega, trestlelaw18_ProofThere.l0, if_pos (by omega)]
    have h1 := hc (k + c2)
    rw [show ((0 : Nat) : Int) = 0 from rfl] at h1
    rw [h1, lvl_range, show wrap64 (((kk + 1 : Nat) : Int) - 1) = (kk : Int) by unfold wrap64; omega, hc2 k, List.append_assoc]
    rfl
theorem there_true (v : Int) (cs : List (List Int)) : ∃ k, trestlelaw18_ProofThere.f k v cs = some true := by
  by_cases h6 : v > 6
  · exact ⟨0, by rw [trestlelaw18_ProofThere.f, trestlelaw18_works.f, Option.bind_some, if_pos rfl, if_pos h6]⟩
  · by_cases ht : trialsE v cs = 0
    · obtain ⟨hv0, _, hce⟩ := trials_small ht
      obtain ⟨n, rfl⟩ : ∃ n : Nat, v = (n : Int) := ⟨v.toNat, by omega⟩
      have hm : modelsE (n : Int) cs = (countM (n : Int) cs : Int) := by unfold modelsE; rw [if_pos ht]
      by_cases hc : countM (n : Int) cs = 0
      · have hlen := full_len n
        have hpow : 2 ^ (n + 1) ≤ 2 ^ 7 := Nat.pow_le_pow_right (by decide) (by omega)
        obtain ⟨c, hc0⟩ := loop0 (n : Int) cs n [] (by omega) (by simp; omega)
        refine ⟨1 + c + 1, ?_⟩
        rw [trestlelaw18_ProofThere.f, trestlelaw18_works.f, Option.bind_some, if_pos rfl, if_neg h6, cnf_Models.f, Option.bind_some, if_pos ht]
        rw [trestlelaw18_ProofThere.j0, hm, hc, if_neg (by simp), hc0 1, List.nil_append]
        rw [trestlelaw18_ProofThere.l0, if_neg (by omega), check_full (by omega) hce hc, Option.bind_some, if_pos rfl, if_pos rfl]
        have hw : wrap64 (((fullL n).length : Int) - 1) = ((fullL n).length : Int) - 1 := by unfold wrap64; omega
        rw [hw]
        simp
      · refine ⟨1, ?_⟩
        rw [trestlelaw18_ProofThere.f, trestlelaw18_works.f, Option.bind_some, if_pos rfl, if_neg h6, cnf_Models.f, Option.bind_some, if_pos ht]
        rw [trestlelaw18_ProofThere.j0, hm, if_pos (decide_eq_true (by show (countM (n : Int) cs : Int) > 0; omega)), if_pos ht]
    · refine ⟨1, ?_⟩
      rw [trestlelaw18_ProofThere.f, trestlelaw18_works.f, Option.bind_some, if_pos rfl, if_neg h6, cnf_Models.f, Option.bind_some, if_neg ht]
      rw [trestlelaw18_ProofThere.j0, if_pos rfl, if_neg ht]
      have : modelsE v cs = 0 := by unfold modelsE; rw [if_neg ht]
      rw [this]
      rfl
end Go.Proofs.Ytjfmoildblcjiaa.H20
