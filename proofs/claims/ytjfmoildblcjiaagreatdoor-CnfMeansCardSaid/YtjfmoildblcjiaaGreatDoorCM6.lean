/- What is proved here: CnfMeans answers true of every two formulas and every model. (part 6 of 6) No condition. -/
import Derived.Test.YtjfmoildblcjiaaGreatDoorCM5
import Derived.Test.YtjfmoildblcjiaaGreatDoorWWords
import Derived.Lib.SmallJoins
import Derived.Deep.Slices
import Derived.Deep.Grids
import Derived.Test.YtjfmoildblcjiaaGreatDoorProg
import Derived.Test.YtjfmoildblcjiaaGreatDoorRows
import Derived.Test.YtjfmoildblcjiaaGreatDoorCards
import Derived.Test.YtjfmoildblcjiaaGreatDoorTie
import Derived.WalkKit
import Derived.ProofKit
import Derived.OpenShut
import Derived.ChangeOld
import Derived.Below
import Derived.SizedLaws
import Derived.LaidMore
import Derived.Lay
import Derived.SevenTiedAt

section
/- What is proved here: the printed function of CnfMeans says true. -/
namespace Go.Proofs.YtjfmoildblcjiaaGreatDoor.M2
open Go.RowKit Go.Proofs.YtjfmoildblcjiaaGreatDoorW.PrintWords Go.Proofs.YtjfmoildblcjiaaGreatDoorW.PrintLast Go.Proofs.YtjfmoildblcjiaaGreatDoorW.PrintMore Go.Proofs.YtjfmoildblcjiaaGreatDoor.Orc Go.Proofs.YtjfmoildblcjiaaGreatDoor.H1 Go.Proofs.YtjfmoildblcjiaaGreatDoor.H2 Go.Proofs.YtjfmoildblcjiaaGreatDoor.HM Go.Proofs.YtjfmoildblcjiaaGreatDoor.H3 Go.Proofs.YtjfmoildblcjiaaGreatDoor.H4 Go.Proofs.YtjfmoildblcjiaaGreatDoor.H6 Go.Proofs.YtjfmoildblcjiaaGreatDoor.H7 Go.Proofs.YtjfmoildblcjiaaGreatDoor.H8 Go.Proofs.YtjfmoildblcjiaaGreatDoor.H21 Go.Proofs.YtjfmoildblcjiaaGreatDoor.H25 Go.Proofs.YtjfmoildblcjiaaGreatDoor.F1 Go.Proofs.YtjfmoildblcjiaaGreatDoor.O1

theorem rd_at {l : List Int} {i : Nat} (h : i < l.length) : rd l (i : Int) = l[i] := by simp [rd, List.getD_eq_getElem?_getD, List.getElem?_eq_getElem h]
theorem l2_ex (l : List Int) (hl : l.length ≤ 1000000) : ∀ n i, i + n = l.length → ∃ K, QM.trestlelaw14_CnfMeans.l2 K l l (l.length : Int) (i : Int) = some true
  | 0, i, h => ⟨1, by rw [QM.trestlelaw14_CnfMeans.l2, if_neg (by omega)]⟩
  | n + 1, i, h => by
    obtain ⟨K, hK⟩ := l2_ex l hl n (i + 1) (by omega)
    refine ⟨K + 1, ?_⟩
    rw [QM.trestlelaw14_CnfMeans.l2, if_pos (by omega), if_pos (by omega), if_pos (by omega), if_pos (by omega), if_pos rfl, wrapn (n := l.length) (by omega) (by omega)]
    exact hK
theorem idx_eq {y : Int} (h0 : -262144 ≤ y) (h1 : y ≤ 262144) : wrap64 (mx y (wrap64 (-y)) - 1) = mx y (-y) - 1 := by
  have h : wrap64 (-y) = -y := by unfold wrap64; omega
  rw [h]
  unfold mx wrap64
  split <;> omega
theorem l1_ex (m : List Bool) (V : Int) (cs : List (List Int)) (x ok : Bool) (l : List Int) (hm : m.length ≤ 262144) (hl : l.length ≤ 1000000) (hR : ∀ y ∈ l, y ≠ 0 ∧ -(m.length : Int) ≤ y ∧ y ≤ m.length) (hT : x = true → ∀ y ∈ l, litT m y = true) (hF : ok = true → forceE V cs l = (l, true, 0)) :
    ∀ n i, i + n = l.length → ∃ K, QM.trestlelaw14_CnfMeans.l1 K m x l ok l (l.length : Int) (i : Int) V cs = some true
  | 0, i, h => by
    cases ok with
    | false => exact ⟨1, by rw [QM.trestlelaw14_CnfMeans.l1, if_neg (by omega), if_neg (by decide)]⟩
    | true =>
      obtain ⟨K, hK⟩ := l2_ex l hl l.length 0 (by omega)
      refine ⟨K + 1 + 1, ?_⟩
      rw [QM.trestlelaw14_CnfMeans.l1, if_neg (by omega), if_pos rfl]
      unfold cnf_Force.f
      rw [hF rfl]
      simp only [Option.bind_some]
      rw [if_pos trivial, if_pos trivial, QM.trestlelaw14_CnfMeans.j5, if_neg (by simp)]
      exact hK
  | n + 1, i, h => by
    obtain ⟨K, hK⟩ := l1_ex m V cs x ok l hm hl hR hT hF n (i + 1) (by omega)
    have hi : i < l.length := by omega
    have hmem : l[i] ∈ l := List.getElem_mem hi
    refine ⟨K + 1, ?_⟩
    rw [QM.trestlelaw14_CnfMeans.l1, if_pos (by omega), if_pos (by omega), if_pos (by omega), rd_at hi, wrapn (n := l.length) hi (by omega)]
    generalize l[i] = y at *
    obtain ⟨h0, h1, h2⟩ := hR y hmem
    cases x with
    | false => rw [if_neg (by decide)]; exact hK
    | true =>
      have ht := hT rfl y hmem
      rw [if_pos rfl, idx_eq (by omega) (by omega)]
      have hb : 0 ≤ mx y (-y) - 1 ∧ mx y (-y) - 1 < m.length := by unfold mx; split <;> omega
      rw [if_pos hb.1, if_pos hb.2, if_neg]
      · exact hK
      · unfold litT at ht
        by_cases hn : y < 0
        · rw [if_pos hn] at ht
          rw [show mx y (-y) - 1 = -y - 1 by unfold mx; split <;> omega, decide_eq_false (by omega)]
          simpa using ht
        · rw [if_neg hn] at ht
          rw [show mx y (-y) - 1 = y - 1 by unfold mx; split <;> omega, decide_eq_true (by omega), ht]
          decide
theorem force_again {V : Int} {cs : List (List Int)} {T : List Int} (hC : (checkE V cs).2 = 0) (hV : V ≤ 8000) (hg : LGood V T) (hs : F1.Shut cs T) : forceE V cs (sortA T) = (sortA T, true, 0) := by
  have hv0 := (checkE_ok hC).1
  have hp : (sortA T).Perm T := List.mergeSort_perm T leA
  have hg2 := good_perm hg hp
  have hlen := good_len hg2 hv0
  have hlo : litsOk V (sortA T) := fun x hx => hg2.rng x hx
  have hle : litsE (sortA T) V = 0 := litsE_of hlo (by omega)
  obtain ⟨S, hS, hmem⟩ := init_some (fun y => y ∈ T) (fun x hx => hg.apart x hx) (sortA T) [] (fun _ h => by cases h) (fun x hx => hp.mem_iff.1 hx)
  have hgS := (init_good (sortA T) [] S (good_nil V) hlo hS).1
  have hST : ∀ y, y ∈ S ↔ y ∈ T := fun y => by
    rw [hmem, hp.mem_iff]
    simp
  have hsS : F1.Shut cs S := fun c hc => by rw [unit_congr hST]; exact hs c hc
  have hf : forceV cs S = some S := forceV_eq (.done (pass_shut cs false hsS))
  unfold forceE
  rw [if_neg (fun h => h hC), if_neg (fun h => h hle), hS, Option.bind_some, hf]
  show (sortA S, true, (0 : Int)) = _
  rw [sortA_perm hg ((List.perm_ext_iff_of_nodup hgS.nodup hg.nodup).2 hST)]
theorem l0_ex (m : List Bool) (V : Int) (cs : List (List Int)) (hC : (checkE V cs).2 = 0) (hV : (m.length : Int) = V) :
    ∀ n i (l : List Int), i + n = m.length → (∀ y ∈ l, (y ≠ 0 ∧ -V ≤ y ∧ y ≤ V) ∧ litT m y = true) → l.length ≤ i → i ≤ 3 * l.length → ∃ K, QM.trestlelaw14_CnfMeans.l0 K m (sat m cs) l (m.length : Int) (i : Int) V cs = some true
  | 0, i, l, h, hl, h1, h2 => by
    obtain ⟨hv0, hv1, _, hall⟩ := checkE_ok hC
    by_cases hb : (l.length : Int) > 1000
    · exact ⟨1, by rw [QM.trestlelaw14_CnfMeans.l0, if_neg (by omega), if_pos hb]⟩
    have hlo : litsOk V l := fun y hy => (hl y hy).1
    have hle : litsE l V = 0 := litsE_of hlo (by omega)
    have ha : AllOk V cs := fun c hc => (litsE_ok (hall c hc)).1
    obtain ⟨S, hS, hmem⟩ := init_some (fun y => y ≠ 0 ∧ litT m y = true) (fun x hx hn => by rw [litT_neg hx.1, hx.2] at hn; simp at hn) l [] (fun _ h => by cases h) (fun y hy => ⟨(hl y hy).1.1, (hl y hy).2⟩)
    have hgS := (init_good l [] S (good_nil V) hlo hS).1
    have hST : ∀ y ∈ S, litT m y = true := fun y hy => by
      rcases (hmem y).1 hy with h | h
      · cases h
      · exact (hl y h).2
    obtain ⟨R, hR⟩ := forces_total hv0 ha (2 * V + 1).toNat S hgS (by omega)
    have hf := forceV_eq hR
    have h0 : ∀ c ∈ cs, ∀ x ∈ c, x ≠ 0 := fun c hc x hx => (ha c hc x hx).1
    cases R with
    | none =>
      have hx : sat m cs = false := by
        cases hs : sat m cs with
        | false => rfl
        | true =>
          obtain ⟨T, hT, _⟩ := forces_sound h0 hs hR hST
          cases hT
      have hE : forceE V cs l = ([], false, 0) := by
        unfold forceE
        rw [if_neg (fun h => h hC), if_neg (fun h => h hle), hS, Option.bind_some, hf]
      obtain ⟨K, hK⟩ := l1_ex m V cs false false [] (by omega) (by decide) (fun y hy => by cases hy) (fun h => by cases h) (fun h => by cases h) 0 0 rfl
      refine ⟨K + 1 + 1, ?_⟩
      rw [QM.trestlelaw14_CnfMeans.l0, if_neg (by omega), if_neg hb]
      unfold cnf_Force.f
      rw [hE, hx]
      simp only [Option.bind_some]
      rw [if_pos trivial, if_neg (by decide), QM.trestlelaw14_CnfMeans.j3, if_neg (by decide)]
      exact hK
    | some T =>
      obtain ⟨hgT, _, hsh⟩ := forces_shut ha hR T rfl hgS
      have hp : (sortA T).Perm T := List.mergeSort_perm T leA
      have hE : forceE V cs l = (sortA T, true, 0) := by
        unfold forceE
        rw [if_neg (fun h => h hC), if_neg (fun h => h hle), hS, Option.bind_some, hf]
      have hlen := good_len (good_perm hgT hp) hv0
      obtain ⟨K, hK⟩ := l1_ex m V cs (sat m cs) true (sortA T) (by omega) (by omega) (fun y hy => by
        have := hgT.rng y (hp.mem_iff.1 hy)
        omega) (fun hs y hy => by
        obtain ⟨T', hT', ht⟩ := forces_sound h0 hs hR hST
        cases hT'
        exact ht y (hp.mem_iff.1 hy)) (fun _ => force_again hC (by omega) hgT hsh) (sortA T).length 0 (by omega)
      refine ⟨K + 1 + 1, ?_⟩
      rw [QM.trestlelaw14_CnfMeans.l0, if_neg (by omega), if_neg hb]
      unfold cnf_Force.f
      rw [hE]
      simp only [Option.bind_some]
      rw [if_pos trivial, if_pos trivial, QM.trestlelaw14_CnfMeans.j3, if_neg (by decide)]
      exact hK
  | n + 1, i, l, h, hl, h1, h2 => by
    obtain ⟨hv0, hv1, _, _⟩ := checkE_ok hC
    have hi : i < m.length := by omega
    by_cases h3 : i % 3 = 0
    · cases hr : rdOf false m (i : Int) with
      | true =>
        obtain ⟨K, hK⟩ := l0_ex m V cs hC hV n (i + 1) (l ++ [((i + 1 : Nat) : Int)]) (by omega) (fun y hy => by
          rcases List.mem_append.1 hy with hy | hy
          · exact hl y hy
          · rw [List.mem_singleton.1 hy]
            refine ⟨by omega, ?_⟩
            unfold litT
            rw [if_neg (by omega), show ((i + 1 : Nat) : Int) - 1 = (i : Int) by omega, hr]) (by simp; omega) (by simp; omega)
        refine ⟨K + 1, ?_⟩
        rw [QM.trestlelaw14_CnfMeans.l0, if_pos (by omega), if_pos (by rw [Int.tmod_eq_emod_of_nonneg (by omega)]; omega), if_pos (by omega), if_pos (by omega), if_pos hr, if_pos (by omega), wrapn (n := m.length) hi (by omega)]
        exact hK
      | false =>
        obtain ⟨K, hK⟩ := l0_ex m V cs hC hV n (i + 1) (l ++ [-(i : Int) - 1]) (by omega) (fun y hy => by
          rcases List.mem_append.1 hy with hy | hy
          · exact hl y hy
          · rw [List.mem_singleton.1 hy]
            refine ⟨by omega, ?_⟩
            unfold litT
            rw [if_pos (by omega), show -(-(i : Int) - 1) - 1 = (i : Int) by omega, hr]
            rfl) (by simp; omega) (by simp; omega)
        refine ⟨K + 1, ?_⟩
        have hw : wrap64 (wrap64 (-(i : Int)) - 1) = -(i : Int) - 1 := by
          have h : wrap64 (-(i : Int)) = -(i : Int) := by unfold wrap64; omega
          rw [h]
          unfold wrap64
          omega
        rw [QM.trestlelaw14_CnfMeans.l0, if_pos (by omega), if_pos (by rw [Int.tmod_eq_emod_of_nonneg (by omega)]; omega), if_pos (by omega), if_pos (by omega), if_neg (by rw [hr]; decide), if_pos (by omega), wrapn (n := m.length) hi (by omega), hw]
        exact hK
    · obtain ⟨K, hK⟩ := l0_ex m V cs hC hV n (i + 1) l (by omega) hl (by omega) (by omega)
      refine ⟨K + 1, ?_⟩
      rw [QM.trestlelaw14_CnfMeans.l0, if_pos (by omega), if_neg (by rw [Int.tmod_eq_emod_of_nonneg (by omega)]; omega), wrapn (n := m.length) hi (by omega)]
      exact hK
theorem means_true (va : Int) (ca : List (List Int)) (vb : Int) (cb : List (List Int)) (m : List Bool) : ∃ k, QM.trestlelaw14_CnfMeans.f k va ca vb cb m = some true := by
  have fail : ∀ e : Int, e ≠ 0 → joinE va ca vb cb = (0, [], e) → ∃ k, QM.trestlelaw14_CnfMeans.f k va ca vb cb m = some true := by
    intro e he hj
    refine ⟨1, ?_⟩
    unfold QM.trestlelaw14_CnfMeans.f
    rw [works_f, Option.bind_some, if_pos rfl]
    unfold cnf_Join.f
    rw [hj]
    simp only [Option.bind_some]
    rw [if_neg he, QM.trestlelaw14_CnfMeans.j0, if_pos rfl]
    rfl
  by_cases ha : (checkE va ca).2 = 0
  · by_cases hb : (checkE vb cb).2 = 0
    · by_cases hl : (ca.length : Int) + cb.length > 524288
      · exact fail 2 (by decide) (by unfold joinE; rw [if_neg (fun h => h ha), if_neg (fun h => h hb), if_pos hl])
      · have hj : joinE va ca vb cb = (max va vb, ca ++ cb, 0) := by unfold joinE; rw [if_neg (fun h => h ha), if_neg (fun h => h hb), if_neg hl]
        by_cases hm : (m.length : Int) = max va vb
        · have hC := check_join ha hb (by omega)
          obtain ⟨a0, a1, _, a3⟩ := checkE_ok ha
          obtain ⟨b0, b1, _, b3⟩ := checkE_ok hb
          obtain ⟨K, hK⟩ := l0_ex m (max va vb) (ca ++ cb) hC hm m.length 0 [] (by omega) (fun y hy => by cases hy) (Nat.le_refl _) (by omega)
          refine ⟨K + 1 + 1, ?_⟩
          unfold QM.trestlelaw14_CnfMeans.f
          rw [works_f, Option.bind_some, if_pos rfl]
          unfold cnf_Join.f
          rw [hj]
          simp only [Option.bind_some]
          rw [if_pos trivial, if_pos hm, if_neg (by omega), decide_eq_false (by omega), QM.trestlelaw14_CnfMeans.j0, if_neg (by decide)]
          have hja := holds_val hC hm
          have hla : ((m.take va.toNat).length : Int) = va := by rw [List.length_take]; omega
          have hlb : ((m.take vb.toNat).length : Int) = vb := by rw [List.length_take]; omega
          have hha := holds_val ha hla
          have hhb := holds_val hb hlb
          have sa : sat (m.take va.toNat) ca = sat m ca := sat_take (fun c hc x hx => by have := (litsE_ok (a3 c hc)).1 x hx; omega)
          have sb : sat (m.take vb.toNat) cb = sat m cb := sat_take (fun c hc x hx => by have := (litsE_ok (b3 c hc)).1 x hx; omega)
          unfold cnf_Holds.f
          simp only [Option.bind_some]
          rw [if_pos a0, if_pos (by omega), if_pos b0, if_pos (by omega), if_pos hja.2, if_pos hha.2, if_pos hhb.2, hja.1, hha.1, hhb.1, sa, sb]
          have hap : sat m (ca ++ cb) = (sat m ca && sat m cb) := sat_app
          have hfl : ∀ b : Bool, b = false → QM.trestlelaw14_CnfMeans.j1 (K + 1) m (sat m (ca ++ cb)) b (max va vb) (ca ++ cb) = some true := by
            rintro b rfl
            rw [QM.trestlelaw14_CnfMeans.j1, if_neg (by decide)]
            exact hK
          cases h1 : sat m ca with
          | true =>
            rw [if_pos rfl]
            refine hfl _ ?_
            rw [hap, h1, Bool.true_and]
            cases sat m cb <;> rfl
          | false =>
            rw [if_neg (by decide)]
            refine hfl _ ?_
            rw [hap, h1, Bool.false_and]
            rfl
        · refine ⟨1, ?_⟩
          unfold QM.trestlelaw14_CnfMeans.f
          rw [works_f, Option.bind_some, if_pos rfl]
          unfold cnf_Join.f
          rw [hj]
          simp only [Option.bind_some]
          rw [if_pos trivial, if_neg hm, QM.trestlelaw14_CnfMeans.j0, if_pos rfl]
          split
          · rfl
          · rfl
    · exact fail _ hb (by unfold joinE; rw [if_neg (fun h => h ha), if_pos hb])
  · exact fail _ ha (by unfold joinE; rw [if_pos ha])
end Go.Proofs.YtjfmoildblcjiaaGreatDoor.M2
end

section
/- What is proved here: a formula that came in is read: the row's data, in the printed words. -/
namespace Go.Proofs.YtjfmoildblcjiaaGreatDoor.Lift
open Go.ChangeShapes Go.WideShapes Go.ChangeAt Go.RowKit Go.Proofs.YtjfmoildblcjiaaGreatDoorW.PrintWords Go.Deep
variable {H : Type} {enc : TypeId × Value → H} {P : Program} {w : World} {base : Nat} {spare : Nat → Bool} {held : Bool}

theorem ints_C {t e : TypeId} {fuel : Nat} {u : Value} {x : DataW H × List MemPlace} (ht : P.underlying t = some (.slice e)) (he : P.underlying e = some (.int .i64)) (hc : P.cellsOf e = 1)
    (h : DataW.trod enc P w base spare held fuel t [u] = some x) : ∃ A c l, u = .slice A (l : List Int).length c ∧ l.length ≤ c ∧ Kd.C (Kd.int .i64) w A l.length l := by
  rcases open_ints ht he hc h with ⟨hcs, _⟩ | ⟨a, len, cap, zs, hcs, _, hl, hm, hz, _, hcell, _⟩
  · injection hcs with hcs _
    exact ⟨none, 0, [], hcs, Nat.le_refl _, rfl, by simp, fun h => absurd h (by simp)⟩
  · injection hcs with hcs _
    have hlz : len ≤ zs.length := by rw [hz]; split <;> omega
    have e1 : (zs.take len).length = len := by rw [List.length_take]; omega
    refine ⟨some a, cap, zs.take len, by rw [e1]; exact hcs, by rw [e1]; exact hl, rfl, by rw [e1]; unfold maxLen at hm; omega, fun _ => ⟨a, rfl, fun j p hj => ⟨[.int .i64 p], rfl, rfl, fun i v hv => ?_⟩⟩⟩
    cases i with
    | succ i => simp at hv
    | zero =>
      obtain rfl : Value.int .i64 p = v := by simpa using hv
      have hjl : j < len := by rw [← e1]; exact (List.getElem?_eq_some_iff.1 hj).1
      have h2 := hcell j (by omega)
      rw [List.getElem?_take, if_pos hjl] at hj
      rw [List.getD_eq_getElem?_getD, hj] at h2
      show w.cell? (a.add (j * 1 + 0)) = _
      rw [Nat.mul_one, Nat.add_zero]
      exact h2
theorem clauses_C {t e e1 : TypeId} {fuel : Nat} {u : Value} {x : DataW H × List MemPlace} (ht : P.underlying t = some (.slice e)) (he : P.underlying e = some (.slice e1)) (hc : P.cellsOf e = 1) (he1 : P.underlying e1 = some (.int .i64)) (hc1 : P.cellsOf e1 = 1)
    (h : DataW.trod enc P w base spare held fuel t [u] = some x) : ∃ A c cs, u = .slice A (cs : List (List Int)).length c ∧ cs.length ≤ c ∧ Kd.C (Kd.slice e1 (Kd.int .i64)) w A cs.length cs := by
  rcases open_slice1 ht hc h with ⟨hcs, _⟩ | ⟨a, len, cap, m, n, V, D, Pl, hcs, _, hl, hm, hmm, _, hV⟩
  · injection hcs with hcs _
    exact ⟨none, 0, [], hcs, Nat.le_refl _, rfl, by simp, fun h => absurd h (by simp)⟩
  · injection hcs with hcs _
    have hlm : len ≤ m := by rw [hmm]; split <;> omega
    obtain ⟨L, hL⟩ := choose_lt (α := List Int) (n := len) (p := fun i l => ∃ A c, V i = .slice A l.length c ∧ l.length ≤ c ∧ Kd.C (Kd.int .i64) w A l.length l) (fun i hi => by
      obtain ⟨A, c, l, h1, h2, h3⟩ := ints_C he he1 hc1 (hV i (by omega)).2
      exact ⟨l, A, c, h1, h2, h3⟩)
    have e2 : ((List.range len).map L).length = len := by simp
    refine ⟨some a, cap, (List.range len).map L, by rw [e2]; exact hcs, by rw [e2]; exact hl, rfl, by rw [e2]; unfold maxLen at hm; omega, fun _ => ⟨a, rfl, fun j p hj => ?_⟩⟩
    have hjl : j < len := by rw [← e2]; exact (List.getElem?_eq_some_iff.1 hj).1
    rw [List.getElem?_map, List.getElem?_range hjl] at hj
    obtain rfl : L j = p := by simpa using hj
    obtain ⟨A, c, h1, h2, h3⟩ := hL j hjl
    refine ⟨[V j], rfl, ⟨A, c, by rw [h1], h2, h3⟩, fun i v hv => ?_⟩
    cases i with
    | succ i => simp at hv
    | zero =>
      obtain rfl : V j = v := by simpa using hv
      show w.cell? (a.add (j * 1 + 0)) = _
      rw [Nat.mul_one, Nat.add_zero]
      exact (hV j (by omega)).1
theorem bools_arg {base : Nat} {held : Bool} {t e : TypeId} {v : Value} {d : DataW H} {ps : List MemPlace} (ht : P.underlying t = some (.slice e)) (he : P.underlying e = some .bool) (hc : P.cellsOf e = 1) (hv : Value.okWide P w .any base t v)
    (h : DataW.Trod enc P w 0 (fun _ => true) held t v d ps) : ∃ A c l, v = .slice A (l : List Bool).length c ∧ l.length ≤ c ∧ Kd.C Kd.bool w A l.length l := by
  obtain ⟨a, n, m, rfl⟩ := okWide_slice ht hv
  obtain ⟨fuel, hf⟩ := h
  rcases open_bools ht he hc hf with ⟨hcs, _⟩ | ⟨a1, len, cap, B, hcs, _, hl, hm, _, hcell⟩
  · simp [Value.cells] at hcs
    obtain ⟨rfl, rfl, rfl⟩ := hcs
    exact ⟨none, 0, [], rfl, Nat.le_refl _, rfl, by simp, fun h => absurd h (by simp)⟩
  · simp [Value.cells] at hcs
    obtain ⟨rfl, rfl, rfl⟩ := hcs
    have e1 : ((List.range n).map B).length = n := by simp
    refine ⟨some a1, m, (List.range n).map B, by rw [e1], by rw [e1]; exact hl, rfl, by rw [e1]; unfold maxLen at hm; omega, fun _ => ⟨a1, rfl, fun j p hj => ⟨[.bool p], rfl, rfl, fun i v hv => ?_⟩⟩⟩
    cases i with
    | succ i => simp at hv
    | zero =>
      obtain rfl : Value.bool p = v := by simpa using hv
      have hjl : j < n := by rw [← e1]; exact (List.getElem?_eq_some_iff.1 hj).1
      rw [List.getElem?_map, List.getElem?_range hjl] at hj
      obtain rfl : B j = p := by simpa using hj
      show w.cell? (a1.add (j * 1 + 0)) = _
      rw [Nat.mul_one, Nat.add_zero]
      exact hcell j (by omega)
end Go.Proofs.YtjfmoildblcjiaaGreatDoor.Lift
end

section
/- What is proved here: the row and the card of CnfMeans. -/
namespace Go.Proofs.YtjfmoildblcjiaaGreatDoor.cnfMeans
open Go.ChangeShapes Go.WideShapes Go.ChangeAt Go.RowKit Go.Proofs.YtjfmoildblcjiaaGreatDoorW.PrintWords
set_option linter.unusedVariables false
theorem own : ownKnob Tryz.prog.godebug = none := by kernel_rfl
theorem laidOut : laidOutB Tryz.prog = true := by kernel_rfl
set_option maxRecDepth 100000 in
theorem lifted (os : Os) (started : os.Started) (H : Type) (enc : TypeId × Value → H) :
    ReturnsInHanded {} Tryz.checked os 8 .any (fun w args => (Rows.cnfMeansSpec.pre enc Tryz.prog Tryz.f8 [] false w args ∧ laidMetH Tryz.prog Rows.cnfMeansRow.laid w) ∧ sizedMet enc Tryz.prog Tryz.f8 (OpenSpec.ofChange Rows.cnfMeansSpec) false w args)
      (Rows.cnfMeansSpec.post enc Tryz.prog Tryz.f8 false true false false) := by
  refine returnsInHanded_of_change_and (C := Tryz.checked) (X := fun w _ => laidMetH Tryz.prog Rows.cnfMeansRow.laid w) (fun _ _ _ hh h => h.of_heap hh) own started (by kernel_rfl) Tryz.func8
    (ChangeSpec.witness_shaped (enc := enc) (C := Tryz.checked) (os := os) (X := fun w _ => laidMetH Tryz.prog Rows.cnfMeansRow.laid w) false (World.laidAll Tryz.prog os Rows.cnfMeansRow.laid) #[.agg #[.int .i64 0, .slice none 0 0], .agg #[.int .i64 0, .slice none 0 0], .slice none 0 0] 8 (World.laidAll_os _ _ _)
      (World.shaped_of_ZipB (by kernel_rfl) (by kernel_rfl)) (by kernel_rfl) (by kernel_rfl) (by kernel_rfl)
      (by rw [MakeChecks.laidMetH_plain _ _ _ (by kernel_rfl)]; exact laidMet_laidAll _ (by kernel_rfl) (by kernel_rfl))) ?_
  intro W base args ds gs before hval0 hW _ _ hL _
  have hval : ∀ (j : Nat) t v, Tryz.f8.params[j]? = some t → args[j]? = some v → Value.okWide Tryz.prog W .any base t v := hval0
  have hW' := hW
  obtain ⟨p, q, hA0, hV, rfl, hfz, hnd⟩ := hW
  have hA : DataW.TrodAll enc Tryz.prog W 0 (fun _ => true) true Tryz.f8.params.toList args.toList ds p := hA0
  rw [Tryz.params8] at hA hval
  obtain ⟨v0, vs0, d0, ds0, p0, q0, hargs, rfl, rfl, h0, r0⟩ := trodAll_cons hA
  obtain ⟨v1, vs1, d1, ds1, p1, q1, rfl, rfl, rfl, h1, r1⟩ := trodAll_cons r0
  obtain ⟨v2, vs2, d2, ds2, p2, q2, rfl, rfl, rfl, h2, r2⟩ := trodAll_cons r1
  obtain ⟨rfl, rfl, rfl⟩ := trodAll_nil r2
  obtain rfl : args = #[v0, v1, v2] := by cases args; simp_all
  obtain ⟨rfl, rfl⟩ := trodVars_none hV
  have k0 := h0
  have k1 := h1
  have k2 := h2
  have lt0 : ∀ x ∈ p0, x.block < W.heap.size := by obtain ⟨m, hm⟩ := k0; exact DataW.trod_lt m _ _ _ hm
  have lt1 : ∀ x ∈ p1, x.block < W.heap.size := by obtain ⟨m, hm⟩ := k1; exact DataW.trod_lt m _ _ _ hm
  have lt2 : ∀ x ∈ p2, x.block < W.heap.size := by obtain ⟨m, hm⟩ := k2; exact DataW.trod_lt m _ _ _ hm
  obtain ⟨u0, u1, y0, y1, n, rfl, _, _, ha, hb⟩ := Go.Joins.open_agg2 Tryz.underlying24 (by kernel_rfl) (by kernel_rfl) (hval 0 24 v0 rfl rfl) h0
  obtain ⟨z, hz, _, _⟩ := DataW.trod_int Tryz.underlying3 ha
  injection hz with hz _
  subst hz
  obtain ⟨A1, c1, cs, rfl, hl1, hC⟩ := Lift.clauses_C Tryz.underlying22 Tryz.underlying65 (by kernel_rfl) Tryz.underlying3 (by kernel_rfl) hb
  obtain ⟨u2, u3, y2, y3, n2, rfl, _, _, ha2, hb2⟩ := Go.Joins.open_agg2 Tryz.underlying24 (by kernel_rfl) (by kernel_rfl) (hval 1 24 v1 rfl rfl) h1
  obtain ⟨z2, hz2, _, _⟩ := DataW.trod_int Tryz.underlying3 ha2
  injection hz2 with hz2 _
  subst hz2
  obtain ⟨A2, c2, cs2, rfl, hl2, hC2⟩ := Lift.clauses_C Tryz.underlying22 Tryz.underlying65 (by kernel_rfl) Tryz.underlying3 (by kernel_rfl) hb2
  obtain ⟨A3, c3, l3, rfl, hl3, hC3⟩ := Lift.bools_arg Tryz.underlying42 Tryz.underlying4 (by kernel_rfl) (hval 2 42 v2 rfl rfl) h2
  clear hA0 hval0
  obtain ⟨k, hk⟩ := M2.means_true z cs z2 cs2 l3
  refine (QM.trestlelaw14_CnfMeans.calls k z A1 c1 cs z2 A2 c2 cs2 A3 c3 l3 true W hC hl1 hC2 hl2 hC3 hl3 hk).mono fun e W' ⟨he, bel⟩ => ?_
  subst he
  exact ⟨_, rfl, _, _, _, [], _, [], hW', trodAll_mk1 (shut_bool Tryz.underlying4 _), (trodAll_cons_mk (Below.trod laidOut (by kernel_rfl) (of_decide_eq_true (by kernel_rfl)) k0 bel lt0) (trodAll_cons_mk (Below.trod laidOut (by kernel_rfl) (of_decide_eq_true (by kernel_rfl)) k1 bel lt1) (trodAll_cons_mk (Below.trod laidOut (by kernel_rfl) (of_decide_eq_true (by kernel_rfl)) k2 bel lt2) trodAll_mk0))), rfl, bel.frame _, fun h => by cases h⟩
theorem holds : Rows.CnfMeansSaid :=
  OpenClaim.holds_of_wide 8 Tryz.f8 rfl rfl rfl rfl rfl rfl rfl ⟨rfl, rfl, rfl, rfl, rfl⟩ rfl rfl rfl rfl rfl (by kernel_rfl) Tryz.func8 (by kernel_rfl)
    (of_decide_eq_true (by kernel_rfl)) (by unfold Func.isWrapper; first | (rw [if_pos (by decide +kernel)]; kernel_rfl) | (rw [if_neg (by decide +kernel)]; exact ⟨rfl, rfl⟩))
    (fun os started H enc _ => lifted os started H enc)
set_option maxRecDepth 100000 in
theorem card : Rows.CnfMeansCardSaid :=
  Claim7.holds_tied_plain_at .later [] [.data, .data, .data, .data, .sentinel, .sentinel, .pinned] true Rows.cnfMeansCard.stood.harness Rows.cnfMeansCard.stood.looks
    holds (fun _ h => by cases h) (by kernel_rfl) (fun _ h => by cases h) cnfMeans_row_tie rfl ⟨rfl, rfl⟩ (by kernel_rfl) rfl
    (fun f fn hf hfn => by
      obtain rfl : f = 8 := Option.some.inj ((show Tryz.prog.funcNamed "trestle/trestlelaw14.CnfMeans" = some 8 by kernel_rfl).symm.trans hf) |>.symm
      obtain rfl : fn = Tryz.f8 := (Option.some.inj (Tryz.func8.symm.trans hfn)).symm
      exact ⟨by kernel_rfl, fun j t ht => by
        rw [Tryz.params8] at ht
        have hm : t ∈ [24, 24, 42] := by simpa using Array.mem_of_getElem? ht
        simp only [List.mem_cons, List.not_mem_nil, or_false] at hm
        rcases hm with rfl | rfl | rfl
        · exact (show Tryz.prog.wantsStandIn 24 = false by kernel_rfl)
        · exact (show Tryz.prog.wantsStandIn 24 = false by kernel_rfl)
        · exact (show Tryz.prog.wantsStandIn 42 = false by kernel_rfl)⟩)
    (by kernel_rfl)
end Go.Proofs.YtjfmoildblcjiaaGreatDoor.cnfMeans
namespace Go.Proofs.YtjfmoildblcjiaaGreatDoor
/-- The card, under a short name, for the claim. -/
theorem cnfMeans_holds : Rows.CnfMeansCardSaid := cnfMeans.card
end Go.Proofs.YtjfmoildblcjiaaGreatDoor
end
