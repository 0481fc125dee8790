/- What is proved here: CnfMeans answers true of every two formulas and every model. (part 5 of 6) No condition. -/
import Derived.Test.YtjfmoildblcjiaaGreatDoorCM4

section
-- Made for this seat by wip/pr.py: the kit's printer, run with functions that were proved by hand.
namespace Go.Proofs.YtjfmoildblcjiaaGreatDoor.QM
open Go.Proofs.YtjfmoildblcjiaaGreatDoor.Orc Go.Proofs.YtjfmoildblcjiaaGreatDoor.QO Go.RowKit Go.Proofs.YtjfmoildblcjiaaGreatDoorW.PrintWords Go.Proofs.YtjfmoildblcjiaaGreatDoorW.PrintLast Go.Proofs.YtjfmoildblcjiaaGreatDoorW.PrintMore
attribute [local go_sem] max2_int min2_int max_two min_two max_three min_three max_four min_four   -- for this text's walks alone
set_option linter.unusedVariables false
set_option linter.unusedSimpArgs false

/-! ### trestlelaw14_CnfMeans: function 8 -/
mutual
noncomputable def trestlelaw14_CnfMeans.j0 : Nat → List Bool → Int → Bool → Int → List (List Int) → Int → List (List Int) → Int → List (List Int) → Option (Bool)
 | 0, _, _, _, _, _, _, _, _, _ => none
 | k + 1, x2, x8, x53, x102000, x102001, x103000, x103001, x110000, x110001 => if x53 = true then (if (x110001.length : Int) = 0 then (some true) else (some (x8 == 0))) else ((cnf_Holds.f x110000 x110001 x2).bind fun bt110 => (if 0 ≤ x102000 then (if x102000 ≤ (x2.length : Int) then ((cnf_Holds.f x102000 x102001 (x2.take (x102000 : Int).toNat)).bind fun bt114 => (if 0 ≤ x103000 then (if x103000 ≤ (x2.length : Int) then ((cnf_Holds.f x103000 x103001 (x2.take (x103000 : Int).toNat)).bind fun bt118 => (if bt110.2.2 = 0 then (if bt114.2.2 = 0 then (if bt118.2.2 = 0 then (if bt114.1 = true then (trestlelaw14_CnfMeans.j1 k x2 bt110.1 (bt110.1 != bt118.1) x110000 x110001) else (trestlelaw14_CnfMeans.j1 k x2 bt110.1 (bt110.1 != false) x110000 x110001)) else (trestlelaw14_CnfMeans.j1 k x2 bt110.1 true x110000 x110001)) else (trestlelaw14_CnfMeans.j1 k x2 bt110.1 true x110000 x110001)) else (trestlelaw14_CnfMeans.j1 k x2 bt110.1 true x110000 x110001))) else (none)) else (none))) else (none)) else (none)))
noncomputable def trestlelaw14_CnfMeans.j1 : Nat → List Bool → Bool → Bool → Int → List (List Int) → Option (Bool)
 | 0, _, _, _, _, _ => none
 | k + 1, x2, x9, x106, x110000, x110001 => if x106 = true then (some false) else (trestlelaw14_CnfMeans.l0 k x2 x9 ([] : List Int) (x2.length : Int) 0 x110000 x110001)
noncomputable def trestlelaw14_CnfMeans.l0 : Nat → List Bool → Bool → List Int → Int → Int → Int → List (List Int) → Option (Bool)
 | 0, _, _, _, _, _, _, _ => none
 | k + 1, x2, x9, x18, x108, x109, x110000, x110001 => if x109 < x108 then (if (Int.tmod x109 3) = 0 then (if 0 ≤ x109 then (if x109 < (x2.length : Int) then (if rdOf false x2 x109 = true then (if x18.length < 17592186044416 then (trestlelaw14_CnfMeans.l0 k x2 x9 (x18 ++ [wrap64 (x109 + 1)]) x108 (wrap64 (x109 + 1)) x110000 x110001) else (none)) else (if x18.length < 17592186044416 then (trestlelaw14_CnfMeans.l0 k x2 x9 (x18 ++ [wrap64 ((wrap64 (-x109)) - 1)]) x108 (wrap64 (x109 + 1)) x110000 x110001) else (none))) else (none)) else (none)) else (trestlelaw14_CnfMeans.l0 k x2 x9 x18 x108 (wrap64 (x109 + 1)) x110000 x110001)) else (if (x18.length : Int) > 1000 then (some true) else ((cnf_Force.f x110000 x110001 x18).bind fun bt128 => (if bt128.2.2 = 0 then (if bt128.2.1 = true then (trestlelaw14_CnfMeans.j3 k x2 x9 bt128.1 bt128.2.1 false x110000 x110001) else (trestlelaw14_CnfMeans.j3 k x2 x9 bt128.1 bt128.2.1 x9 x110000 x110001)) else (trestlelaw14_CnfMeans.j3 k x2 x9 bt128.1 bt128.2.1 true x110000 x110001))))
noncomputable def trestlelaw14_CnfMeans.j3 : Nat → List Bool → Bool → List Int → Bool → Bool → Int → List (List Int) → Option (Bool)
 | 0, _, _, _, _, _, _, _ => none
 | k + 1, x2, x9, x20, x21, x149, x110000, x110001 => if x149 = true then (some false) else (trestlelaw14_CnfMeans.l1 k x2 x9 x20 x21 x20 (x20.length : Int) 0 x110000 x110001)
noncomputable def trestlelaw14_CnfMeans.l1 : Nat → List Bool → Bool → List Int → Bool → List Int → Int → Int → Int → List (List Int) → Option (Bool)
 | 0, _, _, _, _, _, _, _, _, _ => none
 | k + 1, x2, x9, x20, x21, x150, x151, x152, x110000, x110001 => if x152 < x151 then (if 0 ≤ x152 then (if x152 < (x150.length : Int) then (if x9 = true then (if 0 ≤ (wrap64 ((mx (rd x150 x152) (wrap64 (-(rd x150 x152)))) - 1)) then (if (wrap64 ((mx (rd x150 x152) (wrap64 (-(rd x150 x152)))) - 1)) < (x2.length : Int) then (if ((rdOf false x2 (wrap64 ((mx (rd x150 x152) (wrap64 (-(rd x150 x152)))) - 1))) != (decide ((rd x150 x152) > 0))) = true then (some false) else (trestlelaw14_CnfMeans.l1 k x2 x9 x20 x21 x150 x151 (wrap64 (x152 + 1)) x110000 x110001)) else (none)) else (none)) else (trestlelaw14_CnfMeans.l1 k x2 x9 x20 x21 x150 x151 (wrap64 (x152 + 1)) x110000 x110001)) else (none)) else (none)) else (if x21 = true then ((cnf_Force.f x110000 x110001 x20).bind fun bt135 => (if bt135.2.2 = 0 then (if bt135.2.1 = true then (trestlelaw14_CnfMeans.j5 k x20 bt135.1 ((bt135.1.length : Int) != (x20.length : Int))) else (trestlelaw14_CnfMeans.j5 k x20 bt135.1 true)) else (trestlelaw14_CnfMeans.j5 k x20 bt135.1 true))) else (some true))
noncomputable def trestlelaw14_CnfMeans.j5 : Nat → List Int → List Int → Bool → Option (Bool)
 | 0, _, _, _ => none
 | k + 1, x20, x25, x192 => if x192 = true then (some false) else (trestlelaw14_CnfMeans.l2 k x20 x25 (x20.length : Int) 0)
noncomputable def trestlelaw14_CnfMeans.l2 : Nat → List Int → List Int → Int → Int → Option (Bool)
 | 0, _, _, _, _ => none
 | k + 1, x20, x25, x194, x195 => if x195 < x194 then (if 0 ≤ x195 then (if x195 < (x25.length : Int) then (if x195 < (x20.length : Int) then (if (rd x25 x195) = (rd x20 x195) then (trestlelaw14_CnfMeans.l2 k x20 x25 x194 (wrap64 (x195 + 1))) else (some false)) else (none)) else (none)) else (none)) else (some true)
end
noncomputable def trestlelaw14_CnfMeans.f (k : Nat) (a0_0 : Int) (l0_1 : List (List Int)) (a1_0 : Int) (l1_1 : List (List Int)) (l2 : List Bool) : Option (Bool) := (trestlelaw14_works.f).bind fun t103 => (if t103 = true then ((cnf_Join.f a0_0 l0_1 a1_0 l1_1).bind fun bt104 => (if bt104.2.2 = 0 then (if (l2.length : Int) = bt104.1 then (if a0_0 < 0 then (trestlelaw14_CnfMeans.j0 k l2 bt104.2.2 true a0_0 l0_1 a1_0 l1_1 bt104.1 bt104.2.1) else (trestlelaw14_CnfMeans.j0 k l2 bt104.2.2 (decide (a1_0 < 0)) a0_0 l0_1 a1_0 l1_1 bt104.1 bt104.2.1)) else (trestlelaw14_CnfMeans.j0 k l2 bt104.2.2 true a0_0 l0_1 a1_0 l1_1 bt104.1 bt104.2.1)) else (trestlelaw14_CnfMeans.j0 k l2 bt104.2.2 true a0_0 l0_1 a1_0 l1_1 bt104.1 bt104.2.1))) else (some false))
noncomputable def trestlelaw14_CnfMeans.T7 : Bool × List (List Nat × List Nat) := (true, [([], []), ([], []), ([], []), ([2], [2]), ([1, 3], [1, 3]), ([0, 4], [0, 4]), ([5], [5]), ([6], [6]), ([6], [6]), ([6], [6]), ([7, 5, 0, 1, 2, 3, 4, 5, 6, 7], [7]), ([8, 10, 0, 1, 2, 3, 4, 5, 6, 7, 8, 10], [8]), ([9, 11, 0, 1, 2, 3, 4, 5, 6, 7, 8, 9, 10, 11], [9])])
noncomputable def trestlelaw14_CnfMeans.B7 : List Nat := [0, 0, 0, 4, 14, 31, 63, 127, 127, 127, 255, 1535, 4095]
theorem trestlelaw14_CnfMeans.tab7 : rtab .any (opsOf Tryz.f8 7) = trestlelaw14_CnfMeans.T7 := by kernel_rfl
theorem trestlelaw14_CnfMeans.bits7 : waitsOk trestlelaw14_CnfMeans.T7.2 trestlelaw14_CnfMeans.B7 = true := by kernel_rfl
noncomputable def trestlelaw14_CnfMeans.T8 : Bool × List (List Nat × List Nat) := (true, [([], []), ([], []), ([], []), ([2], [2]), ([1, 3], [1, 3]), ([0, 4], [0, 4]), ([5], [5]), ([6], [6]), ([6], [6]), ([6], [6]), ([7, 5, 0, 1, 2, 3, 4, 5, 6, 7], [7]), ([8, 10, 0, 1, 2, 3, 4, 5, 6, 7, 8, 10], [8]), ([9, 11, 0, 1, 2, 3, 4, 5, 6, 7, 8, 9, 10, 11], [9])])
noncomputable def trestlelaw14_CnfMeans.B8 : List Nat := [0, 0, 0, 4, 14, 31, 63, 127, 127, 127, 255, 1535, 4095]
theorem trestlelaw14_CnfMeans.tab8 : rtab .any (opsOf Tryz.f8 8) = trestlelaw14_CnfMeans.T8 := by kernel_rfl
theorem trestlelaw14_CnfMeans.bits8 : waitsOk trestlelaw14_CnfMeans.T8.2 trestlelaw14_CnfMeans.B8 = true := by kernel_rfl
noncomputable def trestlelaw14_CnfMeans.T39 : Bool × List (List Nat × List Nat) := (true, [([], []), ([], []), ([0, 1], [0, 1]), ([2], [2]), ([], []), ([], []), ([4, 5], [4, 5]), ([6], [6]), ([3, 7], [3, 7])])
noncomputable def trestlelaw14_CnfMeans.B39 : List Nat := [0, 0, 3, 7, 0, 0, 48, 112, 255]
theorem trestlelaw14_CnfMeans.tab39 : rtab .any (opsOf Tryz.f8 39) = trestlelaw14_CnfMeans.T39 := by kernel_rfl
theorem trestlelaw14_CnfMeans.bits39 : waitsOk trestlelaw14_CnfMeans.T39.2 trestlelaw14_CnfMeans.B39 = true := by kernel_rfl
set_option maxHeartbeats 8000000 in
set_option maxRecDepth 100000 in
theorem trestlelaw14_CnfMeans.calls (k : Nat) (a0_0 : Int) (A0_1 : Option Addr) (c0_1 : Nat) (l0_1 : List (List Int)) (a1_0 : Int) (A1_1 : Option Addr) (c1_1 : Nat) (l1_1 : List (List Int)) (A2 : Option Addr) (c2 : Nat) (l2 : List Bool) (r : Bool) (w : World) (hr0_1 : Kd.C (Kd.slice 3 (Kd.int .i64)) w A0_1 l0_1.length l0_1) (hc0_1 : l0_1.length ≤ c0_1) (hr1_1 : Kd.C (Kd.slice 3 (Kd.int .i64)) w A1_1 l1_1.length l1_1) (hc1_1 : l1_1.length ≤ c1_1) (hr2 : Kd.C Kd.bool w A2 l2.length l2) (hc2 : l2.length ≤ c2) (h : trestlelaw14_CnfMeans.f k a0_0 l0_1 a1_0 l1_1 l2 = some r) :
  Calls Tryz.prog 8 #[.agg #[.int .i64 a0_0, .slice A0_1 l0_1.length c0_1], .agg #[.int .i64 a1_0, .slice A1_1 l1_1.length c1_1], .slice A2 l2.length c2] w fun e w' => e = .returned (.bool r) ∧ Below w.heap.size w w' := by
 have hu24 := Tryz.underlying24
 have HR0_1 := Aside0.mk hr0_1
 have HC0_1 := Aside0.mk hc0_1
 clear hr0_1 hc0_1
 have HR1_1 := Aside0.mk hr1_1
 have HC1_1 := Aside0.mk hc1_1
 clear hr1_1 hc1_1
 have HR2 := Aside0.mk hr2
 have HC2 := Aside0.mk hc2
 clear hr2 hc2
 have HB := Aside0.mk (Below.refl w.heap.size w)
 have H : ((trestlelaw14_works.f).bind fun t103 => (if t103 = true then ((cnf_Join.f a0_0 l0_1 a1_0 l1_1).bind fun bt104 => (if bt104.2.2 = 0 then (if (l2.length : Int) = bt104.1 then (if a0_0 < 0 then (trestlelaw14_CnfMeans.j0 k l2 bt104.2.2 true a0_0 l0_1 a1_0 l1_1 bt104.1 bt104.2.1) else (trestlelaw14_CnfMeans.j0 k l2 bt104.2.2 (decide (a1_0 < 0)) a0_0 l0_1 a1_0 l1_1 bt104.1 bt104.2.1)) else (trestlelaw14_CnfMeans.j0 k l2 bt104.2.2 true a0_0 l0_1 a1_0 l1_1 bt104.1 bt104.2.1)) else (trestlelaw14_CnfMeans.j0 k l2 bt104.2.2 true a0_0 l0_1 a1_0 l1_1 bt104.1 bt104.2.1))) else (some false))) = some r := h
 clear h
 replace H := Option.bind_eq_some_iff.mp H
 obtain ⟨t103, A40, H⟩ := H
 replace H : (if t103 = true then ((cnf_Join.f a0_0 l0_1 a1_0 l1_1).bind fun bt104 => (if bt104.2.2 = 0 then (if (l2.length : Int) = bt104.1 then (if a0_0 < 0 then (trestlelaw14_CnfMeans.j0 k l2 bt104.2.2 true a0_0 l0_1 a1_0 l1_1 bt104.1 bt104.2.1) else (trestlelaw14_CnfMeans.j0 k l2 bt104.2.2 (decide (a1_0 < 0)) a0_0 l0_1 a1_0 l1_1 bt104.1 bt104.2.1)) else (trestlelaw14_CnfMeans.j0 k l2 bt104.2.2 true a0_0 l0_1 a1_0 l1_1 bt104.1 bt104.2.1)) else (trestlelaw14_CnfMeans.j0 k l2 bt104.2.2 true a0_0 l0_1 a1_0 l1_1 bt104.1 bt104.2.1))) else (some false)) = some r := H
 have A4 := Aside0.mk A40
 clear A40
 by_cases c5 : t103 = true
 ·subst c5
  have H1 : ((cnf_Join.f a0_0 l0_1 a1_0 l1_1).bind fun bt104 => (if bt104.2.2 = 0 then (if (l2.length : Int) = bt104.1 then (if a0_0 < 0 then (trestlelaw14_CnfMeans.j0 k l2 bt104.2.2 true a0_0 l0_1 a1_0 l1_1 bt104.1 bt104.2.1) else (trestlelaw14_CnfMeans.j0 k l2 bt104.2.2 (decide (a1_0 < 0)) a0_0 l0_1 a1_0 l1_1 bt104.1 bt104.2.1)) else (trestlelaw14_CnfMeans.j0 k l2 bt104.2.2 true a0_0 l0_1 a1_0 l1_1 bt104.1 bt104.2.1)) else (trestlelaw14_CnfMeans.j0 k l2 bt104.2.2 true a0_0 l0_1 a1_0 l1_1 bt104.1 bt104.2.1))) = some r := by rw [if_pos rfl] at H; exact H
  clear H
  have H := H1
  clear H1
  replace H := Option.bind_eq_some_iff.mp H
  obtain ⟨⟨t104, t105, t108⟩, A60, H⟩ := H
  replace H : (if t108 = 0 then (if (l2.length : Int) = t104 then (if a0_0 < 0 then (trestlelaw14_CnfMeans.j0 k l2 t108 true a0_0 l0_1 a1_0 l1_1 t104 t105) else (trestlelaw14_CnfMeans.j0 k l2 t108 (decide (a1_0 < 0)) a0_0 l0_1 a1_0 l1_1 t104 t105)) else (trestlelaw14_CnfMeans.j0 k l2 t108 true a0_0 l0_1 a1_0 l1_1 t104 t105)) else (trestlelaw14_CnfMeans.j0 k l2 t108 true a0_0 l0_1 a1_0 l1_1 t104 t105)) = some r := H
  have A6 := Aside0.mk A60
  clear A60
  have HC7 := Aside0.mk H
  clear H
  go_enter Tryz.func8, Tryz.ntmps8
  go_upto_region 4 with (first | ((with_reducible refine gate_dst (N := 3) rfl ?_); (try (refine gate_guard (by rfl) ?_; dsimp only)); refine box_event ?hg (N := 3) ?hd (cs := #[.int .i64 a0_0, .slice A0_1 l0_1.length c0_1]) (t := 24) ?hr ?_; (case hd => rfl); (case hg => rfl); (case hr => first | (go_simp; done) | (go_simp; rfl)); intro gb101 hg w8 hbox hb; have n0_ := Aside0.mk (below_step (by repeat (first | (with_reducible first | exact HB.out | apply below_alloc | apply pw_below_drewN | apply below_drew1) | exact HB.out)) hb); have n1_ := Aside0.mk (hbox); have n2_ := Aside0.mk ((by rw [hg]; exact (below_size (by repeat (first | (with_reducible first | exact HB.out | apply below_alloc | apply pw_below_drewN | apply below_drew1) | exact HB.out))) : w.heap.size ≤ gb101)); have n3_ := Aside0.mk ((by rw [hg]; exact (below_size (by repeat (first | (with_reducible first | exact HB.out | apply below_alloc | apply pw_below_drewN | apply below_drew1) | exact HB.out))) : w.heap.size ≤ gb101)); clear HB; have HB := n0_; have BK101 := n1_; have GW101 := n2_; have GE101 := n3_; clear n0_ n1_ n2_ n3_; clear hb hbox hg) | ((with_reducible refine gate_dst (N := 4) rfl ?_); (try (refine gate_guard (by rfl) ?_; dsimp only)); refine box_event ?hg (N := 4) ?hd (cs := #[.int .i64 a1_0, .slice A1_1 l1_1.length c1_1]) (t := 24) ?hr ?_; (case hd => rfl); (case hg => rfl); (case hr => first | (go_simp; done) | (go_simp; rfl)); intro gb102 hg w9 hbox hb; have n0_ := Aside0.mk (blk_below (g := gb101) (o := .cells #[.int .i64 a0_0, .slice A0_1 l0_1.length c0_1] 24 (0, 0)) (by (with_reducible repeat (first | refine blk_drewN ?_ _ | refine blk_drew ?_ | refine blk_alloc ?_ _)); exact BK101.out) hb); have n1_ := Aside0.mk (below_step (by repeat (first | (with_reducible first | exact HB.out | apply below_alloc | apply pw_below_drewN | apply below_drew1 | refine below_set ?_ GE101.out) | exact HB.out)) hb); have n2_ := Aside0.mk (hbox); have n3_ := Aside0.mk ((by rw [hg]; exact (below_size (by repeat (first | (with_reducible first | exact HB.out | apply below_alloc | apply pw_below_drewN | apply below_drew1 | refine below_set ?_ GE101.out) | exact HB.out))) : w.heap.size ≤ gb102)); have n4_ := Aside0.mk ((by rw [hg]; exact (below_size (by repeat (first | (with_reducible first | exact HB.out | apply below_alloc | apply pw_below_drewN | apply below_drew1 | refine below_set ?_ GE101.out) | exact HB.out))) : w.heap.size ≤ gb102)); have n5_ := Aside0.mk ((by rw [hg]; exact Nat.ne_of_lt (blk_lt (g := gb101) (o := .cells #[.int .i64 a0_0, .slice A0_1 l0_1.length c0_1] 24 (0, 0)) (by (with_reducible repeat (first | refine blk_drewN ?_ _ | refine blk_drew ?_ | refine blk_alloc ?_ _)); exact BK101.out)) : gb101 ≠ gb102)); have n6_ := Aside0.mk ((by rw [hg]; exact Nat.ne_of_gt (blk_lt (g := gb101) (o := .cells #[.int .i64 a0_0, .slice A0_1 l0_1.length c0_1] 24 (0, 0)) (by (with_reducible repeat (first | refine blk_drewN ?_ _ | refine blk_drew ?_ | refine blk_alloc ?_ _)); exact BK101.out)) : gb102 ≠ gb101)); clear BK101; clear HB; have BK101 := n0_; have HB := n1_; have BK102 := n2_; have GW102 := n3_; have GE102 := n4_; have NB101_102 := n5_; have NB102_101 := n6_; clear n0_ n1_ n2_ n3_ n4_ n5_ n6_; clear hb hbox hg) | ((with_reducible refine gate_callee (f := 16) rfl ?_); refine goesL_ (some 27) rfl rfl Tryz.func16 (by kernel_rfl) rfl #[] rfl (by (try simp only [List.map_toArray, List.map_cons, List.map_nil]); first | done | rfl | (simp only [List.length_drop, List.length_take]; rfl)) ?_; (with_reducible refine (trestlelaw14_works.calls  true _ A4.out).mono ?_); rintro e w10 ⟨rfl, hb⟩; refine ⟨_, rfl, ?_⟩; have n0_ := Aside0.mk (blk_below (g := gb101) (o := .cells #[.int .i64 a0_0, .slice A0_1 l0_1.length c0_1] 24 (0, 0)) (by (with_reducible repeat (first | refine blk_drewN ?_ _ | refine blk_drew ?_ | refine blk_alloc ?_ _)); exact BK101.out) hb); have n1_ := Aside0.mk (blk_below (g := gb102) (o := .cells #[.int .i64 a1_0, .slice A1_1 l1_1.length c1_1] 24 (0, 0)) (by (with_reducible repeat (first | refine blk_drewN ?_ _ | refine blk_drew ?_ | refine blk_alloc ?_ _)); exact BK102.out) hb); have n2_ := Aside0.mk (below_step (by repeat (first | (with_reducible first | exact HB.out | apply below_alloc | apply pw_below_drewN | apply below_drew1 | refine below_set ?_ GE101.out | refine below_set ?_ GE102.out) | exact HB.out)) hb); clear BK101; clear BK102; clear HB; have BK101 := n0_; have BK102 := n1_; have HB := n2_; clear n0_ n1_ n2_; (try clear hb); (try clear hb2); (try clear hk); (try clear hi); have hnb11 := NB101_102.out; have hnc11 := NB102_101.out; have hcz12_0 : w10.cell? ⟨gb101, 0, none⟩ = some (.int .i64 a0_0) := (blk_cell BK101.out 0).trans rfl; have hcz12_1 : w10.cell? ⟨gb101, 1, none⟩ = some (.slice A0_1 l0_1.length c0_1) := (blk_cell BK101.out 1).trans rfl; have hfz12_0 := blk_frozen BK101.out 0; have hfz12_1 := blk_frozen BK101.out 1; have hcz13_0 : w10.cell? ⟨gb102, 0, none⟩ = some (.int .i64 a1_0) := (blk_cell BK102.out 0).trans rfl; have hcz13_1 : w10.cell? ⟨gb102, 1, none⟩ = some (.slice A1_1 l1_1.length c1_1) := (blk_cell BK102.out 1).trans rfl; have hfz13_0 := blk_frozen BK102.out 0; have hfz13_1 := blk_frozen BK102.out 1) | ((with_reducible refine gate_callee (f := 38) rfl ?_); refine goesL_ (some 32) rfl rfl Tryz.func38 (by kernel_rfl) rfl #[.agg #[.int .i64 a0_0, .slice A0_1 l0_1.length c0_1], .agg #[.int .i64 a1_0, .slice A1_1 l1_1.length c1_1]] rfl (by (try simp only [List.map_toArray, List.map_cons, List.map_nil]); first | done | rfl | (simp only [List.length_drop, List.length_take]; rfl)) ?_; (with_reducible refine (cnf_Join.calls a0_0 _ _ l0_1 a1_0 _ _ l1_1 t104 t105 t108 _ ?side1 ?side2 ?side3 ?side4 A6.out).mono ?_); (case side1 => repeat (first | exact (Kd.C_below HR0_1.out HB.out) | (with_reducible refine Kd.C_alloc ?_ _) | (with_reducible refine Kd.C_drewN ?_ _) | (with_reducible refine Kd.C_drew ?_))); (case side2 => exact HC0_1.out); (case side3 => repeat (first | exact (Kd.C_below HR1_1.out HB.out) | (with_reducible refine Kd.C_alloc ?_ _) | (with_reducible refine Kd.C_drewN ?_ _) | (with_reducible refine Kd.C_drew ?_))); (case side4 => exact HC1_1.out); rintro e w14 ⟨v106, rfl, ho0, hb⟩; refine ⟨_, rfl, ?_⟩; have n0_ := Aside0.mk (Kd.S_lower ho0 (below_size (by repeat (first | (with_reducible first | exact HB.out | apply below_alloc | apply pw_below_drewN | apply below_drew1 | refine below_set ?_ GE101.out | refine below_set ?_ GE102.out) | exact HB.out)))); have n1_ := Aside0.mk (blk_below (g := gb101) (o := .cells #[.int .i64 a0_0, .slice A0_1 l0_1.length c0_1] 24 (0, 0)) (by (with_reducible repeat (first | refine blk_drewN ?_ _ | refine blk_drew ?_ | refine blk_alloc ?_ _)); exact BK101.out) hb); have n2_ := Aside0.mk (blk_below (g := gb102) (o := .cells #[.int .i64 a1_0, .slice A1_1 l1_1.length c1_1] 24 (0, 0)) (by (with_reducible repeat (first | refine blk_drewN ?_ _ | refine blk_drew ?_ | refine blk_alloc ?_ _)); exact BK102.out) hb); have n3_ := Aside0.mk (below_step (by repeat (first | (with_reducible first | exact HB.out | apply below_alloc | apply pw_below_drewN | apply below_drew1 | refine below_set ?_ GE101.out | refine below_set ?_ GE102.out) | exact HB.out)) hb); clear BK101; clear BK102; clear HB; have HO107 := n0_; have BK101 := n1_; have BK102 := n2_; have HB := n3_; clear n0_ n1_ n2_ n3_; (try clear hb); (try clear hb2); (try clear hk); (try clear hi); (try clear ho0)) | ((with_reducible refine gate_dst (N := 7) rfl ?_); (try (refine gate_guard (by rfl) ?_; dsimp only)); refine box_event ?hg (N := 7) ?hd (cs := #[.int .i64 0, .slice none 0 0]) (t := 24) ?hr ?_; (case hd => rfl); (case hg => rfl); (case hr => first | (go_simp; done) | (go_simp; rfl)); intro gb109 hg w15 hbox hb; have n0_ := Aside0.mk (Kd.S_below (by (with_reducible repeat (first | apply Kd.S_alloc | apply Kd.S_drewN | apply Kd.S_drew)); exact HO107.out) hb); have n1_ := Aside0.mk (blk_below (g := gb101) (o := .cells #[.int .i64 a0_0, .slice A0_1 l0_1.length c0_1] 24 (0, 0)) (by (with_reducible repeat (first | refine blk_drewN ?_ _ | refine blk_drew ?_ | refine blk_alloc ?_ _)); exact BK101.out) hb); have n2_ := Aside0.mk (blk_below (g := gb102) (o := .cells #[.int .i64 a1_0, .slice A1_1 l1_1.length c1_1] 24 (0, 0)) (by (with_reducible repeat (first | refine blk_drewN ?_ _ | refine blk_drew ?_ | refine blk_alloc ?_ _)); exact BK102.out) hb); have n3_ := Aside0.mk (below_step (by repeat (first | (with_reducible first | exact HB.out | apply below_alloc | apply pw_below_drewN | apply below_drew1 | refine below_set ?_ GE101.out | refine below_set ?_ GE102.out) | exact HB.out)) hb); have n4_ := Aside0.mk (hbox); have n5_ := Aside0.mk ((by rw [hg]; exact (below_size (by repeat (first | (with_reducible first | exact HB.out | apply below_alloc | apply pw_below_drewN | apply below_drew1 | refine below_set ?_ GE101.out | refine below_set ?_ GE102.out) | exact HB.out))) : w.heap.size ≤ gb109)); have n6_ := Aside0.mk ((by rw [hg]; exact (below_size (by repeat (first | (with_reducible first | exact HB.out | apply below_alloc | apply pw_below_drewN | apply below_drew1 | refine below_set ?_ GE101.out | refine below_set ?_ GE102.out) | exact HB.out))) : w.heap.size ≤ gb109)); have n7_ := Aside0.mk ((by rw [hg]; exact Nat.ne_of_lt (blk_lt (g := gb101) (o := .cells #[.int .i64 a0_0, .slice A0_1 l0_1.length c0_1] 24 (0, 0)) (by (with_reducible repeat (first | refine blk_drewN ?_ _ | refine blk_drew ?_ | refine blk_alloc ?_ _)); exact BK101.out)) : gb101 ≠ gb109)); have n8_ := Aside0.mk ((by rw [hg]; exact Nat.ne_of_gt (blk_lt (g := gb101) (o := .cells #[.int .i64 a0_0, .slice A0_1 l0_1.length c0_1] 24 (0, 0)) (by (with_reducible repeat (first | refine blk_drewN ?_ _ | refine blk_drew ?_ | refine blk_alloc ?_ _)); exact BK101.out)) : gb109 ≠ gb101)); have n9_ := Aside0.mk ((by rw [hg]; exact Nat.ne_of_lt (blk_lt (g := gb102) (o := .cells #[.int .i64 a1_0, .slice A1_1 l1_1.length c1_1] 24 (0, 0)) (by (with_reducible repeat (first | refine blk_drewN ?_ _ | refine blk_drew ?_ | refine blk_alloc ?_ _)); exact BK102.out)) : gb102 ≠ gb109)); have n10_ := Aside0.mk ((by rw [hg]; exact Nat.ne_of_gt (blk_lt (g := gb102) (o := .cells #[.int .i64 a1_0, .slice A1_1 l1_1.length c1_1] 24 (0, 0)) (by (with_reducible repeat (first | refine blk_drewN ?_ _ | refine blk_drew ?_ | refine blk_alloc ?_ _)); exact BK102.out)) : gb109 ≠ gb102)); clear HO107; clear BK101; clear BK102; clear HB; have HO107 := n0_; have BK101 := n1_; have BK102 := n2_; have HB := n3_; have BK109 := n4_; have GW109 := n5_; have GE109 := n6_; have NB101_109 := n7_; have NB109_101 := n8_; have NB102_109 := n9_; have NB109_102 := n10_; clear n0_ n1_ n2_ n3_ n4_ n5_ n6_ n7_ n8_ n9_ n10_; clear hb hbox hg; have hnb16 := NB109_101.out; have hnc16 := NB101_109.out; have hnb17 := NB109_102.out; have hnc17 := NB102_109.out; have hcz18_0 : w15.cell? ⟨gb109, 0, none⟩ = some (.int .i64 0) := (blk_cell BK109.out 0).trans rfl; have hcz18_1 : w15.cell? ⟨gb109, 1, none⟩ = some (.slice none 0 0) := (blk_cell BK109.out 1).trans rfl; have hfz18_0 := blk_frozen BK109.out 0; have hfz18_1 := blk_frozen BK109.out 1; obtain ⟨Ao19, co19, eo19⟩ := Kd.S_slice HO107.out; subst eo19))
  (try simp only [Act.put, List.setIfInBounds_toArray, List.set_cons_zero, List.set_cons_succ])
  go_cut [53] (fun v53 wc => ∃ (kq : Nat) (x53_6 : Bool), v53 = .bool x53_6 ∧ Aside0 (trestlelaw14_CnfMeans.j0 kq l2 t108 x53_6 a0_0 l0_1 a1_0 l1_1 t104 t105 = some r) ∧ Aside0 (kq ≤ k) ∧ Aside0 (Kd.S (Kd.slice 3 (Kd.int .i64)) 65 wc w.heap.size (fun _ => True) (.slice Ao19 t105.length co19) t105) ∧ Aside0 (wc.heap[gb101]? = some (.cells #[.int .i64 a0_0, (.slice A0_1 l0_1.length c0_1)] 24 (0, 0))) ∧ Aside0 (wc.heap[gb102]? = some (.cells #[.int .i64 a1_0, (.slice A1_1 l1_1.length c1_1)] 24 (0, 0))) ∧ Aside0 (wc.heap[gb109]? = some (.cells #[.int .i64 t104, (.slice Ao19 t105.length co19)] 24 (0, 0))) ∧ Aside0 (Below w.heap.size w wc))
  case first =>
   have H := HC7.out
   clear HC7
   by_cases c20 : t108 = 0
   ·rw [if_pos c20] at H
    have c20b0 : (t108 == 0) = true := beq_iff_eq.mpr c20
    have c20b1 : (t108 != 0) = false := bne_eq_false_iff_eq.mpr c20
    clear c20
    (first | rw [c20b0] | (simp only [i64_w, i32_w]; rw [c20b0]) | skip)
    by_cases c21 : (l2.length : Int) = t104
    ·rw [if_pos c21] at H
     have c21b0 : ((l2.length : Int) == t104) = true := beq_iff_eq.mpr c21
     have c21b1 : ((l2.length : Int) != t104) = false := bne_eq_false_iff_eq.mpr c21
     clear c21
     by_cases c22 : a0_0 < 0
     ·rw [if_pos c22] at H
      have c22b0 : decide (a0_0 < 0) = true := decide_eq_true c22
      clear c22
      have H' := Aside0.mk H
      clear H
      have hnb23 := NB109_101.out
      have hnc23 := NB101_109.out
      have hnb24 := NB109_102.out
      have hnc24 := NB102_109.out
      have hcz25_0 : w15.cell? ⟨gb109, 0, none⟩ = some (.int .i64 0) := (blk_cell BK109.out 0).trans rfl
      have hcz25_1 : w15.cell? ⟨gb109, 1, none⟩ = some (.slice none 0 0) := (blk_cell BK109.out 1).trans rfl
      have hfz25_0 := blk_frozen BK109.out 0
      have hfz25_1 := blk_frozen BK109.out 1
      have hnb26 := NB101_102.out
      have hnc26 := NB102_101.out
      have hcz27_0 : w15.cell? ⟨gb101, 0, none⟩ = some (.int .i64 a0_0) := (blk_cell BK101.out 0).trans rfl
      have hcz27_1 : w15.cell? ⟨gb101, 1, none⟩ = some (.slice A0_1 l0_1.length c0_1) := (blk_cell BK101.out 1).trans rfl
      have hfz27_0 := blk_frozen BK101.out 0
      have hfz27_1 := blk_frozen BK101.out 1
      go_wp2
      go_meet
      case rel => exact ⟨_, (true), (by first | rfl | (simp; done) | (simp [*]; done)), H', ⟨by first | omega | exact Nat.le_refl _⟩, ⟨by (with_reducible repeat (first | apply Kd.S_alloc | apply Kd.S_drewN | apply Kd.S_drew)); exact Kd.S_mono (Kd.S_far (p := ⟨gb109, 1, none⟩) (Kd.S_far (p := ⟨gb109, 0, none⟩) (Kd.S_types HO107.out BK109.out (by decide)) (fun _ hk => hk.2) (.int .i64 t104)) (fun _ hk => hk.2) (.slice Ao19 t105.length co19)) (fun _ hk => trivial)⟩, ⟨by (with_reducible repeat (first | refine blk_drewN ?_ _ | refine blk_drew ?_ | refine blk_alloc ?_ _)); refine blk_far ?_ NB101_109.out _; (with_reducible repeat (first | refine blk_drewN ?_ _ | refine blk_drew ?_ | refine blk_alloc ?_ _)); refine blk_far ?_ NB101_109.out _; (with_reducible repeat (first | refine blk_drewN ?_ _ | refine blk_drew ?_ | refine blk_alloc ?_ _)); exact BK101.out⟩, ⟨by (with_reducible repeat (first | refine blk_drewN ?_ _ | refine blk_drew ?_ | refine blk_alloc ?_ _)); refine blk_far ?_ NB102_109.out _; (with_reducible repeat (first | refine blk_drewN ?_ _ | refine blk_drew ?_ | refine blk_alloc ?_ _)); refine blk_far ?_ NB102_109.out _; (with_reducible repeat (first | refine blk_drewN ?_ _ | refine blk_drew ?_ | refine blk_alloc ?_ _)); exact BK102.out⟩, ⟨by (with_reducible repeat (first | refine blk_drewN ?_ _ | refine blk_drew ?_ | refine blk_alloc ?_ _)); refine blk_put (cs := #[.int .i64 t104, .slice none 0 0]) ?_ 1 _ rfl; (with_reducible repeat (first | refine blk_drewN ?_ _ | refine blk_drew ?_ | refine blk_alloc ?_ _)); refine blk_put (cs := #[.int .i64 0, .slice none 0 0]) ?_ 0 _ rfl; (with_reducible repeat (first | refine blk_drewN ?_ _ | refine blk_drew ?_ | refine blk_alloc ?_ _)); exact BK109.out⟩, ⟨by repeat (first | (with_reducible first | exact HB.out | apply below_alloc | apply pw_below_drewN | apply below_drew1 | refine below_set ?_ GE101.out | refine below_set ?_ GE102.out | refine below_set ?_ GE109.out) | exact HB.out)⟩⟩
     ·rw [if_neg c22] at H
      have c22b0 : decide (a0_0 < 0) = false := decide_eq_false c22
      clear c22
      have H' := Aside0.mk H
      clear H
      have hnb28 := NB109_101.out
      have hnc28 := NB101_109.out
      have hnb29 := NB109_102.out
      have hnc29 := NB102_109.out
      have hcz30_0 : w15.cell? ⟨gb109, 0, none⟩ = some (.int .i64 0) := (blk_cell BK109.out 0).trans rfl
      have hcz30_1 : w15.cell? ⟨gb109, 1, none⟩ = some (.slice none 0 0) := (blk_cell BK109.out 1).trans rfl
      have hfz30_0 := blk_frozen BK109.out 0
      have hfz30_1 := blk_frozen BK109.out 1
      have hnb31 := NB101_102.out
      have hnc31 := NB102_101.out
      have hcz32_0 : w15.cell? ⟨gb101, 0, none⟩ = some (.int .i64 a0_0) := (blk_cell BK101.out 0).trans rfl
      have hcz32_1 : w15.cell? ⟨gb101, 1, none⟩ = some (.slice A0_1 l0_1.length c0_1) := (blk_cell BK101.out 1).trans rfl
      have hfz32_0 := blk_frozen BK101.out 0
      have hfz32_1 := blk_frozen BK101.out 1
      have hcz33_0 : w15.cell? ⟨gb102, 0, none⟩ = some (.int .i64 a1_0) := (blk_cell BK102.out 0).trans rfl
      have hcz33_1 : w15.cell? ⟨gb102, 1, none⟩ = some (.slice A1_1 l1_1.length c1_1) := (blk_cell BK102.out 1).trans rfl
      have hfz33_0 := blk_frozen BK102.out 0
      have hfz33_1 := blk_frozen BK102.out 1
      go_wp2
      go_meet
      case rel => exact ⟨_, (decide (a1_0 < 0)), (by first | rfl | (simp; done) | (simp [*]; done)), H', ⟨by first | omega | exact Nat.le_refl _⟩, ⟨by (with_reducible repeat (first | apply Kd.S_alloc | apply Kd.S_drewN | apply Kd.S_drew)); exact Kd.S_mono (Kd.S_far (p := ⟨gb109, 1, none⟩) (Kd.S_far (p := ⟨gb109, 0, none⟩) (Kd.S_types HO107.out BK109.out (by decide)) (fun _ hk => hk.2) (.int .i64 t104)) (fun _ hk => hk.2) (.slice Ao19 t105.length co19)) (fun _ hk => trivial)⟩, ⟨by (with_reducible repeat (first | refine blk_drewN ?_ _ | refine blk_drew ?_ | refine blk_alloc ?_ _)); refine blk_far ?_ NB101_109.out _; (with_reducible repeat (first | refine blk_drewN ?_ _ | refine blk_drew ?_ | refine blk_alloc ?_ _)); refine blk_far ?_ NB101_109.out _; (with_reducible repeat (first | refine blk_drewN ?_ _ | refine blk_drew ?_ | refine blk_alloc ?_ _)); exact BK101.out⟩, ⟨by (with_reducible repeat (first | refine blk_drewN ?_ _ | refine blk_drew ?_ | refine blk_alloc ?_ _)); refine blk_far ?_ NB102_109.out _; (with_reducible repeat (first | refine blk_drewN ?_ _ | refine blk_drew ?_ | refine blk_alloc ?_ _)); refine blk_far ?_ NB102_109.out _; (with_reducible repeat (first | refine blk_drewN ?_ _ | refine blk_drew ?_ | refine blk_alloc ?_ _)); exact BK102.out⟩, ⟨by (with_reducible repeat (first | refine blk_drewN ?_ _ | refine blk_drew ?_ | refine blk_alloc ?_ _)); refine blk_put (cs := #[.int .i64 t104, .slice none 0 0]) ?_ 1 _ rfl; (with_reducible repeat (first | refine blk_drewN ?_ _ | refine blk_drew ?_ | refine blk_alloc ?_ _)); refine blk_put (cs := #[.int .i64 0, .slice none 0 0]) ?_ 0 _ rfl; (with_reducible repeat (first | refine blk_drewN ?_ _ | refine blk_drew ?_ | refine blk_alloc ?_ _)); exact BK109.out⟩, ⟨by repeat (first | (with_reducible first | exact HB.out | apply below_alloc | apply pw_below_drewN | apply below_drew1 | refine below_set ?_ GE101.out | refine below_set ?_ GE102.out | refine below_set ?_ GE109.out) | exact HB.out)⟩⟩
    ·rw [if_neg c21] at H
     have c21b0 : ((l2.length : Int) == t104) = false := beq_eq_false_iff_ne.mpr c21
     have c21b1 : ((l2.length : Int) != t104) = true := bne_iff_ne.mpr c21
     have H' := Aside0.mk H
     clear H
     have hnb34 := NB109_101.out
     have hnc34 := NB101_109.out
     have hnb35 := NB109_102.out
     have hnc35 := NB102_109.out
     have hcz36_0 : w15.cell? ⟨gb109, 0, none⟩ = some (.int .i64 0) := (blk_cell BK109.out 0).trans rfl
     have hcz36_1 : w15.cell? ⟨gb109, 1, none⟩ = some (.slice none 0 0) := (blk_cell BK109.out 1).trans rfl
     have hfz36_0 := blk_frozen BK109.out 0
     have hfz36_1 := blk_frozen BK109.out 1
     go_wp2
     go_meet
     case rel => exact ⟨_, (true), (by first | rfl | (simp; done) | (simp [*]; done)), H', ⟨by first | omega | exact Nat.le_refl _⟩, ⟨by (with_reducible repeat (first | apply Kd.S_alloc | apply Kd.S_drewN | apply Kd.S_drew)); exact Kd.S_mono (Kd.S_far (p := ⟨gb109, 1, none⟩) (Kd.S_far (p := ⟨gb109, 0, none⟩) (Kd.S_types HO107.out BK109.out (by decide)) (fun _ hk => hk.2) (.int .i64 t104)) (fun _ hk => hk.2) (.slice Ao19 t105.length co19)) (fun _ hk => trivial)⟩, ⟨by (with_reducible repeat (first | refine blk_drewN ?_ _ | refine blk_drew ?_ | refine blk_alloc ?_ _)); refine blk_far ?_ NB101_109.out _; (with_reducible repeat (first | refine blk_drewN ?_ _ | refine blk_drew ?_ | refine blk_alloc ?_ _)); refine blk_far ?_ NB101_109.out _; (with_reducible repeat (first | refine blk_drewN ?_ _ | refine blk_drew ?_ | refine blk_alloc ?_ _)); exact BK101.out⟩, ⟨by (with_reducible repeat (first | refine blk_drewN ?_ _ | refine blk_drew ?_ | refine blk_alloc ?_ _)); refine blk_far ?_ NB102_109.out _; (with_reducible repeat (first | refine blk_drewN ?_ _ | refine blk_drew ?_ | refine blk_alloc ?_ _)); refine blk_far ?_ NB102_109.out _; (with_reducible repeat (first | refine blk_drewN ?_ _ | refine blk_drew ?_ | refine blk_alloc ?_ _)); exact BK102.out⟩, ⟨by (with_reducible repeat (first | refine blk_drewN ?_ _ | refine blk_drew ?_ | refine blk_alloc ?_ _)); refine blk_put (cs := #[.int .i64 t104, .slice none 0 0]) ?_ 1 _ rfl; (with_reducible repeat (first | refine blk_drewN ?_ _ | refine blk_drew ?_ | refine blk_alloc ?_ _)); refine blk_put (cs := #[.int .i64 0, .slice none 0 0]) ?_ 0 _ rfl; (with_reducible repeat (first | refine blk_drewN ?_ _ | refine blk_drew ?_ | refine blk_alloc ?_ _)); exact BK109.out⟩, ⟨by repeat (first | (with_reducible first | exact HB.out | apply below_alloc | apply pw_below_drewN | apply below_drew1 | refine below_set ?_ GE101.out | refine below_set ?_ GE102.out | refine below_set ?_ GE109.out) | exact HB.out)⟩⟩
   ·rw [if_neg c20] at H
    have c20b0 : (t108 == 0) = false := beq_eq_false_iff_ne.mpr c20
    have c20b1 : (t108 != 0) = true := bne_iff_ne.mpr c20
    (first | rw [c20b0] | (simp only [i64_w, i32_w]; rw [c20b0]) | skip)
    have H' := Aside0.mk H
    clear H
    go_wp2
    go_meet
    case rel => exact ⟨_, (true), (by first | rfl | (simp; done) | (simp [*]; done)), H', ⟨by first | omega | exact Nat.le_refl _⟩, ⟨by (with_reducible repeat (first | apply Kd.S_alloc | apply Kd.S_drewN | apply Kd.S_drew)); exact Kd.S_mono (Kd.S_far (p := ⟨gb109, 1, none⟩) (Kd.S_far (p := ⟨gb109, 0, none⟩) (Kd.S_types HO107.out BK109.out (by decide)) (fun _ hk => hk.2) (.int .i64 t104)) (fun _ hk => hk.2) (.slice Ao19 t105.length co19)) (fun _ hk => trivial)⟩, ⟨by (with_reducible repeat (first | refine blk_drewN ?_ _ | refine blk_drew ?_ | refine blk_alloc ?_ _)); refine blk_far ?_ NB101_109.out _; (with_reducible repeat (first | refine blk_drewN ?_ _ | refine blk_drew ?_ | refine blk_alloc ?_ _)); refine blk_far ?_ NB101_109.out _; (with_reducible repeat (first | refine blk_drewN ?_ _ | refine blk_drew ?_ | refine blk_alloc ?_ _)); exact BK101.out⟩, ⟨by (with_reducible repeat (first | refine blk_drewN ?_ _ | refine blk_drew ?_ | refine blk_alloc ?_ _)); refine blk_far ?_ NB102_109.out _; (with_reducible repeat (first | refine blk_drewN ?_ _ | refine blk_drew ?_ | refine blk_alloc ?_ _)); refine blk_far ?_ NB102_109.out _; (with_reducible repeat (first | refine blk_drewN ?_ _ | refine blk_drew ?_ | refine blk_alloc ?_ _)); exact BK102.out⟩, ⟨by (with_reducible repeat (first | refine blk_drewN ?_ _ | refine blk_drew ?_ | refine blk_alloc ?_ _)); refine blk_put (cs := #[.int .i64 t104, .slice none 0 0]) ?_ 1 _ rfl; (with_reducible repeat (first | refine blk_drewN ?_ _ | refine blk_drew ?_ | refine blk_alloc ?_ _)); refine blk_put (cs := #[.int .i64 0, .slice none 0 0]) ?_ 0 _ rfl; (with_reducible repeat (first | refine blk_drewN ?_ _ | refine blk_drew ?_ | refine blk_alloc ?_ _)); exact BK109.out⟩, ⟨by repeat (first | (with_reducible first | exact HB.out | apply below_alloc | apply pw_below_drewN | apply below_drew1 | refine below_set ?_ GE101.out | refine below_set ?_ GE102.out | refine below_set ?_ GE109.out) | exact HB.out)⟩⟩
  case rest =>
   clear HC7
   try clear c1
   try clear c2
   try clear p2
   try clear c3
   try clear c5
   try clear c8
   try clear c11
   try clear c16
   try clear c17
   try clear c20
   try clear c20b0
   try clear c20b1
   try clear c21
   try clear c21b0
   try clear c21b1
   try clear c22
   try clear c22b0
   try clear c23
   try clear c24
   try clear c26
   try clear c28
   try clear c29
   try clear c31
   try clear c34
   try clear c35
   try clear hcz12_0
   try clear hcz12_1
   try clear hcz13_0
   try clear hcz13_1
   try clear hcz18_0
   try clear hcz18_1
   try clear hcz25_0
   try clear hcz25_1
   try clear hcz27_0
   try clear hcz27_1
   try clear hcz30_0
   try clear hcz30_1
   try clear hcz32_0
   try clear hcz32_1
   try clear hcz33_0
   try clear hcz33_1
   try clear hcz36_0
   try clear hcz36_1
   try clear hfz12_0
   try clear hfz12_1
   try clear hfz13_0
   try clear hfz13_1
   try clear hfz18_0
   try clear hfz18_1
   try clear hfz25_0
   try clear hfz25_1
   try clear hfz27_0
   try clear hfz27_1
   try clear hfz30_0
   try clear hfz30_1
   try clear hfz32_0
   try clear hfz32_1
   try clear hfz33_0
   try clear hfz33_1
   try clear hfz36_0
   try clear hfz36_1
   obtain ⟨kq, x53_6, rfl, HA, HJ6, HO_110001, BK101, BK102, BK109, HB⟩ := hcut
   cases kq with
   | zero => exact absurd HA.out (by simp [trestlelaw14_CnfMeans.j0])
   | succ kj6 =>
    have H := HA.out
    clear HA
    simp only [trestlelaw14_CnfMeans.j0] at H
    by_cases c37 : x53_6 = true
    ·subst c37
     have H1 : (if (t105.length : Int) = 0 then (some true) else (some (t108 == 0))) = some r := by rw [if_pos rfl] at H; exact H
     clear H
     have H := H1
     clear H1
     by_cases c38 : (t105.length : Int) = 0
     ·rw [if_pos c38] at H
      have c38b0 : ((t105.length : Int) == 0) = true := beq_iff_eq.mpr c38
      have c38b1 : ((t105.length : Int) != 0) = false := bne_eq_false_iff_eq.mpr c38
      clear c38
      obtain rfl := Option.some.inj H
      have hnb39 := NB109_101.out
      have hnc39 := NB101_109.out
      have hnb40 := NB109_102.out
      have hnc40 := NB102_109.out
      have hcz41_0 : wc.cell? ⟨gb109, 0, none⟩ = some (.int .i64 t104) := (blk_cell BK109.out 0).trans rfl
      have hcz41_1 : wc.cell? ⟨gb109, 1, none⟩ = some (.slice Ao19 t105.length co19) := (blk_cell BK109.out 1).trans rfl
      have hfz41_0 := blk_frozen BK109.out 0
      have hfz41_1 := blk_frozen BK109.out 1
      go_wp2
      go_ret
      exact ⟨by first | rfl | (simp [errW_none, errW_some] <;> rfl) | (simp [*, errW_none, errW_some] <;> rfl), by repeat (first | (with_reducible first | exact HB.out | apply below_alloc | apply pw_below_drewN | apply below_drew1 | refine below_set ?_ GE101.out | refine below_set ?_ GE102.out | refine below_set ?_ GE109.out) | exact HB.out)⟩
     ·rw [if_neg c38] at H
      have c38b0 : ((t105.length : Int) == 0) = false := beq_eq_false_iff_ne.mpr c38
      have c38b1 : ((t105.length : Int) != 0) = true := bne_iff_ne.mpr c38
      have c38b2 : ¬ (t105 = []) := fun h_ => c38 (by rw [h_]; rfl)
      obtain rfl := Option.some.inj H
      have hnb42 := NB109_101.out
      have hnc42 := NB101_109.out
      have hnb43 := NB109_102.out
      have hnc43 := NB102_109.out
      have hcz44_0 : wc.cell? ⟨gb109, 0, none⟩ = some (.int .i64 t104) := (blk_cell BK109.out 0).trans rfl
      have hcz44_1 : wc.cell? ⟨gb109, 1, none⟩ = some (.slice Ao19 t105.length co19) := (blk_cell BK109.out 1).trans rfl
      have hfz44_0 := blk_frozen BK109.out 0
      have hfz44_1 := blk_frozen BK109.out 1
      go_wp2
      go_ret
      exact ⟨by first | rfl | (simp [errW_none, errW_some] <;> rfl) | (simp [*, errW_none, errW_some] <;> rfl), by repeat (first | (with_reducible first | exact HB.out | apply below_alloc | apply pw_below_drewN | apply below_drew1 | refine below_set ?_ GE101.out | refine below_set ?_ GE102.out | refine below_set ?_ GE109.out) | exact HB.out)⟩
    ·replace c37 := Bool.eq_false_iff.mpr c37
     subst c37
     have H1 : ((cnf_Holds.f t104 t105 l2).bind fun bt110 => (if 0 ≤ a0_0 then (if a0_0 ≤ (l2.length : Int) then ((cnf_Holds.f a0_0 l0_1 (l2.take (a0_0 : Int).toNat)).bind fun bt114 => (if 0 ≤ a1_0 then (if a1_0 ≤ (l2.length : Int) then ((cnf_Holds.f a1_0 l1_1 (l2.take (a1_0 : Int).toNat)).bind fun bt118 => (if bt110.2.2 = 0 then (if bt114.2.2 = 0 then (if bt118.2.2 = 0 then (if bt114.1 = true then (trestlelaw14_CnfMeans.j1 kj6 l2 bt110.1 (bt110.1 != bt118.1) t104 t105) else (trestlelaw14_CnfMeans.j1 kj6 l2 bt110.1 (bt110.1 != false) t104 t105)) else (trestlelaw14_CnfMeans.j1 kj6 l2 bt110.1 true t104 t105)) else (trestlelaw14_CnfMeans.j1 kj6 l2 bt110.1 true t104 t105)) else (trestlelaw14_CnfMeans.j1 kj6 l2 bt110.1 true t104 t105))) else (none)) else (none))) else (none)) else (none))) = some r := by rw [if_neg (show ¬ (false = true) by decide)] at H; exact H
     clear H
     have H := H1
     clear H1
     replace H := Option.bind_eq_some_iff.mp H
     obtain ⟨⟨t110, t111, t112⟩, A450, H⟩ := H
     replace H : (if 0 ≤ a0_0 then (if a0_0 ≤ (l2.length : Int) then ((cnf_Holds.f a0_0 l0_1 (l2.take (a0_0 : Int).toNat)).bind fun bt114 => (if 0 ≤ a1_0 then (if a1_0 ≤ (l2.length : Int) then ((cnf_Holds.f a1_0 l1_1 (l2.take (a1_0 : Int).toNat)).bind fun bt118 => (if t112 = 0 then (if bt114.2.2 = 0 then (if bt118.2.2 = 0 then (if bt114.1 = true then (trestlelaw14_CnfMeans.j1 kj6 l2 t110 (t110 != bt118.1) t104 t105) else (trestlelaw14_CnfMeans.j1 kj6 l2 t110 (t110 != false) t104 t105)) else (trestlelaw14_CnfMeans.j1 kj6 l2 t110 true t104 t105)) else (trestlelaw14_CnfMeans.j1 kj6 l2 t110 true t104 t105)) else (trestlelaw14_CnfMeans.j1 kj6 l2 t110 true t104 t105))) else (none)) else (none))) else (none)) else (none)) = some r := H
     have A45 := Aside0.mk A450
     clear A450
     by_cases c46 : 0 ≤ a0_0
     ·rw [if_pos c46] at H
      have c46b0 := eq_true c46
      have c46b1 : decide (0 ≤ a0_0) = true := decide_eq_true c46
      clear c46
      by_cases c47 : a0_0 ≤ (l2.length : Int)
      ·rw [if_pos c47] at H
       have c47b0 := eq_true c47
       have c47b1 : decide (a0_0 ≤ (l2.length : Int)) = true := decide_eq_true c47
       clear c47
       replace H := Option.bind_eq_some_iff.mp H
       obtain ⟨⟨t114, t115, t116⟩, A480, H⟩ := H
       replace H : (if 0 ≤ a1_0 then (if a1_0 ≤ (l2.length : Int) then ((cnf_Holds.f a1_0 l1_1 (l2.take (a1_0 : Int).toNat)).bind fun bt118 => (if t112 = 0 then (if t116 = 0 then (if bt118.2.2 = 0 then (if t114 = true then (trestlelaw14_CnfMeans.j1 kj6 l2 t110 (t110 != bt118.1) t104 t105) else (trestlelaw14_CnfMeans.j1 kj6 l2 t110 (t110 != false) t104 t105)) else (trestlelaw14_CnfMeans.j1 kj6 l2 t110 true t104 t105)) else (trestlelaw14_CnfMeans.j1 kj6 l2 t110 true t104 t105)) else (trestlelaw14_CnfMeans.j1 kj6 l2 t110 true t104 t105))) else (none)) else (none)) = some r := H
       have A48 := Aside0.mk A480
       clear A480
       by_cases c49 : 0 ≤ a1_0
       ·rw [if_pos c49] at H
        have c49b0 := eq_true c49
        have c49b1 : decide (0 ≤ a1_0) = true := decide_eq_true c49
        clear c49
        by_cases c50 : a1_0 ≤ (l2.length : Int)
        ·rw [if_pos c50] at H
         have c50b0 := eq_true c50
         have c50b1 : decide (a1_0 ≤ (l2.length : Int)) = true := decide_eq_true c50
         clear c50
         replace H := Option.bind_eq_some_iff.mp H
         obtain ⟨⟨t118, t119, t120⟩, A510, H⟩ := H
         replace H : (if t112 = 0 then (if t116 = 0 then (if t120 = 0 then (if t114 = true then (trestlelaw14_CnfMeans.j1 kj6 l2 t110 (t110 != t118) t104 t105) else (trestlelaw14_CnfMeans.j1 kj6 l2 t110 (t110 != false) t104 t105)) else (trestlelaw14_CnfMeans.j1 kj6 l2 t110 true t104 t105)) else (trestlelaw14_CnfMeans.j1 kj6 l2 t110 true t104 t105)) else (trestlelaw14_CnfMeans.j1 kj6 l2 t110 true t104 t105)) = some r := H
         have A51 := Aside0.mk A510
         clear A510
         have HC52 := Aside0.mk H
         clear H
         have hnb53 := NB109_101.out
         have hnc53 := NB101_109.out
         have hnb54 := NB109_102.out
         have hnc54 := NB102_109.out
         have hcz55_0 : wc.cell? ⟨gb109, 0, none⟩ = some (.int .i64 t104) := (blk_cell BK109.out 0).trans rfl
         have hcz55_1 : wc.cell? ⟨gb109, 1, none⟩ = some (.slice Ao19 t105.length co19) := (blk_cell BK109.out 1).trans rfl
         have hfz55_0 := blk_frozen BK109.out 0
         have hfz55_1 := blk_frozen BK109.out 1
         try go_wp2_with (first | ((with_reducible refine gate_callee (f := 25) rfl ?_); refine goesL_ (some 65) rfl rfl Tryz.func25 (by kernel_rfl) rfl #[.agg #[.int .i64 t104, .slice Ao19 t105.length co19], .slice A2 l2.length c2] rfl (by (try simp only [List.map_toArray, List.map_cons, List.map_nil]); first | done | rfl | (simp only [List.length_drop, List.length_take]; rfl)) ?_; (with_reducible refine (cnf_Holds.calls t104 _ _ t105 _ _ l2 t110 t111 t112 _ ?side1 ?side2 ?side3 ?side4 A45.out).mono ?_); (case side1 => repeat (first | exact (Kd.S_reads' HO_110001.out).2.2 | (with_reducible refine Kd.C_alloc ?_ _) | (with_reducible refine Kd.C_drewN ?_ _) | (with_reducible refine Kd.C_drew ?_))); (case side2 => exact (Kd.S_reads' HO_110001.out).2.1); (case side3 => repeat (first | exact (Kd.C_below HR2.out HB.out) | (with_reducible refine Kd.C_alloc ?_ _) | (with_reducible refine Kd.C_drewN ?_ _) | (with_reducible refine Kd.C_drew ?_))); (case side4 => exact HC2.out); rintro e w56 ⟨rfl, hb⟩; refine ⟨_, rfl, ?_⟩; have n0_ := Aside0.mk (Kd.S_below (by (with_reducible repeat (first | apply Kd.S_alloc | apply Kd.S_drewN | apply Kd.S_drew)); exact HO_110001.out) hb); have n1_ := Aside0.mk (blk_below (g := gb101) (o := .cells #[.int .i64 a0_0, .slice A0_1 l0_1.length c0_1] 24 (0, 0)) (by (with_reducible repeat (first | refine blk_drewN ?_ _ | refine blk_drew ?_ | refine blk_alloc ?_ _)); exact BK101.out) hb); have n2_ := Aside0.mk (blk_below (g := gb102) (o := .cells #[.int .i64 a1_0, .slice A1_1 l1_1.length c1_1] 24 (0, 0)) (by (with_reducible repeat (first | refine blk_drewN ?_ _ | refine blk_drew ?_ | refine blk_alloc ?_ _)); exact BK102.out) hb); have n3_ := Aside0.mk (blk_below (g := gb109) (o := .cells #[.int .i64 t104, .slice Ao19 t105.length co19] 24 (0, 0)) (by (with_reducible repeat (first | refine blk_drewN ?_ _ | refine blk_drew ?_ | refine blk_alloc ?_ _)); exact BK109.out) hb); have n4_ := Aside0.mk (below_step (by repeat (first | (with_reducible first | exact HB.out | apply below_alloc | apply pw_below_drewN | apply below_drew1 | refine below_set ?_ GE101.out | refine below_set ?_ GE102.out | refine below_set ?_ GE109.out) | exact HB.out)) hb); clear HO_110001; clear BK101; clear BK102; clear BK109; clear HB; have HO_110001 := n0_; have BK101 := n1_; have BK102 := n2_; have BK109 := n3_; have HB := n4_; clear n0_ n1_ n2_ n3_ n4_; (try clear hb); (try clear hb2); (try clear hk); (try clear hi)))
         have n0_ := Aside0.mk (Kd.S_drew HO_110001.out)
         have n1_ := Aside0.mk (blk_drew BK101.out)
         have n2_ := Aside0.mk (blk_drew BK102.out)
         have n3_ := Aside0.mk (blk_drew BK109.out)
         have n4_ := Aside0.mk (below_drew1 HB.out)
         clear HO_110001
         clear BK101
         clear BK102
         clear BK109
         clear HB
         have HO_110001 := n0_
         have BK101 := n1_
         have BK102 := n2_
         have BK109 := n3_
         have HB := n4_
         clear n0_ n1_ n2_ n3_ n4_
         obtain ⟨i058, hi058, _, hsz58, _⟩ := info_parts info4
         obtain ⟨hcut58, hA58, hC58⟩ := print_take_of (P := Tryz.prog) Value.bool false 42 4 .i64 Tryz.underlying42 hi058 hsz58 A2 c2 l2 a0_0 (of_decide_eq_true (by first | (with_reducible assumption) | assumption)) (of_decide_eq_true (by first | (with_reducible assumption) | assumption)) HC2.out
         have HR113 := Aside0.mk (Kd.C_of_reads (h1 := fun _ => rfl) (hA58 _ (Kd.reads_of_C HR2.out)))
         have HC113 := Aside0.mk hC58
         clear hA58 hC58 hi058 hsz58
         refine start_ (n := 13) (S := fun w' => w'.cell? ⟨gb101, 0, none⟩ = some (.int .i64 a0_0) ∧ w'.cell? ⟨gb101, 1, none⟩ = some (.slice A0_1 l0_1.length c0_1)) (ds := []) #[false, false, false, false, false, false, false, false, false, false, false, false, false] (by kernel_rfl) rfl rfl ⟨(blk_cell BK101.out 0).trans rfl, (blk_cell BK101.out 1).trans rfl⟩ (fun hHeld => ?_); refine with_tabW trestlelaw14_CnfMeans.tab7 trestlelaw14_CnfMeans.bits7 (fun HT_ HW_ => ?_)
         generalize w56.drew = w57 at HO_110001 BK101 BK102 BK109 HB HR113 hHeld ⊢
         refine pure_ (i := 1) (N := some 71) (v := ?_) (a' := ?_) #[false, true, false, false, false, false, false, false, false, false, false, false, false] rfl rfl (any_of HT_.out (by kernel_rfl)) (fun _ _ _ h => h) (Or.inl ⟨by rfl, ?_⟩) ?_ ?_
         rotate_left
         ·intro w'
          go_simp
          with_reducible rfl
         rotate_left
         ·simp only [Act.put, List.setIfInBounds_toArray, List.set_cons_zero, List.set_cons_succ, i64_w, i32_w]
          rfl
         refine pure_ (i := 2) (N := some 72) (v := ?_) (a' := ?_) #[false, true, true, false, false, false, false, false, false, false, false, false, false] rfl rfl (any_of HT_.out (by kernel_rfl)) (fun _ _ _ h => h) (Or.inl ⟨by rfl, ?_⟩) ?_ ?_
         rotate_left
         ·intro w'
          go_simp
          with_reducible rfl
         rotate_left
         ·simp only [Act.put, List.setIfInBounds_toArray, List.set_cons_zero, List.set_cons_succ, i64_w, i32_w]
          rfl
         refine take_ (i := 0) (N := some 70) (v := ?_) (a' := ?_) #[true, true, true, false, false, false, false, false, false, false, false, false, false] rfl rfl (take_ofW HT_.out HW_.out (by kernel_rfl)) (fun _ _ _ h => h) (Or.inl ⟨by rfl, ?_⟩) hHeld ?_ ?_
         rotate_left
         ·rintro w' ⟨s0, s1⟩
          go_simp
          with_reducible rfl
         rotate_left
         ·simp only [Act.put, List.setIfInBounds_toArray, List.set_cons_zero, List.set_cons_succ, i64_w, i32_w]
          rfl
         refine take_ (i := 3) (N := some 73) (v := ?_) (a' := ?_) #[true, true, true, true, false, false, false, false, false, false, false, false, false] rfl rfl (take_ofW HT_.out HW_.out (by kernel_rfl)) (fun _ _ _ h => h) (Or.inl ⟨by rfl, ?_⟩) hHeld ?_ ?_
         rotate_left
         ·rintro w' ⟨s0, s1⟩
          go_simp
          with_reducible rfl
         rotate_left
         ·simp only [Act.put, List.setIfInBounds_toArray, List.set_cons_zero, List.set_cons_succ, i64_w, i32_w]
          rfl
         refine pure_ (i := 4) (N := some 74) (v := ?_) (a' := ?_) #[true, true, true, true, true, false, false, false, false, false, false, false, false] rfl rfl (any_of HT_.out (by kernel_rfl)) (fun _ _ _ h => h) (Or.inl ⟨by rfl, ?_⟩) ?_ ?_
         rotate_left
         ·intro w'
          go_simp
          with_reducible rfl
         rotate_left
         ·simp only [Act.put, List.setIfInBounds_toArray, List.set_cons_zero, List.set_cons_succ, i64_w, i32_w]
          rfl
         refine one_ (i := 5) (N := some 75) #[true, true, true, true, true, true, false, false, false, false, false, false, false] rfl rfl (one_of HT_.out (by kernel_rfl)) (by decide) (fun K hK => ?_)
         refine goes_ Tryz.func25 (by kernel_rfl) rfl #[.agg #[.int .i64 a0_0, .slice A0_1 l0_1.length c0_1], .slice A2 (l2.take (a0_0 : Int).toNat).length c2] (by rfl) rfl rfl (by (try simp only [List.map_toArray, List.map_cons, List.map_nil]); first | done | (rw [show (l2.take (a0_0 : Int).toNat).length = a0_0.toNat from (by rw [List.length_take]; have h_ : (a0_0 : Int) ≤ (l2.length : Int) := of_decide_eq_true (by first | (with_reducible assumption) | assumption); omega)] <;> rfl) | rfl | (simp only [List.length_drop, List.length_take]; rfl)) ?_
         with_reducible refine (cnf_Holds.calls a0_0 _ _ l0_1 _ _ (l2.take (a0_0 : Int).toNat) t114 t115 t116 _ ?side1 ?side2 ?side3 ?side4 A48.out).mono ?_
         (case side1 => repeat (first | exact (Kd.C_below HR0_1.out HB.out) | (with_reducible refine Kd.C_alloc ?_ _) | (with_reducible refine Kd.C_drewN ?_ _) | (with_reducible refine Kd.C_drew ?_)))
         (case side2 => exact HC0_1.out)
         (case side3 => repeat (first | exact (Kd.C_below HR113.out HB.out) | (with_reducible refine Kd.C_alloc ?_ _) | (with_reducible refine Kd.C_drewN ?_ _) | (with_reducible refine Kd.C_drew ?_)))
         (case side4 => exact HC113.out)
         rintro e w59 ⟨rfl, hb⟩
         refine ⟨_, rfl, ?_⟩
         have n0_ := Aside0.mk (Kd.S_below (by (with_reducible repeat (first | apply Kd.S_alloc | apply Kd.S_drewN | apply Kd.S_drew)); exact HO_110001.out) hb)
         have n1_ := Aside0.mk (blk_below (g := gb101) (o := .cells #[.int .i64 a0_0, .slice A0_1 l0_1.length c0_1] 24 (0, 0)) (by (with_reducible repeat (first | refine blk_drewN ?_ _ | refine blk_drew ?_ | refine blk_alloc ?_ _)); exact BK101.out) hb)
         have n2_ := Aside0.mk (blk_below (g := gb102) (o := .cells #[.int .i64 a1_0, .slice A1_1 l1_1.length c1_1] 24 (0, 0)) (by (with_reducible repeat (first | refine blk_drewN ?_ _ | refine blk_drew ?_ | refine blk_alloc ?_ _)); exact BK102.out) hb)
         have n3_ := Aside0.mk (blk_below (g := gb109) (o := .cells #[.int .i64 t104, .slice Ao19 t105.length co19] 24 (0, 0)) (by (with_reducible repeat (first | refine blk_drewN ?_ _ | refine blk_drew ?_ | refine blk_alloc ?_ _)); exact BK109.out) hb)
         have n4_ := Aside0.mk (below_step (by repeat (first | (with_reducible first | exact HB.out | apply below_alloc | apply pw_below_drewN | apply below_drew1 | refine below_set ?_ GE101.out | refine below_set ?_ GE102.out | refine below_set ?_ GE109.out) | exact HB.out)) hb)
         clear HO_110001
         clear BK101
         clear BK102
         clear BK109
         clear HB
         have HO_110001 := n0_
         have BK101 := n1_
         have BK102 := n2_
         have BK109 := n3_
         have HB := n4_
         clear n0_ n1_ n2_ n3_ n4_
         (try clear hb)
         (try clear hb2)
         (try clear hk)
         (try clear hi)
         refine hK.out _ _ ⟨(blk_cell BK101.out 0).trans rfl, (blk_cell BK101.out 1).trans rfl⟩ (fun hHeld => ?_)
         clear hK K
         refine norm_ (a' := ?_) ?_ ?_
         rotate_left
         ·show Act.put _ (some 75) _ = _
          simp only [Act.put, List.setIfInBounds_toArray, List.set_cons_zero, List.set_cons_succ, i64_w, i32_w]
          rfl
         refine pure_ (i := 6) (N := some 69) (v := ?_) (a' := ?_) #[true, true, true, true, true, true, true, false, false, false, false, false, false] rfl rfl (any_of HT_.out (by kernel_rfl)) (fun _ _ _ h => h) (Or.inl ⟨by rfl, ?_⟩) ?_ ?_
         rotate_left
         ·intro w'
          go_simp
          with_reducible rfl
         rotate_left
         ·simp only [Act.put, List.setIfInBounds_toArray, List.set_cons_zero, List.set_cons_succ, i64_w, i32_w]
          rfl
         refine pure_ (i := 7) (N := some 76) (v := ?_) (a' := ?_) #[true, true, true, true, true, true, true, true, false, false, false, false, false] rfl rfl (any_of HT_.out (by kernel_rfl)) (fun _ _ _ h => h) (Or.inl ⟨by rfl, ?_⟩) ?_ ?_
         rotate_left
         ·intro w'
          go_simp
          with_reducible rfl
         rotate_left
         ·simp only [Act.put, List.setIfInBounds_toArray, List.set_cons_zero, List.set_cons_succ, i64_w, i32_w]
          rfl
         refine pure_ (i := 8) (N := some 77) (v := ?_) (a' := ?_) #[true, true, true, true, true, true, true, true, true, false, false, false, false] rfl rfl (any_of HT_.out (by kernel_rfl)) (fun _ _ _ h => h) (Or.inl ⟨by rfl, ?_⟩) ?_ ?_
         rotate_left
         ·intro w'
          go_simp
          with_reducible rfl
         rotate_left
         ·simp only [Act.put, List.setIfInBounds_toArray, List.set_cons_zero, List.set_cons_succ, i64_w, i32_w]
          rfl
         refine pure_ (i := 9) (N := some 78) (v := ?_) (a' := ?_) #[true, true, true, true, true, true, true, true, true, true, false, false, false] rfl rfl (any_of HT_.out (by kernel_rfl)) (fun _ _ _ h => h) (Or.inl ⟨by rfl, ?_⟩) ?_ ?_
         rotate_left
         ·intro w'
          go_simp
          with_reducible rfl
         rotate_left
         ·simp only [Act.put, List.setIfInBounds_toArray, List.set_cons_zero, List.set_cons_succ, i64_w, i32_w]
          rfl
         refine pure_ (i := 10) (N := some 12) (v := ?_) (a' := ?_) #[true, true, true, true, true, true, true, true, true, true, true, false, false] rfl rfl (any_of HT_.out (by kernel_rfl)) (fun _ _ _ h => h) (Or.inl ⟨by rfl, ?_⟩) ?_ ?_
         rotate_left
         ·intro w'
          go_simp
          with_reducible rfl
         rotate_left
         ·simp only [Act.put, List.setIfInBounds_toArray, List.set_cons_zero, List.set_cons_succ, i64_w, i32_w]
          rfl
         refine pure_ (i := 11) (N := some 13) (v := ?_) (a' := ?_) #[true, true, true, true, true, true, true, true, true, true, true, true, false] rfl rfl (any_of HT_.out (by kernel_rfl)) (fun _ _ _ h => h) (Or.inl ⟨by rfl, ?_⟩) ?_ ?_
         rotate_left
         ·intro w'
          go_simp
          with_reducible rfl
         rotate_left
         ·simp only [Act.put, List.setIfInBounds_toArray, List.set_cons_zero, List.set_cons_succ, i64_w, i32_w]
          rfl
         refine pure_ (i := 12) (N := some 14) (v := ?_) (a' := ?_) #[true, true, true, true, true, true, true, true, true, true, true, true, true] rfl rfl (any_of HT_.out (by kernel_rfl)) (fun _ _ _ h => h) (Or.inl ⟨by rfl, ?_⟩) ?_ ?_
         rotate_left
         ·intro w'
          go_simp
          with_reducible rfl
         rotate_left
         ·simp only [Act.put, List.setIfInBounds_toArray, List.set_cons_zero, List.set_cons_succ, i64_w, i32_w]
          rfl
         refine done_ (done_of HT_.out (by kernel_rfl)) ?_
         try go_wp2
         have n0_ := Aside0.mk (Kd.S_drew HO_110001.out)
         have n1_ := Aside0.mk (blk_drew BK101.out)
         have n2_ := Aside0.mk (blk_drew BK102.out)
         have n3_ := Aside0.mk (blk_drew BK109.out)
         have n4_ := Aside0.mk (below_drew1 HB.out)
         clear HO_110001
         clear BK101
         clear BK102
         clear BK109
         clear HB
         have HO_110001 := n0_
         have BK101 := n1_
         have BK102 := n2_
         have BK109 := n3_
         have HB := n4_
         clear n0_ n1_ n2_ n3_ n4_
         obtain ⟨i061, hi061, _, hsz61, _⟩ := info_parts info4
         obtain ⟨hcut61, hA61, hC61⟩ := print_take_of (P := Tryz.prog) Value.bool false 42 4 .i64 Tryz.underlying42 hi061 hsz61 A2 c2 l2 a1_0 (of_decide_eq_true (by first | (with_reducible assumption) | assumption)) (of_decide_eq_true (by first | (with_reducible assumption) | assumption)) HC2.out
         have HR117 := Aside0.mk (Kd.C_of_reads (h1 := fun _ => rfl) (hA61 _ (Kd.reads_of_C HR2.out)))
         have HC117 := Aside0.mk hC61
         clear hA61 hC61 hi061 hsz61
         refine start_ (n := 13) (S := fun w' => w'.cell? ⟨gb102, 0, none⟩ = some (.int .i64 a1_0) ∧ w'.cell? ⟨gb102, 1, none⟩ = some (.slice A1_1 l1_1.length c1_1)) (ds := []) #[false, false, false, false, false, false, false, false, false, false, false, false, false] (by kernel_rfl) rfl rfl ⟨(blk_cell BK102.out 0).trans rfl, (blk_cell BK102.out 1).trans rfl⟩ (fun hHeld => ?_); refine with_tabW trestlelaw14_CnfMeans.tab8 trestlelaw14_CnfMeans.bits8 (fun HT_ HW_ => ?_)
         generalize w59.drew = w60 at HO_110001 BK101 BK102 BK109 HB HR117 hHeld ⊢
         refine pure_ (i := 1) (N := some 81) (v := ?_) (a' := ?_) #[false, true, false, false, false, false, false, false, false, false, false, false, false] rfl rfl (any_of HT_.out (by kernel_rfl)) (fun _ _ _ h => h) (Or.inl ⟨by rfl, ?_⟩) ?_ ?_
         rotate_left
         ·intro w'
          go_simp
          with_reducible rfl
         rotate_left
         ·simp only [Act.put, List.setIfInBounds_toArray, List.set_cons_zero, List.set_cons_succ, i64_w, i32_w]
          rfl
         refine pure_ (i := 2) (N := some 82) (v := ?_) (a' := ?_) #[false, true, true, false, false, false, false, false, false, false, false, false, false] rfl rfl (any_of HT_.out (by kernel_rfl)) (fun _ _ _ h => h) (Or.inl ⟨by rfl, ?_⟩) ?_ ?_
         rotate_left
         ·intro w'
          go_simp
          with_reducible rfl
         rotate_left
         ·simp only [Act.put, List.setIfInBounds_toArray, List.set_cons_zero, List.set_cons_succ, i64_w, i32_w]
          rfl
         refine take_ (i := 0) (N := some 80) (v := ?_) (a' := ?_) #[true, true, true, false, false, false, false, false, false, false, false, false, false] rfl rfl (take_ofW HT_.out HW_.out (by kernel_rfl)) (fun _ _ _ h => h) (Or.inl ⟨by rfl, ?_⟩) hHeld ?_ ?_
         rotate_left
         ·rintro w' ⟨s0, s1⟩
          go_simp
          with_reducible rfl
         rotate_left
         ·simp only [Act.put, List.setIfInBounds_toArray, List.set_cons_zero, List.set_cons_succ, i64_w, i32_w]
          rfl
         refine take_ (i := 3) (N := some 83) (v := ?_) (a' := ?_) #[true, true, true, true, false, false, false, false, false, false, false, false, false] rfl rfl (take_ofW HT_.out HW_.out (by kernel_rfl)) (fun _ _ _ h => h) (Or.inl ⟨by rfl, ?_⟩) hHeld ?_ ?_
         rotate_left
         ·rintro w' ⟨s0, s1⟩
          go_simp
          with_reducible rfl
         rotate_left
         ·simp only [Act.put, List.setIfInBounds_toArray, List.set_cons_zero, List.set_cons_succ, i64_w, i32_w]
          rfl
         refine pure_ (i := 4) (N := some 84) (v := ?_) (a' := ?_) #[true, true, true, true, true, false, false, false, false, false, false, false, false] rfl rfl (any_of HT_.out (by kernel_rfl)) (fun _ _ _ h => h) (Or.inl ⟨by rfl, ?_⟩) ?_ ?_
         rotate_left
         ·intro w'
          go_simp
          with_reducible rfl
         rotate_left
         ·simp only [Act.put, List.setIfInBounds_toArray, List.set_cons_zero, List.set_cons_succ, i64_w, i32_w]
          rfl
         refine one_ (i := 5) (N := some 85) #[true, true, true, true, true, true, false, false, false, false, false, false, false] rfl rfl (one_of HT_.out (by kernel_rfl)) (by decide) (fun K hK => ?_)
         refine goes_ Tryz.func25 (by kernel_rfl) rfl #[.agg #[.int .i64 a1_0, .slice A1_1 l1_1.length c1_1], .slice A2 (l2.take (a1_0 : Int).toNat).length c2] (by rfl) rfl rfl (by (try simp only [List.map_toArray, List.map_cons, List.map_nil]); first | done | (rw [show (l2.take (a1_0 : Int).toNat).length = a1_0.toNat from (by rw [List.length_take]; have h_ : (a1_0 : Int) ≤ (l2.length : Int) := of_decide_eq_true (by first | (with_reducible assumption) | assumption); omega)] <;> rfl) | rfl | (simp only [List.length_drop, List.length_take]; rfl)) ?_
         with_reducible refine (cnf_Holds.calls a1_0 _ _ l1_1 _ _ (l2.take (a1_0 : Int).toNat) t118 t119 t120 _ ?side1 ?side2 ?side3 ?side4 A51.out).mono ?_
         (case side1 => repeat (first | exact (Kd.C_below HR1_1.out HB.out) | (with_reducible refine Kd.C_alloc ?_ _) | (with_reducible refine Kd.C_drewN ?_ _) | (with_reducible refine Kd.C_drew ?_)))
         (case side2 => exact HC1_1.out)
         (case side3 => repeat (first | exact (Kd.C_below HR117.out HB.out) | (with_reducible refine Kd.C_alloc ?_ _) | (with_reducible refine Kd.C_drewN ?_ _) | (with_reducible refine Kd.C_drew ?_)))
         (case side4 => exact HC117.out)
         rintro e w62 ⟨rfl, hb⟩
         refine ⟨_, rfl, ?_⟩
         have n0_ := Aside0.mk (Kd.S_below (by (with_reducible repeat (first | apply Kd.S_alloc | apply Kd.S_drewN | apply Kd.S_drew)); exact HO_110001.out) hb)
         have n1_ := Aside0.mk (blk_below (g := gb101) (o := .cells #[.int .i64 a0_0, .slice A0_1 l0_1.length c0_1] 24 (0, 0)) (by (with_reducible repeat (first | refine blk_drewN ?_ _ | refine blk_drew ?_ | refine blk_alloc ?_ _)); exact BK101.out) hb)
         have n2_ := Aside0.mk (blk_below (g := gb102) (o := .cells #[.int .i64 a1_0, .slice A1_1 l1_1.length c1_1] 24 (0, 0)) (by (with_reducible repeat (first | refine blk_drewN ?_ _ | refine blk_drew ?_ | refine blk_alloc ?_ _)); exact BK102.out) hb)
         have n3_ := Aside0.mk (blk_below (g := gb109) (o := .cells #[.int .i64 t104, .slice Ao19 t105.length co19] 24 (0, 0)) (by (with_reducible repeat (first | refine blk_drewN ?_ _ | refine blk_drew ?_ | refine blk_alloc ?_ _)); exact BK109.out) hb)
         have n4_ := Aside0.mk (below_step (by repeat (first | (with_reducible first | exact HB.out | apply below_alloc | apply pw_below_drewN | apply below_drew1 | refine below_set ?_ GE101.out | refine below_set ?_ GE102.out | refine below_set ?_ GE109.out) | exact HB.out)) hb)
         clear HO_110001
         clear BK101
         clear BK102
         clear BK109
         clear HB
         have HO_110001 := n0_
         have BK101 := n1_
         have BK102 := n2_
         have BK109 := n3_
         have HB := n4_
         clear n0_ n1_ n2_ n3_ n4_
         (try clear hb)
         (try clear hb2)
         (try clear hk)
         (try clear hi)
         refine hK.out _ _ ⟨(blk_cell BK102.out 0).trans rfl, (blk_cell BK102.out 1).trans rfl⟩ (fun hHeld => ?_)
         clear hK K
         refine norm_ (a' := ?_) ?_ ?_
         rotate_left
         ·show Act.put _ (some 85) _ = _
          simp only [Act.put, List.setIfInBounds_toArray, List.set_cons_zero, List.set_cons_succ, i64_w, i32_w]
          rfl
         refine pure_ (i := 6) (N := some 79) (v := ?_) (a' := ?_) #[true, true, true, true, true, true, true, false, false, false, false, false, false] rfl rfl (any_of HT_.out (by kernel_rfl)) (fun _ _ _ h => h) (Or.inl ⟨by rfl, ?_⟩) ?_ ?_
         rotate_left
         ·intro w'
          go_simp
          with_reducible rfl
         rotate_left
         ·simp only [Act.put, List.setIfInBounds_toArray, List.set_cons_zero, List.set_cons_succ, i64_w, i32_w]
          rfl
         refine pure_ (i := 7) (N := some 86) (v := ?_) (a' := ?_) #[true, true, true, true, true, true, true, true, false, false, false, false, false] rfl rfl (any_of HT_.out (by kernel_rfl)) (fun _ _ _ h => h) (Or.inl ⟨by rfl, ?_⟩) ?_ ?_
         rotate_left
         ·intro w'
          go_simp
          with_reducible rfl
         rotate_left
         ·simp only [Act.put, List.setIfInBounds_toArray, List.set_cons_zero, List.set_cons_succ, i64_w, i32_w]
          rfl
         refine pure_ (i := 8) (N := some 87) (v := ?_) (a' := ?_) #[true, true, true, true, true, true, true, true, true, false, false, false, false] rfl rfl (any_of HT_.out (by kernel_rfl)) (fun _ _ _ h => h) (Or.inl ⟨by rfl, ?_⟩) ?_ ?_
         rotate_left
         ·intro w'
          go_simp
          with_reducible rfl
         rotate_left
         ·simp only [Act.put, List.setIfInBounds_toArray, List.set_cons_zero, List.set_cons_succ, i64_w, i32_w]
          rfl
         refine pure_ (i := 9) (N := some 88) (v := ?_) (a' := ?_) #[true, true, true, true, true, true, true, true, true, true, false, false, false] rfl rfl (any_of HT_.out (by kernel_rfl)) (fun _ _ _ h => h) (Or.inl ⟨by rfl, ?_⟩) ?_ ?_
         rotate_left
         ·intro w'
          go_simp
          with_reducible rfl
         rotate_left
         ·simp only [Act.put, List.setIfInBounds_toArray, List.set_cons_zero, List.set_cons_succ, i64_w, i32_w]
          rfl
         refine pure_ (i := 10) (N := some 15) (v := ?_) (a' := ?_) #[true, true, true, true, true, true, true, true, true, true, true, false, false] rfl rfl (any_of HT_.out (by kernel_rfl)) (fun _ _ _ h => h) (Or.inl ⟨by rfl, ?_⟩) ?_ ?_
         rotate_left
         ·intro w'
          go_simp
          with_reducible rfl
         rotate_left
         ·simp only [Act.put, List.setIfInBounds_toArray, List.set_cons_zero, List.set_cons_succ, i64_w, i32_w]
          rfl
         refine pure_ (i := 11) (N := some 16) (v := ?_) (a' := ?_) #[true, true, true, true, true, true, true, true, true, true, true, true, false] rfl rfl (any_of HT_.out (by kernel_rfl)) (fun _ _ _ h => h) (Or.inl ⟨by rfl, ?_⟩) ?_ ?_
         rotate_left
         ·intro w'
          go_simp
          with_reducible rfl
         rotate_left
         ·simp only [Act.put, List.setIfInBounds_toArray, List.set_cons_zero, List.set_cons_succ, i64_w, i32_w]
          rfl
         refine pure_ (i := 12) (N := some 17) (v := ?_) (a' := ?_) #[true, true, true, true, true, true, true, true, true, true, true, true, true] rfl rfl (any_of HT_.out (by kernel_rfl)) (fun _ _ _ h => h) (Or.inl ⟨by rfl, ?_⟩) ?_ ?_
         rotate_left
         ·intro w'
          go_simp
          with_reducible rfl
         rotate_left
         ·simp only [Act.put, List.setIfInBounds_toArray, List.set_cons_zero, List.set_cons_succ, i64_w, i32_w]
          rfl
         refine done_ (done_of HT_.out (by kernel_rfl)) ?_
         go_upto_region 9 with (fail)
         as_aux_lemma =>
          go_cut [106] (fun v106 wc => ∃ (kq : Nat) (x106_51 : Bool), v106 = .bool x106_51 ∧ Aside0 (trestlelaw14_CnfMeans.j1 kq l2 t110 x106_51 t104 t105 = some r) ∧ Aside0 (kq ≤ kj6) ∧ Aside0 (Kd.S (Kd.slice 3 (Kd.int .i64)) 65 wc w.heap.size (fun _ => True) (.slice Ao19 t105.length co19) t105) ∧ Aside0 (wc.heap[gb101]? = some (.cells #[.int .i64 a0_0, (.slice A0_1 l0_1.length c0_1)] 24 (0, 0))) ∧ Aside0 (wc.heap[gb102]? = some (.cells #[.int .i64 a1_0, (.slice A1_1 l1_1.length c1_1)] 24 (0, 0))) ∧ Aside0 (wc.heap[gb109]? = some (.cells #[.int .i64 t104, (.slice Ao19 t105.length co19)] 24 (0, 0))) ∧ Aside0 (Below w.heap.size w wc))
          case first =>
           have H := HC52.out
           clear HC52
           by_cases c63 : t112 = 0
           ·rw [if_pos c63] at H
            have c63b0 : (t112 == 0) = true := beq_iff_eq.mpr c63
            have c63b1 : (t112 != 0) = false := bne_eq_false_iff_eq.mpr c63
            clear c63
            (first | rw [c63b0] | (simp only [i64_w, i32_w]; rw [c63b0]) | skip)
            by_cases c64 : t116 = 0
            ·rw [if_pos c64] at H
             have c64b0 : (t116 == 0) = true := beq_iff_eq.mpr c64
             have c64b1 : (t116 != 0) = false := bne_eq_false_iff_eq.mpr c64
             clear c64
             by_cases c65 : t120 = 0
             ·rw [if_pos c65] at H
              have c65b0 : (t120 == 0) = true := beq_iff_eq.mpr c65
              have c65b1 : (t120 != 0) = false := bne_eq_false_iff_eq.mpr c65
              clear c65
              by_cases c66 : t114 = true
              ·subst c66
               have H1 : (trestlelaw14_CnfMeans.j1 kj6 l2 t110 (t110 != t118) t104 t105) = some r := by rw [if_pos rfl] at H; exact H
               clear H
               have H := H1
               clear H1
               have H' := Aside0.mk H
               clear H
               go_wp2
               go_meet
               case rel => exact ⟨_, ((t110 != t118)), (by first | rfl | (simp; done) | (simp [*]; done)), H', ⟨by have := HJ6.out; first | omega | exact Nat.le_refl _⟩, ⟨by (with_reducible repeat (first | apply Kd.S_alloc | apply Kd.S_drewN | apply Kd.S_drew)); exact HO_110001.out⟩, ⟨by (with_reducible repeat (first | refine blk_drewN ?_ _ | refine blk_drew ?_ | refine blk_alloc ?_ _)); exact BK101.out⟩, ⟨by (with_reducible repeat (first | refine blk_drewN ?_ _ | refine blk_drew ?_ | refine blk_alloc ?_ _)); exact BK102.out⟩, ⟨by (with_reducible repeat (first | refine blk_drewN ?_ _ | refine blk_drew ?_ | refine blk_alloc ?_ _)); exact BK109.out⟩, ⟨by repeat (first | (with_reducible first | exact HB.out | apply below_alloc | apply pw_below_drewN | apply below_drew1 | refine below_set ?_ GE101.out | refine below_set ?_ GE102.out | refine below_set ?_ GE109.out) | exact HB.out)⟩⟩
              ·replace c66 := Bool.eq_false_iff.mpr c66
               subst c66
               have H1 : (trestlelaw14_CnfMeans.j1 kj6 l2 t110 (t110 != false) t104 t105) = some r := by rw [if_neg (show ¬ (false = true) by decide)] at H; exact H
               clear H
               have H := H1
               clear H1
               have H' := Aside0.mk H
               clear H
               go_wp2
               go_meet
               case rel => exact ⟨_, ((t110 != false)), (by first | rfl | (simp; done) | (simp [*]; done)), H', ⟨by have := HJ6.out; first | omega | exact Nat.le_refl _⟩, ⟨by (with_reducible repeat (first | apply Kd.S_alloc | apply Kd.S_drewN | apply Kd.S_drew)); exact HO_110001.out⟩, ⟨by (with_reducible repeat (first | refine blk_drewN ?_ _ | refine blk_drew ?_ | refine blk_alloc ?_ _)); exact BK101.out⟩, ⟨by (with_reducible repeat (first | refine blk_drewN ?_ _ | refine blk_drew ?_ | refine blk_alloc ?_ _)); exact BK102.out⟩, ⟨by (with_reducible repeat (first | refine blk_drewN ?_ _ | refine blk_drew ?_ | refine blk_alloc ?_ _)); exact BK109.out⟩, ⟨by repeat (first | (with_reducible first | exact HB.out | apply below_alloc | apply pw_below_drewN | apply below_drew1 | refine below_set ?_ GE101.out | refine below_set ?_ GE102.out | refine below_set ?_ GE109.out) | exact HB.out)⟩⟩
             ·rw [if_neg c65] at H
              have c65b0 : (t120 == 0) = false := beq_eq_false_iff_ne.mpr c65
              have c65b1 : (t120 != 0) = true := bne_iff_ne.mpr c65
              have H' := Aside0.mk H
              clear H
              go_wp2
              go_meet
              case rel => exact ⟨_, (true), (by first | rfl | (simp; done) | (simp [*]; done)), H', ⟨by have := HJ6.out; first | omega | exact Nat.le_refl _⟩, ⟨by (with_reducible repeat (first | apply Kd.S_alloc | apply Kd.S_drewN | apply Kd.S_drew)); exact HO_110001.out⟩, ⟨by (with_reducible repeat (first | refine blk_drewN ?_ _ | refine blk_drew ?_ | refine blk_alloc ?_ _)); exact BK101.out⟩, ⟨by (with_reducible repeat (first | refine blk_drewN ?_ _ | refine blk_drew ?_ | refine blk_alloc ?_ _)); exact BK102.out⟩, ⟨by (with_reducible repeat (first | refine blk_drewN ?_ _ | refine blk_drew ?_ | refine blk_alloc ?_ _)); exact BK109.out⟩, ⟨by repeat (first | (with_reducible first | exact HB.out | apply below_alloc | apply pw_below_drewN | apply below_drew1 | refine below_set ?_ GE101.out | refine below_set ?_ GE102.out | refine below_set ?_ GE109.out) | exact HB.out)⟩⟩
            ·rw [if_neg c64] at H
             have c64b0 : (t116 == 0) = false := beq_eq_false_iff_ne.mpr c64
             have c64b1 : (t116 != 0) = true := bne_iff_ne.mpr c64
             have H' := Aside0.mk H
             clear H
             go_wp2
             go_meet
             case rel => exact ⟨_, (true), (by first | rfl | (simp; done) | (simp [*]; done)), H', ⟨by have := HJ6.out; first | omega | exact Nat.le_refl _⟩, ⟨by (with_reducible repeat (first | apply Kd.S_alloc | apply Kd.S_drewN | apply Kd.S_drew)); exact HO_110001.out⟩, ⟨by (with_reducible repeat (first | refine blk_drewN ?_ _ | refine blk_drew ?_ | refine blk_alloc ?_ _)); exact BK101.out⟩, ⟨by (with_reducible repeat (first | refine blk_drewN ?_ _ | refine blk_drew ?_ | refine blk_alloc ?_ _)); exact BK102.out⟩, ⟨by (with_reducible repeat (first | refine blk_drewN ?_ _ | refine blk_drew ?_ | refine blk_alloc ?_ _)); exact BK109.out⟩, ⟨by repeat (first | (with_reducible first | exact HB.out | apply below_alloc | apply pw_below_drewN | apply below_drew1 | refine below_set ?_ GE101.out | refine below_set ?_ GE102.out | refine below_set ?_ GE109.out) | exact HB.out)⟩⟩
           ·rw [if_neg c63] at H
            have c63b0 : (t112 == 0) = false := beq_eq_false_iff_ne.mpr c63
            have c63b1 : (t112 != 0) = true := bne_iff_ne.mpr c63
            (first | rw [c63b0] | (simp only [i64_w, i32_w]; rw [c63b0]) | skip)
            have H' := Aside0.mk H
            clear H
            go_wp2
            go_meet
            case rel => exact ⟨_, (true), (by first | rfl | (simp; done) | (simp [*]; done)), H', ⟨by have := HJ6.out; first | omega | exact Nat.le_refl _⟩, ⟨by (with_reducible repeat (first | apply Kd.S_alloc | apply Kd.S_drewN | apply Kd.S_drew)); exact HO_110001.out⟩, ⟨by (with_reducible repeat (first | refine blk_drewN ?_ _ | refine blk_drew ?_ | refine blk_alloc ?_ _)); exact BK101.out⟩, ⟨by (with_reducible repeat (first | refine blk_drewN ?_ _ | refine blk_drew ?_ | refine blk_alloc ?_ _)); exact BK102.out⟩, ⟨by (with_reducible repeat (first | refine blk_drewN ?_ _ | refine blk_drew ?_ | refine blk_alloc ?_ _)); exact BK109.out⟩, ⟨by repeat (first | (with_reducible first | exact HB.out | apply below_alloc | apply pw_below_drewN | apply below_drew1 | refine below_set ?_ GE101.out | refine below_set ?_ GE102.out | refine below_set ?_ GE109.out) | exact HB.out)⟩⟩
          case rest =>
           clear HC52
           try clear c1
           try clear c2
           try clear p2
           try clear c3
           try clear c4
           try clear c5
           try clear c6
           try clear c8
           try clear c11
           try clear c16
           try clear c17
           try clear c20
           try clear c20b0
           try clear c20b1
           try clear c21
           try clear c21b0
           try clear c21b1
           try clear c22
           try clear c22b0
           try clear c23
           try clear c24
           try clear c25
           try clear c26
           try clear c28
           try clear c29
           try clear c31
           try clear c34
           try clear c35
           try clear c37
           try clear c38
           try clear c38b0
           try clear c38b1
           try clear c38b2
           try clear c39
           try clear c40
           try clear c42
           try clear c43
           try clear c46
           try clear c46b0
           try clear c46b1
           try clear c47
           try clear c47b0
           try clear c47b1
           try clear c49
           try clear c49b0
           try clear c49b1
           try clear c50
           try clear c50b0
           try clear c50b1
           try clear c53
           try clear c54
           try clear c63
           try clear c63b0
           try clear c63b1
           try clear c64
           try clear c64b0
           try clear c64b1
           try clear c65
           try clear c65b0
           try clear c65b1
           try clear c66
           try clear hcz12_0
           try clear hcz12_1
           try clear hcz13_0
           try clear hcz13_1
           try clear hcz18_0
           try clear hcz18_1
           try clear hcz25_0
           try clear hcz25_1
           try clear hcz27_0
           try clear hcz27_1
           try clear hcz30_0
           try clear hcz30_1
           try clear hcz32_0
           try clear hcz32_1
           try clear hcz33_0
           try clear hcz33_1
           try clear hcz36_0
           try clear hcz36_1
           try clear hcz41_0
           try clear hcz41_1
           try clear hcz44_0
           try clear hcz44_1
           try clear hcz55_0
           try clear hcz55_1
           try clear hfz12_0
           try clear hfz12_1
           try clear hfz13_0
           try clear hfz13_1
           try clear hfz18_0
           try clear hfz18_1
           try clear hfz25_0
           try clear hfz25_1
           try clear hfz27_0
           try clear hfz27_1
           try clear hfz30_0
           try clear hfz30_1
           try clear hfz32_0
           try clear hfz32_1
           try clear hfz33_0
           try clear hfz33_1
           try clear hfz36_0
           try clear hfz36_1
           try clear hfz41_0
           try clear hfz41_1
           try clear hfz44_0
           try clear hfz44_1
           try clear hfz55_0
           try clear hfz55_1
           try clear p2
           obtain ⟨kq, x106_51, rfl, HA, HJ51, HO_110001, BK101, BK102, BK109, HB⟩ := hcut
           cases kq with
           | zero => exact absurd HA.out (by simp [trestlelaw14_CnfMeans.j1])
           | succ kj51 =>
            have H := HA.out
            clear HA
            simp only [trestlelaw14_CnfMeans.j1] at H
            by_cases c67 : x106_51 = true
            ·subst c67
             have H1 : (some false) = some r := by rw [if_pos rfl] at H; exact H
             clear H
             have H := H1
             clear H1
             obtain rfl := Option.some.inj H
             go_wp2
             go_ret
             exact ⟨by first | rfl | (simp [errW_none, errW_some] <;> rfl) | (simp [*, errW_none, errW_some] <;> rfl), by repeat (first | (with_reducible first | exact HB.out | apply below_alloc | apply pw_below_drewN | apply below_drew1 | refine below_set ?_ GE101.out | refine below_set ?_ GE102.out | refine below_set ?_ GE109.out) | exact HB.out)⟩
            ·replace c67 := Bool.eq_false_iff.mpr c67
             subst c67
             have H1 : (trestlelaw14_CnfMeans.l0 kj51 l2 t110 ([] : List Int) (l2.length : Int) 0 t104 t105) = some r := by rw [if_neg (show ¬ (false = true) by decide)] at H; exact H
             clear H
             have H := H1
             clear H1
             have H' := Aside0.mk H
             clear H
             go_wp2
             as_aux_lemma =>
              go_loopg [18, 109] kj51 (fun kq v18 v109 w' => ∃ (x18_3 : List Int) (x109_3 : Int), v109 = .int .i64 x109_3 ∧ Aside0 (trestlelaw14_CnfMeans.l0 kq l2 t110 x18_3 (l2.length : Int) x109_3 t104 t105 = some r) ∧ Aside0 (kq ≤ kj51) ∧ Aside0 (Kd.R (Kd.int .i64) 3 w' w.heap.size (fun _ => True) v18 x18_3) ∧ Aside0 (Kd.S (Kd.slice 3 (Kd.int .i64)) 65 w' w.heap.size (fun k_ => some k_ ≠ (v18 : Value).ownBlock) (.slice Ao19 t105.length co19) t105) ∧ Aside0 (w'.heap[gb101]? = some (.cells #[.int .i64 a0_0, (.slice A0_1 l0_1.length c0_1)] 24 (0, 0))) ∧ Aside0 (w'.heap[gb102]? = some (.cells #[.int .i64 a1_0, (.slice A1_1 l1_1.length c1_1)] 24 (0, 0))) ∧ Aside0 (w'.heap[gb109]? = some (.cells #[.int .i64 t104, (.slice Ao19 t105.length co19)] 24 (0, 0))) ∧ Aside0 (Below w.heap.size w w'))
              case atStart => exact ⟨(([] : List Int)), (0), (by first | rfl | (simp; done) | (simp [*]; done)), H', ⟨Nat.le_refl _⟩, ⟨by first | exact Kd.R_nil _ _ _ _ _ | exact Kd.N_nil _ _ _ _ _ | exact Kd.V_nil _ _ _ _ _ | exact Kd.Q_nil _ _ _ _ _ | exact Kd.S_nil _ _ _ _ _⟩, ⟨by (with_reducible repeat (first | apply Kd.S_alloc | apply Kd.S_drewN | apply Kd.S_drew)); exact Kd.S_mono HO_110001.out (fun _ hk => (by simp [Value.ownBlock]))⟩, ⟨by (with_reducible repeat (first | refine blk_drewN ?_ _ | refine blk_drew ?_ | refine blk_alloc ?_ _)); exact BK101.out⟩, ⟨by (with_reducible repeat (first | refine blk_drewN ?_ _ | refine blk_drew ?_ | refine blk_alloc ?_ _)); exact BK102.out⟩, ⟨by (with_reducible repeat (first | refine blk_drewN ?_ _ | refine blk_drew ?_ | refine blk_alloc ?_ _)); exact BK109.out⟩, ⟨by repeat (first | (with_reducible first | exact HB.out | apply below_alloc | apply pw_below_drewN | apply below_drew1 | refine below_set ?_ GE101.out | refine below_set ?_ GE102.out | refine below_set ?_ GE109.out) | exact HB.out)⟩⟩
              case round =>
               clear H'
               try clear c1
               try clear c2
               try clear p2
               try clear c3
               try clear c4
               try clear c5
               try clear c6
               try clear c8
               try clear c11
               try clear c16
               try clear c17
               try clear c20
               try clear c20b0
               try clear c20b1
               try clear c21
               try clear c21b0
               try clear c21b1
               try clear c22
               try clear c22b0
               try clear c23
               try clear c24
               try clear c25
               try clear c26
               try clear c28
               try clear c29
               try clear c31
               try clear c34
               try clear c35
               try clear c37
               try clear c38
               try clear c38b0
               try clear c38b1
               try clear c38b2
               try clear c39
               try clear c40
               try clear c42
               try clear c43
               try clear c46
               try clear c46b0
               try clear c46b1
               try clear c47
               try clear c47b0
               try clear c47b1
               try clear c49
               try clear c49b0
               try clear c49b1
               try clear c50
               try clear c50b0
               try clear c50b1
               try clear c53
               try clear c54
               try clear c63
               try clear c63b0
               try clear c63b1
               try clear c64
               try clear c64b0
               try clear c64b1
               try clear c65
               try clear c65b0
               try clear c65b1
               try clear c66
               try clear c67
               try clear hcz12_0
               try clear hcz12_1
               try clear hcz13_0
               try clear hcz13_1
               try clear hcz18_0
               try clear hcz18_1
               try clear hcz25_0
               try clear hcz25_1
               try clear hcz27_0
               try clear hcz27_1
               try clear hcz30_0
               try clear hcz30_1
               try clear hcz32_0
               try clear hcz32_1
               try clear hcz33_0
               try clear hcz33_1
               try clear hcz36_0
               try clear hcz36_1
               try clear hcz41_0
               try clear hcz41_1
               try clear hcz44_0
               try clear hcz44_1
               try clear hcz55_0
               try clear hcz55_1
               try clear hfz12_0
               try clear hfz12_1
               try clear hfz13_0
               try clear hfz13_1
               try clear hfz18_0
               try clear hfz18_1
               try clear hfz25_0
               try clear hfz25_1
               try clear hfz27_0
               try clear hfz27_1
               try clear hfz30_0
               try clear hfz30_1
               try clear hfz32_0
               try clear hfz32_1
               try clear hfz33_0
               try clear hfz33_1
               try clear hfz36_0
               try clear hfz36_1
               try clear hfz41_0
               try clear hfz41_1
               try clear hfz44_0
               try clear hfz44_1
               try clear hfz55_0
               try clear hfz55_1
               try clear p2
               obtain ⟨x18_3, x109_3, rfl, HA, HK3, HO_18, HO_110001, BK101, BK102, BK109, HB⟩ := hrel
               cases gk with
               | zero => exact absurd HA.out (by simp [trestlelaw14_CnfMeans.l0])
               | succ k3 =>
                have H := HA.out
                clear HA
                simp only [trestlelaw14_CnfMeans.l0] at H
                by_cases c68 : x109_3 < (l2.length : Int)
                ·rw [if_pos c68] at H
                 have c68b0 : decide (x109_3 < (l2.length : Int)) = true := decide_eq_true c68
                 clear c68
                 by_cases c69 : (Int.tmod x109_3 3) = 0
                 ·rw [if_pos c69] at H
                  have c69b0 : ((Int.tmod x109_3 3) == 0) = true := beq_iff_eq.mpr c69
                  have c69b1 : ((Int.tmod x109_3 3) != 0) = false := bne_eq_false_iff_eq.mpr c69
                  clear c69
                  by_cases c70 : 0 ≤ x109_3
                  ·rw [if_pos c70] at H
                   have c70b0 : decide (0 ≤ x109_3) = true := decide_eq_true c70
                   clear c70
                   by_cases c71 : x109_3 < (l2.length : Int)
                   ·rw [if_pos c71] at H
                    have c71b0 : decide (x109_3 < (l2.length : Int)) = true := decide_eq_true c71
                    clear c71
                    obtain ⟨bq72, hbq72⟩ : ∃ b_ : Bool, b_ = (rdOf false l2 x109_3) := ⟨_, rfl⟩
                    replace H : (if bq72 = true then (if x18_3.length < 17592186044416 then (trestlelaw14_CnfMeans.l0 k3 l2 t110 (x18_3 ++ [wrap64 (x109_3 + 1)]) (l2.length : Int) (wrap64 (x109_3 + 1)) t104 t105) else (none)) else (if x18_3.length < 17592186044416 then (trestlelaw14_CnfMeans.l0 k3 l2 t110 (x18_3 ++ [wrap64 ((wrap64 (-x109_3)) - 1)]) (l2.length : Int) (wrap64 (x109_3 + 1)) t104 t105) else (none))) = some r := by rw [← hbq72] at H; exact H
                    have Nbq72 := Aside0.mk hbq72
                    clear hbq72
                    by_cases c73 : bq72 = true
                    ·subst c73
                     have H1 : (if x18_3.length < 17592186044416 then (trestlelaw14_CnfMeans.l0 k3 l2 t110 (x18_3 ++ [wrap64 (x109_3 + 1)]) (l2.length : Int) (wrap64 (x109_3 + 1)) t104 t105) else (none)) = some r := by rw [if_pos rfl] at H; exact H
                     clear H
                     have H := H1
                     clear H1
                     by_cases c74 : x18_3.length < 17592186044416
                     ·rw [if_pos c74] at H
                      have LMc74 := Aside0.mk c74
                      clear c74
                      obtain ⟨y122, hy122⟩ : ∃ y_ : List Int, y_ = (x18_3 ++ [wrap64 (x109_3 + 1)]) := ⟨_, rfl⟩
                      replace H : (trestlelaw14_CnfMeans.l0 k3 l2 t110 y122 (l2.length : Int) (wrap64 (x109_3 + 1)) t104 t105) = some r := by first | (rw [hy122]; with_reducible exact H) | (have H2_ := (Option.bind_some _ _).symm.trans H; rw [hy122]; with_reducible exact H2_) | (have H2_ := (Option.bind_some _ _).symm.trans H; with_reducible exact H2_) | with_reducible exact H | (rw [hy122]; exact H) | exact H
                      have Ny122 := Aside0.mk hy122
                      clear hy122
                      have H' := Aside0.mk H
                      clear H
                      have p121 : 0 ≤ (x109_3 : Int) := of_decide_eq_true (by first | (with_reducible assumption) | assumption)
                      have q121 : x109_3 < (l2.length : Int) := of_decide_eq_true (by first | (with_reducible assumption) | assumption)
                      obtain ⟨ad121, e121, hx121_0⟩ := Kd.at_bool HR2.out x109_3 p121 q121
                      (try rw [← Nbq72.out] at hx121_0)
                      cases e121
                      replace hx121_0 := (HB.out.cell (World.block_lt_of_cell? w _ hx121_0)).trans hx121_0
                      replace p121 := eq_true p121
                      replace q121 := eq_true q121
                      go_wp2_with (first | ((with_reducible refine gate_builtin (b := .append) (xs := #[.tmp 119, .tmp 122]) rfl ?_); (try (refine gate_guard (by rfl) ?_; dsimp only)); at_builtin; refine Kd.R_append (Kd.int .i64) (w0 := w) w.heap.size rfl (.tmp 119) (.tmp 122) 34 3 (.int .i64 0) 8 rfl Tryz.underlying34 info3 rfl (by decide) (by omega) u18 x18_3 (wrap64 (x109_3 + 1)) [.int .i64 (wrap64 (x109_3 + 1))] (fun _ => True) (fun _ => False) rfl rfl ?aP (fun _ hk => hk.elim) ?aF ?aO ?aB ?aS ?aL ?_; (case aP => exact rfl); (case aB => exact (by repeat (first | (with_reducible first | exact HB.out | apply below_alloc | apply pw_below_drewN | apply below_drew1 | refine below_set ?_ GE101.out | refine below_set ?_ GE102.out | refine below_set ?_ GE109.out) | exact HB.out))); (case aF => exact (fun _ _ => trivial)); (case aO => exact (by (with_reducible repeat (first | apply Kd.R_alloc | apply Kd.R_drewN | apply Kd.R_drew)); exact HO_18.out)); (case aS => exact (below_size (by repeat (first | (with_reducible first | exact HB.out | apply below_alloc | apply pw_below_drewN | apply below_drew1 | refine below_set ?_ GE101.out | refine below_set ?_ GE102.out | refine below_set ?_ GE109.out) | exact HB.out)))); (case aL => have := LMc74.out; omega); intro v123 w75 ho hb hg hat; rw [← Ny122.out] at ho; have n0_ := Aside0.mk (Kd.S_after (ok := (fun _ => True)) (by (with_reducible repeat (first | apply Kd.S_alloc | apply Kd.S_drewN | apply Kd.S_drew)); exact Kd.S_mono HO_110001.out (fun _ hk => ⟨trivial, hk⟩)) hg hat); have n1_ := Aside0.mk (blk_grown (g := gb101) (o := .cells #[.int .i64 a0_0, .slice A0_1 l0_1.length c0_1] 24 (0, 0)) (by (with_reducible repeat (first | refine blk_drewN ?_ _ | refine blk_drew ?_ | refine blk_alloc ?_ _)); exact BK101.out) hg (Kd.R_ne HO_18.out BK101.out (by decide))); have n2_ := Aside0.mk (blk_grown (g := gb102) (o := .cells #[.int .i64 a1_0, .slice A1_1 l1_1.length c1_1] 24 (0, 0)) (by (with_reducible repeat (first | refine blk_drewN ?_ _ | refine blk_drew ?_ | refine blk_alloc ?_ _)); exact BK102.out) hg (Kd.R_ne HO_18.out BK102.out (by decide))); have n3_ := Aside0.mk (blk_grown (g := gb109) (o := .cells #[.int .i64 t104, .slice Ao19 t105.length co19] 24 (0, 0)) (by (with_reducible repeat (first | refine blk_drewN ?_ _ | refine blk_drew ?_ | refine blk_alloc ?_ _)); exact BK109.out) hg (Kd.R_ne HO_18.out BK109.out (by decide))); have n4_ := Aside0.mk (hb); have n5_ := Aside0.mk (ho); clear HO_110001; clear BK101; clear BK102; clear BK109; clear HB; clear HO_18; have HO_110001 := n0_; have BK101 := n1_; have BK102 := n2_; have BK109 := n3_; have HB := n4_; have HO124 := n5_; clear n0_ n1_ n2_ n3_ n4_ n5_; clear ho hb hg hat))
                      go_roundg k3
                      case measure => have := HJ6.out; have := HJ51.out; have := HK3.out; omega
                      case rel => exact ⟨(y122), (wrap64 (x109_3 + 1)), (by first | rfl | (simp; done) | (simp [*]; done)), H', ⟨by have := HJ6.out; have := HJ51.out; have := HK3.out; omega⟩, ⟨by (with_reducible repeat (first | apply Kd.R_alloc | apply Kd.R_drewN | apply Kd.R_drew)); exact HO124.out⟩, ⟨by (with_reducible repeat (first | apply Kd.S_alloc | apply Kd.S_drewN | apply Kd.S_drew)); exact Kd.S_mono HO_110001.out (fun _ hk => hk.2)⟩, ⟨by (with_reducible repeat (first | refine blk_drewN ?_ _ | refine blk_drew ?_ | refine blk_alloc ?_ _)); exact BK101.out⟩, ⟨by (with_reducible repeat (first | refine blk_drewN ?_ _ | refine blk_drew ?_ | refine blk_alloc ?_ _)); exact BK102.out⟩, ⟨by (with_reducible repeat (first | refine blk_drewN ?_ _ | refine blk_drew ?_ | refine blk_alloc ?_ _)); exact BK109.out⟩, ⟨by repeat (first | (with_reducible first | exact HB.out | apply below_alloc | apply pw_below_drewN | apply below_drew1 | refine below_set ?_ GE101.out | refine below_set ?_ GE102.out | refine below_set ?_ GE109.out) | exact HB.out)⟩⟩
                     ·rw [if_neg c74] at H
                      exact absurd H (by simp)
                    ·replace c73 := Bool.eq_false_iff.mpr c73
                     subst c73
                     have H1 : (if x18_3.length < 17592186044416 then (trestlelaw14_CnfMeans.l0 k3 l2 t110 (x18_3 ++ [wrap64 ((wrap64 (-x109_3)) - 1)]) (l2.length : Int) (wrap64 (x109_3 + 1)) t104 t105) else (none)) = some r := by rw [if_neg (show ¬ (false = true) by decide)] at H; exact H
                     clear H
                     have H := H1
                     clear H1
                     by_cases c76 : x18_3.length < 17592186044416
                     ·rw [if_pos c76] at H
                      have LMc76 := Aside0.mk c76
                      clear c76
                      obtain ⟨y125, hy125⟩ : ∃ y_ : List Int, y_ = (x18_3 ++ [wrap64 ((wrap64 (-x109_3)) - 1)]) := ⟨_, rfl⟩
                      replace H : (trestlelaw14_CnfMeans.l0 k3 l2 t110 y125 (l2.length : Int) (wrap64 (x109_3 + 1)) t104 t105) = some r := by first | (rw [hy125]; with_reducible exact H) | (have H2_ := (Option.bind_some _ _).symm.trans H; rw [hy125]; with_reducible exact H2_) | (have H2_ := (Option.bind_some _ _).symm.trans H; with_reducible exact H2_) | with_reducible exact H | (rw [hy125]; exact H) | exact H
                      have Ny125 := Aside0.mk hy125
                      clear hy125
                      have H' := Aside0.mk H
                      clear H
                      have p121 : 0 ≤ (x109_3 : Int) := of_decide_eq_true (by first | (with_reducible assumption) | assumption)
                      have q121 : x109_3 < (l2.length : Int) := of_decide_eq_true (by first | (with_reducible assumption) | assumption)
                      obtain ⟨ad121, e121, hx121_0⟩ := Kd.at_bool HR2.out x109_3 p121 q121
                      (try rw [← Nbq72.out] at hx121_0)
                      cases e121
                      replace hx121_0 := (HB.out.cell (World.block_lt_of_cell? w _ hx121_0)).trans hx121_0
                      replace p121 := eq_true p121
                      replace q121 := eq_true q121
                      go_wp2_with (first | ((with_reducible refine gate_builtin (b := .append) (xs := #[.tmp 124, .tmp 128]) rfl ?_); (try (refine gate_guard (by rfl) ?_; dsimp only)); at_builtin; refine Kd.R_append (Kd.int .i64) (w0 := w) w.heap.size rfl (.tmp 124) (.tmp 128) 34 3 (.int .i64 0) 8 rfl Tryz.underlying34 info3 rfl (by decide) (by omega) u18 x18_3 (wrap64 ((wrap64 (-x109_3)) - 1)) [.int .i64 (wrap64 ((wrap64 (-x109_3)) - 1))] (fun _ => True) (fun _ => False) rfl rfl ?aP (fun _ hk => hk.elim) ?aF ?aO ?aB ?aS ?aL ?_; (case aP => exact rfl); (case aB => exact (by repeat (first | (with_reducible first | exact HB.out | apply below_alloc | apply pw_below_drewN | apply below_drew1 | refine below_set ?_ GE101.out | refine below_set ?_ GE102.out | refine below_set ?_ GE109.out) | exact HB.out))); (case aF => exact (fun _ _ => trivial)); (case aO => exact (by (with_reducible repeat (first | apply Kd.R_alloc | apply Kd.R_drewN | apply Kd.R_drew)); exact HO_18.out)); (case aS => exact (below_size (by repeat (first | (with_reducible first | exact HB.out | apply below_alloc | apply pw_below_drewN | apply below_drew1 | refine below_set ?_ GE101.out | refine below_set ?_ GE102.out | refine below_set ?_ GE109.out) | exact HB.out)))); (case aL => have := LMc76.out; omega); intro v126 w77 ho hb hg hat; rw [← Ny125.out] at ho; have n0_ := Aside0.mk (Kd.S_after (ok := (fun _ => True)) (by (with_reducible repeat (first | apply Kd.S_alloc | apply Kd.S_drewN | apply Kd.S_drew)); exact Kd.S_mono HO_110001.out (fun _ hk => ⟨trivial, hk⟩)) hg hat); have n1_ := Aside0.mk (blk_grown (g := gb101) (o := .cells #[.int .i64 a0_0, .slice A0_1 l0_1.length c0_1] 24 (0, 0)) (by (with_reducible repeat (first | refine blk_drewN ?_ _ | refine blk_drew ?_ | refine blk_alloc ?_ _)); exact BK101.out) hg (Kd.R_ne HO_18.out BK101.out (by decide))); have n2_ := Aside0.mk (blk_grown (g := gb102) (o := .cells #[.int .i64 a1_0, .slice A1_1 l1_1.length c1_1] 24 (0, 0)) (by (with_reducible repeat (first | refine blk_drewN ?_ _ | refine blk_drew ?_ | refine blk_alloc ?_ _)); exact BK102.out) hg (Kd.R_ne HO_18.out BK102.out (by decide))); have n3_ := Aside0.mk (blk_grown (g := gb109) (o := .cells #[.int .i64 t104, .slice Ao19 t105.length co19] 24 (0, 0)) (by (with_reducible repeat (first | refine blk_drewN ?_ _ | refine blk_drew ?_ | refine blk_alloc ?_ _)); exact BK109.out) hg (Kd.R_ne HO_18.out BK109.out (by decide))); have n4_ := Aside0.mk (hb); have n5_ := Aside0.mk (ho); clear HO_110001; clear BK101; clear BK102; clear BK109; clear HB; clear HO_18; have HO_110001 := n0_; have BK101 := n1_; have BK102 := n2_; have BK109 := n3_; have HB := n4_; have HO127 := n5_; clear n0_ n1_ n2_ n3_ n4_ n5_; clear ho hb hg hat))
                      go_roundg k3
                      case measure => have := HJ6.out; have := HJ51.out; have := HK3.out; omega
                      case rel => exact ⟨(y125), (wrap64 (x109_3 + 1)), (by first | rfl | (simp; done) | (simp [*]; done)), H', ⟨by have := HJ6.out; have := HJ51.out; have := HK3.out; omega⟩, ⟨by (with_reducible repeat (first | apply Kd.R_alloc | apply Kd.R_drewN | apply Kd.R_drew)); exact HO127.out⟩, ⟨by (with_reducible repeat (first | apply Kd.S_alloc | apply Kd.S_drewN | apply Kd.S_drew)); exact Kd.S_mono HO_110001.out (fun _ hk => hk.2)⟩, ⟨by (with_reducible repeat (first | refine blk_drewN ?_ _ | refine blk_drew ?_ | refine blk_alloc ?_ _)); exact BK101.out⟩, ⟨by (with_reducible repeat (first | refine blk_drewN ?_ _ | refine blk_drew ?_ | refine blk_alloc ?_ _)); exact BK102.out⟩, ⟨by (with_reducible repeat (first | refine blk_drewN ?_ _ | refine blk_drew ?_ | refine blk_alloc ?_ _)); exact BK109.out⟩, ⟨by repeat (first | (with_reducible first | exact HB.out | apply below_alloc | apply pw_below_drewN | apply below_drew1 | refine below_set ?_ GE101.out | refine below_set ?_ GE102.out | refine below_set ?_ GE109.out) | exact HB.out)⟩⟩
                     ·rw [if_neg c76] at H
                      exact absurd H (by simp)
                   ·rw [if_neg c71] at H
                    exact absurd H (by simp)
                  ·rw [if_neg c70] at H
                   exact absurd H (by simp)
                 ·rw [if_neg c69] at H
                  have c69b0 : ((Int.tmod x109_3 3) == 0) = false := beq_eq_false_iff_ne.mpr c69
                  have c69b1 : ((Int.tmod x109_3 3) != 0) = true := bne_iff_ne.mpr c69
                  have H' := Aside0.mk H
                  clear H
                  go_wp2
                  go_roundg k3
                  case measure => have := HJ6.out; have := HJ51.out; have := HK3.out; omega
                  case rel => exact ⟨(x18_3), (wrap64 (x109_3 + 1)), (by first | rfl | (simp; done) | (simp [*]; done)), H', ⟨by have := HJ6.out; have := HJ51.out; have := HK3.out; omega⟩, ⟨by (with_reducible repeat (first | apply Kd.R_alloc | apply Kd.R_drewN | apply Kd.R_drew)); exact HO_18.out⟩, ⟨by (with_reducible repeat (first | apply Kd.S_alloc | apply Kd.S_drewN | apply Kd.S_drew)); exact HO_110001.out⟩, ⟨by (with_reducible repeat (first | refine blk_drewN ?_ _ | refine blk_drew ?_ | refine blk_alloc ?_ _)); exact BK101.out⟩, ⟨by (with_reducible repeat (first | refine blk_drewN ?_ _ | refine blk_drew ?_ | refine blk_alloc ?_ _)); exact BK102.out⟩, ⟨by (with_reducible repeat (first | refine blk_drewN ?_ _ | refine blk_drew ?_ | refine blk_alloc ?_ _)); exact BK109.out⟩, ⟨by repeat (first | (with_reducible first | exact HB.out | apply below_alloc | apply pw_below_drewN | apply below_drew1 | refine below_set ?_ GE101.out | refine below_set ?_ GE102.out | refine below_set ?_ GE109.out) | exact HB.out)⟩⟩
                ·rw [if_neg c68] at H
                 have c68b0 : decide (x109_3 < (l2.length : Int)) = false := decide_eq_false c68
                 clear c68
                 by_cases c78 : (x18_3.length : Int) > 1000
                 ·rw [if_pos c78] at H
                  have c78b0 : decide (1000 < (x18_3.length : Int)) = true := decide_eq_true c78
                  have c78b1 : decide (1000 < x18_3.length) = true := decide_eq_true (by omega)
                  clear c78
                  obtain rfl := Option.some.inj H
                  obtain ⟨Ao79, co79, eo79⟩ := Kd.R_slice HO_18.out
                  subst eo79
                  go_wp2
                  go_ret
                  exact ⟨by first | rfl | (simp [errW_none, errW_some] <;> rfl) | (simp [*, errW_none, errW_some] <;> rfl), by repeat (first | (with_reducible first | exact HB.out | apply below_alloc | apply pw_below_drewN | apply below_drew1 | refine below_set ?_ GE101.out | refine below_set ?_ GE102.out | refine below_set ?_ GE109.out) | exact HB.out)⟩
                 ·rw [if_neg c78] at H
                  have c78b0 : decide (1000 < (x18_3.length : Int)) = false := decide_eq_false c78
                  have c78b1 : decide (1000 < x18_3.length) = false := decide_eq_false (by omega)
                  clear c78
                  replace H := Option.bind_eq_some_iff.mp H
                  obtain ⟨⟨t128, t131, t132⟩, A800, H⟩ := H
                  replace H : (if t132 = 0 then (if t131 = true then (trestlelaw14_CnfMeans.j3 k3 l2 t110 t128 t131 false t104 t105) else (trestlelaw14_CnfMeans.j3 k3 l2 t110 t128 t131 t110 t104 t105)) else (trestlelaw14_CnfMeans.j3 k3 l2 t110 t128 t131 true t104 t105)) = some r := H
                  have A80 := Aside0.mk A800
                  clear A800
                  have HC81 := Aside0.mk H
                  clear H
                  obtain ⟨Ao82, co82, eo82⟩ := Kd.R_slice HO_18.out
                  subst eo82
                  have hnb83 := NB109_101.out
                  have hnc83 := NB101_109.out
                  have hnb84 := NB109_102.out
                  have hnc84 := NB102_109.out
                  have hcz85_0 : wr.cell? ⟨gb109, 0, none⟩ = some (.int .i64 t104) := (blk_cell BK109.out 0).trans rfl
                  have hcz85_1 : wr.cell? ⟨gb109, 1, none⟩ = some (.slice Ao19 t105.length co19) := (blk_cell BK109.out 1).trans rfl
                  have hfz85_0 := blk_frozen BK109.out 0
                  have hfz85_1 := blk_frozen BK109.out 1
                  go_upto_region 23 with (first | ((with_reducible refine gate_callee (f := 19) rfl ?_); refine goesL_ (some 137) rfl rfl Tryz.func19 (by kernel_rfl) rfl #[.agg #[.int .i64 t104, .slice Ao19 t105.length co19], .slice Ao82 x18_3.length co82] rfl (by (try simp only [List.map_toArray, List.map_cons, List.map_nil]); first | done | rfl | (simp only [List.length_drop, List.length_take]; rfl)) ?_; (with_reducible refine (cnf_Force.calls t104 _ _ t105 _ _ x18_3 t128 t131 t132 _ ?side1 ?side2 ?side3 ?side4 A80.out).mono ?_); (case side1 => repeat (first | exact (Kd.S_reads' HO_110001.out).2.2 | (with_reducible refine Kd.C_alloc ?_ _) | (with_reducible refine Kd.C_drewN ?_ _) | (with_reducible refine Kd.C_drew ?_))); (case side2 => exact (Kd.S_reads' HO_110001.out).2.1); (case side3 => repeat (first | exact (Kd.R_reads' HO_18.out).2.2 | (with_reducible refine Kd.C_alloc ?_ _) | (with_reducible refine Kd.C_drewN ?_ _) | (with_reducible refine Kd.C_drew ?_))); (case side4 => exact (Kd.R_reads' HO_18.out).2.1); rintro e w86 ⟨v129, rfl, ho0, hb⟩; refine ⟨_, rfl, ?_⟩; have n0_ := Aside0.mk (Kd.R_elder' (by (with_reducible repeat (first | apply Kd.R_alloc | apply Kd.R_drewN | apply Kd.R_drew)); exact HO_18.out) (Kd.R_base ho0) hb); have n1_ := Aside0.mk (Kd.S_elder' (by (with_reducible repeat (first | apply Kd.S_alloc | apply Kd.S_drewN | apply Kd.S_drew)); exact HO_110001.out) (Kd.R_base ho0) hb); have n2_ := Aside0.mk (Kd.R_lower (Kd.R_new' ho0 (Kd.R_lt (by (with_reducible repeat (first | apply Kd.R_alloc | apply Kd.R_drewN | apply Kd.R_drew)); exact HO_18.out))) (below_size (by repeat (first | (with_reducible first | exact HB.out | apply below_alloc | apply pw_below_drewN | apply below_drew1 | refine below_set ?_ GE101.out | refine below_set ?_ GE102.out | refine below_set ?_ GE109.out) | exact HB.out)))); have n3_ := Aside0.mk (blk_below (g := gb101) (o := .cells #[.int .i64 a0_0, .slice A0_1 l0_1.length c0_1] 24 (0, 0)) (by (with_reducible repeat (first | refine blk_drewN ?_ _ | refine blk_drew ?_ | refine blk_alloc ?_ _)); exact BK101.out) hb); have n4_ := Aside0.mk (blk_below (g := gb102) (o := .cells #[.int .i64 a1_0, .slice A1_1 l1_1.length c1_1] 24 (0, 0)) (by (with_reducible repeat (first | refine blk_drewN ?_ _ | refine blk_drew ?_ | refine blk_alloc ?_ _)); exact BK102.out) hb); have n5_ := Aside0.mk (blk_below (g := gb109) (o := .cells #[.int .i64 t104, .slice Ao19 t105.length co19] 24 (0, 0)) (by (with_reducible repeat (first | refine blk_drewN ?_ _ | refine blk_drew ?_ | refine blk_alloc ?_ _)); exact BK109.out) hb); have n6_ := Aside0.mk (below_step (by repeat (first | (with_reducible first | exact HB.out | apply below_alloc | apply pw_below_drewN | apply below_drew1 | refine below_set ?_ GE101.out | refine below_set ?_ GE102.out | refine below_set ?_ GE109.out) | exact HB.out)) hb); clear HO_18; clear HO_110001; clear BK101; clear BK102; clear BK109; clear HB; have HO_18 := n0_; have HO_110001 := n1_; have HO130 := n2_; have BK101 := n3_; have BK102 := n4_; have BK109 := n5_; have HB := n6_; clear n0_ n1_ n2_ n3_ n4_ n5_ n6_; (try clear hb); (try clear hb2); (try clear hk); (try clear hi); (try clear ho0)))
                  (try simp only [Act.put, List.setIfInBounds_toArray, List.set_cons_zero, List.set_cons_succ])
                  as_aux_lemma =>
                   go_cut [149] (fun v149 wc => ∃ (kq : Nat) (x149_80 : Bool), v149 = .bool x149_80 ∧ Aside0 (trestlelaw14_CnfMeans.j3 kq l2 t110 t128 t131 x149_80 t104 t105 = some r) ∧ Aside0 (kq ≤ k3) ∧ Aside0 (Kd.R (Kd.int .i64) 3 wc w.heap.size (fun _ => True) v129 t128) ∧ Aside0 (Kd.S (Kd.slice 3 (Kd.int .i64)) 65 wc w.heap.size (fun k_ => some k_ ≠ (v129 : Value).ownBlock) (.slice Ao19 t105.length co19) t105) ∧ Aside0 (wc.heap[gb101]? = some (.cells #[.int .i64 a0_0, (.slice A0_1 l0_1.length c0_1)] 24 (0, 0))) ∧ Aside0 (wc.heap[gb102]? = some (.cells #[.int .i64 a1_0, (.slice A1_1 l1_1.length c1_1)] 24 (0, 0))) ∧ Aside0 (wc.heap[gb109]? = some (.cells #[.int .i64 t104, (.slice Ao19 t105.length co19)] 24 (0, 0))) ∧ Aside0 (Below w.heap.size w wc))
                   case first =>
                    have H := HC81.out
                    clear HC81
                    by_cases c87 : t132 = 0
                    ·rw [if_pos c87] at H
                     have c87b0 : (t132 == 0) = true := beq_iff_eq.mpr c87
                     have c87b1 : (t132 != 0) = false := bne_eq_false_iff_eq.mpr c87
                     clear c87
                     (first | rw [c87b0] | (simp only [i64_w, i32_w]; rw [c87b0]) | skip)
                     by_cases c88 : t131 = true
                     ·subst c88
                      have H1 : (trestlelaw14_CnfMeans.j3 k3 l2 t110 t128 true false t104 t105) = some r := by rw [if_pos rfl] at H; exact H
                      clear H
                      have H := H1
                      clear H1
                      have H' := Aside0.mk H
                      clear H
                      go_wp2
                      go_meet
                      case rel => exact ⟨_, (false), (by first | rfl | (simp; done) | (simp [*]; done)), H', ⟨by have := HJ6.out; have := HJ51.out; have := HK3.out; first | omega | exact Nat.le_refl _⟩, ⟨by (with_reducible repeat (first | apply Kd.R_alloc | apply Kd.R_drewN | apply Kd.R_drew)); exact Kd.R_mono HO130.out (fun _ hk => trivial)⟩, ⟨by (with_reducible repeat (first | apply Kd.S_alloc | apply Kd.S_drewN | apply Kd.S_drew)); exact Kd.S_mono HO_110001.out (fun _ hk => hk.2)⟩, ⟨by (with_reducible repeat (first | refine blk_drewN ?_ _ | refine blk_drew ?_ | refine blk_alloc ?_ _)); exact BK101.out⟩, ⟨by (with_reducible repeat (first | refine blk_drewN ?_ _ | refine blk_drew ?_ | refine blk_alloc ?_ _)); exact BK102.out⟩, ⟨by (with_reducible repeat (first | refine blk_drewN ?_ _ | refine blk_drew ?_ | refine blk_alloc ?_ _)); exact BK109.out⟩, ⟨by repeat (first | (with_reducible first | exact HB.out | apply below_alloc | apply pw_below_drewN | apply below_drew1 | refine below_set ?_ GE101.out | refine below_set ?_ GE102.out | refine below_set ?_ GE109.out) | exact HB.out)⟩⟩
                     ·replace c88 := Bool.eq_false_iff.mpr c88
                      subst c88
                      have H1 : (trestlelaw14_CnfMeans.j3 k3 l2 t110 t128 false t110 t104 t105) = some r := by rw [if_neg (show ¬ (false = true) by decide)] at H; exact H
                      clear H
                      have H := H1
                      clear H1
                      have H' := Aside0.mk H
                      clear H
                      go_wp2
                      go_meet
                      case rel => exact ⟨_, (t110), (by first | rfl | (simp; done) | (simp [*]; done)), H', ⟨by have := HJ6.out; have := HJ51.out; have := HK3.out; first | omega | exact Nat.le_refl _⟩, ⟨by (with_reducible repeat (first | apply Kd.R_alloc | apply Kd.R_drewN | apply Kd.R_drew)); exact Kd.R_mono HO130.out (fun _ hk => trivial)⟩, ⟨by (with_reducible repeat (first | apply Kd.S_alloc | apply Kd.S_drewN | apply Kd.S_drew)); exact Kd.S_mono HO_110001.out (fun _ hk => hk.2)⟩, ⟨by (with_reducible repeat (first | refine blk_drewN ?_ _ | refine blk_drew ?_ | refine blk_alloc ?_ _)); exact BK101.out⟩, ⟨by (with_reducible repeat (first | refine blk_drewN ?_ _ | refine blk_drew ?_ | refine blk_alloc ?_ _)); exact BK102.out⟩, ⟨by (with_reducible repeat (first | refine blk_drewN ?_ _ | refine blk_drew ?_ | refine blk_alloc ?_ _)); exact BK109.out⟩, ⟨by repeat (first | (with_reducible first | exact HB.out | apply below_alloc | apply pw_below_drewN | apply below_drew1 | refine below_set ?_ GE101.out | refine below_set ?_ GE102.out | refine below_set ?_ GE109.out) | exact HB.out)⟩⟩
                    ·rw [if_neg c87] at H
                     have c87b0 : (t132 == 0) = false := beq_eq_false_iff_ne.mpr c87
                     have c87b1 : (t132 != 0) = true := bne_iff_ne.mpr c87
                     (first | rw [c87b0] | (simp only [i64_w, i32_w]; rw [c87b0]) | skip)
                     have H' := Aside0.mk H
                     clear H
                     go_wp2
                     go_meet
                     case rel => exact ⟨_, (true), (by first | rfl | (simp; done) | (simp [*]; done)), H', ⟨by have := HJ6.out; have := HJ51.out; have := HK3.out; first | omega | exact Nat.le_refl _⟩, ⟨by (with_reducible repeat (first | apply Kd.R_alloc | apply Kd.R_drewN | apply Kd.R_drew)); exact Kd.R_mono HO130.out (fun _ hk => trivial)⟩, ⟨by (with_reducible repeat (first | apply Kd.S_alloc | apply Kd.S_drewN | apply Kd.S_drew)); exact Kd.S_mono HO_110001.out (fun _ hk => hk.2)⟩, ⟨by (with_reducible repeat (first | refine blk_drewN ?_ _ | refine blk_drew ?_ | refine blk_alloc ?_ _)); exact BK101.out⟩, ⟨by (with_reducible repeat (first | refine blk_drewN ?_ _ | refine blk_drew ?_ | refine blk_alloc ?_ _)); exact BK102.out⟩, ⟨by (with_reducible repeat (first | refine blk_drewN ?_ _ | refine blk_drew ?_ | refine blk_alloc ?_ _)); exact BK109.out⟩, ⟨by repeat (first | (with_reducible first | exact HB.out | apply below_alloc | apply pw_below_drewN | apply below_drew1 | refine below_set ?_ GE101.out | refine below_set ?_ GE102.out | refine below_set ?_ GE109.out) | exact HB.out)⟩⟩
                   case rest =>
                    clear HC81
                    try clear c1
                    try clear p1
                    try clear q1
                    try clear hx1
                    try clear c2
                    try clear p2
                    try clear c3
                    try clear c4
                    try clear c5
                    try clear c6
                    try clear p6
                    try clear c7
                    try clear q7
                    try clear c8
                    try clear c11
                    try clear p12
                    try clear q12
                    try clear hx12
                    try clear c16
                    try clear c17
                    try clear c19
                    try clear c20
                    try clear c20b0
                    try clear c20b1
                    try clear c21
                    try clear c21b0
                    try clear c21b1
                    try clear c22
                    try clear c22b0
                    try clear c23
                    try clear c24
                    try clear c25
                    try clear c26
                    try clear c28
                    try clear c29
                    try clear c31
                    try clear c34
                    try clear c35
                    try clear c37
                    try clear c38
                    try clear c38b0
                    try clear c38b1
                    try clear c38b2
                    try clear c39
                    try clear c40
                    try clear c42
                    try clear c43
                    try clear c46
                    try clear c46b0
                    try clear c46b1
                    try clear c47
                    try clear c47b0
                    try clear c47b1
                    try clear c49
                    try clear c49b0
                    try clear c49b1
                    try clear c50
                    try clear c50b0
                    try clear c50b1
                    try clear c53
                    try clear c54
                    try clear c63
                    try clear c63b0
                    try clear c63b1
                    try clear c64
                    try clear c64b0
                    try clear c64b1
                    try clear p64
                    try clear c65
                    try clear c65b0
                    try clear c65b1
                    try clear c66
                    try clear c67
                    try clear c68
                    try clear c68b0
                    try clear c69
                    try clear c69b0
                    try clear c69b1
                    try clear c70
                    try clear c70b0
                    try clear c71
                    try clear c71b0
                    try clear q72
                    try clear c73
                    try clear c74
                    try clear c76
                    try clear c78
                    try clear c78b0
                    try clear c78b1
                    try clear c83
                    try clear c84
                    try clear c87
                    try clear c87b0
                    try clear c87b1
                    try clear c88
                    try clear hcz12_0
                    try clear hcz12_1
                    try clear hcz13_0
                    try clear hcz13_1
                    try clear hcz18_0
                    try clear hcz18_1
                    try clear hcz25_0
                    try clear hcz25_1
                    try clear hcz27_0
                    try clear hcz27_1
                    try clear hcz30_0
                    try clear hcz30_1
                    try clear hcz32_0
                    try clear hcz32_1
                    try clear hcz33_0
                    try clear hcz33_1
                    try clear hcz36_0
                    try clear hcz36_1
                    try clear hcz41_0
                    try clear hcz41_1
                    try clear hcz44_0
                    try clear hcz44_1
                    try clear hcz55_0
                    try clear hcz55_1
                    try clear hcz85_0
                    try clear hcz85_1
                    try clear hfz12_0
                    try clear hfz12_1
                    try clear hfz13_0
                    try clear hfz13_1
                    try clear hfz18_0
                    try clear hfz18_1
                    try clear hfz25_0
                    try clear hfz25_1
                    try clear hfz27_0
                    try clear hfz27_1
                    try clear hfz30_0
                    try clear hfz30_1
                    try clear hfz32_0
                    try clear hfz32_1
                    try clear hfz33_0
                    try clear hfz33_1
                    try clear hfz36_0
                    try clear hfz36_1
                    try clear hfz41_0
                    try clear hfz41_1
                    try clear hfz44_0
                    try clear hfz44_1
                    try clear hfz55_0
                    try clear hfz55_1
                    try clear hfz85_0
                    try clear hfz85_1
                    try clear hx121_0
                    try clear p121
                    try clear p2
                    try clear q121
                    obtain ⟨kq, x149_80, rfl, HA, HJ80, HO_20, HO_110001, BK101, BK102, BK109, HB⟩ := hcut
                    cases kq with
                    | zero => exact absurd HA.out (by simp [trestlelaw14_CnfMeans.j3])
                    | succ kj80 =>
                     have H := HA.out
                     clear HA
                     simp only [trestlelaw14_CnfMeans.j3] at H
                     by_cases c89 : x149_80 = true
                     ·subst c89
                      have H1 : (some false) = some r := by rw [if_pos rfl] at H; exact H
                      clear H
                      have H := H1
                      clear H1
                      obtain rfl := Option.some.inj H
                      go_wp2
                      go_ret
                      exact ⟨by first | rfl | (simp [errW_none, errW_some] <;> rfl) | (simp [*, errW_none, errW_some] <;> rfl), by repeat (first | (with_reducible first | exact HB.out | apply below_alloc | apply pw_below_drewN | apply below_drew1 | refine below_set ?_ GE101.out | refine below_set ?_ GE102.out | refine below_set ?_ GE109.out) | exact HB.out)⟩
                     ·replace c89 := Bool.eq_false_iff.mpr c89
                      subst c89
                      have H1 : (trestlelaw14_CnfMeans.l1 kj80 l2 t110 t128 t131 t128 (t128.length : Int) 0 t104 t105) = some r := by rw [if_neg (show ¬ (false = true) by decide)] at H; exact H
                      clear H
                      have H := H1
                      clear H1
                      have H' := Aside0.mk H
                      clear H
                      obtain ⟨Ao90, co90, eo90⟩ := Kd.R_slice HO_20.out
                      subst eo90
                      go_wp2
                      as_aux_lemma =>
                       go_loopg [152] kj80 (fun kq v152 w' => ∃ (x152_5 : Int), v152 = .int .i64 x152_5 ∧ Aside0 (trestlelaw14_CnfMeans.l1 kq l2 t110 t128 t131 t128 (t128.length : Int) x152_5 t104 t105 = some r) ∧ Aside0 (kq ≤ kj80) ∧ Aside0 (Kd.R (Kd.int .i64) 3 w' w.heap.size (fun _ => True) (.slice Ao90 t128.length co90) t128) ∧ Aside0 (Kd.R (Kd.int .i64) 3 w' w.heap.size (fun _ => True) (.slice Ao90 t128.length co90) t128) ∧ Aside0 (Kd.S (Kd.slice 3 (Kd.int .i64)) 65 w' w.heap.size (fun k_ => some k_ ≠ ((.slice Ao90 t128.length co90) : Value).ownBlock ∧ some k_ ≠ ((.slice Ao90 t128.length co90) : Value).ownBlock) (.slice Ao19 t105.length co19) t105) ∧ Aside0 (w'.heap[gb101]? = some (.cells #[.int .i64 a0_0, (.slice A0_1 l0_1.length c0_1)] 24 (0, 0))) ∧ Aside0 (w'.heap[gb102]? = some (.cells #[.int .i64 a1_0, (.slice A1_1 l1_1.length c1_1)] 24 (0, 0))) ∧ Aside0 (w'.heap[gb109]? = some (.cells #[.int .i64 t104, (.slice Ao19 t105.length co19)] 24 (0, 0))) ∧ Aside0 (Below w.heap.size w w'))
                       case atStart => exact ⟨(0), (by first | rfl | (simp; done) | (simp [*]; done)), H', ⟨Nat.le_refl _⟩, ⟨by (with_reducible repeat (first | apply Kd.R_alloc | apply Kd.R_drewN | apply Kd.R_drew)); exact HO_20.out⟩, ⟨by (with_reducible repeat (first | apply Kd.R_alloc | apply Kd.R_drewN | apply Kd.R_drew)); exact HO_20.out⟩, ⟨by (with_reducible repeat (first | apply Kd.S_alloc | apply Kd.S_drewN | apply Kd.S_drew)); exact Kd.S_mono HO_110001.out (fun _ hk => ⟨hk, hk⟩)⟩, ⟨by (with_reducible repeat (first | refine blk_drewN ?_ _ | refine blk_drew ?_ | refine blk_alloc ?_ _)); exact BK101.out⟩, ⟨by (with_reducible repeat (first | refine blk_drewN ?_ _ | refine blk_drew ?_ | refine blk_alloc ?_ _)); exact BK102.out⟩, ⟨by (with_reducible repeat (first | refine blk_drewN ?_ _ | refine blk_drew ?_ | refine blk_alloc ?_ _)); exact BK109.out⟩, ⟨by repeat (first | (with_reducible first | exact HB.out | apply below_alloc | apply pw_below_drewN | apply below_drew1 | refine below_set ?_ GE101.out | refine below_set ?_ GE102.out | refine below_set ?_ GE109.out) | exact HB.out)⟩⟩
                       case round =>
                        clear H'
                        try clear c1
                        try clear p1
                        try clear q1
                        try clear hx1
                        try clear c2
                        try clear p2
                        try clear c3
                        try clear c4
                        try clear c5
                        try clear c6
                        try clear p6
                        try clear c7
                        try clear q7
                        try clear c8
                        try clear c11
                        try clear p12
                        try clear q12
                        try clear hx12
                        try clear c16
                        try clear c17
                        try clear c19
                        try clear c20
                        try clear c20b0
                        try clear c20b1
                        try clear c21
                        try clear c21b0
                        try clear c21b1
                        try clear c22
                        try clear c22b0
                        try clear c23
                        try clear c24
                        try clear c25
                        try clear c26
                        try clear c28
                        try clear c29
                        try clear c31
                        try clear c34
                        try clear c35
                        try clear c37
                        try clear c38
                        try clear c38b0
                        try clear c38b1
                        try clear c38b2
                        try clear c39
                        try clear c40
                        try clear c42
                        try clear c43
                        try clear c46
                        try clear c46b0
                        try clear c46b1
                        try clear c47
                        try clear c47b0
                        try clear c47b1
                        try clear c49
                        try clear c49b0
                        try clear c49b1
                        try clear c50
                        try clear c50b0
                        try clear c50b1
                        try clear c53
                        try clear c54
                        try clear c63
                        try clear c63b0
                        try clear c63b1
                        try clear c64
                        try clear c64b0
                        try clear c64b1
                        try clear p64
                        try clear c65
                        try clear c65b0
                        try clear c65b1
                        try clear c66
                        try clear c67
                        try clear c68
                        try clear c68b0
                        try clear c69
                        try clear c69b0
                        try clear c69b1
                        try clear c70
                        try clear c70b0
                        try clear c71
                        try clear c71b0
                        try clear q72
                        try clear c73
                        try clear c74
                        try clear c76
                        try clear c78
                        try clear c78b0
                        try clear c78b1
                        try clear c83
                        try clear c84
                        try clear c87
                        try clear c87b0
                        try clear c87b1
                        try clear c88
                        try clear c89
                        try clear hcz12_0
                        try clear hcz12_1
                        try clear hcz13_0
                        try clear hcz13_1
                        try clear hcz18_0
                        try clear hcz18_1
                        try clear hcz25_0
                        try clear hcz25_1
                        try clear hcz27_0
                        try clear hcz27_1
                        try clear hcz30_0
                        try clear hcz30_1
                        try clear hcz32_0
                        try clear hcz32_1
                        try clear hcz33_0
                        try clear hcz33_1
                        try clear hcz36_0
                        try clear hcz36_1
                        try clear hcz41_0
                        try clear hcz41_1
                        try clear hcz44_0
                        try clear hcz44_1
                        try clear hcz55_0
                        try clear hcz55_1
                        try clear hcz85_0
                        try clear hcz85_1
                        try clear hfz12_0
                        try clear hfz12_1
                        try clear hfz13_0
                        try clear hfz13_1
                        try clear hfz18_0
                        try clear hfz18_1
                        try clear hfz25_0
                        try clear hfz25_1
                        try clear hfz27_0
                        try clear hfz27_1
                        try clear hfz30_0
                        try clear hfz30_1
                        try clear hfz32_0
                        try clear hfz32_1
                        try clear hfz33_0
                        try clear hfz33_1
                        try clear hfz36_0
                        try clear hfz36_1
                        try clear hfz41_0
                        try clear hfz41_1
                        try clear hfz44_0
                        try clear hfz44_1
                        try clear hfz55_0
                        try clear hfz55_1
                        try clear hfz85_0
                        try clear hfz85_1
                        try clear hx121_0
                        try clear p1
                        try clear p12
                        try clear p121
                        try clear p2
                        try clear p6
                        try clear p64
                        try clear q1
                        try clear q12
                        try clear q121
                        try clear q7
                        try clear q72
                        obtain ⟨x152_5, rfl, HA, HK5, HO_20, HO_150, HO_110001, BK101, BK102, BK109, HB⟩ := hrel
                        cases gk with
                        | zero => exact absurd HA.out (by simp [trestlelaw14_CnfMeans.l1])
                        | succ k5 =>
                         have H := HA.out
                         clear HA
                         simp only [trestlelaw14_CnfMeans.l1] at H
                         by_cases c91 : x152_5 < (t128.length : Int)
                         ·rw [if_pos c91] at H
                          have c91b0 : decide (x152_5 < (t128.length : Int)) = true := decide_eq_true c91
                          clear c91
                          by_cases c92 : 0 ≤ x152_5
                          ·rw [if_pos c92] at H
                           have c92b0 : decide (0 ≤ x152_5) = true := decide_eq_true c92
                           clear c92
                           by_cases c93 : x152_5 < (t128.length : Int)
                           ·rw [if_pos c93] at H
                            have c93b0 : decide (x152_5 < (t128.length : Int)) = true := decide_eq_true c93
                            clear c93
                            by_cases c94 : t110 = true
                            ·subst c94
                             have H1 : (if 0 ≤ (wrap64 ((mx (rd t128 x152_5) (wrap64 (-(rd t128 x152_5)))) - 1)) then (if (wrap64 ((mx (rd t128 x152_5) (wrap64 (-(rd t128 x152_5)))) - 1)) < (l2.length : Int) then (if ((rdOf false l2 (wrap64 ((mx (rd t128 x152_5) (wrap64 (-(rd t128 x152_5)))) - 1))) != (decide ((rd t128 x152_5) > 0))) = true then (some false) else (trestlelaw14_CnfMeans.l1 k5 l2 true t128 t131 t128 (t128.length : Int) (wrap64 (x152_5 + 1)) t104 t105)) else (none)) else (none)) = some r := by rw [if_pos rfl] at H; exact H
                             clear H
                             have H := H1
                             clear H1
                             obtain ⟨ji95, hji95⟩ : ∃ j_ : Int, (mx (rd t128 x152_5) (wrap64 (-(rd t128 x152_5)))) = j_ := ⟨_, rfl⟩
                             replace H : (if 0 ≤ (wrap64 ((ji95) - 1)) then (if (wrap64 ((ji95) - 1)) < (l2.length : Int) then (if ((rdOf false l2 (wrap64 ((ji95) - 1))) != (decide ((rd t128 x152_5) > 0))) = true then (some false) else (trestlelaw14_CnfMeans.l1 k5 l2 true t128 t131 t128 (t128.length : Int) (wrap64 (x152_5 + 1)) t104 t105)) else (none)) else (none)) = some r := by first | (rw [hji95] at H; exact H) | (simp only [hji95] at H ⊢; exact H)
                             have hji95_ : (if (rd t128 x152_5) < (wrap64 (-(rd t128 x152_5))) then (wrap64 (-(rd t128 x152_5))) else (rd t128 x152_5)) = ji95 := hji95
                             obtain ⟨ji96, hji96⟩ : ∃ j_ : Int, (wrap64 ((ji95) - 1)) = j_ := ⟨_, rfl⟩
                             replace H : (if 0 ≤ (ji96) then (if (ji96) < (l2.length : Int) then (if ((rdOf false l2 (ji96)) != (decide ((rd t128 x152_5) > 0))) = true then (some false) else (trestlelaw14_CnfMeans.l1 k5 l2 true t128 t131 t128 (t128.length : Int) (wrap64 (x152_5 + 1)) t104 t105)) else (none)) else (none)) = some r := by first | (rw [hji96] at H; exact H) | (simp only [hji96] at H ⊢; exact H)
                             have hji96w : (IntKind.i64.wrap ((ji95) - 1)) = ji96 := (i64_w _).trans hji96
                             by_cases c97 : 0 ≤ (ji96)
                             ·rw [if_pos c97] at H
                              have c97b0 : decide (0 ≤ (ji96)) = true := decide_eq_true c97
                              clear c97
                              by_cases c98 : (ji96) < (l2.length : Int)
                              ·rw [if_pos c98] at H
                               have c98b0 : decide ((ji96) < (l2.length : Int)) = true := decide_eq_true c98
                               clear c98
                               by_cases c99 : ((rdOf false l2 (ji96)) != (decide ((rd t128 x152_5) > 0))) = true
                               ·rw [if_pos c99] at H
                                have c99b0 : ((rdOf false l2 (ji96)) != (decide ((rd t128 x152_5) > 0))) = true := c99
                                (try (have c99b1 : decide ((rdOf false l2 (ji96)) = (decide ((rd t128 x152_5) > 0))) = false := by simpa using c99))
                                (try (have c99b2 : ((rdOf false l2 (ji96)) == (decide ((rd t128 x152_5) > 0))) = false := by simpa using c99))
                                (try (have c99b3 : ¬ ((rdOf false l2 (ji96)) = (decide ((rd t128 x152_5) > 0))) := by simpa using c99))
                                clear c99
                                obtain rfl := Option.some.inj H
                                have p133 : 0 ≤ (x152_5 : Int) := of_decide_eq_true (by first | (with_reducible assumption) | assumption)
                                have q133 : x152_5 < (t128.length : Int) := of_decide_eq_true (by first | (with_reducible assumption) | assumption)
                                obtain ⟨ad133, e133, hx133_0⟩ := Kd.at_int (Kd.R_reads' HO_150.out).2.2 x152_5 p133 q133
                                cases e133
                                replace p133 := eq_true p133
                                replace q133 := eq_true q133
                                have p134 : 0 ≤ ((ji96) : Int) := of_decide_eq_true (by first | (with_reducible assumption) | assumption)
                                have q134 : (ji96) < (l2.length : Int) := of_decide_eq_true (by first | (with_reducible assumption) | assumption)
                                obtain ⟨ad134, e134, hx134_0⟩ := Kd.at_bool HR2.out (ji96) p134 q134
                                cases e134
                                replace hx134_0 := (HB.out.cell (World.block_lt_of_cell? w _ hx134_0)).trans hx134_0
                                replace p134 := eq_true p134
                                replace q134 := eq_true q134
                                go_wp2
                                go_ret
                                exact ⟨by first | rfl | (simp [errW_none, errW_some] <;> rfl) | (simp only [← hji95, ← hji96]; first | rfl | (simp [errW_none, errW_some] <;> rfl)) | (simp [*, errW_none, errW_some] <;> rfl), by repeat (first | (with_reducible first | exact HB.out | apply below_alloc | apply pw_below_drewN | apply below_drew1 | refine below_set ?_ GE101.out | refine below_set ?_ GE102.out | refine below_set ?_ GE109.out) | exact HB.out)⟩
                               ·rw [if_neg c99] at H
                                have c99b0 : ((rdOf false l2 (ji96)) != (decide ((rd t128 x152_5) > 0))) = false := by simpa using c99
                                (try (have c99b1 : decide ((rdOf false l2 (ji96)) = (decide ((rd t128 x152_5) > 0))) = true := by simpa using c99))
                                (try (have c99b2 : ((rdOf false l2 (ji96)) == (decide ((rd t128 x152_5) > 0))) = true := by simpa using c99))
                                clear c99
                                have H' := Aside0.mk H
                                clear H
                                have p133 : 0 ≤ (x152_5 : Int) := of_decide_eq_true (by first | (with_reducible assumption) | assumption)
                                have q133 : x152_5 < (t128.length : Int) := of_decide_eq_true (by first | (with_reducible assumption) | assumption)
                                obtain ⟨ad133, e133, hx133_0⟩ := Kd.at_int (Kd.R_reads' HO_150.out).2.2 x152_5 p133 q133
                                cases e133
                                replace p133 := eq_true p133
                                replace q133 := eq_true q133
                                have p134 : 0 ≤ ((ji96) : Int) := of_decide_eq_true (by first | (with_reducible assumption) | assumption)
                                have q134 : (ji96) < (l2.length : Int) := of_decide_eq_true (by first | (with_reducible assumption) | assumption)
                                obtain ⟨ad134, e134, hx134_0⟩ := Kd.at_bool HR2.out (ji96) p134 q134
                                cases e134
                                replace hx134_0 := (HB.out.cell (World.block_lt_of_cell? w _ hx134_0)).trans hx134_0
                                replace p134 := eq_true p134
                                replace q134 := eq_true q134
                                go_wp2
                                go_roundg k5
                                case measure => have := HJ6.out; have := HJ51.out; have := HK3.out; have := HJ80.out; have := HK5.out; omega
                                case rel => exact ⟨(wrap64 (x152_5 + 1)), (by first | rfl | (simp; done) | (simp [*]; done)), H', ⟨by have := HJ6.out; have := HJ51.out; have := HK3.out; have := HJ80.out; have := HK5.out; omega⟩, ⟨by (with_reducible repeat (first | apply Kd.R_alloc | apply Kd.R_drewN | apply Kd.R_drew)); exact HO_20.out⟩, ⟨by (with_reducible repeat (first | apply Kd.R_alloc | apply Kd.R_drewN | apply Kd.R_drew)); exact HO_150.out⟩, ⟨by (with_reducible repeat (first | apply Kd.S_alloc | apply Kd.S_drewN | apply Kd.S_drew)); exact HO_110001.out⟩, ⟨by (with_reducible repeat (first | refine blk_drewN ?_ _ | refine blk_drew ?_ | refine blk_alloc ?_ _)); exact BK101.out⟩, ⟨by (with_reducible repeat (first | refine blk_drewN ?_ _ | refine blk_drew ?_ | refine blk_alloc ?_ _)); exact BK102.out⟩, ⟨by (with_reducible repeat (first | refine blk_drewN ?_ _ | refine blk_drew ?_ | refine blk_alloc ?_ _)); exact BK109.out⟩, ⟨by repeat (first | (with_reducible first | exact HB.out | apply below_alloc | apply pw_below_drewN | apply below_drew1 | refine below_set ?_ GE101.out | refine below_set ?_ GE102.out | refine below_set ?_ GE109.out) | exact HB.out)⟩⟩
                              ·rw [if_neg c98] at H
                               exact absurd H (by simp)
                             ·rw [if_neg c97] at H
                              exact absurd H (by simp)
                            ·replace c94 := Bool.eq_false_iff.mpr c94
                             subst c94
                             have H1 : (trestlelaw14_CnfMeans.l1 k5 l2 false t128 t131 t128 (t128.length : Int) (wrap64 (x152_5 + 1)) t104 t105) = some r := by rw [if_neg (show ¬ (false = true) by decide)] at H; exact H
                             clear H
                             have H := H1
                             clear H1
                             have H' := Aside0.mk H
                             clear H
                             have p133 : 0 ≤ (x152_5 : Int) := of_decide_eq_true (by first | (with_reducible assumption) | assumption)
                             have q133 : x152_5 < (t128.length : Int) := of_decide_eq_true (by first | (with_reducible assumption) | assumption)
                             obtain ⟨ad133, e133, hx133_0⟩ := Kd.at_int (Kd.R_reads' HO_150.out).2.2 x152_5 p133 q133
                             cases e133
                             replace p133 := eq_true p133
                             replace q133 := eq_true q133
                             go_wp2
                             go_roundg k5
                             case measure => have := HJ6.out; have := HJ51.out; have := HK3.out; have := HJ80.out; have := HK5.out; omega
                             case rel => exact ⟨(wrap64 (x152_5 + 1)), (by first | rfl | (simp; done) | (simp [*]; done)), H', ⟨by have := HJ6.out; have := HJ51.out; have := HK3.out; have := HJ80.out; have := HK5.out; omega⟩, ⟨by (with_reducible repeat (first | apply Kd.R_alloc | apply Kd.R_drewN | apply Kd.R_drew)); exact HO_20.out⟩, ⟨by (with_reducible repeat (first | apply Kd.R_alloc | apply Kd.R_drewN | apply Kd.R_drew)); exact HO_150.out⟩, ⟨by (with_reducible repeat (first | apply Kd.S_alloc | apply Kd.S_drewN | apply Kd.S_drew)); exact HO_110001.out⟩, ⟨by (with_reducible repeat (first | refine blk_drewN ?_ _ | refine blk_drew ?_ | refine blk_alloc ?_ _)); exact BK101.out⟩, ⟨by (with_reducible repeat (first | refine blk_drewN ?_ _ | refine blk_drew ?_ | refine blk_alloc ?_ _)); exact BK102.out⟩, ⟨by (with_reducible repeat (first | refine blk_drewN ?_ _ | refine blk_drew ?_ | refine blk_alloc ?_ _)); exact BK109.out⟩, ⟨by repeat (first | (with_reducible first | exact HB.out | apply below_alloc | apply pw_below_drewN | apply below_drew1 | refine below_set ?_ GE101.out | refine below_set ?_ GE102.out | refine below_set ?_ GE109.out) | exact HB.out)⟩⟩
                           ·rw [if_neg c93] at H
                            exact absurd H (by simp)
                          ·rw [if_neg c92] at H
                           exact absurd H (by simp)
                         ·rw [if_neg c91] at H
                          have c91b0 : decide (x152_5 < (t128.length : Int)) = false := decide_eq_false c91
                          clear c91
                          by_cases c100 : t131 = true
                          ·subst c100
                           have H1 : ((cnf_Force.f t104 t105 t128).bind fun bt135 => (if bt135.2.2 = 0 then (if bt135.2.1 = true then (trestlelaw14_CnfMeans.j5 k5 t128 bt135.1 ((bt135.1.length : Int) != (t128.length : Int))) else (trestlelaw14_CnfMeans.j5 k5 t128 bt135.1 true)) else (trestlelaw14_CnfMeans.j5 k5 t128 bt135.1 true))) = some r := by rw [if_pos rfl] at H; exact H
                           clear H
                           have H := H1
                           clear H1
                           replace H := Option.bind_eq_some_iff.mp H
                           obtain ⟨⟨t135, t138, t139⟩, A1010, H⟩ := H
                           replace H : (if t139 = 0 then (if t138 = true then (trestlelaw14_CnfMeans.j5 k5 t128 t135 ((t135.length : Int) != (t128.length : Int))) else (trestlelaw14_CnfMeans.j5 k5 t128 t135 true)) else (trestlelaw14_CnfMeans.j5 k5 t128 t135 true)) = some r := H
                           have A101 := Aside0.mk A1010
                           clear A1010
                           have HC102 := Aside0.mk H
                           clear H
                           have hnb103 := NB109_101.out
                           have hnc103 := NB101_109.out
                           have hnb104 := NB109_102.out
                           have hnc104 := NB102_109.out
                           have hcz105_0 : wr.cell? ⟨gb109, 0, none⟩ = some (.int .i64 t104) := (blk_cell BK109.out 0).trans rfl
                           have hcz105_1 : wr.cell? ⟨gb109, 1, none⟩ = some (.slice Ao19 t105.length co19) := (blk_cell BK109.out 1).trans rfl
                           have hfz105_0 := blk_frozen BK109.out 0
                           have hfz105_1 := blk_frozen BK109.out 1
                           go_upto_region 34 with (first | ((with_reducible refine gate_callee (f := 19) rfl ?_); refine goesL_ (some 176) rfl rfl Tryz.func19 (by kernel_rfl) rfl #[.agg #[.int .i64 t104, .slice Ao19 t105.length co19], .slice Ao90 t128.length co90] rfl (by (try simp only [List.map_toArray, List.map_cons, List.map_nil]); first | done | rfl | (simp only [List.length_drop, List.length_take]; rfl)) ?_; (with_reducible refine (cnf_Force.calls t104 _ _ t105 _ _ t128 t135 t138 t139 _ ?side1 ?side2 ?side3 ?side4 A101.out).mono ?_); (case side1 => repeat (first | exact (Kd.S_reads' HO_110001.out).2.2 | (with_reducible refine Kd.C_alloc ?_ _) | (with_reducible refine Kd.C_drewN ?_ _) | (with_reducible refine Kd.C_drew ?_))); (case side2 => exact (Kd.S_reads' HO_110001.out).2.1); (case side3 => repeat (first | exact (Kd.R_reads' HO_20.out).2.2 | (with_reducible refine Kd.C_alloc ?_ _) | (with_reducible refine Kd.C_drewN ?_ _) | (with_reducible refine Kd.C_drew ?_))); (case side4 => exact (Kd.R_reads' HO_20.out).2.1); rintro e w106 ⟨v136, rfl, ho0, hb⟩; refine ⟨_, rfl, ?_⟩; have n0_ := Aside0.mk (Kd.R_elder' (by (with_reducible repeat (first | apply Kd.R_alloc | apply Kd.R_drewN | apply Kd.R_drew)); exact HO_20.out) (Kd.R_base ho0) hb); have n1_ := Aside0.mk (Kd.R_elder' (by (with_reducible repeat (first | apply Kd.R_alloc | apply Kd.R_drewN | apply Kd.R_drew)); exact HO_150.out) (Kd.R_base ho0) hb); have n2_ := Aside0.mk (Kd.S_elder' (by (with_reducible repeat (first | apply Kd.S_alloc | apply Kd.S_drewN | apply Kd.S_drew)); exact HO_110001.out) (Kd.R_base ho0) hb); have n3_ := Aside0.mk (Kd.R_lower (Kd.R_new' (Kd.R_new' ho0 (Kd.R_lt (by (with_reducible repeat (first | apply Kd.R_alloc | apply Kd.R_drewN | apply Kd.R_drew)); exact HO_20.out))) (Kd.R_lt (by (with_reducible repeat (first | apply Kd.R_alloc | apply Kd.R_drewN | apply Kd.R_drew)); exact HO_150.out))) (below_size (by repeat (first | (with_reducible first | exact HB.out | apply below_alloc | apply pw_below_drewN | apply below_drew1 | refine below_set ?_ GE101.out | refine below_set ?_ GE102.out | refine below_set ?_ GE109.out) | exact HB.out)))); have n4_ := Aside0.mk (blk_below (g := gb101) (o := .cells #[.int .i64 a0_0, .slice A0_1 l0_1.length c0_1] 24 (0, 0)) (by (with_reducible repeat (first | refine blk_drewN ?_ _ | refine blk_drew ?_ | refine blk_alloc ?_ _)); exact BK101.out) hb); have n5_ := Aside0.mk (blk_below (g := gb102) (o := .cells #[.int .i64 a1_0, .slice A1_1 l1_1.length c1_1] 24 (0, 0)) (by (with_reducible repeat (first | refine blk_drewN ?_ _ | refine blk_drew ?_ | refine blk_alloc ?_ _)); exact BK102.out) hb); have n6_ := Aside0.mk (blk_below (g := gb109) (o := .cells #[.int .i64 t104, .slice Ao19 t105.length co19] 24 (0, 0)) (by (with_reducible repeat (first | refine blk_drewN ?_ _ | refine blk_drew ?_ | refine blk_alloc ?_ _)); exact BK109.out) hb); have n7_ := Aside0.mk (below_step (by repeat (first | (with_reducible first | exact HB.out | apply below_alloc | apply pw_below_drewN | apply below_drew1 | refine below_set ?_ GE101.out | refine below_set ?_ GE102.out | refine below_set ?_ GE109.out) | exact HB.out)) hb); clear HO_20; clear HO_150; clear HO_110001; clear BK101; clear BK102; clear BK109; clear HB; have HO_20 := n0_; have HO_150 := n1_; have HO_110001 := n2_; have HO137 := n3_; have BK101 := n4_; have BK102 := n5_; have BK109 := n6_; have HB := n7_; clear n0_ n1_ n2_ n3_ n4_ n5_ n6_ n7_; (try clear hb); (try clear hb2); (try clear hk); (try clear hi); (try clear ho0)))
                           (try simp only [Act.put, List.setIfInBounds_toArray, List.set_cons_zero, List.set_cons_succ])
                           as_aux_lemma =>
                            go_cut [192] (fun v192 wc => ∃ (kq : Nat) (x192_101 : Bool), v192 = .bool x192_101 ∧ Aside0 (trestlelaw14_CnfMeans.j5 kq t128 t135 x192_101 = some r) ∧ Aside0 (kq ≤ k5) ∧ Aside0 (Kd.R (Kd.int .i64) 3 wc w.heap.size (fun k_ => some k_ ≠ (v136 : Value).ownBlock) (.slice Ao90 t128.length co90) t128) ∧ Aside0 (Kd.R (Kd.int .i64) 3 wc w.heap.size (fun k_ => some k_ ≠ ((.slice Ao90 t128.length co90) : Value).ownBlock) v136 t135) ∧ Aside0 (Kd.S (Kd.slice 3 (Kd.int .i64)) 65 wc w.heap.size (fun k_ => some k_ ≠ ((.slice Ao90 t128.length co90) : Value).ownBlock ∧ some k_ ≠ (v136 : Value).ownBlock) (.slice Ao19 t105.length co19) t105) ∧ Aside0 (wc.heap[gb101]? = some (.cells #[.int .i64 a0_0, (.slice A0_1 l0_1.length c0_1)] 24 (0, 0))) ∧ Aside0 (wc.heap[gb102]? = some (.cells #[.int .i64 a1_0, (.slice A1_1 l1_1.length c1_1)] 24 (0, 0))) ∧ Aside0 (wc.heap[gb109]? = some (.cells #[.int .i64 t104, (.slice Ao19 t105.length co19)] 24 (0, 0))) ∧ Aside0 (Below w.heap.size w wc))
                            case first =>
                             have H := HC102.out
                             clear HC102
                             by_cases c107 : t139 = 0
                             ·rw [if_pos c107] at H
                              have c107b0 : (t139 == 0) = true := beq_iff_eq.mpr c107
                              have c107b1 : (t139 != 0) = false := bne_eq_false_iff_eq.mpr c107
                              clear c107
                              (first | rw [c107b0] | (simp only [i64_w, i32_w]; rw [c107b0]) | skip)
                              by_cases c108 : t138 = true
                              ·subst c108
                               have H1 : (trestlelaw14_CnfMeans.j5 k5 t128 t135 ((t135.length : Int) != (t128.length : Int))) = some r := by rw [if_pos rfl] at H; exact H
                               clear H
                               have H := H1
                               clear H1
                               have H' := Aside0.mk H
                               clear H
                               obtain ⟨Ao109, co109, eo109⟩ := Kd.R_slice HO137.out
                               subst eo109
                               go_wp2
                               go_meet
                               case rel => exact ⟨_, (((t135.length : Int) != (t128.length : Int))), (by first | rfl | (simp; done) | (simp [*]; done)), H', ⟨by have := HJ6.out; have := HJ51.out; have := HK3.out; have := HJ80.out; have := HK5.out; first | omega | exact Nat.le_refl _⟩, ⟨by (with_reducible repeat (first | apply Kd.R_alloc | apply Kd.R_drewN | apply Kd.R_drew)); exact Kd.R_mono HO_20.out (fun _ hk => hk.2)⟩, ⟨by (with_reducible repeat (first | apply Kd.R_alloc | apply Kd.R_drewN | apply Kd.R_drew)); exact Kd.R_mono HO137.out (fun _ hk => hk.1.2)⟩, ⟨by (with_reducible repeat (first | apply Kd.S_alloc | apply Kd.S_drewN | apply Kd.S_drew)); exact Kd.S_mono HO_110001.out (fun _ hk => ⟨hk.1.1, hk.2⟩)⟩, ⟨by (with_reducible repeat (first | refine blk_drewN ?_ _ | refine blk_drew ?_ | refine blk_alloc ?_ _)); exact BK101.out⟩, ⟨by (with_reducible repeat (first | refine blk_drewN ?_ _ | refine blk_drew ?_ | refine blk_alloc ?_ _)); exact BK102.out⟩, ⟨by (with_reducible repeat (first | refine blk_drewN ?_ _ | refine blk_drew ?_ | refine blk_alloc ?_ _)); exact BK109.out⟩, ⟨by repeat (first | (with_reducible first | exact HB.out | apply below_alloc | apply pw_below_drewN | apply below_drew1 | refine below_set ?_ GE101.out | refine below_set ?_ GE102.out | refine below_set ?_ GE109.out) | exact HB.out)⟩⟩
                              ·replace c108 := Bool.eq_false_iff.mpr c108
                               subst c108
                               have H1 : (trestlelaw14_CnfMeans.j5 k5 t128 t135 true) = some r := by rw [if_neg (show ¬ (false = true) by decide)] at H; exact H
                               clear H
                               have H := H1
                               clear H1
                               have H' := Aside0.mk H
                               clear H
                               go_wp2
                               go_meet
                               case rel => exact ⟨_, (true), (by first | rfl | (simp; done) | (simp [*]; done)), H', ⟨by have := HJ6.out; have := HJ51.out; have := HK3.out; have := HJ80.out; have := HK5.out; first | omega | exact Nat.le_refl _⟩, ⟨by (with_reducible repeat (first | apply Kd.R_alloc | apply Kd.R_drewN | apply Kd.R_drew)); exact Kd.R_mono HO_20.out (fun _ hk => hk.2)⟩, ⟨by (with_reducible repeat (first | apply Kd.R_alloc | apply Kd.R_drewN | apply Kd.R_drew)); exact Kd.R_mono HO137.out (fun _ hk => hk.1.2)⟩, ⟨by (with_reducible repeat (first | apply Kd.S_alloc | apply Kd.S_drewN | apply Kd.S_drew)); exact Kd.S_mono HO_110001.out (fun _ hk => ⟨hk.1.1, hk.2⟩)⟩, ⟨by (with_reducible repeat (first | refine blk_drewN ?_ _ | refine blk_drew ?_ | refine blk_alloc ?_ _)); exact BK101.out⟩, ⟨by (with_reducible repeat (first | refine blk_drewN ?_ _ | refine blk_drew ?_ | refine blk_alloc ?_ _)); exact BK102.out⟩, ⟨by (with_reducible repeat (first | refine blk_drewN ?_ _ | refine blk_drew ?_ | refine blk_alloc ?_ _)); exact BK109.out⟩, ⟨by repeat (first | (with_reducible first | exact HB.out | apply below_alloc | apply pw_below_drewN | apply below_drew1 | refine below_set ?_ GE101.out | refine below_set ?_ GE102.out | refine below_set ?_ GE109.out) | exact HB.out)⟩⟩
                             ·rw [if_neg c107] at H
                              have c107b0 : (t139 == 0) = false := beq_eq_false_iff_ne.mpr c107
                              have c107b1 : (t139 != 0) = true := bne_iff_ne.mpr c107
                              (first | rw [c107b0] | (simp only [i64_w, i32_w]; rw [c107b0]) | skip)
                              have H' := Aside0.mk H
                              clear H
                              go_wp2
                              go_meet
                              case rel => exact ⟨_, (true), (by first | rfl | (simp; done) | (simp [*]; done)), H', ⟨by have := HJ6.out; have := HJ51.out; have := HK3.out; have := HJ80.out; have := HK5.out; first | omega | exact Nat.le_refl _⟩, ⟨by (with_reducible repeat (first | apply Kd.R_alloc | apply Kd.R_drewN | apply Kd.R_drew)); exact Kd.R_mono HO_20.out (fun _ hk => hk.2)⟩, ⟨by (with_reducible repeat (first | apply Kd.R_alloc | apply Kd.R_drewN | apply Kd.R_drew)); exact Kd.R_mono HO137.out (fun _ hk => hk.1.2)⟩, ⟨by (with_reducible repeat (first | apply Kd.S_alloc | apply Kd.S_drewN | apply Kd.S_drew)); exact Kd.S_mono HO_110001.out (fun _ hk => ⟨hk.1.1, hk.2⟩)⟩, ⟨by (with_reducible repeat (first | refine blk_drewN ?_ _ | refine blk_drew ?_ | refine blk_alloc ?_ _)); exact BK101.out⟩, ⟨by (with_reducible repeat (first | refine blk_drewN ?_ _ | refine blk_drew ?_ | refine blk_alloc ?_ _)); exact BK102.out⟩, ⟨by (with_reducible repeat (first | refine blk_drewN ?_ _ | refine blk_drew ?_ | refine blk_alloc ?_ _)); exact BK109.out⟩, ⟨by repeat (first | (with_reducible first | exact HB.out | apply below_alloc | apply pw_below_drewN | apply below_drew1 | refine below_set ?_ GE101.out | refine below_set ?_ GE102.out | refine below_set ?_ GE109.out) | exact HB.out)⟩⟩
                            case rest =>
                             clear HC102
                             try clear c1
                             try clear p1
                             try clear q1
                             try clear hx1
                             try clear c2
                             try clear p2
                             try clear c3
                             try clear c4
                             try clear c5
                             try clear c6
                             try clear p6
                             try clear c7
                             try clear q7
                             try clear c8
                             try clear c9
                             try clear c10
                             try clear c11
                             try clear p12
                             try clear q12
                             try clear hx12
                             try clear p13
                             try clear q13
                             try clear hx13
                             try clear c16
                             try clear c17
                             try clear c19
                             try clear c20
                             try clear c20b0
                             try clear c20b1
                             try clear c21
                             try clear c21b0
                             try clear c21b1
                             try clear c22
                             try clear c22b0
                             try clear c23
                             try clear c24
                             try clear c25
                             try clear c26
                             try clear c28
                             try clear c29
                             try clear c31
                             try clear c34
                             try clear c35
                             try clear c37
                             try clear c38
                             try clear c38b0
                             try clear c38b1
                             try clear c38b2
                             try clear c39
                             try clear c40
                             try clear c42
                             try clear c43
                             try clear c46
                             try clear c46b0
                             try clear c46b1
                             try clear c47
                             try clear c47b0
                             try clear c47b1
                             try clear c49
                             try clear c49b0
                             try clear c49b1
                             try clear c50
                             try clear c50b0
                             try clear c50b1
                             try clear c53
                             try clear c54
                             try clear c63
                             try clear c63b0
                             try clear c63b1
                             try clear c64
                             try clear c64b0
                             try clear c64b1
                             try clear p64
                             try clear c65
                             try clear c65b0
                             try clear c65b1
                             try clear c66
                             try clear c67
                             try clear c68
                             try clear c68b0
                             try clear c69
                             try clear c69b0
                             try clear c69b1
                             try clear c70
                             try clear c70b0
                             try clear c71
                             try clear c71b0
                             try clear q72
                             try clear c73
                             try clear c74
                             try clear c76
                             try clear c78
                             try clear c78b0
                             try clear c78b1
                             try clear c83
                             try clear c84
                             try clear c87
                             try clear c87b0
                             try clear c87b1
                             try clear c88
                             try clear c89
                             try clear c91
                             try clear c91b0
                             try clear c92
                             try clear c92b0
                             try clear c93
                             try clear c93b0
                             try clear c94
                             try clear c97
                             try clear c97b0
                             try clear c98
                             try clear c98b0
                             try clear c99
                             try clear c99b0
                             try clear c99b1
                             try clear c99b2
                             try clear c100
                             try clear c103
                             try clear c104
                             try clear c107
                             try clear c107b0
                             try clear c107b1
                             try clear c108
                             try clear hcz105_0
                             try clear hcz105_1
                             try clear hcz12_0
                             try clear hcz12_1
                             try clear hcz13_0
                             try clear hcz13_1
                             try clear hcz18_0
                             try clear hcz18_1
                             try clear hcz25_0
                             try clear hcz25_1
                             try clear hcz27_0
                             try clear hcz27_1
                             try clear hcz30_0
                             try clear hcz30_1
                             try clear hcz32_0
                             try clear hcz32_1
                             try clear hcz33_0
                             try clear hcz33_1
                             try clear hcz36_0
                             try clear hcz36_1
                             try clear hcz41_0
                             try clear hcz41_1
                             try clear hcz44_0
                             try clear hcz44_1
                             try clear hcz55_0
                             try clear hcz55_1
                             try clear hcz85_0
                             try clear hcz85_1
                             try clear hfz105_0
                             try clear hfz105_1
                             try clear hfz12_0
                             try clear hfz12_1
                             try clear hfz13_0
                             try clear hfz13_1
                             try clear hfz18_0
                             try clear hfz18_1
                             try clear hfz25_0
                             try clear hfz25_1
                             try clear hfz27_0
                             try clear hfz27_1
                             try clear hfz30_0
                             try clear hfz30_1
                             try clear hfz32_0
                             try clear hfz32_1
                             try clear hfz33_0
                             try clear hfz33_1
                             try clear hfz36_0
                             try clear hfz36_1
                             try clear hfz41_0
                             try clear hfz41_1
                             try clear hfz44_0
                             try clear hfz44_1
                             try clear hfz55_0
                             try clear hfz55_1
                             try clear hfz85_0
                             try clear hfz85_1
                             try clear hx121_0
                             try clear hx133_0
                             try clear hx134_0
                             try clear p1
                             try clear p12
                             try clear p121
                             try clear p133
                             try clear p134
                             try clear p2
                             try clear p6
                             try clear p64
                             try clear q1
                             try clear q12
                             try clear q121
                             try clear q133
                             try clear q134
                             try clear q7
                             try clear q72
                             obtain ⟨kq, x192_101, rfl, HA, HJ101, HO_20, HO_25, HO_110001, BK101, BK102, BK109, HB⟩ := hcut
                             cases kq with
                             | zero => exact absurd HA.out (by simp [trestlelaw14_CnfMeans.j5])
                             | succ kj101 =>
                              have H := HA.out
                              clear HA
                              simp only [trestlelaw14_CnfMeans.j5] at H
                              by_cases c110 : x192_101 = true
                              ·subst c110
                               have H1 : (some false) = some r := by rw [if_pos rfl] at H; exact H
                               clear H
                               have H := H1
                               clear H1
                               obtain rfl := Option.some.inj H
                               go_wp2
                               go_ret
                               exact ⟨by first | rfl | (simp [errW_none, errW_some] <;> rfl) | (simp [*, errW_none, errW_some] <;> rfl), by repeat (first | (with_reducible first | exact HB.out | apply below_alloc | apply pw_below_drewN | apply below_drew1 | refine below_set ?_ GE101.out | refine below_set ?_ GE102.out | refine below_set ?_ GE109.out) | exact HB.out)⟩
                              ·replace c110 := Bool.eq_false_iff.mpr c110
                               subst c110
                               have H1 : (trestlelaw14_CnfMeans.l2 kj101 t128 t135 (t128.length : Int) 0) = some r := by rw [if_neg (show ¬ (false = true) by decide)] at H; exact H
                               clear H
                               have H := H1
                               clear H1
                               have H' := Aside0.mk H
                               clear H
                               go_wp2
                               as_aux_lemma =>
                                go_loopg [195] kj101 (fun kq v195 w' => ∃ (x195_7 : Int), v195 = .int .i64 x195_7 ∧ Aside0 (trestlelaw14_CnfMeans.l2 kq t128 t135 (t128.length : Int) x195_7 = some r) ∧ Aside0 (kq ≤ kj101) ∧ Aside0 (Kd.R (Kd.int .i64) 3 w' w.heap.size (fun k_ => some k_ ≠ (v136 : Value).ownBlock) (.slice Ao90 t128.length co90) t128) ∧ Aside0 (Kd.R (Kd.int .i64) 3 w' w.heap.size (fun k_ => some k_ ≠ ((.slice Ao90 t128.length co90) : Value).ownBlock) v136 t135) ∧ Aside0 (Kd.S (Kd.slice 3 (Kd.int .i64)) 65 w' w.heap.size (fun k_ => some k_ ≠ ((.slice Ao90 t128.length co90) : Value).ownBlock ∧ some k_ ≠ (v136 : Value).ownBlock) (.slice Ao19 t105.length co19) t105) ∧ Aside0 (w'.heap[gb101]? = some (.cells #[.int .i64 a0_0, (.slice A0_1 l0_1.length c0_1)] 24 (0, 0))) ∧ Aside0 (w'.heap[gb102]? = some (.cells #[.int .i64 a1_0, (.slice A1_1 l1_1.length c1_1)] 24 (0, 0))) ∧ Aside0 (w'.heap[gb109]? = some (.cells #[.int .i64 t104, (.slice Ao19 t105.length co19)] 24 (0, 0))) ∧ Aside0 (Below w.heap.size w w'))
                                case atStart => exact ⟨(0), (by first | rfl | (simp; done) | (simp [*]; done)), H', ⟨Nat.le_refl _⟩, ⟨by (with_reducible repeat (first | apply Kd.R_alloc | apply Kd.R_drewN | apply Kd.R_drew)); exact HO_20.out⟩, ⟨by (with_reducible repeat (first | apply Kd.R_alloc | apply Kd.R_drewN | apply Kd.R_drew)); exact HO_25.out⟩, ⟨by (with_reducible repeat (first | apply Kd.S_alloc | apply Kd.S_drewN | apply Kd.S_drew)); exact HO_110001.out⟩, ⟨by (with_reducible repeat (first | refine blk_drewN ?_ _ | refine blk_drew ?_ | refine blk_alloc ?_ _)); exact BK101.out⟩, ⟨by (with_reducible repeat (first | refine blk_drewN ?_ _ | refine blk_drew ?_ | refine blk_alloc ?_ _)); exact BK102.out⟩, ⟨by (with_reducible repeat (first | refine blk_drewN ?_ _ | refine blk_drew ?_ | refine blk_alloc ?_ _)); exact BK109.out⟩, ⟨by repeat (first | (with_reducible first | exact HB.out | apply below_alloc | apply pw_below_drewN | apply below_drew1 | refine below_set ?_ GE101.out | refine below_set ?_ GE102.out | refine below_set ?_ GE109.out) | exact HB.out)⟩⟩
                                case round =>
                                 clear H'
                                 try clear c1
                                 try clear p1
                                 try clear q1
                                 try clear hx1
                                 try clear c2
                                 try clear p2
                                 try clear c3
                                 try clear c4
                                 try clear c5
                                 try clear c6
                                 try clear p6
                                 try clear c7
                                 try clear q7
                                 try clear c8
                                 try clear c9
                                 try clear c10
                                 try clear c11
                                 try clear p12
                                 try clear q12
                                 try clear hx12
                                 try clear p13
                                 try clear q13
                                 try clear hx13
                                 try clear c16
                                 try clear c17
                                 try clear c19
                                 try clear c20
                                 try clear c20b0
                                 try clear c20b1
                                 try clear c21
                                 try clear c21b0
                                 try clear c21b1
                                 try clear c22
                                 try clear c22b0
                                 try clear c23
                                 try clear c24
                                 try clear c25
                                 try clear c26
                                 try clear c28
                                 try clear c29
                                 try clear c31
                                 try clear c34
                                 try clear c35
                                 try clear c37
                                 try clear c38
                                 try clear c38b0
                                 try clear c38b1
                                 try clear c38b2
                                 try clear c39
                                 try clear c40
                                 try clear c42
                                 try clear c43
                                 try clear c46
                                 try clear c46b0
                                 try clear c46b1
                                 try clear c47
                                 try clear c47b0
                                 try clear c47b1
                                 try clear c49
                                 try clear c49b0
                                 try clear c49b1
                                 try clear c50
                                 try clear c50b0
                                 try clear c50b1
                                 try clear c53
                                 try clear c54
                                 try clear c63
                                 try clear c63b0
                                 try clear c63b1
                                 try clear c64
                                 try clear c64b0
                                 try clear c64b1
                                 try clear p64
                                 try clear c65
                                 try clear c65b0
                                 try clear c65b1
                                 try clear c66
                                 try clear c67
                                 try clear c68
                                 try clear c68b0
                                 try clear c69
                                 try clear c69b0
                                 try clear c69b1
                                 try clear c70
                                 try clear c70b0
                                 try clear c71
                                 try clear c71b0
                                 try clear q72
                                 try clear c73
                                 try clear c74
                                 try clear c76
                                 try clear c78
                                 try clear c78b0
                                 try clear c78b1
                                 try clear c83
                                 try clear c84
                                 try clear c87
                                 try clear c87b0
                                 try clear c87b1
                                 try clear c88
                                 try clear c89
                                 try clear c91
                                 try clear c91b0
                                 try clear c92
                                 try clear c92b0
                                 try clear c93
                                 try clear c93b0
                                 try clear c94
                                 try clear c97
                                 try clear c97b0
                                 try clear c98
                                 try clear c98b0
                                 try clear c99
                                 try clear c99b0
                                 try clear c99b1
                                 try clear c99b2
                                 try clear c100
                                 try clear c103
                                 try clear c104
                                 try clear c107
                                 try clear c107b0
                                 try clear c107b1
                                 try clear c108
                                 try clear c110
                                 try clear hcz105_0
                                 try clear hcz105_1
                                 try clear hcz12_0
                                 try clear hcz12_1
                                 try clear hcz13_0
                                 try clear hcz13_1
                                 try clear hcz18_0
                                 try clear hcz18_1
                                 try clear hcz25_0
                                 try clear hcz25_1
                                 try clear hcz27_0
                                 try clear hcz27_1
                                 try clear hcz30_0
                                 try clear hcz30_1
                                 try clear hcz32_0
                                 try clear hcz32_1
                                 try clear hcz33_0
                                 try clear hcz33_1
                                 try clear hcz36_0
                                 try clear hcz36_1
                                 try clear hcz41_0
                                 try clear hcz41_1
                                 try clear hcz44_0
                                 try clear hcz44_1
                                 try clear hcz55_0
                                 try clear hcz55_1
                                 try clear hcz85_0
                                 try clear hcz85_1
                                 try clear hfz105_0
                                 try clear hfz105_1
                                 try clear hfz12_0
                                 try clear hfz12_1
                                 try clear hfz13_0
                                 try clear hfz13_1
                                 try clear hfz18_0
                                 try clear hfz18_1
                                 try clear hfz25_0
                                 try clear hfz25_1
                                 try clear hfz27_0
                                 try clear hfz27_1
                                 try clear hfz30_0
                                 try clear hfz30_1
                                 try clear hfz32_0
                                 try clear hfz32_1
                                 try clear hfz33_0
                                 try clear hfz33_1
                                 try clear hfz36_0
                                 try clear hfz36_1
                                 try clear hfz41_0
                                 try clear hfz41_1
                                 try clear hfz44_0
                                 try clear hfz44_1
                                 try clear hfz55_0
                                 try clear hfz55_1
                                 try clear hfz85_0
                                 try clear hfz85_1
                                 try clear hx121_0
                                 try clear hx133_0
                                 try clear hx134_0
                                 try clear p1
                                 try clear p12
                                 try clear p121
                                 try clear p13
                                 try clear p133
                                 try clear p134
                                 try clear p2
                                 try clear p6
                                 try clear p64
                                 try clear q1
                                 try clear q12
                                 try clear q121
                                 try clear q13
                                 try clear q133
                                 try clear q134
                                 try clear q7
                                 try clear q72
                                 obtain ⟨x195_7, rfl, HA, HK7, HO_20, HO_25, HO_110001, BK101, BK102, BK109, HB⟩ := hrel
                                 cases gk with
                                 | zero => exact absurd HA.out (by simp [trestlelaw14_CnfMeans.l2])
                                 | succ k7 =>
                                  have H := HA.out
                                  clear HA
                                  simp only [trestlelaw14_CnfMeans.l2] at H
                                  by_cases c111 : x195_7 < (t128.length : Int)
                                  ·rw [if_pos c111] at H
                                   have c111b0 : decide (x195_7 < (t128.length : Int)) = true := decide_eq_true c111
                                   clear c111
                                   by_cases c112 : 0 ≤ x195_7
                                   ·rw [if_pos c112] at H
                                    have c112b0 : decide (0 ≤ x195_7) = true := decide_eq_true c112
                                    clear c112
                                    by_cases c113 : x195_7 < (t135.length : Int)
                                    ·rw [if_pos c113] at H
                                     have c113b0 : decide (x195_7 < (t135.length : Int)) = true := decide_eq_true c113
                                     clear c113
                                     by_cases c114 : x195_7 < (t128.length : Int)
                                     ·rw [if_pos c114] at H
                                      have c114b0 : decide (x195_7 < (t128.length : Int)) = true := decide_eq_true c114
                                      clear c114
                                      by_cases c115 : (rd t135 x195_7) = (rd t128 x195_7)
                                      ·rw [if_pos c115] at H
                                       have c115b0 : ((rd t135 x195_7) == (rd t128 x195_7)) = true := beq_iff_eq.mpr c115
                                       have c115b1 : ((rd t135 x195_7) != (rd t128 x195_7)) = false := bne_eq_false_iff_eq.mpr c115
                                       clear c115
                                       have H' := Aside0.mk H
                                       clear H
                                       try go_wp2
                                       have n0_ := Aside0.mk (Kd.R_drew HO_20.out)
                                       have n1_ := Aside0.mk (Kd.R_drew HO_25.out)
                                       have n2_ := Aside0.mk (Kd.S_drew HO_110001.out)
                                       have n3_ := Aside0.mk (blk_drew BK101.out)
                                       have n4_ := Aside0.mk (blk_drew BK102.out)
                                       have n5_ := Aside0.mk (blk_drew BK109.out)
                                       have n6_ := Aside0.mk (below_drew1 HB.out)
                                       clear HO_20
                                       clear HO_25
                                       clear HO_110001
                                       clear BK101
                                       clear BK102
                                       clear BK109
                                       clear HB
                                       have HO_20 := n0_
                                       have HO_25 := n1_
                                       have HO_110001 := n2_
                                       have BK101 := n3_
                                       have BK102 := n4_
                                       have BK109 := n5_
                                       have HB := n6_
                                       clear n0_ n1_ n2_ n3_ n4_ n5_ n6_
                                       obtain ⟨Ao117, co117, eo117⟩ := Kd.R_slice HO_25.out
                                       (first | subst eo117 | (injection eo117 with f1_ f2_ f3_; have f4_ := f1_.symm; have f5_ := f3_.symm; clear f1_ f2_ f3_; subst f4_; subst f5_))
                                       have p140 : 0 ≤ (x195_7 : Int) := of_decide_eq_true (by first | (with_reducible assumption) | assumption)
                                       have q140 : x195_7 < (t135.length : Int) := of_decide_eq_true (by first | (with_reducible assumption) | assumption)
                                       obtain ⟨ad140, e140, hx140_0⟩ := Kd.at_int (Kd.R_reads' HO_25.out).2.2 x195_7 p140 q140
                                       cases e140
                                       replace p140 := eq_true p140
                                       replace q140 := eq_true q140
                                       have p141 : 0 ≤ (x195_7 : Int) := of_decide_eq_true (by first | (with_reducible assumption) | assumption)
                                       have q141 : x195_7 < (t128.length : Int) := of_decide_eq_true (by first | (with_reducible assumption) | assumption)
                                       obtain ⟨ad141, e141, hx141_0⟩ := Kd.at_int (Kd.R_reads' HO_20.out).2.2 x195_7 p141 q141
                                       cases e141
                                       replace p141 := eq_true p141
                                       replace q141 := eq_true q141
                                       refine start_ (n := 9) (S := fun w' => w'.cell? (ad140.add (x195_7).toNat) = some (.int .i64 (rd t135 x195_7)) ∧ w'.cell? (ad141.add (x195_7).toNat) = some (.int .i64 (rd t128 x195_7))) (ds := []) #[false, false, false, false, false, false, false, false, false] (by kernel_rfl) rfl rfl ⟨hx140_0, hx141_0⟩ (fun hHeld => ?_); refine with_tabW trestlelaw14_CnfMeans.tab39 trestlelaw14_CnfMeans.bits39 (fun HT_ HW_ => ?_)
                                       generalize wr.drew = w116 at HO_20 HO_25 HO_110001 BK101 BK102 BK109 HB hx140_0 hx141_0 hHeld ⊢
                                       refine pure_ (i := 0) (N := some 198) (v := ?_) (a' := ?_) #[true, false, false, false, false, false, false, false, false] rfl rfl (any_of HT_.out (by kernel_rfl)) (fun _ _ _ h => h) (Or.inl ⟨by rfl, ?_⟩) ?_ ?_
                                       rotate_left
                                       ·intro w'
                                        go_simp
                                        with_reducible rfl
                                       rotate_left
                                       ·simp only [Act.put, List.setIfInBounds_toArray, List.set_cons_zero, List.set_cons_succ, i64_w, i32_w]
                                        rfl
                                       refine pure_ (i := 1) (N := some 199) (v := ?_) (a' := ?_) #[true, true, false, false, false, false, false, false, false] rfl rfl (any_of HT_.out (by kernel_rfl)) (fun _ _ _ h => h) (Or.inl ⟨by rfl, ?_⟩) ?_ ?_
                                       rotate_left
                                       ·intro w'
                                        go_simp
                                        with_reducible rfl
                                       rotate_left
                                       ·simp only [Act.put, List.setIfInBounds_toArray, List.set_cons_zero, List.set_cons_succ, i64_w, i32_w]
                                        rfl
                                       refine pure_ (i := 2) (N := some 200) (v := ?_) (a' := ?_) #[true, true, true, false, false, false, false, false, false] rfl rfl (any_of HT_.out (by kernel_rfl)) (fun _ _ _ h => h) (Or.inl ⟨by rfl, ?_⟩) ?_ ?_
                                       rotate_left
                                       ·intro w'
                                        go_simp
                                        with_reducible rfl
                                       rotate_left
                                       ·simp only [Act.put, List.setIfInBounds_toArray, List.set_cons_zero, List.set_cons_succ, i64_w, i32_w]
                                        rfl
                                       refine pure_ (i := 4) (N := some 202) (v := ?_) (a' := ?_) #[true, true, true, false, true, false, false, false, false] rfl rfl (any_of HT_.out (by kernel_rfl)) (fun _ _ _ h => h) (Or.inl ⟨by rfl, ?_⟩) ?_ ?_
                                       rotate_left
                                       ·intro w'
                                        go_simp
                                        with_reducible rfl
                                       rotate_left
                                       ·simp only [Act.put, List.setIfInBounds_toArray, List.set_cons_zero, List.set_cons_succ, i64_w, i32_w]
                                        rfl
                                       refine pure_ (i := 5) (N := some 203) (v := ?_) (a' := ?_) #[true, true, true, false, true, true, false, false, false] rfl rfl (any_of HT_.out (by kernel_rfl)) (fun _ _ _ h => h) (Or.inl ⟨by rfl, ?_⟩) ?_ ?_
                                       rotate_left
                                       ·intro w'
                                        go_simp
                                        with_reducible rfl
                                       rotate_left
                                       ·simp only [Act.put, List.setIfInBounds_toArray, List.set_cons_zero, List.set_cons_succ, i64_w, i32_w]
                                        rfl
                                       refine pure_ (i := 6) (N := some 204) (v := ?_) (a' := ?_) #[true, true, true, false, true, true, true, false, false] rfl rfl (any_of HT_.out (by kernel_rfl)) (fun _ _ _ h => h) (Or.inl ⟨by rfl, ?_⟩) ?_ ?_
                                       rotate_left
                                       ·intro w'
                                        go_simp
                                        with_reducible rfl
                                       rotate_left
                                       ·simp only [Act.put, List.setIfInBounds_toArray, List.set_cons_zero, List.set_cons_succ, i64_w, i32_w]
                                        rfl
                                       refine take_ (i := 3) (N := some 201) (v := ?_) (a' := ?_) #[true, true, true, true, true, true, true, false, false] rfl rfl (take_ofW HT_.out HW_.out (by kernel_rfl)) (fun _ _ _ h => h) (Or.inl ⟨by rfl, ?_⟩) hHeld ?_ ?_
                                       rotate_left
                                       ·rintro w' ⟨s0, s1⟩
                                        go_simp
                                        with_reducible rfl
                                       rotate_left
                                       ·simp only [Act.put, List.setIfInBounds_toArray, List.set_cons_zero, List.set_cons_succ, i64_w, i32_w]
                                        rfl
                                       refine take_ (i := 7) (N := some 205) (v := ?_) (a' := ?_) #[true, true, true, true, true, true, true, true, false] rfl rfl (take_ofW HT_.out HW_.out (by kernel_rfl)) (fun _ _ _ h => h) (Or.inl ⟨by rfl, ?_⟩) hHeld ?_ ?_
                                       rotate_left
                                       ·rintro w' ⟨s0, s1⟩
                                        go_simp
                                        with_reducible rfl
                                       rotate_left
                                       ·simp only [Act.put, List.setIfInBounds_toArray, List.set_cons_zero, List.set_cons_succ, i64_w, i32_w]
                                        rfl
                                       refine pure_ (i := 8) (N := some 206) (v := ?_) (a' := ?_) #[true, true, true, true, true, true, true, true, true] rfl rfl (any_of HT_.out (by kernel_rfl)) (fun _ _ _ h => h) (Or.inl ⟨by rfl, ?_⟩) ?_ ?_
                                       rotate_left
                                       ·intro w'
                                        go_simp
                                        with_reducible rfl
                                       rotate_left
                                       ·simp only [Act.put, List.setIfInBounds_toArray, List.set_cons_zero, List.set_cons_succ, i64_w, i32_w]
                                        rfl
                                       refine done_ (done_of HT_.out (by kernel_rfl)) ?_
                                       try go_wp2
                                       go_roundg k7
                                       case measure => have := HJ6.out; have := HJ51.out; have := HK3.out; have := HJ80.out; have := HK5.out; have := HJ101.out; have := HK7.out; omega
                                       case rel => exact ⟨(wrap64 (x195_7 + 1)), (by first | rfl | (simp; done) | (simp [*]; done)), H', ⟨by have := HJ6.out; have := HJ51.out; have := HK3.out; have := HJ80.out; have := HK5.out; have := HJ101.out; have := HK7.out; omega⟩, ⟨by (with_reducible repeat (first | apply Kd.R_alloc | apply Kd.R_drewN | apply Kd.R_drew)); exact HO_20.out⟩, ⟨by (with_reducible repeat (first | apply Kd.R_alloc | apply Kd.R_drewN | apply Kd.R_drew)); exact HO_25.out⟩, ⟨by (with_reducible repeat (first | apply Kd.S_alloc | apply Kd.S_drewN | apply Kd.S_drew)); exact HO_110001.out⟩, ⟨by (with_reducible repeat (first | refine blk_drewN ?_ _ | refine blk_drew ?_ | refine blk_alloc ?_ _)); exact BK101.out⟩, ⟨by (with_reducible repeat (first | refine blk_drewN ?_ _ | refine blk_drew ?_ | refine blk_alloc ?_ _)); exact BK102.out⟩, ⟨by (with_reducible repeat (first | refine blk_drewN ?_ _ | refine blk_drew ?_ | refine blk_alloc ?_ _)); exact BK109.out⟩, ⟨by repeat (first | (with_reducible first | exact HB.out | apply below_alloc | apply pw_below_drewN | apply below_drew1 | refine below_set ?_ GE101.out | refine below_set ?_ GE102.out | refine below_set ?_ GE109.out) | exact HB.out)⟩⟩
                                      ·rw [if_neg c115] at H
                                       have c115b0 : ((rd t135 x195_7) == (rd t128 x195_7)) = false := beq_eq_false_iff_ne.mpr c115
                                       have c115b1 : ((rd t135 x195_7) != (rd t128 x195_7)) = true := bne_iff_ne.mpr c115
                                       obtain rfl := Option.some.inj H
                                       try go_wp2
                                       have n0_ := Aside0.mk (Kd.R_drew HO_20.out)
                                       have n1_ := Aside0.mk (Kd.R_drew HO_25.out)
                                       have n2_ := Aside0.mk (Kd.S_drew HO_110001.out)
                                       have n3_ := Aside0.mk (blk_drew BK101.out)
                                       have n4_ := Aside0.mk (blk_drew BK102.out)
                                       have n5_ := Aside0.mk (blk_drew BK109.out)
                                       have n6_ := Aside0.mk (below_drew1 HB.out)
                                       clear HO_20
                                       clear HO_25
                                       clear HO_110001
                                       clear BK101
                                       clear BK102
                                       clear BK109
                                       clear HB
                                       have HO_20 := n0_
                                       have HO_25 := n1_
                                       have HO_110001 := n2_
                                       have BK101 := n3_
                                       have BK102 := n4_
                                       have BK109 := n5_
                                       have HB := n6_
                                       clear n0_ n1_ n2_ n3_ n4_ n5_ n6_
                                       obtain ⟨Ao119, co119, eo119⟩ := Kd.R_slice HO_25.out
                                       (first | subst eo119 | (injection eo119 with f1_ f2_ f3_; have f4_ := f1_.symm; have f5_ := f3_.symm; clear f1_ f2_ f3_; subst f4_; subst f5_))
                                       have p140 : 0 ≤ (x195_7 : Int) := of_decide_eq_true (by first | (with_reducible assumption) | assumption)
                                       have q140 : x195_7 < (t135.length : Int) := of_decide_eq_true (by first | (with_reducible assumption) | assumption)
                                       obtain ⟨ad140, e140, hx140_0⟩ := Kd.at_int (Kd.R_reads' HO_25.out).2.2 x195_7 p140 q140
                                       cases e140
                                       replace p140 := eq_true p140
                                       replace q140 := eq_true q140
                                       have p141 : 0 ≤ (x195_7 : Int) := of_decide_eq_true (by first | (with_reducible assumption) | assumption)
                                       have q141 : x195_7 < (t128.length : Int) := of_decide_eq_true (by first | (with_reducible assumption) | assumption)
                                       obtain ⟨ad141, e141, hx141_0⟩ := Kd.at_int (Kd.R_reads' HO_20.out).2.2 x195_7 p141 q141
                                       cases e141
                                       replace p141 := eq_true p141
                                       replace q141 := eq_true q141
                                       refine start_ (n := 9) (S := fun w' => w'.cell? (ad140.add (x195_7).toNat) = some (.int .i64 (rd t135 x195_7)) ∧ w'.cell? (ad141.add (x195_7).toNat) = some (.int .i64 (rd t128 x195_7))) (ds := []) #[false, false, false, false, false, false, false, false, false] (by kernel_rfl) rfl rfl ⟨hx140_0, hx141_0⟩ (fun hHeld => ?_); refine with_tabW trestlelaw14_CnfMeans.tab39 trestlelaw14_CnfMeans.bits39 (fun HT_ HW_ => ?_)
                                       generalize wr.drew = w118 at HO_20 HO_25 HO_110001 BK101 BK102 BK109 HB hx140_0 hx141_0 hHeld ⊢
                                       refine pure_ (i := 0) (N := some 198) (v := ?_) (a' := ?_) #[true, false, false, false, false, false, false, false, false] rfl rfl (any_of HT_.out (by kernel_rfl)) (fun _ _ _ h => h) (Or.inl ⟨by rfl, ?_⟩) ?_ ?_
                                       rotate_left
                                       ·intro w'
                                        go_simp
                                        with_reducible rfl
                                       rotate_left
                                       ·simp only [Act.put, List.setIfInBounds_toArray, List.set_cons_zero, List.set_cons_succ, i64_w, i32_w]
                                        rfl
                                       refine pure_ (i := 1) (N := some 199) (v := ?_) (a' := ?_) #[true, true, false, false, false, false, false, false, false] rfl rfl (any_of HT_.out (by kernel_rfl)) (fun _ _ _ h => h) (Or.inl ⟨by rfl, ?_⟩) ?_ ?_
                                       rotate_left
                                       ·intro w'
                                        go_simp
                                        with_reducible rfl
                                       rotate_left
                                       ·simp only [Act.put, List.setIfInBounds_toArray, List.set_cons_zero, List.set_cons_succ, i64_w, i32_w]
                                        rfl
                                       refine pure_ (i := 2) (N := some 200) (v := ?_) (a' := ?_) #[true, true, true, false, false, false, false, false, false] rfl rfl (any_of HT_.out (by kernel_rfl)) (fun _ _ _ h => h) (Or.inl ⟨by rfl, ?_⟩) ?_ ?_
                                       rotate_left
                                       ·intro w'
                                        go_simp
                                        with_reducible rfl
                                       rotate_left
                                       ·simp only [Act.put, List.setIfInBounds_toArray, List.set_cons_zero, List.set_cons_succ, i64_w, i32_w]
                                        rfl
                                       refine pure_ (i := 4) (N := some 202) (v := ?_) (a' := ?_) #[true, true, true, false, true, false, false, false, false] rfl rfl (any_of HT_.out (by kernel_rfl)) (fun _ _ _ h => h) (Or.inl ⟨by rfl, ?_⟩) ?_ ?_
                                       rotate_left
                                       ·intro w'
                                        go_simp
                                        with_reducible rfl
                                       rotate_left
                                       ·simp only [Act.put, List.setIfInBounds_toArray, List.set_cons_zero, List.set_cons_succ, i64_w, i32_w]
                                        rfl
                                       refine pure_ (i := 5) (N := some 203) (v := ?_) (a' := ?_) #[true, true, true, false, true, true, false, false, false] rfl rfl (any_of HT_.out (by kernel_rfl)) (fun _ _ _ h => h) (Or.inl ⟨by rfl, ?_⟩) ?_ ?_
                                       rotate_left
                                       ·intro w'
                                        go_simp
                                        with_reducible rfl
                                       rotate_left
                                       ·simp only [Act.put, List.setIfInBounds_toArray, List.set_cons_zero, List.set_cons_succ, i64_w, i32_w]
                                        rfl
                                       refine pure_ (i := 6) (N := some 204) (v := ?_) (a' := ?_) #[true, true, true, false, true, true, true, false, false] rfl rfl (any_of HT_.out (by kernel_rfl)) (fun _ _ _ h => h) (Or.inl ⟨by rfl, ?_⟩) ?_ ?_
                                       rotate_left
                                       ·intro w'
                                        go_simp
                                        with_reducible rfl
                                       rotate_left
                                       ·simp only [Act.put, List.setIfInBounds_toArray, List.set_cons_zero, List.set_cons_succ, i64_w, i32_w]
                                        rfl
                                       refine take_ (i := 3) (N := some 201) (v := ?_) (a' := ?_) #[true, true, true, true, true, true, true, false, false] rfl rfl (take_ofW HT_.out HW_.out (by kernel_rfl)) (fun _ _ _ h => h) (Or.inl ⟨by rfl, ?_⟩) hHeld ?_ ?_
                                       rotate_left
                                       ·rintro w' ⟨s0, s1⟩
                                        go_simp
                                        with_reducible rfl
                                       rotate_left
                                       ·simp only [Act.put, List.setIfInBounds_toArray, List.set_cons_zero, List.set_cons_succ, i64_w, i32_w]
                                        rfl
                                       refine take_ (i := 7) (N := some 205) (v := ?_) (a' := ?_) #[true, true, true, true, true, true, true, true, false] rfl rfl (take_ofW HT_.out HW_.out (by kernel_rfl)) (fun _ _ _ h => h) (Or.inl ⟨by rfl, ?_⟩) hHeld ?_ ?_
                                       rotate_left
                                       ·rintro w' ⟨s0, s1⟩
                                        go_simp
                                        with_reducible rfl
                                       rotate_left
                                       ·simp only [Act.put, List.setIfInBounds_toArray, List.set_cons_zero, List.set_cons_succ, i64_w, i32_w]
                                        rfl
                                       refine pure_ (i := 8) (N := some 206) (v := ?_) (a' := ?_) #[true, true, true, true, true, true, true, true, true] rfl rfl (any_of HT_.out (by kernel_rfl)) (fun _ _ _ h => h) (Or.inl ⟨by rfl, ?_⟩) ?_ ?_
                                       rotate_left
                                       ·intro w'
                                        go_simp
                                        with_reducible rfl
                                       rotate_left
                                       ·simp only [Act.put, List.setIfInBounds_toArray, List.set_cons_zero, List.set_cons_succ, i64_w, i32_w]
                                        rfl
                                       refine done_ (done_of HT_.out (by kernel_rfl)) ?_
                                       try go_wp2
                                       go_ret
                                       exact ⟨by first | rfl | (simp [errW_none, errW_some] <;> rfl) | (simp [*, errW_none, errW_some] <;> rfl), by repeat (first | (with_reducible first | exact HB.out | apply below_alloc | apply pw_below_drewN | apply below_drew1 | refine below_set ?_ GE101.out | refine below_set ?_ GE102.out | refine below_set ?_ GE109.out) | exact HB.out)⟩
                                     ·rw [if_neg c114] at H
                                      exact absurd H (by simp)
                                    ·rw [if_neg c113] at H
                                     exact absurd H (by simp)
                                   ·rw [if_neg c112] at H
                                    exact absurd H (by simp)
                                  ·rw [if_neg c111] at H
                                   have c111b0 : decide (x195_7 < (t128.length : Int)) = false := decide_eq_false c111
                                   clear c111
                                   obtain rfl := Option.some.inj H
                                   go_wp2
                                   go_ret
                                   exact ⟨by first | rfl | (simp [errW_none, errW_some] <;> rfl) | (simp [*, errW_none, errW_some] <;> rfl), by repeat (first | (with_reducible first | exact HB.out | apply below_alloc | apply pw_below_drewN | apply below_drew1 | refine below_set ?_ GE101.out | refine below_set ?_ GE102.out | refine below_set ?_ GE109.out) | exact HB.out)⟩
                          ·replace c100 := Bool.eq_false_iff.mpr c100
                           subst c100
                           have H1 : (some true) = some r := by rw [if_neg (show ¬ (false = true) by decide)] at H; exact H
                           clear H
                           have H := H1
                           clear H1
                           obtain rfl := Option.some.inj H
                           go_wp2
                           go_ret
                           exact ⟨by first | rfl | (simp [errW_none, errW_some] <;> rfl) | (simp [*, errW_none, errW_some] <;> rfl), by repeat (first | (with_reducible first | exact HB.out | apply below_alloc | apply pw_below_drewN | apply below_drew1 | refine below_set ?_ GE101.out | refine below_set ?_ GE102.out | refine below_set ?_ GE109.out) | exact HB.out)⟩
        ·rw [if_neg c50] at H
         exact absurd H (by simp)
       ·rw [if_neg c49] at H
        exact absurd H (by simp)
      ·rw [if_neg c47] at H
       exact absurd H (by simp)
     ·rw [if_neg c46] at H
      exact absurd H (by simp)
 ·replace c5 := Bool.eq_false_iff.mpr c5
  subst c5
  have H1 : (some false) = some r := by rw [if_neg (show ¬ (false = true) by decide)] at H; exact H
  clear H
  have H := H1
  clear H1
  obtain rfl := Option.some.inj H
  go_enter Tryz.func8, Tryz.ntmps8
  go_wp2_with (first | ((with_reducible refine gate_dst (N := 3) rfl ?_); (try (refine gate_guard (by rfl) ?_; dsimp only)); refine box_event ?hg (N := 3) ?hd (cs := #[.int .i64 a0_0, .slice A0_1 l0_1.length c0_1]) (t := 24) ?hr ?_; (case hd => rfl); (case hg => rfl); (case hr => first | (go_simp; done) | (go_simp; rfl)); intro gb101 hg w120 hbox hb; have n0_ := Aside0.mk (below_step (by repeat (first | (with_reducible first | exact HB.out | apply below_alloc | apply pw_below_drewN | apply below_drew1) | exact HB.out)) hb); have n1_ := Aside0.mk (hbox); have n2_ := Aside0.mk ((by rw [hg]; exact (below_size (by repeat (first | (with_reducible first | exact HB.out | apply below_alloc | apply pw_below_drewN | apply below_drew1) | exact HB.out))) : w.heap.size ≤ gb101)); have n3_ := Aside0.mk ((by rw [hg]; exact (below_size (by repeat (first | (with_reducible first | exact HB.out | apply below_alloc | apply pw_below_drewN | apply below_drew1) | exact HB.out))) : w.heap.size ≤ gb101)); clear HB; have HB := n0_; have BK101 := n1_; have GW101 := n2_; have GE101 := n3_; clear n0_ n1_ n2_ n3_; clear hb hbox hg) | ((with_reducible refine gate_dst (N := 4) rfl ?_); (try (refine gate_guard (by rfl) ?_; dsimp only)); refine box_event ?hg (N := 4) ?hd (cs := #[.int .i64 a1_0, .slice A1_1 l1_1.length c1_1]) (t := 24) ?hr ?_; (case hd => rfl); (case hg => rfl); (case hr => first | (go_simp; done) | (go_simp; rfl)); intro gb102 hg w121 hbox hb; have n0_ := Aside0.mk (blk_below (g := gb101) (o := .cells #[.int .i64 a0_0, .slice A0_1 l0_1.length c0_1] 24 (0, 0)) (by (with_reducible repeat (first | refine blk_drewN ?_ _ | refine blk_drew ?_ | refine blk_alloc ?_ _)); exact BK101.out) hb); have n1_ := Aside0.mk (below_step (by repeat (first | (with_reducible first | exact HB.out | apply below_alloc | apply pw_below_drewN | apply below_drew1 | refine below_set ?_ GE101.out) | exact HB.out)) hb); have n2_ := Aside0.mk (hbox); have n3_ := Aside0.mk ((by rw [hg]; exact (below_size (by repeat (first | (with_reducible first | exact HB.out | apply below_alloc | apply pw_below_drewN | apply below_drew1 | refine below_set ?_ GE101.out) | exact HB.out))) : w.heap.size ≤ gb102)); have n4_ := Aside0.mk ((by rw [hg]; exact (below_size (by repeat (first | (with_reducible first | exact HB.out | apply below_alloc | apply pw_below_drewN | apply below_drew1 | refine below_set ?_ GE101.out) | exact HB.out))) : w.heap.size ≤ gb102)); have n5_ := Aside0.mk ((by rw [hg]; exact Nat.ne_of_lt (blk_lt (g := gb101) (o := .cells #[.int .i64 a0_0, .slice A0_1 l0_1.length c0_1] 24 (0, 0)) (by (with_reducible repeat (first | refine blk_drewN ?_ _ | refine blk_drew ?_ | refine blk_alloc ?_ _)); exact BK101.out)) : gb101 ≠ gb102)); have n6_ := Aside0.mk ((by rw [hg]; exact Nat.ne_of_gt (blk_lt (g := gb101) (o := .cells #[.int .i64 a0_0, .slice A0_1 l0_1.length c0_1] 24 (0, 0)) (by (with_reducible repeat (first | refine blk_drewN ?_ _ | refine blk_drew ?_ | refine blk_alloc ?_ _)); exact BK101.out)) : gb102 ≠ gb101)); clear BK101; clear HB; have BK101 := n0_; have HB := n1_; have BK102 := n2_; have GW102 := n3_; have GE102 := n4_; have NB101_102 := n5_; have NB102_101 := n6_; clear n0_ n1_ n2_ n3_ n4_ n5_ n6_; clear hb hbox hg) | ((with_reducible refine gate_callee (f := 16) rfl ?_); refine goesL_ (some 27) rfl rfl Tryz.func16 (by kernel_rfl) rfl #[] rfl (by (try simp only [List.map_toArray, List.map_cons, List.map_nil]); first | done | rfl | (simp only [List.length_drop, List.length_take]; rfl)) ?_; (with_reducible refine (trestlelaw14_works.calls  false _ A4.out).mono ?_); rintro e w122 ⟨rfl, hb⟩; refine ⟨_, rfl, ?_⟩; have n0_ := Aside0.mk (blk_below (g := gb101) (o := .cells #[.int .i64 a0_0, .slice A0_1 l0_1.length c0_1] 24 (0, 0)) (by (with_reducible repeat (first | refine blk_drewN ?_ _ | refine blk_drew ?_ | refine blk_alloc ?_ _)); exact BK101.out) hb); have n1_ := Aside0.mk (blk_below (g := gb102) (o := .cells #[.int .i64 a1_0, .slice A1_1 l1_1.length c1_1] 24 (0, 0)) (by (with_reducible repeat (first | refine blk_drewN ?_ _ | refine blk_drew ?_ | refine blk_alloc ?_ _)); exact BK102.out) hb); have n2_ := Aside0.mk (below_step (by repeat (first | (with_reducible first | exact HB.out | apply below_alloc | apply pw_below_drewN | apply below_drew1 | refine below_set ?_ GE101.out | refine below_set ?_ GE102.out) | exact HB.out)) hb); clear BK101; clear BK102; clear HB; have BK101 := n0_; have BK102 := n1_; have HB := n2_; clear n0_ n1_ n2_; (try clear hb); (try clear hb2); (try clear hk); (try clear hi)))
  go_ret
  exact ⟨by first | rfl | (simp [errW_none, errW_some] <;> rfl) | (simp [*, errW_none, errW_some] <;> rfl), by repeat (first | (with_reducible first | exact HB.out | apply below_alloc | apply pw_below_drewN | apply below_drew1 | refine below_set ?_ GE101.out | refine below_set ?_ GE102.out) | exact HB.out)⟩

end Go.Proofs.YtjfmoildblcjiaaGreatDoor.QM
end

section
-- Made for this seat by wip/pr.py: the kit's printer, run with functions that were proved by hand.
namespace Go.Proofs.YtjfmoildblcjiaaGreatDoor.QM
open Go.Proofs.YtjfmoildblcjiaaGreatDoor.Orc Go.Proofs.YtjfmoildblcjiaaGreatDoor.QO Go.RowKit Go.Proofs.YtjfmoildblcjiaaGreatDoorW.PrintWords Go.Proofs.YtjfmoildblcjiaaGreatDoorW.PrintLast Go.Proofs.YtjfmoildblcjiaaGreatDoorW.PrintMore
attribute [local go_sem] max2_int min2_int max_two min_two max_three min_three max_four min_four   -- for this text's walks alone
set_option linter.unusedVariables false
set_option linter.unusedSimpArgs false

end Go.Proofs.YtjfmoildblcjiaaGreatDoor.QM
end

section
/- What is proved here: plain laws of forcing and of joined formulas: forcing ends, is sound under a model, and is done once. -/
namespace Go.Proofs.YtjfmoildblcjiaaGreatDoor.F1
open Go.RowKit Go.Proofs.YtjfmoildblcjiaaGreatDoorW.PrintWords Go.Proofs.YtjfmoildblcjiaaGreatDoorW.PrintLast Go.Proofs.YtjfmoildblcjiaaGreatDoorW.PrintMore Go.Proofs.YtjfmoildblcjiaaGreatDoor.H1 Go.Proofs.YtjfmoildblcjiaaGreatDoor.H2 Go.Proofs.YtjfmoildblcjiaaGreatDoor.HM Go.Proofs.YtjfmoildblcjiaaGreatDoor.H3 Go.Proofs.YtjfmoildblcjiaaGreatDoor.H4 Go.Proofs.YtjfmoildblcjiaaGreatDoor.H6 Go.Proofs.YtjfmoildblcjiaaGreatDoor.H7 Go.Proofs.YtjfmoildblcjiaaGreatDoor.H8 Go.Proofs.YtjfmoildblcjiaaGreatDoor.H21

/-- The set is closed under the clauses. -/
def Shut (cs : List (List Int)) (R : List Int) : Prop := ∀ c ∈ cs, (unitL R 0 c).2 = false
def AllOk (v : Int) (cs : List (List Int)) : Prop := ∀ c ∈ cs, litsOk v c

theorem pass_false : ∀ (cs : List (List Int)) (S S' : List Int) (ag : Bool), passL S ag cs = some (S', false) → ag = false ∧ S' = S ∧ Shut cs S
  | [], S, S', ag, h => by
    rw [passL] at h
    injection h with h
    injection h with h1 h2
    exact ⟨h2, h1.symm, fun c hc => by cases hc⟩
  | c :: r, S, S', ag, h => by
    rw [passL] at h
    split at h
    · rename_i hu
      obtain ⟨h1, h2, h3⟩ := pass_false r S S' ag h
      refine ⟨h1, h2, fun d hd => ?_⟩
      rcases List.mem_cons.1 hd with rfl | hd
      · exact hu
      · exact h3 d hd
    · split at h
      · cases h
      · have := (pass_false r _ S' true h).1
        cases this
theorem pass_good {v : Int} : ∀ (cs : List (List Int)) (S S' : List Int) (ag ag' : Bool), LGood v S → AllOk v cs → passL S ag cs = some (S', ag') → LGood v S' ∧ (∀ x ∈ S, x ∈ S') ∧ S.length ≤ S'.length ∧ (ag' = true → ag = true ∨ S.length + 1 ≤ S'.length)
  | [], S, S', ag, ag', hg, _, h => by
    rw [passL] at h
    injection h with h
    injection h with h1 h2
    subst h1; subst h2
    exact ⟨hg, fun x hx => hx, Nat.le_refl _, fun h => .inl h⟩
  | c :: r, S, S', ag, ag', hg, ha, h => by
    have har : AllOk v r := fun d hd => ha d (List.mem_cons_of_mem _ hd)
    rw [passL] at h
    split at h
    · exact pass_good r S S' ag ag' hg har h
    · rename_i hu
      split at h
      · cases h
      · rename_i h0
        have hu' : (unitL S 0 c).2 = true := by cases hh : (unitL S 0 c).2 <;> simp_all
        obtain ⟨hm, hn, hnn⟩ := unit_good (S := S) (c := c) (x := (unitL S 0 c).1) (by rw [← hu']) h0
        have hx := ha c List.mem_cons_self _ hm
        have hg2 := good_put hg hx.1 hx.2.1 hx.2.2 hnn
        obtain ⟨h1, h2, h3, _⟩ := pass_good r _ S' true ag' hg2 har h
        have hl := put_len hn
        exact ⟨h1, fun x hx => h2 x (put_mem.2 (.inl hx)), by omega, fun _ => .inr (by omega)⟩
theorem forces_total {v : Int} (hv : 0 ≤ v) {cs : List (List Int)} (ha : AllOk v cs) : ∀ (n : Nat) (S : List Int), LGood v S → (2 * v + 1).toNat ≤ S.length + n → ∃ R, Forces cs S R
  | n, S, hg, hn => by
    cases hp : passL S false cs with
    | none => exact ⟨_, .stop hp⟩
    | some q =>
      obtain ⟨S', ag⟩ := q
      cases ag with
      | false => exact ⟨_, .done hp⟩
      | true =>
        obtain ⟨hg', _, hl, hl2⟩ := pass_good cs S S' false true hg ha hp
        have h1 := (hl2 rfl).resolve_left (by simp)
        have h2 := good_len hg' hv
        cases n with
        | zero => omega
        | succ n =>
          obtain ⟨R, hR⟩ := forces_total hv ha n S' hg' (by omega)
          exact ⟨R, .again hp hR⟩
theorem forces_shut {v : Int} {cs : List (List Int)} (ha : AllOk v cs) {S : List Int} {Q : Option (List Int)} (h : Forces cs S Q) : ∀ R, Q = some R → LGood v S → LGood v R ∧ (∀ x ∈ S, x ∈ R) ∧ Shut cs R := by
  induction h with
  | stop _ => intro R e; cases e
  | done hp =>
    intro R e hg
    cases e
    obtain ⟨_, rfl, hs⟩ := pass_false _ _ _ _ hp
    exact ⟨hg, fun x hx => hx, hs⟩
  | again hp _ ih =>
    intro R e hg
    obtain ⟨hg', hsub, _, _⟩ := pass_good _ _ _ _ _ hg ha hp
    obtain ⟨h1, h2, h3⟩ := ih R e hg'
    exact ⟨h1, fun x hx => h2 x (hsub x hx), h3⟩
theorem init_good {v : Int} : ∀ (l : List Int) (S S' : List Int), LGood v S → litsOk v l → initL S l = some S' → LGood v S' ∧ (∀ x ∈ S, x ∈ S') ∧ (∀ x ∈ l, x ∈ S')
  | [], S, S', hg, _, h => by
    rw [initL] at h; cases h
    exact ⟨hg, fun x hx => hx, fun x hx => by cases hx⟩
  | x :: r, S, S', hg, hl, h => by
    rw [initL] at h
    split at h
    · cases h
    · rename_i hn
      have hx := hl x List.mem_cons_self
      obtain ⟨h1, h2, h3⟩ := init_good r _ S' (good_put hg hx.1 hx.2.1 hx.2.2 hn) (fun y hy => hl y (List.mem_cons_of_mem _ hy)) h
      refine ⟨h1, fun y hy => h2 y (put_mem.2 (.inl hy)), fun y hy => ?_⟩
      rcases List.mem_cons.1 hy with rfl | hy
      · exact h2 y (put_mem.2 (.inr rfl))
      · exact h3 y hy
/-! ### under a model -/
theorem litT_neg {m : List Bool} {x : Int} (hx : x ≠ 0) : litT m (-x) = !litT m x := by
  unfold litT
  by_cases h : x < 0
  · rw [if_neg (by omega), if_pos h, Bool.not_not]
  · rw [if_pos (by omega), if_neg h, Int.neg_neg]
theorem unit_sound {m : List Bool} {S : List Int} (hS : ∀ y ∈ S, litT m y = true) : ∀ (c : List Int) (left : Int), (∀ x ∈ c, x ≠ 0) → (clauseT m c = true ∨ (left ≠ 0 ∧ litT m left = true)) → (unitL S left c).2 = true → (unitL S left c).1 ≠ 0 ∧ litT m (unitL S left c).1 = true
  | [], left, _, h, _ => by
    rcases h with h | h
    · cases h
    · exact h
  | x :: r, left, h0, h, h2 => by
    have hx0 := h0 x List.mem_cons_self
    have hr0 : ∀ y ∈ r, y ≠ 0 := fun y hy => h0 y (List.mem_cons_of_mem _ hy)
    have hc : clauseT m (x :: r) = true → litT m x = true ∨ clauseT m r = true := fun h => by
      unfold clauseT at h ⊢
      rw [List.any_cons, Bool.or_eq_true] at h
      exact h
    by_cases m1 : x ∈ S
    · rw [unitL_in m1] at h2; cases h2
    · by_cases m2 : -x ∈ S
      · rw [unitL_neg m1 m2] at h2 ⊢
        have hf : litT m x = false := by
          have := hS _ m2
          rw [litT_neg hx0] at this
          simpa using this
        refine unit_sound hS r left hr0 ?_ h2
        rcases h with h | h
        · rcases hc h with h | h
          · rw [hf] at h; cases h
          · exact .inl h
        · exact .inr h
      · by_cases m3 : x = left
        · rw [unitL_same m1 m2 m3] at h2 ⊢
          refine unit_sound hS r left hr0 ?_ h2
          rcases h with h | h
          · rcases hc h with h | h
            · exact .inr ⟨m3 ▸ hx0, m3 ▸ h⟩
            · exact .inl h
          · exact .inr h
        · by_cases m4 : left = 0
          · rw [unitL_new m1 m2 m3 m4] at h2 ⊢
            refine unit_sound hS r x hr0 ?_ h2
            rcases h with h | h
            · rcases hc h with h | h
              · exact .inr ⟨hx0, h⟩
              · exact .inl h
            · exact absurd m4 h.1
          · rw [unitL_two m1 m2 m3 m4] at h2; cases h2
theorem pass_sound {m : List Bool} : ∀ (cs : List (List Int)) (S : List Int) (ag : Bool), (∀ y ∈ S, litT m y = true) → (∀ c ∈ cs, ∀ x ∈ c, x ≠ 0) → sat m cs = true → ∃ S' ag', passL S ag cs = some (S', ag') ∧ ∀ y ∈ S', litT m y = true
  | [], S, ag, hS, _, _ => ⟨S, ag, rfl, hS⟩
  | c :: r, S, ag, hS, h0, hs => by
    unfold sat at hs
    rw [List.all_cons, Bool.and_eq_true] at hs
    have hr : ∀ d ∈ r, ∀ x ∈ d, x ≠ 0 := fun d hd => h0 d (List.mem_cons_of_mem _ hd)
    rw [passL]
    by_cases hu : (unitL S 0 c).2 = false
    · rw [if_pos hu]
      exact pass_sound r S ag hS hr hs.2
    · have hu' : (unitL S 0 c).2 = true := by simpa using hu
      obtain ⟨h1, h2⟩ := unit_sound hS c 0 (h0 c List.mem_cons_self) (.inl hs.1) hu'
      rw [if_neg hu, if_neg h1]
      refine pass_sound r _ true (fun y hy => ?_) hr hs.2
      rcases put_mem.1 hy with hy | rfl
      · exact hS y hy
      · exact h2
theorem forces_sound {m : List Bool} {cs : List (List Int)} (h0 : ∀ c ∈ cs, ∀ x ∈ c, x ≠ 0) (hs : sat m cs = true) {S : List Int} {R : Option (List Int)} (h : Forces cs S R) : (∀ y ∈ S, litT m y = true) → ∃ T, R = some T ∧ ∀ y ∈ T, litT m y = true := by
  induction h with
  | stop hp =>
    intro hS
    obtain ⟨S', ag', h1, _⟩ := pass_sound cs _ false hS h0 hs
    rw [hp] at h1; cases h1
  | done hp =>
    intro hS
    obtain ⟨S', ag', h1, h2⟩ := pass_sound cs _ false hS h0 hs
    rw [hp] at h1; cases h1
    exact ⟨_, rfl, h2⟩
  | again hp _ ih =>
    intro hS
    obtain ⟨S', ag', h1, h2⟩ := pass_sound cs _ false hS h0 hs
    rw [hp] at h1; cases h1
    exact ih h2
/-- Literals of which none is the contrary of another are taken. -/
theorem init_some (p : Int → Prop) (hp : ∀ x, p x → ¬ p (-x)) : ∀ (l S : List Int), (∀ x ∈ S, p x) → (∀ x ∈ l, p x) → ∃ S', initL S l = some S' ∧ ∀ y, y ∈ S' ↔ y ∈ S ∨ y ∈ l
  | [], S, _, _ => ⟨S, rfl, fun y => by simp⟩
  | x :: r, S, hS, hl => by
    have hx := hl x List.mem_cons_self
    rw [initL, if_neg (fun h => hp x hx (hS _ h))]
    obtain ⟨S', h1, h2⟩ := init_some p hp r (put S x) (fun y hy => by
      rcases put_mem.1 hy with hy | rfl
      · exact hS y hy
      · exact hx) (fun y hy => hl y (List.mem_cons_of_mem _ hy))
    refine ⟨S', h1, fun y => ?_⟩
    rw [h2, put_mem, List.mem_cons, or_assoc]
theorem unit_congr {S T : List Int} (h : ∀ y, y ∈ S ↔ y ∈ T) : ∀ (c : List Int) (left : Int), unitL S left c = unitL T left c
  | [], _ => rfl
  | x :: r, left => by
    rw [unitL, unitL]
    simp only [h x, h (-x), unit_congr h r]
theorem pass_shut {S : List Int} : ∀ (cs : List (List Int)) (ag : Bool), Shut cs S → passL S ag cs = some (S, ag)
  | [], _, _ => rfl
  | c :: r, ag, h => by
    rw [passL, if_pos (h c List.mem_cons_self)]
    exact pass_shut r ag (fun d hd => h d (List.mem_cons_of_mem _ hd))
theorem litsE_of {v : Int} {l : List Int} (h : litsOk v l) (hl : (l.length : Int) ≤ 16384) : litsE l v = 0 := by
  unfold litsE
  rw [if_neg (by omega), if_neg]
  intro hb
  obtain ⟨x, hx, hbx⟩ := List.any_eq_true.1 hb
  have := h x hx
  simp [litBad] at hbx
  omega
theorem litsE_mono {v v' : Int} {l : List Int} (h : litsE l v = 0) (hv : v ≤ v') : litsE l v' = 0 := by
  obtain ⟨h1, h2⟩ := litsE_ok h
  exact litsE_of (fun x hx => by have := h1 x hx; omega) h2
theorem checkL_of {v : Int} : ∀ (cs : List (List Int)) (i : Nat), (∀ c ∈ cs, litsE c v = 0) → (checkL v i cs).2 = 0
  | [], _, _ => rfl
  | c :: r, i, h => by
    rw [checkL, if_pos (h c List.mem_cons_self)]
    exact checkL_of r (i + 1) (fun d hd => h d (List.mem_cons_of_mem _ hd))
theorem checkE_of {v : Int} {cs : List (List Int)} (h0 : 0 ≤ v) (h1 : v ≤ 262144) (h2 : (cs.length : Int) ≤ 524288) (h3 : ∀ c ∈ cs, litsE c v = 0) : (checkE v cs).2 = 0 := by
  unfold checkE
  rw [if_neg (by omega), if_neg (by omega), if_neg (by omega)]
  exact checkL_of cs 0 h3
/-- Two formulas together. -/
theorem check_join {v v1 : Int} {cs cs1 : List (List Int)} (h : (checkE v cs).2 = 0) (h1 : (checkE v1 cs1).2 = 0) (hl : (cs.length : Int) + cs1.length ≤ 524288) : (checkE (max v v1) (cs ++ cs1)).2 = 0 := by
  obtain ⟨a0, a1, _, a3⟩ := checkE_ok h
  obtain ⟨b0, b1, _, b3⟩ := checkE_ok h1
  refine checkE_of (by omega) (by omega) (by rw [List.length_append]; omega) (fun c hc => ?_)
  rcases List.mem_append.1 hc with hc | hc
  · exact litsE_mono (a3 c hc) (by omega)
  · exact litsE_mono (b3 c hc) (by omega)
theorem litT_take {m : List Bool} {n : Nat} {x : Int} (hx : x ≠ 0 ∧ -(n : Int) ≤ x ∧ x ≤ n) : litT (m.take n) x = litT m x := by
  have h : ∀ i : Int, 0 ≤ i → i < n → rdOf false (m.take n) i = rdOf false m i := by
    intro i h0 h1
    unfold rdOf
    rw [List.getD_eq_getElem?_getD, List.getD_eq_getElem?_getD, List.getElem?_take, if_pos (by omega)]
  unfold litT
  by_cases hn : x < 0
  · rw [if_pos hn, if_pos hn, h _ (by omega) (by omega)]
  · rw [if_neg hn, if_neg hn, h _ (by omega) (by omega)]
theorem any_congr_mem {α : Type} {p q : α → Bool} : ∀ {l : List α}, (∀ x ∈ l, p x = q x) → l.any p = l.any q
  | [], _ => rfl
  | x :: r, h => by rw [List.any_cons, List.any_cons, h x List.mem_cons_self, any_congr_mem (fun y hy => h y (List.mem_cons_of_mem _ hy))]
theorem all_congr_mem {α : Type} {p q : α → Bool} : ∀ {l : List α}, (∀ x ∈ l, p x = q x) → l.all p = l.all q
  | [], _ => rfl
  | x :: r, h => by rw [List.all_cons, List.all_cons, h x List.mem_cons_self, all_congr_mem (fun y hy => h y (List.mem_cons_of_mem _ hy))]
theorem sat_take {m : List Bool} {n : Nat} {cs : List (List Int)} (h : ∀ c ∈ cs, inM n c) : sat (m.take n) cs = sat m cs := by
  unfold sat
  refine all_congr_mem (fun c hc => ?_)
  unfold clauseT
  exact any_congr_mem (fun x hx => litT_take (h c hc x hx))
theorem sat_app {m : List Bool} {cs cs1 : List (List Int)} : sat m (cs ++ cs1) = (sat m cs && sat m cs1) := by
  unfold sat; rw [List.all_append]
theorem holds_val {v : Int} {cs : List (List Int)} {m : List Bool} (h : (checkE v cs).2 = 0) (hm : (m.length : Int) = v) : (holdsE v cs m).1 = sat m cs ∧ (holdsE v cs m).2.2 = 0 := by
  unfold holdsE
  have hf : decide (firstI m cs < 0) = sat m cs := first_sat m cs
  rw [if_neg (fun hh => hh h), if_neg (fun hh => hh hm)]
  by_cases hp : firstI m cs ≥ 0
  · rw [if_pos hp]
    refine ⟨?_, rfl⟩
    rw [← hf, decide_eq_false (by omega)]
  · rw [if_neg hp]
    refine ⟨?_, rfl⟩
    rw [← hf, decide_eq_true (by omega)]
end Go.Proofs.YtjfmoildblcjiaaGreatDoor.F1
end

section
/- What is proved here: the chapter's first example: works of layer 14 says true. -/
namespace Go.Proofs.YtjfmoildblcjiaaGreatDoor.O1
open Go.RowKit Go.Proofs.YtjfmoildblcjiaaGreatDoorW.PrintWords Go.Proofs.YtjfmoildblcjiaaGreatDoorW.PrintLast Go.Proofs.YtjfmoildblcjiaaGreatDoorW.PrintMore Go.Proofs.YtjfmoildblcjiaaGreatDoor.Orc Go.Proofs.YtjfmoildblcjiaaGreatDoor.H1 Go.Proofs.YtjfmoildblcjiaaGreatDoor.H2 Go.Proofs.YtjfmoildblcjiaaGreatDoor.HM Go.Proofs.YtjfmoildblcjiaaGreatDoor.H3 Go.Proofs.YtjfmoildblcjiaaGreatDoor.H4 Go.Proofs.YtjfmoildblcjiaaGreatDoor.H7 Go.Proofs.YtjfmoildblcjiaaGreatDoor.H8 Go.Proofs.YtjfmoildblcjiaaGreatDoor.P1 Go.Proofs.YtjfmoildblcjiaaGreatDoor.P5 Go.Proofs.YtjfmoildblcjiaaGreatDoor.P6 Go.Proofs.YtjfmoildblcjiaaGreatDoor.P7 Go.Proofs.YtjfmoildblcjiaaGreatDoor.P8

theorem lineL_blank {l : List UInt8} {a : Int} {s : Rd} {i : Nat} (h : i < l.length) (hb : P5.blank l[i] = true) : lineL l a s i = lineL l a s (i + 1) := by rw [lineL, dif_pos h, dif_pos hb]
theorem lineL_word {l : List UInt8} {a : Int} {s : Rd} {i : Nat} (h : i < l.length) (hb : P5.blank l[i] = false) (j : Nat) (hj : endW l i = j) (s' : Rd) (hw : wordR s ((l.drop i).take (j - i)) = (0, s')) : lineL l a s i = lineL l a s' j := by
  rw [lineL, dif_pos h, dif_neg (by rw [hb]; decide), hj, hw, if_neg (fun h => h rfl)]
theorem lineL_end {l : List UInt8} {a : Int} {s : Rd} {i : Nat} (h : ¬ i < l.length) : lineL l a s i = (s, 0, 0) := by rw [lineL, dif_neg h]
theorem parseL_line {l : List UInt8} {s : Rd} {i : Nat} (h : i < l.length) (p : List UInt8) (hp : befC 10 (l.drop i) = p) (hc : comment p = false) (s' : Rd) (hl : lineL p i s 0 = (s', 0, 0)) (j : Nat) (hj : i + (p.length + 1) = j) : parseL l s true i = parseL l s' true j := by
  rw [parseL, dif_pos h, hp, if_neg (by rw [hc]; decide), if_pos rfl, hl, if_neg (fun h => h rfl), hj]
theorem parseL_prob {l : List UInt8} {s : Rd} {i : Nat} (h : i < l.length) (p : List UInt8) (hp : befC 10 (l.drop i) = p) (hc : comment p = false) (v m : Int) (hl : problemL p = (v, m, true)) (j : Nat) (hj : i + (p.length + 1) = j) : parseL l s false i = parseL l { s with v := v, many := m } true j := by
  rw [parseL, dif_pos h, hp, if_neg (by rw [hc]; decide), if_neg (by decide), hl, if_neg (fun h => by cases h), hj]
theorem parseL_end {l : List UInt8} {s : Rd} {b : Bool} {i : Nat} (h : ¬ i < l.length) : parseL l s b i = endL l s b := by rw [parseL, dif_neg h]

def exL : List UInt8 := [112, 32, 99, 110, 102, 32, 50, 32, 50, 10, 49, 32, 45, 50, 32, 48, 10, 50, 32, 48, 10]
theorem line_a : lineL [49, 32, 45, 50, 32, 48] 10 ⟨2, [], 2, [], false⟩ 0 = (⟨2, [[1, -2]], 2, [], false⟩, 0, 0) := by
  rw [lineL_word (by decide) (by decide) 1 (by decide) ⟨2, [], 2, [1], true⟩ rfl, lineL_blank (by decide) (by decide), lineL_word (by decide) (by decide) 4 (by decide) ⟨2, [], 2, [1, -2], true⟩ rfl,
    lineL_blank (by decide) (by decide), lineL_word (by decide) (by decide) 6 (by decide) ⟨2, [[1, -2]], 2, [], false⟩ rfl, lineL_end (by decide)]
theorem line_b : lineL [50, 32, 48] 17 ⟨2, [[1, -2]], 2, [], false⟩ 0 = (⟨2, [[1, -2], [2]], 2, [], false⟩, 0, 0) := by
  rw [lineL_word (by decide) (by decide) 1 (by decide) ⟨2, [[1, -2]], 2, [2], true⟩ rfl, lineL_blank (by decide) (by decide), lineL_word (by decide) (by decide) 3 (by decide) ⟨2, [[1, -2], [2]], 2, [], false⟩ rfl, lineL_end (by decide)]
theorem parse_ex : parseF exL = (2, [[1, -2], [2]], 0, 0) := by
  unfold parseF
  rw [if_neg (by decide), parseL_prob (by decide) [112, 32, 99, 110, 102, 32, 50, 32, 50] (by decide) (by decide) 2 2 (by decide) 10 rfl,
    show parseL exL { rd0 with v := 2, many := 2 } true 10 = parseL exL ⟨2, [], 2, [], false⟩ true 10 from rfl, parseL_line (by decide) [49, 32, 45, 50, 32, 48] (by decide) (by decide) _ line_a 17 rfl, parseL_line (by decide) [50, 32, 48] (by decide) (by decide) _ line_b 21 rfl, parseL_end (by decide)]
  rfl
theorem short_ex : ShortW exL := by
  intro i j hij hj hb
  have hl : exL.length = 21 := rfl
  rcases Nat.lt_or_ge (j - i) 19 with h | h
  · omega
  · have := (hb 9 (by omega) (by omega) (by omega)).2
    exact absurd rfl this
theorem parse_f : cnf_Parse.f ⟨exL.toArray⟩ = some (2, [[1, -2], [2]], 0, 0) := by
  unfold cnf_Parse.f
  rw [if_pos (show ShortW (⟨exL.toArray⟩ : ByteArray).data.toList from short_ex)]
  exact congrArg some parse_ex
def exC : List (List Int) := [[1, -2], [2]]
theorem models_f : cnf_Models.f 2 exC = some (1, 0) := by
  unfold cnf_Models.f
  rw [show trialsE 2 exC = 0 by decide, show modelsE 2 exC = 1 by decide]
theorem force_a : cnf_Force.f 2 exC [] = some ([1, 2], true, 0) := by
  have h : forceV exC [] = some [2, 1] := forceV_eq (.again (S' := [2]) (by decide) (.again (S' := [2, 1]) (by decide) (.done (by decide))))
  have hs : sortA [2, 1] = [1, 2] := (sortA_unique (v := 2) (S := [2, 1]) (l := [1, 2]) ⟨by decide, by decide, by decide⟩ (List.Perm.swap _ _ _) (by decide)).symm
  unfold cnf_Force.f forceE
  rw [if_neg (by decide), if_neg (by decide), show initL [] [] = some [] from rfl, Option.bind_some, h]
  show some (sortA [2, 1], true, 0) = _
  rw [hs]
theorem force_b : cnf_Force.f 2 exC [-1] = some ([], false, 0) := by
  have h : forceV exC [-1] = none := forceV_eq (.stop (by decide))
  unfold cnf_Force.f forceE
  rw [if_neg (by decide), if_neg (by decide), show initL [] [-1] = some [-1] by decide, Option.bind_some, h]
theorem works_f : QO.trestlelaw14_works.f = some true := by
  unfold QO.trestlelaw14_works.f
  have h := parse_f
  rw [show (⟨exL.toArray⟩ : ByteArray) = ⟨#[112, 32, 99, 110, 102, 32, 50, 32, 50, 10, 49, 32, 45, 50, 32, 48, 10, 50, 32, 48, 10]⟩ from rfl] at h
  have hm := models_f
  have ha := force_a
  have hb := force_b
  unfold exC at hm ha hb
  rw [h]
  simp only [Option.bind_some]
  rw [hm, ha, hb]
  decide
end Go.Proofs.YtjfmoildblcjiaaGreatDoor.O1
end
