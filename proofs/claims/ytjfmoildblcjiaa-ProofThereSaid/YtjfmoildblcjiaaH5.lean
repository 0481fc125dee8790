/- What is proved here: the contract of cnf.Force. -/
import Derived.Test.YtjfmoildblcjiaaHS
namespace Go.Proofs.Ytjfmoildblcjiaa.H5
open Go.RowKit Go.Proofs.YtjfmoildblcjiaaW.PrintWords Go.Proofs.YtjfmoildblcjiaaW.PrintLast Go.Proofs.YtjfmoildblcjiaaW.PrintMore Go.Proofs.Ytjfmoildblcjiaa.H1 Go.Proofs.Ytjfmoildblcjiaa.H2 Go.Proofs.Ytjfmoildblcjiaa.HM Go.Proofs.Ytjfmoildblcjiaa.H3 Go.Proofs.Ytjfmoildblcjiaa.H4 Go.Proofs.Ytjfmoildblcjiaa.HS

theorem info_int : (Try.prog.info? 3).map (fun i => (i.zero, i.size, i.bytes)) = some (some (.int .i64 0), 1, 8) := by kernel_rfl
theorem own_ne_map {w : World} {base b : Nat} {ok : Nat → Prop} {u : Value} {xs S : List Int} (h : Kd.R (Kd.int .i64) 3 w base ok u xs) (hs : IsSet w b S) : some b ≠ u.ownBlock := by
  intro e
  obtain ⟨inner, ho⟩ := Kd.R_own h
  obtain ⟨cells, hc⟩ := own_typed ho b e.symm
  obtain ⟨es, clock, hb, _⟩ := hs
  rw [hb] at hc
  cases hc
theorem own_ne_iter {w : World} {base r b : Nat} {ok : Nat → Prop} {u : Value} {xs S done : List Int} (h : Kd.R (Kd.int .i64) 3 w base ok u xs) (hs : IsIter w r b S done) : some r ≠ u.ownBlock := by
  intro e
  obtain ⟨inner, ho⟩ := Kd.R_own h
  obtain ⟨cells, hc⟩ := own_typed ho r e.symm
  obtain ⟨_, es, clock, seen, _, _, hb, _⟩ := hs
  rw [hb] at hc
  cases hc
theorem R_int_other {e : Nat} {w w1 : World} {base : Nat} {ok : Nat → Prop} {u : Value} {xs : List Int} (h : Kd.R (Kd.int .i64) e w base ok u xs) {row : Option Nat} (hg : w.grownBy w1 row) (hne : row ≠ u.ownBlock) : Kd.R (Kd.int .i64) e w1 base ok u xs :=
  ⟨h.1, OwnRow.imp_ (OwnRow.other h.2 hg (.inr (Ne.symm hne))) (fun _ _ hp => hp)⟩
/-- What Force answers. -/
def Answer (v : Int) (cs : List (List Int)) (l : List Int) (w w' : World) (e : Ending) : Prop :=
  Below w.heap.size w w' ∧
  if (checkE v cs).2 ≠ 0 then e = .returned (.tuple #[.slice none 0 0, .bool false, .int .i64 (checkE v cs).2])
  else if litsE l v ≠ 0 then e = .returned (.tuple #[.slice none 0 0, .bool false, .int .i64 (litsE l v)])
  else match (initL [] l).bind (forceV cs) with
    | none => e = .returned (.tuple #[.slice none 0 0, .bool false, .int .i64 0])
    | some S => LGood v S ∧ ∃ u, e = .returned (.tuple #[u, .bool true, .int .i64 0]) ∧ Kd.R (Kd.int .i64) 3 w' w.heap.size (fun _ => True) u (sortA S)

set_option maxHeartbeats 8000000 in
set_option maxRecDepth 100000 in
theorem force_any (v : Int) (A : Option Addr) (c : Nat) (cs : List (List Int)) (A1 : Option Addr) (c1 : Nat) (l : List Int) (w : World) (hr : Kd.C (Kd.slice 3 (Kd.int .i64)) w A cs.length cs) (hc : cs.length ≤ c)
    (hr1 : Kd.C (Kd.int .i64) w A1 l.length l) (hc1 : l.length ≤ c1) :
    Calls Try.prog 59 #[.agg #[.int .i64 v, .slice A cs.length c], .slice A1 l.length c1] w fun e w' => Answer v cs l w w' e := by
  have HR := Aside0.mk hr
  have HC := Aside0.mk hc
  have HR1 := Aside0.mk hr1
  have HC1 := Aside0.mk hc1
  have HM := Aside0.mk (Kd.C_max hr)
  have HM1 := Aside0.mk (Kd.C_max hr1)
  clear hr hc hr1 hc1
  by_cases h0 : (checkE v cs).2 = 0
  · have d0 : ((checkE v cs).2 != 0) = false := bne_eq_false_iff_eq.2 h0
    obtain ⟨hv0, hv1, hlen, hall⟩ := checkE_ok h0
    have HALL := Aside0.mk hall
    have HZ := Aside0.mk h0
    clear hall h0
    generalize hce : checkE v cs = ce at *
    have HCE := Aside0.mk hce
    clear hce
    by_cases h1 : litsE l v = 0
    · have d1 : (litsE l v != 0) = false := bne_eq_false_iff_eq.2 h1
      have hok := litsE_ok h1
      have HOK := Aside0.mk hok.1
      have HZ1 := Aside0.mk h1
      clear h1 hok
      generalize hle : litsE l v = le at *
      have HLE := Aside0.mk hle
      clear hle
      have hmm := @run_makeMap Try.prog
      go_enter Try.func59, Try.ntmps59
      go_wp2_with (first | ((with_reducible refine (check_any v _ _ cs _ (Kd.C_below HR.out (below_alloc (Below.refl _ _) _)) HC.out).mono ?_); rintro e w1 ⟨rfl, hb1⟩; rw [HCE.out]; have k0 := (hb1.cell (p := ⟨w.heap.size, 0, none⟩) (by simp)).trans (show _ = some (Value.int .i64 v) by simp); have HB1 := Aside0.mk hb1; clear hb1) | ((with_reducible refine (literals_any _ _ l v _ (Kd.C_below (Kd.C_below HR1.out (below_alloc (Below.refl _ _) _)) HB1.out) HC1.out hv0 hv1).mono ?_); rintro e w2 ⟨rfl, hb2⟩; rw [HLE.out]; have HB2 := Aside0.mk hb2; clear hb2))
      clear k0 hmm
      have HW : Aside0 (Below w.heap.size w w2) := ⟨(below_alloc (Below.refl _ _) _).trans ((HB1.out.mono (by simp)).trans (HB2.out.mono (by have := HB1.out.size; simp at this; omega)))⟩
      have HLT : Aside0 (w.heap.size < w2.heap.size) := ⟨by have h1 := HB1.out.size; have h2 := HB2.out.size; simp at h1; omega⟩
      have HK1 : Aside0 (w2.cell? ⟨w.heap.size, 1, none⟩ = some (.slice A cs.length c)) := ⟨(HB2.out.cell (p := ⟨w.heap.size, 1, none⟩) (by have h1 := HB1.out.size; simp at h1; show w.heap.size < w1.heap.size; omega)).trans ((HB1.out.cell (p := ⟨w.heap.size, 1, none⟩) (by simp)).trans (by simp))⟩
      have HS0 : Aside0 (IsSet (w2.alloc (.map #[] 0)) w2.heap.size []) := ⟨made w2⟩
      clear HB1 HB2
      go_loopg [38] (l.length) (fun kq v38 w' => ∃ (i : Nat) (S : List Int), Aside0 (i + kq = l.length) ∧ v38 = .int .i64 (i : Int) ∧ Aside0 (initL [] l = initL S (l.drop i)) ∧ Aside0 (LGood v S) ∧ Aside0 (IsSet w' w2.heap.size S) ∧ Aside0 (Below w2.heap.size w2 w'))
      case atStart => exact ⟨0, [], ⟨by omega⟩, rfl, ⟨rfl⟩, ⟨good_nil v⟩, HS0, ⟨below_alloc (Below.refl _ _) _⟩⟩
      case round =>
        clear HS0
        obtain ⟨i, S, HI, rfl, HA, HG, HS, HB⟩ := hrel
        by_cases hlt : i < l.length
        · obtain ⟨k1, rfl⟩ : ∃ k1, gk = k1 + 1 := ⟨gk - 1, by have := HI.out; omega⟩
          have c0 : decide ((i : Int) < (l.length : Int)) = true := decide_eq_true (by omega)
          obtain ⟨ad, e1, hx⟩ := Kd.at_int (Kd.C_below (Kd.C_below HR1.out HW.out) (HB.out.mono (Nat.le_refl _))) (i : Int) (by omega) (by omega)
          cases e1
          have hx : wr.cell? (ad.add i) = some (.int .i64 (rd l i)) := hx
          have HD : Aside0 (l.drop i = rd l i :: l.drop (i + 1)) := ⟨drop_rd hlt⟩
          have hb := HOK.out _ (rd_mem hlt)
          generalize rd l (i : Int) = x at *
          obtain ⟨hx0, hx1, hx2⟩ := hb
          by_cases m1 : -x ∈ S
          · have hl1 := lookup_in HS.out uMap uInt m1
            have HE : Aside0 (initL [] l = none) := ⟨by rw [HA.out, HD.out, initL, if_pos m1]⟩
            clear m1
            go_wp2
            go_ret3
            refine ⟨HW.out.trans (HB.out.mono (Nat.le_of_lt HLT.out)), ?_⟩
            rw [if_neg (by rw [HCE.out, HZ.out]; simp), if_neg (by rw [HLE.out, HZ1.out]; simp), HE.out]
            rfl
          · have hl1 := lookup_out HS.out uMap uInt (zInt wr) m1
            have HE : Aside0 (initL [] l = initL (put S x) (l.drop (i + 1))) := ⟨by rw [HA.out, HD.out, initL, if_neg m1]⟩
            have HG1 : Aside0 (LGood v (put S x)) := ⟨good_put HG.out hx0 hx1 hx2 m1⟩
            clear m1
            go_wp2_with (refine wpl_update (by rfl) _ _ _ (by rfl) uMap uInt x (by rfl) (by rfl) HS.out ?_; intro w3 hs3 hg3 hz3; have HS3 := Aside0.mk hs3; have HG3 := Aside0.mk hg3; have HZ3 := Aside0.mk hz3; clear hs3 hg3 hz3)
            go_roundg k1
            case measure => omega
            case rel => exact ⟨i + 1, put S x, ⟨by have := HI.out; omega⟩, congrArg (Value.int .i64) (wrapn hlt HM1.out), HE, HG1, HS3, ⟨HB.out.grown HG3.out (Nat.le_of_lt HS.out.lt) (fun k hk => by injection hk with hk; omega)⟩⟩
        · have c0 : decide ((i : Int) < (l.length : Int)) = false := decide_eq_false (by omega)
          have HE : Aside0 (initL [] l = some S) := ⟨by rw [HA.out, List.drop_of_length_le (by omega)]; rfl⟩
          clear HA
          have HG0 := HG
          have HS0 := HS
          have HB0 := HB
          clear HG HS HB HI
          go_wp2
          have HF0 : Aside0 (∀ R, Forces cs S R → Forces cs S R) := ⟨fun _ h => h⟩
          go_loopg [13] ((2 * v + 1).toNat + 1) (fun kq v13 w' => ∃ (T : List Int) (ag : Bool), v13 = .bool ag ∧ Aside0 (ag = true → (2 * v + 1).toNat + 1 ≤ T.length + kq) ∧ Aside0 (if ag = true then ∀ R, Forces cs T R → Forces cs S R else Forces cs S (some T)) ∧ Aside0 (LGood v T) ∧ Aside0 (IsSet w' w2.heap.size T) ∧ Aside0 (Below w2.heap.size w2 w'))
          case atStart => exact ⟨S, true, rfl, ⟨fun _ => by omega⟩, ⟨HF0.out⟩, HG0, HS0, HB0⟩
          case round =>
            clear HG0 HS0 HB0 HF0
            obtain ⟨T, ag, rfl, HK, HF, HG, HS, HB⟩ := hrel
            obtain ⟨wo, rfl⟩ : ∃ wo : World, wo = wr := ⟨_, rfl⟩
            cases ag with
            | true =>
              have hkq := HK.out rfl
              have hTl := good_len HG.out hv0
              obtain ⟨k1, rfl⟩ : ∃ k1, gk = k1 + 1 := ⟨gk - 1, by omega⟩
              have HKQ := Aside0.mk hkq
              have HTL := Aside0.mk hTl
              have HFT : Aside0 (∀ R, Forces cs T R → Forces cs S R) := ⟨by have := HF.out; rwa [if_pos rfl] at this⟩
              clear hkq hTl HK HF
              have hk1 : wo.cell? ⟨w.heap.size, 1, none⟩ = some (.slice A cs.length c) := (HB.out.cell (p := ⟨w.heap.size, 1, none⟩) HLT.out).trans HK1.out
              go_wp2
              clear hk1
              go_loopg [13, 54] (cs.length) (fun kq v13 v54 w' => ∃ (j : Nat) (U : List Int) (ag : Bool), Aside0 (j + kq = cs.length) ∧ v54 = .int .i64 (j : Int) ∧ v13 = .bool ag ∧ Aside0 (passL T false cs = passL U ag (cs.drop j)) ∧ Aside0 (T.length ≤ U.length ∧ (ag = true → T.length + 1 ≤ U.length)) ∧ Aside0 (LGood v U) ∧ Aside0 (IsSet w' w2.heap.size U) ∧ Aside0 (Below w2.heap.size w2 w'))
              case atStart => exact ⟨0, T, false, ⟨by omega⟩, rfl, rfl, ⟨rfl⟩, ⟨Nat.le_refl _, fun h => by cases h⟩, HG, HS, HB⟩
              case round =>
                clear HG HS HB
                obtain ⟨j, U, ag, HJ, rfl, rfl, HP, HL, HG, HS, HB⟩ := hrel
                by_cases hjt : j < cs.length
                · obtain ⟨k2, rfl⟩ : ∃ k2, gk = k2 + 1 := ⟨gk - 1, by have := HJ.out; omega⟩
                  have c1 : decide ((j : Int) < (cs.length : Int)) = true := decide_eq_true (by omega)
                  obtain ⟨ad, A0, cc, e1, hx, hl, hC⟩ := at_L (Kd.C_below (Kd.C_below HR.out HW.out) (HB.out.mono (Nat.le_refl _))) (j : Int) (by omega) (by omega)
                  cases e1
                  have hx : wr.cell? (ad.add j) = some (.slice A0 (rdL cs j).length cc) := hx
                  have HD : Aside0 (cs.drop j = rdL cs j :: cs.drop (j + 1)) := ⟨getD_drop hjt⟩
                  have hmem : rdL cs (j : Int) ∈ cs := by rw [rdL, List.getD_eq_getElem?_getD, Int.toNat_natCast, List.getElem?_eq_getElem hjt]; exact List.getElem_mem hjt
                  have HCR := Aside0.mk (litsE_ok (HALL.out _ hmem)).1
                  clear hmem
                  generalize rdL cs (j : Int) = cl at *
                  have HCC := Aside0.mk hC
                  have HCL := Aside0.mk hl
                  clear hC hl
                  have HUN := Aside0.mk (unit_any A0 cc cl w2.heap.size U wr HCC.out HCL.out HS.out (fun x hx => ⟨by have := HCR.out x hx; omega, by have := HCR.out x hx; omega⟩))
                  cases hu : unitL U 0 cl with
                  | mk x op =>
                    cases op with
                    | false =>
                      have HU := Aside0.mk hu
                      clear hu
                      have HE1 : Aside0 (passL T false cs = passL U ag (cs.drop (j + 1))) := ⟨by rw [HP.out, HD.out, passL, HU.out, if_pos rfl]⟩
                      go_wp2_with ((with_reducible refine (HUN.out).mono ?_); rintro e w3 ⟨rfl, rfl⟩; rw [HU.out])
                      go_roundg k2
                      case measure => omega
                      case rel => exact ⟨j + 1, U, ag, ⟨by have := HJ.out; omega⟩, congrArg (Value.int .i64) (by omega), rfl, HE1, HL, HG, HS, HB⟩
                    | true =>
                      have HU := Aside0.mk hu
                      clear hu
                      by_cases hx0 : x = 0
                      · have d2 : (x == 0) = true := beq_iff_eq.2 hx0
                        have HE1 : Aside0 (passL T false cs = none) := ⟨by rw [HP.out, HD.out, passL, HU.out, if_neg (by simp), if_pos hx0]⟩
                        clear hx0
                        go_wp2_with ((with_reducible refine (HUN.out).mono ?_); rintro e w3 ⟨rfl, rfl⟩; rw [HU.out])
                        go_ret3
                        refine ⟨HW.out.trans (HB.out.mono (Nat.le_of_lt HLT.out)), ?_⟩
                        rw [if_neg (by rw [HCE.out, HZ.out]; simp), if_neg (by rw [HLE.out, HZ1.out]; simp), HE.out]
                        show match forceV cs S with | none => _ | some S => _
                        rw [forceV_eq (HFT.out _ (.stop HE1.out))]
                        rfl
                      · have d2 : (x == 0) = false := beq_eq_false_iff_ne.2 hx0
                        have HUG := Aside0.mk (unit_good HU.out hx0)
                        have HE1 : Aside0 (passL T false cs = passL (put U x) true (cs.drop (j + 1))) := ⟨by rw [HP.out, HD.out, passL, HU.out, if_neg (by simp), if_neg hx0]⟩
                        have HG1 : Aside0 (LGood v (put U x)) := ⟨good_put HG.out hx0 (HCR.out x HUG.out.1).2.1 (HCR.out x HUG.out.1).2.2 HUG.out.2.2⟩
                        clear hx0
                        go_wp2_with (first | ((with_reducible refine (HUN.out).mono ?_); rintro e w3 ⟨rfl, rfl⟩; rw [HU.out]) | (refine wpl_update (by rfl) _ _ _ (by rfl) uMap uInt x (by rfl) (by rfl) HS.out ?_; intro w4 hs3 hg3 hz3; have HS3 := Aside0.mk hs3; have HG3 := Aside0.mk hg3; have HZ3 := Aside0.mk hz3; clear hs3 hg3 hz3))
                        go_roundg k2
                        case measure => omega
                        case rel => exact ⟨j + 1, put U x, true, ⟨by have := HJ.out; omega⟩, congrArg (Value.int .i64) (by omega), rfl, HE1, ⟨by rw [put_len HUG.out.2.1]; have := HL.out.1; omega, fun _ => by rw [put_len HUG.out.2.1]; have := HL.out.1; omega⟩, HG1, HS3, ⟨HB.out.grown HG3.out (Nat.le_of_lt HS.out.lt) (fun k hk => by injection hk with hk; omega)⟩⟩
                · have c1 : decide ((j : Int) < (cs.length : Int)) = false := decide_eq_false (by omega)
                  have HE1 : Aside0 (passL T false cs = some (U, ag)) := ⟨by rw [HP.out, List.drop_of_length_le (by omega)]; rfl⟩
                  clear HP
                  go_wp2
                  go_roundg k1
                  case measure => omega
                  case rel => exact ⟨U, ag, rfl, ⟨fun h => by have h1 := HKQ.out; have h2 := HL.out.2 h; omega⟩, ⟨by
                    cases ag with
                    | true => rw [if_pos rfl]; exact fun R h => HFT.out R (.again HE1.out h)
                    | false => rw [if_neg (by simp)]; exact HFT.out _ (.done HE1.out)⟩, HG, HS, HB⟩
            | false =>
              have HFV : Aside0 (forceV cs S = some T) := ⟨forceV_eq (by have := HF.out; rwa [if_neg (by simp)] at this)⟩
              clear HF HK
              go_wp2_with (refine wpl_range (by rfl) _ _ (by rfl) uMap (by rfl) HS.out ?_; intro w5 hi5 hg5 hz5; have HI5 := Aside0.mk hi5; have HG5 := Aside0.mk hg5; have HZ5 := Aside0.mk hz5; clear hi5 hg5 hz5)
              simp only [Act.put, List.setIfInBounds_toArray, List.set_cons_succ, List.set_cons_zero]
              have HBW : Aside0 (Below w.heap.size w w5) := ⟨(HW.out.trans (HB.out.mono (Nat.le_of_lt HLT.out))).grown HG5.out (by have := HW.out.size; have := HB.out.size; omega) (fun k hk => by cases hk)⟩
              have HTL : Aside0 (T.length ≤ 524289) := ⟨by have := good_len HG.out hv0; omega⟩
              have HNE : Aside0 (w2.heap.size < wo.heap.size) := ⟨HS.out.lt⟩
              go_loopg [18] (T.length) (fun kq v18 w' => ∃ (dn : List Int), Aside0 (dn.length + kq = T.length) ∧ Aside0 (Kd.R (Kd.int .i64) 3 w' w.heap.size (fun _ => True) v18 dn) ∧ Aside0 (IsIter w' wo.heap.size w2.heap.size T dn) ∧ Aside0 (Below w.heap.size w w'))
              case atStart => exact ⟨[], ⟨by simp⟩, ⟨Kd.R_nil _ _ _ _ _⟩, HI5, HBW⟩
              case round =>
                clear HI5 HBW HS HB
                obtain ⟨dn, HDN, HO, HIT, HB⟩ := hrel
                have HN1 : Aside0 (some w2.heap.size ≠ u18.ownBlock) := ⟨own_ne_map HO.out HIT.out.set⟩
                have HN2 : Aside0 (some wo.heap.size ≠ u18.ownBlock) := ⟨own_ne_iter HO.out HIT.out⟩
                go_wp2_with (first | (refine wpl_next (r := wo.heap.size) (b := w2.heap.size) (S := T) (done := dn) (by rfl) _ (by rfl) (by rfl) HIT.out ?_ ?_; (intro hdn; have HDD := Aside0.mk hdn; clear hdn); rotate_left; (intro x w6 hnin hit6 hg6 hz6 hen; have HNI := Aside0.mk hnin; have HIT6 := Aside0.mk hit6; have HG6 := Aside0.mk hg6; have HZ6 := Aside0.mk hz6; clear hnin hit6 hg6 hz6)) | ((with_reducible refine gate_builtin (b := .append) (xs := #[.tmp 77, .tmp 79]) rfl ?_); at_builtin; refine Kd.R_append (Kd.int .i64) (w0 := w) w.heap.size rfl (.tmp 77) (.tmp 79) 25 3 (.int .i64 0) 8 rfl Try.underlying25 info_int rfl (by decide) (by omega) u18 dn x [.int .i64 x] (fun _ => True) (fun _ => False) rfl rfl ?aP (fun _ hk => hk.elim) ?aF ?aO ?aB ?aS ?aL ?_; (case aP => exact rfl); (case aF => exact (fun _ _ => trivial)); (case aO => exact R_int_other HO.out HG6.out HN2.out); (case aB => exact HB.out.grown HG6.out HB.out.size (fun k hk => by injection hk with hk; have := HW.out.size; have := HNE.out; omega)); (case aS => rw [HZ6.out]; exact HB.out.size); (case aL => have := HDN.out; have := HTL.out; omega); intro v1 w9 ho hb hg hat; have HO9 := Aside0.mk ho; have HB9 := Aside0.mk hb; have HG9 := Aside0.mk hg; clear ho hb hg hat))
                · have HSUB := Aside0.mk (HIT6.out.sub)
                  obtain ⟨k1, rfl⟩ : ∃ k1, gk = k1 + 1 := ⟨gk - 1, by have h1 := HDN.out; have h2 := (HSUB.out.1).length_le_of_subset (fun x hx => HSUB.out.2 x hx); simp only [List.length_append, List.length_singleton] at h2; omega⟩
                  go_roundg k1
                  case measure => omega
                  case rel => exact ⟨dn ++ [x], ⟨by have h1 := HDN.out; simp only [List.length_append, List.length_singleton]; omega⟩, HO9, ⟨HIT6.out.grown HG9.out HN1.out HN2.out⟩, HB9⟩
                · have HSUB := Aside0.mk (HIT.out.sub)
                  have HPM := Aside0.mk (perm_of_len HSUB.out.1 HSUB.out.2 HG.out.nodup HDD.out)
                  have HSRT := Aside0.mk (sort_any dn u18 w.heap.size wr HO.out (good_mono (good_perm HG.out HPM.out) hv1))
                  go_wp2_with ((with_reducible refine (HSRT.out).mono ?_); rintro e w7 ⟨rfl, ho7, hg7⟩; have HO7 := Aside0.mk ho7; have HG7 := Aside0.mk hg7; clear ho7 hg7)
                  go_ret3
                  refine ⟨HB.out.grown HG7.out HB.out.size (fun k hk => by obtain ⟨inner, ho⟩ := Kd.R_own HO.out; exact own_base ho k hk), ?_⟩
                  rw [if_neg (by rw [HCE.out, HZ.out]; simp), if_neg (by rw [HLE.out, HZ1.out]; simp), HE.out]
                  show match forceV cs S with | none => _ | some S => _
                  rw [HFV.out]
                  exact ⟨HG.out, u18, rfl, by rw [← sortA_perm HG.out HPM.out]; exact HO7.out⟩
    · have d1 : (litsE l v != 0) = true := bne_iff_ne.2 h1
      have HE := Aside0.mk h1
      clear h1
      generalize hle : litsE l v = le at *
      have HLE := Aside0.mk hle
      clear hle
      go_enter Try.func59, Try.ntmps59
      go_wp2_with (first | ((with_reducible refine (check_any v _ _ cs _ (Kd.C_below HR.out (below_alloc (Below.refl _ _) _)) HC.out).mono ?_); rintro e w1 ⟨rfl, hb1⟩; rw [HCE.out]; have k0 := (hb1.cell (p := ⟨w.heap.size, 0, none⟩) (by simp)).trans (show _ = some (Value.int .i64 v) by simp); have HB1 := Aside0.mk hb1; clear hb1) | ((with_reducible refine (literals_any _ _ l v _ (Kd.C_below (Kd.C_below HR1.out (below_alloc (Below.refl _ _) _)) HB1.out) HC1.out hv0 hv1).mono ?_); rintro e w2 ⟨rfl, hb2⟩; rw [HLE.out]; have HB2 := Aside0.mk hb2; clear hb2))
      go_ret3
      refine ⟨(below_alloc (Below.refl _ _) _).trans ((HB1.out.mono (by simp)).trans (HB2.out.mono (by have := HB1.out.size; simp at this; omega))), ?_⟩
      rw [if_neg (by rw [HCE.out, HZ.out]; simp), if_pos (by rw [HLE.out]; exact HE.out), HLE.out]
      rfl
  · have d0 : ((checkE v cs).2 != 0) = true := bne_iff_ne.2 h0
    have HE := Aside0.mk h0
    clear h0
    generalize hce : checkE v cs = ce at *
    have HCE := Aside0.mk hce
    clear hce
    go_enter Try.func59, Try.ntmps59
    go_wp2_with ((with_reducible refine (check_any v _ _ cs _ (Kd.C_below HR.out (below_alloc (Below.refl _ _) _)) HC.out).mono ?_); rintro e w1 ⟨rfl, hb1⟩; rw [HCE.out]; have HB1 := Aside0.mk hb1; clear hb1)
    go_ret3
    refine ⟨(below_alloc (Below.refl _ _) _).trans (HB1.out.mono (by simp)), ?_⟩
    rw [if_pos (by rw [HCE.out]; exact HE.out), HCE.out]
    rfl

end Go.Proofs.Ytjfmoildblcjiaa.H5
