/- What is proved here: the iterator of a proof's steps. -/
import Derived.Test.YtjfmoildblcjiaaHR
import Derived.Test.YtjfmoildblcjiaaH12
import Derived.RangeFuncBox
import Derived.Shelf.Abstract
import Derived.WalkKit
import Derived.OwnWalkIn
import Derived.TacticsInMore
import Derived.LoopNIn
import Derived.LoopIn
namespace Go.Proofs.Ytjfmoildblcjiaa.H13
open Go.RowKit Go.Proofs.YtjfmoildblcjiaaW.PrintWords Go.Proofs.YtjfmoildblcjiaaW.PrintLast Go.Proofs.YtjfmoildblcjiaaW.PrintMore Go.Proofs.Ytjfmoildblcjiaa.QK Go.Proofs.Ytjfmoildblcjiaa.H1 Go.Proofs.Ytjfmoildblcjiaa.H9 Go.Proofs.Ytjfmoildblcjiaa.H10 Go.Proofs.Ytjfmoildblcjiaa.H11 Go.Proofs.Ytjfmoildblcjiaa.H12 Go.Proofs.Ytjfmoildblcjiaa.HR
open Go.Shelf
attribute [local go_sem] Oper.semAt_some

theorem about_builtin (P : Program) (w : World) (r : Operand → Value) (o : Oper) (b : Builtin) (xs : Array Operand) (ats : Array TypeId) (ho : o.op = .call { callee := .builtin b, args := xs, argTypes := ats }) : o.about P w r = none := by
  simp [Oper.about, ho, resolve, Target.leads]
theorem meas {k n : Nat} (h : k < n) (hn : n ≤ 9223372036854775807) : n - (intOf (.int .i64 (wrap64 ((k : Int) + 1)))).toNat < n - (intOf (.int .i64 (k : Int))).toNat := by
  rw [wrapn h hn]
  show n - (((k + 1 : Nat) : Int)).toNat < n - ((k : Int)).toNat
  rw [Int.toNat_natCast, Int.toNat_natCast]
  omega
theorem KC.drewN (W : World) (n : Nat) : KC W (W.drewN n) := ⟨rfl, rfl, rfl, Nat.le_refl _, fun _ _ h _ => h⟩
theorem SO.kc {w0 w w' : World} {base g : Nat} {v : Int} {cs : List (List Int)} (h : SO w0 base w g v cs) (hk : KC w w') : SO w0 base w' g v cs := by
  obtain ⟨hbg, u, hg, hr⟩ := h
  refine ⟨hbg, u, hk.same _ _ hg rfl, Kd.R_mono (Kd.R_move (Kd.R_bound hr) (fun k hk2 => ?_)) (fun _ _ => trivial)⟩
  obtain ⟨_, _, _, q, _, cells, hc⟩ := hk2
  rw [hc]
  exact hk.same _ _ hc rfl

/-- A line that ends a proof. -/
def isEnd (x : S39) : Bool := !x.f0 && decide ((x.f1.length : Int) = 0)
/-- What do is known to do at a state. -/
def DoAt (w0 : World) (base g : Nat) (s : Int × List (List Int)) (x : S39) (e : Int) (s' : Int × List (List Int)) : Prop :=
  ∀ A c W, SO w0 base W g s.1 s.2 → Below w0.heap.size w0 W → base ≤ W.heap.size → Kd.C (Kd.int .i64) w0 A x.f1.length x.f1 → x.f1.length ≤ c →
    Calls Try.prog 57 #[.pointer (some ⟨g, 0, none⟩), .agg #[.bool x.f0, .slice A x.f1.length c]] W fun e' W' => e' = .returned (.int .i64 e) ∧ Below base W W' ∧ Ke W W' ∧ SO w0 base W' g s'.1 s'.2

/-- The pairs that come. -/
def pairs (er : Nat → Int) (k : Nat) : List (Int × Int) := (List.range k).map fun (i : Nat) => ((i : Int), er i)
theorem pairs_succ (er : Nat → Int) (k : Nat) : pairs er (k + 1) = pairs er k ++ [((k : Int), er k)] := by simp [pairs, List.range_succ]
theorem pairs_length (er : Nat → Int) (k : Nat) : (pairs er k).length = k := by simp [pairs]

set_option maxRecDepth 100000 in
set_option maxHeartbeats 4000000 in
theorem steps1_in (n : Nat) (l b2 b3 g base : Nat) (w0 : World) (A : Option Addr) (c : Nat) (ls : List S39) (st : Nat → Int × List (List Int)) (er : Nat → Int)
    (hr : Kd.C k39 w0 A ls.length ls) (hb0 : w0.heap.size ≤ base) (tp : Nat) (ht1 : tp ≠ 49) (ht2 : tp ≠ 26)
    (J Jx : List (Int × Int) → World → Prop) (hJ : LowK base J) (hJx : LowK base Jx)
    (hG : ∀ k, k ≤ ls.length → ∀ W, J (pairs er k) W → ∀ i, i < k → er i = 0 ∧ isEnd (rd_T39 ls (i : Int)) = false)
    (hdo : ∀ k, k < ls.length → (∀ i, i < k → er i = 0 ∧ isEnd (rd_T39 ls (i : Int)) = false) → DoAt w0 base g (st k) (rd_T39 ls (k : Int)) (er k) (st (k + 1)))
    (hY : ∀ k W1, k < ls.length → J (pairs er k) W1 → YieldAt Fence.wide (n - 1) Try.prog l #[.int .i64 (k : Int), .int .i64 (er k)] W1 fun e W' =>
      (e = .returned (.bool true) ∧ J (pairs er (k + 1)) W' ∧ KC W1 W' ∧ Below base W1 W') ∨ (e = .returned (.bool false) ∧ Jx (pairs er (k + 1)) W'))
    (W : World) (hW : Below w0.heap.size w0 W) (hbW : base ≤ W.heap.size) (hc3 : W.cell? ⟨b3, 0, none⟩ = some (.slice A ls.length c)) (hc2 : W.heap[b2]? = some (.cells #[.pointer (some ⟨g, 0, none⟩)] tp (0, 0)))
    (hS : SO w0 base W g (st 0).1 (st 0).2) (h0 : J [] W) :
    CallsIn Fence.wide n Try.prog 56 #[.func (.yield l) #[] #[], .pointer (some ⟨b3, 0, none⟩), .pointer (some ⟨b2, 0, none⟩)] W fun e W' => (∃ v, e = .returned v) ∧
      ((∃ xs, xs = pairs er ls.length ∧ J xs W') ∨ (∃ pre, (∃ k, k < ls.length ∧ pre = pairs er (k + 1)) ∧ Jx pre W')) := by
  have HR := Aside0.mk hr
  have HB0 := Aside0.mk hb0
  have HM := Aside0.mk (Kd.C_max hr)
  have HG := Aside0.mk hG
  have HDO := Aside0.mk hdo
  have HY := Aside0.mk hY
  have HW := Aside0.mk hW
  have HBW := Aside0.mk hbW
  have HSS := Aside0.mk hS
  have HJ := Aside0.mk hJ
  have HJX := Aside0.mk hJx
  have HJ0 := Aside0.mk h0
  clear hr hb0 hG hdo hY hW hbW hS hJ hJx h0
  have HC2 := Aside0.mk hc2
  have HT1 := Aside0.mk ht1
  have HT2 := Aside0.mk ht2
  clear hc2 ht1 ht2
  refine callsIn_of_wp Try.func56 rfl trivial ?_ rfl
  simp only [Try.ntmps56, List.size_toArray, List.length_cons, List.length_nil, Nat.reduceAdd, Nat.reduceSub, Array.replicate_succ, Array.replicate_zero, List.push_toArray, List.append_toArray, List.nil_append, List.cons_append]
  gi_wp2
  gi_loopw [8] (fun i wr => ∃ k : Nat, Aside0 (k ≤ ls.length) ∧ i = .int .i64 (k : Int) ∧ Aside0 (J (pairs er k) wr) ∧ Aside0 (Below base W wr) ∧ Aside0 (SO w0 base wr g (st k).1 (st k).2) ∧ Aside0 (wr.heap[b2]? = some (.cells #[.pointer (some ⟨g, 0, none⟩)] tp (0, 0))))
    (fun i _ => ls.length - (intOf i).toNat)
  case atStart => exact ⟨0, ⟨Nat.zero_le _⟩, rfl, HJ0, ⟨Below.refl _ _⟩, HSS, HC2⟩
  case round =>
    clear HSS HJ0 HC2
    obtain ⟨k, HK, rfl, HJk, HB, HS, HP⟩ := hrel
    by_cases hlt : k < ls.length
    · have d0 : decide ((k : Int) < (ls.length : Int)) = true := decide_eq_true (by omega)
      have HW0 : Aside0 (Below w0.heap.size w0 wr) := ⟨HW.out.trans (HB.out.mono HB0.out)⟩
      obtain ⟨ad, A1, c1, e1, hx0, hx1, hl1, hC1⟩ := at_T39 HR.out (k : Int) (by omega) (by omega)
      cases e1
      have hx0 : wr.cell? (ad.add (k * 2)) = some (.bool (rd_T39 ls (k : Int)).f0) := pw_cell_below HW0.out hx0
      have hx1 : wr.cell? ⟨(ad.add (k * 2)).block, (ad.add (k * 2)).off + 1, none⟩ = some (.slice A1 (rd_T39 ls (k : Int)).f1.length c1) := pw_cell_below HW0.out hx1
      have HGO := Aside0.mk (HG.out k HK.out wr HJk.out)
      have HDK := Aside0.mk (HDO.out k hlt HGO.out)
      have hgk1 := fun W3 => HG.out (k + 1) hlt W3
      have HGK : Aside0 (∀ W3, J (pairs er (k + 1)) W3 → isEnd (rd_T39 ls (k : Int)) = false) := ⟨fun W3 h => (hgk1 W3 h k (Nat.lt_succ_self k)).2⟩
      have HL1 := Aside0.mk hl1
      have HCW : Aside0 (Kd.C (Kd.int .i64) w0 A1 (rd_T39 ls (k : Int)).f1.length (rd_T39 ls (k : Int)).f1) := ⟨hC1⟩
      have HLB : Aside0 (base ≤ wr.heap.size) := ⟨Nat.le_trans HBW.out HB.out.size⟩
      have hp2 : ∀ o, (wr.alloc o).cell? ⟨b2, 0, none⟩ = some (.pointer (some ⟨g, 0, none⟩)) := fun o => by have h := (Below.heap_alloc wr o b2 (Array.getElem?_eq_some_iff.1 HP.out).1).trans HP.out; simp only [World.cell?, h]; rfl
      clear hgk1 hC1 hl1
      generalize rd_T39 ls (k : Int) = x at *
      obtain ⟨x0, xc⟩ := x
      dsimp only at *
      gi_wp2_with (refine ⟨trivial, (fun h => by cases h), ?_⟩; refine (callsIn_wide.2 (HDK.out A1 c1 _ ?s1 ?s2 ?s3 HCW.out HL1.out)).mono ?_; (case s1 => exact HS.out.below (below_alloc (Below.refl _ _) _)); (case s2 => exact HW0.out.trans ((below_alloc (Below.refl _ _) _).mono HW0.out.size)); (case s3 => simp; exact Nat.le_succ_of_le HLB.out); rintro e w1 ⟨rfl, hb1, hk1, hs1⟩; have HB1 := Aside0.mk hb1; have HK1 := Aside0.mk hk1; have HS1 := Aside0.mk hs1; obtain ⟨fn, tmps, assign, body, hy, hR⟩ := HY.out k w1 hlt (HJ.out _ _ _ HJk.out (((Below.refl base wr).alloc HLB.out _).trans hb1) ((KeepsOthers.alloc _ _).trans hk1.ko)); have HRR := Aside0.mk hR; clear hb1 hk1 hs1 hR)
      refine ⟨(fun h => by cases h), HRR.out.mono ?_⟩
      have hB5 : w1.heap[wr.heap.size]? = some (.cells #[.bool x0, .slice A1 xc.length c1] 39 (0, 0)) := HK1.out.kt _ _ _ (heap_pair wr _ _ _) (by decide) (by decide)
      rintro e W3 (⟨rfl, hJ3, hk3, hb3⟩ | ⟨rfl, hJx3⟩)
      · have hE := HGK.out W3 hJ3
        have hB6 : W3.heap[wr.heap.size]? = some (.cells #[.bool x0, .slice A1 xc.length c1] 39 (0, 0)) := hk3.same _ _ hB5 rfl
        have hz0 : W3.cell? ⟨wr.heap.size, 0, none⟩ = some (.bool x0) := by simp [World.cell?, hB6]
        have hz1 : W3.cell? ⟨wr.heap.size, 1, none⟩ = some (.slice A1 xc.length c1) := by simp [World.cell?, hB6]
        have HJ3 := Aside0.mk hJ3
        have HB3 : Aside0 (Below base W W3) := ⟨((HB.out.trans ((Below.refl base wr).alloc HLB.out _)).trans HB1.out).trans hb3⟩
        have HS3 := Aside0.mk (SO.kc HS1.out hk3)
        have HP3 := Aside0.mk (hk3.same _ _ (HK1.out.kt _ _ _ ((Below.heap_alloc wr _ b2 (Array.getElem?_eq_some_iff.1 HP.out).1).trans HP.out) HT1.out HT2.out) rfl)
        clear hJ3 hk3 hb3 hB5 hB6
        cases x0 with
        | true =>
          gi_wp2_with (refine wpListIn_skip (by rfl) ?sa ?_; (case sa => first | exact about_builtin _ _ _ _ _ _ _ rfl | rfl))
          go_roundw
          case rel => exact ⟨k + 1, ⟨hlt⟩, congrArg (Value.int .i64) (wrapn hlt HM.out), HJ3, HB3, HS3, HP3⟩
          case measure => exact meas hlt HM.out
        | false =>
          have d1 : ((xc.length : Int) == 0) = false := by simpa [isEnd] using hE
          gi_wp2
          go_roundw
          case rel => exact ⟨k + 1, ⟨hlt⟩, congrArg (Value.int .i64) (wrapn hlt HM.out), HJ3, HB3, HS3, HP3⟩
          case measure => exact meas hlt HM.out
      · gi_wp2_with (refine wpListIn_skip (by rfl) ?sa ?_; (case sa => first | exact about_builtin _ _ _ _ _ _ _ rfl | rfl))
        refine bodyPost_ret (results_none rfl _ _ _) rfl ?_
        exact ⟨⟨_, rfl⟩, .inr ⟨_, ⟨k, hlt, rfl⟩, hJx3⟩⟩
    · have d0 : decide ((k : Int) < (ls.length : Int)) = false := decide_eq_false (by omega)
      obtain rfl : k = ls.length := by have := HK.out; omega
      gi_wp2
      go_end0
      exact ⟨⟨_, rfl⟩, .inl ⟨_, rfl, HJk.out⟩⟩
end Go.Proofs.Ytjfmoildblcjiaa.H13
