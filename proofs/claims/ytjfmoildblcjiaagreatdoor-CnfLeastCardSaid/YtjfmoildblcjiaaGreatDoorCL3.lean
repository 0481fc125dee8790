/- The statement CnfLeast of layer 14 is proved, with its card. (part 3 of 5) No condition. -/
import Derived.Test.YtjfmoildblcjiaaGreatDoorCL2
import Derived.Test.YtjfmoildblcjiaaGreatDoorProg
import Derived.Below
import Derived.Deep.Draws
import Derived.Deep.AppendLies
import Derived.Maps.AppendAt
import Derived.OwnWalk
import Derived.Laws.BytesArg
import Derived.Laws.MakeOwn
import Derived.Laws.OwnMore
import Derived.Deep.OwnRows
import Derived.Tactics
import Derived.Lib.ConvBytes
import Derived.Laws.Slices
import Derived.WalkKit
import Derived.KernelRfl
import Derived.RowKit3
import Derived.Deep.LoopGhost
import Derived.Deep.QuietTactic
import Derived.BigQuiet
import Derived.WideLaws
import Derived.Deep.DeepCutAuto
import Derived.Deep.CutBlock
import Derived.Deep.RegionHeld3
import Derived.Laws.Rows
import Derived.Lib.AppendStr
import Derived.ArgAppend
import Derived.Laws.IdiomCopy
import Derived.OrdersHeld
import Derived.Laws.BitsLemmas
import Derived.RowKit
import Derived.Test.YtjfmoildblcjiaaGreatDoorWWords
import Derived.Test.YtjfmoildblcjiaaGreatDoorWLast
import Derived.Test.YtjfmoildblcjiaaGreatDoorWTab
import Derived.Test.YtjfmoildblcjiaaGreatDoorWFour
import Derived.Test.YtjfmoildblcjiaaGreatDoorWQPut
import Derived.Test.YtjfmoildblcjiaaGreatDoorWApart
import Derived.Test.YtjfmoildblcjiaaGreatDoorWArr
import Derived.Test.YtjfmoildblcjiaaGreatDoorWZeros
import Derived.Test.YtjfmoildblcjiaaGreatDoorWFoot
import Derived.Test.YtjfmoildblcjiaaGreatDoorWKept
import Derived.Test.YtjfmoildblcjiaaGreatDoorWShare
import Derived.Test.YtjfmoildblcjiaaGreatDoorWN
import Derived.Test.YtjfmoildblcjiaaGreatDoorWFootNe
import Derived.Test.YtjfmoildblcjiaaGreatDoorWAt
import Derived.Test.YtjfmoildblcjiaaGreatDoorWEqStruct
import Derived.Test.YtjfmoildblcjiaaGreatDoorWRepsOne
import Derived.Test.YtjfmoildblcjiaaGreatDoorWInv
import Derived.Test.YtjfmoildblcjiaaGreatDoorWInvWords
import Derived.Test.YtjfmoildblcjiaaGreatDoorWGuard
import Derived.Test.YtjfmoildblcjiaaGreatDoorWNEv
import Derived.Test.YtjfmoildblcjiaaGreatDoorWMore

section
/- What is proved here: the contract of cnf.Parse. -/
namespace Go.Proofs.YtjfmoildblcjiaaGreatDoor.P8
open Go.RowKit Go.Proofs.YtjfmoildblcjiaaGreatDoorW.PrintWords Go.Proofs.YtjfmoildblcjiaaGreatDoorW.PrintLast Go.Proofs.YtjfmoildblcjiaaGreatDoorW.PrintMore Go.Proofs.YtjfmoildblcjiaaGreatDoor.H1 Go.Proofs.YtjfmoildblcjiaaGreatDoor.P1 Go.Proofs.YtjfmoildblcjiaaGreatDoor.P2 Go.Proofs.YtjfmoildblcjiaaGreatDoor.P3 Go.Proofs.YtjfmoildblcjiaaGreatDoor.P4 Go.Proofs.YtjfmoildblcjiaaGreatDoor.P5 Go.Proofs.YtjfmoildblcjiaaGreatDoor.P6 Go.Proofs.YtjfmoildblcjiaaGreatDoor.P7

def comment (p : List UInt8) : Bool := decide (p = [99]) || Lib.hasPrefix p [99, 32]
def rd0 : Rd := ⟨0, [], 0, [], false⟩
def endL (l : List UInt8) (s : Rd) (b : Bool) : Int × List (List Int) × Int × Int :=
  if b = false then (0, [], (l.length : Int), 140) else if s.op = true then (0, [], (l.length : Int), 41) else if (s.cs.length : Int) < s.many then (0, [], (l.length : Int), 41) else (s.v, s.cs, 0, 0)
def parseL (l : List UInt8) (s : Rd) (b : Bool) (i : Nat) : Int × List (List Int) × Int × Int :=
  if h : i < l.length then
    if comment (befC 10 (l.drop i)) = true then parseL l s b (i + ((befC 10 (l.drop i)).length + 1))
    else if b = true then
      if (lineL (befC 10 (l.drop i)) i s 0).2 ≠ (0, 0) then (0, [], (lineL (befC 10 (l.drop i)) i s 0).2.1, (lineL (befC 10 (l.drop i)) i s 0).2.2)
      else parseL l (lineL (befC 10 (l.drop i)) i s 0).1 true (i + ((befC 10 (l.drop i)).length + 1))
    else if (problemL (befC 10 (l.drop i))).2.2 = false then (0, [], (i : Int), 140)
    else parseL l { s with v := (problemL (befC 10 (l.drop i))).1, many := (problemL (befC 10 (l.drop i))).2.1 } true (i + ((befC 10 (l.drop i)).length + 1))
  else endL l s b
termination_by l.length - i
def parseF (l : List UInt8) : Int × List (List Int) × Int × Int := if (l.length : Int) > 262144 then (0, [], 0, 2) else parseL l rd0 false 0

theorem befC_no {c : UInt8} : ∀ (l : List UInt8), c ∉ befC c l
  | [] => by simp [befC]
  | b :: r => by
    unfold befC
    by_cases e : b = c
    · rw [List.takeWhile_cons_of_neg (by simp [e])]; simp
    · rw [List.takeWhile_cons_of_pos (by simpa using e)]
      intro h
      rcases List.mem_cons.1 h with h | h
      · exact e h.symm
      · exact befC_no r h
/-- Words that are too long for a number want strconv's errors. -/
def ShortT (l : List UInt8) (w : World) : Prop := (∀ i j, i ≤ j → j ≤ l.length → (∀ k (hk : k < l.length), i ≤ k → k < j → P5.blank l[k] = false ∧ l[k] ≠ 10) → j - i ≤ 18) ∨ EVs w
theorem shorts_line {l : List UInt8} {w : World} {base : Nat} (h : ShortT l w) (hg : EVs w → 3 < base) (a : Nat) : ShortsB (befC 10 (l.drop a)) base w := by
  rcases h with h | h
  · left
    intro i j hij hj hb
    have hle := befC_le 10 (l.drop a)
    rw [List.length_drop] at hle
    rcases Nat.lt_or_ge i j with hlt | hge
    · have := h (a + i) (a + j) (by omega) (by omega) (fun k hk h1 h2 => by
        have hk2 : k - a < (befC 10 (l.drop a)).length := by omega
        have e : (befC 10 (l.drop a))[k - a] = l[k] := by
          have h3 : (befC 10 (l.drop a))[k - a]? = l[k]? := by
            rw [← befC_take, List.getElem?_take, if_pos hk2, List.getElem?_drop, Nat.add_sub_cancel' (by omega)]
          rw [List.getElem?_eq_getElem hk2, List.getElem?_eq_getElem hk] at h3
          exact Option.some.inj h3
        refine ⟨e ▸ hb (k - a) hk2 (by omega) (by omega), fun h10 => ?_⟩
        have hm : (befC 10 (l.drop a))[k - a] ∈ befC 10 (l.drop a) := List.getElem_mem hk2
        rw [e, h10] at hm
        exact befC_no _ hm)
      omega
    · omega
  · exact .inr ⟨h, hg h⟩
theorem shorts_b {l : List UInt8} {base : Nat} {w : World} (h : ShortsB l base w) : Shorts l w := h.imp id (fun h => h.1)
theorem ShortT.mono {l : List UInt8} {base : Nat} {w w' : World} (h : ShortT l w) (hb : Below base w w') (hg : EVs w → 3 < base) : ShortT l w' := h.imp id (fun e => EVs_mono e hb (hg e))
theorem wholeN_nonneg {l : List UInt8} (h : wholeB l = true) (h45 : l.head? ≠ some 45) : 0 ≤ wholeN l := by
  unfold wholeN
  rw [atoi_digs h, if_neg h45]
  rcases parseUint_dig (digs l) 0 (whole_parts h).2 with ⟨u, hp⟩ | hp <;> rw [hp]
  case inr => show (0 : Int) ≤ 1099511627776; decide
  case inl =>
    rw [Lib.signless]
    by_cases hu : 9223372036854775808 ≤ u
    · rw [if_pos hu]; show (0 : Int) ≤ 1099511627776; decide
    · rw [if_neg hu]; show (0 : Int) ≤ (u : Int); omega
theorem countN_good {l : List UInt8} {m : Int} (hm : 0 ≤ m) : 0 ≤ (countN l m).1 ∧ (countN l m).1 ≤ m := by
  unfold countN
  split
  · exact ⟨Int.le_refl _, hm⟩
  · rename_i hb
    split
    · exact ⟨Int.le_refl _, hm⟩
    · rename_i h45
      split
      · exact ⟨Int.le_refl _, hm⟩
      · rename_i hle
        exact ⟨wholeN_nonneg (by simpa using hb) h45, by omega⟩
theorem problem_good (l : List UInt8) : RGood { rd0 with v := (problemL l).1, many := (problemL l).2.1 } := by
  have key : 0 ≤ (problemL l).1 ∧ (problemL l).1 ≤ 262144 ∧ 0 ≤ (problemL l).2.1 ∧ (problemL l).2.1 ≤ 524288 := by
    unfold problemL
    generalize splitC 32 (l.count 32) l = ps
    by_cases h : ps.length = 4
    · match ps, h with
      | [p0, p1, p2, p3], _ =>
        have h2 := countN_good (l := p2) (m := 262144) (by decide)
        have h3 := countN_good (l := p3) (m := 524288) (by decide)
        rw [problemW]
        split
        · decide
        · split
          · decide
          · split
            · decide
            · exact ⟨h2.1, h2.2, h3.1, h3.2⟩
    · rw [problemW_not h]; decide
  exact ⟨key.1, key.2.1, key.2.2.2, key.2.2.1, (fun h => by cases h), Nat.zero_le _, fun _ => rfl⟩
theorem good0 : RGood rd0 := ⟨by decide, by decide, by decide, by decide, (fun h => by cases h), by decide, fun _ => rfl⟩

theorem three {w : World} (a b c d x1 x2 x3 x4 x5 : Value) (t1 t2 t3 : Nat) :
    (((w.alloc (.cells #[a, b] t1)).alloc (.cells #[c, d] t2)).alloc (.cells #[x1, x2, x3, x4, x5] t3)).heap[w.heap.size]? = some (.cells #[a, b] t1 (0, 0)) ∧
    (((w.alloc (.cells #[a, b] t1)).alloc (.cells #[c, d] t2)).alloc (.cells #[x1, x2, x3, x4, x5] t3)).heap[w.heap.size + 1]? = some (.cells #[c, d] t2 (0, 0)) ∧
    (((w.alloc (.cells #[a, b] t1)).alloc (.cells #[c, d] t2)).alloc (.cells #[x1, x2, x3, x4, x5] t3)).heap[w.heap.size + 1 + 1]? = some (.cells #[x1, x2, x3, x4, x5] t3 (0, 0)) := by
  have h : (((w.alloc (.cells #[a, b] t1)).alloc (.cells #[c, d] t2)).alloc (.cells #[x1, x2, x3, x4, x5] t3)).heap = ((w.heap.push (.cells #[a, b] t1 (0, 0))).push (.cells #[c, d] t2 (0, 0))).push (.cells #[x1, x2, x3, x4, x5] t3 (0, 0)) := rfl
  rw [h]
  refine ⟨?_, ?_, ?_⟩
  · rw [Array.getElem?_push, if_neg (by simp only [Array.size_push]; omega), Array.getElem?_push, if_neg (by simp only [Array.size_push]; omega), Array.getElem?_push, if_pos rfl]
  · rw [Array.getElem?_push, if_neg (by simp only [Array.size_push]; omega), Array.getElem?_push, if_pos (by simp only [Array.size_push])]
  · rw [Array.getElem?_push, if_pos (by simp only [Array.size_push])]

theorem RdS_setProb {w : World} {base g : Nat} {s : Rd} (h : RdS w base g s) (v m : Int) : RdS ((w.setCell ⟨g, 0, none⟩ (.int .i64 v)).setCell ⟨g, 2, none⟩ (.int .i64 m)) base g { s with v := v, many := m } := by
  obtain ⟨h0, u, n, hg, hs, hr⟩ := h
  have h1 := blk_set hg 0 (.int .i64 v)
  exact ⟨h0, u, n, by simpa using blk_set h1 2 (.int .i64 m), Kd.S_set (Kd.S_set hs hg E_cl 0 _) h1 E_cl 2 _, Kd.R_set (Kd.R_set hr hg E_in 0 _) h1 E_in 2 _⟩
theorem prefix_any (a b : ByteArray) (w : World) : Calls Tryz.prog 46 #[.string a, .string b] w fun e w' => e = .returned (.bool (Lib.hasPrefix a.data.toList b.data.toList)) ∧ Drawn0 w w' := QP.strings_HasPrefix.calls a b _ w (hasPre a b)
def fin4 (W : World) (b0 b1 : Nat) (a b c d : Value) : World := (((W.setCell ⟨b0, 0, none⟩ a).setCell ⟨b0, 1, none⟩ b).setCell ⟨b1, 0, none⟩ c).setCell ⟨b1, 1, none⟩ d
theorem fin4_cells {W : World} {b0 b1 t0 t1 : Nat} {z0 z1 z2 z3 : Value} (h0 : W.heap[b0]? = some (.cells #[z0, z1] t0 (0, 0))) (h1 : W.heap[b1]? = some (.cells #[z2, z3] t1 (0, 0))) (hne : b0 ≠ b1) (a b c d : Value) :
    (fin4 W b0 b1 a b c d).cell? ⟨b0, 0, none⟩ = some a ∧ (fin4 W b0 b1 a b c d).cell? ⟨b0, 1, none⟩ = some b ∧ (fin4 W b0 b1 a b c d).cell? ⟨b1, 0, none⟩ = some c ∧ (fin4 W b0 b1 a b c d).cell? ⟨b1, 1, none⟩ = some d := by
  unfold fin4
  have e0 : ((W.setCell ⟨b0, 0, none⟩ a).setCell ⟨b0, 1, none⟩ b).heap[b0]? = some (.cells #[a, b] t0 (0, 0)) := by simpa using blk_set (blk_set h0 0 a) 1 b
  have e1 : ((W.setCell ⟨b0, 0, none⟩ a).setCell ⟨b0, 1, none⟩ b).heap[b1]? = some (.cells #[z2, z3] t1 (0, 0)) := blk_far (blk_far h1 (by exact fun e => hne e.symm) _) (by exact fun e => hne e.symm) _
  have f0 := blk_far (blk_far e0 (p := ⟨b1, 0, none⟩) (by exact hne) c) (p := ⟨b1, 1, none⟩) (by exact hne) d
  have f1 : ((((W.setCell ⟨b0, 0, none⟩ a).setCell ⟨b0, 1, none⟩ b).setCell ⟨b1, 0, none⟩ c).setCell ⟨b1, 1, none⟩ d).heap[b1]? = some (.cells #[c, d] t1 (0, 0)) := by simpa using blk_set (blk_set e1 0 c) 1 d
  exact ⟨(blk_cell f0 0).trans rfl, (blk_cell f0 1).trans rfl, (blk_cell f1 0).trans rfl, (blk_cell f1 1).trans rfl⟩
theorem fin4_below {B : Nat} {w W : World} {b0 b1 : Nat} (h : Below B w W) (h0 : B ≤ b0) (h1 : B ≤ b1) (a b c d : Value) : Below B w (fin4 W b0 b1 a b c d) := (((h.setCell h0 _).setCell h0 _).setCell h1 _).setCell h1 _
theorem fin4_S {W : World} {base b0 b1 : Nat} {ok : Nat → Prop} {z0 z1 z2 z3 : Value} {u : Value} {xs : List (List Int)} (hs : Kd.S (Kd.slice 3 (Kd.int .i64)) 65 W base ok u xs)
    (h0 : W.heap[b0]? = some (.cells #[z0, z1] 24 (0, 0))) (h1 : W.heap[b1]? = some (.cells #[z2, z3] 27 (0, 0))) (hne : b0 ≠ b1) (a b c d : Value) :
    Kd.S (Kd.slice 3 (Kd.int .i64)) 65 (fin4 W b0 b1 a b c d) base ok u xs := by
  have e : ∀ t, t = 24 ∨ t = 27 → ∀ q, q ∈ 65 :: (Kd.slice 3 (Kd.int .i64)).E → q ≠ t := by
    intro t ht q hq
    simp only [Kd.slice, Kd.int, Kd.scalar, List.mem_cons, List.not_mem_nil, or_false] at hq
    rcases ht with rfl | rfl <;> rcases hq with rfl | rfl <;> decide
  have f0 := blk_set h0 0 a
  have e1 : ((W.setCell ⟨b0, 0, none⟩ a).setCell ⟨b0, 1, none⟩ b).heap[b1]? = _ := blk_far (blk_far h1 (by exact fun e => hne e.symm) _) (by exact fun e => hne e.symm) _
  exact Kd.S_set (Kd.S_set (Kd.S_set (Kd.S_set hs h0 (e _ (.inl rfl)) 0 _) f0 (e _ (.inl rfl)) 1 _) e1 (e _ (.inr rfl)) 0 _) (blk_set e1 0 c) (e _ (.inr rfl)) 1 _
/-- What Parse answers. -/
def ParsePost (r : Int × List (List Int) × Int × Int) (w : World) (e : Ending) (w' : World) : Prop :=
  ∃ u, e = .returned (.tuple #[.agg #[.int .i64 r.1, u], .agg #[.int .i64 r.2.2.1, .int .i64 r.2.2.2]]) ∧ Kd.S (Kd.slice 3 (Kd.int .i64)) 65 w' w.heap.size (fun _ => True) u r.2.1 ∧ Below w.heap.size w w'

set_option maxHeartbeats 4000000 in
set_option maxRecDepth 100000 in
theorem parse_any (x : ByteArray) (w : World) (he : ShortT x.data.toList w) : Calls Tryz.prog 12 #[.string x] w (ParsePost (parseF x.data.toList) w) := by
  by_cases hlong : (x.size : Int) > 262144
  · have c0 : decide ((x.size : Int) > 262144) = true := decide_eq_true hlong
    have HN : Aside0 (parseF x.data.toList = (0, [], 0, 2)) := ⟨by unfold parseF; rw [if_pos (by rw [data_length]; exact hlong)]⟩
    clear hlong he
    go_enter Tryz.func12, Tryz.ntmps12
    go_wp2
    refine bodyPost_ret (v := .tuple #[.agg #[.int .i64 0, .slice none 0 0], .agg #[.int .i64 0, .int .i64 2]]) ?_ rfl ?_
    · simp [results, Tryz.results12, go_sem]
    · rw [HN.out]
      exact ⟨_, rfl, Kd.S_nil _ _ _ _ _, by repeat (first | exact Below.refl _ _ | apply below_alloc | apply below_set)⟩
  · have c0 : decide ((x.size : Int) > 262144) = false := decide_eq_false hlong
    have HX : Aside0 (x.size ≤ 262144) := ⟨by omega⟩
    have HPF : Aside0 (parseF x.data.toList = parseL x.data.toList rd0 false 0) := ⟨by unfold parseF; rw [if_neg (by rw [data_length]; exact hlong)]⟩
    have HE := Aside0.mk he
    have HGB : Aside0 (EVs w → 3 < w.heap.size) := ⟨fun h => by obtain ⟨ev, h1, _⟩ := h; exact World.block_lt_of_cell? w _ h1⟩
    clear hlong he
    go_enter Tryz.func12, Tryz.ntmps12
    go_wp2
    obtain ⟨W3, hW3⟩ : ∃ W3, W3 = (((w.alloc (Obj.cells #[.int .i64 0, .slice none 0 0] 24)).alloc (Obj.cells #[.int .i64 0, .int .i64 0] 27)).alloc (Obj.cells #[.int .i64 0, .slice none 0 0, .int .i64 0, .slice none 0 0, .bool false] 67)) := ⟨_, rfl⟩
    rw [← hW3]
    have h3 := three (w := w) (.int .i64 0) (.slice none 0 0) (.int .i64 0) (.int .i64 0) (.int .i64 0) (.slice none 0 0) (.int .i64 0) (.slice none 0 0) (.bool false) 24 27 67
    rw [← hW3] at h3
    have HH0 := Aside0.mk h3.1
    have HH1 := Aside0.mk h3.2.1
    have HB3 : Aside0 (Below w.heap.size w W3) := ⟨by rw [hW3]; exact below_alloc (below_alloc (below_alloc (Below.refl _ _) _) _) _⟩
    have HS3 : Aside0 (RdS W3 w.heap.size (w.heap.size + 1 + 1) rd0) := ⟨⟨by omega, .slice none 0 0, .slice none 0 0, h3.2.2, Kd.S_nil _ _ _ _ _, Kd.R_nil _ _ _ _ _⟩⟩
    clear hW3 h3
    go_loopg [5, 6] (x.size + 1) (fun kq v5 v6 w' => ∃ (i : Nat) (st : Rd) (b : Bool), Aside0 (i + kq = x.size + 1) ∧ v5 = .bool b ∧ v6 = .int .i64 (i : Int) ∧ Aside0 (parseF x.data.toList = parseL x.data.toList st b i) ∧ Aside0 (b = false → st = rd0) ∧ Aside0 (RdS w' w.heap.size (w.heap.size + 1 + 1) st) ∧ Aside0 (RGood st) ∧ Aside0 (Below w.heap.size w w') ∧
      Aside0 (w'.heap[w.heap.size]? = some (.cells #[.int .i64 0, .slice none 0 0] 24 (0, 0))) ∧ Aside0 (w'.heap[w.heap.size + 1]? = some (.cells #[.int .i64 0, .int .i64 0] 27 (0, 0))))
    case atStart => exact ⟨0, rd0, false, ⟨by omega⟩, rfl, rfl, HPF, ⟨fun _ => rfl⟩, HS3, ⟨good0⟩, HB3, HH0, HH1⟩
    case round =>
      clear HH0 HH1 HB3 HS3 HPF
      obtain ⟨i, st, b, HI, rfl, rfl, HA, HB0, HSt, HGt, HBt, HH0, HH1⟩ := hrel
      obtain ⟨wo, rfl⟩ : ∃ wo : World, wo = wr := ⟨_, rfl⟩
      by_cases hlt : i < x.size
      · have c1 : decide ((i : Int) < (x.size : Int)) = true := decide_eq_true (by omega)
        have q1 : ((i : Int) < (x.size : Int)) = True := eq_true (by omega)
        have q2 : ((i : Int) ≤ (x.size : Int)) = True := eq_true (by omega)
        have q3 : (0 ≤ (i : Int)) = True := eq_true (by omega)
        have hi : (i : Int) ≤ 262144 := by have := HX.out; omega
        obtain ⟨p, hp⟩ : ∃ p, p = befC 10 (x.data.toList.drop i) := ⟨_, rfl⟩
        have hpl : p.length ≤ x.size - i := by rw [hp]; have := befC_le 10 (x.data.toList.drop i); rwa [List.length_drop, data_length] at this
        have HPL := Aside0.mk hpl
        have HCUT : Aside0 (∀ W, Calls Tryz.prog 45 #[.string (x.extract i x.size), .string ⟨#[10]⟩] W fun e w' => (∃ a b : ByteArray, e = .returned (.tuple #[.string a, .string b, .bool (decide (10 ∈ (x.extract i x.size).data.toList))]) ∧ a.data.toList = p) ∧ Drawn0 W w') := ⟨fun W =>
          (cut1 (x.extract i x.size) 10 W (by rw [ByteArray.size_extract]; have := HX.out; omega)).mono fun e w' ⟨⟨a, b, h1, h2⟩, h3⟩ => ⟨⟨a, b, h1, by rw [h2, Lib.extract_to_end, hp]⟩, h3⟩⟩
        have HSHP : Aside0 (∀ W, Below wo.heap.size wo W → ShortsB p w.heap.size W) := ⟨fun W hW => by
          rw [hp]
          exact (shorts_line HE.out HGB.out i).imp id (fun h => ⟨(EVs_mono h.1 HBt.out h.2).below hW, h.2⟩)⟩
        have HLT := Aside0.mk hlt
        have hLL : i < x.data.toList.length := by rw [data_length]; exact hlt
        have HA1 : Aside0 (comment p = true → parseF x.data.toList = parseL x.data.toList st b (i + (p.length + 1))) := ⟨fun h => by rw [HA.out, parseL, dif_pos hLL, ← hp, if_pos h]⟩
        have HA2 : Aside0 (comment p = false → b = true → parseF x.data.toList = if (lineL p i st 0).2 ≠ (0, 0) then (0, [], (lineL p i st 0).2.1, (lineL p i st 0).2.2) else parseL x.data.toList (lineL p i st 0).1 true (i + (p.length + 1))) := ⟨fun h hb => by rw [HA.out, parseL, dif_pos hLL, ← hp, if_neg (by rw [h]; decide), if_pos hb]⟩
        have HA3 : Aside0 (comment p = false → b = false → parseF x.data.toList = if (problemL p).2.2 = false then (0, [], (i : Int), 140) else parseL x.data.toList { st with v := (problemL p).1, many := (problemL p).2.1 } true (i + (p.length + 1))) := ⟨fun h hb => by rw [HA.out, parseL, dif_pos hLL, ← hp, if_neg (by rw [h]; decide), if_neg (by rw [hb]; decide)]⟩
        clear hlt hLL hpl hp
        cases hco : comment p with
        | true =>
          have HN := Aside0.mk (HA1.out hco)
          clear HA1 HA2 HA3
          by_cases hp1 : p = [99]
          · have HP1 := Aside0.mk hp1
            clear hp1 hco
            go_wp2_with ((with_reducible refine (HCUT.out _).mono ?_); rintro e w1 ⟨⟨a, b1, rfl, hA⟩, ⟨m, rfl⟩⟩; have da : (a.toList == [99]) = true := (by rw [beq_iff_eq, Lib.toList_data, hA]; exact HP1.out); have HAS : Aside0 (a.size = p.length) := ⟨by rw [← data_length, hA]⟩; have has : (a.size : Int) ≤ 262144 := (by have h1 := HAS.out; have h2 := HPL.out; have h3 := HX.out; omega); clear hA)
            go_roundg (x.size + 1 - (i + (p.length + 1)))
            case measure => have h1 := HI.out; have h2 := HLT.out; omega
            case rel => exact ⟨i + (p.length + 1), st, b, ⟨by have h1 := HI.out; have h2 := HLT.out; have h3 := HPL.out; omega⟩, rfl, by rw [HAS.out]; go_num, HN, HB0, ⟨HSt.out.below (pw_below_drewN (Below.refl _ _) _)⟩, HGt, ⟨pw_below_drewN HBt.out _⟩, HH0, HH1⟩
          · have HP1 := Aside0.mk hp1
            have HP2 : Aside0 (Lib.hasPrefix p [99, 32] = true) := ⟨by unfold comment at hco; rw [decide_eq_false hp1, Bool.false_or] at hco; exact hco⟩
            clear hp1 hco
            go_wp2_with (first | ((with_reducible refine (HCUT.out _).mono ?_); rintro e w1 ⟨⟨a, b1, rfl, hA⟩, ⟨m, rfl⟩⟩; have da : (a.toList == [99]) = false := (by rw [beq_eq_false_iff_ne, Lib.toList_data, hA]; exact HP1.out); have HAS : Aside0 (a.size = p.length) := ⟨by rw [← data_length, hA]⟩; have has : (a.size : Int) ≤ 262144 := (by have h1 := HAS.out; have h2 := HPL.out; have h3 := HX.out; omega); have HAD := Aside0.mk hA; clear hA) | ((with_reducible refine (prefix_any _ _ _).mono ?_); rintro e w2 ⟨rfl, ⟨m2, rfl⟩⟩; rw [show Lib.hasPrefix a.data.toList (⟨#[99, 32]⟩ : ByteArray).data.toList = true by rw [HAD.out]; exact HP2.out]))
            go_roundg (x.size + 1 - (i + (p.length + 1)))
            case measure => have h1 := HI.out; have h2 := HLT.out; omega
            case rel => exact ⟨i + (p.length + 1), st, b, ⟨by have h1 := HI.out; have h2 := HLT.out; have h3 := HPL.out; omega⟩, rfl, by rw [HAS.out]; go_num, HN, HB0, ⟨HSt.out.below (pw_below_drewN (Below.refl _ _) _)⟩, HGt, ⟨pw_below_drewN HBt.out _⟩, HH0, HH1⟩
        | false =>
          have hco2 := hco
          unfold comment at hco2
          rw [Bool.or_eq_false_iff, decide_eq_false_iff_not] at hco2
          have HP1 := Aside0.mk hco2.1
          have HP2 := Aside0.mk hco2.2
          clear hco2
          cases b with
          | true =>
            have HN := Aside0.mk (HA2.out hco rfl)
            have HLN : Aside0 (∀ (a : ByteArray) W, a.data.toList = p → (a.size : Int) ≤ 262144 → Below wo.heap.size wo W → Calls Tryz.prog 47 #[.pointer (some ⟨w.heap.size + 1 + 1, 0, none⟩), .string a, .int .i64 (i : Int)] W fun e w' =>
              e = .returned (.agg #[.int .i64 (lineL p i st 0).2.1, .int .i64 (lineL p i st 0).2.2]) ∧ RdS w' w.heap.size (w.heap.size + 1 + 1) (lineL p i st 0).1 ∧ RGood (lineL p i st 0).1 ∧ Below w.heap.size W w' ∧ KeT TR W w') := ⟨fun a W ha hs hW => by
                have h := line_any w.heap.size (w.heap.size + 1 + 1) st a (i : Int) W (HSt.out.below hW) HGt.out (by omega) (by rw [ha]; exact HSHP.out W hW) (Nat.le_trans HBt.out.size hW.size)
                rw [ha] at h
                exact h⟩
            clear hco HA1 HA2 HA3
            generalize lineL p (i : Int) st 0 = r at *
            obtain ⟨st1, fa, fc⟩ := r
            dsimp only at *
            by_cases hfa : fa = 0
            · by_cases hfc : fc = 0
              · subst hfa hfc
                have HN2 : Aside0 (parseF x.data.toList = parseL x.data.toList st1 true (i + (p.length + 1))) := ⟨by rw [HN.out, if_neg (fun h => h rfl)]⟩
                go_wp2_with (first | ((with_reducible refine (HCUT.out _).mono ?_); rintro e w1 ⟨⟨a, b1, rfl, hA⟩, ⟨m, rfl⟩⟩; have da : (a.toList == [99]) = false := (by rw [beq_eq_false_iff_ne, Lib.toList_data, hA]; exact HP1.out); have HAS : Aside0 (a.size = p.length) := ⟨by rw [← data_length, hA]⟩; have has : (a.size : Int) ≤ 262144 := (by have h1 := HAS.out; have h2 := HPL.out; have h3 := HX.out; omega); have HAD := Aside0.mk hA; clear hA) | ((with_reducible refine (prefix_any _ _ _).mono ?_); rintro e w2 ⟨rfl, ⟨m2, rfl⟩⟩; rw [show Lib.hasPrefix a.data.toList (⟨#[99, 32]⟩ : ByteArray).data.toList = false by rw [HAD.out]; exact HP2.out]) | ((with_reducible refine (HLN.out a _ HAD.out has ?s1).mono ?_); (case s1 => exact pw_below_drewN (Below.refl _ _) _); rintro e w3 ⟨rfl, hS3, hG3, hB3, hK3⟩; have HS3 := Aside0.mk hS3; have HG3 := Aside0.mk hG3; have HB3 := Aside0.mk hB3; have HK3 := Aside0.mk hK3; clear hS3 hG3 hB3 hK3))
                go_roundg (x.size + 1 - (i + (p.length + 1)))
                case measure => have h1 := HI.out; have h2 := HLT.out; omega
                case rel => exact ⟨i + (p.length + 1), st1, true, ⟨by have h1 := HI.out; have h2 := HLT.out; have h3 := HPL.out; omega⟩, rfl, by rw [HAS.out]; go_num, HN2, ⟨fun h => by cases h⟩, ⟨HS3.out.below (below_alloc (Below.refl _ _) _)⟩, HG3, ⟨below_alloc ((pw_below_drewN HBt.out _).trans HB3.out) _⟩, ⟨blk_alloc (HK3.out.kt _ _ _ HH0.out (by decide)) _⟩, ⟨blk_alloc (HK3.out.kt _ _ _ HH1.out (by decide)) _⟩⟩
              · subst hfa
                have HN2 : Aside0 (parseF x.data.toList = (0, [], 0, fc)) := ⟨by rw [HN.out, if_pos (fun h => hfc (Prod.mk.inj h).2)]⟩
                have f1 : (fc = 0) = False := eq_false hfc
                have f2 : (fc == 0) = false := beq_eq_false_iff_ne.2 hfc
                clear hfc
                go_wp2_with (first | ((with_reducible refine (HCUT.out _).mono ?_); rintro e w1 ⟨⟨a, b1, rfl, hA⟩, ⟨m, rfl⟩⟩; have da : (a.toList == [99]) = false := (by rw [beq_eq_false_iff_ne, Lib.toList_data, hA]; exact HP1.out); have HAS : Aside0 (a.size = p.length) := ⟨by rw [← data_length, hA]⟩; have has : (a.size : Int) ≤ 262144 := (by have h1 := HAS.out; have h2 := HPL.out; have h3 := HX.out; omega); have HAD := Aside0.mk hA; clear hA) | ((with_reducible refine (prefix_any _ _ _).mono ?_); rintro e w2 ⟨rfl, ⟨m2, rfl⟩⟩; rw [show Lib.hasPrefix a.data.toList (⟨#[99, 32]⟩ : ByteArray).data.toList = false by rw [HAD.out]; exact HP2.out]) | ((with_reducible refine (HLN.out a _ HAD.out has ?s1).mono ?_); (case s1 => exact pw_below_drewN (Below.refl _ _) _); rintro e w3 ⟨rfl, hS3, hG3, hB3, hK3⟩; have HS3 := Aside0.mk hS3; have HG3 := Aside0.mk hG3; have HB3 := Aside0.mk hB3; have HK3 := Aside0.mk hK3; clear hS3 hG3 hB3 hK3))
                obtain ⟨W5, hW5⟩ : ∃ W5, W5 = w3.alloc (Obj.cells #[.int .i64 0, .int .i64 fc] 27) := ⟨_, rfl⟩
                rw [← hW5]
                have HB5 : Aside0 (Below w.heap.size w W5) := ⟨by rw [hW5]; exact below_alloc ((pw_below_drewN HBt.out _).trans HB3.out) _⟩
                have HQ0 : Aside0 (W5.heap[w.heap.size]? = some (.cells #[.int .i64 0, .slice none 0 0] 24 (0, 0))) := ⟨by rw [hW5]; exact blk_alloc (HK3.out.kt _ _ _ HH0.out (by decide)) _⟩
                have HQ1 : Aside0 (W5.heap[w.heap.size + 1]? = some (.cells #[.int .i64 0, .int .i64 0] 27 (0, 0))) := ⟨by rw [hW5]; exact blk_alloc (HK3.out.kt _ _ _ HH1.out (by decide)) _⟩
                have HQ2 : Aside0 (W5.heap[w3.heap.size]? = some (.cells #[.int .i64 0, .int .i64 fc] 27 (0, 0))) := ⟨by rw [hW5]; exact heap_new2 _ _ _ _⟩
                clear hW5
                have k0 := blk_cell HQ0.out 0
                have k1 := blk_cell HQ0.out 1
                have k2 := blk_cell HQ1.out 0
                have k3 := blk_cell HQ1.out 1
                have k4 := blk_cell HQ2.out 0
                have k5 := blk_cell HQ2.out 1
                have k6 := blk_frozen HQ0.out 0
                have k7 := blk_frozen HQ0.out 1
                have k8 := blk_frozen HQ1.out 0
                have k9 := blk_frozen HQ1.out 1
                have hsz : w.heap.size + 1 < w3.heap.size := (Array.getElem?_eq_some_iff.1 (HK3.out.kt _ _ _ HH1.out (by decide))).1
                have n1 : (w3.heap.size = w.heap.size) = False := eq_false (by omega)
                have n2 : (w.heap.size = w3.heap.size) = False := eq_false (by omega)
                have n3 : (w3.heap.size = w.heap.size + 1) = False := eq_false (by omega)
                have n4 : (w.heap.size + 1 = w3.heap.size) = False := eq_false (by omega)
                clear hsz
                go_region
                all_goals go_wp2
                all_goals (have hc := fin4_cells HQ0.out HQ1.out (by omega) (.int .i64 0) (.slice none 0 0) (.int .i64 0) (.int .i64 fc))
                all_goals (unfold fin4 at hc)
                all_goals (refine bodyPost_ret (v := .tuple #[.agg #[.int .i64 0, .slice none 0 0], .agg #[.int .i64 0, .int .i64 fc]]) (by simp [results, Tryz.results12, go_sem, hc.1, hc.2.1, hc.2.2.1, hc.2.2.2]) rfl ?_)
                all_goals (rw [HN2.out]; exact ⟨_, rfl, Kd.S_nil _ _ _ _ _, below_drew (fin4_below HB5.out (Nat.le_refl _) (Nat.le_succ _) _ _ _ _)⟩)
            · have HN2 : Aside0 (parseF x.data.toList = (0, [], fa, fc)) := ⟨by rw [HN.out, if_pos (fun h => hfa (Prod.mk.inj h).1)]⟩
              have f1 : (fa = 0) = False := eq_false hfa
              have f2 : (fa == 0) = false := beq_eq_false_iff_ne.2 hfa
              clear hfa
              go_wp2_with (first | ((with_reducible refine (HCUT.out _).mono ?_); rintro e w1 ⟨⟨a, b1, rfl, hA⟩, ⟨m, rfl⟩⟩; have da : (a.toList == [99]) = false := (by rw [beq_eq_false_iff_ne, Lib.toList_data, hA]; exact HP1.out); have HAS : Aside0 (a.size = p.length) := ⟨by rw [← data_length, hA]⟩; have has : (a.size : Int) ≤ 262144 := (by have h1 := HAS.out; have h2 := HPL.out; have h3 := HX.out; omega); have HAD := Aside0.mk hA; clear hA) | ((with_reducible refine (prefix_any _ _ _).mono ?_); rintro e w2 ⟨rfl, ⟨m2, rfl⟩⟩; rw [show Lib.hasPrefix a.data.toList (⟨#[99, 32]⟩ : ByteArray).data.toList = false by rw [HAD.out]; exact HP2.out]) | ((with_reducible refine (HLN.out a _ HAD.out has ?s1).mono ?_); (case s1 => exact pw_below_drewN (Below.refl _ _) _); rintro e w3 ⟨rfl, hS3, hG3, hB3, hK3⟩; have HS3 := Aside0.mk hS3; have HG3 := Aside0.mk hG3; have HB3 := Aside0.mk hB3; have HK3 := Aside0.mk hK3; clear hS3 hG3 hB3 hK3))
              obtain ⟨W5, hW5⟩ : ∃ W5, W5 = w3.alloc (Obj.cells #[.int .i64 fa, .int .i64 fc] 27) := ⟨_, rfl⟩
              rw [← hW5]
              have HB5 : Aside0 (Below w.heap.size w W5) := ⟨by rw [hW5]; exact below_alloc ((pw_below_drewN HBt.out _).trans HB3.out) _⟩
              have HQ0 : Aside0 (W5.heap[w.heap.size]? = some (.cells #[.int .i64 0, .slice none 0 0] 24 (0, 0))) := ⟨by rw [hW5]; exact blk_alloc (HK3.out.kt _ _ _ HH0.out (by decide)) _⟩
              have HQ1 : Aside0 (W5.heap[w.heap.size + 1]? = some (.cells #[.int .i64 0, .int .i64 0] 27 (0, 0))) := ⟨by rw [hW5]; exact blk_alloc (HK3.out.kt _ _ _ HH1.out (by decide)) _⟩
              have HQ2 : Aside0 (W5.heap[w3.heap.size]? = some (.cells #[.int .i64 fa, .int .i64 fc] 27 (0, 0))) := ⟨by rw [hW5]; exact heap_new2 _ _ _ _⟩
              clear hW5
              have k0 := blk_cell HQ0.out 0
              have k1 := blk_cell HQ0.out 1
              have k2 := blk_cell HQ1.out 0
              have k3 := blk_cell HQ1.out 1
              have k4 := blk_cell HQ2.out 0
              have k5 := blk_cell HQ2.out 1
              have k6 := blk_frozen HQ0.out 0
              have k7 := blk_frozen HQ0.out 1
              have k8 := blk_frozen HQ1.out 0
              have k9 := blk_frozen HQ1.out 1
              have hsz : w.heap.size + 1 < w3.heap.size := (Array.getElem?_eq_some_iff.1 (HK3.out.kt _ _ _ HH1.out (by decide))).1
              have n1 : (w3.heap.size = w.heap.size) = False := eq_false (by omega)
              have n2 : (w.heap.size = w3.heap.size) = False := eq_false (by omega)
              have n3 : (w3.heap.size = w.heap.size + 1) = False := eq_false (by omega)
              have n4 : (w.heap.size + 1 = w3.heap.size) = False := eq_false (by omega)
              clear hsz
              go_region
              all_goals go_wp2
              all_goals (have hc := fin4_cells HQ0.out HQ1.out (by omega) (.int .i64 0) (.slice none 0 0) (.int .i64 fa) (.int .i64 fc))
              all_goals (unfold fin4 at hc)
              all_goals (refine bodyPost_ret (v := .tuple #[.agg #[.int .i64 0, .slice none 0 0], .agg #[.int .i64 fa, .int .i64 fc]]) (by simp [results, Tryz.results12, go_sem, hc.1, hc.2.1, hc.2.2.1, hc.2.2.2]) rfl ?_)
              all_goals (rw [HN2.out]; exact ⟨_, rfl, Kd.S_nil _ _ _ _ _, below_drew (fin4_below HB5.out (Nat.le_refl _) (Nat.le_succ _) _ _ _ _)⟩)
          | false =>
            have HN := Aside0.mk (HA3.out hco rfl)
            have HST0 := Aside0.mk (HB0.out rfl)
            have HPR : Aside0 (∀ (a : ByteArray) W, a.data.toList = p → (a.size : Int) ≤ 262144 → Below wo.heap.size wo W → Calls Tryz.prog 48 #[.string a] W fun e w' =>
              e = .returned (.tuple #[.int .i64 (problemL p).1, .int .i64 (problemL p).2.1, .bool (problemL p).2.2]) ∧ Below W.heap.size W w') := ⟨fun a W ha hs hW => by
                have h := problem_any a W (by omega) (by rw [ha]; exact shorts_b (HSHP.out W hW))
                rw [ha] at h
                exact h⟩
            have HGP := Aside0.mk (problem_good p)
            clear hco HA1 HA2 HA3
            generalize problemL p = r at *
            obtain ⟨pv, pm, pok⟩ := r
            dsimp only at *
            cases pok with
            | false =>
              have HN2 : Aside0 (parseF x.data.toList = (0, [], (i : Int), 140)) := ⟨by rw [HN.out, if_pos rfl]⟩
              go_wp2_with (first | ((with_reducible refine (HCUT.out _).mono ?_); rintro e w1 ⟨⟨a, b1, rfl, hA⟩, ⟨m, rfl⟩⟩; have da : (a.toList == [99]) = false := (by rw [beq_eq_false_iff_ne, Lib.toList_data, hA]; exact HP1.out); have HAS : Aside0 (a.size = p.length) := ⟨by rw [← data_length, hA]⟩; have has : (a.size : Int) ≤ 262144 := (by have h1 := HAS.out; have h2 := HPL.out; have h3 := HX.out; omega); have HAD := Aside0.mk hA; clear hA) | ((with_reducible refine (prefix_any _ _ _).mono ?_); rintro e w2 ⟨rfl, ⟨m2, rfl⟩⟩; rw [show Lib.hasPrefix a.data.toList (⟨#[99, 32]⟩ : ByteArray).data.toList = false by rw [HAD.out]; exact HP2.out]) | ((with_reducible refine (HPR.out a _ HAD.out has ?s1).mono ?_); (case s1 => exact pw_below_drewN (Below.refl _ _) _); rintro e w3 ⟨rfl, hB3⟩; have HB3 : Aside0 (Below w.heap.size w w3) := ⟨(pw_below_drewN HBt.out _).trans (hB3.mono HBt.out.size)⟩; have HS3 : Aside0 (RdS w3 w.heap.size (w.heap.size + 1 + 1) st) := ⟨(HSt.out.below (pw_below_drewN (Below.refl _ _) _)).below hB3⟩; have HQ0 : Aside0 (w3.heap[w.heap.size]? = _) := ⟨(hB3.block _ (Array.getElem?_eq_some_iff.1 HH0.out).1).trans HH0.out⟩; have HQ1 : Aside0 (w3.heap[w.heap.size + 1]? = _) := ⟨(hB3.block _ (Array.getElem?_eq_some_iff.1 HH1.out).1).trans HH1.out⟩; clear hB3; have k0 := blk_cell HQ0.out 0; have k1 := blk_cell HQ0.out 1; have k2 := blk_cell HQ1.out 0; have k3 := blk_cell HQ1.out 1; have k4 := blk_frozen HQ0.out 0; have k5 := blk_frozen HQ0.out 1; have k6 := blk_frozen HQ1.out 0; have k7 := blk_frozen HQ1.out 1; obtain ⟨A9, c9, A8, c8, hg9, hs9, hr9⟩ := RdS.parts HS3.out; clear hs9 hr9; obtain ⟨g0, g1, g2, g3, g4, g5⟩ := five hg9; clear hg9))
              have HW6 : Aside0 (((w3.setCell ⟨w.heap.size + 1 + 1, 0, none⟩ (.int .i64 pv)).setCell ⟨w.heap.size + 1 + 1, 2, none⟩ (.int .i64 pm)).heap[w.heap.size]? = _) := ⟨blk_far (blk_far HQ0.out (by show w.heap.size ≠ w.heap.size + 1 + 1; omega) _) (by show w.heap.size ≠ w.heap.size + 1 + 1; omega) _⟩
              have HW7 : Aside0 (((w3.setCell ⟨w.heap.size + 1 + 1, 0, none⟩ (.int .i64 pv)).setCell ⟨w.heap.size + 1 + 1, 2, none⟩ (.int .i64 pm)).heap[w.heap.size + 1]? = _) := ⟨blk_far (blk_far HQ1.out (by show w.heap.size + 1 ≠ w.heap.size + 1 + 1; omega) _) (by show w.heap.size + 1 ≠ w.heap.size + 1 + 1; omega) _⟩
              have hc := fin4_cells HW6.out HW7.out (by omega) (.int .i64 0) (.slice none 0 0) (.int .i64 (i : Int)) (.int .i64 140)
              unfold fin4 at hc
              refine bodyPost_ret (v := .tuple #[.agg #[.int .i64 0, .slice none 0 0], .agg #[.int .i64 (i : Int), .int .i64 140]]) (by simp [results, Tryz.results12, go_sem, hc.1, hc.2.1, hc.2.2.1, hc.2.2.2]) rfl ?_
              rw [HN2.out]
              exact ⟨_, rfl, Kd.S_nil _ _ _ _ _, fin4_below ((HB3.out.setCell (by show w.heap.size ≤ w.heap.size + 1 + 1; omega) _).setCell (by show w.heap.size ≤ w.heap.size + 1 + 1; omega) _) (Nat.le_refl _) (Nat.le_succ _) _ _ _ _⟩
            | true =>
              have HN2 : Aside0 (parseF x.data.toList = parseL x.data.toList { st with v := pv, many := pm } true (i + (p.length + 1))) := ⟨by rw [HN.out, if_neg (by decide)]⟩
              go_wp2_with (first | ((with_reducible refine (HCUT.out _).mono ?_); rintro e w1 ⟨⟨a, b1, rfl, hA⟩, ⟨m, rfl⟩⟩; have da : (a.toList == [99]) = false := (by rw [beq_eq_false_iff_ne, Lib.toList_data, hA]; exact HP1.out); have HAS : Aside0 (a.size = p.length) := ⟨by rw [← data_length, hA]⟩; have has : (a.size : Int) ≤ 262144 := (by have h1 := HAS.out; have h2 := HPL.out; have h3 := HX.out; omega); have HAD := Aside0.mk hA; clear hA) | ((with_reducible refine (prefix_any _ _ _).mono ?_); rintro e w2 ⟨rfl, ⟨m2, rfl⟩⟩; rw [show Lib.hasPrefix a.data.toList (⟨#[99, 32]⟩ : ByteArray).data.toList = false by rw [HAD.out]; exact HP2.out]) | ((with_reducible refine (HPR.out a _ HAD.out has ?s1).mono ?_); (case s1 => exact pw_below_drewN (Below.refl _ _) _); rintro e w3 ⟨rfl, hB3⟩; have HB3 : Aside0 (Below w.heap.size w w3) := ⟨(pw_below_drewN HBt.out _).trans (hB3.mono HBt.out.size)⟩; have HS3 : Aside0 (RdS w3 w.heap.size (w.heap.size + 1 + 1) st) := ⟨(HSt.out.below (pw_below_drewN (Below.refl _ _) _)).below hB3⟩; have HQ0 : Aside0 (w3.heap[w.heap.size]? = _) := ⟨(hB3.block _ (Array.getElem?_eq_some_iff.1 HH0.out).1).trans HH0.out⟩; have HQ1 : Aside0 (w3.heap[w.heap.size + 1]? = _) := ⟨(hB3.block _ (Array.getElem?_eq_some_iff.1 HH1.out).1).trans HH1.out⟩; clear hB3; have k0 := blk_cell HQ0.out 0; have k1 := blk_cell HQ0.out 1; have k2 := blk_cell HQ1.out 0; have k3 := blk_cell HQ1.out 1; have k4 := blk_frozen HQ0.out 0; have k5 := blk_frozen HQ0.out 1; have k6 := blk_frozen HQ1.out 0; have k7 := blk_frozen HQ1.out 1; obtain ⟨A9, c9, A8, c8, hg9, hs9, hr9⟩ := RdS.parts HS3.out; clear hs9 hr9; obtain ⟨g0, g1, g2, g3, g4, g5⟩ := five hg9; clear hg9))
              go_roundg (x.size + 1 - (i + (p.length + 1)))
              case measure => have h1 := HI.out; have h2 := HLT.out; omega
              case rel => exact ⟨i + (p.length + 1), { st with v := pv, many := pm }, true, ⟨by have h1 := HI.out; have h2 := HLT.out; have h3 := HPL.out; omega⟩, rfl, by rw [HAS.out]; go_num, HN2, ⟨fun h => by cases h⟩, ⟨RdS_setProb HS3.out pv pm⟩, ⟨by rw [HST0.out]; exact HGP.out⟩, ⟨(HB3.out.setCell (by show w.heap.size ≤ w.heap.size + 1 + 1; omega) _).setCell (by show w.heap.size ≤ w.heap.size + 1 + 1; omega) _⟩, ⟨blk_far (blk_far HQ0.out (by show w.heap.size ≠ w.heap.size + 1 + 1; omega) _) (by show w.heap.size ≠ w.heap.size + 1 + 1; omega) _⟩, ⟨blk_far (blk_far HQ1.out (by show w.heap.size + 1 ≠ w.heap.size + 1 + 1; omega) _) (by show w.heap.size + 1 ≠ w.heap.size + 1 + 1; omega) _⟩⟩
      · have c1 : decide ((i : Int) < (x.size : Int)) = false := decide_eq_false (by omega)
        have q1 : ((i : Int) < (x.size : Int)) = False := eq_false (by omega)
        have HN : Aside0 (parseF x.data.toList = endL x.data.toList st b) := ⟨by rw [HA.out, parseL, dif_neg (by rw [data_length]; omega)]⟩
        have k0 := blk_cell HH0.out 0
        have k1 := blk_cell HH0.out 1
        have k2 := blk_cell HH1.out 0
        have k3 := blk_cell HH1.out 1
        have k4 := blk_frozen HH0.out 0
        have k5 := blk_frozen HH0.out 1
        have k6 := blk_frozen HH1.out 0
        have k7 := blk_frozen HH1.out 1
        obtain ⟨A9, c9, A8, c8, hg9, hs9, hr9⟩ := RdS.parts HSt.out
        have HS9 := Aside0.mk hs9
        clear hs9 hr9
        clear hlt
        cases b with
        | false =>
          have HN2 : Aside0 (parseF x.data.toList = (0, [], (x.size : Int), 140)) := ⟨by rw [HN.out, endL, if_pos rfl, data_length]⟩
          clear hg9
          go_wp2
          have hc := fin4_cells HH0.out HH1.out (by omega) (.int .i64 0) (.slice none 0 0) (.int .i64 (x.size : Int)) (.int .i64 140)
          unfold fin4 at hc
          refine bodyPost_ret (v := .tuple #[.agg #[.int .i64 0, .slice none 0 0], .agg #[.int .i64 (x.size : Int), .int .i64 140]]) (by simp [results, Tryz.results12, go_sem, hc.1, hc.2.1, hc.2.2.1, hc.2.2.2]) rfl ?_
          rw [HN2.out]
          exact ⟨_, rfl, Kd.S_nil _ _ _ _ _, fin4_below HBt.out (Nat.le_refl _) (Nat.le_succ _) _ _ _ _⟩
        | true =>
          obtain ⟨g0, g1, g2, g3, g4, g5⟩ := five hg9
          clear hg9
          cases hop : st.op with
          | true =>
            have HN2 : Aside0 (parseF x.data.toList = (0, [], (x.size : Int), 41)) := ⟨by rw [HN.out, endL, if_neg (by decide), if_pos hop, data_length]⟩
            rw [hop] at g4
            clear hop
            go_wp2
            go_quiet (fail)
            go_wp2
            have hc := fin4_cells (W := wo.drewN nq) HH0.out HH1.out (by omega) (.int .i64 0) (.slice none 0 0) (.int .i64 (x.size : Int)) (.int .i64 41)
            unfold fin4 at hc
            refine bodyPost_ret (v := .tuple #[.agg #[.int .i64 0, .slice none 0 0], .agg #[.int .i64 (x.size : Int), .int .i64 41]]) (by simp [results, Tryz.results12, go_sem, hc.1, hc.2.1, hc.2.2.1, hc.2.2.2]) rfl ?_
            rw [HN2.out]
            exact ⟨_, rfl, Kd.S_nil _ _ _ _ _, fin4_below (pw_below_drewN HBt.out _) (Nat.le_refl _) (Nat.le_succ _) _ _ _ _⟩
          | false =>
            rw [hop] at g4
            by_cases hlm : (st.cs.length : Int) < st.many
            · have HN2 : Aside0 (parseF x.data.toList = (0, [], (x.size : Int), 41)) := ⟨by rw [HN.out, endL, if_neg (by decide), if_neg (by rw [hop]; decide), if_pos hlm, data_length]⟩
              have d1 : decide ((st.cs.length : Int) < st.many) = true := decide_eq_true hlm
              clear hop hlm
              go_wp2
              go_quiet (fail)
              go_wp2
              have hc := fin4_cells (W := wo.drewN nq) HH0.out HH1.out (by omega) (.int .i64 0) (.slice none 0 0) (.int .i64 (x.size : Int)) (.int .i64 41)
              unfold fin4 at hc
              refine bodyPost_ret (v := .tuple #[.agg #[.int .i64 0, .slice none 0 0], .agg #[.int .i64 (x.size : Int), .int .i64 41]]) (by simp [results, Tryz.results12, go_sem, hc.1, hc.2.1, hc.2.2.1, hc.2.2.2]) rfl ?_
              rw [HN2.out]
              exact ⟨_, rfl, Kd.S_nil _ _ _ _ _, fin4_below (pw_below_drewN HBt.out _) (Nat.le_refl _) (Nat.le_succ _) _ _ _ _⟩
            · have HN2 : Aside0 (parseF x.data.toList = (st.v, st.cs, 0, 0)) := ⟨by rw [HN.out, endL, if_neg (by decide), if_neg (by rw [hop]; decide), if_neg hlm]⟩
              have d1 : decide ((st.cs.length : Int) < st.many) = false := decide_eq_false hlm
              clear hop hlm
              go_wp2
              go_quiet (fail)
              go_wp2
              have hc := fin4_cells (W := wo.drewN nq) HH0.out HH1.out (by omega) (.int .i64 st.v) (.slice A9 st.cs.length c9) (.int .i64 0) (.int .i64 0)
              unfold fin4 at hc
              refine bodyPost_ret (v := .tuple #[.agg #[.int .i64 st.v, .slice A9 st.cs.length c9], .agg #[.int .i64 0, .int .i64 0]]) (by simp [results, Tryz.results12, go_sem, hc.1, hc.2.1, hc.2.2.1, hc.2.2.2]) rfl ?_
              rw [HN2.out]
              exact ⟨_, rfl, fin4_S (Kd.S_drewN (Kd.S_mono HS9.out (fun _ _ => trivial)) nq) HH0.out HH1.out (by omega) _ _ _ _, fin4_below (pw_below_drewN HBt.out _) (Nat.le_refl _) (Nat.le_succ _) _ _ _ _⟩
end Go.Proofs.YtjfmoildblcjiaaGreatDoor.P8
end

section
/- What is proved here: functions of layer 14 as the printer's functions. -/
namespace Go.Proofs.YtjfmoildblcjiaaGreatDoor.Orc
open Go.RowKit Go.Proofs.YtjfmoildblcjiaaGreatDoorW.PrintWords Go.Proofs.YtjfmoildblcjiaaGreatDoorW.PrintLast Go.Proofs.YtjfmoildblcjiaaGreatDoorW.PrintMore Go.Proofs.YtjfmoildblcjiaaGreatDoor.H1 Go.Proofs.YtjfmoildblcjiaaGreatDoor.H2 Go.Proofs.YtjfmoildblcjiaaGreatDoor.H4 Go.Proofs.YtjfmoildblcjiaaGreatDoor.H5 Go.Proofs.YtjfmoildblcjiaaGreatDoor.H7 Go.Proofs.YtjfmoildblcjiaaGreatDoor.H8 Go.Proofs.YtjfmoildblcjiaaGreatDoor.H21 Go.Proofs.YtjfmoildblcjiaaGreatDoor.H22 Go.Proofs.YtjfmoildblcjiaaGreatDoor.P1 Go.Proofs.YtjfmoildblcjiaaGreatDoor.P8

def cnf_Check.f (v : Int) (cs : List (List Int)) : Option (Int × Int) := some (checkE v cs)
theorem cnf_Check.calls (a0_0 : Int) (A0_1 : Option Addr) (c0_1 : Nat) (l0_1 : List (List Int)) (r1 r2 : Int) (w : World) (hr0 : Kd.C (Kd.slice 3 (Kd.int .i64)) w A0_1 l0_1.length l0_1) (hc0 : l0_1.length ≤ c0_1) (h : cnf_Check.f a0_0 l0_1 = some (r1, r2)) :
    Calls Tryz.prog 34 #[.agg #[.int .i64 a0_0, .slice A0_1 l0_1.length c0_1]] w fun e w' => e = .returned (.tuple #[.int .i64 r1, .int .i64 r2]) ∧ Below w.heap.size w w' := by
  have e : checkE a0_0 l0_1 = (r1, r2) := Option.some.inj h
  have := check_any a0_0 A0_1 c0_1 l0_1 w hr0 hc0
  rw [e] at this
  exact this

def cnf_Models.f (a0_0 : Int) (l0_1 : List (List Int)) : Option (Int × Int) := some (modelsE a0_0 l0_1, trialsE a0_0 l0_1)
theorem cnf_Models.calls (a0_0 : Int) (A0_1 : Option Addr) (c0_1 : Nat) (l0_1 : List (List Int)) (r1 r2 : Int) (w : World) (hr0 : Kd.C (Kd.slice 3 (Kd.int .i64)) w A0_1 l0_1.length l0_1) (hc0 : l0_1.length ≤ c0_1) (h : cnf_Models.f a0_0 l0_1 = some (r1, r2)) :
    Calls Tryz.prog 27 #[.agg #[.int .i64 a0_0, .slice A0_1 l0_1.length c0_1]] w fun e w' => e = .returned (.tuple #[.int .i64 r1, .int .i64 r2]) ∧ Below w.heap.size w w' := by
  have e : (modelsE a0_0 l0_1, trialsE a0_0 l0_1) = (r1, r2) := Option.some.inj h
  cases e
  exact models_any a0_0 A0_1 c0_1 l0_1 w hr0 hc0

def cnf_Holds.f (v : Int) (cs : List (List Int)) (m : List Bool) : Option (Bool × Int × Int) := some (holdsE v cs m)
theorem cnf_Holds.calls (a0_0 : Int) (A0_1 : Option Addr) (c0_1 : Nat) (l0_1 : List (List Int)) (A1 : Option Addr) (c1 : Nat) (l1 : List Bool) (r1 : Bool) (r2 r3 : Int) (w : World) (hr0 : Kd.C (Kd.slice 3 (Kd.int .i64)) w A0_1 l0_1.length l0_1) (hc0 : l0_1.length ≤ c0_1) (hr1 : Kd.C Kd.bool w A1 l1.length l1) (_hc1 : l1.length ≤ c1) (h : cnf_Holds.f a0_0 l0_1 l1 = some (r1, r2, r3)) :
    Calls Tryz.prog 25 #[.agg #[.int .i64 a0_0, .slice A0_1 l0_1.length c0_1], .slice A1 l1.length c1] w fun e w' => e = .returned (.tuple #[.bool r1, .int .i64 r2, .int .i64 r3]) ∧ Below w.heap.size w w' := by
  have e : holdsE a0_0 l0_1 l1 = (r1, r2, r3) := Option.some.inj h
  have := holds_model a0_0 A0_1 c0_1 l0_1 A1 c1 l1 w hr0 hc0 hr1
  rw [e] at this
  exact this

def cnf_Least.f (v : Int) (cs : List (List Int)) : Option (List Bool × Int) := some (leastE v cs)
theorem cnf_Least.calls (a0_0 : Int) (A0_1 : Option Addr) (c0_1 : Nat) (l0_1 : List (List Int)) (r1 : List Bool) (r2 : Int) (w : World) (hr0 : Kd.C (Kd.slice 3 (Kd.int .i64)) w A0_1 l0_1.length l0_1) (hc0 : l0_1.length ≤ c0_1) (h : cnf_Least.f a0_0 l0_1 = some (r1, r2)) :
    Calls Tryz.prog 29 #[.agg #[.int .i64 a0_0, .slice A0_1 l0_1.length c0_1]] w fun e w' => ∃ v0_ : Value, e = .returned (.tuple #[v0_, .int .i64 r2]) ∧ Kd.R Kd.bool 4 w' w.heap.size (fun _ => True) v0_ r1 ∧ Below w.heap.size w w' := by
  have e : leastE a0_0 l0_1 = (r1, r2) := Option.some.inj h
  have := least_any a0_0 A0_1 c0_1 l0_1 w hr0 hc0
  rw [e] at this
  exact this

noncomputable def forceE (v : Int) (cs : List (List Int)) (l : List Int) : List Int × Bool × Int :=
  if (checkE v cs).2 ≠ 0 then ([], false, (checkE v cs).2) else if litsE l v ≠ 0 then ([], false, litsE l v) else match (initL [] l).bind (forceV cs) with | none => ([], false, 0) | some S => (sortA S, true, 0)
noncomputable def cnf_Force.f (v : Int) (cs : List (List Int)) (l : List Int) : Option (List Int × Bool × Int) := some (forceE v cs l)
theorem cnf_Force.calls (a0_0 : Int) (A0_1 : Option Addr) (c0_1 : Nat) (l0_1 : List (List Int)) (A1 : Option Addr) (c1 : Nat) (l1 : List Int) (r1 : List Int) (r2 : Bool) (r3 : Int) (w : World) (hr0 : Kd.C (Kd.slice 3 (Kd.int .i64)) w A0_1 l0_1.length l0_1) (hc0 : l0_1.length ≤ c0_1) (hr1 : Kd.C (Kd.int .i64) w A1 l1.length l1) (hc1 : l1.length ≤ c1) (h : cnf_Force.f a0_0 l0_1 l1 = some (r1, r2, r3)) :
    Calls Tryz.prog 19 #[.agg #[.int .i64 a0_0, .slice A0_1 l0_1.length c0_1], .slice A1 l1.length c1] w fun e w' => ∃ v0_ : Value, e = .returned (.tuple #[v0_, .bool r2, .int .i64 r3]) ∧ Kd.R (Kd.int .i64) 3 w' w.heap.size (fun _ => True) v0_ r1 ∧ Below w.heap.size w w' := by
  have e : forceE a0_0 l0_1 l1 = (r1, r2, r3) := Option.some.inj h
  refine (force_any a0_0 A0_1 c0_1 l0_1 A1 c1 l1 w hr0 hc0 hr1 hc1).mono fun e' w' ⟨hb, ha⟩ => ?_
  unfold forceE at e
  split at ha
  · rename_i h0
    rw [if_pos h0] at e; cases e
    exact ⟨_, ha, Kd.R_nil _ _ _ _ _, hb⟩
  · rename_i h0
    rw [if_neg h0] at e
    split at ha
    · rename_i h1
      rw [if_pos h1] at e; cases e
      exact ⟨_, ha, Kd.R_nil _ _ _ _ _, hb⟩
    · rename_i h1
      rw [if_neg h1] at e
      split at ha
      · rename_i h2
        rw [h2] at e; cases e
        exact ⟨_, ha, Kd.R_nil _ _ _ _ _, hb⟩
      · rename_i S h2
        rw [h2] at e; cases e
        obtain ⟨_, u, h3, h4⟩ := ha
        exact ⟨u, h3, h4, hb⟩

/-- No word is longer than 18 bytes. -/
def ShortW (l : List UInt8) : Prop := ∀ i j, i ≤ j → j ≤ l.length → (∀ k (hk : k < l.length), i ≤ k → k < j → P5.blank l[k] = false ∧ l[k] ≠ 10) → j - i ≤ 18
open Classical in
noncomputable def cnf_Parse.f (a0 : ByteArray) : Option (Int × List (List Int) × Int × Int) := if ShortW a0.data.toList then some (parseF a0.data.toList) else none
theorem cnf_Parse.calls (a0 : ByteArray) (r1 : Int) (r2 : List (List Int)) (r3 r4 : Int) (w : World) (h : cnf_Parse.f a0 = some (r1, r2, r3, r4)) :
    Calls Tryz.prog 12 #[.string a0] w fun e w' => ∃ v1_ : Value, e = .returned (.tuple #[.agg #[.int .i64 r1, v1_], .agg #[.int .i64 r3, .int .i64 r4]]) ∧ Kd.S (Kd.slice 3 (Kd.int .i64)) 65 w' w.heap.size (fun _ => True) v1_ r2 ∧ Below w.heap.size w w' := by
  unfold cnf_Parse.f at h
  split at h
  · rename_i hs
    have e : parseF a0.data.toList = (r1, r2, r3, r4) := Option.some.inj h
    have := parse_any a0 w (.inl hs)
    unfold ParsePost at this
    rw [e] at this
    exact this
  · cases h
end Go.Proofs.YtjfmoildblcjiaaGreatDoor.Orc
end

section
-- Made for this seat by wip/pr.py: the kit's printer, run with functions that were proved by hand.
namespace Go.Proofs.YtjfmoildblcjiaaGreatDoor.QL
open Go.Proofs.YtjfmoildblcjiaaGreatDoor.Orc Go.RowKit Go.Proofs.YtjfmoildblcjiaaGreatDoorW.PrintWords Go.Proofs.YtjfmoildblcjiaaGreatDoorW.PrintLast Go.Proofs.YtjfmoildblcjiaaGreatDoorW.PrintMore
attribute [local go_sem] max2_int min2_int max_two min_two max_three min_three max_four min_four   -- for this text's walks alone
set_option linter.unusedVariables false
set_option linter.unusedSimpArgs false



def errW : Option Int → Value
  | none => .nilIface
  | some c => .iface 0 (.int .i64 c)
theorem errW_none : errW none = .nilIface := rfl
theorem errW_some (c : Int) : errW (some c) = .iface 0 (.int .i64 c) := rfl

theorem info3 : (Tryz.prog.info? 3).map (fun i => (i.zero, i.size, i.bytes)) = some (some (.int .i64 0), 1, 8) := by kernel_rfl
-- the values' own types
def rd_L1 (xs : List (List Int)) (i : Int) : (List Int) := xs.getD i.toNat ([] : List Int)
theorem at_L1 {w : World} {A : Option Addr} {n : Nat} {xs : List (List Int)} (h : Kd.C (Kd.slice 3 (Kd.int .i64)) w A n xs) (i : Int) (h0 : 0 ≤ i) (h1 : i < n) : ∃ ad A0 c0, A = some ad ∧ w.cell? (ad.add i.toNat) = some (.slice A0 (rd_L1 xs i).length c0) ∧ (rd_L1 xs i).length ≤ c0 ∧ (Kd.int .i64).C w A0 (rd_L1 xs i).length (rd_L1 xs i) := by
  obtain ⟨ad, c, e, _, hK, hc0⟩ := Kd.C_get h ([] : List Int) i h0 h1
  have hc : ∀ j u, c[j]? = some u → w.cell? (ad.add (i.toNat * 1 + j)) = some u := hc0
  obtain ⟨A0, c0, rfl, l0, g0⟩ := hK
  exact ⟨ad, A0, c0, e, by have hq := hc 0 _ rfl; rwa [Nat.mul_one, Nat.add_zero] at hq, l0, g0⟩

def rd_L2 (xs : List (List (List Int))) (i : Int) : (List (List Int)) := xs.getD i.toNat ([] : List (List Int))
theorem at_L2 {w : World} {A : Option Addr} {n : Nat} {xs : List (List (List Int))} (h : Kd.C (Kd.slice 65 (Kd.slice 3 (Kd.int .i64))) w A n xs) (i : Int) (h0 : 0 ≤ i) (h1 : i < n) : ∃ ad A0 c0, A = some ad ∧ w.cell? (ad.add i.toNat) = some (.slice A0 (rd_L2 xs i).length c0) ∧ (rd_L2 xs i).length ≤ c0 ∧ (Kd.slice 3 (Kd.int .i64)).C w A0 (rd_L2 xs i).length (rd_L2 xs i) := by
  obtain ⟨ad, c, e, _, hK, hc0⟩ := Kd.C_get h ([] : List (List Int)) i h0 h1
  have hc : ∀ j u, c[j]? = some u → w.cell? (ad.add (i.toNat * 1 + j)) = some u := hc0
  obtain ⟨A0, c0, rfl, l0, g0⟩ := hK
  exact ⟨ad, A0, c0, e, by have hq := hc 0 _ rfl; rwa [Nat.mul_one, Nat.add_zero] at hq, l0, g0⟩

/-! #### struct type 24 -/
structure S24 where
  f0 : Int
  f1 : (List (List Int))
def z24 : S24 := ⟨(0 : Int), ([] : List (List Int))⟩
def k24 : Kd S24 := Kd.iso (Kd.pair (Kd.int .i64) (Kd.slice 65 (Kd.slice 3 (Kd.int .i64)))) (fun x : S24 => (x.f0, x.f1))
theorem k24_open {w : World} {x : S24} {cs : List Value} (h : k24.K w x cs) : ∃ A1 c1, cs = [.int .i64 x.f0, .slice A1 x.f1.length c1] ∧ x.f1.length ≤ c1 ∧ (Kd.slice 3 (Kd.int .i64)).C w A1 x.f1.length x.f1 := by
  obtain ⟨_, _, rfl, rfl, ⟨A1, c1, rfl, l1, g1⟩⟩ := h
  exact ⟨A1, c1, rfl, l1, g1⟩
theorem k24_openM {w : World} {base : Nat} {ok : Nat → Prop} {x : S24} {cs : List Value} (h : k24.M w base ok x cs) : ∃ v1, cs = [.int .i64 x.f0, v1] ∧ (Kd.slice 3 (Kd.int .i64)).R 65 w base ok v1 x.f1 := by
  obtain ⟨_, _, rfl, rfl, ⟨v1, rfl, g1⟩⟩ := h
  exact ⟨v1, rfl, g1⟩
theorem k24_mk (w : World) (x : S24) {A1 : Option Addr} {c1 : Nat} (l1 : x.f1.length ≤ c1) (g1 : (Kd.slice 3 (Kd.int .i64)).C w A1 x.f1.length x.f1) : k24.K w x [.int .i64 x.f0, .slice A1 x.f1.length c1] := ⟨[.int .i64 x.f0], [.slice A1 x.f1.length c1], rfl, rfl, ⟨A1, c1, rfl, l1, g1⟩⟩
theorem k24_mkM (w : World) (base : Nat) (ok : Nat → Prop) (x : S24) {v1 : Value} (g1 : (Kd.slice 3 (Kd.int .i64)).R 65 w base ok v1 x.f1) : k24.M w base ok x [.int .i64 x.f0, v1] := ⟨[.int .i64 x.f0], [v1], rfl, rfl, ⟨v1, rfl, g1⟩⟩
def rd_T24 (xs : List S24) (i : Int) : S24 := xs.getD i.toNat z24
theorem at_T24 {w : World} {A : Option Addr} {n : Nat} {xs : List S24} (h : Kd.C k24 w A n xs) (i : Int) (h0 : 0 ≤ i) (h1 : i < n) : ∃ ad A1 c1, A = some ad ∧ w.cell? (ad.add (i.toNat * 2)) = some (.int .i64 (rd_T24 xs i).f0) ∧ w.cell? ⟨(ad.add (i.toNat * 2)).block, (ad.add (i.toNat * 2)).off + 1, none⟩ = some (.slice A1 (rd_T24 xs i).f1.length c1) ∧ (rd_T24 xs i).f1.length ≤ c1 ∧ (Kd.slice 3 (Kd.int .i64)).C w A1 (rd_T24 xs i).f1.length (rd_T24 xs i).f1 := by
  obtain ⟨ad, c, e, _, hK, hc0⟩ := Kd.C_get h z24 i h0 h1
  have hc : ∀ j u, c[j]? = some u → w.cell? (ad.add (i.toNat * 2 + j)) = some u := hc0
  obtain ⟨A1, c1, rfl, l1, g1⟩ := k24_open hK
  exact ⟨ad, A1, c1, e, hc 0 _ rfl, by rw [← add_field _ _ 1 (by omega)]; exact hc 1 _ rfl, l1, g1⟩

/-! #### struct type 27 -/
structure S27 where
  f0 : Int
  f1 : Int
def z27 : S27 := ⟨(0 : Int), (0 : Int)⟩
def k27 : Kd S27 := Kd.iso (Kd.pair (Kd.int .i64) (Kd.int .i64)) (fun x : S27 => (x.f0, x.f1))
theorem k27_open {w : World} {x : S27} {cs : List Value} (h : k27.K w x cs) : cs = [.int .i64 x.f0, .int .i64 x.f1] := by
  obtain ⟨_, _, rfl, rfl, rfl⟩ := h
  exact rfl
theorem k27_openM {w : World} {base : Nat} {ok : Nat → Prop} {x : S27} {cs : List Value} (h : k27.M w base ok x cs) : cs = [.int .i64 x.f0, .int .i64 x.f1] := by
  obtain ⟨_, _, rfl, rfl, rfl⟩ := h
  exact rfl
theorem k27_mk (w : World) (x : S27)  : k27.K w x [.int .i64 x.f0, .int .i64 x.f1] := ⟨[.int .i64 x.f0], [.int .i64 x.f1], rfl, rfl, rfl⟩
theorem k27_mkM (w : World) (base : Nat) (ok : Nat → Prop) (x : S27)  : k27.M w base ok x [.int .i64 x.f0, .int .i64 x.f1] := ⟨[.int .i64 x.f0], [.int .i64 x.f1], rfl, rfl, rfl⟩
def rd_T27 (xs : List S27) (i : Int) : S27 := xs.getD i.toNat z27
theorem at_T27 {w : World} {A : Option Addr} {n : Nat} {xs : List S27} (h : Kd.C k27 w A n xs) (i : Int) (h0 : 0 ≤ i) (h1 : i < n) : ∃ ad , A = some ad ∧ w.cell? (ad.add (i.toNat * 2)) = some (.int .i64 (rd_T27 xs i).f0) ∧ w.cell? ⟨(ad.add (i.toNat * 2)).block, (ad.add (i.toNat * 2)).off + 1, none⟩ = some (.int .i64 (rd_T27 xs i).f1) := by
  obtain ⟨ad, c, e, _, hK, hc0⟩ := Kd.C_get h z27 i h0 h1
  have hc : ∀ j u, c[j]? = some u → w.cell? (ad.add (i.toNat * 2 + j)) = some u := hc0
  obtain rfl := k27_open hK
  exact ⟨ad, e, hc 0 _ rfl, by rw [← add_field _ _ 1 (by omega)]; exact hc 1 _ rfl⟩

def rd_L6 (xs : List (List Bool)) (i : Int) : (List Bool) := xs.getD i.toNat ([] : List Bool)
theorem at_L6 {w : World} {A : Option Addr} {n : Nat} {xs : List (List Bool)} (h : Kd.C (Kd.slice 4 Kd.bool) w A n xs) (i : Int) (h0 : 0 ≤ i) (h1 : i < n) : ∃ ad A0 c0, A = some ad ∧ w.cell? (ad.add i.toNat) = some (.slice A0 (rd_L6 xs i).length c0) ∧ (rd_L6 xs i).length ≤ c0 ∧ Kd.bool.C w A0 (rd_L6 xs i).length (rd_L6 xs i) := by
  obtain ⟨ad, c, e, _, hK, hc0⟩ := Kd.C_get h ([] : List Bool) i h0 h1
  have hc : ∀ j u, c[j]? = some u → w.cell? (ad.add (i.toNat * 1 + j)) = some u := hc0
  obtain ⟨A0, c0, rfl, l0, g0⟩ := hK
  exact ⟨ad, A0, c0, e, by have hq := hc 0 _ rfl; rwa [Nat.mul_one, Nat.add_zero] at hq, l0, g0⟩

end Go.Proofs.YtjfmoildblcjiaaGreatDoor.QL
end

section
-- Made for this seat by wip/pr.py: the kit's printer, run with functions that were proved by hand.
namespace Go.Proofs.YtjfmoildblcjiaaGreatDoor.QL
open Go.Proofs.YtjfmoildblcjiaaGreatDoor.Orc Go.RowKit Go.Proofs.YtjfmoildblcjiaaGreatDoorW.PrintWords Go.Proofs.YtjfmoildblcjiaaGreatDoorW.PrintLast Go.Proofs.YtjfmoildblcjiaaGreatDoorW.PrintMore
attribute [local go_sem] max2_int min2_int max_two min_two max_three min_three max_four min_four   -- for this text's walks alone
set_option linter.unusedVariables false
set_option linter.unusedSimpArgs false

theorem eqA27 (d : Nat) (w : World) (x0 y0 : Int) (x1 y1 : Int) :
    (Op.equalIn (d + 2) 27 (.agg #[.int .i64 x0, .int .i64 x1]) (.agg #[.int .i64 y0, .int .i64 y1])).run Tryz.prog w = .ok (x0 == y0 && (x1 == y1)) w := by
  refine eqA_of Tryz.underlying27 (by kernel_rfl) ?_
  refine eqf_cons (by rfl) (by go_simp; rfl) (by go_simp; rfl) (by go_simp) ?_
  exact eqf_last (by rfl) (by go_simp; rfl) (by go_simp; rfl) (by go_simp)
end Go.Proofs.YtjfmoildblcjiaaGreatDoor.QL
end
