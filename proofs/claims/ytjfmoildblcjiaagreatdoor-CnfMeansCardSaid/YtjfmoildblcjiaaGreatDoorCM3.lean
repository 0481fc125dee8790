/- What is proved here: CnfMeans answers true of every two formulas and every model. (part 3 of 6) No condition. -/
import Derived.Test.YtjfmoildblcjiaaGreatDoorCM2
import Derived.Lib.SliceRun
import Derived.Outline
import Derived.Deep.RegionHeld3
import Derived.Deep.RegionLaw
import Derived.Test.YtjfmoildblcjiaaGreatDoorProg
import Derived.Below
import Derived.Deep.Draws
import Derived.Deep.AppendLies
import Derived.Maps.AppendAt
import Derived.OwnWalk
import Derived.Laws.BytesArg
import Derived.Laws.MakeOwn
import Derived.Laws.OwnMore
import Derived.Deep.OwnRows
import Derived.Tactics
import Derived.Lib.ConvBytes
import Derived.Laws.Slices
import Derived.WalkKit
import Derived.KernelRfl
import Derived.RowKit3
import Derived.Deep.LoopGhost
import Derived.Deep.QuietTactic
import Derived.BigQuiet
import Derived.WideLaws
import Derived.Deep.DeepCutAuto
import Derived.Deep.CutBlock
import Derived.Laws.Rows
import Derived.Lib.AppendStr
import Derived.ArgAppend
import Derived.Laws.IdiomCopy
import Derived.OrdersHeld
import Derived.Laws.BitsLemmas
import Derived.RowKit
import Derived.Test.YtjfmoildblcjiaaGreatDoorWWords
import Derived.Test.YtjfmoildblcjiaaGreatDoorWLast
import Derived.Test.YtjfmoildblcjiaaGreatDoorWTab
import Derived.Test.YtjfmoildblcjiaaGreatDoorWFour
import Derived.Test.YtjfmoildblcjiaaGreatDoorWQPut
import Derived.Test.YtjfmoildblcjiaaGreatDoorWApart
import Derived.Test.YtjfmoildblcjiaaGreatDoorWArr
import Derived.Test.YtjfmoildblcjiaaGreatDoorWZeros
import Derived.Test.YtjfmoildblcjiaaGreatDoorWFoot
import Derived.Test.YtjfmoildblcjiaaGreatDoorWKept
import Derived.Test.YtjfmoildblcjiaaGreatDoorWShare
import Derived.Test.YtjfmoildblcjiaaGreatDoorWN
import Derived.Test.YtjfmoildblcjiaaGreatDoorWFootNe
import Derived.Test.YtjfmoildblcjiaaGreatDoorWAt
import Derived.Test.YtjfmoildblcjiaaGreatDoorWEqStruct
import Derived.Test.YtjfmoildblcjiaaGreatDoorWRepsOne
import Derived.Test.YtjfmoildblcjiaaGreatDoorWInv
import Derived.Test.YtjfmoildblcjiaaGreatDoorWInvWords
import Derived.Test.YtjfmoildblcjiaaGreatDoorWGuard
import Derived.Test.YtjfmoildblcjiaaGreatDoorWNEv
import Derived.Test.YtjfmoildblcjiaaGreatDoorWMore

section
/- What is proved here: the contract of cnf.Parse. -/
namespace Go.Proofs.YtjfmoildblcjiaaGreatDoor.P8
open Go.RowKit Go.Proofs.YtjfmoildblcjiaaGreatDoorW.PrintWords Go.Proofs.YtjfmoildblcjiaaGreatDoorW.PrintLast Go.Proofs.YtjfmoildblcjiaaGreatDoorW.PrintMore Go.Proofs.YtjfmoildblcjiaaGreatDoor.H1 Go.Proofs.YtjfmoildblcjiaaGreatDoor.P1 Go.Proofs.YtjfmoildblcjiaaGreatDoor.P2 Go.Proofs.YtjfmoildblcjiaaGreatDoor.P3 Go.Proofs.YtjfmoildblcjiaaGreatDoor.P4 Go.Proofs.YtjfmoildblcjiaaGreatDoor.P5 Go.Proofs.YtjfmoildblcjiaaGreatDoor.P6 Go.Proofs.YtjfmoildblcjiaaGreatDoor.P7

def comment (p : List UInt8) : Bool := decide (p = [99]) || Lib.hasPrefix p [99, 32]
def rd0 : Rd := ⟨0, [], 0, [], false⟩
def endL (l : List UInt8) (s : Rd) (b : Bool) : Int × List (List Int) × Int × Int :=
  if b = false then (0, [], (l.length : Int), 140) else if s.op = true then (0, [], (l.length : Int), 41) else if (s.cs.length : Int) < s.many then (0, [], (l.length : Int), 41) else (s.v, s.cs, 0, 0)
def parseL (l : List UInt8) (s : Rd) (b : Bool) (i : Nat) : Int × List (List Int) × Int × Int :=
  if h : i < l.length then
    if comment (befC 10 (l.drop i)) = true then parseL l s b (i + ((befC 10 (l.drop i)).length + 1))
    else if b = true then
      if (lineL (befC 10 (l.drop i)) i s 0).2 ≠ (0, 0) then (0, [], (lineL (befC 10 (l.drop i)) i s 0).2.1, (lineL (befC 10 (l.drop i)) i s 0).2.2)
      else parseL l (lineL (befC 10 (l.drop i)) i s 0).1 true (i + ((befC 10 (l.drop i)).length + 1))
    else if (problemL (befC 10 (l.drop i))).2.2 = false then (0, [], (i : Int), 140)
    else parseL l { s with v := (problemL (befC 10 (l.drop i))).1, many := (problemL (befC 10 (l.drop i))).2.1 } true (i + ((befC 10 (l.drop i)).length + 1))
  else endL l s b
termination_by l.length - i
def parseF (l : List UInt8) : Int × List (List Int) × Int × Int := if (l.length : Int) > 262144 then (0, [], 0, 2) else parseL l rd0 false 0

theorem befC_no {c : UInt8} : ∀ (l : List UInt8), c ∉ befC c l
  | [] => by simp [befC]
  | b :: r => by
    unfold befC
    by_cases e : b = c
    · rw [List.takeWhile_cons_of_neg (by simp [e])]; simp
    · rw [List.takeWhile_cons_of_pos (by simpa using e)]
      intro h
      rcases List.mem_cons.1 h with h | h
      · exact e h.symm
      · exact befC_no r h
/-- Words that are too long for a number want strconv's errors. -/
def ShortT (l : List UInt8) (w : World) : Prop := (∀ i j, i ≤ j → j ≤ l.length → (∀ k (hk : k < l.length), i ≤ k → k < j → P5.blank l[k] = false ∧ l[k] ≠ 10) → j - i ≤ 18) ∨ EVs w
theorem shorts_line {l : List UInt8} {w : World} {base : Nat} (h : ShortT l w) (hg : EVs w → 3 < base) (a : Nat) : ShortsB (befC 10 (l.drop a)) base w := by
  rcases h with h | h
  · left
    intro i j hij hj hb
    have hle := befC_le 10 (l.drop a)
    rw [List.length_drop] at hle
    rcases Nat.lt_or_ge i j with hlt | hge
    · have := h (a + i) (a + j) (by omega) (by omega) (fun k hk h1 h2 => by
        have hk2 : k - a < (befC 10 (l.drop a)).length := by omega
        have e : (befC 10 (l.drop a))[k - a] = l[k] := by
          have h3 : (befC 10 (l.drop a))[k - a]? = l[k]? := by
            rw [← befC_take, List.getElem?_take, if_pos hk2, List.getElem?_drop, Nat.add_sub_cancel' (by omega)]
          rw [List.getElem?_eq_getElem hk2, List.getElem?_eq_getElem hk] at h3
          exact Option.some.inj h3
        refine ⟨e ▸ hb (k - a) hk2 (by omega) (by omega), fun h10 => ?_⟩
        have hm : (befC 10 (l.drop a))[k - a] ∈ befC 10 (l.drop a) := List.getElem_mem hk2
        rw [e, h10] at hm
        exact befC_no _ hm)
      omega
    · omega
  · exact .inr ⟨h, hg h⟩
theorem shorts_b {l : List UInt8} {base : Nat} {w : World} (h : ShortsB l base w) : Shorts l w := h.imp id (fun h => h.1)
theorem ShortT.mono {l : List UInt8} {base : Nat} {w w' : World} (h : ShortT l w) (hb : Below base w w') (hg : EVs w → 3 < base) : ShortT l w' := h.imp id (fun e => EVs_mono e hb (hg e))
theorem wholeN_nonneg {l : List UInt8} (h : wholeB l = true) (h45 : l.head? ≠ some 45) : 0 ≤ wholeN l := by
  unfold wholeN
  rw [atoi_digs h, if_neg h45]
  rcases parseUint_dig (digs l) 0 (whole_parts h).2 with ⟨u, hp⟩ | hp <;> rw [hp]
  case inr => show (0 : Int) ≤ 1099511627776; decide
  case inl =>
    rw [Lib.signless]
    by_cases hu : 9223372036854775808 ≤ u
    · rw [if_pos hu]; show (0 : Int) ≤ 1099511627776; decide
    · rw [if_neg hu]; show (0 : Int) ≤ (u : Int); omega
theorem countN_good {l : List UInt8} {m : Int} (hm : 0 ≤ m) : 0 ≤ (countN l m).1 ∧ (countN l m).1 ≤ m := by
  unfold countN
  split
  · exact ⟨Int.le_refl _, hm⟩
  · rename_i hb
    split
    · exact ⟨Int.le_refl _, hm⟩
    · rename_i h45
      split
      · exact ⟨Int.le_refl _, hm⟩
      · rename_i hle
        exact ⟨wholeN_nonneg (by simpa using hb) h45, by omega⟩
theorem problem_good (l : List UInt8) : RGood { rd0 with v := (problemL l).1, many := (problemL l).2.1 } := by
  have key : 0 ≤ (problemL l).1 ∧ (problemL l).1 ≤ 262144 ∧ 0 ≤ (problemL l).2.1 ∧ (problemL l).2.1 ≤ 524288 := by
    unfold problemL
    generalize splitC 32 (l.count 32) l = ps
    by_cases h : ps.length = 4
    · match ps, h with
      | [p0, p1, p2, p3], _ =>
        have h2 := countN_good (l := p2) (m := 262144) (by decide)
        have h3 := countN_good (l := p3) (m := 524288) (by decide)
        rw [problemW]
        split
        · decide
        · split
          · decide
          · split
            · decide
            · exact ⟨h2.1, h2.2, h3.1, h3.2⟩
    · rw [problemW_not h]; decide
  exact ⟨key.1, key.2.1, key.2.2.2, key.2.2.1, (fun h => by cases h), Nat.zero_le _, fun _ => rfl⟩
theorem good0 : RGood rd0 := ⟨by decide, by decide, by decide, by decide, (fun h => by cases h), by decide, fun _ => rfl⟩

theorem three {w : World} (a b c d x1 x2 x3 x4 x5 : Value) (t1 t2 t3 : Nat) :
    (((w.alloc (.cells #[a, b] t1)).alloc (.cells #[c, d] t2)).alloc (.cells #[x1, x2, x3, x4, x5] t3)).heap[w.heap.size]? = some (.cells #[a, b] t1 (0, 0)) ∧
    (((w.alloc (.cells #[a, b] t1)).alloc (.cells #[c, d] t2)).alloc (.cells #[x1, x2, x3, x4, x5] t3)).heap[w.heap.size + 1]? = some (.cells #[c, d] t2 (0, 0)) ∧
    (((w.alloc (.cells #[a, b] t1)).alloc (.cells #[c, d] t2)).alloc (.cells #[x1, x2, x3, x4, x5] t3)).heap[w.heap.size + 1 + 1]? = some (.cells #[x1, x2, x3, x4, x5] t3 (0, 0)) := by
  have h : (((w.alloc (.cells #[a, b] t1)).alloc (.cells #[c, d] t2)).alloc (.cells #[x1, x2, x3, x4, x5] t3)).heap = ((w.heap.push (.cells #[a, b] t1 (0, 0))).push (.cells #[c, d] t2 (0, 0))).push (.cells #[x1, x2, x3, x4, x5] t3 (0, 0)) := rfl
  rw [h]
  refine ⟨?_, ?_, ?_⟩
  · rw [Array.getElem?_push, if_neg (by simp only [Array.size_push]; omega), Array.getElem?_push, if_neg (by simp only [Array.size_push]; omega), Array.getElem?_push, if_pos rfl]
  · rw [Array.getElem?_push, if_neg (by simp only [Array.size_push]; omega), Array.getElem?_push, if_pos (by simp only [Array.size_push])]
  · rw [Array.getElem?_push, if_pos (by simp only [Array.size_push])]

theorem RdS_setProb {w : World} {base g : Nat} {s : Rd} (h : RdS w base g s) (v m : Int) : RdS ((w.setCell ⟨g, 0, none⟩ (.int .i64 v)).setCell ⟨g, 2, none⟩ (.int .i64 m)) base g { s with v := v, many := m } := by
  obtain ⟨h0, u, n, hg, hs, hr⟩ := h
  have h1 := blk_set hg 0 (.int .i64 v)
  exact ⟨h0, u, n, by simpa using blk_set h1 2 (.int .i64 m), Kd.S_set (Kd.S_set hs hg E_cl 0 _) h1 E_cl 2 _, Kd.R_set (Kd.R_set hr hg E_in 0 _) h1 E_in 2 _⟩
theorem prefix_any (a b : ByteArray) (w : World) : Calls Tryz.prog 46 #[.string a, .string b] w fun e w' => e = .returned (.bool (Lib.hasPrefix a.data.toList b.data.toList)) ∧ Drawn0 w w' := QP.strings_HasPrefix.calls a b _ w (hasPre a b)
def fin4 (W : World) (b0 b1 : Nat) (a b c d : Value) : World := (((W.setCell ⟨b0, 0, none⟩ a).setCell ⟨b0, 1, none⟩ b).setCell ⟨b1, 0, none⟩ c).setCell ⟨b1, 1, none⟩ d
theorem fin4_cells {W : World} {b0 b1 t0 t1 : Nat} {z0 z1 z2 z3 : Value} (h0 : W.heap[b0]? = some (.cells #[z0, z1] t0 (0, 0))) (h1 : W.heap[b1]? = some (.cells #[z2, z3] t1 (0, 0))) (hne : b0 ≠ b1) (a b c d : Value) :
    (fin4 W b0 b1 a b c d).cell? ⟨b0, 0, none⟩ = some a ∧ (fin4 W b0 b1 a b c d).cell? ⟨b0, 1, none⟩ = some b ∧ (fin4 W b0 b1 a b c d).cell? ⟨b1, 0, none⟩ = some c ∧ (fin4 W b0 b1 a b c d).cell? ⟨b1, 1, none⟩ = some d := by
  unfold fin4
  have e0 : ((W.setCell ⟨b0, 0, none⟩ a).setCell ⟨b0, 1, none⟩ b).heap[b0]? = some (.cells #[a, b] t0 (0, 0)) := by simpa using blk_set (blk_set h0 0 a) 1 b
  have e1 : ((W.setCell ⟨b0, 0, none⟩ a).setCell ⟨b0, 1, none⟩ b).heap[b1]? = some (.cells #[z2, z3] t1 (0, 0)) := blk_far (blk_far h1 (by exact fun e => hne e.symm) _) (by exact fun e => hne e.symm) _
  have f0 := blk_far (blk_far e0 (p := ⟨b1, 0, none⟩) (by exact hne) c) (p := ⟨b1, 1, none⟩) (by exact hne) d
  have f1 : ((((W.setCell ⟨b0, 0, none⟩ a).setCell ⟨b0, 1, none⟩ b).setCell ⟨b1, 0, none⟩ c).setCell ⟨b1, 1, none⟩ d).heap[b1]? = some (.cells #[c, d] t1 (0, 0)) := by simpa using blk_set (blk_set e1 0 c) 1 d
  exact ⟨(blk_cell f0 0).trans rfl, (blk_cell f0 1).trans rfl, (blk_cell f1 0).trans rfl, (blk_cell f1 1).trans rfl⟩
theorem fin4_below {B : Nat} {w W : World} {b0 b1 : Nat} (h : Below B w W) (h0 : B ≤ b0) (h1 : B ≤ b1) (a b c d : Value) : Below B w (fin4 W b0 b1 a b c d) := (((h.setCell h0 _).setCell h0 _).setCell h1 _).setCell h1 _
theorem fin4_S {W : World} {base b0 b1 : Nat} {ok : Nat → Prop} {z0 z1 z2 z3 : Value} {u : Value} {xs : List (List Int)} (hs : Kd.S (Kd.slice 3 (Kd.int .i64)) 65 W base ok u xs)
    (h0 : W.heap[b0]? = some (.cells #[z0, z1] 24 (0, 0))) (h1 : W.heap[b1]? = some (.cells #[z2, z3] 27 (0, 0))) (hne : b0 ≠ b1) (a b c d : Value) :
    Kd.S (Kd.slice 3 (Kd.int .i64)) 65 (fin4 W b0 b1 a b c d) base ok u xs := by
  have e : ∀ t, t = 24 ∨ t = 27 → ∀ q, q ∈ 65 :: (Kd.slice 3 (Kd.int .i64)).E → q ≠ t := by
    intro t ht q hq
    simp only [Kd.slice, Kd.int, Kd.scalar, List.mem_cons, List.not_mem_nil, or_false] at hq
    rcases ht with rfl | rfl <;> rcases hq with rfl | rfl <;> decide
  have f0 := blk_set h0 0 a
  have e1 : ((W.setCell ⟨b0, 0, none⟩ a).setCell ⟨b0, 1, none⟩ b).heap[b1]? = _ := blk_far (blk_far h1 (by exact fun e => hne e.symm) _) (by exact fun e => hne e.symm) _
  exact Kd.S_set (Kd.S_set (Kd.S_set (Kd.S_set hs h0 (e _ (.inl rfl)) 0 _) f0 (e _ (.inl rfl)) 1 _) e1 (e _ (.inr rfl)) 0 _) (blk_set e1 0 c) (e _ (.inr rfl)) 1 _
/-- What Parse answers. -/
def ParsePost (r : Int × List (List Int) × Int × Int) (w : World) (e : Ending) (w' : World) : Prop :=
  ∃ u, e = .returned (.tuple #[.agg #[.int .i64 r.1, u], .agg #[.int .i64 r.2.2.1, .int .i64 r.2.2.2]]) ∧ Kd.S (Kd.slice 3 (Kd.int .i64)) 65 w' w.heap.size (fun _ => True) u r.2.1 ∧ Below w.heap.size w w'

set_option maxHeartbeats 4000000 in
set_option maxRecDepth 100000 in
theorem parse_any (x : ByteArray) (w : World) (he : ShortT x.data.toList w) : Calls Tryz.prog 12 #[.string x] w (ParsePost (parseF x.data.toList) w) := by
  by_cases hlong : (x.size : Int) > 262144
  · have c0 : decide ((x.size : Int) > 262144) = true := decide_eq_true hlong
    have HN : Aside0 (parseF x.data.toList = (0, [], 0, 2)) := ⟨by unfold parseF; rw [if_pos (by rw [data_length]; exact hlong)]⟩
    clear hlong he
    go_enter Tryz.func12, Tryz.ntmps12
    go_wp2
    refine bodyPost_ret (v := .tuple #[.agg #[.int .i64 0, .slice none 0 0], .agg #[.int .i64 0, .int .i64 2]]) ?_ rfl ?_
    · simp [results, Tryz.results12, go_sem]
    · rw [HN.out]
      exact ⟨_, rfl, Kd.S_nil _ _ _ _ _, by repeat (first | exact Below.refl _ _ | apply below_alloc | apply below_set)⟩
  · have c0 : decide ((x.size : Int) > 262144) = false := decide_eq_false hlong
    have HX : Aside0 (x.size ≤ 262144) := ⟨by omega⟩
    have HPF : Aside0 (parseF x.data.toList = parseL x.data.toList rd0 false 0) := ⟨by unfold parseF; rw [if_neg (by rw [data_length]; exact hlong)]⟩
    have HE := Aside0.mk he
    have HGB : Aside0 (EVs w → 3 < w.heap.size) := ⟨fun h => by obtain ⟨ev, h1, _⟩ := h; exact World.block_lt_of_cell? w _ h1⟩
    clear hlong he
    go_enter Tryz.func12, Tryz.ntmps12
    go_wp2
    obtain ⟨W3, hW3⟩ : ∃ W3, W3 = (((w.alloc (Obj.cells #[.int .i64 0, .slice none 0 0] 24)).alloc (Obj.cells #[.int .i64 0, .int .i64 0] 27)).alloc (Obj.cells #[.int .i64 0, .slice none 0 0, .int .i64 0, .slice none 0 0, .bool false] 67)) := ⟨_, rfl⟩
    rw [← hW3]
    have h3 := three (w := w) (.int .i64 0) (.slice none 0 0) (.int .i64 0) (.int .i64 0) (.int .i64 0) (.slice none 0 0) (.int .i64 0) (.slice none 0 0) (.bool false) 24 27 67
    rw [← hW3] at h3
    have HH0 := Aside0.mk h3.1
    have HH1 := Aside0.mk h3.2.1
    have HB3 : Aside0 (Below w.heap.size w W3) := ⟨by rw [hW3]; exact below_alloc (below_alloc (below_alloc (Below.refl _ _) _) _) _⟩
    have HS3 : Aside0 (RdS W3 w.heap.size (w.heap.size + 1 + 1) rd0) := ⟨⟨by omega, .slice none 0 0, .slice none 0 0, h3.2.2, Kd.S_nil _ _ _ _ _, Kd.R_nil _ _ _ _ _⟩⟩
    clear hW3 h3
    go_loopg [5, 6] (x.size + 1) (fun kq v5 v6 w' => ∃ (i : Nat) (st : Rd) (b : Bool), Aside0 (i + kq = x.size + 1) ∧ v5 = .bool b ∧ v6 = .int .i64 (i : Int) ∧ Aside0 (parseF x.data.toList = parseL x.data.toList st b i) ∧ Aside0 (b = false → st = rd0) ∧ Aside0 (RdS w' w.heap.size (w.heap.size + 1 + 1) st) ∧ Aside0 (RGood st) ∧ Aside0 (Below w.heap.size w w') ∧
      Aside0 (w'.heap[w.heap.size]? = some (.cells #[.int .i64 0, .slice none 0 0] 24 (0, 0))) ∧ Aside0 (w'.heap[w.heap.size + 1]? = some (.cells #[.int .i64 0, .int .i64 0] 27 (0, 0))))
    case atStart => exact ⟨0, rd0, false, ⟨by omega⟩, rfl, rfl, HPF, ⟨fun _ => rfl⟩, HS3, ⟨good0⟩, HB3, HH0, HH1⟩
    case round =>
      clear HH0 HH1 HB3 HS3 HPF
      obtain ⟨i, st, b, HI, rfl, rfl, HA, HB0, HSt, HGt, HBt, HH0, HH1⟩ := hrel
      obtain ⟨wo, rfl⟩ : ∃ wo : World, wo = wr := ⟨_, rfl⟩
      by_cases hlt : i < x.size
      · have c1 : decide ((i : Int) < (x.size : Int)) = true := decide_eq_true (by omega)
        have q1 : ((i : Int) < (x.size : Int)) = True := eq_true (by omega)
        have q2 : ((i : Int) ≤ (x.size : Int)) = True := eq_true (by omega)
        have q3 : (0 ≤ (i : Int)) = True := eq_true (by omega)
        have hi : (i : Int) ≤ 262144 := by have := HX.out; omega
        obtain ⟨p, hp⟩ : ∃ p, p = befC 10 (x.data.toList.drop i) := ⟨_, rfl⟩
        have hpl : p.length ≤ x.size - i := by rw [hp]; have := befC_le 10 (x.data.toList.drop i); rwa [List.length_drop, data_length] at this
        have HPL := Aside0.mk hpl
        have HCUT : Aside0 (∀ W, Calls Tryz.prog 45 #[.string (x.extract i x.size), .string ⟨#[10]⟩] W fun e w' => (∃ a b : ByteArray, e = .returned (.tuple #[.string a, .string b, .bool (decide (10 ∈ (x.extract i x.size).data.toList))]) ∧ a.data.toList = p) ∧ Drawn0 W w') := ⟨fun W =>
          (cut1 (x.extract i x.size) 10 W (by rw [ByteArray.size_extract]; have := HX.out; omega)).mono fun e w' ⟨⟨a, b, h1, h2⟩, h3⟩ => ⟨⟨a, b, h1, by rw [h2, Lib.extract_to_end, hp]⟩, h3⟩⟩
        have HSHP : Aside0 (∀ W, Below wo.heap.size wo W → ShortsB p w.heap.size W) := ⟨fun W hW => by
          rw [hp]
          exact (shorts_line HE.out HGB.out i).imp id (fun h => ⟨(EVs_mono h.1 HBt.out h.2).below hW, h.2⟩)⟩
        have HLT := Aside0.mk hlt
        have hLL : i < x.data.toList.length := by rw [data_length]; exact hlt
        have HA1 : Aside0 (comment p = true → parseF x.data.toList = parseL x.data.toList st b (i + (p.length + 1))) := ⟨fun h => by rw [HA.out, parseL, dif_pos hLL, ← hp, if_pos h]⟩
        have HA2 : Aside0 (comment p = false → b = true → parseF x.data.toList = if (lineL p i st 0).2 ≠ (0, 0) then (0, [], (lineL p i st 0).2.1, (lineL p i st 0).2.2) else parseL x.data.toList (lineL p i st 0).1 true (i + (p.length + 1))) := ⟨fun h hb => by rw [HA.out, parseL, dif_pos hLL, ← hp, if_neg (by rw [h]; decide), if_pos hb]⟩
        have HA3 : Aside0 (comment p = false → b = false → parseF x.data.toList = if (problemL p).2.2 = false then (0, [], (i : Int), 140) else parseL x.data.toList { st with v := (problemL p).1, many := (problemL p).2.1 } true (i + (p.length + 1))) := ⟨fun h hb => by rw [HA.out, parseL, dif_pos hLL, ← hp, if_neg (by rw [h]; decide), if_neg (by rw [hb]; decide)]⟩
        clear hlt hLL hpl hp
        cases hco : comment p with
        | true =>
          have HN := Aside0.mk (HA1.out hco)
          clear HA1 HA2 HA3
          by_cases hp1 : p = [99]
          · have HP1 := Aside0.mk hp1
            clear hp1 hco
            go_wp2_with ((with_reducible refine (HCUT.out _).mono ?_); rintro e w1 ⟨⟨a, b1, rfl, hA⟩, ⟨m, rfl⟩⟩; have da : (a.toList == [99]) = true := (by rw [beq_iff_eq, Lib.toList_data, hA]; exact HP1.out); have HAS : Aside0 (a.size = p.length) := ⟨by rw [← data_length, hA]⟩; have has : (a.size : Int) ≤ 262144 := (by have h1 := HAS.out; have h2 := HPL.out; have h3 := HX.out; omega); clear hA)
            go_roundg (x.size + 1 - (i + (p.length + 1)))
            case measure => have h1 := HI.out; have h2 := HLT.out; omega
            case rel => exact ⟨i + (p.length + 1), st, b, ⟨by have h1 := HI.out; have h2 := HLT.out; have h3 := HPL.out; omega⟩, rfl, by rw [HAS.out]; go_num, HN, HB0, ⟨HSt.out.below (pw_below_drewN (Below.refl _ _) _)⟩, HGt, ⟨pw_below_drewN HBt.out _⟩, HH0, HH1⟩
          · have HP1 := Aside0.mk hp1
            have HP2 : Aside0 (Lib.hasPrefix p [99, 32] = true) := ⟨by unfold comment at hco; rw [decide_eq_false hp1, Bool.false_or] at hco; exact hco⟩
            clear hp1 hco
            go_wp2_with (first | ((with_reducible refine (HCUT.out _).mono ?_); rintro e w1 ⟨⟨a, b1, rfl, hA⟩, ⟨m, rfl⟩⟩; have da : (a.toList == [99]) = false := (by rw [beq_eq_false_iff_ne, Lib.toList_data, hA]; exact HP1.out); have HAS : Aside0 (a.size = p.length) := ⟨by rw [← data_length, hA]⟩; have has : (a.size : Int) ≤ 262144 := (by have h1 := HAS.out; have h2 := HPL.out; have h3 := HX.out; omega); have HAD := Aside0.mk hA; clear hA) | ((with_reducible refine (prefix_any _ _ _).mono ?_); rintro e w2 ⟨rfl, ⟨m2, rfl⟩⟩; rw [show Lib.hasPrefix a.data.toList (⟨#[99, 32]⟩ : ByteArray).data.toList = true by rw [HAD.out]; exact HP2.out]))
            go_roundg (x.size + 1 - (i + (p.length + 1)))
            case measure => have h1 := HI.out; have h2 := HLT.out; omega
            case rel => exact ⟨i + (p.length + 1), st, b, ⟨by have h1 := HI.out; have h2 := HLT.out; have h3 := HPL.out; omega⟩, rfl, by rw [HAS.out]; go_num, HN, HB0, ⟨HSt.out.below (pw_below_drewN (Below.refl _ _) _)⟩, HGt, ⟨pw_below_drewN HBt.out _⟩, HH0, HH1⟩
        | false =>
          have hco2 := hco
          unfold comment at hco2
          rw [Bool.or_eq_false_iff, decide_eq_false_iff_not] at hco2
          have HP1 := Aside0.mk hco2.1
          have HP2 := Aside0.mk hco2.2
          clear hco2
          cases b with
          | true =>
            have HN := Aside0.mk (HA2.out hco rfl)
            have HLN : Aside0 (∀ (a : ByteArray) W, a.data.toList = p → (a.size : Int) ≤ 262144 → Below wo.heap.size wo W → Calls Tryz.prog 47 #[.pointer (some ⟨w.heap.size + 1 + 1, 0, none⟩), .string a, .int .i64 (i : Int)] W fun e w' =>
              e = .returned (.agg #[.int .i64 (lineL p i st 0).2.1, .int .i64 (lineL p i st 0).2.2]) ∧ RdS w' w.heap.size (w.heap.size + 1 + 1) (lineL p i st 0).1 ∧ RGood (lineL p i st 0).1 ∧ Below w.heap.size W w' ∧ KeT TR W w') := ⟨fun a W ha hs hW => by
                have h := line_any w.heap.size (w.heap.size + 1 + 1) st a (i : Int) W (HSt.out.below hW) HGt.out (by omega) (by rw [ha]; exact HSHP.out W hW) (Nat.le_trans HBt.out.size hW.size)
                rw [ha] at h
                exact h⟩
            clear hco HA1 HA2 HA3
            generalize lineL p (i : Int) st 0 = r at *
            obtain ⟨st1, fa, fc⟩ := r
            dsimp only at *
            by_cases hfa : fa = 0
            · by_cases hfc : fc = 0
              · subst hfa hfc
                have HN2 : Aside0 (parseF x.data.toList = parseL x.data.toList st1 true (i + (p.length + 1))) := ⟨by rw [HN.out, if_neg (fun h => h rfl)]⟩
                go_wp2_with (first | ((with_reducible refine (HCUT.out _).mono ?_); rintro e w1 ⟨⟨a, b1, rfl, hA⟩, ⟨m, rfl⟩⟩; have da : (a.toList == [99]) = false := (by rw [beq_eq_false_iff_ne, Lib.toList_data, hA]; exact HP1.out); have HAS : Aside0 (a.size = p.length) := ⟨by rw [← data_length, hA]⟩; have has : (a.size : Int) ≤ 262144 := (by have h1 := HAS.out; have h2 := HPL.out; have h3 := HX.out; omega); have HAD := Aside0.mk hA; clear hA) | ((with_reducible refine (prefix_any _ _ _).mono ?_); rintro e w2 ⟨rfl, ⟨m2, rfl⟩⟩; rw [show Lib.hasPrefix a.data.toList (⟨#[99, 32]⟩ : ByteArray).data.toList = false by rw [HAD.out]; exact HP2.out]) | ((with_reducible refine (HLN.out a _ HAD.out has ?s1).mono ?_); (case s1 => exact pw_below_drewN (Below.refl _ _) _); rintro e w3 ⟨rfl, hS3, hG3, hB3, hK3⟩; have HS3 := Aside0.mk hS3; have HG3 := Aside0.mk hG3; have HB3 := Aside0.mk hB3; have HK3 := Aside0.mk hK3; clear hS3 hG3 hB3 hK3))
                go_roundg (x.size + 1 - (i + (p.length + 1)))
                case measure => have h1 := HI.out; have h2 := HLT.out; omega
                case rel => exact ⟨i + (p.length + 1), st1, true, ⟨by have h1 := HI.out; have h2 := HLT.out; have h3 := HPL.out; omega⟩, rfl, by rw [HAS.out]; go_num, HN2, ⟨fun h => by cases h⟩, ⟨HS3.out.below (below_alloc (Below.refl _ _) _)⟩, HG3, ⟨below_alloc ((pw_below_drewN HBt.out _).trans HB3.out) _⟩, ⟨blk_alloc (HK3.out.kt _ _ _ HH0.out (by decide)) _⟩, ⟨blk_alloc (HK3.out.kt _ _ _ HH1.out (by decide)) _⟩⟩
              · subst hfa
                have HN2 : Aside0 (parseF x.data.toList = (0, [], 0, fc)) := ⟨by rw [HN.out, if_pos (fun h => hfc (Prod.mk.inj h).2)]⟩
                have f1 : (fc = 0) = False := eq_false hfc
                have f2 : (fc == 0) = false := beq_eq_false_iff_ne.2 hfc
                clear hfc
                go_wp2_with (first | ((with_reducible refine (HCUT.out _).mono ?_); rintro e w1 ⟨⟨a, b1, rfl, hA⟩, ⟨m, rfl⟩⟩; have da : (a.toList == [99]) = false := (by rw [beq_eq_false_iff_ne, Lib.toList_data, hA]; exact HP1.out); have HAS : Aside0 (a.size = p.length) := ⟨by rw [← data_length, hA]⟩; have has : (a.size : Int) ≤ 262144 := (by have h1 := HAS.out; have h2 := HPL.out; have h3 := HX.out; omega); have HAD := Aside0.mk hA; clear hA) | ((with_reducible refine (prefix_any _ _ _).mono ?_); rintro e w2 ⟨rfl, ⟨m2, rfl⟩⟩; rw [show Lib.hasPrefix a.data.toList (⟨#[99, 32]⟩ : ByteArray).data.toList = false by rw [HAD.out]; exact HP2.out]) | ((with_reducible refine (HLN.out a _ HAD.out has ?s1).mono ?_); (case s1 => exact pw_below_drewN (Below.refl _ _) _); rintro e w3 ⟨rfl, hS3, hG3, hB3, hK3⟩; have HS3 := Aside0.mk hS3; have HG3 := Aside0.mk hG3; have HB3 := Aside0.mk hB3; have HK3 := Aside0.mk hK3; clear hS3 hG3 hB3 hK3))
                obtain ⟨W5, hW5⟩ : ∃ W5, W5 = w3.alloc (Obj.cells #[.int .i64 0, .int .i64 fc] 27) := ⟨_, rfl⟩
                rw [← hW5]
                have HB5 : Aside0 (Below w.heap.size w W5) := ⟨by rw [hW5]; exact below_alloc ((pw_below_drewN HBt.out _).trans HB3.out) _⟩
                have HQ0 : Aside0 (W5.heap[w.heap.size]? = some (.cells #[.int .i64 0, .slice none 0 0] 24 (0, 0))) := ⟨by rw [hW5]; exact blk_alloc (HK3.out.kt _ _ _ HH0.out (by decide)) _⟩
                have HQ1 : Aside0 (W5.heap[w.heap.size + 1]? = some (.cells #[.int .i64 0, .int .i64 0] 27 (0, 0))) := ⟨by rw [hW5]; exact blk_alloc (HK3.out.kt _ _ _ HH1.out (by decide)) _⟩
                have HQ2 : Aside0 (W5.heap[w3.heap.size]? = some (.cells #[.int .i64 0, .int .i64 fc] 27 (0, 0))) := ⟨by rw [hW5]; exact heap_new2 _ _ _ _⟩
                clear hW5
                have k0 := blk_cell HQ0.out 0
                have k1 := blk_cell HQ0.out 1
                have k2 := blk_cell HQ1.out 0
                have k3 := blk_cell HQ1.out 1
                have k4 := blk_cell HQ2.out 0
                have k5 := blk_cell HQ2.out 1
                have k6 := blk_frozen HQ0.out 0
                have k7 := blk_frozen HQ0.out 1
                have k8 := blk_frozen HQ1.out 0
                have k9 := blk_frozen HQ1.out 1
                have hsz : w.heap.size + 1 < w3.heap.size := (Array.getElem?_eq_some_iff.1 (HK3.out.kt _ _ _ HH1.out (by decide))).1
                have n1 : (w3.heap.size = w.heap.size) = False := eq_false (by omega)
                have n2 : (w.heap.size = w3.heap.size) = False := eq_false (by omega)
                have n3 : (w3.heap.size = w.heap.size + 1) = False := eq_false (by omega)
                have n4 : (w.heap.size + 1 = w3.heap.size) = False := eq_false (by omega)
                clear hsz
                go_region
                all_goals go_wp2
                all_goals (have hc := fin4_cells HQ0.out HQ1.out (by omega) (.int .i64 0) (.slice none 0 0) (.int .i64 0) (.int .i64 fc))
                all_goals (unfold fin4 at hc)
                all_goals (refine bodyPost_ret (v := .tuple #[.agg #[.int .i64 0, .slice none 0 0], .agg #[.int .i64 0, .int .i64 fc]]) (by simp [results, Tryz.results12, go_sem, hc.1, hc.2.1, hc.2.2.1, hc.2.2.2]) rfl ?_)
                all_goals (rw [HN2.out]; exact ⟨_, rfl, Kd.S_nil _ _ _ _ _, below_drew (fin4_below HB5.out (Nat.le_refl _) (Nat.le_succ _) _ _ _ _)⟩)
            · have HN2 : Aside0 (parseF x.data.toList = (0, [], fa, fc)) := ⟨by rw [HN.out, if_pos (fun h => hfa (Prod.mk.inj h).1)]⟩
              have f1 : (fa = 0) = False := eq_false hfa
              have f2 : (fa == 0) = false := beq_eq_false_iff_ne.2 hfa
              clear hfa
              go_wp2_with (first | ((with_reducible refine (HCUT.out _).mono ?_); rintro e w1 ⟨⟨a, b1, rfl, hA⟩, ⟨m, rfl⟩⟩; have da : (a.toList == [99]) = false := (by rw [beq_eq_false_iff_ne, Lib.toList_data, hA]; exact HP1.out); have HAS : Aside0 (a.size = p.length) := ⟨by rw [← data_length, hA]⟩; have has : (a.size : Int) ≤ 262144 := (by have h1 := HAS.out; have h2 := HPL.out; have h3 := HX.out; omega); have HAD := Aside0.mk hA; clear hA) | ((with_reducible refine (prefix_any _ _ _).mono ?_); rintro e w2 ⟨rfl, ⟨m2, rfl⟩⟩; rw [show Lib.hasPrefix a.data.toList (⟨#[99, 32]⟩ : ByteArray).data.toList = false by rw [HAD.out]; exact HP2.out]) | ((with_reducible refine (HLN.out a _ HAD.out has ?s1).mono ?_); (case s1 => exact pw_below_drewN (Below.refl _ _) _); rintro e w3 ⟨rfl, hS3, hG3, hB3, hK3⟩; have HS3 := Aside0.mk hS3; have HG3 := Aside0.mk hG3; have HB3 := Aside0.mk hB3; have HK3 := Aside0.mk hK3; clear hS3 hG3 hB3 hK3))
              obtain ⟨W5, hW5⟩ : ∃ W5, W5 = w3.alloc (Obj.cells #[.int .i64 fa, .int .i64 fc] 27) := ⟨_, rfl⟩
              rw [← hW5]
              have HB5 : Aside0 (Below w.heap.size w W5) := ⟨by rw [hW5]; exact below_alloc ((pw_below_drewN HBt.out _).trans HB3.out) _⟩
              have HQ0 : Aside0 (W5.heap[w.heap.size]? = some (.cells #[.int .i64 0, .slice none 0 0] 24 (0, 0))) := ⟨by rw [hW5]; exact blk_alloc (HK3.out.kt _ _ _ HH0.out (by decide)) _⟩
              have HQ1 : Aside0 (W5.heap[w.heap.size + 1]? = some (.cells #[.int .i64 0, .int .i64 0] 27 (0, 0))) := ⟨by rw [hW5]; exact blk_alloc (HK3.out.kt _ _ _ HH1.out (by decide)) _⟩
              have HQ2 : Aside0 (W5.heap[w3.heap.size]? = some (.cells #[.int .i64 fa, .int .i64 fc] 27 (0, 0))) := ⟨by rw [hW5]; exact heap_new2 _ _ _ _⟩
              clear hW5
              have k0 := blk_cell HQ0.out 0
              have k1 := blk_cell HQ0.out 1
              have k2 := blk_cell HQ1.out 0
              have k3 := blk_cell HQ1.out 1
              have k4 := blk_cell HQ2.out 0
              have k5 := blk_cell HQ2.out 1
              have k6 := blk_frozen HQ0.out 0
              have k7 := blk_frozen HQ0.out 1
              have k8 := blk_frozen HQ1.out 0
              have k9 := blk_frozen HQ1.out 1
              have hsz : w.heap.size + 1 < w3.heap.size := (Array.getElem?_eq_some_iff.1 (HK3.out.kt _ _ _ HH1.out (by decide))).1
              have n1 : (w3.heap.size = w.heap.size) = False := eq_false (by omega)
              have n2 : (w.heap.size = w3.heap.size) = False := eq_false (by omega)
              have n3 : (w3.heap.size = w.heap.size + 1) = False := eq_false (by omega)
              have n4 : (w.heap.size + 1 = w3.heap.size) = False := eq_false (by omega)
              clear hsz
              go_region
              all_goals go_wp2
              all_goals (have hc := fin4_cells HQ0.out HQ1.out (by omega) (.int .i64 0) (.slice none 0 0) (.int .i64 fa) (.int .i64 fc))
              all_goals (unfold fin4 at hc)
              all_goals (refine bodyPost_ret (v := .tuple #[.agg #[.int .i64 0, .slice none 0 0], .agg #[.int .i64 fa, .int .i64 fc]]) (by simp [results, Tryz.results12, go_sem, hc.1, hc.2.1, hc.2.2.1, hc.2.2.2]) rfl ?_)
              all_goals (rw [HN2.out]; exact ⟨_, rfl, Kd.S_nil _ _ _ _ _, below_drew (fin4_below HB5.out (Nat.le_refl _) (Nat.le_succ _) _ _ _ _)⟩)
          | false =>
            have HN := Aside0.mk (HA3.out hco rfl)
            have HST0 := Aside0.mk (HB0.out rfl)
            have HPR : Aside0 (∀ (a : ByteArray) W, a.data.toList = p → (a.size : Int) ≤ 262144 → Below wo.heap.size wo W → Calls Tryz.prog 48 #[.string a] W fun e w' =>
              e = .returned (.tuple #[.int .i64 (problemL p).1, .int .i64 (problemL p).2.1, .bool (problemL p).2.2]) ∧ Below W.heap.size W w') := ⟨fun a W ha hs hW => by
                have h := problem_any a W (by omega) (by rw [ha]; exact shorts_b (HSHP.out W hW))
                rw [ha] at h
                exact h⟩
            have HGP := Aside0.mk (problem_good p)
            clear hco HA1 HA2 HA3
            generalize problemL p = r at *
            obtain ⟨pv, pm, pok⟩ := r
            dsimp only at *
            cases pok with
            | false =>
              have HN2 : Aside0 (parseF x.data.toList = (0, [], (i : Int), 140)) := ⟨by rw [HN.out, if_pos rfl]⟩
              go_wp2_with (first | ((with_reducible refine (HCUT.out _).mono ?_); rintro e w1 ⟨⟨a, b1, rfl, hA⟩, ⟨m, rfl⟩⟩; have da : (a.toList == [99]) = false := (by rw [beq_eq_false_iff_ne, Lib.toList_data, hA]; exact HP1.out); have HAS : Aside0 (a.size = p.length) := ⟨by rw [← data_length, hA]⟩; have has : (a.size : Int) ≤ 262144 := (by have h1 := HAS.out; have h2 := HPL.out; have h3 := HX.out; omega); have HAD := Aside0.mk hA; clear hA) | ((with_reducible refine (prefix_any _ _ _).mono ?_); rintro e w2 ⟨rfl, ⟨m2, rfl⟩⟩; rw [show Lib.hasPrefix a.data.toList (⟨#[99, 32]⟩ : ByteArray).data.toList = false by rw [HAD.out]; exact HP2.out]) | ((with_reducible refine (HPR.out a _ HAD.out has ?s1).mono ?_); (case s1 => exact pw_below_drewN (Below.refl _ _) _); rintro e w3 ⟨rfl, hB3⟩; have HB3 : Aside0 (Below w.heap.size w w3) := ⟨(pw_below_drewN HBt.out _).trans (hB3.mono HBt.out.size)⟩; have HS3 : Aside0 (RdS w3 w.heap.size (w.heap.size + 1 + 1) st) := ⟨(HSt.out.below (pw_below_drewN (Below.refl _ _) _)).below hB3⟩; have HQ0 : Aside0 (w3.heap[w.heap.size]? = _) := ⟨(hB3.block _ (Array.getElem?_eq_some_iff.1 HH0.out).1).trans HH0.out⟩; have HQ1 : Aside0 (w3.heap[w.heap.size + 1]? = _) := ⟨(hB3.block _ (Array.getElem?_eq_some_iff.1 HH1.out).1).trans HH1.out⟩; clear hB3; have k0 := blk_cell HQ0.out 0; have k1 := blk_cell HQ0.out 1; have k2 := blk_cell HQ1.out 0; have k3 := blk_cell HQ1.out 1; have k4 := blk_frozen HQ0.out 0; have k5 := blk_frozen HQ0.out 1; have k6 := blk_frozen HQ1.out 0; have k7 := blk_frozen HQ1.out 1; obtain ⟨A9, c9, A8, c8, hg9, hs9, hr9⟩ := RdS.parts HS3.out; clear hs9 hr9; obtain ⟨g0, g1, g2, g3, g4, g5⟩ := five hg9; clear hg9))
              have HW6 : Aside0 (((w3.setCell ⟨w.heap.size + 1 + 1, 0, none⟩ (.int .i64 pv)).setCell ⟨w.heap.size + 1 + 1, 2, none⟩ (.int .i64 pm)).heap[w.heap.size]? = _) := ⟨blk_far (blk_far HQ0.out (by show w.heap.size ≠ w.heap.size + 1 + 1; omega) _) (by show w.heap.size ≠ w.heap.size + 1 + 1; omega) _⟩
              have HW7 : Aside0 (((w3.setCell ⟨w.heap.size + 1 + 1, 0, none⟩ (.int .i64 pv)).setCell ⟨w.heap.size + 1 + 1, 2, none⟩ (.int .i64 pm)).heap[w.heap.size + 1]? = _) := ⟨blk_far (blk_far HQ1.out (by show w.heap.size + 1 ≠ w.heap.size + 1 + 1; omega) _) (by show w.heap.size + 1 ≠ w.heap.size + 1 + 1; omega) _⟩
              have hc := fin4_cells HW6.out HW7.out (by omega) (.int .i64 0) (.slice none 0 0) (.int .i64 (i : Int)) (.int .i64 140)
              unfold fin4 at hc
              refine bodyPost_ret (v := .tuple #[.agg #[.int .i64 0, .slice none 0 0], .agg #[.int .i64 (i : Int), .int .i64 140]]) (by simp [results, Tryz.results12, go_sem, hc.1, hc.2.1, hc.2.2.1, hc.2.2.2]) rfl ?_
              rw [HN2.out]
              exact ⟨_, rfl, Kd.S_nil _ _ _ _ _, fin4_below ((HB3.out.setCell (by show w.heap.size ≤ w.heap.size + 1 + 1; omega) _).setCell (by show w.heap.size ≤ w.heap.size + 1 + 1; omega) _) (Nat.le_refl _) (Nat.le_succ _) _ _ _ _⟩
            | true =>
              have HN2 : Aside0 (parseF x.data.toList = parseL x.data.toList { st with v := pv, many := pm } true (i + (p.length + 1))) := ⟨by rw [HN.out, if_neg (by decide)]⟩
              go_wp2_with (first | ((with_reducible refine (HCUT.out _).mono ?_); rintro e w1 ⟨⟨a, b1, rfl, hA⟩, ⟨m, rfl⟩⟩; have da : (a.toList == [99]) = false := (by rw [beq_eq_false_iff_ne, Lib.toList_data, hA]; exact HP1.out); have HAS : Aside0 (a.size = p.length) := ⟨by rw [← data_length, hA]⟩; have has : (a.size : Int) ≤ 262144 := (by have h1 := HAS.out; have h2 := HPL.out; have h3 := HX.out; omega); have HAD := Aside0.mk hA; clear hA) | ((with_reducible refine (prefix_any _ _ _).mono ?_); rintro e w2 ⟨rfl, ⟨m2, rfl⟩⟩; rw [show Lib.hasPrefix a.data.toList (⟨#[99, 32]⟩ : ByteArray).data.toList = false by rw [HAD.out]; exact HP2.out]) | ((with_reducible refine (HPR.out a _ HAD.out has ?s1).mono ?_); (case s1 => exact pw_below_drewN (Below.refl _ _) _); rintro e w3 ⟨rfl, hB3⟩; have HB3 : Aside0 (Below w.heap.size w w3) := ⟨(pw_below_drewN HBt.out _).trans (hB3.mono HBt.out.size)⟩; have HS3 : Aside0 (RdS w3 w.heap.size (w.heap.size + 1 + 1) st) := ⟨(HSt.out.below (pw_below_drewN (Below.refl _ _) _)).below hB3⟩; have HQ0 : Aside0 (w3.heap[w.heap.size]? = _) := ⟨(hB3.block _ (Array.getElem?_eq_some_iff.1 HH0.out).1).trans HH0.out⟩; have HQ1 : Aside0 (w3.heap[w.heap.size + 1]? = _) := ⟨(hB3.block _ (Array.getElem?_eq_some_iff.1 HH1.out).1).trans HH1.out⟩; clear hB3; have k0 := blk_cell HQ0.out 0; have k1 := blk_cell HQ0.out 1; have k2 := blk_cell HQ1.out 0; have k3 := blk_cell HQ1.out 1; have k4 := blk_frozen HQ0.out 0; have k5 := blk_frozen HQ0.out 1; have k6 := blk_frozen HQ1.out 0; have k7 := blk_frozen HQ1.out 1; obtain ⟨A9, c9, A8, c8, hg9, hs9, hr9⟩ := RdS.parts HS3.out; clear hs9 hr9; obtain ⟨g0, g1, g2, g3, g4, g5⟩ := five hg9; clear hg9))
              go_roundg (x.size + 1 - (i + (p.length + 1)))
              case measure => have h1 := HI.out; have h2 := HLT.out; omega
              case rel => exact ⟨i + (p.length + 1), { st with v := pv, many := pm }, true, ⟨by have h1 := HI.out; have h2 := HLT.out; have h3 := HPL.out; omega⟩, rfl, by rw [HAS.out]; go_num, HN2, ⟨fun h => by cases h⟩, ⟨RdS_setProb HS3.out pv pm⟩, ⟨by rw [HST0.out]; exact HGP.out⟩, ⟨(HB3.out.setCell (by show w.heap.size ≤ w.heap.size + 1 + 1; omega) _).setCell (by show w.heap.size ≤ w.heap.size + 1 + 1; omega) _⟩, ⟨blk_far (blk_far HQ0.out (by show w.heap.size ≠ w.heap.size + 1 + 1; omega) _) (by show w.heap.size ≠ w.heap.size + 1 + 1; omega) _⟩, ⟨blk_far (blk_far HQ1.out (by show w.heap.size + 1 ≠ w.heap.size + 1 + 1; omega) _) (by show w.heap.size + 1 ≠ w.heap.size + 1 + 1; omega) _⟩⟩
      · have c1 : decide ((i : Int) < (x.size : Int)) = false := decide_eq_false (by omega)
        have q1 : ((i : Int) < (x.size : Int)) = False := eq_false (by omega)
        have HN : Aside0 (parseF x.data.toList = endL x.data.toList st b) := ⟨by rw [HA.out, parseL, dif_neg (by rw [data_length]; omega)]⟩
        have k0 := blk_cell HH0.out 0
        have k1 := blk_cell HH0.out 1
        have k2 := blk_cell HH1.out 0
        have k3 := blk_cell HH1.out 1
        have k4 := blk_frozen HH0.out 0
        have k5 := blk_frozen HH0.out 1
        have k6 := blk_frozen HH1.out 0
        have k7 := blk_frozen HH1.out 1
        obtain ⟨A9, c9, A8, c8, hg9, hs9, hr9⟩ := RdS.parts HSt.out
        have HS9 := Aside0.mk hs9
        clear hs9 hr9
        clear hlt
        cases b with
        | false =>
          have HN2 : Aside0 (parseF x.data.toList = (0, [], (x.size : Int), 140)) := ⟨by rw [HN.out, endL, if_pos rfl, data_length]⟩
          clear hg9
          go_wp2
          have hc := fin4_cells HH0.out HH1.out (by omega) (.int .i64 0) (.slice none 0 0) (.int .i64 (x.size : Int)) (.int .i64 140)
          unfold fin4 at hc
          refine bodyPost_ret (v := .tuple #[.agg #[.int .i64 0, .slice none 0 0], .agg #[.int .i64 (x.size : Int), .int .i64 140]]) (by simp [results, Tryz.results12, go_sem, hc.1, hc.2.1, hc.2.2.1, hc.2.2.2]) rfl ?_
          rw [HN2.out]
          exact ⟨_, rfl, Kd.S_nil _ _ _ _ _, fin4_below HBt.out (Nat.le_refl _) (Nat.le_succ _) _ _ _ _⟩
        | true =>
          obtain ⟨g0, g1, g2, g3, g4, g5⟩ := five hg9
          clear hg9
          cases hop : st.op with
          | true =>
            have HN2 : Aside0 (parseF x.data.toList = (0, [], (x.size : Int), 41)) := ⟨by rw [HN.out, endL, if_neg (by decide), if_pos hop, data_length]⟩
            rw [hop] at g4
            clear hop
            go_wp2
            go_quiet (fail)
            go_wp2
            have hc := fin4_cells (W := wo.drewN nq) HH0.out HH1.out (by omega) (.int .i64 0) (.slice none 0 0) (.int .i64 (x.size : Int)) (.int .i64 41)
            unfold fin4 at hc
            refine bodyPost_ret (v := .tuple #[.agg #[.int .i64 0, .slice none 0 0], .agg #[.int .i64 (x.size : Int), .int .i64 41]]) (by simp [results, Tryz.results12, go_sem, hc.1, hc.2.1, hc.2.2.1, hc.2.2.2]) rfl ?_
            rw [HN2.out]
            exact ⟨_, rfl, Kd.S_nil _ _ _ _ _, fin4_below (pw_below_drewN HBt.out _) (Nat.le_refl _) (Nat.le_succ _) _ _ _ _⟩
          | false =>
            rw [hop] at g4
            by_cases hlm : (st.cs.length : Int) < st.many
            · have HN2 : Aside0 (parseF x.data.toList = (0, [], (x.size : Int), 41)) := ⟨by rw [HN.out, endL, if_neg (by decide), if_neg (by rw [hop]; decide), if_pos hlm, data_length]⟩
              have d1 : decide ((st.cs.length : Int) < st.many) = true := decide_eq_true hlm
              clear hop hlm
              go_wp2
              go_quiet (fail)
              go_wp2
              have hc := fin4_cells (W := wo.drewN nq) HH0.out HH1.out (by omega) (.int .i64 0) (.slice none 0 0) (.int .i64 (x.size : Int)) (.int .i64 41)
              unfold fin4 at hc
              refine bodyPost_ret (v := .tuple #[.agg #[.int .i64 0, .slice none 0 0], .agg #[.int .i64 (x.size : Int), .int .i64 41]]) (by simp [results, Tryz.results12, go_sem, hc.1, hc.2.1, hc.2.2.1, hc.2.2.2]) rfl ?_
              rw [HN2.out]
              exact ⟨_, rfl, Kd.S_nil _ _ _ _ _, fin4_below (pw_below_drewN HBt.out _) (Nat.le_refl _) (Nat.le_succ _) _ _ _ _⟩
            · have HN2 : Aside0 (parseF x.data.toList = (st.v, st.cs, 0, 0)) := ⟨by rw [HN.out, endL, if_neg (by decide), if_neg (by rw [hop]; decide), if_neg hlm]⟩
              have d1 : decide ((st.cs.length : Int) < st.many) = false := decide_eq_false hlm
              clear hop hlm
              go_wp2
              go_quiet (fail)
              go_wp2
              have hc := fin4_cells (W := wo.drewN nq) HH0.out HH1.out (by omega) (.int .i64 st.v) (.slice A9 st.cs.length c9) (.int .i64 0) (.int .i64 0)
              unfold fin4 at hc
              refine bodyPost_ret (v := .tuple #[.agg #[.int .i64 st.v, .slice A9 st.cs.length c9], .agg #[.int .i64 0, .int .i64 0]]) (by simp [results, Tryz.results12, go_sem, hc.1, hc.2.1, hc.2.2.1, hc.2.2.2]) rfl ?_
              rw [HN2.out]
              exact ⟨_, rfl, fin4_S (Kd.S_drewN (Kd.S_mono HS9.out (fun _ _ => trivial)) nq) HH0.out HH1.out (by omega) _ _ _ _, fin4_below (pw_below_drewN HBt.out _) (Nat.le_refl _) (Nat.le_succ _) _ _ _ _⟩
end Go.Proofs.YtjfmoildblcjiaaGreatDoor.P8
end

section
/- What is proved here: functions of layer 14 as the printer's functions. -/
namespace Go.Proofs.YtjfmoildblcjiaaGreatDoor.Orc
open Go.RowKit Go.Proofs.YtjfmoildblcjiaaGreatDoorW.PrintWords Go.Proofs.YtjfmoildblcjiaaGreatDoorW.PrintLast Go.Proofs.YtjfmoildblcjiaaGreatDoorW.PrintMore Go.Proofs.YtjfmoildblcjiaaGreatDoor.H1 Go.Proofs.YtjfmoildblcjiaaGreatDoor.H2 Go.Proofs.YtjfmoildblcjiaaGreatDoor.H4 Go.Proofs.YtjfmoildblcjiaaGreatDoor.H5 Go.Proofs.YtjfmoildblcjiaaGreatDoor.H7 Go.Proofs.YtjfmoildblcjiaaGreatDoor.H8 Go.Proofs.YtjfmoildblcjiaaGreatDoor.H21 Go.Proofs.YtjfmoildblcjiaaGreatDoor.H22 Go.Proofs.YtjfmoildblcjiaaGreatDoor.P1 Go.Proofs.YtjfmoildblcjiaaGreatDoor.P8

def cnf_Models.f (a0_0 : Int) (l0_1 : List (List Int)) : Option (Int × Int) := some (modelsE a0_0 l0_1, trialsE a0_0 l0_1)
theorem cnf_Models.calls (a0_0 : Int) (A0_1 : Option Addr) (c0_1 : Nat) (l0_1 : List (List Int)) (r1 r2 : Int) (w : World) (hr0 : Kd.C (Kd.slice 3 (Kd.int .i64)) w A0_1 l0_1.length l0_1) (hc0 : l0_1.length ≤ c0_1) (h : cnf_Models.f a0_0 l0_1 = some (r1, r2)) :
    Calls Tryz.prog 27 #[.agg #[.int .i64 a0_0, .slice A0_1 l0_1.length c0_1]] w fun e w' => e = .returned (.tuple #[.int .i64 r1, .int .i64 r2]) ∧ Below w.heap.size w w' := by
  have e : (modelsE a0_0 l0_1, trialsE a0_0 l0_1) = (r1, r2) := Option.some.inj h
  cases e
  exact models_any a0_0 A0_1 c0_1 l0_1 w hr0 hc0

def cnf_Holds.f (v : Int) (cs : List (List Int)) (m : List Bool) : Option (Bool × Int × Int) := some (holdsE v cs m)
theorem cnf_Holds.calls (a0_0 : Int) (A0_1 : Option Addr) (c0_1 : Nat) (l0_1 : List (List Int)) (A1 : Option Addr) (c1 : Nat) (l1 : List Bool) (r1 : Bool) (r2 r3 : Int) (w : World) (hr0 : Kd.C (Kd.slice 3 (Kd.int .i64)) w A0_1 l0_1.length l0_1) (hc0 : l0_1.length ≤ c0_1) (hr1 : Kd.C Kd.bool w A1 l1.length l1) (_hc1 : l1.length ≤ c1) (h : cnf_Holds.f a0_0 l0_1 l1 = some (r1, r2, r3)) :
    Calls Tryz.prog 25 #[.agg #[.int .i64 a0_0, .slice A0_1 l0_1.length c0_1], .slice A1 l1.length c1] w fun e w' => e = .returned (.tuple #[.bool r1, .int .i64 r2, .int .i64 r3]) ∧ Below w.heap.size w w' := by
  have e : holdsE a0_0 l0_1 l1 = (r1, r2, r3) := Option.some.inj h
  have := holds_model a0_0 A0_1 c0_1 l0_1 A1 c1 l1 w hr0 hc0 hr1
  rw [e] at this
  exact this

noncomputable def forceE (v : Int) (cs : List (List Int)) (l : List Int) : List Int × Bool × Int :=
  if (checkE v cs).2 ≠ 0 then ([], false, (checkE v cs).2) else if litsE l v ≠ 0 then ([], false, litsE l v) else match (initL [] l).bind (forceV cs) with | none => ([], false, 0) | some S => (sortA S, true, 0)
noncomputable def cnf_Force.f (v : Int) (cs : List (List Int)) (l : List Int) : Option (List Int × Bool × Int) := some (forceE v cs l)
theorem cnf_Force.calls (a0_0 : Int) (A0_1 : Option Addr) (c0_1 : Nat) (l0_1 : List (List Int)) (A1 : Option Addr) (c1 : Nat) (l1 : List Int) (r1 : List Int) (r2 : Bool) (r3 : Int) (w : World) (hr0 : Kd.C (Kd.slice 3 (Kd.int .i64)) w A0_1 l0_1.length l0_1) (hc0 : l0_1.length ≤ c0_1) (hr1 : Kd.C (Kd.int .i64) w A1 l1.length l1) (hc1 : l1.length ≤ c1) (h : cnf_Force.f a0_0 l0_1 l1 = some (r1, r2, r3)) :
    Calls Tryz.prog 19 #[.agg #[.int .i64 a0_0, .slice A0_1 l0_1.length c0_1], .slice A1 l1.length c1] w fun e w' => ∃ v0_ : Value, e = .returned (.tuple #[v0_, .bool r2, .int .i64 r3]) ∧ Kd.R (Kd.int .i64) 3 w' w.heap.size (fun _ => True) v0_ r1 ∧ Below w.heap.size w w' := by
  have e : forceE a0_0 l0_1 l1 = (r1, r2, r3) := Option.some.inj h
  refine (force_any a0_0 A0_1 c0_1 l0_1 A1 c1 l1 w hr0 hc0 hr1 hc1).mono fun e' w' ⟨hb, ha⟩ => ?_
  unfold forceE at e
  split at ha
  · rename_i h0
    rw [if_pos h0] at e; cases e
    exact ⟨_, ha, Kd.R_nil _ _ _ _ _, hb⟩
  · rename_i h0
    rw [if_neg h0] at e
    split at ha
    · rename_i h1
      rw [if_pos h1] at e; cases e
      exact ⟨_, ha, Kd.R_nil _ _ _ _ _, hb⟩
    · rename_i h1
      rw [if_neg h1] at e
      split at ha
      · rename_i h2
        rw [h2] at e; cases e
        exact ⟨_, ha, Kd.R_nil _ _ _ _ _, hb⟩
      · rename_i S h2
        rw [h2] at e; cases e
        obtain ⟨_, u, h3, h4⟩ := ha
        exact ⟨u, h3, h4, hb⟩

/-- No word is longer than 18 bytes. -/
def ShortW (l : List UInt8) : Prop := ∀ i j, i ≤ j → j ≤ l.length → (∀ k (hk : k < l.length), i ≤ k → k < j → P5.blank l[k] = false ∧ l[k] ≠ 10) → j - i ≤ 18
open Classical in
noncomputable def cnf_Parse.f (a0 : ByteArray) : Option (Int × List (List Int) × Int × Int) := if ShortW a0.data.toList then some (parseF a0.data.toList) else none
theorem cnf_Parse.calls (a0 : ByteArray) (r1 : Int) (r2 : List (List Int)) (r3 r4 : Int) (w : World) (h : cnf_Parse.f a0 = some (r1, r2, r3, r4)) :
    Calls Tryz.prog 12 #[.string a0] w fun e w' => ∃ v1_ : Value, e = .returned (.tuple #[.agg #[.int .i64 r1, v1_], .agg #[.int .i64 r3, .int .i64 r4]]) ∧ Kd.S (Kd.slice 3 (Kd.int .i64)) 65 w' w.heap.size (fun _ => True) v1_ r2 ∧ Below w.heap.size w w' := by
  unfold cnf_Parse.f at h
  split at h
  · rename_i hs
    have e : parseF a0.data.toList = (r1, r2, r3, r4) := Option.some.inj h
    have := parse_any a0 w (.inl hs)
    unfold ParsePost at this
    rw [e] at this
    exact this
  · cases h
end Go.Proofs.YtjfmoildblcjiaaGreatDoor.Orc
end

section
/- What is proved here: contracts of slices.Grow at no row, slices.Clone at clauses, slices.Concat at two rows of clauses. -/
namespace Go.Proofs.YtjfmoildblcjiaaGreatDoor.H24
open Go.RowKit Go.Proofs.YtjfmoildblcjiaaGreatDoorW.PrintWords Go.Proofs.YtjfmoildblcjiaaGreatDoorW.PrintLast Go.Proofs.YtjfmoildblcjiaaGreatDoorW.PrintMore Go.Proofs.YtjfmoildblcjiaaGreatDoor.H1 Go.Proofs.YtjfmoildblcjiaaGreatDoor.H2

abbrev mixK (w0 : World) : Kd (List Int) := Kd.mix 3 (Kd.int .i64) (Kd.int .i64) w0
theorem info_clause : (Tryz.prog.info? 65).map (fun i => (i.zero, i.size, i.bytes)) = some (some (.slice none 0 0), 1, 24) := by kernel_rfl
theorem info_clause' : ∃ i, Tryz.prog.info? 65 = some i := by
  have h := info_clause
  obtain ⟨i, hi, _⟩ := Option.map_eq_some_iff.1 h
  exact ⟨i, hi⟩

set_option maxHeartbeats 1000000 in
set_option maxRecDepth 100000 in
theorem grow0 (w : World) :
    Calls Tryz.prog 108 #[.slice none 0 0, .int .i64 0] w fun e w' => e = .returned (.slice none 0 0) ∧ w' = w := by
  go_enter Tryz.func108, Tryz.ntmps108
  go_wp2
  go_ret
  exact ⟨rfl, rfl⟩

theorem wrap_in {z : Int} (h0 : 0 < z) (hn : z ≤ 1000000) : wrap64 z = z := by unfold wrap64; omega
set_option maxHeartbeats 1000000 in
set_option maxRecDepth 100000 in
theorem growN (w0 : World) (z : Int) (w : World) (h0 : 0 < z) (hn : z ≤ 1000000) :
    Calls Tryz.prog 108 #[.slice none 0 0, .int .i64 z] w fun e w' => ∃ v, e = .returned v ∧ Kd.R (mixK w0) 65 w' w.heap.size (fun _ => True) v [] ∧ Below w.heap.size w w' := by
  have HW := Aside0.mk (wrap_in h0 hn)
  have q0 : (z < 0) = False := eq_false (by omega)
  have q1 : (0 < wrap64 z) = True := eq_true (by rw [HW.out]; omega)
  have c0 : decide (z < 0) = false := decide_eq_false (by omega)
  have c1 : decide (0 < wrap64 z) = true := decide_eq_true (by rw [HW.out]; omega)
  have HN := Aside0.mk hn
  have H0 := Aside0.mk h0
  have HCT := Aside0.mk (fun (A : Option Addr) (k c : Nat) (hc : k ≤ c) => cut_to (P := Tryz.prog) 22 65 .i64 Tryz.underlying22 info_clause'.choose_spec A k c 0 (by decide) (by omega) hc)
  have HZ : Aside0 ((mixK w0).M w w.heap.size (fun _ => False) [] (Value.slice none 0 0).cells.toList) := ⟨Kd.mix_made (Kd.R_nil _ _ _ _ _)⟩
  clear h0 hn
  go_enter Tryz.func108, Tryz.ntmps108
  go_wp2_with ((with_reducible refine gate_builtin (b := .append) (xs := #[.tmp 20, .tmp 21]) rfl ?_); at_builtin; refine Kd.R_append_zeros (mixK w0) (w0 := w) w.heap.size rfl (.tmp 20) (.tmp 21) 22 3 65 (.slice none 0 0) 24 rfl Tryz.underlying22 Tryz.underlying3 info_clause rfl Nat.one_pos (by decide) (.slice none 0 0) [] [] (wrap64 z) (fun _ => True) rfl rfl HZ.out (fun _ _ => trivial) (Kd.R_nil _ _ _ _ _) (by rw [HW.out]; have := H0.out; omega) (Below.refl _ _) (Nat.le_refl _) (by rw [HW.out]; have := HN.out; simp; omega) ?_; intro v1 w9 ho hb hg hat; obtain ⟨A9, c9, rfl⟩ := Kd.R_slice ho; have hc9 := (Kd.R_reads' ho).2.1; have hcut := HCT.out A9 _ c9 hc9; have HO9 := Aside0.mk ho; have HB9 := Aside0.mk hb; clear ho hb hg hat hc9)
  go_ret
  exact ⟨_, rfl, Kd.R_take (m := 0) HO9.out (Nat.zero_le _), HB9.out⟩
theorem info_int : (Tryz.prog.info? 3).map (fun i => (i.zero, i.size, i.bytes)) = some (some (.int .i64 0), 1, 8) := by kernel_rfl
set_option maxHeartbeats 1000000 in
set_option maxRecDepth 100000 in
theorem cloneC_any (A : Option Addr) (c : Nat) (l : List Int) (w : World) (hr : Kd.C (Kd.int .i64) w A l.length l) (hb : l.length ≤ 1000000) :
    Calls Tryz.prog 73 #[.slice A l.length c] w fun e w' => ∃ v, e = .returned v ∧ Kd.R (Kd.int .i64) 3 w' w.heap.size (fun _ => True) v l ∧ Below w.heap.size w w' := by
  have HR := Aside0.mk hr
  have HB := Aside0.mk hb
  have hnil := fun (w : World) (a : Option Addr) (l c : Nat) => Go.Lib.run_eql_slice_nil (P := Tryz.prog) (w := w) (t := 65) (e := 3) (a := a) (n := l) (c := c) (n' := 0) (c' := 0) (h := Tryz.underlying65)
  clear hr hb
  cases A with
  | none =>
    have hl : l = [] := by
      have h1 := HR.out
      rcases Nat.eq_zero_or_pos l.length with h0 | h0
      · exact List.length_eq_zero_iff.1 h0
      · obtain ⟨ad, h2, _⟩ := h1.2.2 h0
        cases h2
    subst hl
    go_enter Tryz.func73, Tryz.ntmps73
    go_wp2
    go_ret
    exact ⟨_, rfl, Kd.R_nil _ _ _ _ _, Below.refl _ _⟩
  | some ad =>
    go_enter Tryz.func73, Tryz.ntmps73
    have HE0 : Aside0 (Kd.R (Kd.int .i64) 3 (w.alloc (.cells #[] 3)) w.heap.size (fun _ => True) (.slice (some ⟨w.heap.size, 0, none⟩) 0 0) []) := ⟨Kd.R_of_own (own_lit_of (enc := Value.int .i64) w w.heap.size 3 [] (Nat.le_refl _) (by simp)) (fun _ _ => trivial)⟩
    go_wp2_with ((with_reducible refine gate_builtin (b := .append) (xs := #[.tmp 5, .tmp 6]) rfl ?_); at_builtin; refine Kd.R_append_rows (Kd.int .i64) (Rr := (Kd.int .i64).K w) (w0 := w) w.heap.size rfl (.tmp 5) (.tmp 6) 65 3 (.int .i64 0) 8 rfl Tryz.underlying65 info_int rfl (by decide) (by decide) (.slice (some ⟨w.heap.size, 0, none⟩) 0 0) [] l (some ad) l.length c (fun _ => True) (fun _ => False) rfl rfl HE0.out (Kd.C_below HR.out (below_alloc (Below.refl _ _) _)) (fun _ _ h => h) (fun _ h => h.elim) (fun _ _ => trivial) (below_alloc (Below.refl _ _) _) (by simp) (by have := HB.out; simp; omega) ?_; intro v1 w9 ho hb hg hat; have HO9 := Aside0.mk ho; have HB9 := Aside0.mk hb; clear ho hb hg hat)
    go_ret
    exact ⟨_, rfl, by simpa using HO9.out, HB9.out⟩

theorem mixK_C {w0 w : World} {A : Option Addr} {n : Nat} {cs : List (List Int)} (h : Kd.C (mixK w0) w A n cs) (hb : Below w0.heap.size w0 w) : Kd.C (Kd.slice 3 (Kd.int .i64)) w A n cs :=
  ReadsRow.imp_ (R := (mixK w0).K w) h (Below.refl _ _) (fun _ _ hp => Kd.mix_read rfl (fun _ _ h => h) hb hp)


theorem grow_any (w0 : World) (z : Int) (w : World) (h0 : 0 ≤ z) (hn : z ≤ 1000000) :
    Calls Tryz.prog 108 #[.slice none 0 0, .int .i64 z] w fun e w' => ∃ v, e = .returned v ∧ Kd.R (mixK w0) 65 w' w.heap.size (fun _ => True) v [] ∧ Below w.heap.size w w' := by
  rcases Int.lt_or_eq_of_le h0 with h | h
  · exact growN w0 z w h hn
  · subst h
    exact (grow0 w).mono fun e w' ⟨he, hw⟩ => by subst hw; exact ⟨_, he, Kd.R_nil _ _ _ _ _, Below.refl _ _⟩

set_option maxHeartbeats 1000000 in
set_option maxRecDepth 100000 in
theorem concat_any (w0 : World) (A : Option Addr) (c : Nat) (cs : List (List Int)) (A1 : Option Addr) (c1 : Nat) (cs1 : List (List Int)) (b : Nat) (w : World) (hr : Kd.C (Kd.slice 3 (Kd.int .i64)) w0 A cs.length cs) (hr1 : Kd.C (Kd.slice 3 (Kd.int .i64)) w0 A1 cs1.length cs1)
    (hw : Below w0.heap.size w0 w) (hx0 : w.cell? ⟨b, 0, none⟩ = some (.slice A cs.length c)) (hx1 : w.cell? ⟨b, 1, none⟩ = some (.slice A1 cs1.length c1)) (had : b < w.heap.size) (hl : cs.length + cs1.length ≤ 524288) :
    Calls Tryz.prog 72 #[.slice (some ⟨b, 0, none⟩) 2 2] w fun e w' => ∃ v, e = .returned v ∧ Kd.R (mixK w0) 65 w' w.heap.size (fun _ => True) v (cs ++ cs1) ∧ Below w.heap.size w w' := by
  have HR := Aside0.mk hr
  have HR1 := Aside0.mk hr1
  have HW := Aside0.mk hw
  have HX0 := Aside0.mk hx0
  have HX1 := Aside0.mk hx1
  have HAD := Aside0.mk had
  obtain ⟨z0, hz0⟩ : ∃ z0 : Int, z0 = wrap64 (0 + (cs.length : Int)) := ⟨_, rfl⟩
  obtain ⟨z1, hz1⟩ : ∃ z1 : Int, z1 = wrap64 (z0 + (cs1.length : Int)) := ⟨_, rfl⟩
  have e0 : z0 = cs.length := by rw [hz0]; unfold wrap64; omega
  have e1 : z1 = cs.length + cs1.length := by rw [hz1, e0]; unfold wrap64; omega
  have HL := Aside0.mk hl
  have q0 : (wrap64 (0 + (cs.length : Int)) < 0) = False := eq_false (by rw [← hz0]; omega)
  have q0' : (wrap64 (cs.length : Int) < 0) = False := eq_false (by rw [Int.zero_add] at hz0; rw [← hz0]; omega)
  have q1 : (wrap64 (z0 + (cs1.length : Int)) < 0) = False := eq_false (by rw [← hz1]; omega)
  have HZ0 := Aside0.mk hz0
  have HZ1 := Aside0.mk hz1
  have HE1 := Aside0.mk e1
  clear hr hr1 hw had hl hz0 hz1 e0 e1
  go_enter Tryz.func72, Tryz.ntmps72
  go_wp2
  go_loopg [3, 11] (2) (fun kq v3 v11 w' => ((kq = 2 ∧ v3 = .int .i64 0 ∧ v11 = .int .i64 0) ∨ (kq = 1 ∧ v3 = .int .i64 z0 ∧ v11 = .int .i64 1) ∨ (kq = 0 ∧ v3 = .int .i64 z1 ∧ v11 = .int .i64 2)) ∧ Drawn0 w w')
  case atStart => exact ⟨.inl ⟨rfl, rfl, rfl⟩, Drawn0.refl _⟩
  case round =>
    obtain ⟨⟨rfl, rfl, rfl⟩ | ⟨rfl, rfl, rfl⟩ | ⟨rfl, rfl, rfl⟩, ⟨m1, rfl⟩⟩ := hrel
    · have hx : (w.drewN m1).cell? ⟨b, 0, none⟩ = some (.slice A cs.length c) := HX0.out
      go_wp2
      go_roundg 1
      case measure => omega
      case rel => exact ⟨.inr (.inl ⟨rfl, by first | exact congrArg (Value.int .i64) HZ0.out.symm | (rw [HZ0.out, Int.zero_add]), rfl⟩), ⟨_, rfl⟩⟩
    · have hx : (w.drewN m1).cell? ⟨b, 1, none⟩ = some (.slice A1 cs1.length c1) := HX1.out
      go_wp2
      go_roundg 0
      case measure => omega
      case rel => exact ⟨.inr (.inr ⟨rfl, congrArg (Value.int .i64) HZ1.out.symm, rfl⟩), ⟨_, rfl⟩⟩
    · have HG : Aside0 (∀ W : World, Calls Tryz.prog 108 #[.slice none 0 0, .int .i64 z1] W fun e w' => ∃ v, e = .returned v ∧ Kd.R (mixK w0) 65 w' W.heap.size (fun _ => True) v [] ∧ Below W.heap.size W w') := ⟨fun W => grow_any w0 z1 W (by rw [HE1.out]; omega) (by rw [HE1.out]; have := HL.out; omega)⟩
      clear q0 q0' q1 HZ0 HZ1 HE1
      go_wp2_with ((with_reducible refine (HG.out _).mono ?_); rintro e w2 ⟨u, rfl, hR2, hB2⟩; have HR2 := Aside0.mk hR2; have HB2 := Aside0.mk hB2; clear hR2 hB2)
      have HB3 : Aside0 (Below w.heap.size w w2) := ⟨pw_below_drewN (Below.refl _ _) m1 |>.trans HB2.out⟩
      clear hx0 hx1
      go_loopg [6, 27] (2) (fun kq v6 v27 w' => ∃ xs, ((kq = 2 ∧ xs = [] ∧ v27 = .int .i64 0) ∨ (kq = 1 ∧ xs = cs ∧ v27 = .int .i64 1) ∨ (kq = 0 ∧ xs = cs ++ cs1 ∧ v27 = .int .i64 2)) ∧ Aside0 (Kd.R (mixK w0) 65 w' w.heap.size (fun _ => True) v6 xs) ∧ Aside0 (Below w.heap.size w w'))
      case atStart => exact ⟨[], .inl ⟨rfl, rfl, rfl⟩, HR2, HB3⟩
      case round =>
        obtain ⟨xs, hd, HR6, HB6⟩ := hrel
        have HRR : Aside0 (ReadsRow ((Kd.slice 3 (Kd.int .i64)).K w0) 1 wr A cs.length cs) := ⟨ReadsRow.imp_ (R := (Kd.slice 3 (Kd.int .i64)).K w0) HR.out (HW.out.trans (HB6.out.mono HW.out.size)) (fun _ _ h => h)⟩
        have HRR1 : Aside0 (ReadsRow ((Kd.slice 3 (Kd.int .i64)).K w0) 1 wr A1 cs1.length cs1) := ⟨ReadsRow.imp_ (R := (Kd.slice 3 (Kd.int .i64)).K w0) HR1.out (HW.out.trans (HB6.out.mono HW.out.size)) (fun _ _ h => h)⟩
        have hy0 : wr.cell? ⟨b, 0, none⟩ = some (.slice A cs.length c) := (HB6.out.cell (p := ⟨b, 0, none⟩) HAD.out).trans HX0.out
        have hy1 : wr.cell? ⟨b, 1, none⟩ = some (.slice A1 cs1.length c1) := (HB6.out.cell (p := ⟨b, 1, none⟩) HAD.out).trans HX1.out
        rcases hd with ⟨rfl, rfl, rfl⟩ | ⟨rfl, rfl, rfl⟩ | ⟨rfl, rfl, rfl⟩
        · go_wp2_with ((with_reducible refine gate_builtin (b := .append) (xs := #[.tmp 31, .tmp 32]) rfl ?_); at_builtin; refine Kd.R_append_rows (mixK w0) (Rr := (Kd.slice 3 (Kd.int .i64)).K w0) (w0 := w) w.heap.size rfl (.tmp 31) (.tmp 32) 22 65 (.slice none 0 0) 24 rfl Tryz.underlying22 info_clause rfl Nat.one_pos (by decide) u6 [] cs A cs.length c (fun _ => True) (fun _ => False) rfl rfl HR6.out HRR.out (fun _ _ h => .inl h) (fun _ h => h.elim) (fun _ _ => trivial) HB6.out HB6.out.size (by have := HL.out; simp; omega) ?_; intro v1 w9 ho hb hg hat; have HO9 := Aside0.mk ho; have HB9 := Aside0.mk hb; clear ho hb hg hat)
          go_roundg 1
          case measure => omega
          case rel => exact ⟨cs, .inr (.inl ⟨rfl, rfl, rfl⟩), ⟨by simpa using HO9.out⟩, HB9⟩
        · go_wp2_with ((with_reducible refine gate_builtin (b := .append) (xs := #[.tmp 31, .tmp 32]) rfl ?_); at_builtin; refine Kd.R_append_rows (mixK w0) (Rr := (Kd.slice 3 (Kd.int .i64)).K w0) (w0 := w) w.heap.size rfl (.tmp 31) (.tmp 32) 22 65 (.slice none 0 0) 24 rfl Tryz.underlying22 info_clause rfl Nat.one_pos (by decide) u6 xs cs1 A1 cs1.length c1 (fun _ => True) (fun _ => False) rfl rfl HR6.out HRR1.out (fun _ _ h => .inl h) (fun _ h => h.elim) (fun _ _ => trivial) HB6.out HB6.out.size (by have := HL.out; simp; omega) ?_; intro v1 w9 ho hb hg hat; have HO9 := Aside0.mk ho; have HB9 := Aside0.mk hb; clear ho hb hg hat)
          go_roundg 0
          case measure => omega
          case rel => exact ⟨_, .inr (.inr ⟨rfl, rfl, rfl⟩), HO9, HB9⟩
        · go_wp2
          go_ret
          exact ⟨_, rfl, HR6.out, HB6.out⟩
end Go.Proofs.YtjfmoildblcjiaaGreatDoor.H24
end

section
/- What is proved here: the contract of cnf.Join. -/
namespace Go.Proofs.YtjfmoildblcjiaaGreatDoor.H25
open Go.RowKit Go.Proofs.YtjfmoildblcjiaaGreatDoorW.PrintWords Go.Proofs.YtjfmoildblcjiaaGreatDoorW.PrintLast Go.Proofs.YtjfmoildblcjiaaGreatDoorW.PrintMore Go.Proofs.YtjfmoildblcjiaaGreatDoor.H1 Go.Proofs.YtjfmoildblcjiaaGreatDoor.H2 Go.Proofs.YtjfmoildblcjiaaGreatDoor.H4 Go.Proofs.YtjfmoildblcjiaaGreatDoor.H24

def joinE (v : Int) (cs : List (List Int)) (v1 : Int) (cs1 : List (List Int)) : Int × List (List Int) × Int :=
  if (checkE v cs).2 ≠ 0 then (0, [], (checkE v cs).2) else if (checkE v1 cs1).2 ≠ 0 then (0, [], (checkE v1 cs1).2) else if (cs.length : Int) + cs1.length > 524288 then (0, [], 2) else (max v v1, cs ++ cs1, 0)
def JoinPost (v : Int) (cs : List (List Int)) (v1 : Int) (cs1 : List (List Int)) (w : World) (e : Ending) (w' : World) : Prop :=
  ∃ u, e = .returned (.tuple #[.agg #[.int .i64 (joinE v cs v1 cs1).1, u], .int .i64 (joinE v cs v1 cs1).2.2]) ∧ Kd.S (Kd.slice 3 (Kd.int .i64)) 65 w' w.heap.size (fun _ => True) u (joinE v cs v1 cs1).2.1 ∧ Below w.heap.size w w'

theorem init3 (w : World) (o1 o2 o3 : Obj) : (((w.alloc o1).alloc o2).alloc o3).heap[w.heap.size]? = some o1 ∧ (((w.alloc o1).alloc o2).alloc o3).heap[w.heap.size + 1]? = some o2 ∧ (((w.alloc o1).alloc o2).alloc o3).heap[w.heap.size + 1 + 1]? = some o3 := by
  have h : (((w.alloc o1).alloc o2).alloc o3).heap = ((w.heap.push o1).push o2).push o3 := rfl
  rw [h]
  refine ⟨?_, ?_, ?_⟩
  · rw [Array.getElem?_push, if_neg (by simp only [Array.size_push]; omega), Array.getElem?_push, if_neg (by simp only [Array.size_push]; omega), Array.getElem?_push, if_pos rfl]
  · rw [Array.getElem?_push, if_neg (by simp only [Array.size_push]; omega), Array.getElem?_push, if_pos (by simp only [Array.size_push])]
  · rw [Array.getElem?_push, if_pos (by simp only [Array.size_push])]
/-- The three boxes of Join. -/
def Box3 (w w' : World) (v : Int) (A : Option Addr) (n c : Nat) (v1 : Int) (A1 : Option Addr) (n1 c1 : Nat) : Prop :=
  w'.heap[w.heap.size]? = some (.cells #[.int .i64 v, .slice A n c] 24 (0, 0)) ∧ w'.heap[w.heap.size + 1]? = some (.cells #[.int .i64 v1, .slice A1 n1 c1] 24 (0, 0)) ∧ w'.heap[w.heap.size + 1 + 1]? = some (.cells #[.int .i64 0, .slice none 0 0] 24 (0, 0))
theorem Box3.below {w w' w'' : World} {v : Int} {A : Option Addr} {n c : Nat} {v1 : Int} {A1 : Option Addr} {n1 c1 B : Nat} (h : Box3 w w' v A n c v1 A1 n1 c1) (hb : Below B w' w'') (hB : w.heap.size + 2 < B) : Box3 w w'' v A n c v1 A1 n1 c1 :=
  ⟨(hb.block _ (by omega)).trans h.1, (hb.block _ (by omega)).trans h.2.1, (hb.block _ (by omega)).trans h.2.2⟩
theorem two {w : World} {g t : Nat} {a b : Value} (h : w.heap[g]? = some (.cells #[a, b] t (0, 0))) : w.cell? ⟨g, 0, none⟩ = some a ∧ w.cell? ⟨g, 1, none⟩ = some b ∧ (∀ i, w.frozen? ⟨g, i, none⟩ = false) :=
  ⟨(blk_cell h 0).trans rfl, (blk_cell h 1).trans rfl, fun i => blk_frozen h i⟩

set_option maxHeartbeats 2000000 in
set_option maxRecDepth 100000 in
theorem join_a (v : Int) (A : Option Addr) (c : Nat) (cs : List (List Int)) (v1 : Int) (A1 : Option Addr) (c1 : Nat) (cs1 : List (List Int)) (w : World) (hr : Kd.C (Kd.slice 3 (Kd.int .i64)) w A cs.length cs) (hc : cs.length ≤ c)
    (h0 : (checkE v cs).2 ≠ 0) :
    Calls Tryz.prog 38 #[.agg #[.int .i64 v, .slice A cs.length c], .agg #[.int .i64 v1, .slice A1 cs1.length c1]] w (JoinPost v cs v1 cs1 w) := by
  have HE : Aside0 (joinE v cs v1 cs1 = (0, [], (checkE v cs).2)) := ⟨by unfold joinE; rw [if_pos h0]⟩
  have d0 : ((checkE v cs).2 != 0) = true := bne_iff_ne.2 h0
  have HCA := Aside0.mk (fun W (hW : Below w.heap.size w W) => check_any v A c cs W (Kd.C_below hr hW) hc)
  generalize hce : checkE v cs = ce at *
  clear hr hc h0 hce
  go_enter Tryz.func38, Tryz.ntmps38
  go_wp2_with ((with_reducible refine (HCA.out _ (below_alloc (below_alloc (below_alloc (Below.refl _ _) _) _) _)).mono ?_); rintro e w1 ⟨rfl, hb1⟩; have HB1 := Aside0.mk (Below.trans (below_alloc (below_alloc (below_alloc (Below.refl _ _) _) _) _) (hb1.mono (by simp; omega)) : Below w.heap.size w w1); have HX : Aside0 (Box3 w w1 v A cs.length c v1 A1 cs1.length c1) := ⟨Box3.below (w' := _) (init3 w _ _ _) hb1 (by simp)⟩; clear hb1; obtain ⟨k0, k1, k2⟩ := two HX.out.2.2)
  clear k0 k1 k2
  refine bodyPost_ret (v := .tuple #[.agg #[.int .i64 0, .slice none 0 0], .int .i64 ce.2]) ?_ rfl ?_
  · have h2 := blk_set (blk_set HX.out.2.2 0 (.int .i64 0)) 1 (.slice none 0 0)
    obtain ⟨k0, k1, k2⟩ := two (a := .int .i64 0) (b := .slice none 0 0) (by simpa using h2)
    simp [results, Tryz.results38, go_sem, k0, k1]
  · exact ⟨_, by rw [HE.out], by rw [HE.out]; exact Kd.S_nil _ _ _ _ _, by repeat (first | exact HB1.out | omega | apply below_set)⟩
theorem checkE_le {v : Int} {cs : List (List Int)} (h : (checkE v cs).2 = 0) : (cs.length : Int) ≤ 524288 := by
  unfold checkE at h
  split at h
  · cases h
  · split at h
    · cases h
    · split at h
      · cases h
      · omega

set_option maxHeartbeats 2000000 in
set_option maxRecDepth 100000 in
theorem join_b (v : Int) (A : Option Addr) (c : Nat) (cs : List (List Int)) (v1 : Int) (A1 : Option Addr) (c1 : Nat) (cs1 : List (List Int)) (w : World) (hr : Kd.C (Kd.slice 3 (Kd.int .i64)) w A cs.length cs) (hc : cs.length ≤ c) (hr1 : Kd.C (Kd.slice 3 (Kd.int .i64)) w A1 cs1.length cs1) (hc1 : cs1.length ≤ c1)
    (h0 : (checkE v cs).2 = 0) (h1 : (checkE v1 cs1).2 ≠ 0) :
    Calls Tryz.prog 38 #[.agg #[.int .i64 v, .slice A cs.length c], .agg #[.int .i64 v1, .slice A1 cs1.length c1]] w (JoinPost v cs v1 cs1 w) := by
  have HE : Aside0 (joinE v cs v1 cs1 = (0, [], (checkE v1 cs1).2)) := ⟨by unfold joinE; rw [if_neg (fun h => h h0), if_pos h1]⟩
  have HCA := Aside0.mk (fun W (hW : Below w.heap.size w W) => check_any v A c cs W (Kd.C_below hr hW) hc)
  have HCB := Aside0.mk (fun W (hW : Below w.heap.size w W) => check_any v1 A1 c1 cs1 W (Kd.C_below hr1 hW) hc1)
  have d0 : ((checkE v cs).2 != 0) = false := bne_eq_false_iff_eq.2 h0
  have d1 : ((checkE v1 cs1).2 != 0) = true := bne_iff_ne.2 h1
  clear hr hc hr1 hc1 h0 h1
  generalize checkE v cs = ce at *
  generalize checkE v1 cs1 = ce1 at *
  go_enter Tryz.func38, Tryz.ntmps38
  go_wp2_with (first | ((with_reducible refine (HCA.out _ (below_alloc (below_alloc (below_alloc (Below.refl _ _) _) _) _)).mono ?_); rintro e w1 ⟨rfl, hb1⟩; have HB1 := Aside0.mk (Below.trans (below_alloc (below_alloc (below_alloc (Below.refl _ _) _) _) _) (hb1.mono (by simp; omega)) : Below w.heap.size w w1); have HX : Aside0 (Box3 w w1 v A cs.length c v1 A1 cs1.length c1) := ⟨Box3.below (w' := _) (init3 w _ _ _) hb1 (by simp)⟩; clear hb1; obtain ⟨k0, k1, k2⟩ := two HX.out.2.2; obtain ⟨l0, l1, l2⟩ := two HX.out.2.1) | ((with_reducible refine (HCB.out _ HB1.out).mono ?_); rintro e w2 ⟨rfl, hb2⟩; clear k0 k1 k2 l0 l1 l2; have HX2 : Aside0 (Box3 w w2 v A cs.length c v1 A1 cs1.length c1) := ⟨Box3.below HX.out hb2 (Nat.lt_of_lt_of_le (Nat.lt_succ_self _) (Array.getElem?_eq_some_iff.1 HX.out.2.2).1)⟩; have HB2 := Aside0.mk (HB1.out.trans (hb2.mono HB1.out.size) : Below w.heap.size w w2); clear hb2; obtain ⟨k0, k1, k2⟩ := two HX2.out.2.2; obtain ⟨l0, l1, l2⟩ := two HX2.out.2.1; obtain ⟨m0, m1, m2⟩ := two HX2.out.1))
  clear k0 k1 k2 l0 l1 l2 m0 m1 m2
  refine bodyPost_ret (v := .tuple #[.agg #[.int .i64 0, .slice none 0 0], .int .i64 ce1.2]) ?_ rfl ?_
  · have h2 := blk_set (blk_set HX2.out.2.2 0 (.int .i64 0)) 1 (.slice none 0 0)
    obtain ⟨k0, k1, k2⟩ := two (a := .int .i64 0) (b := .slice none 0 0) (by simpa using h2)
    simp [results, Tryz.results38, go_sem, k0, k1]
  · exact ⟨_, by rw [HE.out], by rw [HE.out]; exact Kd.S_nil _ _ _ _ _, by repeat (first | exact HB2.out | omega | apply below_set)⟩

set_option maxHeartbeats 2000000 in
set_option maxRecDepth 100000 in
theorem join_c (v : Int) (A : Option Addr) (c : Nat) (cs : List (List Int)) (v1 : Int) (A1 : Option Addr) (c1 : Nat) (cs1 : List (List Int)) (w : World) (hr : Kd.C (Kd.slice 3 (Kd.int .i64)) w A cs.length cs) (hc : cs.length ≤ c) (hr1 : Kd.C (Kd.slice 3 (Kd.int .i64)) w A1 cs1.length cs1) (hc1 : cs1.length ≤ c1)
    (h0 : (checkE v cs).2 = 0) (h1 : (checkE v1 cs1).2 = 0) (h2 : (cs.length : Int) + cs1.length > 524288) :
    Calls Tryz.prog 38 #[.agg #[.int .i64 v, .slice A cs.length c], .agg #[.int .i64 v1, .slice A1 cs1.length c1]] w (JoinPost v cs v1 cs1 w) := by
  have HE : Aside0 (joinE v cs v1 cs1 = (0, [], 2)) := ⟨by unfold joinE; rw [if_neg (fun h => h h0), if_neg (fun h => h h1), if_pos h2]⟩
  have hw : wrap64 ((cs.length : Int) + cs1.length) = (cs.length : Int) + cs1.length := by have := Kd.C_max hr; have := Kd.C_max hr1; have h3 := (checkE_le h0); have h4 := (checkE_le h1); unfold wrap64; omega
  have q0 : (wrap64 ((cs.length : Int) + cs1.length) > 524288) = True := eq_true (by rw [hw]; exact h2)
  have q1 : decide (wrap64 ((cs.length : Int) + cs1.length) > 524288) = true := decide_eq_true (by rw [hw]; exact h2)
  have HCA := Aside0.mk (fun W (hW : Below w.heap.size w W) => check_any v A c cs W (Kd.C_below hr hW) hc)
  have HCB := Aside0.mk (fun W (hW : Below w.heap.size w W) => check_any v1 A1 c1 cs1 W (Kd.C_below hr1 hW) hc1)
  have d0 : ((checkE v cs).2 != 0) = false := bne_eq_false_iff_eq.2 h0
  have d1 : ((checkE v1 cs1).2 != 0) = false := bne_eq_false_iff_eq.2 h1
  clear hr hc hr1 hc1 h0 h1 h2 hw
  generalize checkE v cs = ce at *
  generalize checkE v1 cs1 = ce1 at *
  go_enter Tryz.func38, Tryz.ntmps38
  go_wp2_with (first | ((with_reducible refine (HCA.out _ (below_alloc (below_alloc (below_alloc (Below.refl _ _) _) _) _)).mono ?_); rintro e w1 ⟨rfl, hb1⟩; have HB1 := Aside0.mk (Below.trans (below_alloc (below_alloc (below_alloc (Below.refl _ _) _) _) _) (hb1.mono (by simp; omega)) : Below w.heap.size w w1); have HX : Aside0 (Box3 w w1 v A cs.length c v1 A1 cs1.length c1) := ⟨Box3.below (w' := _) (init3 w _ _ _) hb1 (by simp)⟩; clear hb1; obtain ⟨k0, k1, k2⟩ := two HX.out.2.2; obtain ⟨l0, l1, l2⟩ := two HX.out.2.1) | ((with_reducible refine (HCB.out _ HB1.out).mono ?_); rintro e w2 ⟨rfl, hb2⟩; clear k0 k1 k2 l0 l1 l2; have HX2 : Aside0 (Box3 w w2 v A cs.length c v1 A1 cs1.length c1) := ⟨Box3.below HX.out hb2 (Nat.lt_of_lt_of_le (Nat.lt_succ_self _) (Array.getElem?_eq_some_iff.1 HX.out.2.2).1)⟩; have HB2 := Aside0.mk (HB1.out.trans (hb2.mono HB1.out.size) : Below w.heap.size w w2); clear hb2; obtain ⟨k0, k1, k2⟩ := two HX2.out.2.2; obtain ⟨l0, l1, l2⟩ := two HX2.out.2.1; obtain ⟨m0, m1, m2⟩ := two HX2.out.1))
  clear k0 k1 k2 l0 l1 l2 m0 m1 m2
  refine bodyPost_ret (v := .tuple #[.agg #[.int .i64 0, .slice none 0 0], .int .i64 2]) ?_ rfl ?_
  · have h2 := blk_set (blk_set HX2.out.2.2 0 (.int .i64 0)) 1 (.slice none 0 0)
    obtain ⟨k0, k1, k2⟩ := two (a := .int .i64 0) (b := .slice none 0 0) (by simpa using h2)
    simp [results, Tryz.results38, go_sem, k0, k1]
  · exact ⟨_, by rw [HE.out], by rw [HE.out]; exact Kd.S_nil _ _ _ _ _, by repeat (first | exact HB2.out | omega | apply below_set)⟩
theorem rdL_mem {L : List (List Int)} {i : Nat} (h : i < L.length) : rdL L (i : Int) ∈ L := by
  rw [rdL, List.getD_eq_getElem?_getD, Int.toNat_natCast, List.getElem?_eq_getElem h]
  exact List.getElem_mem h
theorem take_rdL {L : List (List Int)} {i : Nat} (h : i < L.length) : L.take (i + 1) = L.take i ++ [rdL L i] := by
  rw [List.take_succ_eq_append_getElem h, rdL, List.getD_eq_getElem?_getD, Int.toNat_natCast, List.getElem?_eq_getElem h]
  rfl
theorem init2 (w : World) (o1 o2 : Obj) : ((w.alloc o1).alloc o2).heap[w.heap.size]? = some o1 ∧ ((w.alloc o1).alloc o2).heap[w.heap.size + 1]? = some o2 := by
  have h : ((w.alloc o1).alloc o2).heap = (w.heap.push o1).push o2 := rfl
  rw [h]
  refine ⟨?_, ?_⟩
  · rw [Array.getElem?_push, if_neg (by simp only [Array.size_push]; omega), Array.getElem?_push, if_pos rfl]
  · rw [Array.getElem?_push, if_pos (by simp only [Array.size_push])]
/-- The result's type is none of the rows' types. -/
theorem E_cl : ∀ q, q ∈ 65 :: (Kd.slice 3 (Kd.int .i64)).E → q ≠ 24 := by
  intro q hq
  simp only [Kd.slice, Kd.int, Kd.scalar, List.mem_cons, List.not_mem_nil, or_false] at hq
  rcases hq with rfl | rfl <;> decide
theorem E_mx (w0 : World) : ∀ q, q ∈ 65 :: (mixK w0).E → q ≠ 24 := by
  intro q hq
  simp only [mixK, Kd.mix, Kd.or_, Kd.fixed, Kd.slice, Kd.int, Kd.scalar, List.mem_cons, List.not_mem_nil, List.mem_append, List.nil_append, or_false, false_or] at hq
  rcases hq with rfl | rfl <;> decide
/-- The formula that grows, and the row that is gone through. -/
def Out (w : World) (B o : Nat) (M : Int) (A4 : Option Addr) (c4 : Nat) (L : List (List Int)) (j : Nat) (w' : World) : Prop :=
  o < w'.heap.size ∧ B ≤ w'.heap.size ∧ Below w.heap.size w w' ∧ Kd.R (mixK w) 65 w' w.heap.size (fun k => k < B) (.slice A4 L.length c4) L ∧ w'.heap[w.heap.size + 1 + 1]? = some (.cells #[.int .i64 0, .slice none 0 0] 24 (0, 0)) ∧
    ∃ u, w'.heap[o]? = some (.cells #[.int .i64 M, u] 24 (0, 0)) ∧ Kd.S (Kd.slice 3 (Kd.int .i64)) 65 w' B (fun _ => True) u (L.take j)

theorem Out.put {w w9 : World} {B o j : Nat} {M : Int} {A4 : Option Addr} {c4 : Nat} {L : List (List Int)} {u x : Value} (h1 : o < w9.heap.size) (h2 : B ≤ w9.heap.size) (hbel : Below w.heap.size w w9) (hR : Kd.R (mixK w) 65 w9 w.heap.size (fun k => k < B) (.slice A4 L.length c4) L)
    (hg : w9.heap[o]? = some (.cells #[.int .i64 M, u] 24 (0, 0))) (hS : Kd.S (Kd.slice 3 (Kd.int .i64)) 65 w9 B (fun _ => True) x (L.take j)) (how : w.heap.size + 1 + 1 < o) (hres : w9.heap[w.heap.size + 1 + 1]? = some (.cells #[.int .i64 0, .slice none 0 0] 24 (0, 0))) : Out w B o M A4 c4 L j (w9.setCell ⟨o, 1, none⟩ x) :=
  ⟨by simpa using h1, by simpa using h2, hbel.setCell (by show w.heap.size ≤ o; omega) _, Kd.R_set hR hg (E_mx w) 1 _, (Below.heap_setCell _ _ _ _ (by show w.heap.size + 1 + 1 ≠ o; omega)).trans hres, x, by simpa using blk_set hg 1 x, Kd.S_set hS hg E_cl 1 _⟩

set_option maxHeartbeats 4000000 in
set_option maxRecDepth 100000 in
theorem join_d (v : Int) (A : Option Addr) (c : Nat) (cs : List (List Int)) (v1 : Int) (A1 : Option Addr) (c1 : Nat) (cs1 : List (List Int)) (w : World) (hr : Kd.C (Kd.slice 3 (Kd.int .i64)) w A cs.length cs) (hc : cs.length ≤ c) (hr1 : Kd.C (Kd.slice 3 (Kd.int .i64)) w A1 cs1.length cs1) (hc1 : cs1.length ≤ c1)
    (h0 : (checkE v cs).2 = 0) (h1 : (checkE v1 cs1).2 = 0) (h2 : ¬ (cs.length : Int) + cs1.length > 524288) :
    Calls Tryz.prog 38 #[.agg #[.int .i64 v, .slice A cs.length c], .agg #[.int .i64 v1, .slice A1 cs1.length c1]] w (JoinPost v cs v1 cs1 w) := by
  have HE : Aside0 (joinE v cs v1 cs1 = (max v v1, cs ++ cs1, 0)) := ⟨by unfold joinE; rw [if_neg (fun h => h h0), if_neg (fun h => h h1), if_neg h2]⟩
  have hw : wrap64 ((cs.length : Int) + cs1.length) = (cs.length : Int) + cs1.length := by unfold wrap64; omega
  have q0 : (wrap64 ((cs.length : Int) + cs1.length) > 524288) = False := eq_false (by rw [hw]; exact h2)
  have q1 : decide (wrap64 ((cs.length : Int) + cs1.length) > 524288) = false := decide_eq_false (by rw [hw]; exact h2)
  have HLL : Aside0 (cs.length + cs1.length ≤ 524288) := ⟨by omega⟩
  have HLE : Aside0 (∀ l ∈ cs ++ cs1, l.length ≤ 16384) := ⟨fun l hl => by
    rcases List.mem_append.1 hl with hl | hl
    · have := (litsE_ok ((checkE_ok h0).2.2.2 l hl)).2; omega
    · have := (litsE_ok ((checkE_ok h1).2.2.2 l hl)).2; omega⟩
  have HCA := Aside0.mk (fun W (hW : Below w.heap.size w W) => check_any v A c cs W (Kd.C_below hr hW) hc)
  have HCB := Aside0.mk (fun W (hW : Below w.heap.size w W) => check_any v1 A1 c1 cs1 W (Kd.C_below hr1 hW) hc1)
  have d0 : ((checkE v cs).2 != 0) = false := bne_eq_false_iff_eq.2 h0
  have d1 : ((checkE v1 cs1).2 != 0) = false := bne_eq_false_iff_eq.2 h1
  have HR := Aside0.mk hr
  have HR1 := Aside0.mk hr1
  clear hr hc hr1 hc1 h0 h1 h2 hw
  generalize checkE v cs = ce at *
  generalize checkE v1 cs1 = ce1 at *
  obtain ⟨L, hL⟩ : ∃ L, L = cs ++ cs1 := ⟨_, rfl⟩
  have HLLL : Aside0 (L.length ≤ 524288) := ⟨by rw [hL, List.length_append]; exact HLL.out⟩
  have HLB := Aside0.mk hL
  have HLM : Aside0 (∀ i : Nat, i < L.length → (rdL L i).length ≤ 16384) := ⟨fun i hi => HLE.out _ (hL ▸ rdL_mem hi)⟩
  clear hL
  go_enter Tryz.func38, Tryz.ntmps38
  go_wp2_with (first | ((with_reducible refine (HCA.out _ (below_alloc (below_alloc (below_alloc (Below.refl _ _) _) _) _)).mono ?_); rintro e w1 ⟨rfl, hb1⟩; have HB1 := Aside0.mk (Below.trans (below_alloc (below_alloc (below_alloc (Below.refl _ _) _) _) _) (hb1.mono (by simp; omega)) : Below w.heap.size w w1); have HX : Aside0 (Box3 w w1 v A cs.length c v1 A1 cs1.length c1) := ⟨Box3.below (w' := _) (init3 w _ _ _) hb1 (by simp)⟩; clear hb1; obtain ⟨k0, k1, k2⟩ := two HX.out.2.2; obtain ⟨l0, l1, l2⟩ := two HX.out.2.1) | ((with_reducible refine (HCB.out _ HB1.out).mono ?_); rintro e w2 ⟨rfl, hb2⟩; clear k0 k1 k2 l0 l1 l2; have HX2 : Aside0 (Box3 w w2 v A cs.length c v1 A1 cs1.length c1) := ⟨Box3.below HX.out hb2 (Nat.lt_of_lt_of_le (Nat.lt_succ_self _) (Array.getElem?_eq_some_iff.1 HX.out.2.2).1)⟩; have HB2 := Aside0.mk (HB1.out.trans (hb2.mono HB1.out.size) : Below w.heap.size w w2); clear hb2; obtain ⟨k0, k1, k2⟩ := two HX2.out.2.2; obtain ⟨l0, l1, l2⟩ := two HX2.out.2.1; obtain ⟨m0, m1, m2⟩ := two HX2.out.1; have hsz : w.heap.size + 1 + 1 < w2.heap.size := (Array.getElem?_eq_some_iff.1 HX2.out.2.2).1; have HSZ := Aside0.mk hsz; have n1 : (w2.heap.size = w.heap.size) = False := eq_false (by omega); have n2 : (w.heap.size = w2.heap.size) = False := eq_false (by omega); have n3 : (w2.heap.size = w.heap.size + 1) = False := eq_false (by omega); have n4 : (w.heap.size + 1 = w2.heap.size) = False := eq_false (by omega); clear hsz; have g0 : ∀ o, (w2.alloc o).cell? ⟨w.heap.size, 0, none⟩ = some (.int .i64 v) := (fun o => pw_cell_below (below_alloc (Below.refl _ _) _) m0); have g1 : ∀ o, (w2.alloc o).cell? ⟨w.heap.size, 1, none⟩ = some (.slice A cs.length c) := (fun o => pw_cell_below (below_alloc (Below.refl _ _) _) m1); have g2 : ∀ o, (w2.alloc o).cell? ⟨w.heap.size + 1, 0, none⟩ = some (.int .i64 v1) := (fun o => pw_cell_below (below_alloc (Below.refl _ _) _) l0); have g3 : ∀ o, (w2.alloc o).cell? ⟨w.heap.size + 1, 1, none⟩ = some (.slice A1 cs1.length c1) := (fun o => pw_cell_below (below_alloc (Below.refl _ _) _) l1)) | ((with_reducible refine (concat_any w A c cs A1 c1 cs1 (w2.heap.size + 1) _ HR.out HR1.out ?hw ?hx0 ?hx1 ?had HLL.out).mono ?_); (case hw => exact below_alloc (below_alloc HB2.out _) _); (case hx0 => exact (two (init2 w2 _ _).2).1); (case hx1 => exact (two (init2 w2 _ _).2).2.1); (case had => simp); rintro e w4 ⟨u4, rfl, hR4, hB4⟩; rw [← HLB.out] at hR4; obtain ⟨A4, c4, rfl⟩ := Kd.R_slice hR4; have HR4 := Aside0.mk hR4; have HB4 := Aside0.mk hB4; clear hR4 hB4))
  have HO0 : Aside0 (Out w w4.heap.size w2.heap.size (max v v1) A4 c4 L 0 w4) := ⟨by
    have hs := HB4.out.size
    simp at hs
    have hs2 := HSZ.out
    refine ⟨by omega, Nat.le_refl _, (below_alloc (below_alloc HB2.out _) _).trans (HB4.out.mono (by simp; omega)), Kd.R_mono (Kd.R_lower (Kd.R_bound HR4.out) (by simp; omega)) (fun k hk => hk.2.2.1), (HB4.out.block _ (by simp; omega)).trans (((below_alloc (below_alloc (Below.refl w2.heap.size w2) _) _).block _ hs2).trans HX2.out.2.2), .slice none 0 0, (HB4.out.block _ (by simp; omega)).trans (init2 w2 _ _).1, Kd.S_nil _ _ _ _ _⟩⟩
  clear k0 k1 k2 l0 l1 l2 m0 m1 m2 g0 g1 g2 g3 n1 n2 n3 n4
  clear HR4
  have HWB0 : Aside0 (w.heap.size ≤ w4.heap.size) := ⟨by have hs := HB4.out.size; simp at hs; have := HSZ.out; omega⟩
  have HWO0 : Aside0 (w.heap.size + 1 + 1 < w2.heap.size) := HSZ
  have HOB0 : Aside0 (w2.heap.size < w4.heap.size) := ⟨by have hs := HB4.out.size; simp at hs; omega⟩
  generalize hB : w4.heap.size = B at *
  have HWB := HWB0
  generalize ho : w2.heap.size = o at *
  have HWO := HWO0
  have HOB := HOB0
  go_loopg [53] (L.length) (fun kq v53 w' => ∃ i : Nat, Aside0 (i + kq = L.length) ∧ v53 = .int .i64 (i : Int) ∧ Aside0 (Out w B o (max v v1) A4 c4 L i w'))
  case atStart => exact ⟨0, ⟨by omega⟩, rfl, HO0⟩
  case round =>
    clear HO0
    obtain ⟨i, HI, rfl, HO⟩ := hrel
    by_cases hlt : i < L.length
    · obtain ⟨k1, rfl⟩ : ∃ k1, gk = k1 + 1 := ⟨gk - 1, by have := HI.out; omega⟩
      have c0 : decide ((i : Int) < (L.length : Int)) = true := decide_eq_true (by omega)
      obtain ⟨ho1, hBz, hBel, hRr, hRes, u, hg, hS⟩ := HO.out
      obtain ⟨ad, A0, cc, e1, hx, hl, hC0⟩ := at_L (mixK_C (Kd.R_reads' hRr).2.2 hBel) (i : Int) (by omega) (by omega)
      cases e1
      have hx : wr.cell? (ad.add i) = some (.slice A0 (rdL L i).length cc) := hx
      go_wp2
      have hz1 : wr.cell? ⟨o, 1, none⟩ = some u := (two hg).2.1
      have hz2 : wr.frozen? ⟨o, 1, none⟩ = false := (two hg).2.2 1
      have HG := Aside0.mk hg
      have HS := Aside0.mk hS
      have HRES := Aside0.mk hRes
      have HOL := Aside0.mk ho1
      have HBZ := Aside0.mk hBz
      have HBEL := Aside0.mk hBel
      have HRR := Aside0.mk hRr
      have HCC := Aside0.mk hC0
      have HBL : Aside0 (w.heap.size ≤ B) := HWB
      have HLI : Aside0 ((rdL L i).length ≤ 1000000) := ⟨by have := HLM.out i hlt; omega⟩
      have HTK : Aside0 (L.take (i + 1) = L.take i ++ [rdL L i]) := ⟨take_rdL hlt⟩
      have HTL : Aside0 ((L.take i).length ≤ 524288) := ⟨by rw [List.length_take]; have := HLLL.out; omega⟩
      have HUL : Aside0 (∀ k, wr.heap.size ≤ k → some k ≠ u.ownBlock) := ⟨fun k hk e => by obtain ⟨inner, hown⟩ := Kd.S_own HS.out; have := own_lt hown k e.symm; omega⟩
      have HNE : Aside0 (some o ≠ u.ownBlock) := ⟨Kd.R_ne (Kd.S_R HS.out) HG.out (by decide)⟩
      clear hg hS ho1 hBz hBel hRr hRes hC0
      generalize rdL L (i : Int) = cl at *
      generalize L.take i = T at *
      go_region_law (first
        | (go_simp; (with_reducible refine (cloneC_any A0 _ cl _ (Kd.C_below HCC.out ?hb) ?hl).mono ?_); (case hb => exact below_drew (Below.refl _ _)); (case hl => exact HLI.out); rintro e w5 ⟨vc, rfl, hRc, hBc⟩; obtain ⟨Ac, c9, rfl⟩ := Kd.R_slice hRc; have HBC : Aside0 (Below wr.heap.size wr w5) := ⟨⟨hBc.os, hBc.tape, hBc.output, hBc.size, hBc.block⟩⟩; have HRC : Aside0 (Kd.R (Kd.int .i64) 3 w5 B (fun k => wr.heap.size ≤ k) (.slice Ac cl.length c9) cl) := ⟨Kd.R_mono (Kd.R_lower (Kd.R_bound hRc) HBZ.out) (fun k hk => hk.2.1)⟩; have hz5 : w5.cell? ⟨o, 1, none⟩ = some u := (HBC.out.cell (p := ⟨o, 1, none⟩) HOL.out).trans hz1; have hz6 : ∀ x, (w5.alloc x).cell? ⟨o, 1, none⟩ = some u := (fun x => ((HBC.out.alloc HBC.out.size x).cell (p := ⟨o, 1, none⟩) HOL.out).trans hz1); clear hRc hBc)
        | (refine Kd.S_append_step (Kd.slice 3 (Kd.int .i64)) (w0 := wr) B ?hw (.tmp 58) (.tmp 61) 22 65 (.slice none 0 0) 24 rfl Tryz.underlying22 info_clause rfl Nat.one_pos (by decide) u T cl [.slice Ac cl.length c9] (fun _ => True) (fun k => wr.heap.size ≤ k) rfl rfl ?hp ?hokp (fun _ _ => trivial) ?HO ?HB ?hbase ?hl ?_; (case hw => rfl); (case hp => exact ⟨_, rfl, HRC.out⟩); (case hokp => exact fun k hk => ⟨trivial, HUL.out k hk⟩); (case HO => exact Kd.S_below (Kd.S_mono (Kd.S_bound HS.out) (fun k hk => ⟨trivial, Nat.not_le.2 hk.2.2.1⟩)) HBC.out); (case HB => exact HBC.out.mono HBZ.out); (case hbase => exact Nat.le_trans HBZ.out HBC.out.size); (case hl => have := HTL.out; omega); intro x9 w9 ho9 hb9 hg9 hat9; obtain ⟨A9, c10, rfl⟩ := Kd.S_slice ho9; have HO9 := Aside0.mk ho9; have HB9 := Aside0.mk hb9; have HG9 : Aside0 (w9.heap[o]? = some (.cells #[.int .i64 (max v v1), u] 24 (0, 0))) := ⟨(hg9.block o (Nat.lt_of_lt_of_le HOL.out HBC.out.size) HNE.out).trans ((HBC.out.block o HOL.out).trans HG.out)⟩; have HR9 := Aside0.mk (Kd.R_grown (Kd.R_below HRR.out HBC.out) hg9 (fun k hk e => absurd (Kd.S_base HS.out k e.symm) (Nat.not_le.2 hk))); have HSZ9 : Aside0 (wr.heap.size ≤ w9.heap.size) := ⟨Nat.le_trans HBC.out.size hg9.size⟩; have HRES9 : Aside0 (w9.heap[w.heap.size + 1 + 1]? = some (.cells #[.int .i64 0, .slice none 0 0] 24 (0, 0))) := ⟨(hg9.block _ (Nat.lt_of_lt_of_le (Nat.lt_trans HWO.out HOL.out) HBC.out.size) (fun e => absurd (Kd.S_base HS.out _ e.symm) (Nat.not_le.2 (Nat.lt_trans HWO.out HOB.out)))).trans ((HBC.out.block _ (Nat.lt_trans HWO.out HOL.out)).trans HRES.out)⟩; have hz3 : w9.cell? ⟨o, 1, none⟩ = some u := (two HG9.out).2.1; have hz4 : w9.frozen? ⟨o, 1, none⟩ = false := (two HG9.out).2.2 1; clear ho9 hb9 hg9 hat9))
      all_goals (have HOUT : Aside0 (Out w B o (max v v1) (some ad) c4 L (i + 1) (w9.setCell ⟨o, 1, none⟩ (.slice A9 (T.length + 1) c10))) := ⟨by
        have h := Out.put (j := i + 1) (x := .slice A9 (T ++ [cl]).length c10) (Nat.lt_of_lt_of_le HOL.out HSZ9.out) (Nat.le_trans HBZ.out HSZ9.out) (HBEL.out.trans (HB9.out.mono HBL.out)) HR9.out HG9.out (by rw [HTK.out]; exact HO9.out) HWO.out HRES9.out
        rwa [show (T ++ [cl]).length = T.length + 1 by simp] at h⟩)
      all_goals (clear hz1 hz2 hz3 hz4 hz5 hz6 hx)
      all_goals go_wp2
      all_goals (go_roundg k1; (case measure => omega); (case rel => exact ⟨i + 1, ⟨by have := HI.out; omega⟩, congrArg (Value.int .i64) (wrapn hlt (by have := HLLL.out; omega)), HOUT⟩))
    · have c0 : decide ((i : Int) < (L.length : Int)) = false := decide_eq_false (by omega)
      obtain rfl : i = L.length := by have := HI.out; omega
      obtain ⟨ho1, hBz, hBel, hRr, hRes, u, hg, hS⟩ := HO.out
      rw [List.take_length] at hS
      obtain ⟨A9, c9, rfl⟩ := Kd.S_slice hS
      have HG := Aside0.mk hg
      have HS := Aside0.mk hS
      have HRES := Aside0.mk hRes
      have HBEL := Aside0.mk hBel
      obtain ⟨k0, k1, k2⟩ := two hg
      obtain ⟨l0, l1, l2⟩ := two hRes
      clear hg hS ho1 hBz hBel hRr hRes
      go_wp2
      clear k0 k1 k2 l0 l1 l2
      refine bodyPost_ret (v := .tuple #[.agg #[.int .i64 (max v v1), .slice A9 L.length c9], .int .i64 0]) ?_ rfl ?_
      · have h2 := blk_set (blk_set HRES.out 0 (.int .i64 (max v v1))) 1 (.slice A9 L.length c9)
        obtain ⟨k0, k1, k2⟩ := two (a := .int .i64 (max v v1)) (b := .slice A9 L.length c9) (by simpa using h2)
        simp [results, Tryz.results38, go_sem, k0, k1]
      · have h1 := blk_set HRES.out 0 (.int .i64 (max v v1))
        refine ⟨_, by rw [HE.out], ?_, by repeat (first | exact HBEL.out | omega | apply below_set)⟩
        rw [HE.out]
        show Kd.S _ _ _ _ _ _ (cs ++ cs1)
        rw [← HLB.out]
        exact Kd.S_lower (Kd.S_set (Kd.S_set HS.out HRES.out E_cl 0 _) (by simpa using h1) E_cl 1 _) HWB.out

theorem join_any (v : Int) (A : Option Addr) (c : Nat) (cs : List (List Int)) (v1 : Int) (A1 : Option Addr) (c1 : Nat) (cs1 : List (List Int)) (w : World) (hr : Kd.C (Kd.slice 3 (Kd.int .i64)) w A cs.length cs) (hc : cs.length ≤ c) (hr1 : Kd.C (Kd.slice 3 (Kd.int .i64)) w A1 cs1.length cs1) (hc1 : cs1.length ≤ c1) :
    Calls Tryz.prog 38 #[.agg #[.int .i64 v, .slice A cs.length c], .agg #[.int .i64 v1, .slice A1 cs1.length c1]] w (JoinPost v cs v1 cs1 w) := by
  by_cases h0 : (checkE v cs).2 = 0
  · by_cases h1 : (checkE v1 cs1).2 = 0
    · by_cases h2 : (cs.length : Int) + cs1.length > 524288
      · exact join_c v A c cs v1 A1 c1 cs1 w hr hc hr1 hc1 h0 h1 h2
      · exact join_d v A c cs v1 A1 c1 cs1 w hr hc hr1 hc1 h0 h1 h2
    · exact join_b v A c cs v1 A1 c1 cs1 w hr hc hr1 hc1 h0 h1
  · exact join_a v A c cs v1 A1 c1 cs1 w hr hc h0
end Go.Proofs.YtjfmoildblcjiaaGreatDoor.H25
end

section
/- What is proved here: the contract of cnf.Same. -/
namespace Go.Proofs.YtjfmoildblcjiaaGreatDoor.H23
open Go.RowKit Go.Proofs.YtjfmoildblcjiaaGreatDoorW.PrintWords Go.Proofs.YtjfmoildblcjiaaGreatDoorW.PrintLast Go.Proofs.YtjfmoildblcjiaaGreatDoorW.PrintMore Go.Proofs.YtjfmoildblcjiaaGreatDoor.H1 Go.Proofs.YtjfmoildblcjiaaGreatDoor.H2

theorem rd_at {l : List Int} {i : Nat} (h : i < l.length) : rd l (i : Int) = l[i] := by simp [rd, List.getD_eq_getElem?_getD, List.getElem?_eq_getElem h]
end Go.Proofs.YtjfmoildblcjiaaGreatDoor.H23
end

section
/- What is proved here: cnf.Join and cnf.Same as the printer's functions. -/
namespace Go.Proofs.YtjfmoildblcjiaaGreatDoor.Orc
open Go.RowKit Go.Proofs.YtjfmoildblcjiaaGreatDoorW.PrintWords Go.Proofs.YtjfmoildblcjiaaGreatDoorW.PrintLast Go.Proofs.YtjfmoildblcjiaaGreatDoorW.PrintMore Go.Proofs.YtjfmoildblcjiaaGreatDoor.H1 Go.Proofs.YtjfmoildblcjiaaGreatDoor.H2 Go.Proofs.YtjfmoildblcjiaaGreatDoor.H23 Go.Proofs.YtjfmoildblcjiaaGreatDoor.H25

def cnf_Join.f (v : Int) (cs : List (List Int)) (v1 : Int) (cs1 : List (List Int)) : Option (Int × List (List Int) × Int) := some (joinE v cs v1 cs1)
theorem cnf_Join.calls (a0_0 : Int) (A0_1 : Option Addr) (c0_1 : Nat) (l0_1 : List (List Int)) (a1_0 : Int) (A1_1 : Option Addr) (c1_1 : Nat) (l1_1 : List (List Int)) (r1 : Int) (r2 : List (List Int)) (r3 : Int) (w : World) (hr0 : Kd.C (Kd.slice 3 (Kd.int .i64)) w A0_1 l0_1.length l0_1) (hc0 : l0_1.length ≤ c0_1) (hr1 : Kd.C (Kd.slice 3 (Kd.int .i64)) w A1_1 l1_1.length l1_1) (hc1 : l1_1.length ≤ c1_1) (h : cnf_Join.f a0_0 l0_1 a1_0 l1_1 = some (r1, r2, r3)) :
    Calls Tryz.prog 38 #[.agg #[.int .i64 a0_0, .slice A0_1 l0_1.length c0_1], .agg #[.int .i64 a1_0, .slice A1_1 l1_1.length c1_1]] w fun e w' => ∃ v1_ : Value, e = .returned (.tuple #[.agg #[.int .i64 r1, v1_], .int .i64 r3]) ∧ Kd.S (Kd.slice 3 (Kd.int .i64)) 65 w' w.heap.size (fun _ => True) v1_ r2 ∧ Below w.heap.size w w' := by
  have e : joinE a0_0 l0_1 a1_0 l1_1 = (r1, r2, r3) := Option.some.inj h
  have := join_any a0_0 A0_1 c0_1 l0_1 a1_0 A1_1 c1_1 l1_1 w hr0 hc0 hr1 hc1
  unfold JoinPost at this
  rw [e] at this
  exact this

end Go.Proofs.YtjfmoildblcjiaaGreatDoor.Orc
end

section
-- Made for this seat by wip/pr.py: the kit's printer, run with functions that were proved by hand.
namespace Go.Proofs.YtjfmoildblcjiaaGreatDoor.QO
open Go.Proofs.YtjfmoildblcjiaaGreatDoor.Orc Go.RowKit Go.Proofs.YtjfmoildblcjiaaGreatDoorW.PrintWords Go.Proofs.YtjfmoildblcjiaaGreatDoorW.PrintLast Go.Proofs.YtjfmoildblcjiaaGreatDoorW.PrintMore
attribute [local go_sem] max2_int min2_int max_two min_two max_three min_three max_four min_four   -- for this text's walks alone
set_option linter.unusedVariables false
set_option linter.unusedSimpArgs false



def errW : Option Int → Value
  | none => .nilIface
  | some c => .iface 0 (.int .i64 c)
theorem errW_none : errW none = .nilIface := rfl
theorem errW_some (c : Int) : errW (some c) = .iface 0 (.int .i64 c) := rfl

theorem info3 : (Tryz.prog.info? 3).map (fun i => (i.zero, i.size, i.bytes)) = some (some (.int .i64 0), 1, 8) := by kernel_rfl
-- the values' own types
/-! #### struct type 24 -/
structure S24 where
  f0 : Int
  f1 : (List (List Int))
def z24 : S24 := ⟨(0 : Int), ([] : List (List Int))⟩
/-! #### struct type 27 -/
end Go.Proofs.YtjfmoildblcjiaaGreatDoor.QO
end

section
-- Made for this seat by wip/pr.py: the kit's printer, run with functions that were proved by hand.
namespace Go.Proofs.YtjfmoildblcjiaaGreatDoor.QO
open Go.Proofs.YtjfmoildblcjiaaGreatDoor.Orc Go.RowKit Go.Proofs.YtjfmoildblcjiaaGreatDoorW.PrintWords Go.Proofs.YtjfmoildblcjiaaGreatDoorW.PrintLast Go.Proofs.YtjfmoildblcjiaaGreatDoorW.PrintMore
attribute [local go_sem] max2_int min2_int max_two min_two max_three min_three max_four min_four   -- for this text's walks alone
set_option linter.unusedVariables false
set_option linter.unusedSimpArgs false

theorem eqA27 (d : Nat) (w : World) (x0 y0 : Int) (x1 y1 : Int) :
    (Op.equalIn (d + 2) 27 (.agg #[.int .i64 x0, .int .i64 x1]) (.agg #[.int .i64 y0, .int .i64 y1])).run Tryz.prog w = .ok (x0 == y0 && (x1 == y1)) w := by
  refine eqA_of Tryz.underlying27 (by kernel_rfl) ?_
  refine eqf_cons (by rfl) (by go_simp; rfl) (by go_simp; rfl) (by go_simp) ?_
  exact eqf_last (by rfl) (by go_simp; rfl) (by go_simp; rfl) (by go_simp)
end Go.Proofs.YtjfmoildblcjiaaGreatDoor.QO
end
