/- What is proved here: CnfMeans answers true of every two formulas and every model. (part 1 of 6) No condition. -/
import Derived.Test.YtjfmoildblcjiaaGreatDoorProg
import Derived.Test.YtjfmoildblcjiaaGreatDoorWWords
import Derived.Test.YtjfmoildblcjiaaGreatDoorWLast
import Derived.Test.YtjfmoildblcjiaaGreatDoorWApart
import Derived.Test.YtjfmoildblcjiaaGreatDoorWShare
import Derived.Test.YtjfmoildblcjiaaGreatDoorWN
import Derived.Test.YtjfmoildblcjiaaGreatDoorWMore
import Derived.Lib.RabinKarpLaws
import Derived.Lib.SliceRun
import Derived.Shelf.Strings.Builder1
import Derived.Shelf.Small.Bits
import Derived.Shelf.Small.Wraps
import Derived.Shelf.Strings.BuilderF
import Derived.Shelf.Strings.BuilderK
import Derived.Shelf.Utf8.RuneCount
import Derived.Shelf.Strconv.Atoi
import Derived.Shelf.Strconv.Itoa0
import Derived.Shelf.Strconv.Itoa1
import Derived.Shelf.LaysM
import Derived.Shelf.Strconv.Itoa2
import Derived.Shelf.Strconv.Itoa3
import Derived.Shelf.Strconv.AtoiErrFast
import Derived.Shelf.Strconv.ParseIntEmpty
import Derived.Shelf.Strconv.AtoiFail
import Derived.Shelf.Strconv.Clone
import Derived.Shelf.Strconv.SyntaxError
import Derived.Shelf.LaysC
import Derived.Shelf.Strconv.ToError
import Derived.Shelf.Strconv.Lower
import Derived.Shelf.Strconv.ParseUint10
import Derived.Shelf.Strconv.ParseUint10Empty
import Derived.Shelf.Strconv.ParseUint10Any
import Derived.Shelf.Strconv.ParseInt10
import Derived.Shelf.Strconv.AtoiLong
import Derived.Shelf.Strconv.AtoiInnerAll
import Derived.Shelf.Strconv.RangeError
import Derived.Shelf.Strconv.ToErrorRange
import Derived.Shelf.Strconv.AtoiAll
import Derived.Shelf.Strings.Search1
import Derived.Shelf.Strings.Search2
import Derived.Shelf.Strings.Search3
import Derived.Shelf.Strings.Cut
import Derived.Shelf.Strings.Count
import Derived.Shelf.Strings.Shaped
import Derived.Shelf.Strconv.AppendUint10
import Derived.Shelf.Strconv.AppendInt10
import Derived.Shelf.Strconv.AppendIntPublic10
import Derived.Shelf.Strings.Prefix
import Derived.Shelf.Strings.Split
import Derived.Shelf.Unicode.DecodeSlow
import Derived.Shelf.Unicode.DecodeAny
import Derived.Ground.Names2Prog
import Derived.Shelf.Slices.SearchI
import Derived.Ground.SlgnProg
import Derived.Shelf.SlicesE.Clone
import Derived.Ground.SlsfProg
import Derived.Shelf.SlSortCmp.Insertion
import Derived.Shelf.SlSortCmp.SiftDown1
import Derived.Shelf.SlSortCmp.HeapSort1
import Derived.Shelf.SlSortCmp.Insertion1
import Derived.Shelf.SlSortCmp.Median1
import Derived.Shelf.SlSortCmp.Pivot1
import Derived.Shelf.SlSortCmp.ReverseRange1
import Derived.Shelf.SlSortCmp.PartialInsertion1
import Derived.Shelf.SlSortCmp.PartitionEqual1
import Derived.Shelf.SlSortCmp.Partition1
import Derived.Shelf.SlSortCmp.Pdq1
import Derived.Shelf.SlSortCmp.Whole1
import Derived.Shelf.SlSortCmp.NoneTotal
import Derived.Lib.OwnBridge
import Derived.Below
import Derived.Deep.Draws
import Derived.Deep.AppendLies
import Derived.Maps.AppendAt
import Derived.OwnWalk
import Derived.Laws.BytesArg
import Derived.Laws.MakeOwn
import Derived.Laws.OwnMore
import Derived.Deep.OwnRows
import Derived.Tactics
import Derived.Lib.ConvBytes
import Derived.Laws.Slices
import Derived.WalkKit
import Derived.KernelRfl
import Derived.RowKit3
import Derived.Deep.LoopGhost
import Derived.Deep.QuietTactic
import Derived.BigQuiet
import Derived.WideLaws
import Derived.Deep.DeepCutAuto
import Derived.Deep.CutBlock
import Derived.Deep.RegionHeld3
import Derived.Laws.Rows
import Derived.Lib.AppendStr
import Derived.ArgAppend
import Derived.Laws.IdiomCopy
import Derived.OrdersHeld
import Derived.Laws.BitsLemmas
import Derived.RowKit
import Derived.Test.YtjfmoildblcjiaaGreatDoorWTab
import Derived.Test.YtjfmoildblcjiaaGreatDoorWFour
import Derived.Test.YtjfmoildblcjiaaGreatDoorWQPut
import Derived.Test.YtjfmoildblcjiaaGreatDoorWArr
import Derived.Test.YtjfmoildblcjiaaGreatDoorWZeros
import Derived.Test.YtjfmoildblcjiaaGreatDoorWFoot
import Derived.Test.YtjfmoildblcjiaaGreatDoorWKept
import Derived.Test.YtjfmoildblcjiaaGreatDoorWFootNe
import Derived.Test.YtjfmoildblcjiaaGreatDoorWAt
import Derived.Test.YtjfmoildblcjiaaGreatDoorWEqStruct
import Derived.Test.YtjfmoildblcjiaaGreatDoorWRepsOne
import Derived.Test.YtjfmoildblcjiaaGreatDoorWInv
import Derived.Test.YtjfmoildblcjiaaGreatDoorWInvWords
import Derived.Test.YtjfmoildblcjiaaGreatDoorWGuard
import Derived.Test.YtjfmoildblcjiaaGreatDoorWNEv

section
/- What is proved here: contracts of slices.IndexFunc and ContainsFunc at ints with any quiet predicate, and of cnf.literals, cnf.Check. -/
namespace Go.Proofs.YtjfmoildblcjiaaGreatDoor.H1
open Go.RowKit Go.Proofs.YtjfmoildblcjiaaGreatDoorW.PrintWords Go.Proofs.YtjfmoildblcjiaaGreatDoorW.PrintLast Go.Proofs.YtjfmoildblcjiaaGreatDoorW.PrintMore

def litBad (v x : Int) : Bool := decide (x = 0) || decide (x < -v) || decide (v < x)

set_option maxHeartbeats 1000000 in
set_option maxRecDepth 100000 in
theorem lit_fn (v x : Int) (ad : Addr) (w : World) (hv0 : 0 ≤ v) (hv1 : v ≤ 262144) (hc : w.cell? ad = some (.int .i64 v)) :
    Calls Tryz.prog 96 #[.int .i64 x, .pointer (some ad)] w fun e w' => e = .returned (.bool (litBad v x)) ∧ Drawn0 w w' := by
  by_cases h0 : x = 0
  · have e0 : (x == 0) = true := beq_iff_eq.2 h0
    have hp : litBad v x = true := by simp [litBad, h0]
    have HP := Aside0.mk hp
    clear hp h0
    go_enter Tryz.func96, Tryz.ntmps96
    go_wp2
    go_ret
    exact ⟨by rw [HP.out]; rfl, Drawn0.refl _⟩
  · have e0 : (x == 0) = false := beq_eq_false_iff_ne.2 h0
    by_cases h1 : x < -v
    · have e1 : decide (x < -v) = true := decide_eq_true h1
      have hp : litBad v x = true := by simp [litBad, h1]
      have HP := Aside0.mk hp
      clear hp h0 h1
      go_enter Tryz.func96, Tryz.ntmps96
      go_wp2
      go_ret
      exact ⟨by rw [HP.out]; rfl, Drawn0.refl _⟩
    · have e1 : decide (x < -v) = false := decide_eq_false h1
      have hp : litBad v x = decide (v < x) := by simp [litBad, h0, h1]
      have HP := Aside0.mk hp
      clear hp h0 h1
      go_enter Tryz.func96, Tryz.ntmps96
      go_wp2
      go_ret
      exact ⟨by rw [HP.out]; rfl, Drawn0.refl _⟩

/-- A call of g comes to g's own text. -/
def Ent (g : FuncId) : Prop := ∀ (args : Array Value) (w : World), (callFunc g args).run Tryz.prog w = .ok (.enter g args) w
theorem ent_of {f : FuncId} {fn : Func} {c : Code} (hf : Tryz.prog.funcs[f]? = some fn) (hname : (fn.name == "runtime.NumGoroutine") = false) (hb : fn.body = some c) : Ent f := by
  intro args w
  have h1 : fn.name ≠ "runtime.NumGoroutine" := by simpa using hname
  simp [callFunc, hf, h1, hb, mark]
/-- The function g with the captured lb tells p of an int, in every world that has this one's blocks. -/
def PredI (g : FuncId) (lb : Array Value) (p : Int → Bool) (w : World) : Prop :=
  Ent g ∧ ∀ x W, Below w.heap.size w W → Calls Tryz.prog g (#[.int .i64 x] ++ lb) W fun e w' => e = .returned (.bool (p x)) ∧ Drawn0 W w'

def idxI (p : Int → Bool) (l : List Int) : Int := match l.findIdx? p with | some i => i | none => -1


theorem wrapn {i n : Nat} (h : i < n) (hn : n ≤ 9223372036854775807) : wrap64 ((i : Int) + 1) = ((i + 1 : Nat) : Int) := by
  unfold wrap64
  omega
theorem take_all_snoc {l : List Int} {p : Int → Bool} {i : Nat} (h : ∀ x ∈ l.take i, p x = false) (hi : i < l.length) (hp : p (rd l (i : Int)) = false) : ∀ x ∈ l.take (i + 1), p x = false := by
  intro x hx
  rw [List.take_succ_eq_append_getElem hi] at hx
  rcases List.mem_append.1 hx with h1 | h1
  · exact h x h1
  · rw [List.mem_singleton.1 h1]
    simpa [rd, List.getD_eq_getElem?_getD, List.getElem?_eq_getElem hi] using hp
theorem idxI_here {l : List Int} {p : Int → Bool} {i : Nat} (h : ∀ x ∈ l.take i, p x = false) (hi : i < l.length) (hp : p (rd l (i : Int)) = true) : idxI p l = i := by
  have e : l.findIdx? p = some i := by
    rw [List.findIdx?_eq_some_iff_getElem]
    refine ⟨hi, by simpa [rd, List.getD_eq_getElem?_getD, List.getElem?_eq_getElem hi] using hp, fun j hj => ?_⟩
    have := h (l[j]) (by rw [List.mem_take_iff_getElem]; exact ⟨j, by omega, rfl⟩)
    simp [this]
  simp [idxI, e]
theorem idxI_none {l : List Int} {p : Int → Bool} (h : ∀ x ∈ l.take l.length, p x = false) : idxI p l = -1 := by
  have e : l.findIdx? p = none := by
    rw [List.findIdx?_eq_none_iff]
    intro x hx
    exact h x (by simpa using hx)
  simp [idxI, e]

set_option maxHeartbeats 1000000 in
set_option maxRecDepth 100000 in
theorem index_any (A : Option Addr) (c : Nat) (l : List Int) (g : FuncId) (lb : Array Value) (p : Int → Bool) (w : World) (hr : Kd.C (Kd.int .i64) w A l.length l) (_hc : l.length ≤ c)
    (hp : PredI g lb p w) :
    Calls Tryz.prog 121 #[.slice A l.length c, .func (.func g) #[] lb] w fun e w' => e = .returned (.int .i64 (idxI p l)) ∧ Drawn0 w w' := by
  have HR := Aside0.mk hr
  have HP := Aside0.mk hp.2
  have he := hp.1
  have HM := Aside0.mk (Kd.C_max hr)
  unfold Ent at he
  clear hr hp
  go_enter Tryz.func121, Tryz.ntmps121
  go_wp2
  go_loopg [8] (l.length) (fun kq v8 w' => ∃ i : Nat, Aside0 (i + kq = l.length) ∧ v8 = .int .i64 (i : Int) ∧ Aside0 (∀ x ∈ l.take i, p x = false) ∧ Drawn0 w w')
  case atStart => exact ⟨0, ⟨by omega⟩, rfl, ⟨by simp⟩, Drawn0.refl _⟩
  case round =>
    obtain ⟨i, HI, rfl, HA, ⟨m1, rfl⟩⟩ := hrel
    by_cases hlt : i < l.length
    · obtain ⟨k1, rfl⟩ : ∃ k1, gk = k1 + 1 := ⟨gk - 1, by have := HI.out; omega⟩
      have c0 : decide ((i : Int) < (l.length : Int)) = true := decide_eq_true (by omega)
      obtain ⟨ad, e1, hx⟩ := Kd.at_int HR.out (i : Int) (by omega) (by omega)
      cases e1
      have HX := Aside0.mk hx
      clear hx
      have hx : w.cell? (ad.add i) = some (.int .i64 (rd l i)) := HX.out
      cases hb : p (rd l (i : Int)) with
      | true =>
        have HB := Aside0.mk hb
        clear hb
        go_wp2_with ((with_reducible refine (HP.out _ _ (pw_below_drewN (Below.refl _ _) _)).mono ?_); rintro e w' ⟨rfl, ⟨m2, rfl⟩⟩; rw [HB.out])
        go_ret
        exact ⟨by rw [idxI_here HA.out hlt HB.out]; rfl, ⟨_, rfl⟩⟩
      | false =>
        have HB := Aside0.mk hb
        clear hb
        go_wp2_with ((with_reducible refine (HP.out _ _ (pw_below_drewN (Below.refl _ _) _)).mono ?_); rintro e w' ⟨rfl, ⟨m2, rfl⟩⟩; rw [HB.out])
        go_roundg k1
        case measure => omega
        case rel => exact ⟨i + 1, ⟨by have := HI.out; omega⟩, congrArg (Value.int .i64) (wrapn hlt HM.out), ⟨take_all_snoc HA.out hlt HB.out⟩, ⟨_, rfl⟩⟩
    · have c0 : decide ((i : Int) < (l.length : Int)) = false := decide_eq_false (by omega)
      obtain rfl : i = l.length := by have := HI.out; omega
      go_wp2
      go_ret
      exact ⟨by rw [idxI_none HA.out]; rfl, ⟨_, rfl⟩⟩


theorem idxI_ge (p : Int → Bool) (l : List Int) : decide (idxI p l ≥ 0) = l.any p := by
  unfold idxI
  cases h : l.findIdx? p with
  | none =>
    rw [List.findIdx?_eq_none_iff] at h
    have : l.any p = false := by rw [List.any_eq_false]; intro x hx; simp [h x hx]
    rw [this]; rfl
  | some i =>
    rw [List.findIdx?_eq_some_iff_getElem] at h
    obtain ⟨hi, hp, _⟩ := h
    have : l.any p = true := List.any_eq_true.2 ⟨_, List.getElem_mem hi, hp⟩
    rw [this]
    exact decide_eq_true (Int.natCast_nonneg i)

set_option maxHeartbeats 1000000 in
set_option maxRecDepth 100000 in
theorem contains_any (A : Option Addr) (c : Nat) (l : List Int) (g : FuncId) (lb : Array Value) (p : Int → Bool) (w : World) (hr : Kd.C (Kd.int .i64) w A l.length l) (hc : l.length ≤ c)
    (hp : PredI g lb p w) :
    Calls Tryz.prog 95 #[.slice A l.length c, .func (.func g) #[] lb] w fun e w' => e = .returned (.bool (l.any p)) ∧ Drawn0 w w' := by
  have HC := Aside0.mk (index_any A c l g lb p w hr hc hp)
  have HE := Aside0.mk (idxI_ge p l)
  clear hp hr hc
  go_enter Tryz.func95, Tryz.ntmps95
  go_wp2_with ((with_reducible refine (HC.out).mono ?_); rintro e w' ⟨rfl, ⟨m2, rfl⟩⟩)
  go_ret
  exact ⟨by rw [← HE.out]; rfl, ⟨_, rfl⟩⟩

theorem predLit (v : Int) (b : Nat) (w : World) (hv0 : 0 ≤ v) (hv1 : v ≤ 262144) (hb : b < w.heap.size) (hc : w.cell? ⟨b, 0, none⟩ = some (.int .i64 v)) : PredI 96 #[.pointer (some ⟨b, 0, none⟩)] (litBad v) w :=
  ⟨ent_of Tryz.func96 (by kernel_rfl) rfl, fun x W hB => lit_fn v x _ W hv0 hv1 ((hB.cell (p := ⟨b, 0, none⟩) hb).trans hc)⟩

def litsE (l : List Int) (v : Int) : Int := if (l.length : Int) > 16384 then 2 else if l.any (litBad v) then 141 else 0

set_option maxHeartbeats 1000000 in
set_option maxRecDepth 100000 in
theorem literals_any (A : Option Addr) (c : Nat) (l : List Int) (v : Int) (w : World) (hr : Kd.C (Kd.int .i64) w A l.length l) (hc : l.length ≤ c) (hv0 : 0 ≤ v) (hv1 : v ≤ 262144) :
    Calls Tryz.prog 57 #[.slice A l.length c, .int .i64 v] w fun e w' => e = .returned (.int .i64 (litsE l v)) ∧ Below w.heap.size w w' := by
  have HR := Aside0.mk hr
  have HC := Aside0.mk hc
  clear hr hc
  by_cases h0 : (l.length : Int) > 16384
  · have HE : Aside0 (litsE l v = 2) := ⟨by simp [litsE, h0]⟩
    go_enter Tryz.func57, Tryz.ntmps57
    go_wp2
    go_ret
    exact ⟨by rw [HE.out]; rfl, below_alloc (Below.refl _ _) _⟩
  · have h1 : decide ((l.length : Int) > 16384) = false := decide_eq_false h0
    have HM := Aside0.mk h0
    clear h0
    cases hb : l.any (litBad v) with
    | true =>
      have HE : Aside0 (litsE l v = 141) := ⟨by unfold litsE; rw [if_neg HM.out, hb]; rfl⟩
      have HB := Aside0.mk hb
      clear hb
      go_enter Tryz.func57, Tryz.ntmps57
      go_wp2_with ((with_reducible refine (contains_any _ _ _ _ _ (litBad v) _ (Kd.C_below HR.out (below_alloc (Below.refl _ _) _)) HC.out ?_).mono ?_); (exact predLit v _ _ hv0 hv1 (by simp) (by simp)); rintro e w' ⟨rfl, ⟨m2, rfl⟩⟩; rw [HB.out])
      go_ret
      exact ⟨by rw [HE.out]; rfl, pw_below_drewN (below_alloc (Below.refl _ _) _) _⟩
    | false =>
      have HE : Aside0 (litsE l v = 0) := ⟨by unfold litsE; rw [if_neg HM.out, hb]; rfl⟩
      have HB := Aside0.mk hb
      clear hb
      go_enter Tryz.func57, Tryz.ntmps57
      go_wp2_with ((with_reducible refine (contains_any _ _ _ _ _ (litBad v) _ (Kd.C_below HR.out (below_alloc (Below.refl _ _) _)) HC.out ?_).mono ?_); (exact predLit v _ _ hv0 hv1 (by simp) (by simp)); rintro e w' ⟨rfl, ⟨m2, rfl⟩⟩; rw [HB.out])
      go_ret
      exact ⟨by rw [HE.out]; rfl, pw_below_drewN (below_alloc (Below.refl _ _) _) _⟩

end Go.Proofs.YtjfmoildblcjiaaGreatDoor.H1
end

section
/- What is proved here: the contract of cnf.Check. -/
namespace Go.Proofs.YtjfmoildblcjiaaGreatDoor.H2
open Go.RowKit Go.Proofs.YtjfmoildblcjiaaGreatDoorW.PrintWords Go.Proofs.YtjfmoildblcjiaaGreatDoorW.PrintLast Go.Proofs.YtjfmoildblcjiaaGreatDoorW.PrintMore Go.Proofs.YtjfmoildblcjiaaGreatDoor.H1

def checkL (v : Int) : Nat → List (List Int) → Int × Int
  | _, [] => (0, 0)
  | i, c :: r => if litsE c v = 0 then checkL v (i + 1) r else ((i : Int), litsE c v)
def checkE (v : Int) (cs : List (List Int)) : Int × Int :=
  if v < 0 then (0, 1) else if v > 262144 then (0, 1) else if (cs.length : Int) > 524288 then (0, 2) else checkL v 0 cs

theorem getD_drop {α : Type} {l : List α} {i : Nat} {d : α} (h : i < l.length) : l.drop i = l.getD i d :: l.drop (i + 1) := by
  rw [List.drop_eq_getElem_cons h, List.getD_eq_getElem?_getD, List.getElem?_eq_getElem h]; rfl
def rdL (xs : List (List Int)) (i : Int) : List Int := xs.getD i.toNat []
theorem at_L {e : Nat} {w : World} {A : Option Addr} {n : Nat} {xs : List (List Int)} (h : Kd.C (Kd.slice e (Kd.int .i64)) w A n xs) (i : Int) (h0 : 0 ≤ i) (h1 : i < n) : ∃ ad A0 c0, A = some ad ∧ w.cell? (ad.add i.toNat) = some (.slice A0 (rdL xs i).length c0) ∧ (rdL xs i).length ≤ c0 ∧ (Kd.int .i64).C w A0 (rdL xs i).length (rdL xs i) := by
  obtain ⟨ad, c, e, _, hK, hc0⟩ := Kd.C_get h ([] : List Int) i h0 h1
  have hc : ∀ j u, c[j]? = some u → w.cell? (ad.add (i.toNat * 1 + j)) = some u := hc0
  obtain ⟨A0, c0, rfl, l0, g0⟩ := hK
  exact ⟨ad, A0, c0, e, by have hq := hc 0 _ rfl; rwa [Nat.mul_one, Nat.add_zero] at hq, l0, g0⟩

set_option maxHeartbeats 2000000 in
set_option maxRecDepth 100000 in
theorem check_any (v : Int) (A : Option Addr) (c : Nat) (cs : List (List Int)) (w : World) (hr : Kd.C (Kd.slice 3 (Kd.int .i64)) w A cs.length cs) (_hc : cs.length ≤ c) :
    Calls Tryz.prog 34 #[.agg #[.int .i64 v, .slice A cs.length c]] w fun e w' => e = .returned (.tuple #[.int .i64 (checkE v cs).1, .int .i64 (checkE v cs).2]) ∧ Below w.heap.size w w' := by
  have HR := Aside0.mk hr
  have HM := Aside0.mk (Kd.C_max hr)
  clear hr
  by_cases h0 : v < 0
  · have HE : Aside0 (checkE v cs = (0, 1)) := ⟨by unfold checkE; rw [if_pos h0]⟩
    have h0' : decide (v < 0) = true := decide_eq_true h0
    clear h0
    go_enter Tryz.func34, Tryz.ntmps34
    go_wp2
    go_ret2
    exact ⟨by rw [HE.out]; rfl, below_alloc (Below.refl _ _) _⟩
  · have h0' : decide (v < 0) = false := decide_eq_false h0
    by_cases h1 : v > 262144
    · have HE : Aside0 (checkE v cs = (0, 1)) := ⟨by unfold checkE; rw [if_neg h0, if_pos h1]⟩
      have h1' : decide (v > 262144) = true := decide_eq_true h1
      clear h0 h1
      go_enter Tryz.func34, Tryz.ntmps34
      go_wp2
      go_ret2
      exact ⟨by rw [HE.out]; rfl, below_alloc (Below.refl _ _) _⟩
    · have h1' : decide (v > 262144) = false := decide_eq_false h1
      by_cases h2 : (cs.length : Int) > 524288
      · have HE : Aside0 (checkE v cs = (0, 2)) := ⟨by unfold checkE; rw [if_neg h0, if_neg h1, if_pos h2]⟩
        have h2' : decide ((cs.length : Int) > 524288) = true := decide_eq_true h2
        clear h0 h1 h2
        go_enter Tryz.func34, Tryz.ntmps34
        go_wp2
        go_ret2
        exact ⟨by rw [HE.out]; rfl, below_alloc (Below.refl _ _) _⟩
      · have h2' : decide ((cs.length : Int) > 524288) = false := decide_eq_false h2
        have HE : Aside0 (checkE v cs = checkL v 0 cs) := ⟨by unfold checkE; rw [if_neg h0, if_neg h1, if_neg h2]⟩
        have H0 := Aside0.mk h0
        have H1 := Aside0.mk h1
        clear h0 h1 h2
        go_enter Tryz.func34, Tryz.ntmps34
        go_wp2
        go_loopg [22] (cs.length) (fun kq v22 w' => ∃ i : Nat, Aside0 (i + kq = cs.length) ∧ v22 = .int .i64 (i : Int) ∧ Aside0 (checkE v cs = checkL v i (cs.drop i)) ∧ Aside0 (Below (w.heap.size + 1) (w.alloc (.cells #[.int .i64 v, .slice A cs.length c] 24)) w'))
        case atStart => exact ⟨0, ⟨by omega⟩, rfl, ⟨HE.out⟩, ⟨Below.refl _ _⟩⟩
        case round =>
          obtain ⟨i, HI, rfl, HA, HB⟩ := hrel
          have k0 : wr.cell? ⟨w.heap.size, 0, none⟩ = some (.int .i64 v) := (HB.out.cell (p := ⟨w.heap.size, 0, none⟩) (Nat.lt_succ_self _)).trans (by simp)
          have hB : Below w.heap.size w wr := (below_alloc (Below.refl _ _) _).trans (HB.out.mono (Nat.le_succ _))
          by_cases hlt : i < cs.length
          · obtain ⟨k1, rfl⟩ : ∃ k1, gk = k1 + 1 := ⟨gk - 1, by have := HI.out; omega⟩
            have c0 : decide ((i : Int) < (cs.length : Int)) = true := decide_eq_true (by omega)
            obtain ⟨ad, A0, cc, e1, hx, hl, hC⟩ := at_L (Kd.C_below HR.out hB) (i : Int) (by omega) (by omega)
            cases e1
            have hx : wr.cell? (ad.add i) = some (.slice A0 (rdL cs i).length cc) := hx
            have HD : Aside0 (cs.drop i = rdL cs i :: cs.drop (i + 1)) := ⟨getD_drop hlt⟩
            generalize rdL cs (i : Int) = l at *
            have HC := Aside0.mk hC
            have HL := Aside0.mk hl
            have HBW := Aside0.mk hB
            clear hC hl hB
            by_cases he : litsE l v = 0
            · have HV := Aside0.mk he
              have HS : Aside0 (checkL v i (cs.drop i) = checkL v (i + 1) (cs.drop (i + 1))) := ⟨by rw [HD.out]; exact if_pos he⟩
              have d0 : (litsE l v != 0) = false := bne_eq_false_iff_eq.2 he
              clear he
              go_wp2_with ((with_reducible refine (literals_any _ _ l v _ HC.out HL.out H0.out H1.out).mono ?_); rintro e w1 ⟨rfl, hb1⟩; have HB1 := Aside0.mk hb1; clear hb1)
              go_roundg k1
              case measure => omega
              case rel => exact ⟨i + 1, ⟨by have := HI.out; omega⟩, congrArg (Value.int .i64) (wrapn hlt HM.out), ⟨HA.out.trans HS.out⟩, ⟨HB.out.trans (HB1.out.mono (by have := HB.out.size; simpa using this))⟩⟩
            · have HV := Aside0.mk he
              have HS : Aside0 (checkL v i (cs.drop i) = ((i : Int), litsE l v)) := ⟨by rw [HD.out]; exact if_neg he⟩
              have d0 : (litsE l v != 0) = true := bne_iff_ne.2 he
              clear he
              go_wp2_with ((with_reducible refine (literals_any _ _ l v _ HC.out HL.out H0.out H1.out).mono ?_); rintro e w1 ⟨rfl, hb1⟩; have HB1 := Aside0.mk hb1; clear hb1)
              go_ret2
              exact ⟨by rw [HA.out, HS.out]; rfl, HBW.out.trans (HB1.out.mono HBW.out.size)⟩
          · have c0 : decide ((i : Int) < (cs.length : Int)) = false := decide_eq_false (by omega)
            obtain rfl : i = cs.length := by have := HI.out; omega
            have HS : Aside0 (checkL v cs.length (cs.drop cs.length) = (0, 0)) := ⟨by rw [List.drop_length]; rfl⟩
            have HBW := Aside0.mk hB
            clear hB
            go_wp2
            go_ret2
            exact ⟨by rw [HA.out, HS.out]; rfl, HBW.out⟩

end Go.Proofs.YtjfmoildblcjiaaGreatDoor.H2
end

section
/- What is proved here: contracts of slices.IndexFunc and ContainsFunc at clauses, of cnf.holds and cnf.first. -/
namespace Go.Proofs.YtjfmoildblcjiaaGreatDoor.H6
open Go.RowKit Go.Proofs.YtjfmoildblcjiaaGreatDoorW.PrintWords Go.Proofs.YtjfmoildblcjiaaGreatDoorW.PrintLast Go.Proofs.YtjfmoildblcjiaaGreatDoorW.PrintMore Go.Proofs.YtjfmoildblcjiaaGreatDoor.H1 Go.Proofs.YtjfmoildblcjiaaGreatDoor.H2

/-- The function g with the captured lb tells p of each of the ints, in every world that has this one's blocks. -/
def PredIn (g : FuncId) (lb : Array Value) (p : Int → Bool) (l : List Int) (w : World) : Prop :=
  Ent g ∧ ∀ x ∈ l, ∀ W, Below w.heap.size w W → Calls Tryz.prog g (#[.int .i64 x] ++ lb) W fun e w' => e = .returned (.bool (p x)) ∧ Drawn0 W w'
def idxG {α : Type} (p : α → Bool) (l : List α) : Int := match l.findIdx? p with | some i => i | none => -1
theorem idxG_ge {α : Type} (p : α → Bool) (l : List α) : decide (idxG p l ≥ 0) = l.any p := by
  unfold idxG
  cases h : l.findIdx? p with
  | none =>
    rw [List.findIdx?_eq_none_iff] at h
    have : l.any p = false := by rw [List.any_eq_false]; intro x hx; simp [h x hx]
    rw [this]; rfl
  | some i =>
    rw [List.findIdx?_eq_some_iff_getElem] at h
    obtain ⟨hi, hp, _⟩ := h
    have : l.any p = true := List.any_eq_true.2 ⟨_, List.getElem_mem hi, hp⟩
    rw [this]
    exact decide_eq_true (Int.natCast_nonneg i)
theorem takeG_snoc {α : Type} {l : List α} {p : α → Bool} {d : α} {i : Nat} (h : ∀ x ∈ l.take i, p x = false) (hi : i < l.length) (hp : p (l.getD i d) = false) : ∀ x ∈ l.take (i + 1), p x = false := by
  intro x hx
  rw [List.take_succ_eq_append_getElem hi] at hx
  rcases List.mem_append.1 hx with h1 | h1
  · exact h x h1
  · rw [List.mem_singleton.1 h1]
    simpa [List.getD_eq_getElem?_getD, List.getElem?_eq_getElem hi] using hp
theorem idxG_here {α : Type} {l : List α} {p : α → Bool} {d : α} {i : Nat} (h : ∀ x ∈ l.take i, p x = false) (hi : i < l.length) (hp : p (l.getD i d) = true) : idxG p l = i := by
  have e : l.findIdx? p = some i := by
    rw [List.findIdx?_eq_some_iff_getElem]
    refine ⟨hi, by simpa [List.getD_eq_getElem?_getD, List.getElem?_eq_getElem hi] using hp, fun j hj => ?_⟩
    have := h (l[j]) (by rw [List.mem_take_iff_getElem]; exact ⟨j, by omega, rfl⟩)
    simp [this]
  simp [idxG, e]
theorem idxG_none {α : Type} {l : List α} {p : α → Bool} (h : ∀ x ∈ l.take l.length, p x = false) : idxG p l = -1 := by
  have e : l.findIdx? p = none := by
    rw [List.findIdx?_eq_none_iff]
    intro x hx
    exact h x (by simpa using hx)
  simp [idxG, e]
theorem mem_getD {α : Type} {l : List α} {d : α} {i : Nat} (h : i < l.length) : l.getD i d ∈ l := by
  rw [List.getD_eq_getElem?_getD, List.getElem?_eq_getElem h]
  exact List.getElem_mem h

set_option maxHeartbeats 1000000 in
set_option maxRecDepth 100000 in
theorem indexC_any (A : Option Addr) (c : Nat) (l : List Int) (g : FuncId) (lb : Array Value) (p : Int → Bool) (w : World) (hr : Kd.C (Kd.int .i64) w A l.length l) (_hc : l.length ≤ c)
    (hp : PredIn g lb p l w) :
    Calls Tryz.prog 156 #[.slice A l.length c, .func (.func g) #[] lb] w fun e w' => e = .returned (.int .i64 (idxG p l)) ∧ Drawn0 w w' := by
  have HR := Aside0.mk hr
  have HP := Aside0.mk hp.2
  have he := hp.1
  have HM := Aside0.mk (Kd.C_max hr)
  unfold Ent at he
  clear hr hp
  go_enter Tryz.func156, Tryz.ntmps156
  go_wp2
  go_loopg [8] (l.length) (fun kq v8 w' => ∃ i : Nat, Aside0 (i + kq = l.length) ∧ v8 = .int .i64 (i : Int) ∧ Aside0 (∀ x ∈ l.take i, p x = false) ∧ Drawn0 w w')
  case atStart => exact ⟨0, ⟨by omega⟩, rfl, ⟨by simp⟩, Drawn0.refl _⟩
  case round =>
    obtain ⟨i, HI, rfl, HA, ⟨m1, rfl⟩⟩ := hrel
    by_cases hlt : i < l.length
    · obtain ⟨k1, rfl⟩ : ∃ k1, gk = k1 + 1 := ⟨gk - 1, by have := HI.out; omega⟩
      have c0 : decide ((i : Int) < (l.length : Int)) = true := decide_eq_true (by omega)
      obtain ⟨ad, e1, hx⟩ := Kd.at_int HR.out (i : Int) (by omega) (by omega)
      cases e1
      have HX := Aside0.mk hx
      clear hx
      have hx : w.cell? (ad.add i) = some (.int .i64 (rd l i)) := HX.out
      have HMem := Aside0.mk (show rd l (i : Int) ∈ l from mem_getD hlt)
      cases hb : p (rd l (i : Int)) with
      | true =>
        have HB := Aside0.mk hb
        clear hb
        go_wp2_with ((with_reducible refine (HP.out _ HMem.out _ (pw_below_drewN (Below.refl _ _) _)).mono ?_); rintro e w' ⟨rfl, ⟨m2, rfl⟩⟩; rw [HB.out])
        go_ret
        exact ⟨by rw [idxG_here HA.out hlt HB.out]; rfl, ⟨_, rfl⟩⟩
      | false =>
        have HB := Aside0.mk hb
        clear hb
        go_wp2_with ((with_reducible refine (HP.out _ HMem.out _ (pw_below_drewN (Below.refl _ _) _)).mono ?_); rintro e w' ⟨rfl, ⟨m2, rfl⟩⟩; rw [HB.out])
        go_roundg k1
        case measure => omega
        case rel => exact ⟨i + 1, ⟨by have := HI.out; omega⟩, congrArg (Value.int .i64) (wrapn hlt HM.out), ⟨takeG_snoc HA.out hlt HB.out⟩, ⟨_, rfl⟩⟩
    · have c0 : decide ((i : Int) < (l.length : Int)) = false := decide_eq_false (by omega)
      obtain rfl : i = l.length := by have := HI.out; omega
      go_wp2
      go_ret
      exact ⟨by rw [idxG_none HA.out]; rfl, ⟨_, rfl⟩⟩

set_option maxHeartbeats 1000000 in
set_option maxRecDepth 100000 in
theorem containsC_any (A : Option Addr) (c : Nat) (l : List Int) (g : FuncId) (lb : Array Value) (p : Int → Bool) (w : World) (hr : Kd.C (Kd.int .i64) w A l.length l) (hc : l.length ≤ c)
    (hp : PredIn g lb p l w) :
    Calls Tryz.prog 132 #[.slice A l.length c, .func (.func g) #[] lb] w fun e w' => e = .returned (.bool (l.any p)) ∧ Drawn0 w w' := by
  have HC := Aside0.mk (indexC_any A c l g lb p w hr hc hp)
  have HE := Aside0.mk (idxG_ge p l)
  clear hp hr hc
  go_enter Tryz.func132, Tryz.ntmps132
  go_wp2_with ((with_reducible refine (HC.out).mono ?_); rintro e w' ⟨rfl, ⟨m2, rfl⟩⟩)
  go_ret
  exact ⟨by rw [← HE.out]; rfl, ⟨_, rfl⟩⟩

/-- The same at clauses: the function may lay blocks. -/
def PredLn (g : FuncId) (lb : Array Value) (p : List Int → Bool) (cs : List (List Int)) (w : World) : Prop :=
  Ent g ∧ ∀ x ∈ cs, ∀ A c W, Below w.heap.size w W → Kd.C (Kd.int .i64) W A x.length x → x.length ≤ c → Calls Tryz.prog g (#[.slice A x.length c] ++ lb) W fun e w' => e = .returned (.bool (p x)) ∧ Below W.heap.size W w'

set_option maxHeartbeats 1000000 in
set_option maxRecDepth 100000 in
theorem indexL_any (A : Option Addr) (c : Nat) (cs : List (List Int)) (g : FuncId) (lb : Array Value) (p : List Int → Bool) (w : World) (hr : Kd.C (Kd.slice 3 (Kd.int .i64)) w A cs.length cs) (_hc : cs.length ≤ c)
    (hp : PredLn g lb p cs w) :
    Calls Tryz.prog 100 #[.slice A cs.length c, .func (.func g) #[] lb] w fun e w' => e = .returned (.int .i64 (idxG p cs)) ∧ Below w.heap.size w w' := by
  have HR := Aside0.mk hr
  have HP := Aside0.mk hp.2
  have he := hp.1
  have HM := Aside0.mk (Kd.C_max hr)
  unfold Ent at he
  clear hr hp
  go_enter Tryz.func100, Tryz.ntmps100
  go_wp2
  go_loopg [8] (cs.length) (fun kq v8 w' => ∃ i : Nat, Aside0 (i + kq = cs.length) ∧ v8 = .int .i64 (i : Int) ∧ Aside0 (∀ x ∈ cs.take i, p x = false) ∧ Aside0 (Below w.heap.size w w'))
  case atStart => exact ⟨0, ⟨by omega⟩, rfl, ⟨by simp⟩, ⟨Below.refl _ _⟩⟩
  case round =>
    obtain ⟨i, HI, rfl, HA, HB⟩ := hrel
    by_cases hlt : i < cs.length
    · obtain ⟨k1, rfl⟩ : ∃ k1, gk = k1 + 1 := ⟨gk - 1, by have := HI.out; omega⟩
      have c0 : decide ((i : Int) < (cs.length : Int)) = true := decide_eq_true (by omega)
      obtain ⟨ad, A0, cc, e1, hx, hl, hC⟩ := at_L (Kd.C_below HR.out HB.out) (i : Int) (by omega) (by omega)
      cases e1
      have hx : wr.cell? (ad.add i) = some (.slice A0 (rdL cs i).length cc) := hx
      have HMem := Aside0.mk (show rdL cs (i : Int) ∈ cs from mem_getD hlt)
      have HC := Aside0.mk hC
      have HL := Aside0.mk hl
      clear hC hl
      cases hb : p (rdL cs (i : Int)) with
      | true =>
        have HB1 := Aside0.mk hb
        clear hb
        go_wp2_with ((with_reducible refine (HP.out _ HMem.out _ _ _ HB.out HC.out HL.out).mono ?_); rintro e w' ⟨rfl, hb2⟩; rw [HB1.out]; have HB2 := Aside0.mk hb2; clear hb2)
        go_ret
        exact ⟨by rw [idxG_here HA.out hlt HB1.out]; rfl, HB.out.trans (HB2.out.mono HB.out.size)⟩
      | false =>
        have HB1 := Aside0.mk hb
        clear hb
        go_wp2_with ((with_reducible refine (HP.out _ HMem.out _ _ _ HB.out HC.out HL.out).mono ?_); rintro e w' ⟨rfl, hb2⟩; rw [HB1.out]; have HB2 := Aside0.mk hb2; clear hb2)
        go_roundg k1
        case measure => omega
        case rel => exact ⟨i + 1, ⟨by have := HI.out; omega⟩, congrArg (Value.int .i64) (wrapn hlt HM.out), ⟨takeG_snoc HA.out hlt HB1.out⟩, ⟨HB.out.trans (HB2.out.mono HB.out.size)⟩⟩
    · have c0 : decide ((i : Int) < (cs.length : Int)) = false := decide_eq_false (by omega)
      obtain rfl : i = cs.length := by have := HI.out; omega
      go_wp2
      go_ret
      exact ⟨by rw [idxG_none HA.out]; rfl, HB.out⟩

/-- A literal under a model. -/
def litT (m : List Bool) (x : Int) : Bool := if x < 0 then !(rdOf false m (-x - 1)) else rdOf false m (x - 1)
def clauseT (m : List Bool) (c : List Int) : Bool := c.any (litT m)
/-- All literals stand in the model. -/
def inM (n : Nat) (c : List Int) : Prop := ∀ x ∈ c, x ≠ 0 ∧ -(n : Int) ≤ x ∧ x ≤ n

set_option maxHeartbeats 1000000 in
set_option maxRecDepth 100000 in
theorem holds1 (x : Int) (m : List Bool) (A : Option Addr) (cm : Nat) (b : Nat) (w : World) (hr : Kd.C Kd.bool w A m.length m) (hx : x ≠ 0) (h0 : -(m.length : Int) ≤ x) (h1 : x ≤ m.length) (hc : w.cell? ⟨b, 0, none⟩ = some (.slice A m.length cm)) :
    Calls Tryz.prog 133 #[.int .i64 x, .pointer (some ⟨b, 0, none⟩)] w fun e w' => e = .returned (.bool (litT m x)) ∧ Drawn0 w w' := by
  have HR := Aside0.mk hr
  have hmax := Kd.C_max hr
  clear hr
  by_cases hn : x < 0
  · have d0 : decide (x < 0) = true := decide_eq_true hn
    have hw : wrap64 (wrap64 (-x) - 1) = -x - 1 := by unfold wrap64; omega
    have hI : 0 ≤ wrap64 (wrap64 (-x) - 1) ∧ wrap64 (wrap64 (-x) - 1) < (m.length : Int) := by rw [hw]; omega
    obtain ⟨ad, e1, hy⟩ := Kd.at_bool HR.out (wrap64 (wrap64 (-x) - 1)) hI.1 hI.2
    cases e1
    have HE : Aside0 (litT m x = !(rdOf false m (wrap64 (wrap64 (-x) - 1)))) := ⟨by unfold litT; rw [if_pos hn, hw]⟩
    generalize rdOf false m (wrap64 (wrap64 (-x) - 1)) = y at *
    clear hn hw h0 h1 hmax hx
    go_enter Tryz.func133, Tryz.ntmps133
    go_wp2
    go_ret
    exact ⟨by rw [HE.out]; rfl, Drawn0.refl _⟩
  · have d0 : decide (x < 0) = false := decide_eq_false hn
    have hw : wrap64 (x - 1) = x - 1 := by unfold wrap64; omega
    have hI : 0 ≤ wrap64 (x - 1) ∧ wrap64 (x - 1) < (m.length : Int) := by rw [hw]; omega
    obtain ⟨ad, e1, hy⟩ := Kd.at_bool HR.out (wrap64 (x - 1)) hI.1 hI.2
    cases e1
    have HE : Aside0 (litT m x = (rdOf false m (wrap64 (x - 1)))) := ⟨by unfold litT; rw [if_neg hn, hw]⟩
    generalize rdOf false m (wrap64 (x - 1)) = y at *
    clear hn hw h0 h1 hmax hx
    go_enter Tryz.func133, Tryz.ntmps133
    go_wp2
    go_ret
    exact ⟨by rw [HE.out]; rfl, Drawn0.refl _⟩

set_option maxHeartbeats 1000000 in
set_option maxRecDepth 100000 in
theorem holds_any (A : Option Addr) (c : Nat) (l : List Int) (Am : Option Addr) (cm : Nat) (m : List Bool) (w : World) (hr : Kd.C (Kd.int .i64) w A l.length l) (hc : l.length ≤ c) (hm : Kd.C Kd.bool w Am m.length m) (hl : inM m.length l) :
    Calls Tryz.prog 102 #[.slice A l.length c, .slice Am m.length cm] w fun e w' => e = .returned (.bool (clauseT m l)) ∧ Below w.heap.size w w' := by
  have HR := Aside0.mk hr
  have HC := Aside0.mk hc
  have HMo := Aside0.mk hm
  have HL := Aside0.mk hl
  have HE : Aside0 (clauseT m l = l.any (litT m)) := ⟨rfl⟩
  clear hr hc hm hl
  go_enter Tryz.func102, Tryz.ntmps102
  go_wp2_with ((with_reducible refine (containsC_any _ _ _ _ _ (litT m) _ (Kd.C_below HR.out (below_alloc (Below.refl _ _) _)) HC.out ?_).mono ?_); (exact ⟨ent_of Tryz.func133 (by kernel_rfl) rfl, fun x hx W hB => holds1 x m Am cm _ W (Kd.C_below HMo.out ((below_alloc (Below.refl _ _) _).trans (hB.mono (by simp)))) (HL.out x hx).1 (HL.out x hx).2.1 (HL.out x hx).2.2 ((hB.cell (by simp)).trans (by simp))⟩); rintro e w' ⟨rfl, ⟨m2, rfl⟩⟩)
  go_ret
  exact ⟨by rw [HE.out]; rfl, pw_below_drewN (below_alloc (Below.refl _ _) _) _⟩

def firstI (m : List Bool) (cs : List (List Int)) : Int := idxG (fun c => !clauseT m c) cs

set_option maxHeartbeats 1000000 in
set_option maxRecDepth 100000 in
theorem first1 (A : Option Addr) (c : Nat) (l : List Int) (Am : Option Addr) (cm : Nat) (m : List Bool) (b : Nat) (w : World) (hr : Kd.C (Kd.int .i64) w A l.length l) (hc : l.length ≤ c) (hm : Kd.C Kd.bool w Am m.length m) (hl : inM m.length l) (hb : w.cell? ⟨b, 0, none⟩ = some (.slice Am m.length cm)) :
    Calls Tryz.prog 101 #[.slice A l.length c, .pointer (some ⟨b, 0, none⟩)] w fun e w' => e = .returned (.bool (!clauseT m l)) ∧ Below w.heap.size w w' := by
  have HH := Aside0.mk (holds_any A c l Am cm m w hr hc hm hl)
  clear hr hc hm hl
  go_enter Tryz.func101, Tryz.ntmps101
  go_wp2_with ((with_reducible refine (HH.out).mono ?_); rintro e w' ⟨rfl, hb2⟩; have HB2 := Aside0.mk hb2; clear hb2)
  go_ret
  exact ⟨rfl, HB2.out⟩

set_option maxHeartbeats 1000000 in
set_option maxRecDepth 100000 in
theorem first_any (v : Int) (A : Option Addr) (c : Nat) (cs : List (List Int)) (Am : Option Addr) (cm : Nat) (m : List Bool) (w : World) (hr : Kd.C (Kd.slice 3 (Kd.int .i64)) w A cs.length cs) (hc : cs.length ≤ c) (hm : Kd.C Kd.bool w Am m.length m) (hl : ∀ l ∈ cs, inM m.length l) :
    Calls Tryz.prog 63 #[.agg #[.int .i64 v, .slice A cs.length c], .slice Am m.length cm] w fun e w' => e = .returned (.int .i64 (firstI m cs)) ∧ Below w.heap.size w w' := by
  have HR := Aside0.mk hr
  have HC := Aside0.mk hc
  have HMo := Aside0.mk hm
  have HL := Aside0.mk hl
  have HE : Aside0 (firstI m cs = idxG (fun c => !clauseT m c) cs) := ⟨rfl⟩
  clear hr hc hm hl
  go_enter Tryz.func63, Tryz.ntmps63
  go_wp2_with ((with_reducible refine (indexL_any _ _ cs _ _ (fun c => !clauseT m c) _ (Kd.C_below HR.out (below_alloc (below_alloc (Below.refl _ _) _) _)) HC.out ?_).mono ?_); (exact ⟨ent_of Tryz.func101 (by kernel_rfl) rfl, fun x hx A0 c0 W hB hC0 hl0 => first1 A0 c0 x Am cm m _ W hC0 hl0 (Kd.C_below HMo.out ((below_alloc (below_alloc (Below.refl _ _) _) _).trans (hB.mono (by simp; omega)))) (HL.out x hx) ((hB.cell (by simp)).trans (by simp))⟩); rintro e w' ⟨rfl, hb2⟩; have HB2 := Aside0.mk hb2; clear hb2)
  go_ret
  exact ⟨by rw [HE.out]; rfl, (below_alloc (below_alloc (Below.refl _ _) _) _).trans (HB2.out.mono (by simp; omega))⟩

end Go.Proofs.YtjfmoildblcjiaaGreatDoor.H6
end

section
/- What is proved here: laws of a map[int]int of the call's own whose elements are all 1 (a set of ints), over the model's own operations: make, look-up, store, range, next, entry. -/
namespace Go.Proofs.YtjfmoildblcjiaaGreatDoor.HM
open Go.RowKit Go.Proofs.YtjfmoildblcjiaaGreatDoorW.PrintWords Go.Proofs.YtjfmoildblcjiaaGreatDoorW.PrintLast Go.Proofs.YtjfmoildblcjiaaGreatDoorW.PrintMore

def iv (x : Int) : Value := .int .i64 x
/-- The entries of a map whose keys are S in order of coming, each with the element 1. -/
structure Ents (es : Array MapEntry) (clock : Nat) (S : List Int) : Prop where
  keys : es.toList.map (·.key) = S.map iv
  vals : ∀ e ∈ es.toList, e.val = iv 1
  born : (es.toList.map (·.born)).Nodup
  old : ∀ e ∈ es.toList, e.born < clock
  nodup : S.Nodup
def IsSet (w : World) (b : Nat) (S : List Int) : Prop := ∃ es clock, w.heap[b]? = some (.map es clock) ∧ Ents es clock S

theorem iv_inj {a b : Int} (h : iv a = iv b) : a = b := by injection h
theorem findNow_none {x : Int} : ∀ (l : List MapEntry) (S : List Int) (i : Nat), l.map (·.key) = S.map iv → x ∉ S → Instr.findNow (.int .i64) (iv x) l i = some none
  | [], _, _, _, _ => rfl
  | e :: l, S, i, h, hx => by
    cases S with
    | nil => simp at h
    | cons y S =>
      simp only [List.map_cons, List.cons.injEq] at h
      have hy : (x == y) = false := beq_eq_false_iff_ne.2 (fun hh => hx (by simp [hh]))
      simp only [Instr.findNow, h.1, Instr.sameNow, iv, if_true, hy]
      exact findNow_none l S (i + 1) h.2 (fun hh => hx (by simp [hh]))
theorem findNow_some {x : Int} : ∀ (l : List MapEntry) (S : List Int) (i : Nat), l.map (·.key) = S.map iv → (∀ e ∈ l, e.val = iv 1) → x ∈ S → ∃ j, j < l.length ∧ (l[j]?).map (·.key) = some (iv x) ∧ Instr.findNow (.int .i64) (iv x) l i = some (some (i + j, iv 1))
  | [], S, _, h, _, hx => by
    cases S with
    | nil => simp at hx
    | cons y S => simp at h
  | e :: l, S, i, h, hv, hx => by
    cases S with
    | nil => simp at h
    | cons y S =>
      simp only [List.map_cons, List.cons.injEq] at h
      by_cases hy : x = y
      · refine ⟨0, by simp, by simp [h.1, hy], ?_⟩
        simp only [Instr.findNow, h.1, Instr.sameNow, iv, if_true, hy, beq_self_eq_true]
        rw [hv e (by simp)]
        rfl
      · have hy' : (x == y) = false := beq_eq_false_iff_ne.2 hy
        obtain ⟨j, hj, hk, hf⟩ := findNow_some l S (i + 1) h.2 (fun e he => hv e (by simp [he])) (by simpa [hy] using hx)
        refine ⟨j + 1, by simpa using hj, by simpa using hk, ?_⟩
        simp only [Instr.findNow, h.1, Instr.sameNow, iv, if_true, hy']
        rw [show i + (j + 1) = i + 1 + j from by omega]
        exact hf

section
variable {P : Program} {w : World} {b : Nat} {S : List Int} {T K E : TypeId}
theorem run_ck (em : Bool) (n : Nat) (x : Int) (w : World) (hK : P.underlying K = some (.int .i64)) : (Instr.checkKey em (n + 1) K (.int .i64 x)).run P w = .ok () w := by
  simp [Instr.checkKey, run_underlying hK]
theorem run_ck' (em : Bool) (x : Int) (w : World) (hK : P.underlying K = some (.int .i64)) : (Instr.checkKey em 10000 K (.int .i64 x)).run P w = .ok () w := run_ck em 9999 x w hK
theorem get_map {es : Array MapEntry} {clock : Nat} (h : w.heap[b]? = some (.map es clock)) : (getObj b).run P w = .ok (.map es clock) w := by simp [getObj, Sem.run, h]
theorem set_map {es : Array MapEntry} {clock : Nat} (h : w.heap[b]? = some (.map es clock)) (o : Obj) : (setObj b o).run P w = .ok () { w with heap := w.heap.setIfInBounds b o } := by simp [setObj, Sem.run, h]
theorem get_iter {m : Option Nat} {s c : Nat} {seen : Array Nat} (h : w.heap[b]? = some (.mapIter m s seen c)) : (getObj b).run P w = .ok (.mapIter m s seen c) w := by simp [getObj, Sem.run, h]
theorem set_iter {m : Option Nat} {s c : Nat} {seen : Array Nat} (h : w.heap[b]? = some (.mapIter m s seen c)) (o : Obj) : (setObj b o).run P w = .ok () { w with heap := w.heap.setIfInBounds b o } := by simp [setObj, Sem.run, h]
theorem grown_set (w : World) (b : Nat) (o : Obj) : w.grownBy { w with heap := w.heap.setIfInBounds b o } (some b) := by
  refine ⟨rfl, rfl, rfl, by simp, fun k _ hk => ?_⟩
  have : b ≠ k := fun e => hk (by rw [e])
  simp [this]
theorem lookup_in (hs : IsSet w b S) (hT : P.underlying T = some (.map K E)) (hK : P.underlying K = some (.int .i64)) {x : Int} (hx : x ∈ S) :
    (Instr.lookup T (.map (some b)) (.int .i64 x) false).run P w = .ok (.int .i64 1) w := by
  obtain ⟨es, clock, hb, F⟩ := hs
  obtain ⟨j, hj, _, hf⟩ := findNow_some es.toList S 0 F.keys F.vals hx
  unfold iv at hf
  simp [Instr.lookup, get_map hb, run_ck' _ x w hK, Instr.findKey, run_underlying hT, run_underlying hK, hf]
theorem lookup_out (hs : IsSet w b S) (hT : P.underlying T = some (.map K E)) (hK : P.underlying K = some (.int .i64)) (hE : (zeroValue E).run P w = .ok (.int .i64 0) w) {x : Int} (hx : x ∉ S) :
    (Instr.lookup T (.map (some b)) (.int .i64 x) false).run P w = .ok (.int .i64 0) w := by
  obtain ⟨es, clock, hb, F⟩ := hs
  have hf := findNow_none es.toList S 0 F.keys hx
  unfold iv at hf
  simp [Instr.lookup, get_map hb, run_ck' _ x w hK, Instr.findKey, run_underlying hT, run_underlying hK, hf, hE]
/-- A literal more in the set. -/
def put (S : List Int) (x : Int) : List Int := if x ∈ S then S else S ++ [x]
theorem made (w : World) : IsSet (w.alloc (.map #[] 0)) w.heap.size [] := ⟨#[], 0, heap_alloc_new w _, ⟨rfl, by simp, by simp, by simp, by simp⟩⟩
theorem IsSet.grown {w1 : World} {row : Option Nat} (h : IsSet w b S) (hg : w.grownBy w1 row) (hne : some b ≠ row) : IsSet w1 b S := by
  obtain ⟨es, clock, hb, F⟩ := h
  exact ⟨es, clock, (hg.block b (by
    rcases Nat.lt_or_ge b w.heap.size with h | h
    · exact h
    · simp [Array.getElem?_eq_none h] at hb) hne).trans hb, F⟩
theorem IsSet.lt (h : IsSet w b S) : b < w.heap.size := by
  obtain ⟨es, clock, hb, F⟩ := h
  rcases Nat.lt_or_ge b w.heap.size with h | h
  · exact h
  · simp [Array.getElem?_eq_none h] at hb
theorem IsSet.below {w1 : World} {B : Nat} (h : IsSet w b S) (hb : Below B w w1) (hB : b < B) : IsSet w1 b S := by
  obtain ⟨es, clock, h1, F⟩ := h
  exact ⟨es, clock, (hb.block b hB).trans h1, F⟩
theorem ents_modify {es : Array MapEntry} {clock i : Nat} {x : Int} (F : Ents es clock S) (hk : (es.toList[i]?).map (·.key) = some (iv x)) :
    Ents (es.modify i fun e => { e with key := iv x, val := iv 1 }) clock S := by
  have e1 : es.modify i (fun e => { e with key := iv x, val := iv 1 }) = es := by
    apply Array.ext_getElem?
    intro j
    rw [Array.getElem?_modify]
    by_cases hj : i = j
    · subst hj
      rw [if_pos rfl]
      cases he : es[i]? with
      | none => rfl
      | some e =>
        have hl : es.toList[i]? = some e := by rw [← he]; simp
        rw [hl] at hk
        have hk' : e.key = iv x := by simpa using hk
        have hv := F.vals e (List.mem_of_getElem? hl)
        simp only [Option.map_some, ← hk', ← hv]
    · rw [if_neg hj]
  rw [e1]
  exact F
theorem ents_push {es : Array MapEntry} {clock : Nat} {x : Int} (F : Ents es clock S) (hx : x ∉ S) : Ents (es.push { key := iv x, val := iv 1, born := clock }) (clock + 1) (S ++ [x]) := by
  refine ⟨by simp [F.keys], ?_, ?_, ?_, ?_⟩
  · intro e he
    simp only [Array.toList_push, List.mem_append, List.mem_singleton] at he
    rcases he with he | rfl
    · exact F.vals e he
    · rfl
  · rw [Array.toList_push, List.map_append, List.nodup_append]
    refine ⟨F.born, by simp, ?_⟩
    intro a ha c hc
    obtain ⟨e, he, rfl⟩ := List.mem_map.1 ha
    have := F.old e he
    have hc' : c = clock := by simpa using hc
    omega
  · intro e he
    simp only [Array.toList_push, List.mem_append, List.mem_singleton] at he
    rcases he with he | rfl
    · have := F.old e he; omega
    · exact Nat.lt_succ_self _
  · rw [List.nodup_append]
    exact ⟨F.nodup, by simp, fun a ha c hc => by rw [List.mem_singleton.1 hc]; exact fun e => hx (e ▸ ha)⟩
theorem update_run (hs : IsSet w b S) (hT : P.underlying T = some (.map K E)) (hK : P.underlying K = some (.int .i64)) (x : Int) :
    ∃ w1, (Instr.mapUpdate T (.map (some b)) (.int .i64 x) (.int .i64 1)).run P w = .ok () w1 ∧ IsSet w1 b (put S x) ∧ w.grownBy w1 (some b) ∧ w1.heap.size = w.heap.size := by
  have hlt := hs.lt
  obtain ⟨es, clock, hb, F⟩ := hs
  by_cases hx : x ∈ S
  · obtain ⟨j, hj, hk, hf⟩ := findNow_some es.toList S 0 F.keys F.vals hx
    have hkey : ((es[j]?).map (·.key)).getD (.int .i64 x) = .int .i64 x := by
      have : (es[j]?).map (·.key) = some (iv x) := by simpa using hk
      rw [this]; rfl
    refine ⟨{ w with heap := w.heap.setIfInBounds b (.map (es.modify j fun e => { e with key := iv x, val := iv 1 }) clock) }, ?_, ⟨es.modify j fun e => { e with key := iv x, val := iv 1 }, clock, by simp [hlt], ?_⟩, grown_set w b _, by simp⟩
    · have hs10 : Instr.sameBits 10000 (.int .i64 x) (.int .i64 x) = true := by simp [Instr.sameBits]
      rw [Nat.zero_add] at hf
      unfold iv at hf
      simp [Instr.mapUpdate, get_map hb, run_ck' _ x w hK, Instr.findKey, run_underlying hT, run_underlying hK, hf, Instr.keyThatStays, hkey, hs10, set_map hb, iv]
    · unfold put; rw [if_pos hx]; exact ents_modify F hk
  · have hf := findNow_none es.toList S 0 F.keys hx
    refine ⟨{ w with heap := w.heap.setIfInBounds b (.map (es.push { key := iv x, val := iv 1, born := clock }) (clock + 1)) }, ?_, ⟨es.push { key := iv x, val := iv 1, born := clock }, clock + 1, by simp [hlt], ?_⟩, grown_set w b _, by simp⟩
    · unfold iv at hf
      simp [Instr.mapUpdate, get_map hb, run_ck' _ x w hK, Instr.findKey, run_underlying hT, run_underlying hK, hf, set_map hb, iv]
    · unfold put; rw [if_neg hx]; exact ents_push F hx
end

section
variable {P : Program} {w : World} {ops : Array Oper} {rest : List Oper} {o : Oper} {a : Act} {Q : Exit → Act → World → Prop} {b : Nat} {S : List Int}
theorem wpl_update (hg : o.guard = none) (m x : Operand) (T : TypeId) (hop : o.op = Op.mapUpdate T m x (.const (.int .i64 1))) {K E : TypeId} (hT : P.underlying T = some (.map K E)) (hK : P.underlying K = some (.int .i64)) (y : Int)
    (hm : a.eval m = .map (some b)) (hx : a.eval x = .int .i64 y) (hs : IsSet w b S)
    (h : ∀ w1, IsSet w1 b (put S y) → w.grownBy w1 (some b) → w1.heap.size = w.heap.size → wpList P ops Q rest (a.put o.dst undef) w1) : wpList P ops Q (o :: rest) a w := by
  refine wpList_plain hg fun K' hK' => ?_
  obtain ⟨w1, hrun, r1, r2, r3⟩ := update_run hs hT hK y
  unfold Oper.wp
  have hc : a.eval (.const (.int .i64 1)) = .int .i64 1 := rfl
  simp [execOp, hop, hm, hx, hc, hrun, Result.andThen]
  exact hK' _ _ (h w1 r1 r2 r3)
end

/-! The range over the set: what is done so far (in the order in which it came), out of S. -/
def IsIter (w : World) (r b : Nat) (S done : List Int) : Prop :=
  r ≠ b ∧ ∃ es clock seen, w.heap[b]? = some (.map es clock) ∧ Ents es clock S ∧ w.heap[r]? = some (.mapIter (some b) clock seen clock) ∧
    ∃ ds : List MapEntry, (∀ e ∈ ds, e ∈ es.toList) ∧ ds.Nodup ∧ seen.toList = ds.map (·.born) ∧ ds.map (·.key) = done.map iv
section
variable {P : Program} {w : World} {r b : Nat} {S done : List Int}
theorem born_inj {es : Array MapEntry} {clock : Nat} (F : Ents es clock S) {e e' : MapEntry} (h : e ∈ es.toList) (h' : e' ∈ es.toList) (hb : e.born = e'.born) : e = e' := by
  have hp := F.born
  rw [List.Nodup, List.pairwise_map] at hp
  obtain ⟨i, hi, rfl⟩ := List.getElem_of_mem h
  obtain ⟨j, hj, rfl⟩ := List.getElem_of_mem h'
  rcases Nat.lt_trichotomy i j with hij | hij | hij
  · exact absurd hb (List.pairwise_iff_getElem.1 hp i j hi hj hij)
  · subst hij; rfl
  · exact absurd hb.symm (List.pairwise_iff_getElem.1 hp j i hj hi hij)
theorem key_inj {es : Array MapEntry} {clock : Nat} (F : Ents es clock S) {e e' : MapEntry} (h : e ∈ es.toList) (h' : e' ∈ es.toList) (hb : e.key = e'.key) : e = e' := by
  have hp : (es.toList.map (·.key)).Nodup := by
    rw [F.keys, List.Nodup, List.pairwise_map]
    exact F.nodup.imp (fun hne e => hne (iv_inj e))
  rw [List.Nodup, List.pairwise_map] at hp
  obtain ⟨i, hi, rfl⟩ := List.getElem_of_mem h
  obtain ⟨j, hj, rfl⟩ := List.getElem_of_mem h'
  rcases Nat.lt_trichotomy i j with hij | hij | hij
  · exact absurd hb (List.pairwise_iff_getElem.1 hp i j hi hj hij)
  · subst hij; rfl
  · exact absurd hb.symm (List.pairwise_iff_getElem.1 hp j i hj hi hij)
theorem IsIter.set (h : IsIter w r b S done) : IsSet w b S := by
  obtain ⟨_, es, clock, seen, h1, F, _⟩ := h
  exact ⟨es, clock, h1, F⟩
theorem IsIter.grown {w1 : World} {row : Option Nat} (h : IsIter w r b S done) (hg : w.grownBy w1 row) (hb : some b ≠ row) (hr : some r ≠ row) : IsIter w1 r b S done := by
  obtain ⟨hne, es, clock, seen, h1, F, h2, ds⟩ := h
  have lt : ∀ k o, w.heap[k]? = some o → k < w.heap.size := fun k o hk => by
    rcases Nat.lt_or_ge k w.heap.size with h | h
    · exact h
    · simp [Array.getElem?_eq_none h] at hk
  exact ⟨hne, es, clock, seen, (hg.block b (lt _ _ h1) hb).trans h1, F, (hg.block r (lt _ _ h2) hr).trans h2, ds⟩
/-- Each that is done is of S, each once; where all are done it is S in another order. -/
theorem IsIter.sub (h : IsIter w r b S done) : done.Nodup ∧ ∀ x ∈ done, x ∈ S := by
  obtain ⟨_, es, clock, seen, _, F, _, ds, hsub, hnd, _, hk⟩ := h
  have hkn : (ds.map (·.key)).Nodup := by
    rw [List.Nodup, List.pairwise_map]
    refine hnd.imp_of_mem ?_
    intro a c ha hc hne e
    exact hne (key_inj F (hsub a ha) (hsub c hc) e)
  constructor
  · rw [hk, List.Nodup, List.pairwise_map] at hkn
    exact hkn.imp (fun h e => h (by rw [e]))
  · intro x hx
    have : iv x ∈ ds.map (·.key) := by rw [hk]; exact List.mem_map_of_mem hx
    obtain ⟨e, he, hke⟩ := List.mem_map.1 this
    have : iv x ∈ es.toList.map (·.key) := hke ▸ List.mem_map_of_mem (hsub e he)
    rw [F.keys] at this
    obtain ⟨y, hy, hyx⟩ := List.mem_map.1 this
    rw [← iv_inj hyx]
    exact hy
theorem range_run (hs : IsSet w b S) {T K E : TypeId} (hT : P.underlying T = some (.map K E)) :
    ∃ w1, (Instr.range T (.map (some b))).run P w = .ok (.pointer (some ⟨w.heap.size, 0, none⟩)) w1 ∧ IsIter w1 w.heap.size b S [] ∧ w.grownBy w1 none ∧ w1.heap.size = w.heap.size + 1 := by
  have hlt := hs.lt
  obtain ⟨es, clock, hb, F⟩ := hs
  refine ⟨w.alloc (.mapIter (some b) clock #[] clock), ?_, ⟨by omega, es, clock, #[], (Below.heap_alloc w _ b hlt).trans hb, F, heap_alloc_new w _, [], by simp, by simp, rfl, rfl⟩, World.grownBy_alloc w _ none, by simp⟩
  simp [Instr.range, run_underlying hT, get_map hb]
theorem choose_some (w : World) (n : Nat) (hn : 0 < n) : ∃ i w2, i < n ∧ (choose (.mapNext n)).run P w = .ok i w2 ∧ (w2 = w ∨ w2 = w.drew) := by
  by_cases h : (Question.mapNext n).forced = true
  · exact ⟨0, w, hn, by simp [h], .inl rfl⟩
  · exact ⟨_, w.drew, Nat.mod_lt (w.tape w.drawn (.mapNext n)) hn, by simp [h, Question.cut], .inr rfl⟩
theorem next_run (h : IsIter w r b S done) (ty : TypeId) :
    (done.length = S.length ∧ (Instr.next (.pointer (some ⟨r, 0, none⟩)) false ty).run P w = .ok (.tuple #[.bool false]) w) ∨
    ∃ x w1, x ∉ done ∧ (Instr.next (.pointer (some ⟨r, 0, none⟩)) false ty).run P w = .ok (.tuple #[.bool true, .int .i64 x, .int .i64 1]) w1 ∧ IsIter w1 r b S (done ++ [x]) ∧ w.grownBy w1 (some r) ∧ w1.heap.size = w.heap.size ∧
      (Instr.entry (.pointer (some ⟨r, 0, none⟩))).run P w1 = .ok (.tuple #[.int .i64 x, .int .i64 1]) w1 := by
  obtain ⟨hne, es, clock, seen, h1, F, h2, ds, hsub, hnd, hseen, hk⟩ := h
  have lt : ∀ k o, w.heap[k]? = some o → k < w.heap.size := fun k o hk => by
    rcases Nat.lt_or_ge k w.heap.size with h | h
    · exact h
    · simp [Array.getElem?_eq_none h] at hk
  have hguard : (!seen.isEmpty && !es.isEmpty && es.all (fun e => decide (e.born ≥ clock))) = false := by
    cases he : es.isEmpty with
    | true => simp
    | false =>
      have : es.all (fun e => decide (e.born ≥ clock)) = false := by
        rw [← Array.all_toList, List.all_eq_false]
        have hpos : 0 < es.toList.length := by
          rcases Nat.eq_zero_or_pos es.toList.length with h0 | h0
          · simp at h0; simp [h0] at he
          · exact h0
        refine ⟨es.toList[0], List.getElem_mem hpos, ?_⟩
        have := F.old _ (List.getElem_mem hpos)
        simp only [ge_iff_le, decide_eq_true_eq]
        omega
      simp [this]
  generalize hL : es.filter (fun e => !seen.contains e.born) = L
  have hmem : ∀ e, e ∈ L.toList ↔ e ∈ es.toList ∧ e ∉ ds := by
    intro e
    rw [← hL]
    simp only [Array.toList_filter, List.mem_filter, Bool.not_eq_true', ← Array.contains_toList, hseen]
    constructor
    · rintro ⟨a, c⟩
      refine ⟨a, fun hd => ?_⟩
      rw [List.contains_eq_mem] at c
      exact absurd (List.mem_map_of_mem hd) (of_decide_eq_false c)
    · rintro ⟨a, c⟩
      refine ⟨a, ?_⟩
      rw [List.contains_eq_mem]
      refine decide_eq_false (fun hm => ?_)
      obtain ⟨d, hd, hdb⟩ := List.mem_map.1 hm
      exact c (born_inj F (hsub d hd) a hdb ▸ hd)
  have hold : L.filter (fun e => decide (e.born < clock)) = L := by
    apply Array.ext'
    rw [Array.toList_filter, List.filter_eq_self]
    intro e he
    exact decide_eq_true (F.old e ((hmem e).1 he).1)
  have hnew : L.filter (fun e => decide (e.born ≥ clock)) = #[] := by
    apply Array.ext'
    rw [Array.toList_filter, List.filter_eq_nil_iff]
    intro e he
    have := F.old e ((hmem e).1 he).1
    simp only [ge_iff_le, decide_eq_true_eq]
    omega
  by_cases hz : L = #[]
  · left
    constructor
    · have hl1 : done.length = ds.length := by have := congrArg List.length hk; simpa using this.symm
      have hl2 : S.length = es.toList.length := by have := congrArg List.length F.keys; simpa using this.symm
      rw [hl1, hl2]
      refine Nat.le_antisymm ?_ ?_
      · exact (hnd.length_le_of_subset (fun e he => hsub e he))
      · have hnes : es.toList.Nodup := by
          have hp := F.born
          rw [List.Nodup, List.pairwise_map] at hp
          exact hp.imp (fun h e => h (by rw [e]))
        refine hnes.length_le_of_subset ?_
        · intro e he
          rcases Classical.em (e ∈ ds) with hd | hd
          · exact hd
          · have := (hmem e).2 ⟨he, hd⟩
            rw [hz] at this
            simp at this
    · subst hz
      simp only [Instr.next, Sem.run_bind, get_iter h2, Result.andThen, get_map h1, hguard, Bool.false_eq_true, if_false, hL, hold, hnew]
      simp [Question.forced]
  · right
    have hpos : 0 < L.size := Nat.pos_of_ne_zero (fun h => hz (Array.eq_empty_of_size_eq_zero h))
    have hemp : L.isEmpty = false := by cases h : L.isEmpty with
      | false => rfl
      | true => exact absurd (Array.isEmpty_iff.1 h) hz
    obtain ⟨i, w2, hi, hch, hw2⟩ := choose_some (P := P) w L.size hpos
    have hLi : L[i]? = some L[i] := Array.getElem?_eq_getElem hi
    generalize L[i] = e at hLi
    have he : e ∈ L.toList := by
      have : L.toList[i]? = some e := by simpa using hLi
      exact List.mem_of_getElem? this
    obtain ⟨hes, hds⟩ := (hmem e).1 he
    have hkx : ∃ x, e.key = iv x := by
      have : e.key ∈ S.map iv := F.keys ▸ List.mem_map_of_mem hes
      obtain ⟨x, _, hx⟩ := List.mem_map.1 this
      exact ⟨x, hx.symm⟩
    obtain ⟨x, hx⟩ := hkx
    have hh2 : w2.heap = w.heap := by rcases hw2 with rfl | rfl <;> rfl
    have h2' : w2.heap[r]? = some (.mapIter (some b) clock seen clock) := by rw [hh2]; exact h2
    have hg0 : w.grownBy w2 (some r) := by
      rcases hw2 with rfl | rfl
      · exact ⟨rfl, rfl, rfl, Nat.le_refl _, fun _ _ _ => rfl⟩
      · exact ⟨rfl, rfl, rfl, Nat.le_refl _, fun _ _ _ => rfl⟩
    have hg1 := grown_set w2 r (.mapIter (some b) clock (seen.push e.born) clock)
    have hg2 : w.grownBy { w2 with heap := w2.heap.setIfInBounds r (.mapIter (some b) clock (seen.push e.born) clock) } (some r) :=
      ⟨hg1.os.trans hg0.os, hg1.tape.trans hg0.tape, hg1.output.trans hg0.output, Nat.le_trans hg0.size hg1.size, fun k hk hn => (hg1.block k (by rw [hh2]; exact hk) hn).trans (hg0.block k hk hn)⟩
    have hr2 : r < w2.heap.size := by rw [hh2]; exact lt r _ h2
    have hb3 : ({ w2 with heap := w2.heap.setIfInBounds r (.mapIter (some b) clock (seen.push e.born) clock) } : World).heap[b]? = some (.map es clock) := by
      simp only [Array.getElem?_setIfInBounds, if_neg hne, hh2]; exact h1
    have hr3 : ({ w2 with heap := w2.heap.setIfInBounds r (.mapIter (some b) clock (seen.push e.born) clock) } : World).heap[r]? = some (.mapIter (some b) clock (seen.push e.born) clock) := by
      simp only [Array.getElem?_setIfInBounds, if_true, if_pos hr2]
    refine ⟨x, { w2 with heap := w2.heap.setIfInBounds r (.mapIter (some b) clock (seen.push e.born) clock) }, ?_, ?_, ⟨hne, es, clock, _, hb3, F, hr3, ds ++ [e], ?_, ?_, ?_, ?_⟩, hg2, by simp [hh2], ?_⟩
    · intro hxd
      have : iv x ∈ ds.map (·.key) := by rw [hk]; exact List.mem_map_of_mem hxd
      obtain ⟨d, hd, hdk⟩ := List.mem_map.1 this
      exact hds (key_inj F (hsub d hd) hes (hdk.trans hx.symm) ▸ hd)
    · have hsz : (#[] ++ (L ++ #[]).map some : Array (Option MapEntry)).size = L.size := by simp
      have hget : (#[] ++ (L ++ #[]).map some : Array (Option MapEntry))[i]? = some (some e) := by simp [hLi]
      simp only [Instr.next, Sem.run_bind, get_iter h2, Result.andThen, get_map h1, hguard, Bool.false_eq_true, if_false, Sem.run_pure, hL, hold, hnew, hemp, hsz, hch, hget, set_iter h2', hx, F.vals e hes]
      rfl
    · intro d hd
      rcases List.mem_append.1 hd with hd | hd
      · exact hsub d hd
      · rw [List.mem_singleton.1 hd]; exact hes
    · rw [List.nodup_append]
      exact ⟨hnd, by simp, fun a ha c hc => by rw [List.mem_singleton.1 hc]; exact fun h => hds (h ▸ ha)⟩
    · simp [hseen]
    · simp [hk, hx]
    · have hback : (seen.push e.born).back? = some e.born := by simp
      have hfind : es.find? (fun d => d.born == e.born) = some e := by
        rw [← Array.find?_toList, List.find?_eq_some_iff_getElem]
        obtain ⟨j, hj, hje⟩ := List.getElem_of_mem hes
        refine ⟨by simp, j, hj, hje, fun k hk => ?_⟩
        have : es.toList[k]'(by omega) ≠ e := by
          intro hh
          have hp := F.born
          rw [List.Nodup, List.pairwise_map] at hp
          have := List.pairwise_iff_getElem.1 hp k j (by omega) hj hk
          exact this (by rw [hh, hje])
        simp only [Bool.not_eq_true', beq_eq_false_iff_ne, ne_eq]
        exact fun hh => this (born_inj F (List.getElem_mem _) hes hh)
      simp only [Instr.entry, Sem.run_bind, get_iter hr3, Result.andThen, hback, get_map hb3, bne_self_eq_false, Bool.false_eq_true, if_false, hfind, Sem.run_pure, hx, F.vals e hes]
      rfl
end

section
variable {P : Program} {w : World} {ops : Array Oper} {rest : List Oper} {o : Oper} {a : Act} {Q : Exit → Act → World → Prop} {r b : Nat} {S done : List Int}
theorem wpl_range (hg : o.guard = none) (m : Operand) (T : TypeId) (hop : o.op = Op.range T m) {K E : TypeId} (hT : P.underlying T = some (.map K E)) (hm : a.eval m = .map (some b)) (hs : IsSet w b S)
    (h : ∀ w1, IsIter w1 w.heap.size b S [] → w.grownBy w1 none → w1.heap.size = w.heap.size + 1 → wpList P ops Q rest (a.put o.dst (.pointer (some ⟨w.heap.size, 0, none⟩))) w1) : wpList P ops Q (o :: rest) a w := by
  refine wpList_plain hg fun K' hK' => ?_
  obtain ⟨w1, hrun, r1, r2, r3⟩ := range_run hs hT
  unfold Oper.wp
  simp [execOp, hop, hm, hrun, Result.andThen]
  exact hK' _ _ (h w1 r1 r2 r3)
theorem wpl_next (hg : o.guard = none) (it : Operand) (hop : o.op = Op.next it false) (hit : a.eval it = .pointer (some ⟨r, 0, none⟩)) (hs : IsIter w r b S done)
    (hDone : done.length = S.length → wpList P ops Q rest (a.put o.dst (.tuple #[.bool false])) w)
    (hMore : ∀ x w1, x ∉ done → IsIter w1 r b S (done ++ [x]) → w.grownBy w1 (some r) → w1.heap.size = w.heap.size → (Instr.entry (.pointer (some ⟨r, 0, none⟩))).run P w1 = .ok (.tuple #[.int .i64 x, .int .i64 1]) w1 →
      wpList P ops Q rest (a.put o.dst (.tuple #[.bool true, .int .i64 x, .int .i64 1])) w1) : wpList P ops Q (o :: rest) a w := by
  refine wpList_plain hg fun K' hK' => ?_
  unfold Oper.wp
  rcases next_run (P := P) hs o.type with ⟨h0, hrun⟩ | ⟨x, w1, hx, hrun, r1, r2, r3, r4⟩
  · simp [execOp, hop, hit, hrun, Result.andThen]
    exact hK' _ _ (hDone h0)
  · simp [execOp, hop, hit, hrun, Result.andThen]
    exact hK' _ _ (hMore x w1 hx r1 r2 r3 r4)
end

end Go.Proofs.YtjfmoildblcjiaaGreatDoor.HM
end

section
/- What is proved here: the contract of cnf.unit over a set of true literals. -/
namespace Go.Proofs.YtjfmoildblcjiaaGreatDoor.H3
open Go.RowKit Go.Proofs.YtjfmoildblcjiaaGreatDoorW.PrintWords Go.Proofs.YtjfmoildblcjiaaGreatDoorW.PrintLast Go.Proofs.YtjfmoildblcjiaaGreatDoorW.PrintMore Go.Proofs.YtjfmoildblcjiaaGreatDoor.H1 Go.Proofs.YtjfmoildblcjiaaGreatDoor.H2 Go.Proofs.YtjfmoildblcjiaaGreatDoor.HM

def unitL (S : List Int) : Int → List Int → Int × Bool
  | left, [] => (left, true)
  | left, x :: r => if x ∈ S then (0, false) else if -x ∈ S then unitL S left r else if x = left then unitL S left r else if left = 0 then unitL S x r else (0, false)
theorem unitL_in {S : List Int} {x left : Int} {r : List Int} (h : x ∈ S) : unitL S left (x :: r) = (0, false) := by rw [unitL, if_pos h]
theorem unitL_neg {S : List Int} {x left : Int} {r : List Int} (h : x ∉ S) (h1 : -x ∈ S) : unitL S left (x :: r) = unitL S left r := by rw [unitL, if_neg h, if_pos h1]
theorem unitL_same {S : List Int} {x left : Int} {r : List Int} (h : x ∉ S) (h1 : -x ∉ S) (h2 : x = left) : unitL S left (x :: r) = unitL S left r := by rw [unitL, if_neg h, if_neg h1, if_pos h2]
theorem unitL_new {S : List Int} {x left : Int} {r : List Int} (h : x ∉ S) (h1 : -x ∉ S) (h2 : ¬ x = left) (h3 : left = 0) : unitL S left (x :: r) = unitL S x r := by rw [unitL, if_neg h, if_neg h1, if_neg h2, if_pos h3]
theorem unitL_two {S : List Int} {x left : Int} {r : List Int} (h : x ∉ S) (h1 : -x ∉ S) (h2 : ¬ x = left) (h3 : ¬ left = 0) : unitL S left (x :: r) = (0, false) := by rw [unitL, if_neg h, if_neg h1, if_neg h2, if_neg h3]
theorem drop_rd {l : List Int} {i : Nat} (h : i < l.length) : l.drop i = rd l (i : Int) :: l.drop (i + 1) := by
  rw [List.drop_eq_getElem_cons h, rd, List.getD_eq_getElem?_getD, Int.toNat_natCast, List.getElem?_eq_getElem h]; rfl
theorem rd_mem {l : List Int} {i : Nat} (h : i < l.length) : rd l (i : Int) ∈ l := by
  rw [rd, List.getD_eq_getElem?_getD, Int.toNat_natCast, List.getElem?_eq_getElem h]; exact List.getElem_mem h

theorem uMap : Tryz.prog.underlying 84 = some (.map 3 3) := by kernel_rfl
theorem uInt : Tryz.prog.underlying 3 = some (.int .i64) := by kernel_rfl
theorem zInt (w : World) : (zeroValue 3).run Tryz.prog w = .ok (.int .i64 0) w := by kernel_rfl

set_option maxHeartbeats 2000000 in
set_option maxRecDepth 100000 in
theorem unit_any (A : Option Addr) (c : Nat) (l : List Int) (b : Nat) (S : List Int) (w : World) (hr : Kd.C (Kd.int .i64) w A l.length l) (_hc : l.length ≤ c) (hs : IsSet w b S) (hx : ∀ x ∈ l, -262144 ≤ x ∧ x ≤ 262144) :
    Calls Tryz.prog 58 #[.slice A l.length c, .map (some b)] w fun e w' => e = .returned (.tuple #[.int .i64 (unitL S 0 l).1, .bool (unitL S 0 l).2]) ∧ w' = w := by
  have HR := Aside0.mk hr
  have HM := Aside0.mk (Kd.C_max hr)
  have HS := Aside0.mk hs
  have HX := Aside0.mk hx
  clear hr hs hx
  go_enter Tryz.func58, Tryz.ntmps58
  go_wp2
  go_loopg [6, 11] (l.length) (fun kq v6 v11 w' => ∃ (i : Nat) (left : Int), Aside0 (i + kq = l.length) ∧ v6 = .int .i64 left ∧ v11 = .int .i64 (i : Int) ∧ Aside0 (unitL S 0 l = unitL S left (l.drop i)) ∧ w' = w)
  case atStart => exact ⟨0, 0, ⟨by omega⟩, rfl, rfl, ⟨rfl⟩, rfl⟩
  case round =>
    obtain ⟨i, left, HI, rfl, rfl, HA, rfl⟩ := hrel
    by_cases hlt : i < l.length
    · obtain ⟨k1, rfl⟩ : ∃ k1, gk = k1 + 1 := ⟨gk - 1, by have := HI.out; omega⟩
      have c0 : decide ((i : Int) < (l.length : Int)) = true := decide_eq_true (by omega)
      obtain ⟨ad, e1, hx⟩ := Kd.at_int HR.out (i : Int) (by omega) (by omega)
      cases e1
      have hx : wr.cell? (ad.add i) = some (.int .i64 (rd l i)) := hx
      have HD : Aside0 (l.drop i = rd l i :: l.drop (i + 1)) := ⟨drop_rd hlt⟩
      have hb := HX.out _ (rd_mem hlt)
      generalize rd l (i : Int) = x at *
      obtain ⟨hx0, hx1⟩ := hb
      by_cases m1 : x ∈ S
      · have hl1 := lookup_in HS.out uMap uInt m1
        have HE : Aside0 (unitL S 0 l = (0, false)) := ⟨by rw [HA.out, HD.out, unitL_in m1]⟩
        clear m1
        go_wp2
        go_ret2
        exact ⟨by rw [HE.out]; rfl, rfl⟩
      · have hl1 := lookup_out HS.out uMap uInt (zInt wr) m1
        by_cases m2 : -x ∈ S
        · have hl2 := lookup_in HS.out uMap uInt m2
          have HE : Aside0 (unitL S 0 l = unitL S left (l.drop (i + 1))) := ⟨by rw [HA.out, HD.out, unitL_neg m1 m2]⟩
          clear m1 m2
          go_wp2
          go_roundg k1
          case measure => omega
          case rel => exact ⟨i + 1, left, ⟨by have := HI.out; omega⟩, rfl, congrArg (Value.int .i64) (wrapn hlt HM.out), HE, rfl⟩
        · have hl2 := lookup_out HS.out uMap uInt (zInt wr) m2
          by_cases m3 : x = left
          · have HE : Aside0 (unitL S 0 l = unitL S left (l.drop (i + 1))) := ⟨by rw [HA.out, HD.out, unitL_same m1 m2 m3]⟩
            have d3 : (x == left) = true := beq_iff_eq.2 m3
            clear m1 m2 m3
            go_wp2
            go_roundg k1
            case measure => omega
            case rel => exact ⟨i + 1, left, ⟨by have := HI.out; omega⟩, rfl, congrArg (Value.int .i64) (wrapn hlt HM.out), HE, rfl⟩
          · have d3 : (x == left) = false := beq_eq_false_iff_ne.2 m3
            by_cases m4 : left = 0
            · have HE : Aside0 (unitL S 0 l = unitL S x (l.drop (i + 1))) := ⟨by rw [HA.out, HD.out, unitL_new m1 m2 m3 m4]⟩
              have d4 : (left != 0) = false := bne_eq_false_iff_eq.2 m4
              clear m1 m2 m3 m4
              go_wp2
              go_roundg k1
              case measure => omega
              case rel => exact ⟨i + 1, x, ⟨by have := HI.out; omega⟩, rfl, congrArg (Value.int .i64) (wrapn hlt HM.out), HE, rfl⟩
            · have HE : Aside0 (unitL S 0 l = (0, false)) := ⟨by rw [HA.out, HD.out, unitL_two m1 m2 m3 m4]⟩
              have d4 : (left != 0) = true := bne_iff_ne.2 m4
              clear m1 m2 m3 m4
              go_wp2
              go_ret2
              exact ⟨by rw [HE.out]; rfl, rfl⟩
    · have c0 : decide ((i : Int) < (l.length : Int)) = false := decide_eq_false (by omega)
      obtain rfl : i = l.length := by have := HI.out; omega
      have HE : Aside0 (unitL S 0 l = (left, true)) := ⟨by rw [HA.out, List.drop_length]; rfl⟩
      go_wp2
      go_ret2
      exact ⟨by rw [HE.out]; rfl, rfl⟩

end Go.Proofs.YtjfmoildblcjiaaGreatDoor.H3
end

section
/- What is proved here: what cnf.Force computes, as plain Lean: the literals that follow of some by clauses of one literal left. -/
namespace Go.Proofs.YtjfmoildblcjiaaGreatDoor.H4
open Go.RowKit Go.Proofs.YtjfmoildblcjiaaGreatDoorW.PrintWords Go.Proofs.YtjfmoildblcjiaaGreatDoorW.PrintLast Go.Proofs.YtjfmoildblcjiaaGreatDoorW.PrintMore Go.Proofs.YtjfmoildblcjiaaGreatDoor.H1 Go.Proofs.YtjfmoildblcjiaaGreatDoor.H2 Go.Proofs.YtjfmoildblcjiaaGreatDoor.HM Go.Proofs.YtjfmoildblcjiaaGreatDoor.H3

def initL (S : List Int) : List Int → Option (List Int)
  | [] => some S
  | x :: r => if -x ∈ S then none else initL (put S x) r
def passL (S : List Int) (again : Bool) : List (List Int) → Option (List Int × Bool)
  | [] => some (S, again)
  | c :: r => if (unitL S 0 c).2 = false then passL S again r else if (unitL S 0 c).1 = 0 then none else passL (put S (unitL S 0 c).1) true r
inductive Forces (cs : List (List Int)) : List Int → Option (List Int) → Prop
  | stop {S} : passL S false cs = none → Forces cs S none
  | done {S S'} : passL S false cs = some (S', false) → Forces cs S (some S')
  | again {S S' R} : passL S false cs = some (S', true) → Forces cs S' R → Forces cs S R
theorem Forces.fn {cs : List (List Int)} {S : List Int} {R R' : Option (List Int)} (h : Forces cs S R) (h' : Forces cs S R') : R = R' := by
  induction h with
  | stop h1 =>
    cases h' with
    | stop h2 => rfl
    | done h2 => rw [h1] at h2; cases h2
    | again h2 _ => rw [h1] at h2; cases h2
  | done h1 =>
    cases h' with
    | stop h2 => rw [h1] at h2; cases h2
    | done h2 => rw [h1] at h2; cases h2; rfl
    | again h2 _ => rw [h1] at h2; cases h2
  | again h1 _ ih =>
    cases h' with
    | stop h2 => rw [h1] at h2; cases h2
    | done h2 => rw [h1] at h2; cases h2
    | again h2 h3 => rw [h1] at h2; cases h2; exact ih h3
noncomputable def forceV (cs : List (List Int)) (S : List Int) : Option (List Int) := Classical.epsilon (Forces cs S)
theorem forceV_eq {cs : List (List Int)} {S : List Int} {R : Option (List Int)} (h : Forces cs S R) : forceV cs S = R := Forces.fn (Classical.epsilon_spec (p := Forces cs S) ⟨R, h⟩) h

/-- A set of literals of so many variables, none with its contrary. -/
structure LGood (v : Int) (S : List Int) : Prop where
  nodup : S.Nodup
  rng : ∀ x ∈ S, x ≠ 0 ∧ -v ≤ x ∧ x ≤ v
  apart : ∀ x ∈ S, -x ∉ S
theorem good_nil (v : Int) : LGood v [] := ⟨List.nodup_nil, by simp, by simp⟩
theorem put_mem {S : List Int} {x y : Int} : y ∈ put S x ↔ y ∈ S ∨ y = x := by
  unfold put
  split
  · rename_i h
    constructor
    · exact .inl
    · rintro (h1 | rfl)
      · exact h1
      · exact h
  · simp
theorem good_put {v x : Int} {S : List Int} (h : LGood v S) (h0 : x ≠ 0) (h1 : -v ≤ x) (h2 : x ≤ v) (h3 : -x ∉ S) : LGood v (put S x) := by
  refine ⟨?_, ?_, ?_⟩
  · unfold put
    split
    · exact h.nodup
    · rename_i hx
      rw [List.nodup_append]
      exact ⟨h.nodup, by simp, fun a ha c hc => by rw [List.mem_singleton.1 hc]; exact fun e => hx (e ▸ ha)⟩
  · intro y hy
    rcases put_mem.1 hy with hy | rfl
    · exact h.rng y hy
    · exact ⟨h0, h1, h2⟩
  · intro y hy hn
    rcases put_mem.1 hy with hy | rfl
    · rcases put_mem.1 hn with hn | hn
      · exact h.apart y hy hn
      · exact h3 (by rw [← hn, Int.neg_neg]; exact hy)
    · rcases put_mem.1 hn with hn | hn
      · exact h3 hn
      · omega
theorem good_len {v : Int} {S : List Int} (h : LGood v S) (hv : 0 ≤ v) : S.length ≤ (2 * v + 1).toNat := by
  have hsub : S ⊆ (List.range (2 * v + 1).toNat).map (fun (i : Nat) => (i : Int) - v) := by
    intro x hx
    obtain ⟨_, h1, h2⟩ := h.rng x hx
    rw [List.mem_map]
    exact ⟨(x + v).toNat, by rw [List.mem_range]; omega, by omega⟩
  have := h.nodup.length_le_of_subset hsub
  simpa using this
theorem put_len {S : List Int} {x : Int} (h : x ∉ S) : (put S x).length = S.length + 1 := by unfold put; rw [if_neg h]; simp
/-- The literal that is left is open, and one of the clause's. -/
theorem unitL_open {S : List Int} : ∀ (c : List Int) (left : Int), (left ≠ 0 → left ∉ S ∧ -left ∉ S) → (unitL S left c).2 = true → (unitL S left c).1 ≠ 0 → ((unitL S left c).1 ∈ c ∨ (unitL S left c).1 = left) ∧ (unitL S left c).1 ∉ S ∧ -(unitL S left c).1 ∉ S
  | [], left, hl, _, h0 => ⟨.inr rfl, hl h0⟩
  | x :: r, left, hl, h1, h0 => by
    by_cases m1 : x ∈ S
    · rw [unitL_in m1] at h1; cases h1
    · by_cases m2 : -x ∈ S
      · rw [unitL_neg m1 m2] at h1 h0 ⊢
        obtain ⟨a, b⟩ := unitL_open r left hl h1 h0
        exact ⟨a.imp (List.mem_cons_of_mem _) id, b⟩
      · by_cases m3 : x = left
        · rw [unitL_same m1 m2 m3] at h1 h0 ⊢
          obtain ⟨a, b⟩ := unitL_open r left hl h1 h0
          exact ⟨a.imp (List.mem_cons_of_mem _) id, b⟩
        · by_cases m4 : left = 0
          · rw [unitL_new m1 m2 m3 m4] at h1 h0 ⊢
            obtain ⟨a, b⟩ := unitL_open r x (fun _ => ⟨m1, m2⟩) h1 h0
            refine ⟨.inl ?_, b⟩
            rcases a with a | a
            · exact List.mem_cons_of_mem _ a
            · rw [a]; exact List.mem_cons_self
          · rw [unitL_two m1 m2 m3 m4] at h1; cases h1
theorem unit_good {S c : List Int} {x : Int} (h : unitL S 0 c = (x, true)) (h0 : x ≠ 0) : x ∈ c ∧ x ∉ S ∧ -x ∉ S := by
  have := unitL_open (S := S) c 0 (fun h => absurd rfl h) (by rw [h]) (by rw [h]; exact h0)
  rw [h] at this
  exact ⟨this.1.resolve_right h0, this.2⟩

/-- By their variables. -/
def absL (x : Int) : Int := mx x (-x)
def leA (x y : Int) : Bool := decide (absL x ≤ absL y)
def sortA (S : List Int) : List Int := S.mergeSort leA
theorem leA_trans (a b c : Int) (h : leA a b = true) (h' : leA b c = true) : leA a c = true := by
  simp only [leA, decide_eq_true_eq] at *; omega
theorem leA_total (a b : Int) : (leA a b || leA b a) = true := by
  simp only [leA, Bool.or_eq_true, decide_eq_true_eq]; omega
theorem absL_eq {a b : Int} (h : absL a = absL b) : a = b ∨ a = -b := by
  unfold absL mx at h
  split at h <;> split at h <;> omega
/-- The literals by their variables: there is one such order alone. -/
theorem sortA_unique {v : Int} {S l : List Int} (hg : LGood v S) (hp : l.Perm S) (hs : l.Pairwise (fun a b => leA a b = true)) : l = sortA S := by
  refine List.Perm.eq_of_pairwise (le := fun a b => leA a b = true) ?_ hs (List.pairwise_mergeSort leA_trans leA_total S) (hp.trans (List.mergeSort_perm S leA).symm)
  intro a b ha hb h1 h2
  simp only [leA, decide_eq_true_eq] at h1 h2
  have hb' : b ∈ S := (List.mergeSort_perm S leA).mem_iff.1 hb
  rcases absL_eq (show absL a = absL b from by omega) with h | h
  · exact h
  · exact absurd (h ▸ hp.mem_iff.1 ha) (hg.apart b hb')
theorem sortA_perm {v : Int} {S l : List Int} (hg : LGood v S) (hp : l.Perm S) : sortA l = sortA S :=
  sortA_unique hg ((List.mergeSort_perm l leA).trans hp) (List.pairwise_mergeSort leA_trans leA_total l)
theorem perm_of_len {S l : List Int} (h1 : l.Nodup) (h2 : ∀ x ∈ l, x ∈ S) (hS : S.Nodup) (hl : l.length = S.length) : l.Perm S := by
  rw [List.perm_ext_iff_of_nodup h1 hS]
  intro a
  refine ⟨h2 a, fun ha => ?_⟩
  rcases Classical.em (a ∈ l) with h | h
  · exact h
  · have : (a :: l).length ≤ S.length := (List.nodup_cons.2 ⟨h, h1⟩).length_le_of_subset (fun y hy => by
      rcases List.mem_cons.1 hy with rfl | hy
      · exact ha
      · exact h2 y hy)
    simp only [List.length_cons] at this
    omega
theorem good_perm {v : Int} {S l : List Int} (hg : LGood v S) (hp : l.Perm S) : LGood v l :=
  ⟨hp.nodup_iff.2 hg.nodup, fun x hx => hg.rng x (hp.mem_iff.1 hx), fun x hx hn => hg.apart x (hp.mem_iff.1 hx) (hp.mem_iff.1 hn)⟩
theorem good_mono {v v' : Int} {S : List Int} (hg : LGood v S) (h : v ≤ v') : LGood v' S := ⟨hg.nodup, fun x hx => by have := hg.rng x hx; omega, hg.apart⟩
def litsOk (v : Int) (l : List Int) : Prop := ∀ x ∈ l, x ≠ 0 ∧ -v ≤ x ∧ x ≤ v
theorem litsE_ok {l : List Int} {v : Int} (h : litsE l v = 0) : litsOk v l ∧ (l.length : Int) ≤ 16384 := by
  unfold litsE at h
  split at h
  · cases h
  · rename_i hlen
    split at h
    · cases h
    · rename_i hb
      refine ⟨fun x hx => ?_, by omega⟩
      have : litBad v x = false := by
        cases hh : litBad v x with
        | false => rfl
        | true => exact absurd (List.any_eq_true.2 ⟨x, hx, hh⟩) hb
      simp [litBad] at this
      exact ⟨this.1.1, this.1.2, this.2⟩
theorem checkL_ok {v : Int} : ∀ (cs : List (List Int)) (i : Nat), (checkL v i cs).2 = 0 → ∀ c ∈ cs, litsE c v = 0
  | [], _, _ => by simp
  | c :: r, i, h => by
    unfold checkL at h
    split at h
    · rename_i h0
      intro d hd
      rcases List.mem_cons.1 hd with rfl | hd
      · exact h0
      · exact checkL_ok r (i + 1) h d hd
    · rename_i h0; exact absurd h h0
theorem checkE_ok {v : Int} {cs : List (List Int)} (h : (checkE v cs).2 = 0) : 0 ≤ v ∧ v ≤ 262144 ∧ (cs.length : Int) ≤ 524288 ∧ ∀ c ∈ cs, litsE c v = 0 := by
  unfold checkE at h
  split at h
  · cases h
  · split at h
    · cases h
    · split at h
      · cases h
      · exact ⟨by omega, by omega, by omega, checkL_ok cs 0 h⟩

end Go.Proofs.YtjfmoildblcjiaaGreatDoor.H4
end

section
/- What is proved here: contracts of cnf.trials and cnf.Models. -/
namespace Go.Proofs.YtjfmoildblcjiaaGreatDoor.H7
open Go.RowKit Go.Proofs.YtjfmoildblcjiaaGreatDoorW.PrintWords Go.Proofs.YtjfmoildblcjiaaGreatDoorW.PrintLast Go.Proofs.YtjfmoildblcjiaaGreatDoorW.PrintMore Go.Proofs.YtjfmoildblcjiaaGreatDoor.H1 Go.Proofs.YtjfmoildblcjiaaGreatDoor.H2 Go.Proofs.YtjfmoildblcjiaaGreatDoor.H4 Go.Proofs.YtjfmoildblcjiaaGreatDoor.H6

/-- The n-th model of v variables: the variable 1 counts most. -/
def modelOf (v n : Nat) : List Bool := (List.range v).map fun i => decide ((n / 2 ^ (v - 1 - i)) % 2 = 1)
def models (v : Nat) : List (List Bool) := (List.range (2 ^ v)).map (modelOf v)
theorem modelOf_length (v n : Nat) : (modelOf v n).length = v := by simp [modelOf]
def sat (m : List Bool) (cs : List (List Int)) : Bool := cs.all (clauseT m)
/-- All models in order, as long as it is wished. -/
def trialR {σ : Type} (cs : List (List Int)) (go : σ → List Bool → σ × Bool) : σ → List (List Bool) → σ × Bool
  | S, [] => (S, true)
  | S, m :: r => if sat m cs then (if (go S m).2 then trialR cs go (go S m).1 r else ((go S m).1, false)) else trialR cs go S r

/-- What may be changed lies between B and N, or is new. -/
structure Quiet (B N : Nat) (w w' : World) : Prop where
  os : w'.os = w.os
  tape : w'.tape = w.tape
  output : w'.output = w.output
  size : w.heap.size ≤ w'.heap.size
  block : ∀ k, k < w.heap.size → (k < B ∨ N ≤ k) → w'.heap[k]? = w.heap[k]?
theorem Quiet.below {B N : Nat} {w w' : World} (h : Quiet B N w w') (hB : B ≤ w.heap.size) : Below B w w' := ⟨h.os, h.tape, h.output, h.size, fun k hk => h.block k (Nat.lt_of_lt_of_le hk hB) (.inl hk)⟩
theorem slice_own {α : Type} {d : Kd α} {e base b : Nat} {w : World} {ok : Nat → Prop} {v : Value} {xs : List α} (h : Kd.R d e w base ok v xs) (hb : v.ownBlock = some b) : ∃ cap, v = .slice (some ⟨b, 0, none⟩) xs.length cap := by
  obtain ⟨inner, ho⟩ := Kd.R_own h
  rcases ho.2 with ⟨rfl, _⟩ | ⟨g, cap, cur, rfl, _⟩
  · cases hb
  · have : g = b := by simpa [Value.ownBlock] using hb
    exact ⟨cap, by rw [this]⟩
theorem bit_of (k d : Nat) (hk : k < 9223372036854775808) : (bits BinOp.and IntKind.i64 ((k : Int) / 2 ^ d) 1 == 1) = decide ((k / 2 ^ d) % 2 = 1) := by
  have e : (k : Int) / 2 ^ d = ((k / 2 ^ d : Nat) : Int) := by simp
  rw [e, and_one _ (Nat.lt_of_le_of_lt (Nat.div_le_self _ _) hk)]
  have h2 : (k / 2 ^ d) % 2 < 2 := Nat.mod_lt _ (by decide)
  generalize (k / 2 ^ d) % 2 = r at *
  have : r = 0 ∨ r = 1 := by omega
  rcases this with rfl | rfl <;> rfl
theorem model_step {m : List Bool} {n k i : Nat} (hl : m.length = n) (ht : m.take i = (modelOf n k).take i) (hi : i < n) : (m.set i (decide ((k / 2 ^ (n - 1 - i)) % 2 = 1))).take (i + 1) = (modelOf n k).take (i + 1) := by
  rw [List.take_succ_eq_append_getElem (by rw [List.length_set, hl]; exact hi), List.take_succ_eq_append_getElem (by rw [modelOf_length]; exact hi)]
  rw [List.take_set_of_le (Nat.le_refl i), ht]
  simp [modelOf]
theorem models_length (v : Nat) : (models v).length = 2 ^ v := by simp [models]
theorem models_drop {n k : Nat} (h : k < 2 ^ n) : (models n).drop k = modelOf n k :: (models n).drop (k + 1) := by
  rw [List.drop_eq_getElem_cons (by rw [models_length]; exact h)]
  simp [models]
theorem first_n (n : Nat) (A : Option Addr) (c : Nat) (cs : List (List Int)) (Am : Option Addr) (cm : Nat) (m : List Bool) (w : World) (hr : Kd.C (Kd.slice 3 (Kd.int .i64)) w A cs.length cs) (hc : cs.length ≤ c) (hml : m.length = n) (hm : Kd.C Kd.bool w Am n m) (hl : ∀ l ∈ cs, inM n l) :
    Calls Tryz.prog 63 #[.agg #[.int .i64 (n : Int), .slice A cs.length c], .slice Am n cm] w fun e w' => e = .returned (.int .i64 (firstI m cs)) ∧ Below w.heap.size w w' := by
  subst hml
  exact first_any _ A c cs Am cm m w hr hc hm hl
theorem idxG_nonneg {α : Type} (p : α → Bool) (l : List α) : (idxG p l < 0) = (l.all (fun x => !p x) = true) := by
  have h := idxG_ge p l
  apply propext
  constructor
  · intro h1
    have h2 : decide (idxG p l ≥ 0) = false := decide_eq_false (by omega)
    rw [h2] at h
    rw [List.all_eq_true]
    intro x hx
    have := List.any_eq_false.1 h.symm x hx
    simpa using this
  · intro h1
    have h2 : l.any p = false := by
      rw [List.any_eq_false]
      intro x hx
      have := List.all_eq_true.1 h1 x hx
      simpa using this
    rw [h2] at h
    have := of_decide_eq_false h
    omega
theorem first_sat (m : List Bool) (cs : List (List Int)) : decide (firstI m cs < 0) = sat m cs := by
  unfold firstI sat
  have h := idxG_nonneg (fun c => !clauseT m c) cs
  simp only [Bool.not_not] at h
  rw [show decide (idxG (fun c => !clauseT m c) cs < 0) = decide (cs.all (clauseT m) = true) from decide_eq_decide.2 (Iff.of_eq h)]
  cases h3 : cs.all (clauseT m) <;> simp

/-- What trials asks of its function: with S told by Inv it does what go says. -/
structure DoSpec {σ : Type} (g : FuncId) (lb : Array Value) (go : σ → List Bool → σ × Bool) (B N v : Nat) (Inv Fin : σ → World → Prop) : Prop where
  ent : Ent g
  stable : ∀ S W W', Inv S W → Below N W W' → Inv S W'
  run : ∀ S m A cm W, N ≤ W.heap.size → m.length = v → Inv S W → Kd.C Kd.bool W A v m → v ≤ cm → Calls Tryz.prog g (#[.slice A v cm] ++ lb) W fun e w' =>
    e = .returned (.bool (go S m).2) ∧ Quiet B N W w' ∧ if (go S m).2 = true then Inv (go S m).1 w' else Fin (go S m).1 w'

def trialsE (v : Int) (cs : List (List Int)) : Int := if (checkE v cs).2 ≠ 0 then (checkE v cs).2 else if v > 16 then 6 else 0

def AfterT {σ : Type} (go : σ → List Bool → σ × Bool) (Inv Fin : σ → World → Prop) (S0 : σ) (v : Int) (cs : List (List Int)) (w' : World) : Prop :=
  if trialsE v cs = 0 then (if (trialR cs go S0 (models v.toNat)).2 = true then Inv (trialR cs go S0 (models v.toNat)).1 w' else Fin (trialR cs go S0 (models v.toNat)).1 w') else Inv S0 w'

set_option maxHeartbeats 4000000 in
set_option maxRecDepth 100000 in
theorem trials_any {σ : Type} (go : σ → List Bool → σ × Bool) (Inv Fin : σ → World → Prop) (g : FuncId) (lb : Array Value) (S0 : σ) (v : Int) (A : Option Addr) (c : Nat) (cs : List (List Int)) (B : Nat) (w : World)
    (hr : ∀ W, Below B w W → Kd.C (Kd.slice 3 (Kd.int .i64)) W A cs.length cs) (hc : cs.length ≤ c) (hB : B ≤ w.heap.size) (hd : DoSpec g lb go B w.heap.size v.toNat Inv Fin) (hI : Inv S0 w) :
    Calls Tryz.prog 65 #[.agg #[.int .i64 v, .slice A cs.length c], .func (.func g) #[] lb] w fun e w' => e = .returned (.int .i64 (trialsE v cs)) ∧ Below B w w' ∧ AfterT go Inv Fin S0 v cs w' := by
  have HR := Aside0.mk hr
  have HC := Aside0.mk hc
  have HBS := Aside0.mk hB
  have HD := Aside0.mk hd
  have HI := Aside0.mk hI
  have he := hd.ent
  unfold Ent at he
  clear hr hc hB hd hI
  by_cases h0 : (checkE v cs).2 = 0
  · have d0 : ((checkE v cs).2 != 0) = false := bne_eq_false_iff_eq.2 h0
    obtain ⟨hv0, hv1, hlen, hall⟩ := checkE_ok h0
    have HV1 := Aside0.mk hv1
    have HALL := Aside0.mk hall
    have HZ := Aside0.mk h0
    clear hall h0 hv1 hlen
    by_cases h1 : v > 16
    · have d1 : decide (v > 16) = true := decide_eq_true h1
      have HE : Aside0 (trialsE v cs = 6) := ⟨by unfold trialsE; rw [if_neg (by rw [HZ.out]; simp), if_pos h1]⟩
      generalize hce : checkE v cs = ce at *
      have HCE := Aside0.mk hce
      clear hce h1
      go_enter Tryz.func65, Tryz.ntmps65
      go_wp2_with ((with_reducible refine (check_any v _ _ cs _ (HR.out _ (below_alloc (Below.refl _ _) _ |>.mono HBS.out)) HC.out).mono ?_); rintro e w1 ⟨rfl, hb1⟩; rw [HCE.out]; have k0 := (hb1.cell (p := ⟨w.heap.size, 0, none⟩) (by simp)).trans (show _ = some (Value.int .i64 v) by simp); have HB1 := Aside0.mk hb1; clear hb1)
      go_ret
      exact ⟨by rw [HE.out]; rfl, ((below_alloc (Below.refl _ _) _).mono HBS.out).trans (HB1.out.mono (by have := HBS.out; simp; omega)), by unfold AfterT; rw [HE.out, if_neg (by decide)]; exact HD.out.stable _ _ _ HI.out ((below_alloc (Below.refl _ _) _).trans (HB1.out.mono (by simp)))⟩
    · have d1 : decide (v > 16) = false := decide_eq_false h1
      have HE : Aside0 (trialsE v cs = 0) := ⟨by unfold trialsE; rw [if_neg (by rw [HZ.out]; simp), if_neg h1]⟩
      obtain ⟨n, rfl⟩ : ∃ n : Nat, v = (n : Int) := ⟨v.toNat, by omega⟩
      have hn : n ≤ 16 := by omega
      have hd2 := HD.out
      rw [Int.toNat_natCast] at hd2
      clear HD
      have HD := Aside0.mk hd2
      clear hd2
      have HN := Aside0.mk hn
      generalize hce : checkE (n : Int) cs = ce at *
      have HCE := Aside0.mk hce
      clear hce h1
      have p0 : decide (0 ≤ (n : Int)) = true := decide_eq_true hv0
      go_enter Tryz.func65, Tryz.ntmps65
      go_wp2_with (first | ((with_reducible refine (check_any _ _ _ cs _ (HR.out _ (below_alloc (Below.refl _ _) _ |>.mono HBS.out)) HC.out).mono ?_); rintro e w1 ⟨rfl, hb1⟩; rw [HCE.out]; have k0 := (hb1.cell (p := ⟨w.heap.size, 0, none⟩) (by simp)).trans (show _ = some (Value.int .i64 (n : Int)) by simp); have k1 := (hb1.cell (p := ⟨w.heap.size, 1, none⟩) (by simp)).trans (show _ = some (Value.slice A cs.length c) by simp); have HB1 := Aside0.mk hb1; clear hb1) | ((with_reducible refine gate_dst (N := 23) rfl ?_); refine Kd.R_make Kd.bool _ 4 rfl (N := 23) rfl 42 _ _ rfl (n : Int) rfl rfl Tryz.underlying42 (.bool false) 1 (by kernel_rfl) rfl (by decide) (by omega) false (ok := fun _ => True) (okp := fun _ => True) rfl (fun _ hk => hk) trivial (by omega) (by have := HN.out; omega) (Below.refl _ _) (Nat.le_refl _) ?_; intro v23 w2 ho2 hb2 hg2 hn2; have hs1 : w.heap.size < w1.heap.size := (by have := HB1.out.size; simp at this; omega); have k0 := (hb2.cell (p := ⟨w.heap.size, 0, none⟩) hs1).trans k0; have k1 := (hb2.cell (p := ⟨w.heap.size, 1, none⟩) hs1).trans k1; have HO2 := Aside0.mk ho2; have HB2 := Aside0.mk hb2; have HN7 := Aside0.mk hn2; clear ho2 hb2 hg2 hn2))
      have hP : wrap64 (2 ^ n) = ((2 ^ n : Nat) : Int) := by
        have h2 : (2 : Nat) ^ n ≤ 2 ^ 16 := Nat.pow_le_pow_right (by decide) HN.out
        have h3 : (2 : Int) ^ n = ((2 ^ n : Nat) : Int) := by simp
        rw [h3]
        generalize 2 ^ n = N at *
        unfold wrap64; omega
      rw [hP]
      clear hP
      obtain ⟨N, hN⟩ : ∃ N : Nat, N = 2 ^ n := ⟨_, rfl⟩
      rw [← hN]
      have hNb : N ≤ 65536 := by rw [hN]; exact Nat.pow_le_pow_right (by decide) HN.out
      have HN2 := Aside0.mk hN
      have HNb := Aside0.mk hNb
      clear hN hNb
      obtain ⟨g7, hg7, hg7b⟩ := HN7.out
      obtain ⟨c7, rfl⟩ := slice_own HO2.out hg7
      have HO3 : Aside0 (Kd.R Kd.bool 4 w2 (w.heap.size + 1) (fun _ => True) (.slice (some ⟨g7, 0, none⟩) n c7) (List.replicate n false)) := ⟨by have := Kd.R_lower HO2.out hs1; simpa using this⟩
      have HG7 := Aside0.mk (Nat.lt_of_lt_of_le hs1 hg7b)
      rw [show (List.replicate (n : Int).toNat false).length = n by simp]
      have HW2 : Aside0 (Below w.heap.size w w2) := ⟨(below_alloc (Below.refl _ _) _).trans ((HB1.out.mono (by simp)).trans (HB2.out.mono (by omega)))⟩
      have HK : Aside0 (w2.cell? ⟨w.heap.size, 0, none⟩ = some (.int .i64 (n : Int)) ∧ w2.cell? ⟨w.heap.size, 1, none⟩ = some (.slice A cs.length c)) := ⟨⟨k0, k1⟩⟩
      have HIW := Aside0.mk (HD.out.stable _ _ _ HI.out HW2.out)
      have HM2 : Aside0 (trialR cs go S0 (models n) = trialR cs go S0 ((models n).drop 0)) := ⟨rfl⟩
      have HBW := Aside0.mk (HW2.out.mono HBS.out)
      have HSZ := Aside0.mk (Nat.lt_of_lt_of_le hs1 (HB2.out.size))
      clear HO2 HB2 HB1 k0 k1 hs1 HN7 hg7 hg7b
      go_loopg [27] (N) (fun kq v27 w' => ∃ (k : Nat) (S : σ) (m : List Bool), Aside0 (k + kq = N) ∧ v27 = .int .i64 (k : Int) ∧ Aside0 (trialR cs go S0 (models n) = trialR cs go S ((models n).drop k)) ∧ Aside0 (Inv S w') ∧ Aside0 (m.length = n) ∧ Aside0 (Kd.R Kd.bool 4 w' (w.heap.size + 1) (fun _ => True) (.slice (some ⟨g7, 0, none⟩) n c7) m) ∧ Aside0 (Below B w w') ∧ Aside0 (w.heap.size < w'.heap.size) ∧ Aside0 (w'.cell? ⟨w.heap.size, 0, none⟩ = some (.int .i64 (n : Int)) ∧ w'.cell? ⟨w.heap.size, 1, none⟩ = some (.slice A cs.length c)))
      case atStart => exact ⟨0, S0, _, ⟨by omega⟩, rfl, HM2, HIW, ⟨by simp⟩, HO3, HBW, HSZ, HK⟩
      case round =>
        clear HO3 HBW HSZ HK HIW HM2 HW2
        obtain ⟨k, S, m0, HKN, rfl, HM, HIn, HL0, HO, HB, HSZ, HK⟩ := hrel
        by_cases hlt : k < N
        · obtain ⟨k1, rfl⟩ : ∃ k1, gk = k1 + 1 := ⟨gk - 1, by have := HKN.out; omega⟩
          have c0 : decide ((k : Int) < (N : Int)) = true := decide_eq_true (by omega)
          obtain ⟨wo, rfl⟩ : ∃ wo : World, wo = wr := ⟨_, rfl⟩
          go_wp2
          go_loopg [32] (n) (fun kq v32 w' => ∃ (i : Nat) (m : List Bool), Aside0 (i + kq = n) ∧ v32 = .int .i64 (i : Int) ∧ Aside0 (Inv S w') ∧ Aside0 (m.length = n ∧ m.take i = (modelOf n k).take i) ∧ Aside0 (Kd.R Kd.bool 4 w' (w.heap.size + 1) (fun _ => True) (.slice (some ⟨g7, 0, none⟩) n c7) m) ∧ Aside0 (Below B w w') ∧ Aside0 (w.heap.size < w'.heap.size) ∧ Aside0 (w'.cell? ⟨w.heap.size, 0, none⟩ = some (.int .i64 (n : Int)) ∧ w'.cell? ⟨w.heap.size, 1, none⟩ = some (.slice A cs.length c)))
          case atStart => exact ⟨0, m0, ⟨by omega⟩, rfl, HIn, ⟨HL0.out, rfl⟩, HO, HB, HSZ, HK⟩
          case round =>
            clear HIn HL0 HO HB HSZ HK
            obtain ⟨i, m, HIK, rfl, HIn, HL, HO, HB, HSZ, HK⟩ := hrel
            by_cases hi : i < n
            · obtain ⟨k2, rfl⟩ : ∃ k2, gk = k2 + 1 := ⟨gk - 1, by have := HIK.out; omega⟩
              have c1 : decide ((i : Int) < (n : Int)) = true := decide_eq_true (by omega)
              have kk0 := HK.out.1
              have q0 : (0 ≤ (i : Int)) = True := eq_true (by omega)
              have q1 : ((i : Int) < (n : Int)) = True := eq_true (by omega)
              obtain ⟨hx1, hf1⟩ := Kd.R_celln false HO.out (i : Int) (by omega) (by omega)
              have hx : wr.cell? ⟨g7, i, none⟩ = some (.bool (rdOf false m (i : Int))) := hx1
              have hf : wr.frozen? ⟨g7, i, none⟩ = false := hf1
              have hwi : wrap64 (wrap64 ((n : Int) - 1) - (i : Int)) = ((n - 1 - i : Nat) : Int) := by have := HN.out; unfold wrap64; omega
              clear hx1 hf1
              have HEl : Aside0 ((bits BinOp.and IntKind.i64 ((k : Int) / 2 ^ (n - 1 - i)) 1 == 1) = decide ((k / 2 ^ (n - 1 - i)) % 2 = 1)) := ⟨bit_of k (n - 1 - i) (by have := HNb.out; omega)⟩
              go_wp2
              go_roundg k2
              case measure => omega
              case rel =>
                obtain ⟨hr1, hg1⟩ := Kd.R_putg HO.out (i : Int) (bits BinOp.and IntKind.i64 ((k : Int) / 2 ^ (n - 1 - i)) 1 == 1)
                have hgN := HG7.out
                refine ⟨i + 1, _, ⟨by have := HIK.out; omega⟩, congrArg (Value.int .i64) (by omega), ⟨HD.out.stable _ _ _ HIn.out (Below.setCell (Below.refl _ _) (by show w.heap.size ≤ g7; omega) _)⟩, ⟨⟨by rw [List.length_set]; exact HL.out.1, ?_⟩⟩, ⟨hr1⟩, ⟨HB.out.grown hg1 (by have := HBS.out; have := HSZ.out; omega) (fun k hk => by injection hk with hk; have := HBS.out; omega)⟩, ⟨by simpa using HSZ.out⟩, ⟨⟨(World.cell?_of_block (Below.heap_setCell _ _ _ _ (by show w.heap.size ≠ g7; omega))).trans HK.out.1, (World.cell?_of_block (Below.heap_setCell _ _ _ _ (by show w.heap.size ≠ g7; omega))).trans HK.out.2⟩⟩⟩
                rw [HEl.out]
                exact model_step HL.out.1 HL.out.2 hi
            · have c1 : decide ((i : Int) < (n : Int)) = false := decide_eq_false (by omega)
              have hm : m = modelOf n k := by
                have h2 := HL.out.2
                have h3 := HIK.out
                rwa [List.take_of_length_le (by rw [HL.out.1]; omega), List.take_of_length_le (by rw [modelOf_length]; omega)] at h2
              obtain ⟨hcn, hcc, hCm⟩ := Kd.R_reads' HO.out
              have HCM : Aside0 (Kd.C Kd.bool wr (some ⟨g7, 0, none⟩) n m) := ⟨by rw [HL.out.1] at hCm; exact hCm⟩
              have HCC := Aside0.mk hcc
              have HIM : Aside0 (∀ l ∈ cs, inM n l) := ⟨fun l hl x hx => by have := (litsE_ok (HALL.out l hl)).1 x hx; omega⟩
              have HMS : Aside0 ((models n).drop k = m :: (models n).drop (k + 1)) := ⟨by rw [hm]; exact models_drop (by rw [← HN2.out]; exact hlt)⟩
              have kk0 := HK.out.1
              have kk1 := HK.out.2
              clear hcn hcc hCm hm
              cases hs : sat m cs with
              | false =>
                have HS := Aside0.mk hs
                have d2 : decide (firstI m cs < 0) = false := (first_sat m cs).trans hs
                have HM1 : Aside0 (trialR cs go S0 (models n) = trialR cs go S ((models n).drop (k + 1))) := ⟨by rw [HM.out, HMS.out, trialR, HS.out]; rfl⟩
                clear hs
                go_wp2_with ((with_reducible refine (first_n n A c cs (some ⟨g7, 0, none⟩) c7 m _ (HR.out _ HB.out) HC.out HL.out.1 HCM.out HIM.out).mono ?_); rintro e w3 ⟨rfl, hb3⟩; have HB3 := Aside0.mk hb3; clear hb3)
                go_roundg k1
                case measure => omega
                case rel =>
                  have h1 := HSZ.out
                  exact ⟨k + 1, S, m, ⟨by have := HKN.out; omega⟩, congrArg (Value.int .i64) (by have := HNb.out; first | omega | (unfold wrap64; omega)), HM1, ⟨HD.out.stable _ _ _ HIn.out (HB3.out.mono (by omega))⟩, ⟨HL.out.1⟩, ⟨Kd.R_below HO.out HB3.out⟩, ⟨HB.out.trans (HB3.out.mono (by have := HBS.out; omega))⟩, ⟨by have := HB3.out.size; omega⟩, ⟨⟨(HB3.out.cell h1).trans HK.out.1, (HB3.out.cell h1).trans HK.out.2⟩⟩⟩
              | true =>
                have HS := Aside0.mk hs
                have d2 : decide (firstI m cs < 0) = true := (first_sat m cs).trans hs
                clear hs
                cases hg : (go S m).2 with
                | true =>
                  have HG := Aside0.mk hg
                  have HM1 : Aside0 (trialR cs go S0 (models n) = trialR cs go (go S m).1 ((models n).drop (k + 1))) := ⟨by rw [HM.out, HMS.out, trialR, HS.out, HG.out]; rfl⟩
                  clear hg
                  go_wp2_with (first | ((with_reducible refine (first_n n A c cs (some ⟨g7, 0, none⟩) c7 m _ (HR.out _ HB.out) HC.out HL.out.1 HCM.out HIM.out).mono ?_); rintro e w3 ⟨rfl, hb3⟩; have HB3 := Aside0.mk hb3; clear hb3) | ((with_reducible refine (HD.out.run S m (some ⟨g7, 0, none⟩) c7 _ (by have h1 := HSZ.out; have h2 := HB3.out.size; omega) HL.out.1 (HD.out.stable _ _ _ HIn.out (HB3.out.mono (by have h1 := HSZ.out; omega))) (Kd.C_below HCM.out HB3.out) HCC.out).mono ?_); rintro e w4 ⟨rfl, hq4, hi4⟩; rw [HG.out] at hi4 ⊢; have HQ4 := Aside0.mk hq4; have HI4 : Aside0 (Inv (go S m).1 w4) := ⟨by simpa using hi4⟩; clear hq4 hi4))
                  go_roundg k1
                  case measure => omega
                  case rel =>
                    have h1 := HSZ.out
                    have h2 := HB3.out.size
                    have h3 := HQ4.out.size
                    have h4 := HBS.out
                    exact ⟨k + 1, (go S m).1, m, ⟨by have := HKN.out; omega⟩, congrArg (Value.int .i64) (by have := HNb.out; first | omega | (unfold wrap64; omega)), HM1, HI4, ⟨HL.out.1⟩, ⟨Kd.R_mono (Kd.R_move (Kd.R_bound (Kd.R_below HO.out HB3.out)) (fun k hk => HQ4.out.block k hk.2.2.1 (.inr (by have := hk.2.1; omega)))) (fun _ _ => trivial)⟩, ⟨(HB.out.trans (HB3.out.mono (by omega))).trans (HQ4.out.below (by omega))⟩, ⟨by omega⟩, ⟨⟨(World.cell?_of_block (HQ4.out.block _ (by show w.heap.size < _; omega) (.inr (Nat.le_refl _)))).trans ((HB3.out.cell h1).trans HK.out.1), (World.cell?_of_block (HQ4.out.block _ (by show w.heap.size < _; omega) (.inr (Nat.le_refl _)))).trans ((HB3.out.cell h1).trans HK.out.2)⟩⟩⟩
                | false =>
                  have HG := Aside0.mk hg
                  have HM1 : Aside0 (trialR cs go S0 (models n) = ((go S m).1, false)) := ⟨by rw [HM.out, HMS.out, trialR, HS.out, HG.out]; rfl⟩
                  clear hg
                  go_wp2_with (first | ((with_reducible refine (first_n n A c cs (some ⟨g7, 0, none⟩) c7 m _ (HR.out _ HB.out) HC.out HL.out.1 HCM.out HIM.out).mono ?_); rintro e w3 ⟨rfl, hb3⟩; have HB3 := Aside0.mk hb3; clear hb3) | ((with_reducible refine (HD.out.run S m (some ⟨g7, 0, none⟩) c7 _ (by have h1 := HSZ.out; have h2 := HB3.out.size; omega) HL.out.1 (HD.out.stable _ _ _ HIn.out (HB3.out.mono (by have h1 := HSZ.out; omega))) (Kd.C_below HCM.out HB3.out) HCC.out).mono ?_); rintro e w4 ⟨rfl, hq4, hi4⟩; rw [HG.out] at hi4 ⊢; have HQ4 := Aside0.mk hq4; have HI4 : Aside0 (Fin (go S m).1 w4) := ⟨by simpa using hi4⟩; clear hq4 hi4))
                  go_ret
                  exact ⟨by rw [HE.out]; rfl, (HB.out.trans (HB3.out.mono (by have h1 := HSZ.out; have h4 := HBS.out; omega))).trans (HQ4.out.below (by have h1 := HSZ.out; have h2 := HB3.out.size; have h4 := HBS.out; omega)), by unfold AfterT; rw [HE.out, if_pos rfl, Int.toNat_natCast, HM1.out]; exact HI4.out⟩
        · have c0 : decide ((k : Int) < (N : Int)) = false := decide_eq_false (by omega)
          have HM1 : Aside0 (trialR cs go S0 (models n) = (S, true)) := ⟨by rw [HM.out, List.drop_of_length_le (by rw [models_length, ← HN2.out]; omega)]; rfl⟩
          go_wp2
          go_ret
          exact ⟨by rw [HE.out]; rfl, HB.out, by unfold AfterT; rw [HE.out, if_pos rfl, Int.toNat_natCast, HM1.out]; exact HIn.out⟩
  · have d0 : ((checkE v cs).2 != 0) = true := bne_iff_ne.2 h0
    have HE : Aside0 (trialsE v cs = (checkE v cs).2) := ⟨by unfold trialsE; rw [if_pos h0]⟩
    have HZ := Aside0.mk h0
    clear h0
    generalize hce : checkE v cs = ce at *
    have HCE := Aside0.mk hce
    clear hce
    go_enter Tryz.func65, Tryz.ntmps65
    go_wp2_with ((with_reducible refine (check_any v _ _ cs _ (HR.out _ (below_alloc (Below.refl _ _) _ |>.mono HBS.out)) HC.out).mono ?_); rintro e w1 ⟨rfl, hb1⟩; rw [HCE.out]; have HB1 := Aside0.mk hb1; clear hb1)
    go_ret
    exact ⟨by rw [HE.out]; rfl, ((below_alloc (Below.refl _ _) _).mono HBS.out).trans (HB1.out.mono (by have := HBS.out; simp; omega)), by unfold AfterT; rw [HE.out, if_neg HZ.out]; exact HD.out.stable _ _ _ HI.out ((below_alloc (Below.refl _ _) _).trans (HB1.out.mono (by simp)))⟩

end Go.Proofs.YtjfmoildblcjiaaGreatDoor.H7
end

section
/- What is proved here: the contract of cnf.Models. -/
namespace Go.Proofs.YtjfmoildblcjiaaGreatDoor.H8
open Go.RowKit Go.Proofs.YtjfmoildblcjiaaGreatDoorW.PrintWords Go.Proofs.YtjfmoildblcjiaaGreatDoorW.PrintLast Go.Proofs.YtjfmoildblcjiaaGreatDoorW.PrintMore Go.Proofs.YtjfmoildblcjiaaGreatDoor.H1 Go.Proofs.YtjfmoildblcjiaaGreatDoor.H2 Go.Proofs.YtjfmoildblcjiaaGreatDoor.H4 Go.Proofs.YtjfmoildblcjiaaGreatDoor.H6 Go.Proofs.YtjfmoildblcjiaaGreatDoor.H7

def goN (S : Int) (_ : List Bool) : Int × Bool := (wrap64 (S + 1), true)
def InvN (b : Nat) (S : Int) (w : World) : Prop := w.cell? ⟨b, 0, none⟩ = some (.int .i64 S) ∧ w.frozen? ⟨b, 0, none⟩ = false

set_option maxHeartbeats 1000000 in
set_option maxRecDepth 100000 in
theorem models1 (S : Int) (m : Value) (b : Nat) (w : World) (hc : w.cell? ⟨b, 0, none⟩ = some (.int .i64 S)) (hf : w.frozen? ⟨b, 0, none⟩ = false) :
    Calls Tryz.prog 66 #[m, .pointer (some ⟨b, 0, none⟩)] w fun e w' => e = .returned (.bool true) ∧ w' = w.setCell ⟨b, 0, none⟩ (.int .i64 (wrap64 (S + 1))) := by
  go_enter Tryz.func66, Tryz.ntmps66
  go_wp2
  go_ret
  exact ⟨rfl, rfl⟩

theorem specN (b B N v : Nat) (hb : B ≤ b) (hN : b < N) : DoSpec 66 #[.pointer (some ⟨b, 0, none⟩)] goN B N v (InvN b) (fun _ _ => False) where
  ent := ent_of Tryz.func66 (by kernel_rfl) rfl
  stable := fun S W W' h hB => ⟨(hB.cell (p := ⟨b, 0, none⟩) hN).trans h.1, (hB.frozen (p := ⟨b, 0, none⟩) hN).trans h.2⟩
  run := fun S m A cm W hNW hl hI _ _ => (models1 S _ b W hI.1 hI.2).mono fun e w' ⟨he, hw⟩ => by
    subst hw
    have hbl : b < W.heap.size := World.block_lt_of_cell? W _ hI.1
    refine ⟨he, ⟨rfl, rfl, rfl, by simp [World.setCell], fun k hk hk2 => Below.heap_setCell _ _ _ _ (by show k ≠ b; omega)⟩, ?_⟩
    rw [if_pos (show (goN S m).2 = true from rfl)]
    exact ⟨by rw [show (goN S m).1 = wrap64 (S + 1) from rfl]; exact World.cell?_setCell_same _ _ _ hI.1, by rw [World.frozen?_setCell]; exact hI.2⟩

theorem inv0 (w : World) (o : Obj) (t : Nat) : InvN (w.heap.size + 1) 0 ((w.alloc o).alloc (.cells #[.int .i64 0] t)) := by
  have h : ((w.alloc o).alloc (.cells #[.int .i64 0] t)).heap[w.heap.size + 1]? = some (.cells #[.int .i64 0] t (0, 0)) := by
    show ((w.heap.push o).push _)[w.heap.size + 1]? = _
    rw [Array.getElem?_push, if_pos (by simp)]
  exact ⟨by simp, by simp only [World.frozen?, h]; rfl⟩
def countM (v : Int) (cs : List (List Int)) : Nat := ((models v.toNat).filter (fun m => sat m cs)).length
theorem run_count (cs : List (List Int)) : ∀ (l : List (List Bool)) (S : Nat), S + l.length < 9223372036854775807 → trialR cs goN (S : Int) l = (((S + (l.filter (fun m => sat m cs)).length : Nat) : Int), true)
  | [], S, _ => rfl
  | m :: r, S, h => by
    rw [List.length_cons] at h
    rw [trialR, List.filter_cons]
    by_cases hs : sat m cs = true
    · have hw : (goN (S : Int) m).1 = ((S + 1 : Nat) : Int) := by show wrap64 _ = _; unfold wrap64; omega
      rw [if_pos hs, if_pos hs, if_pos (show (goN (S : Int) m).2 = true from rfl), hw, run_count cs r (S + 1) (by omega), List.length_cons]
      congr 2
      omega
    · rw [if_neg hs, if_neg hs, run_count cs r S (by omega)]
def modelsE (v : Int) (cs : List (List Int)) : Int := if trialsE v cs = 0 then (countM v cs : Int) else 0
theorem trials_small {v : Int} {cs : List (List Int)} (h : trialsE v cs = 0) : 0 ≤ v ∧ v ≤ 16 ∧ (checkE v cs).2 = 0 := by
  unfold trialsE at h
  split at h
  · exact absurd h ‹_›
  · rename_i h1
    have h2 : (checkE v cs).2 = 0 := by simpa using h1
    split at h
    · simp at h
    · exact ⟨(checkE_ok h2).1, by omega, h2⟩
theorem after_models {b : Nat} {v : Int} {cs : List (List Int)} {w' : World} (h : AfterT goN (InvN b) (fun _ _ => False) 0 v cs w') : w'.cell? ⟨b, 0, none⟩ = some (.int .i64 (modelsE v cs)) := by
  unfold AfterT at h
  unfold modelsE
  split at h
  · rename_i h0
    obtain ⟨hv0, hv1, _⟩ := trials_small h0
    have hr := run_count cs (models v.toNat) 0 (by
      rw [models_length]
      have : 2 ^ v.toNat ≤ 2 ^ 16 := Nat.pow_le_pow_right (by decide) (by omega)
      omega)
    rw [show ((0 : Nat) : Int) = 0 from rfl, Nat.zero_add] at hr
    rw [hr, if_pos rfl] at h
    rw [if_pos h0]
    exact h.1
  · rename_i h0
    rw [if_neg h0]
    exact h.1

set_option maxHeartbeats 2000000 in
set_option maxRecDepth 100000 in
theorem models_any (v : Int) (A : Option Addr) (c : Nat) (cs : List (List Int)) (w : World) (hr : Kd.C (Kd.slice 3 (Kd.int .i64)) w A cs.length cs) (hc : cs.length ≤ c) :
    Calls Tryz.prog 27 #[.agg #[.int .i64 v, .slice A cs.length c]] w fun e w' => e = .returned (.tuple #[.int .i64 (modelsE v cs), .int .i64 (trialsE v cs)]) ∧ Below w.heap.size w w' := by
  have HR := Aside0.mk hr
  have HC := Aside0.mk hc
  clear hr hc
  go_enter Tryz.func27, Tryz.ntmps27
  go_wp2_with ((with_reducible refine (trials_any goN (InvN (w.heap.size + 1)) (fun _ _ => False) _ _ 0 v A c cs w.heap.size _ ?hr HC.out ?hB ?hd ?hI).mono ?_); (case hr => exact fun W hW => Kd.C_below HR.out ((below_alloc (below_alloc (Below.refl _ _) _) _).trans hW)); (case hB => simp; omega); (case hd => exact specN _ _ _ _ (by omega) (by simp)); (case hI => exact inv0 w _ _); rintro e w1 ⟨rfl, hb1, ha1⟩; have k1 := after_models ha1; have HB1 := Aside0.mk hb1; clear hb1 ha1)
  go_ret2
  exact ⟨rfl, (below_alloc (below_alloc (Below.refl _ _) _) _).trans HB1.out⟩

end Go.Proofs.YtjfmoildblcjiaaGreatDoor.H8
end

section
/- What is proved here: contracts of cnf.Holds and cnf.Least. -/
namespace Go.Proofs.YtjfmoildblcjiaaGreatDoor.H21
open Go.RowKit Go.Proofs.YtjfmoildblcjiaaGreatDoorW.PrintWords Go.Proofs.YtjfmoildblcjiaaGreatDoorW.PrintLast Go.Proofs.YtjfmoildblcjiaaGreatDoorW.PrintMore Go.Proofs.YtjfmoildblcjiaaGreatDoor.H1 Go.Proofs.YtjfmoildblcjiaaGreatDoor.H2 Go.Proofs.YtjfmoildblcjiaaGreatDoor.H4 Go.Proofs.YtjfmoildblcjiaaGreatDoor.H6 Go.Proofs.YtjfmoildblcjiaaGreatDoor.H7 Go.Proofs.YtjfmoildblcjiaaGreatDoor.H8

def holdsE (v : Int) (cs : List (List Int)) (m : List Bool) : Bool × Int × Int :=
  if (checkE v cs).2 ≠ 0 then (false, 0, (checkE v cs).2) else if (m.length : Int) ≠ v then (false, 0, 4) else if firstI m cs ≥ 0 then (false, firstI m cs, 0) else (true, 0, 0)
theorem lits_inM {v : Int} {cs : List (List Int)} {m : List Bool} (h : (checkE v cs).2 = 0) (hm : (m.length : Int) = v) : ∀ l ∈ cs, inM m.length l := by
  intro l hl x hx
  have := (litsE_ok ((checkE_ok h).2.2.2 l hl)).1 x hx
  rw [hm]
  exact this
set_option maxHeartbeats 1000000 in
set_option maxRecDepth 100000 in
theorem holds_model (v : Int) (A : Option Addr) (c : Nat) (cs : List (List Int)) (Am : Option Addr) (cm : Nat) (m : List Bool) (w : World) (hr : Kd.C (Kd.slice 3 (Kd.int .i64)) w A cs.length cs) (hc : cs.length ≤ c) (hm : Kd.C Kd.bool w Am m.length m) :
    Calls Tryz.prog 25 #[.agg #[.int .i64 v, .slice A cs.length c], .slice Am m.length cm] w fun e w' => e = .returned (.tuple #[.bool (holdsE v cs m).1, .int .i64 (holdsE v cs m).2.1, .int .i64 (holdsE v cs m).2.2]) ∧ Below w.heap.size w w' := by
  have HR := Aside0.mk hr
  have HC := Aside0.mk hc
  have HMo := Aside0.mk hm
  have HCA := Aside0.mk (fun W (hW : Below w.heap.size w W) => check_any v A c cs W (Kd.C_below hr hW) hc)
  by_cases h0 : (checkE v cs).2 = 0
  · have d0 : ((checkE v cs).2 != 0) = false := bne_eq_false_iff_eq.2 h0
    by_cases h1 : (m.length : Int) = v
    · have d1 : ((m.length : Int) != v) = false := bne_eq_false_iff_eq.2 h1
      have HFA := Aside0.mk (fun W (hW : Below w.heap.size w W) => first_any v A c cs Am cm m W (Kd.C_below hr hW) hc (Kd.C_below hm hW) (lits_inM h0 h1))
      by_cases h2 : firstI m cs ≥ 0
      · have HE : Aside0 (holdsE v cs m = (false, firstI m cs, 0)) := ⟨by unfold holdsE; rw [if_neg (fun h => h h0), if_neg (fun h => h h1), if_pos h2]⟩
        have d2 : decide (firstI m cs ≥ 0) = true := decide_eq_true h2
        generalize hce : checkE v cs = ce at *
        clear hr hc hm h0 h1 h2 hce
        go_enter Tryz.func25, Tryz.ntmps25
        go_wp2_with (first | ((with_reducible refine (HCA.out _ (below_alloc (Below.refl _ _) _)).mono ?_); rintro e w1 ⟨rfl, hb1⟩; have HB1 : Aside0 (Below w.heap.size w w1) := ⟨(below_alloc (Below.refl _ _) _).trans (hb1.mono (by simp))⟩; have k0 := (hb1.cell (p := ⟨w.heap.size, 0, none⟩) (by simp)).trans (show _ = some (Value.int .i64 v) by simp); have k1 := (hb1.cell (p := ⟨w.heap.size, 1, none⟩) (by simp)).trans (show _ = some (Value.slice A cs.length c) by simp); clear hb1) | ((with_reducible refine (HFA.out _ HB1.out).mono ?_); rintro e w2 ⟨rfl, hb2⟩; have HB2 := Aside0.mk (HB1.out.trans (hb2.mono HB1.out.size)); clear hb2))
        go_ret3
        exact ⟨by rw [HE.out]; rfl, HB2.out⟩
      · have HE : Aside0 (holdsE v cs m = (true, 0, 0)) := ⟨by unfold holdsE; rw [if_neg (fun h => h h0), if_neg (fun h => h h1), if_neg h2]⟩
        have d2 : decide (firstI m cs ≥ 0) = false := decide_eq_false h2
        generalize hce : checkE v cs = ce at *
        clear hr hc hm h0 h1 h2 hce
        go_enter Tryz.func25, Tryz.ntmps25
        go_wp2_with (first | ((with_reducible refine (HCA.out _ (below_alloc (Below.refl _ _) _)).mono ?_); rintro e w1 ⟨rfl, hb1⟩; have HB1 : Aside0 (Below w.heap.size w w1) := ⟨(below_alloc (Below.refl _ _) _).trans (hb1.mono (by simp))⟩; have k0 := (hb1.cell (p := ⟨w.heap.size, 0, none⟩) (by simp)).trans (show _ = some (Value.int .i64 v) by simp); have k1 := (hb1.cell (p := ⟨w.heap.size, 1, none⟩) (by simp)).trans (show _ = some (Value.slice A cs.length c) by simp); clear hb1) | ((with_reducible refine (HFA.out _ HB1.out).mono ?_); rintro e w2 ⟨rfl, hb2⟩; have HB2 := Aside0.mk (HB1.out.trans (hb2.mono HB1.out.size)); clear hb2))
        go_ret3
        exact ⟨by rw [HE.out]; rfl, HB2.out⟩
    · have d1 : ((m.length : Int) != v) = true := bne_iff_ne.2 h1
      have HE : Aside0 (holdsE v cs m = (false, 0, 4)) := ⟨by unfold holdsE; rw [if_neg (fun h => h h0), if_pos h1]⟩
      generalize hce : checkE v cs = ce at *
      clear hr hc hm h0 h1 hce
      go_enter Tryz.func25, Tryz.ntmps25
      go_wp2_with (first | ((with_reducible refine (HCA.out _ (below_alloc (Below.refl _ _) _)).mono ?_); rintro e w1 ⟨rfl, hb1⟩; have HB1 : Aside0 (Below w.heap.size w w1) := ⟨(below_alloc (Below.refl _ _) _).trans (hb1.mono (by simp))⟩; have k0 := (hb1.cell (p := ⟨w.heap.size, 0, none⟩) (by simp)).trans (show _ = some (Value.int .i64 v) by simp); have k1 := (hb1.cell (p := ⟨w.heap.size, 1, none⟩) (by simp)).trans (show _ = some (Value.slice A cs.length c) by simp); clear hb1))
      go_ret3
      exact ⟨by rw [HE.out]; rfl, HB1.out⟩
  · have d0 : ((checkE v cs).2 != 0) = true := bne_iff_ne.2 h0
    have HE : Aside0 (holdsE v cs m = (false, 0, (checkE v cs).2)) := ⟨by unfold holdsE; rw [if_pos h0]⟩
    generalize hce : checkE v cs = ce at *
    clear hr hc hm h0 hce
    go_enter Tryz.func25, Tryz.ntmps25
    go_wp2_with (first | ((with_reducible refine (HCA.out _ (below_alloc (Below.refl _ _) _)).mono ?_); rintro e w1 ⟨rfl, hb1⟩; have HB1 : Aside0 (Below w.heap.size w w1) := ⟨(below_alloc (Below.refl _ _) _).trans (hb1.mono (by simp))⟩; clear hb1))
    go_ret3
    exact ⟨by rw [HE.out]; rfl, HB1.out⟩
end Go.Proofs.YtjfmoildblcjiaaGreatDoor.H21
end

section
/- What is proved here: the contract of cnf.Least. -/
namespace Go.Proofs.YtjfmoildblcjiaaGreatDoor.H22
open Go.RowKit Go.Proofs.YtjfmoildblcjiaaGreatDoorW.PrintWords Go.Proofs.YtjfmoildblcjiaaGreatDoorW.PrintLast Go.Proofs.YtjfmoildblcjiaaGreatDoorW.PrintMore Go.Proofs.YtjfmoildblcjiaaGreatDoor.H1 Go.Proofs.YtjfmoildblcjiaaGreatDoor.H2 Go.Proofs.YtjfmoildblcjiaaGreatDoor.H4 Go.Proofs.YtjfmoildblcjiaaGreatDoor.H6 Go.Proofs.YtjfmoildblcjiaaGreatDoor.H7 Go.Proofs.YtjfmoildblcjiaaGreatDoor.H8

theorem init3 (w : World) (o : Obj) : (((w.alloc o).alloc (.cells #[.slice none 0 0] 42)).alloc (.cells #[.bool false] 4)).heap[w.heap.size + 1]? = some (.cells #[.slice none 0 0] 42 (0, 0)) ∧
    (((w.alloc o).alloc (.cells #[.slice none 0 0] 42)).alloc (.cells #[.bool false] 4)).heap[w.heap.size + 1 + 1]? = some (.cells #[.bool false] 4 (0, 0)) := by
  have h : ∀ x y : Obj, (((w.alloc o).alloc x).alloc y).heap = ((w.heap.push o).push x).push y := fun _ _ => rfl
  constructor
  · show ((w.heap.push _).push _ |>.push _)[w.heap.size + 1]? = _
    rw [Array.getElem?_push, if_neg (by simp only [Array.size_push]; omega), Array.getElem?_push, if_pos (by simp only [Array.size_push])]
  · show ((w.heap.push _).push _ |>.push _)[w.heap.size + 1 + 1]? = _
    rw [Array.getElem?_push, if_pos (by simp only [Array.size_push])]

end Go.Proofs.YtjfmoildblcjiaaGreatDoor.H22
end

section
/-
  DERIVED: THE SHELF's CONTRACTS AT THIS DUMP, IN PLAIN WORDS (tools/lay-plain.mjs out of 'TryzShelf.lean', which tools/lay-shelf.mjs wrote): THE SAME DECLARATIONS UNDER THE SAME NAMES: 'import', 'namespace', 'open', 'def', 'theorem' AND NOTHING ELSE: no command of the shelf's: FOR A HAND-IN. Each laying: the table of numbers ('.._ren') and one theorem, a field a fact of the dump's own or the kernel's comparison; each contract: ONE APPLICATION.
-/
namespace Go.Proofs
open Go.Shelf
def Tryz.laysC172_ren : Go.Shelf.Ren := ⟨fun | 172 => 115 | 244 => 142 | 245 => 143 | 247 => 164 | 279 => 165 | 280 => 166 | 281 => 167 | 282 => 168 | 287 => 184 | 316 => 185 | 171 => 81 | 205 => 186 | 321 => 193 | 322 => 194 | 243 => 112 | 246 => 139 | 283 => 157 | 284 => 158 | 285 => 159 | 286 => 160 | 129 => 131 | 317 => 175 | 318 => 176 | 319 => 177 | 320 => 178 | 337 => 188 | 338 => 189 | n => n, fun | 9 => 9 | 3 => 3 | 75 => 112 | 76 => 113 | 4 => 4 | 5 => 5 | 167 => 190 | 37 => 97 | 0 => 0 | 85 => 191 | 2 => 2 | 168 => 193 | 53 => 135 | 175 => 208 | 46 => 130 | 210 => 212 | 127 => 144 | 145 => 218 | 143 => 216 | 21 => 21 | 171 => 184 | 173 => 186 | 212 => 203 | 51 => 160 | 20 => 20 | 213 => 204 | 232 => 223 | 233 => 224 | 80 => 117 | n => n, fun | 15 => 2 | 16 => 3 | 17 => 1 | 18 => 6 | 19 => 7 | n => n⟩
theorem Tryz.laysC172 : Go.Proofs.LaysC.n172 Tryz.prog Tryz.laysC172_ren := {
  mixed := by kernel_rfl
  f129 := Tryz.func131.trans (congrArg some (by kernel_rfl))
  f171 := Tryz.func81.trans (congrArg some (by kernel_rfl))
  f172 := Tryz.func115.trans (congrArg some (by kernel_rfl))
  f205 := Tryz.func186.trans (congrArg some (by kernel_rfl))
  f243 := Tryz.func112.trans (congrArg some (by kernel_rfl))
  f244 := Tryz.func142.trans (congrArg some (by kernel_rfl))
  f245 := Tryz.func143.trans (congrArg some (by kernel_rfl))
  f246 := Tryz.func139.trans (congrArg some (by kernel_rfl))
  f247 := Tryz.func164.trans (congrArg some (by kernel_rfl))
  f279 := Tryz.func165.trans (congrArg some (by kernel_rfl))
  f280 := Tryz.func166.trans (congrArg some (by kernel_rfl))
  f281 := Tryz.func167.trans (congrArg some (by kernel_rfl))
  f282 := Tryz.func168.trans (congrArg some (by kernel_rfl))
  f283 := Tryz.func157.trans (congrArg some (by kernel_rfl))
  f284 := Tryz.func158.trans (congrArg some (by kernel_rfl))
  f285 := Tryz.func159.trans (congrArg some (by kernel_rfl))
  f286 := Tryz.func160.trans (congrArg some (by kernel_rfl))
  f287 := Tryz.func184.trans (congrArg some (by kernel_rfl))
  f316 := Tryz.func185.trans (congrArg some (by kernel_rfl))
  f317 := Tryz.func175.trans (congrArg some (by kernel_rfl))
  f318 := Tryz.func176.trans (congrArg some (by kernel_rfl))
  f319 := Tryz.func177.trans (congrArg some (by kernel_rfl))
  f320 := Tryz.func178.trans (congrArg some (by kernel_rfl))
  f321 := Tryz.func193.trans (congrArg some (by kernel_rfl))
  f322 := Tryz.func194.trans (congrArg some (by kernel_rfl))
  f337 := Tryz.func188.trans (congrArg some (by kernel_rfl))
  f338 := Tryz.func189.trans (congrArg some (by kernel_rfl))
  t0 := Tryz.underlying0
  a0 := Tryz.isAgg0
  z0 := Tryz.sizeOf0
  v0 := Tryz.zeroValue0
  t2 := Tryz.underlying2
  a2 := Tryz.isAgg2
  z2 := Tryz.sizeOf2
  v2 := Tryz.zeroValue2
  t3 := Tryz.underlying3
  a3 := Tryz.isAgg3
  z3 := Tryz.sizeOf3
  v3 := Tryz.zeroValue3
  t4 := Tryz.underlying4
  a4 := Tryz.isAgg4
  z4 := Tryz.sizeOf4
  v4 := Tryz.zeroValue4
  t5 := Tryz.underlying5
  a5 := Tryz.isAgg5
  z5 := Tryz.sizeOf5
  v5 := Tryz.zeroValue5
  t9 := Tryz.underlying9
  a9 := Tryz.isAgg9
  z9 := Tryz.sizeOf9
  v9 := Tryz.zeroValue9
  t20 := Tryz.underlying20
  a20 := Tryz.isAgg20
  z20 := Tryz.sizeOf20
  v20 := Tryz.zeroValue20
  t21 := Tryz.underlying21
  a21 := Tryz.isAgg21
  z21 := Tryz.sizeOf21
  v21 := Tryz.zeroValue21
  t37 := Tryz.underlying97
  a37 := Tryz.isAgg97
  z37 := Tryz.sizeOf97
  v37 := Tryz.zeroValue97
  t46 := Tryz.underlying130
  a46 := Tryz.isAgg130
  z46 := Tryz.sizeOf130
  v46 := Tryz.zeroValue130
  t51 := Tryz.underlying160
  a51 := Tryz.isAgg160
  z51 := Tryz.sizeOf160
  v51 := Tryz.zeroValue160
  t53 := Tryz.underlying135
  a53 := Tryz.isAgg135
  z53 := Tryz.sizeOf135
  v53 := Tryz.zeroValue135
  t75 := Tryz.underlying112
  a75 := Tryz.isAgg112
  z75 := Tryz.sizeOf112
  v75 := Tryz.zeroValue112
  t76 := Tryz.underlying113
  a76 := Tryz.isAgg113
  z76 := Tryz.sizeOf113
  v76 := Tryz.zeroValue113
  t85 := Tryz.underlying191
  a85 := Tryz.isAgg191
  z85 := Tryz.sizeOf191
  v85 := Tryz.zeroValue191
  t127 := Tryz.underlying144
  a127 := Tryz.isAgg144
  z127 := Tryz.sizeOf144
  v127 := Tryz.zeroValue144
  t143 := Tryz.underlying216
  a143 := Tryz.isAgg216
  z143 := Tryz.sizeOf216
  v143 := Tryz.zeroValue216
  t145 := Tryz.underlying218
  a145 := Tryz.isAgg218
  z145 := Tryz.sizeOf218
  v145 := Tryz.zeroValue218
  t167 := Tryz.underlying190
  a167 := Tryz.isAgg190
  z167 := Tryz.sizeOf190
  v167 := Tryz.zeroValue190
  t168 := Tryz.underlying193
  a168 := Tryz.isAgg193
  z168 := Tryz.sizeOf193
  v168 := Tryz.zeroValue193
  t171 := Tryz.underlying184
  a171 := Tryz.isAgg184
  z171 := Tryz.sizeOf184
  v171 := Tryz.zeroValue184
  t173 := Tryz.underlying186
  a173 := Tryz.isAgg186
  z173 := Tryz.sizeOf186
  v173 := Tryz.zeroValue186
  t175 := Tryz.underlying208
  a175 := Tryz.isAgg208
  z175 := Tryz.sizeOf208
  v175 := Tryz.zeroValue208
  t210 := Tryz.underlying212
  a210 := Tryz.isAgg212
  z210 := Tryz.sizeOf212
  v210 := Tryz.zeroValue212
  t212 := Tryz.underlying203
  a212 := Tryz.isAgg203
  z212 := Tryz.sizeOf203
  v212 := Tryz.zeroValue203
  t213 := Tryz.underlying204
  a213 := Tryz.isAgg204
  z213 := Tryz.sizeOf204
  t232 := Tryz.underlying223
  a232 := Tryz.isAgg223
  z232 := Tryz.sizeOf223
  v232 := Tryz.zeroValue223
  t233 := Tryz.underlying224
  a233 := Tryz.isAgg224
  z233 := Tryz.sizeOf224
  v233 := Tryz.zeroValue224
  g15 := by kernel_rfl
  g16 := by kernel_rfl
  g17 := by kernel_rfl
  g18 := by kernel_rfl
  g19 := by kernel_rfl
  t80 := Tryz.underlying117
  a80 := Tryz.isAgg117
  z80 := Tryz.sizeOf117
  v80 := Tryz.zeroValue117
  i0 := by kernel_rfl
  i2 := by kernel_rfl
  i3 := by kernel_rfl
  i4 := by kernel_rfl
  i5 := by kernel_rfl
  i9 := by kernel_rfl
  i20 := by kernel_rfl
  i21 := by kernel_rfl
  i37 := by kernel_rfl
  i46 := by kernel_rfl
  i51 := by kernel_rfl
  i53 := by kernel_rfl
  i75 := by kernel_rfl
  i76 := by kernel_rfl
  i80 := by kernel_rfl
  i85 := by kernel_rfl
  i127 := by kernel_rfl
  i143 := by kernel_rfl
  i145 := by kernel_rfl
  i167 := by kernel_rfl
  i168 := by kernel_rfl
  i171 := by kernel_rfl
  i173 := by kernel_rfl
  i175 := by kernel_rfl
  i210 := by kernel_rfl
  i212 := by kernel_rfl
  i232 := by kernel_rfl
  i233 := by kernel_rfl
  m15 := by kernel_rfl
  m16 := by kernel_rfl
  m17 := by kernel_rfl
  m18 := by kernel_rfl
  m19 := by kernel_rfl
  c0 := by kernel_rfl
  c2 := by kernel_rfl
  c3 := by kernel_rfl
  c4 := by kernel_rfl
  c5 := by kernel_rfl
  c9 := by kernel_rfl
  c20 := by kernel_rfl
  c21 := by kernel_rfl
  c37 := by kernel_rfl
  c46 := by kernel_rfl
  c51 := by kernel_rfl
  c53 := by kernel_rfl
  c75 := by kernel_rfl
  c76 := by kernel_rfl
  c80 := by kernel_rfl
  c85 := by kernel_rfl
  c127 := by kernel_rfl
  c143 := by kernel_rfl
  c145 := by kernel_rfl
  c167 := by kernel_rfl
  c168 := by kernel_rfl
  c171 := by kernel_rfl
  c173 := by kernel_rfl
  c175 := by kernel_rfl
  c210 := by kernel_rfl
  c212 := by kernel_rfl
  c213 := by kernel_rfl
  c232 := by kernel_rfl
  c233 := by kernel_rfl }
def Tryz.lays219_ren : Go.Shelf.Ren := ⟨fun | 219 => 116 | 217 => 144 | 225 => 145 | 224 => 146 | 267 => 147 | 266 => 169 | 314 => 170 | n => n, fun | 9 => 9 | 3 => 3 | 4 => 4 | 5 => 5 | 46 => 130 | 146 => 196 | 51 => 160 | n => n, fun | 1 => 0 | n => n⟩
theorem Tryz.lays219 : Go.Proofs.Lays.n219 Tryz.prog Tryz.lays219_ren := {
  mixed := by kernel_rfl
  f217 := Tryz.func144.trans (congrArg some (by kernel_rfl))
  f219 := Tryz.func116.trans (congrArg some (by kernel_rfl))
  f224 := Tryz.func146.trans (congrArg some (by kernel_rfl))
  f225 := Tryz.func145.trans (congrArg some (by kernel_rfl))
  f266 := Tryz.func169.trans (congrArg some (by kernel_rfl))
  f267 := Tryz.func147.trans (congrArg some (by kernel_rfl))
  f314 := Tryz.func170.trans (congrArg some (by kernel_rfl))
  t3 := Tryz.underlying3
  a3 := Tryz.isAgg3
  z3 := Tryz.sizeOf3
  v3 := Tryz.zeroValue3
  t4 := Tryz.underlying4
  a4 := Tryz.isAgg4
  z4 := Tryz.sizeOf4
  v4 := Tryz.zeroValue4
  t5 := Tryz.underlying5
  a5 := Tryz.isAgg5
  z5 := Tryz.sizeOf5
  v5 := Tryz.zeroValue5
  t9 := Tryz.underlying9
  a9 := Tryz.isAgg9
  z9 := Tryz.sizeOf9
  v9 := Tryz.zeroValue9
  t46 := Tryz.underlying130
  a46 := Tryz.isAgg130
  z46 := Tryz.sizeOf130
  v46 := Tryz.zeroValue130
  t51 := Tryz.underlying160
  a51 := Tryz.isAgg160
  z51 := Tryz.sizeOf160
  v51 := Tryz.zeroValue160
  t146 := Tryz.underlying196
  a146 := Tryz.isAgg196
  z146 := Tryz.sizeOf196
  v146 := Tryz.zeroValue196
  g1 := by kernel_rfl }
def Tryz.lays143_ren : Go.Shelf.Ren := ⟨fun | 143 => 150 | 219 => 116 | 217 => 144 | 225 => 145 | 224 => 146 | 267 => 147 | 266 => 169 | 314 => 170 | n => n, fun | 9 => 9 | 3 => 3 | 4 => 4 | 5 => 5 | 46 => 130 | 146 => 196 | 51 => 160 | n => n, fun | 1 => 0 | n => n⟩
theorem Tryz.lays143 : Go.Proofs.Lays.n143 Tryz.prog Tryz.lays143_ren := {
  mixed := by kernel_rfl
  f143 := Tryz.func150.trans (congrArg some (by kernel_rfl))
  f217 := Tryz.func144.trans (congrArg some (by kernel_rfl))
  f219 := Tryz.func116.trans (congrArg some (by kernel_rfl))
  f224 := Tryz.func146.trans (congrArg some (by kernel_rfl))
  f225 := Tryz.func145.trans (congrArg some (by kernel_rfl))
  f266 := Tryz.func169.trans (congrArg some (by kernel_rfl))
  f267 := Tryz.func147.trans (congrArg some (by kernel_rfl))
  f314 := Tryz.func170.trans (congrArg some (by kernel_rfl))
  t3 := Tryz.underlying3
  a3 := Tryz.isAgg3
  z3 := Tryz.sizeOf3
  v3 := Tryz.zeroValue3
  t4 := Tryz.underlying4
  a4 := Tryz.isAgg4
  z4 := Tryz.sizeOf4
  v4 := Tryz.zeroValue4
  t5 := Tryz.underlying5
  a5 := Tryz.isAgg5
  z5 := Tryz.sizeOf5
  v5 := Tryz.zeroValue5
  t9 := Tryz.underlying9
  a9 := Tryz.isAgg9
  z9 := Tryz.sizeOf9
  v9 := Tryz.zeroValue9
  t46 := Tryz.underlying130
  a46 := Tryz.isAgg130
  z46 := Tryz.sizeOf130
  v46 := Tryz.zeroValue130
  t51 := Tryz.underlying160
  a51 := Tryz.isAgg160
  z51 := Tryz.sizeOf160
  v51 := Tryz.zeroValue160
  t146 := Tryz.underlying196
  a146 := Tryz.isAgg196
  z146 := Tryz.sizeOf196
  v146 := Tryz.zeroValue196
  g1 := by kernel_rfl }
def Tryz.lays138_ren : Go.Shelf.Ren := ⟨fun | 138 => 149 | 195 => 171 | 218 => 173 | 143 => 150 | 219 => 116 | 217 => 144 | 225 => 145 | 224 => 146 | 267 => 147 | 266 => 169 | 314 => 170 | n => n, fun | 9 => 9 | 3 => 3 | 4 => 4 | 5 => 5 | 0 => 0 | 46 => 130 | 146 => 196 | 51 => 160 | n => n, fun | 1 => 0 | n => n⟩
theorem Tryz.lays138 : Go.Proofs.Lays.n138 Tryz.prog Tryz.lays138_ren := {
  mixed := by kernel_rfl
  f138 := Tryz.func149.trans (congrArg some (by kernel_rfl))
  f143 := Tryz.func150.trans (congrArg some (by kernel_rfl))
  f195 := Tryz.func171.trans (congrArg some (by kernel_rfl))
  f217 := Tryz.func144.trans (congrArg some (by kernel_rfl))
  f218 := Tryz.func173.trans (congrArg some (by kernel_rfl))
  f219 := Tryz.func116.trans (congrArg some (by kernel_rfl))
  f224 := Tryz.func146.trans (congrArg some (by kernel_rfl))
  f225 := Tryz.func145.trans (congrArg some (by kernel_rfl))
  f266 := Tryz.func169.trans (congrArg some (by kernel_rfl))
  f267 := Tryz.func147.trans (congrArg some (by kernel_rfl))
  f314 := Tryz.func170.trans (congrArg some (by kernel_rfl))
  t0 := Tryz.underlying0
  a0 := Tryz.isAgg0
  z0 := Tryz.sizeOf0
  v0 := Tryz.zeroValue0
  t3 := Tryz.underlying3
  a3 := Tryz.isAgg3
  z3 := Tryz.sizeOf3
  v3 := Tryz.zeroValue3
  t4 := Tryz.underlying4
  a4 := Tryz.isAgg4
  z4 := Tryz.sizeOf4
  v4 := Tryz.zeroValue4
  t5 := Tryz.underlying5
  a5 := Tryz.isAgg5
  z5 := Tryz.sizeOf5
  v5 := Tryz.zeroValue5
  t9 := Tryz.underlying9
  a9 := Tryz.isAgg9
  z9 := Tryz.sizeOf9
  v9 := Tryz.zeroValue9
  t46 := Tryz.underlying130
  a46 := Tryz.isAgg130
  z46 := Tryz.sizeOf130
  v46 := Tryz.zeroValue130
  t51 := Tryz.underlying160
  a51 := Tryz.isAgg160
  z51 := Tryz.sizeOf160
  v51 := Tryz.zeroValue160
  t146 := Tryz.underlying196
  a146 := Tryz.isAgg196
  z146 := Tryz.sizeOf196
  v146 := Tryz.zeroValue196
  g1 := by kernel_rfl }
def Tryz.lays221_ren : Go.Shelf.Ren := ⟨fun | 221 => 119 | 268 => 148 | 138 => 149 | 143 => 150 | 195 => 171 | 197 => 172 | 218 => 173 | 219 => 116 | 260 => 187 | 217 => 144 | 225 => 145 | 224 => 146 | 267 => 147 | 266 => 169 | 314 => 170 | n => n, fun | 9 => 9 | 3 => 3 | 31 => 121 | 4 => 4 | 0 => 0 | 105 => 198 | 21 => 21 | 5 => 5 | 46 => 130 | 119 => 219 | 139 => 222 | 138 => 221 | 146 => 196 | 51 => 160 | n => n, fun | 1 => 0 | 3 => 4 | 4 => 5 | n => n⟩
theorem Tryz.lays221 : Go.Proofs.Lays.n221 Tryz.prog Tryz.lays221_ren := {
  mixed := by kernel_rfl
  f138 := Tryz.func149.trans (congrArg some (by kernel_rfl))
  f143 := Tryz.func150.trans (congrArg some (by kernel_rfl))
  f195 := Tryz.func171.trans (congrArg some (by kernel_rfl))
  f197 := Tryz.func172.trans (congrArg some (by kernel_rfl))
  f217 := Tryz.func144.trans (congrArg some (by kernel_rfl))
  f218 := Tryz.func173.trans (congrArg some (by kernel_rfl))
  f219 := Tryz.func116.trans (congrArg some (by kernel_rfl))
  f221 := Tryz.func119.trans (congrArg some (by kernel_rfl))
  f224 := Tryz.func146.trans (congrArg some (by kernel_rfl))
  f225 := Tryz.func145.trans (congrArg some (by kernel_rfl))
  f260 := Tryz.func187.trans (congrArg some (by kernel_rfl))
  f266 := Tryz.func169.trans (congrArg some (by kernel_rfl))
  f267 := Tryz.func147.trans (congrArg some (by kernel_rfl))
  f268 := Tryz.func148.trans (congrArg some (by kernel_rfl))
  f314 := Tryz.func170.trans (congrArg some (by kernel_rfl))
  t0 := Tryz.underlying0
  a0 := Tryz.isAgg0
  z0 := Tryz.sizeOf0
  v0 := Tryz.zeroValue0
  t3 := Tryz.underlying3
  a3 := Tryz.isAgg3
  z3 := Tryz.sizeOf3
  v3 := Tryz.zeroValue3
  t4 := Tryz.underlying4
  a4 := Tryz.isAgg4
  z4 := Tryz.sizeOf4
  v4 := Tryz.zeroValue4
  t5 := Tryz.underlying5
  a5 := Tryz.isAgg5
  z5 := Tryz.sizeOf5
  v5 := Tryz.zeroValue5
  t9 := Tryz.underlying9
  a9 := Tryz.isAgg9
  z9 := Tryz.sizeOf9
  v9 := Tryz.zeroValue9
  t21 := Tryz.underlying21
  a21 := Tryz.isAgg21
  z21 := Tryz.sizeOf21
  v21 := Tryz.zeroValue21
  t31 := Tryz.underlying121
  a31 := Tryz.isAgg121
  z31 := Tryz.sizeOf121
  v31 := Tryz.zeroValue121
  t46 := Tryz.underlying130
  a46 := Tryz.isAgg130
  z46 := Tryz.sizeOf130
  v46 := Tryz.zeroValue130
  t51 := Tryz.underlying160
  a51 := Tryz.isAgg160
  z51 := Tryz.sizeOf160
  v51 := Tryz.zeroValue160
  t105 := Tryz.underlying198
  a105 := Tryz.isAgg198
  z105 := Tryz.sizeOf198
  v105 := Tryz.zeroValue198
  t119 := Tryz.underlying219
  a119 := Tryz.isAgg219
  z119 := Tryz.sizeOf219
  t138 := Tryz.underlying221
  a138 := Tryz.isAgg221
  z138 := Tryz.sizeOf221
  v138 := Tryz.zeroValue221
  t139 := Tryz.underlying222
  a139 := Tryz.isAgg222
  z139 := Tryz.sizeOf222
  v139 := Tryz.zeroValue222
  t146 := Tryz.underlying196
  a146 := Tryz.isAgg196
  z146 := Tryz.sizeOf196
  v146 := Tryz.zeroValue196
  g1 := by kernel_rfl
  g3 := by kernel_rfl
  g4 := by kernel_rfl }
def Tryz.laysSlF6_f59_ren : Go.Shelf.Ren := ⟨fun | 6 => 59 | 15 => 98 | 14 => 97 | 28 => 130 | 29 => 131 | 20 => 122 | 21 => 123 | 22 => 124 | 23 => 125 | 24 => 126 | 25 => 127 | 26 => 128 | 27 => 129 | 46 => 151 | 47 => 152 | 48 => 153 | 49 => 154 | 50 => 155 | 57 => 174 | n => n, fun | 22 => 34 | 24 => 3 | 25 => 88 | 3 => 3 | 39 => 130 | 0 => 0 | 53 => 160 | 55 => 135 | 4 => 4 | 46 => 154 | 45 => 153 | 50 => 85 | 5 => 5 | 9 => 9 | 66 => 177 | 70 => 181 | 76 => 200 | 77 => 79 | n => n, fun | n => n⟩
theorem Tryz.laysSlF6_f59 : Go.Proofs.SlLaysF.n6 Tryz.prog Tryz.laysSlF6_f59_ren := {
  mixed := by kernel_rfl
  f6 := ⟨Tryz.f59.name, by decide, Tryz.func59.trans (congrArg some (by kernel_rfl))⟩
  f14 := ⟨Tryz.f97.name, by decide, Tryz.func97.trans (congrArg some (by kernel_rfl))⟩
  f15 := Tryz.func98.trans (congrArg some (by kernel_rfl))
  f20 := ⟨Tryz.f122.name, by decide, Tryz.func122.trans (congrArg some (by kernel_rfl))⟩
  f21 := ⟨Tryz.f123.name, by decide, Tryz.func123.trans (congrArg some (by kernel_rfl))⟩
  f22 := ⟨Tryz.f124.name, by decide, Tryz.func124.trans (congrArg some (by kernel_rfl))⟩
  f23 := ⟨Tryz.f125.name, by decide, Tryz.func125.trans (congrArg some (by kernel_rfl))⟩
  f24 := ⟨Tryz.f126.name, by decide, Tryz.func126.trans (congrArg some (by kernel_rfl))⟩
  f25 := ⟨Tryz.f127.name, by decide, Tryz.func127.trans (congrArg some (by kernel_rfl))⟩
  f26 := ⟨Tryz.f128.name, by decide, Tryz.func128.trans (congrArg some (by kernel_rfl))⟩
  f27 := ⟨Tryz.f129.name, by decide, Tryz.func129.trans (congrArg some (by kernel_rfl))⟩
  f28 := Tryz.func130.trans (congrArg some (by kernel_rfl))
  f29 := Tryz.func131.trans (congrArg some (by kernel_rfl))
  f46 := ⟨Tryz.f151.name, by decide, Tryz.func151.trans (congrArg some (by kernel_rfl))⟩
  f47 := Tryz.func152.trans (congrArg some (by kernel_rfl))
  f48 := Tryz.func153.trans (congrArg some (by kernel_rfl))
  f49 := ⟨Tryz.f154.name, by decide, Tryz.func154.trans (congrArg some (by kernel_rfl))⟩
  f50 := ⟨Tryz.f155.name, by decide, Tryz.func155.trans (congrArg some (by kernel_rfl))⟩
  f57 := ⟨Tryz.f174.name, by decide, Tryz.func174.trans (congrArg some (by kernel_rfl))⟩
  t0 := Tryz.underlying0
  a0 := Tryz.isAgg0
  z0 := Tryz.sizeOf0
  v0 := Tryz.zeroValue0
  t3 := Tryz.underlying3
  a3 := Tryz.isAgg3
  z3 := Tryz.sizeOf3
  v3 := Tryz.zeroValue3
  t4 := Tryz.underlying4
  a4 := Tryz.isAgg4
  z4 := Tryz.sizeOf4
  v4 := Tryz.zeroValue4
  t5 := Tryz.underlying5
  a5 := Tryz.isAgg5
  z5 := Tryz.sizeOf5
  v5 := Tryz.zeroValue5
  t9 := Tryz.underlying9
  a9 := Tryz.isAgg9
  z9 := Tryz.sizeOf9
  v9 := Tryz.zeroValue9
  t22 := Tryz.underlying34
  a22 := Tryz.isAgg34
  z22 := Tryz.sizeOf34
  v22 := Tryz.zeroValue34
  a24 := Tryz.isAgg3
  z24 := Tryz.sizeOf3
  t25 := Tryz.underlying88
  a25 := Tryz.isAgg88
  z25 := Tryz.sizeOf88
  v25 := Tryz.zeroValue88
  t39 := Tryz.underlying130
  a39 := Tryz.isAgg130
  z39 := Tryz.sizeOf130
  v39 := Tryz.zeroValue130
  t45 := Tryz.underlying153
  a45 := Tryz.isAgg153
  z45 := Tryz.sizeOf153
  v45 := Tryz.zeroValue153
  t46 := Tryz.underlying154
  a46 := Tryz.isAgg154
  z46 := Tryz.sizeOf154
  v46 := Tryz.zeroValue154
  t50 := Tryz.underlying85
  a50 := Tryz.isAgg85
  z50 := Tryz.sizeOf85
  v50 := Tryz.zeroValue85
  t53 := Tryz.underlying160
  a53 := Tryz.isAgg160
  z53 := Tryz.sizeOf160
  v53 := Tryz.zeroValue160
  t55 := Tryz.underlying135
  a55 := Tryz.isAgg135
  z55 := Tryz.sizeOf135
  v55 := Tryz.zeroValue135
  t66 := Tryz.underlying177
  a66 := Tryz.isAgg177
  z66 := Tryz.sizeOf177
  v66 := Tryz.zeroValue177
  t70 := Tryz.underlying181
  a70 := Tryz.isAgg181
  z70 := Tryz.sizeOf181
  v70 := Tryz.zeroValue181
  t76 := Tryz.underlying200
  a76 := Tryz.isAgg200
  z76 := Tryz.sizeOf200
  v76 := Tryz.zeroValue200
  t77 := Tryz.underlying79
  a77 := Tryz.isAgg79
  z77 := Tryz.sizeOf79
  v77 := Tryz.zeroValue79 }
def Tryz.laysSlF06_f59_ren : Go.Shelf.Ren := ⟨fun | 6 => 59 | 15 => 98 | 14 => 97 | 28 => 130 | 29 => 131 | 20 => 122 | 21 => 123 | 22 => 124 | 23 => 125 | 24 => 126 | 25 => 127 | 26 => 128 | 27 => 129 | 46 => 151 | 47 => 152 | 48 => 153 | 49 => 154 | 50 => 155 | 57 => 174 | n => n, fun | 22 => 34 | 24 => 3 | 25 => 88 | 3 => 3 | 39 => 130 | 0 => 0 | 53 => 160 | 55 => 135 | 4 => 4 | 46 => 154 | 45 => 153 | 50 => 85 | 5 => 5 | 9 => 9 | 66 => 177 | 70 => 181 | 76 => 200 | 77 => 79 | n => n, fun | n => n⟩
theorem Tryz.laysSlF06_f59 : Go.Proofs.SlLaysF0.n6 Tryz.prog Tryz.laysSlF06_f59_ren := {
  mixed := by kernel_rfl
  f6 := ⟨Tryz.f59.name, by decide, Tryz.func59.trans (congrArg some (by kernel_rfl))⟩
  f14 := ⟨Tryz.f97.name, by decide, Tryz.func97.trans (congrArg some (by kernel_rfl))⟩
  f15 := Tryz.func98.trans (congrArg some (by kernel_rfl))
  f20 := ⟨Tryz.f122.name, by decide, Tryz.func122.trans (congrArg some (by kernel_rfl))⟩
  f21 := ⟨Tryz.f123.name, by decide, Tryz.func123.trans (congrArg some (by kernel_rfl))⟩
  f22 := ⟨Tryz.f124.name, by decide, Tryz.func124.trans (congrArg some (by kernel_rfl))⟩
  f23 := ⟨Tryz.f125.name, by decide, Tryz.func125.trans (congrArg some (by kernel_rfl))⟩
  f24 := ⟨Tryz.f126.name, by decide, Tryz.func126.trans (congrArg some (by kernel_rfl))⟩
  f25 := ⟨Tryz.f127.name, by decide, Tryz.func127.trans (congrArg some (by kernel_rfl))⟩
  f26 := ⟨Tryz.f128.name, by decide, Tryz.func128.trans (congrArg some (by kernel_rfl))⟩
  f27 := ⟨Tryz.f129.name, by decide, Tryz.func129.trans (congrArg some (by kernel_rfl))⟩
  f28 := Tryz.func130.trans (congrArg some (by kernel_rfl))
  f29 := Tryz.func131.trans (congrArg some (by kernel_rfl))
  f46 := ⟨Tryz.f151.name, by decide, Tryz.func151.trans (congrArg some (by kernel_rfl))⟩
  f47 := Tryz.func152.trans (congrArg some (by kernel_rfl))
  f48 := Tryz.func153.trans (congrArg some (by kernel_rfl))
  f49 := ⟨Tryz.f154.name, by decide, Tryz.func154.trans (congrArg some (by kernel_rfl))⟩
  f50 := ⟨Tryz.f155.name, by decide, Tryz.func155.trans (congrArg some (by kernel_rfl))⟩
  f57 := ⟨Tryz.f174.name, by decide, Tryz.func174.trans (congrArg some (by kernel_rfl))⟩
  t0 := Tryz.underlying0
  a0 := Tryz.isAgg0
  z0 := Tryz.sizeOf0
  v0 := Tryz.zeroValue0
  t3 := Tryz.underlying3
  a3 := Tryz.isAgg3
  z3 := Tryz.sizeOf3
  v3 := Tryz.zeroValue3
  t4 := Tryz.underlying4
  a4 := Tryz.isAgg4
  z4 := Tryz.sizeOf4
  v4 := Tryz.zeroValue4
  t5 := Tryz.underlying5
  a5 := Tryz.isAgg5
  z5 := Tryz.sizeOf5
  v5 := Tryz.zeroValue5
  t9 := Tryz.underlying9
  a9 := Tryz.isAgg9
  z9 := Tryz.sizeOf9
  v9 := Tryz.zeroValue9
  t22 := Tryz.underlying34
  a22 := Tryz.isAgg34
  z22 := Tryz.sizeOf34
  v22 := Tryz.zeroValue34
  t25 := Tryz.underlying88
  a25 := Tryz.isAgg88
  z25 := Tryz.sizeOf88
  v25 := Tryz.zeroValue88
  t39 := Tryz.underlying130
  a39 := Tryz.isAgg130
  z39 := Tryz.sizeOf130
  v39 := Tryz.zeroValue130
  t45 := Tryz.underlying153
  a45 := Tryz.isAgg153
  z45 := Tryz.sizeOf153
  v45 := Tryz.zeroValue153
  t46 := Tryz.underlying154
  a46 := Tryz.isAgg154
  z46 := Tryz.sizeOf154
  v46 := Tryz.zeroValue154
  t50 := Tryz.underlying85
  a50 := Tryz.isAgg85
  z50 := Tryz.sizeOf85
  v50 := Tryz.zeroValue85
  t53 := Tryz.underlying160
  a53 := Tryz.isAgg160
  z53 := Tryz.sizeOf160
  v53 := Tryz.zeroValue160
  t55 := Tryz.underlying135
  a55 := Tryz.isAgg135
  z55 := Tryz.sizeOf135
  v55 := Tryz.zeroValue135
  t66 := Tryz.underlying177
  a66 := Tryz.isAgg177
  z66 := Tryz.sizeOf177
  v66 := Tryz.zeroValue177
  t70 := Tryz.underlying181
  a70 := Tryz.isAgg181
  z70 := Tryz.sizeOf181
  v70 := Tryz.zeroValue181
  t76 := Tryz.underlying200
  a76 := Tryz.isAgg200
  z76 := Tryz.sizeOf200
  v76 := Tryz.zeroValue200
  t77 := Tryz.underlying79
  a77 := Tryz.isAgg79
  z77 := Tryz.sizeOf79
  v77 := Tryz.zeroValue79 }
open Go.RowKit in
/-- strconv.Atoi, AT EVERY STRING THAT SPELLS AN int ('Lib.atoiAll .. = .ok v'; of whatever length: leading zeros count): v, AND NO ERROR. The world: as it was, or with the one new row that '[]byte(..)' lays. (LAID: no walk: one application.) -/
theorem Tryz.strconv_Atoi_ok (s : ByteArray) (hmax : s.size ≤ 9223372036854775806) (v : Int) (h : Lib.atoiAll s.data.toList = .ok v) (w : World) :
    Calls Tryz.prog 115 #[.string s] w fun e w' => e = .returned (.tuple #[.int .i64 v, .nilIface]) ∧ (w' = w ∨ ∃ t, w' = Lib.bytesWorld w 5 t) := Any.strconv_Atoi_ok Tryz.laysC172 s hmax v h w
open Go.RowKit in
/-- strconv.Atoi, AT EVERY NUMERAL THAT NO int HOLDS ('.range'): THE GREATEST OR THE LEAST int, BY THE SIGN ('Lib.atoiSat'), AND AN ERROR THAT IS NOT nil: a *NumError in a new block N: {Func: "Atoi", Num: s's bytes, Err: what the variable ErrRange holds}. Of what was there nothing has turned. (LAID: no walk: one application.) -/
theorem Tryz.strconv_Atoi_range (s : ByteArray) (hlim : s.size ≤ 281474976710656) (h : Lib.atoiAll s.data.toList = .range) (ev : Value) (w : World) (hv : w.cell? ⟨3, 0, none⟩ = some ev) (hev : ev = .nilIface ∨ ∃ te pe, ev = .iface te pe) :
    Calls Tryz.prog 115 #[.string s] w fun e w' => ∃ N, e = .returned (.tuple #[.int .i64 (Lib.atoiSat s.data.toList), .iface 193 (.pointer (some ⟨N, 0, none⟩))]) ∧ w.heap.size ≤ N ∧ w'.heap[N]? = some (.cells #[.string ⟨#[65, 116, 111, 105]⟩, .string s, ev] 212 (0, 0)) ∧ Below w.heap.size w w' := Any.strconv_Atoi_range Tryz.laysC172 s hlim h ev w hv hev
open Go.RowKit Go.Lib in
/-- internal/stringslite.Index (what strings.Index calls) AT A substr OF ONE BYTE c: IT RETURNS 'Lib.indexByte s c'; the world is as it was. (LAID: no walk: one application.) -/
theorem Tryz.stringslite_Index_one (s : ByteArray) (c : UInt8) (w : World) :
    Calls Tryz.prog 116 #[.string s, .string ⟨#[c]⟩] w fun e w' => e = .returned (.int .i64 (Lib.indexByte s.data.toList c)) ∧ w' = w := Any.stringslite_Index_one Tryz.lays219 s c w
open Go.RowKit Go.Lib in
/-- strings.Index: "Index returns the index of the first instance of substr in s, or -1 if substr is not present in s.": AT A substr OF ONE BYTE c: IT RETURNS 'Lib.indexByte s c'; the world is as it was. (LAID: no walk: one application.) -/
theorem Tryz.strings_Index_one (s : ByteArray) (c : UInt8) (w : World) :
    Calls Tryz.prog 150 #[.string s, .string ⟨#[c]⟩] w fun e w' => e = .returned (.int .i64 (Lib.indexByte s.data.toList c)) ∧ w' = w := Any.strings_Index_one Tryz.lays143 s c w
open Go.RowKit Go.Lib in
/-- strings.Count AT A substr OF ONE BYTE ('hp'): "Count counts the number of non-overlapping instances of substr in s.": IT RETURNS 'Lib.countByte s (that byte)'; the world is as it was. ✋ NO CONTRACT HERE YET at an empty substr (utf8.RuneCountInString) or at a longer one (a loop over strings.Index). (LAID: no walk: one application.) -/
theorem Tryz.strings_Count_one (s : ByteArray) (c : UInt8) (w : World) :
    Calls Tryz.prog 149 #[.string s, .string ⟨#[c]⟩] w fun e w' => e = .returned (.int .i64 (Lib.countByte s.data.toList c)) ∧ w' = w := Any.strings_Count_one Tryz.lays138 s c w
open Go.RowKit Go.Lib Go.Sort in
/-- **slices.SortFunc, IN THE DOCUMENTATION's OWN TERMS: A PERMUTATION OF WHAT THE ROW HELD, SORTED BY 'cmp(a, b) < 0'.** Which of two equals comes first is left open ("The sort is not guaranteed to be stable"). (LAID AT THE INSTANCE 'slices.SortFunc[[]int,int]': no walk: one application.) -/
theorem Tryz.slices_SortFunc {α : Type} [Inhabited α] (enc : α → Value) (h1 : OneCell enc) (cf : α → α → Int) (hO : SWO (ltOf cf)) (g : Nat) (cb : Array Value) (blk off cap : Nat) (d : Array α) (w : World) (eg : ∀ args w, (callFunc g args).run Tryz.prog w = .ok (.enter g args) w) (hcmp : CmpLays1 Tryz.prog g cb enc cf blk off d.size w) (hH : Holds enc w blk off d) (hblk : blk < w.heap.size) (hsz : d.size < 4611686018427387904) :
    Calls Tryz.prog 59 #[.slice (some ⟨blk, off, none⟩) d.size cap, .func (.func g) #[] cb] w fun e w' =>
      e = .returned (.tuple #[]) ∧ ∃ d' n os, PermIn 0 d.size d d' ∧ SortedIn (ltOf cf) 0 d.size d' ∧ w' = sortWorld enc w blk off n d' os := Any.slices_SortFunc Tryz.laysSlF6_f59 enc h1 cf hO g cb blk off cap d w eg hcmp hH hblk hsz
open Go.RowKit Go.Lib Go.Sort in
/-- **slices.SortFunc AT NO ELEMENT, A nil SLICE TOO: nothing turns.** (LAID AT THE INSTANCE 'slices.SortFunc[[]int,int]': no walk: one application.) -/
theorem Tryz.slices_SortFunc_none {α : Type} [Inhabited α] (p : Option Addr) (cap : Nat) (fv : Value) (w : World) :
    Calls Tryz.prog 59 #[.slice p 0 cap, fv] w fun e w' => e = .returned (.tuple #[]) ∧ w' = w := AnyF.slices_SortFunc_none Tryz.laysSlF06_f59 p cap fv w
end Go.Proofs
end

section
/- What is proved here: slices.SortFunc by absolute value, as cnf.Force calls it. -/
namespace Go.Proofs.YtjfmoildblcjiaaGreatDoor.HS
open Go.RowKit Go.Proofs.YtjfmoildblcjiaaGreatDoorW.PrintWords Go.Proofs.YtjfmoildblcjiaaGreatDoorW.PrintLast Go.Proofs.YtjfmoildblcjiaaGreatDoorW.PrintMore Go.Proofs.YtjfmoildblcjiaaGreatDoor.H1 Go.Proofs.YtjfmoildblcjiaaGreatDoor.H4
open Go.Lib Go.Sort

abbrev Small := {x : Int // -262144 ≤ x ∧ x ≤ 262144}
instance : Inhabited Small := ⟨⟨0, by decide⟩⟩
def encS (x : Small) : Value := .int .i64 x.1
def cfS (x y : Small) : Int := absL x.1 - absL y.1
theorem oneS : OneCell encS := fun _ => rfl
theorem ltS (x y : Small) : ltOf cfS x y = decide (absL x.1 < absL y.1) := by
  unfold ltOf cfS
  exact decide_eq_decide.2 (by omega)
theorem swoS : SWO (ltOf cfS) where
  irrefl x := by rw [ltS]; simp
  trans x y z h1 h2 := by rw [ltS] at *; simp only [decide_eq_true_eq] at *; omega
  ntrans x y z h1 h2 := by rw [ltS] at *; simp only [decide_eq_false_iff_not] at *; omega

theorem mx_max (a b : Int) : mx a b = max a b := by unfold mx; split <;> omega
theorem closureS (x y : Int) (hx : -262144 ≤ x ∧ x ≤ 262144) (hy : -262144 ≤ y ∧ y ≤ 262144) (W : World) : Calls Tryz.prog 60 #[.int .i64 x, .int .i64 y] W fun e w' => e = .returned (.int .i64 (absL x - absL y)) ∧ ∃ q, w' = W.drewN q := by
  have H1 : Aside0 (wrap64 (-x) = -x) := ⟨by unfold wrap64; omega⟩
  have H2 : Aside0 (wrap64 (-y) = -y) := ⟨by unfold wrap64; omega⟩
  have H3 : Aside0 (wrap64 (absL x - absL y) = absL x - absL y) := by
    have h1 : 0 ≤ absL x ∧ absL x ≤ 262144 := by (unfold absL mx; split <;> omega)
    have h2 : 0 ≤ absL y ∧ absL y ≤ 262144 := by (unfold absL mx; split <;> omega)
    exact ⟨by unfold wrap64; omega⟩
  clear hx hy
  go_enter Tryz.func60, Tryz.ntmps60
  go_wp2
  go_ret
  exact ⟨by
    show Ending.returned (.int .i64 (wrap64 (max x (wrap64 (-x)) - max y (wrap64 (-y))))) = _
    rw [H1.out, H2.out, ← mx_max, ← mx_max]
    exact congrArg (fun n => Ending.returned (.int .i64 n)) H3.out, 0, rfl⟩

theorem small_of (l : List Int) (h : ∀ x ∈ l, -262144 ≤ x ∧ x ≤ 262144) : ∃ zs : List Small, l = zs.map Subtype.val :=
  ⟨l.pmap Subtype.mk h, by rw [List.map_pmap]; simp⟩

theorem sort_any (l : List Int) (v : Value) (base : Nat) (w : World) (hown : Kd.R (Kd.int .i64) 3 w base (fun _ => True) v l) (hg : LGood 262144 l) :
    Calls Tryz.prog 59 #[v, .func (.func 60) #[] #[]] w fun e w' => e = .returned (.tuple #[]) ∧ Kd.R (Kd.int .i64) 3 w' base (fun _ => True) v (sortA l) ∧ w.grownBy w' v.ownBlock := by
  have ho := Kd.own_of_R hown
  obtain ⟨A, c, rfl⟩ := Kd.R_slice hown
  by_cases h0 : l = []
  · subst h0
    refine (Go.Proofs.Tryz.slices_SortFunc_none (α := Small) A c _ w).mono ?_
    rintro e w' ⟨rfl, rfl⟩
    exact ⟨rfl, by rw [show sortA ([] : List Int) = [] from List.mergeSort_nil]; exact hown, ⟨rfl, rfl, rfl, Nat.le_refl _, fun _ _ _ => rfl⟩⟩
  · obtain ⟨zs, hz⟩ := small_of l (fun x hx => by have := (hg.rng x hx); omega)
    have hlen : l.length = zs.length := by rw [hz, List.length_map]
    have henc : encs (Value.int .i64) l = zs.map encS := by rw [hz, encs, List.map_map]; rfl
    rw [henc] at ho
    have hl0 : l.length ≠ 0 := fun h => h0 (List.length_eq_zero_iff.1 h)
    obtain ⟨g, cap, he, hb, hlt, hn, hm, hzl, hH⟩ := holds_of_ownsRow ho (fun e => by injection e with _ e2 _; exact hl0 e2)
    injection he with hA _ hc
    subst hA; subst hc
    have eg : ∀ args w, (callFunc 60 args).run Tryz.prog w = .ok (.enter 60 args) w := enters_of Tryz.func60 (by kernel_rfl) rfl
    have hcmp : Go.Proofs.CmpReads Tryz.prog 60 #[] encS cfS g 0 zs.toArray.size w := fun m os dk _ x y => closureS x.1 y.1 x.2 y.2 _
    have hs : l.length = zs.toArray.size := by rw [hlen, List.size_toArray]
    have hm2 : l.length < 4611686018427387904 := by
      have := good_len hg (by omega)
      omega
    have hcon := Go.Proofs.Tryz.slices_SortFunc encS oneS cfS swoS 60 #[] g 0 c zs.toArray w eg hcmp.lays hH hlt (by rw [← hs]; exact hm2)
    rw [← hs] at hcon
    refine hcon.mono ?_
    rintro e w' ⟨rfl, d', n, os, hp, hsd, rfl⟩
    have hdl : d'.toList.length = zs.length := by have := hp.1; simpa using this
    have hperm : d'.toList.Perm zs := by
      have h2 := hp.2.2
      rw [hs] at h2
      have e1 : d'.extract 0 zs.toArray.size = d' := by rw [← hp.1]; simp
      have e2 : zs.toArray.extract 0 zs.toArray.size = zs.toArray := by simp
      rw [e1, e2] at h2
      exact h2
    have hsort : d'.toList.map Subtype.val = sortA l := by
      refine sortA_unique hg (by rw [hz]; exact hperm.map _) ?_
      rw [List.pairwise_map, List.pairwise_iff_getElem]
      intro i j hi hj hij
      have h3 := hsd i j (Nat.zero_le _) hij (by rw [hlen, ← hdl]; exact hj)
      rw [ltS, decide_eq_false_iff_not] at h3
      rw [getElem!_pos d' i (by simpa using hi), getElem!_pos d' j (by simpa using hj)] at h3
      simp only [leA, decide_eq_true_eq, Array.getElem_toList]
      omega
    have hgrow : w.grownBy (Go.Proofs.sortWorld encS w g 0 n d' os) (some g) := ⟨rfl, rfl, rfl, by
      unfold Go.Proofs.sortWorld; rw [Go.Sort.size_grow, Go.Proofs.size_putRow]; show w.heap.size ≤ w.heap.size + _; omega, fun k hk hne => by
      unfold Go.Proofs.sortWorld
      rw [Go.Sort.heap_grow_old _ _ (by rw [Go.Proofs.size_putRow]; exact hk)]
      simp [putRow, mapBlock, Sort.ahead, Array.getElem?_modify, show g ≠ k from fun e => hne (by rw [e])]⟩
    refine ⟨rfl, ?_, hgrow⟩
    have hown2 := ownsRow_putRow (q := n) ho (ys := d'.toList) (by rw [hdl, hlen]) (Nat.le_refl _)
    rw [List.take_of_length_le (by rw [hdl, hlen]; exact Nat.le_refl _)] at hown2
    have hlen2 : (sortA l).length = l.length := by rw [← hsort, List.length_map, hdl, hlen]
    refine Kd.R_of_own ?_ (fun _ _ => trivial)
    rw [hlen2, ← hsort, encs, List.map_map]
    unfold Go.Proofs.sortWorld
    refine own_move hown2 (fun k hk => ?_)
    have hk' : g = k := by simpa [Value.ownBlock] using hk
    subst hk'
    rw [Go.Sort.heap_grow_old _ _ (by rw [Go.Proofs.size_putRow]; exact hlt)]
end Go.Proofs.YtjfmoildblcjiaaGreatDoor.HS
end

section
/- What is proved here: the contract of cnf.Force. -/
namespace Go.Proofs.YtjfmoildblcjiaaGreatDoor.H5
open Go.RowKit Go.Proofs.YtjfmoildblcjiaaGreatDoorW.PrintWords Go.Proofs.YtjfmoildblcjiaaGreatDoorW.PrintLast Go.Proofs.YtjfmoildblcjiaaGreatDoorW.PrintMore Go.Proofs.YtjfmoildblcjiaaGreatDoor.H1 Go.Proofs.YtjfmoildblcjiaaGreatDoor.H2 Go.Proofs.YtjfmoildblcjiaaGreatDoor.HM Go.Proofs.YtjfmoildblcjiaaGreatDoor.H3 Go.Proofs.YtjfmoildblcjiaaGreatDoor.H4 Go.Proofs.YtjfmoildblcjiaaGreatDoor.HS

theorem info_int : (Tryz.prog.info? 3).map (fun i => (i.zero, i.size, i.bytes)) = some (some (.int .i64 0), 1, 8) := by kernel_rfl
theorem own_ne_map {w : World} {base b : Nat} {ok : Nat → Prop} {u : Value} {xs S : List Int} (h : Kd.R (Kd.int .i64) 3 w base ok u xs) (hs : IsSet w b S) : some b ≠ u.ownBlock := by
  intro e
  obtain ⟨inner, ho⟩ := Kd.R_own h
  obtain ⟨cells, hc⟩ := own_typed ho b e.symm
  obtain ⟨es, clock, hb, _⟩ := hs
  rw [hb] at hc
  cases hc
theorem own_ne_iter {w : World} {base r b : Nat} {ok : Nat → Prop} {u : Value} {xs S done : List Int} (h : Kd.R (Kd.int .i64) 3 w base ok u xs) (hs : IsIter w r b S done) : some r ≠ u.ownBlock := by
  intro e
  obtain ⟨inner, ho⟩ := Kd.R_own h
  obtain ⟨cells, hc⟩ := own_typed ho r e.symm
  obtain ⟨_, es, clock, seen, _, _, hb, _⟩ := hs
  rw [hb] at hc
  cases hc
theorem R_int_other {e : Nat} {w w1 : World} {base : Nat} {ok : Nat → Prop} {u : Value} {xs : List Int} (h : Kd.R (Kd.int .i64) e w base ok u xs) {row : Option Nat} (hg : w.grownBy w1 row) (hne : row ≠ u.ownBlock) : Kd.R (Kd.int .i64) e w1 base ok u xs :=
  ⟨h.1, OwnRow.imp_ (OwnRow.other h.2 hg (.inr (Ne.symm hne))) (fun _ _ hp => hp)⟩
/-- What Force answers. -/
def Answer (v : Int) (cs : List (List Int)) (l : List Int) (w w' : World) (e : Ending) : Prop :=
  Below w.heap.size w w' ∧
  if (checkE v cs).2 ≠ 0 then e = .returned (.tuple #[.slice none 0 0, .bool false, .int .i64 (checkE v cs).2])
  else if litsE l v ≠ 0 then e = .returned (.tuple #[.slice none 0 0, .bool false, .int .i64 (litsE l v)])
  else match (initL [] l).bind (forceV cs) with
    | none => e = .returned (.tuple #[.slice none 0 0, .bool false, .int .i64 0])
    | some S => LGood v S ∧ ∃ u, e = .returned (.tuple #[u, .bool true, .int .i64 0]) ∧ Kd.R (Kd.int .i64) 3 w' w.heap.size (fun _ => True) u (sortA S)

set_option maxHeartbeats 8000000 in
set_option maxRecDepth 100000 in
theorem force_any (v : Int) (A : Option Addr) (c : Nat) (cs : List (List Int)) (A1 : Option Addr) (c1 : Nat) (l : List Int) (w : World) (hr : Kd.C (Kd.slice 3 (Kd.int .i64)) w A cs.length cs) (hc : cs.length ≤ c)
    (hr1 : Kd.C (Kd.int .i64) w A1 l.length l) (hc1 : l.length ≤ c1) :
    Calls Tryz.prog 19 #[.agg #[.int .i64 v, .slice A cs.length c], .slice A1 l.length c1] w fun e w' => Answer v cs l w w' e := by
  have HR := Aside0.mk hr
  have HC := Aside0.mk hc
  have HR1 := Aside0.mk hr1
  have HC1 := Aside0.mk hc1
  have HM := Aside0.mk (Kd.C_max hr)
  have HM1 := Aside0.mk (Kd.C_max hr1)
  clear hr hc hr1 hc1
  by_cases h0 : (checkE v cs).2 = 0
  · have d0 : ((checkE v cs).2 != 0) = false := bne_eq_false_iff_eq.2 h0
    obtain ⟨hv0, hv1, hlen, hall⟩ := checkE_ok h0
    have HALL := Aside0.mk hall
    have HZ := Aside0.mk h0
    clear hall h0
    generalize hce : checkE v cs = ce at *
    have HCE := Aside0.mk hce
    clear hce
    by_cases h1 : litsE l v = 0
    · have d1 : (litsE l v != 0) = false := bne_eq_false_iff_eq.2 h1
      have hok := litsE_ok h1
      have HOK := Aside0.mk hok.1
      have HZ1 := Aside0.mk h1
      clear h1 hok
      generalize hle : litsE l v = le at *
      have HLE := Aside0.mk hle
      clear hle
      have hmm := @run_makeMap Tryz.prog
      go_enter Tryz.func19, Tryz.ntmps19
      go_wp2_with (first | ((with_reducible refine (check_any v _ _ cs _ (Kd.C_below HR.out (below_alloc (Below.refl _ _) _)) HC.out).mono ?_); rintro e w1 ⟨rfl, hb1⟩; rw [HCE.out]; have k0 := (hb1.cell (p := ⟨w.heap.size, 0, none⟩) (by simp)).trans (show _ = some (Value.int .i64 v) by simp); have HB1 := Aside0.mk hb1; clear hb1) | ((with_reducible refine (literals_any _ _ l v _ (Kd.C_below (Kd.C_below HR1.out (below_alloc (Below.refl _ _) _)) HB1.out) HC1.out hv0 hv1).mono ?_); rintro e w2 ⟨rfl, hb2⟩; rw [HLE.out]; have HB2 := Aside0.mk hb2; clear hb2))
      clear k0 hmm
      have HW : Aside0 (Below w.heap.size w w2) := ⟨(below_alloc (Below.refl _ _) _).trans ((HB1.out.mono (by simp)).trans (HB2.out.mono (by have := HB1.out.size; simp at this; omega)))⟩
      have HLT : Aside0 (w.heap.size < w2.heap.size) := ⟨by have h1 := HB1.out.size; have h2 := HB2.out.size; simp at h1; omega⟩
      have HK1 : Aside0 (w2.cell? ⟨w.heap.size, 1, none⟩ = some (.slice A cs.length c)) := ⟨(HB2.out.cell (p := ⟨w.heap.size, 1, none⟩) (by have h1 := HB1.out.size; simp at h1; show w.heap.size < w1.heap.size; omega)).trans ((HB1.out.cell (p := ⟨w.heap.size, 1, none⟩) (by simp)).trans (by simp))⟩
      have HS0 : Aside0 (IsSet (w2.alloc (.map #[] 0)) w2.heap.size []) := ⟨made w2⟩
      clear HB1 HB2
      go_loopg [38] (l.length) (fun kq v38 w' => ∃ (i : Nat) (S : List Int), Aside0 (i + kq = l.length) ∧ v38 = .int .i64 (i : Int) ∧ Aside0 (initL [] l = initL S (l.drop i)) ∧ Aside0 (LGood v S) ∧ Aside0 (IsSet w' w2.heap.size S) ∧ Aside0 (Below w2.heap.size w2 w'))
      case atStart => exact ⟨0, [], ⟨by omega⟩, rfl, ⟨rfl⟩, ⟨good_nil v⟩, HS0, ⟨below_alloc (Below.refl _ _) _⟩⟩
      case round =>
        clear HS0
        obtain ⟨i, S, HI, rfl, HA, HG, HS, HB⟩ := hrel
        by_cases hlt : i < l.length
        · obtain ⟨k1, rfl⟩ : ∃ k1, gk = k1 + 1 := ⟨gk - 1, by have := HI.out; omega⟩
          have c0 : decide ((i : Int) < (l.length : Int)) = true := decide_eq_true (by omega)
          obtain ⟨ad, e1, hx⟩ := Kd.at_int (Kd.C_below (Kd.C_below HR1.out HW.out) (HB.out.mono (Nat.le_refl _))) (i : Int) (by omega) (by omega)
          cases e1
          have hx : wr.cell? (ad.add i) = some (.int .i64 (rd l i)) := hx
          have HD : Aside0 (l.drop i = rd l i :: l.drop (i + 1)) := ⟨drop_rd hlt⟩
          have hb := HOK.out _ (rd_mem hlt)
          generalize rd l (i : Int) = x at *
          obtain ⟨hx0, hx1, hx2⟩ := hb
          by_cases m1 : -x ∈ S
          · have hl1 := lookup_in HS.out uMap uInt m1
            have HE : Aside0 (initL [] l = none) := ⟨by rw [HA.out, HD.out, initL, if_pos m1]⟩
            clear m1
            go_wp2
            go_ret3
            refine ⟨HW.out.trans (HB.out.mono (Nat.le_of_lt HLT.out)), ?_⟩
            rw [if_neg (by rw [HCE.out, HZ.out]; simp), if_neg (by rw [HLE.out, HZ1.out]; simp), HE.out]
            rfl
          · have hl1 := lookup_out HS.out uMap uInt (zInt wr) m1
            have HE : Aside0 (initL [] l = initL (put S x) (l.drop (i + 1))) := ⟨by rw [HA.out, HD.out, initL, if_neg m1]⟩
            have HG1 : Aside0 (LGood v (put S x)) := ⟨good_put HG.out hx0 hx1 hx2 m1⟩
            clear m1
            go_wp2_with (refine wpl_update (by rfl) _ _ _ (by rfl) uMap uInt x (by rfl) (by rfl) HS.out ?_; intro w3 hs3 hg3 hz3; have HS3 := Aside0.mk hs3; have HG3 := Aside0.mk hg3; have HZ3 := Aside0.mk hz3; clear hs3 hg3 hz3)
            go_roundg k1
            case measure => omega
            case rel => exact ⟨i + 1, put S x, ⟨by have := HI.out; omega⟩, congrArg (Value.int .i64) (wrapn hlt HM1.out), HE, HG1, HS3, ⟨HB.out.grown HG3.out (Nat.le_of_lt HS.out.lt) (fun k hk => by injection hk with hk; omega)⟩⟩
        · have c0 : decide ((i : Int) < (l.length : Int)) = false := decide_eq_false (by omega)
          have HE : Aside0 (initL [] l = some S) := ⟨by rw [HA.out, List.drop_of_length_le (by omega)]; rfl⟩
          clear HA
          have HG0 := HG
          have HS0 := HS
          have HB0 := HB
          clear HG HS HB HI
          go_wp2
          have HF0 : Aside0 (∀ R, Forces cs S R → Forces cs S R) := ⟨fun _ h => h⟩
          go_loopg [13] ((2 * v + 1).toNat + 1) (fun kq v13 w' => ∃ (T : List Int) (ag : Bool), v13 = .bool ag ∧ Aside0 (ag = true → (2 * v + 1).toNat + 1 ≤ T.length + kq) ∧ Aside0 (if ag = true then ∀ R, Forces cs T R → Forces cs S R else Forces cs S (some T)) ∧ Aside0 (LGood v T) ∧ Aside0 (IsSet w' w2.heap.size T) ∧ Aside0 (Below w2.heap.size w2 w'))
          case atStart => exact ⟨S, true, rfl, ⟨fun _ => by omega⟩, ⟨HF0.out⟩, HG0, HS0, HB0⟩
          case round =>
            clear HG0 HS0 HB0 HF0
            obtain ⟨T, ag, rfl, HK, HF, HG, HS, HB⟩ := hrel
            obtain ⟨wo, rfl⟩ : ∃ wo : World, wo = wr := ⟨_, rfl⟩
            cases ag with
            | true =>
              have hkq := HK.out rfl
              have hTl := good_len HG.out hv0
              obtain ⟨k1, rfl⟩ : ∃ k1, gk = k1 + 1 := ⟨gk - 1, by omega⟩
              have HKQ := Aside0.mk hkq
              have HTL := Aside0.mk hTl
              have HFT : Aside0 (∀ R, Forces cs T R → Forces cs S R) := ⟨by have := HF.out; rwa [if_pos rfl] at this⟩
              clear hkq hTl HK HF
              have hk1 : wo.cell? ⟨w.heap.size, 1, none⟩ = some (.slice A cs.length c) := (HB.out.cell (p := ⟨w.heap.size, 1, none⟩) HLT.out).trans HK1.out
              go_wp2
              clear hk1
              go_loopg [13, 54] (cs.length) (fun kq v13 v54 w' => ∃ (j : Nat) (U : List Int) (ag : Bool), Aside0 (j + kq = cs.length) ∧ v54 = .int .i64 (j : Int) ∧ v13 = .bool ag ∧ Aside0 (passL T false cs = passL U ag (cs.drop j)) ∧ Aside0 (T.length ≤ U.length ∧ (ag = true → T.length + 1 ≤ U.length)) ∧ Aside0 (LGood v U) ∧ Aside0 (IsSet w' w2.heap.size U) ∧ Aside0 (Below w2.heap.size w2 w'))
              case atStart => exact ⟨0, T, false, ⟨by omega⟩, rfl, rfl, ⟨rfl⟩, ⟨Nat.le_refl _, fun h => by cases h⟩, HG, HS, HB⟩
              case round =>
                clear HG HS HB
                obtain ⟨j, U, ag, HJ, rfl, rfl, HP, HL, HG, HS, HB⟩ := hrel
                by_cases hjt : j < cs.length
                · obtain ⟨k2, rfl⟩ : ∃ k2, gk = k2 + 1 := ⟨gk - 1, by have := HJ.out; omega⟩
                  have c1 : decide ((j : Int) < (cs.length : Int)) = true := decide_eq_true (by omega)
                  obtain ⟨ad, A0, cc, e1, hx, hl, hC⟩ := at_L (Kd.C_below (Kd.C_below HR.out HW.out) (HB.out.mono (Nat.le_refl _))) (j : Int) (by omega) (by omega)
                  cases e1
                  have hx : wr.cell? (ad.add j) = some (.slice A0 (rdL cs j).length cc) := hx
                  have HD : Aside0 (cs.drop j = rdL cs j :: cs.drop (j + 1)) := ⟨getD_drop hjt⟩
                  have hmem : rdL cs (j : Int) ∈ cs := by rw [rdL, List.getD_eq_getElem?_getD, Int.toNat_natCast, List.getElem?_eq_getElem hjt]; exact List.getElem_mem hjt
                  have HCR := Aside0.mk (litsE_ok (HALL.out _ hmem)).1
                  clear hmem
                  generalize rdL cs (j : Int) = cl at *
                  have HCC := Aside0.mk hC
                  have HCL := Aside0.mk hl
                  clear hC hl
                  have HUN := Aside0.mk (unit_any A0 cc cl w2.heap.size U wr HCC.out HCL.out HS.out (fun x hx => ⟨by have := HCR.out x hx; omega, by have := HCR.out x hx; omega⟩))
                  cases hu : unitL U 0 cl with
                  | mk x op =>
                    cases op with
                    | false =>
                      have HU := Aside0.mk hu
                      clear hu
                      have HE1 : Aside0 (passL T false cs = passL U ag (cs.drop (j + 1))) := ⟨by rw [HP.out, HD.out, passL, HU.out, if_pos rfl]⟩
                      go_wp2_with ((with_reducible refine (HUN.out).mono ?_); rintro e w3 ⟨rfl, rfl⟩; rw [HU.out])
                      go_roundg k2
                      case measure => omega
                      case rel => exact ⟨j + 1, U, ag, ⟨by have := HJ.out; omega⟩, congrArg (Value.int .i64) (by omega), rfl, HE1, HL, HG, HS, HB⟩
                    | true =>
                      have HU := Aside0.mk hu
                      clear hu
                      by_cases hx0 : x = 0
                      · have d2 : (x == 0) = true := beq_iff_eq.2 hx0
                        have HE1 : Aside0 (passL T false cs = none) := ⟨by rw [HP.out, HD.out, passL, HU.out, if_neg (by simp), if_pos hx0]⟩
                        clear hx0
                        go_wp2_with ((with_reducible refine (HUN.out).mono ?_); rintro e w3 ⟨rfl, rfl⟩; rw [HU.out])
                        go_ret3
                        refine ⟨HW.out.trans (HB.out.mono (Nat.le_of_lt HLT.out)), ?_⟩
                        rw [if_neg (by rw [HCE.out, HZ.out]; simp), if_neg (by rw [HLE.out, HZ1.out]; simp), HE.out]
                        show match forceV cs S with | none => _ | some S => _
                        rw [forceV_eq (HFT.out _ (.stop HE1.out))]
                        rfl
                      · have d2 : (x == 0) = false := beq_eq_false_iff_ne.2 hx0
                        have HUG := Aside0.mk (unit_good HU.out hx0)
                        have HE1 : Aside0 (passL T false cs = passL (put U x) true (cs.drop (j + 1))) := ⟨by rw [HP.out, HD.out, passL, HU.out, if_neg (by simp), if_neg hx0]⟩
                        have HG1 : Aside0 (LGood v (put U x)) := ⟨good_put HG.out hx0 (HCR.out x HUG.out.1).2.1 (HCR.out x HUG.out.1).2.2 HUG.out.2.2⟩
                        clear hx0
                        go_wp2_with (first | ((with_reducible refine (HUN.out).mono ?_); rintro e w3 ⟨rfl, rfl⟩; rw [HU.out]) | (refine wpl_update (by rfl) _ _ _ (by rfl) uMap uInt x (by rfl) (by rfl) HS.out ?_; intro w4 hs3 hg3 hz3; have HS3 := Aside0.mk hs3; have HG3 := Aside0.mk hg3; have HZ3 := Aside0.mk hz3; clear hs3 hg3 hz3))
                        go_roundg k2
                        case measure => omega
                        case rel => exact ⟨j + 1, put U x, true, ⟨by have := HJ.out; omega⟩, congrArg (Value.int .i64) (by omega), rfl, HE1, ⟨by rw [put_len HUG.out.2.1]; have := HL.out.1; omega, fun _ => by rw [put_len HUG.out.2.1]; have := HL.out.1; omega⟩, HG1, HS3, ⟨HB.out.grown HG3.out (Nat.le_of_lt HS.out.lt) (fun k hk => by injection hk with hk; omega)⟩⟩
                · have c1 : decide ((j : Int) < (cs.length : Int)) = false := decide_eq_false (by omega)
                  have HE1 : Aside0 (passL T false cs = some (U, ag)) := ⟨by rw [HP.out, List.drop_of_length_le (by omega)]; rfl⟩
                  clear HP
                  go_wp2
                  go_roundg k1
                  case measure => omega
                  case rel => exact ⟨U, ag, rfl, ⟨fun h => by have h1 := HKQ.out; have h2 := HL.out.2 h; omega⟩, ⟨by
                    cases ag with
                    | true => rw [if_pos rfl]; exact fun R h => HFT.out R (.again HE1.out h)
                    | false => rw [if_neg (by simp)]; exact HFT.out _ (.done HE1.out)⟩, HG, HS, HB⟩
            | false =>
              have HFV : Aside0 (forceV cs S = some T) := ⟨forceV_eq (by have := HF.out; rwa [if_neg (by simp)] at this)⟩
              clear HF HK
              go_wp2_with (refine wpl_range (by rfl) _ _ (by rfl) uMap (by rfl) HS.out ?_; intro w5 hi5 hg5 hz5; have HI5 := Aside0.mk hi5; have HG5 := Aside0.mk hg5; have HZ5 := Aside0.mk hz5; clear hi5 hg5 hz5)
              simp only [Act.put, List.setIfInBounds_toArray, List.set_cons_succ, List.set_cons_zero]
              have HBW : Aside0 (Below w.heap.size w w5) := ⟨(HW.out.trans (HB.out.mono (Nat.le_of_lt HLT.out))).grown HG5.out (by have := HW.out.size; have := HB.out.size; omega) (fun k hk => by cases hk)⟩
              have HTL : Aside0 (T.length ≤ 524289) := ⟨by have := good_len HG.out hv0; omega⟩
              have HNE : Aside0 (w2.heap.size < wo.heap.size) := ⟨HS.out.lt⟩
              go_loopg [18] (T.length) (fun kq v18 w' => ∃ (dn : List Int), Aside0 (dn.length + kq = T.length) ∧ Aside0 (Kd.R (Kd.int .i64) 3 w' w.heap.size (fun _ => True) v18 dn) ∧ Aside0 (IsIter w' wo.heap.size w2.heap.size T dn) ∧ Aside0 (Below w.heap.size w w'))
              case atStart => exact ⟨[], ⟨by simp⟩, ⟨Kd.R_nil _ _ _ _ _⟩, HI5, HBW⟩
              case round =>
                clear HI5 HBW HS HB
                obtain ⟨dn, HDN, HO, HIT, HB⟩ := hrel
                have HN1 : Aside0 (some w2.heap.size ≠ u18.ownBlock) := ⟨own_ne_map HO.out HIT.out.set⟩
                have HN2 : Aside0 (some wo.heap.size ≠ u18.ownBlock) := ⟨own_ne_iter HO.out HIT.out⟩
                go_wp2_with (first | (refine wpl_next (r := wo.heap.size) (b := w2.heap.size) (S := T) (done := dn) (by rfl) _ (by rfl) (by rfl) HIT.out ?_ ?_; (intro hdn; have HDD := Aside0.mk hdn; clear hdn); rotate_left; (intro x w6 hnin hit6 hg6 hz6 hen; have HNI := Aside0.mk hnin; have HIT6 := Aside0.mk hit6; have HG6 := Aside0.mk hg6; have HZ6 := Aside0.mk hz6; clear hnin hit6 hg6 hz6)) | ((with_reducible refine gate_builtin (b := .append) (xs := #[.tmp 77, .tmp 79]) rfl ?_); at_builtin; refine Kd.R_append (Kd.int .i64) (w0 := w) w.heap.size rfl (.tmp 77) (.tmp 79) 34 3 (.int .i64 0) 8 rfl Tryz.underlying34 info_int rfl (by decide) (by omega) u18 dn x [.int .i64 x] (fun _ => True) (fun _ => False) rfl rfl ?aP (fun _ hk => hk.elim) ?aF ?aO ?aB ?aS ?aL ?_; (case aP => exact rfl); (case aF => exact (fun _ _ => trivial)); (case aO => exact R_int_other HO.out HG6.out HN2.out); (case aB => exact HB.out.grown HG6.out HB.out.size (fun k hk => by injection hk with hk; have := HW.out.size; have := HNE.out; omega)); (case aS => rw [HZ6.out]; exact HB.out.size); (case aL => have := HDN.out; have := HTL.out; omega); intro v1 w9 ho hb hg hat; have HO9 := Aside0.mk ho; have HB9 := Aside0.mk hb; have HG9 := Aside0.mk hg; clear ho hb hg hat))
                · have HSUB := Aside0.mk (HIT6.out.sub)
                  obtain ⟨k1, rfl⟩ : ∃ k1, gk = k1 + 1 := ⟨gk - 1, by have h1 := HDN.out; have h2 := (HSUB.out.1).length_le_of_subset (fun x hx => HSUB.out.2 x hx); simp only [List.length_append, List.length_singleton] at h2; omega⟩
                  go_roundg k1
                  case measure => omega
                  case rel => exact ⟨dn ++ [x], ⟨by have h1 := HDN.out; simp only [List.length_append, List.length_singleton]; omega⟩, HO9, ⟨HIT6.out.grown HG9.out HN1.out HN2.out⟩, HB9⟩
                · have HSUB := Aside0.mk (HIT.out.sub)
                  have HPM := Aside0.mk (perm_of_len HSUB.out.1 HSUB.out.2 HG.out.nodup HDD.out)
                  have HSRT := Aside0.mk (sort_any dn u18 w.heap.size wr HO.out (good_mono (good_perm HG.out HPM.out) hv1))
                  go_wp2_with ((with_reducible refine (HSRT.out).mono ?_); rintro e w7 ⟨rfl, ho7, hg7⟩; have HO7 := Aside0.mk ho7; have HG7 := Aside0.mk hg7; clear ho7 hg7)
                  go_ret3
                  refine ⟨HB.out.grown HG7.out HB.out.size (fun k hk => by obtain ⟨inner, ho⟩ := Kd.R_own HO.out; exact own_base ho k hk), ?_⟩
                  rw [if_neg (by rw [HCE.out, HZ.out]; simp), if_neg (by rw [HLE.out, HZ1.out]; simp), HE.out]
                  show match forceV cs S with | none => _ | some S => _
                  rw [HFV.out]
                  exact ⟨HG.out, u18, rfl, by rw [← sortA_perm HG.out HPM.out]; exact HO7.out⟩
    · have d1 : (litsE l v != 0) = true := bne_iff_ne.2 h1
      have HE := Aside0.mk h1
      clear h1
      generalize hle : litsE l v = le at *
      have HLE := Aside0.mk hle
      clear hle
      go_enter Tryz.func19, Tryz.ntmps19
      go_wp2_with (first | ((with_reducible refine (check_any v _ _ cs _ (Kd.C_below HR.out (below_alloc (Below.refl _ _) _)) HC.out).mono ?_); rintro e w1 ⟨rfl, hb1⟩; rw [HCE.out]; have k0 := (hb1.cell (p := ⟨w.heap.size, 0, none⟩) (by simp)).trans (show _ = some (Value.int .i64 v) by simp); have HB1 := Aside0.mk hb1; clear hb1) | ((with_reducible refine (literals_any _ _ l v _ (Kd.C_below (Kd.C_below HR1.out (below_alloc (Below.refl _ _) _)) HB1.out) HC1.out hv0 hv1).mono ?_); rintro e w2 ⟨rfl, hb2⟩; rw [HLE.out]; have HB2 := Aside0.mk hb2; clear hb2))
      go_ret3
      refine ⟨(below_alloc (Below.refl _ _) _).trans ((HB1.out.mono (by simp)).trans (HB2.out.mono (by have := HB1.out.size; simp at this; omega))), ?_⟩
      rw [if_neg (by rw [HCE.out, HZ.out]; simp), if_pos (by rw [HLE.out]; exact HE.out), HLE.out]
      rfl
  · have d0 : ((checkE v cs).2 != 0) = true := bne_iff_ne.2 h0
    have HE := Aside0.mk h0
    clear h0
    generalize hce : checkE v cs = ce at *
    have HCE := Aside0.mk hce
    clear hce
    go_enter Tryz.func19, Tryz.ntmps19
    go_wp2_with ((with_reducible refine (check_any v _ _ cs _ (Kd.C_below HR.out (below_alloc (Below.refl _ _) _)) HC.out).mono ?_); rintro e w1 ⟨rfl, hb1⟩; rw [HCE.out]; have HB1 := Aside0.mk hb1; clear hb1)
    go_ret3
    refine ⟨(below_alloc (Below.refl _ _) _).trans (HB1.out.mono (by simp)), ?_⟩
    rw [if_pos (by rw [HCE.out]; exact HE.out), HCE.out]
    rfl

end Go.Proofs.YtjfmoildblcjiaaGreatDoor.H5
end

section
-- Made for this seat by wip/pr.py: the kit's printer, run with functions that were proved by hand.
namespace Go.Proofs.YtjfmoildblcjiaaGreatDoor.QP
open Go.RowKit Go.Proofs.YtjfmoildblcjiaaGreatDoorW.PrintWords Go.Proofs.YtjfmoildblcjiaaGreatDoorW.PrintLast Go.Proofs.YtjfmoildblcjiaaGreatDoorW.PrintMore
attribute [local go_sem] max2_int min2_int max_two min_two max_three min_three max_four min_four   -- for this text's walks alone
set_option linter.unusedVariables false
set_option linter.unusedSimpArgs false



def errW : Option Int → Value
  | none => .nilIface
  | some c => .iface 0 (.int .i64 c)
theorem errW_none : errW none = .nilIface := rfl
theorem errW_some (c : Int) : errW (some c) = .iface 0 (.int .i64 c) := rfl

-- the values' own types

end Go.Proofs.YtjfmoildblcjiaaGreatDoor.QP
end
