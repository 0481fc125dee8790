/- What is proved here: contracts of slices.IndexFunc and ContainsFunc at ints with any quiet predicate, and of cnf.literals, cnf.Check. -/
import Derived.Test.YtjfmoildblcjiaaProg
import Derived.Test.YtjfmoildblcjiaaWWords
import Derived.Test.YtjfmoildblcjiaaWLast
import Derived.Test.YtjfmoildblcjiaaWApart
import Derived.Test.YtjfmoildblcjiaaWShare
import Derived.Test.YtjfmoildblcjiaaWN
import Derived.Test.YtjfmoildblcjiaaWMore
namespace Go.Proofs.Ytjfmoildblcjiaa.H1
open Go.RowKit Go.Proofs.YtjfmoildblcjiaaW.PrintWords Go.Proofs.YtjfmoildblcjiaaW.PrintLast Go.Proofs.YtjfmoildblcjiaaW.PrintMore

def litBad (v x : Int) : Bool := decide (x = 0) || decide (x < -v) || decide (v < x)

set_option maxHeartbeats 1000000 in
set_option maxRecDepth 100000 in
theorem lit_fn (v x : Int) (ad : Addr) (w : World) (hv0 : 0 ≤ v) (hv1 : v ≤ 262144) (hc : w.cell? ad = some (.int .i64 v)) :
    Calls Try.prog 42 #[.int .i64 x, .pointer (some ad)] w fun e w' => e = .returned (.bool (litBad v x)) ∧ Drawn0 w w' := by
  by_cases h0 : x = 0
  · have e0 : (x == 0) = true := beq_iff_eq.2 h0
    have hp : litBad v x = true := by simp [litBad, h0]
    have HP := Aside0.mk hp
    clear hp h0
    go_enter Try.func42, Try.ntmps42
    go_wp2
    go_ret
    exact ⟨by rw [HP.out]; rfl, Drawn0.refl _⟩
  · have e0 : (x == 0) = false := beq_eq_false_iff_ne.2 h0
    by_cases h1 : x < -v
    · have e1 : decide (x < -v) = true := decide_eq_true h1
      have hp : litBad v x = true := by simp [litBad, h1]
      have HP := Aside0.mk hp
      clear hp h0 h1
      go_enter Try.func42, Try.ntmps42
      go_wp2
      go_ret
      exact ⟨by rw [HP.out]; rfl, Drawn0.refl _⟩
    · have e1 : decide (x < -v) = false := decide_eq_false h1
      have hp : litBad v x = decide (v < x) := by simp [litBad, h0, h1]
      have HP := Aside0.mk hp
      clear hp h0 h1
      go_enter Try.func42, Try.ntmps42
      go_wp2
      go_ret
      exact ⟨by rw [HP.out]; rfl, Drawn0.refl _⟩

/-- A call of g comes to g's own text. -/
def Ent (g : FuncId) : Prop := ∀ (args : Array Value) (w : World), (callFunc g args).run Try.prog w = .ok (.enter g args) w
theorem ent_of {f : FuncId} {fn : Func} {c : Code} (hf : Try.prog.funcs[f]? = some fn) (hname : (fn.name == "runtime.NumGoroutine") = false) (hb : fn.body = some c) : Ent f := by
  intro args w
  have h1 : fn.name ≠ "runtime.NumGoroutine" := by simpa using hname
  simp [callFunc, hf, h1, hb, mark]
/-- The function g with the captured lb tells p of an int, in every world that has this one's blocks. -/
def PredI (g : FuncId) (lb : Array Value) (p : Int → Bool) (w : World) : Prop :=
  Ent g ∧ ∀ x W, Below w.heap.size w W → Calls Try.prog g (#[.int .i64 x] ++ lb) W fun e w' => e = .returned (.bool (p x)) ∧ Drawn0 W w'

def idxI (p : Int → Bool) (l : List Int) : Int := match l.findIdx? p with | some i => i | none => -1


theorem wrapn {i n : Nat} (h : i < n) (hn : n ≤ 9223372036854775807) : wrap64 ((i : Int) + 1) = ((i + 1 : Nat) : Int) := by
  unfold wrap64
  omega
theorem rd_nat (l : List Int) (i : Nat) : rd l (i : Int) = l.getD i 0 := rfl
theorem take_all_snoc {l : List Int} {p : Int → Bool} {i : Nat} (h : ∀ x ∈ l.take i, p x = false) (hi : i < l.length) (hp : p (rd l (i : Int)) = false) : ∀ x ∈ l.take (i + 1), p x = false := by
  intro x hx
  rw [List.take_succ_eq_append_getElem hi] at hx
  rcases List.mem_append.1 hx with h1 | h1
  · exact h x h1
  · rw [List.mem_singleton.1 h1]
    simpa [rd, List.getD_eq_getElem?_getD, List.getElem?_eq_getElem hi] using hp
theorem idxI_here {l : List Int} {p : Int → Bool} {i : Nat} (h : ∀ x ∈ l.take i, p x = false) (hi : i < l.length) (hp : p (rd l (i : Int)) = true) : idxI p l = i := by
  have e : l.findIdx? p = some i := by
    rw [List.findIdx?_eq_some_iff_getElem]
    refine ⟨hi, by simpa [rd, List.getD_eq_getElem?_getD, List.getElem?_eq_getElem hi] using hp, fun j hj => ?_⟩
    have := h (l[j]) (by rw [List.mem_take_iff_getElem]; exact ⟨j, by omega, rfl⟩)
    simp [this]
  simp [idxI, e]
theorem idxI_none {l : List Int} {p : Int → Bool} (h : ∀ x ∈ l.take l.length, p x = false) : idxI p l = -1 := by
  have e : l.findIdx? p = none := by
    rw [List.findIdx?_eq_none_iff]
    intro x hx
    exact h x (by simpa using hx)
  simp [idxI, e]

set_option maxHeartbeats 1000000 in
set_option maxRecDepth 100000 in
theorem index_any (A : Option Addr) (c : Nat) (l : List Int) (g : FuncId) (lb : Array Value) (p : Int → Bool) (w : World) (hr : Kd.C (Kd.int .i64) w A l.length l) (_hc : l.length ≤ c)
    (hp : PredI g lb p w) :
    Calls Try.prog 58 #[.slice A l.length c, .func (.func g) #[] lb] w fun e w' => e = .returned (.int .i64 (idxI p l)) ∧ Drawn0 w w' := by
  have HR := Aside0.mk hr
  have HP := Aside0.mk hp.2
  have he := hp.1
  have HM := Aside0.mk (Kd.C_max hr)
  unfold Ent at he
  clear hr hp
  go_enter Try.func58, Try.ntmps58
  go_wp2
  go_loopg [8] (l.length) (fun kq v8 w' => ∃ i : Nat, Aside0 (i + kq = l.length) ∧ v8 = .int .i64 (i : Int) ∧ Aside0 (∀ x ∈ l.take i, p x = false) ∧ Drawn0 w w')
  case atStart => exact ⟨0, ⟨by omega⟩, rfl, ⟨by simp⟩, Drawn0.refl _⟩
  case round =>
    obtain ⟨i, HI, rfl, HA, ⟨m1, rfl⟩⟩ := hrel
    by_cases hlt : i < l.length
    · obtain ⟨k1, rfl⟩ : ∃ k1, gk = k1 + 1 := ⟨gk - 1, by have := HI.out; omega⟩
      have c0 : decide ((i : Int) < (l.length : Int)) = true := decide_eq_true (by omega)
      obtain ⟨ad, e1, hx⟩ := Kd.at_int HR.out (i : Int) (by omega) (by omega)
      cases e1
      have HX := Aside0.mk hx
      clear hx
      have hx : w.cell? (ad.add i) = some (.int .i64 (rd l i)) := HX.out
      cases hb : p (rd l (i : Int)) with
      | true =>
        have HB := Aside0.mk hb
        clear hb
        go_wp2_with ((with_reducible refine (HP.out _ _ (pw_below_drewN (Below.refl _ _) _)).mono ?_); rintro e w' ⟨rfl, ⟨m2, rfl⟩⟩; rw [HB.out])
        go_ret
        exact ⟨by rw [idxI_here HA.out hlt HB.out]; rfl, ⟨_, rfl⟩⟩
      | false =>
        have HB := Aside0.mk hb
        clear hb
        go_wp2_with ((with_reducible refine (HP.out _ _ (pw_below_drewN (Below.refl _ _) _)).mono ?_); rintro e w' ⟨rfl, ⟨m2, rfl⟩⟩; rw [HB.out])
        go_roundg k1
        case measure => omega
        case rel => exact ⟨i + 1, ⟨by have := HI.out; omega⟩, congrArg (Value.int .i64) (wrapn hlt HM.out), ⟨take_all_snoc HA.out hlt HB.out⟩, ⟨_, rfl⟩⟩
    · have c0 : decide ((i : Int) < (l.length : Int)) = false := decide_eq_false (by omega)
      obtain rfl : i = l.length := by have := HI.out; omega
      go_wp2
      go_ret
      exact ⟨by rw [idxI_none HA.out]; rfl, ⟨_, rfl⟩⟩


theorem idxI_ge (p : Int → Bool) (l : List Int) : decide (idxI p l ≥ 0) = l.any p := by
  unfold idxI
  cases h : l.findIdx? p with
  | none =>
    rw [List.findIdx?_eq_none_iff] at h
    have : l.any p = false := by rw [List.any_eq_false]; intro x hx; simp [h x hx]
    rw [this]; rfl
  | some i =>
    rw [List.findIdx?_eq_some_iff_getElem] at h
    obtain ⟨hi, hp, _⟩ := h
    have : l.any p = true := List.any_eq_true.2 ⟨_, List.getElem_mem hi, hp⟩
    rw [this]
    exact decide_eq_true (Int.natCast_nonneg i)

set_option maxHeartbeats 1000000 in
set_option maxRecDepth 100000 in
theorem contains_any (A : Option Addr) (c : Nat) (l : List Int) (g : FuncId) (lb : Array Value) (p : Int → Bool) (w : World) (hr : Kd.C (Kd.int .i64) w A l.length l) (hc : l.length ≤ c)
    (hp : PredI g lb p w) :
    Calls Try.prog 41 #[.slice A l.length c, .func (.func g) #[] lb] w fun e w' => e = .returned (.bool (l.any p)) ∧ Drawn0 w w' := by
  have HC := Aside0.mk (index_any A c l g lb p w hr hc hp)
  have HE := Aside0.mk (idxI_ge p l)
  clear hp hr hc
  go_enter Try.func41, Try.ntmps41
  go_wp2_with ((with_reducible refine (HC.out).mono ?_); rintro e w' ⟨rfl, ⟨m2, rfl⟩⟩)
  go_ret
  exact ⟨by rw [← HE.out]; rfl, ⟨_, rfl⟩⟩

theorem predLit (v : Int) (b : Nat) (w : World) (hv0 : 0 ≤ v) (hv1 : v ≤ 262144) (hb : b < w.heap.size) (hc : w.cell? ⟨b, 0, none⟩ = some (.int .i64 v)) : PredI 42 #[.pointer (some ⟨b, 0, none⟩)] (litBad v) w :=
  ⟨ent_of Try.func42 (by kernel_rfl) rfl, fun x W hB => lit_fn v x _ W hv0 hv1 ((hB.cell (p := ⟨b, 0, none⟩) hb).trans hc)⟩

def litsE (l : List Int) (v : Int) : Int := if (l.length : Int) > 16384 then 2 else if l.any (litBad v) then 141 else 0

set_option maxHeartbeats 1000000 in
set_option maxRecDepth 100000 in
theorem literals_any (A : Option Addr) (c : Nat) (l : List Int) (v : Int) (w : World) (hr : Kd.C (Kd.int .i64) w A l.length l) (hc : l.length ≤ c) (hv0 : 0 ≤ v) (hv1 : v ≤ 262144) :
    Calls Try.prog 30 #[.slice A l.length c, .int .i64 v] w fun e w' => e = .returned (.int .i64 (litsE l v)) ∧ Below w.heap.size w w' := by
  have HR := Aside0.mk hr
  have HC := Aside0.mk hc
  clear hr hc
  by_cases h0 : (l.length : Int) > 16384
  · have HE : Aside0 (litsE l v = 2) := ⟨by simp [litsE, h0]⟩
    go_enter Try.func30, Try.ntmps30
    go_wp2
    go_ret
    exact ⟨by rw [HE.out]; rfl, below_alloc (Below.refl _ _) _⟩
  · have h1 : decide ((l.length : Int) > 16384) = false := decide_eq_false h0
    have HM := Aside0.mk h0
    clear h0
    cases hb : l.any (litBad v) with
    | true =>
      have HE : Aside0 (litsE l v = 141) := ⟨by unfold litsE; rw [if_neg HM.out, hb]; rfl⟩
      have HB := Aside0.mk hb
      clear hb
      go_enter Try.func30, Try.ntmps30
      go_wp2_with ((with_reducible refine (contains_any _ _ _ _ _ (litBad v) _ (Kd.C_below HR.out (below_alloc (Below.refl _ _) _)) HC.out ?_).mono ?_); (exact predLit v _ _ hv0 hv1 (by simp) (by simp)); rintro e w' ⟨rfl, ⟨m2, rfl⟩⟩; rw [HB.out])
      go_ret
      exact ⟨by rw [HE.out]; rfl, pw_below_drewN (below_alloc (Below.refl _ _) _) _⟩
    | false =>
      have HE : Aside0 (litsE l v = 0) := ⟨by unfold litsE; rw [if_neg HM.out, hb]; rfl⟩
      have HB := Aside0.mk hb
      clear hb
      go_enter Try.func30, Try.ntmps30
      go_wp2_with ((with_reducible refine (contains_any _ _ _ _ _ (litBad v) _ (Kd.C_below HR.out (below_alloc (Below.refl _ _) _)) HC.out ?_).mono ?_); (exact predLit v _ _ hv0 hv1 (by simp) (by simp)); rintro e w' ⟨rfl, ⟨m2, rfl⟩⟩; rw [HB.out])
      go_ret
      exact ⟨by rw [HE.out]; rfl, pw_below_drewN (below_alloc (Below.refl _ _) _) _⟩

end Go.Proofs.Ytjfmoildblcjiaa.H1
