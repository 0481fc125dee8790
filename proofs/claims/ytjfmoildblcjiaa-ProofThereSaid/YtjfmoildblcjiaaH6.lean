/- What is proved here: contracts of slices.IndexFunc and ContainsFunc at clauses, of cnf.holds and cnf.first. -/
import Derived.Test.YtjfmoildblcjiaaH2
namespace Go.Proofs.Ytjfmoildblcjiaa.H6
open Go.RowKit Go.Proofs.YtjfmoildblcjiaaW.PrintWords Go.Proofs.YtjfmoildblcjiaaW.PrintLast Go.Proofs.YtjfmoildblcjiaaW.PrintMore Go.Proofs.Ytjfmoildblcjiaa.H1 Go.Proofs.Ytjfmoildblcjiaa.H2

/-- The function g with the captured lb tells p of each of the ints, in every world that has this one's blocks. -/
def PredIn (g : FuncId) (lb : Array Value) (p : Int → Bool) (l : List Int) (w : World) : Prop :=
  Ent g ∧ ∀ x ∈ l, ∀ W, Below w.heap.size w W → Calls Try.prog g (#[.int .i64 x] ++ lb) W fun e w' => e = .returned (.bool (p x)) ∧ Drawn0 W w'
def idxG {α : Type} (p : α → Bool) (l : List α) : Int := match l.findIdx? p with | some i => i | none => -1
theorem idxG_ge {α : Type} (p : α → Bool) (l : List α) : decide (idxG p l ≥ 0) = l.any p := by
  unfold idxG
  cases h : l.findIdx? p with
  | none =>
    rw [List.findIdx?_eq_none_iff] at h
    have : l.any p = false := by rw [List.any_eq_false]; intro x hx; simp [h x hx]
    rw [this]; rfl
  | some i =>
    rw [List.findIdx?_eq_some_iff_getElem] at h
    obtain ⟨hi, hp, _⟩ := h
    have : l.any p = true := List.any_eq_true.2 ⟨_, List.getElem_mem hi, hp⟩
    rw [this]
    exact decide_eq_true (Int.natCast_nonneg i)
theorem takeG_snoc {α : Type} {l : List α} {p : α → Bool} {d : α} {i : Nat} (h : ∀ x ∈ l.take i, p x = false) (hi : i < l.length) (hp : p (l.getD i d) = false) : ∀ x ∈ l.take (i + 1), p x = false := by
  intro x hx
  rw [List.take_succ_eq_append_getElem hi] at hx
  rcases List.mem_append.1 hx with h1 | h1
  · exact h x h1
  · rw [List.mem_singleton.1 h1]
    simpa [List.getD_eq_getElem?_getD, List.getElem?_eq_getElem hi] using hp
theorem idxG_here {α : Type} {l : List α} {p : α → Bool} {d : α} {i : Nat} (h : ∀ x ∈ l.take i, p x = false) (hi : i < l.length) (hp : p (l.getD i d) = true) : idxG p l = i := by
  have e : l.findIdx? p = some i := by
    rw [List.findIdx?_eq_some_iff_getElem]
    refine ⟨hi, by simpa [List.getD_eq_getElem?_getD, List.getElem?_eq_getElem hi] using hp, fun j hj => ?_⟩
    have := h (l[j]) (by rw [List.mem_take_iff_getElem]; exact ⟨j, by omega, rfl⟩)
    simp [this]
  simp [idxG, e]
theorem idxG_none {α : Type} {l : List α} {p : α → Bool} (h : ∀ x ∈ l.take l.length, p x = false) : idxG p l = -1 := by
  have e : l.findIdx? p = none := by
    rw [List.findIdx?_eq_none_iff]
    intro x hx
    exact h x (by simpa using hx)
  simp [idxG, e]
theorem mem_getD {α : Type} {l : List α} {d : α} {i : Nat} (h : i < l.length) : l.getD i d ∈ l := by
  rw [List.getD_eq_getElem?_getD, List.getElem?_eq_getElem h]
  exact List.getElem_mem h

set_option maxHeartbeats 1000000 in
set_option maxRecDepth 100000 in
theorem indexC_any (A : Option Addr) (c : Nat) (l : List Int) (g : FuncId) (lb : Array Value) (p : Int → Bool) (w : World) (hr : Kd.C (Kd.int .i64) w A l.length l) (_hc : l.length ≤ c)
    (hp : PredIn g lb p l w) :
    Calls Try.prog 61 #[.slice A l.length c, .func (.func g) #[] lb] w fun e w' => e = .returned (.int .i64 (idxG p l)) ∧ Drawn0 w w' := by
  have HR := Aside0.mk hr
  have HP := Aside0.mk hp.2
  have he := hp.1
  have HM := Aside0.mk (Kd.C_max hr)
  unfold Ent at he
  clear hr hp
  go_enter Try.func61, Try.ntmps61
  go_wp2
  go_loopg [8] (l.length) (fun kq v8 w' => ∃ i : Nat, Aside0 (i + kq = l.length) ∧ v8 = .int .i64 (i : Int) ∧ Aside0 (∀ x ∈ l.take i, p x = false) ∧ Drawn0 w w')
  case atStart => exact ⟨0, ⟨by omega⟩, rfl, ⟨by simp⟩, Drawn0.refl _⟩
  case round =>
    obtain ⟨i, HI, rfl, HA, ⟨m1, rfl⟩⟩ := hrel
    by_cases hlt : i < l.length
    · obtain ⟨k1, rfl⟩ : ∃ k1, gk = k1 + 1 := ⟨gk - 1, by have := HI.out; omega⟩
      have c0 : decide ((i : Int) < (l.length : Int)) = true := decide_eq_true (by omega)
      obtain ⟨ad, e1, hx⟩ := Kd.at_int HR.out (i : Int) (by omega) (by omega)
      cases e1
      have HX := Aside0.mk hx
      clear hx
      have hx : w.cell? (ad.add i) = some (.int .i64 (rd l i)) := HX.out
      have HMem := Aside0.mk (show rd l (i : Int) ∈ l from mem_getD hlt)
      cases hb : p (rd l (i : Int)) with
      | true =>
        have HB := Aside0.mk hb
        clear hb
        go_wp2_with ((with_reducible refine (HP.out _ HMem.out _ (pw_below_drewN (Below.refl _ _) _)).mono ?_); rintro e w' ⟨rfl, ⟨m2, rfl⟩⟩; rw [HB.out])
        go_ret
        exact ⟨by rw [idxG_here HA.out hlt HB.out]; rfl, ⟨_, rfl⟩⟩
      | false =>
        have HB := Aside0.mk hb
        clear hb
        go_wp2_with ((with_reducible refine (HP.out _ HMem.out _ (pw_below_drewN (Below.refl _ _) _)).mono ?_); rintro e w' ⟨rfl, ⟨m2, rfl⟩⟩; rw [HB.out])
        go_roundg k1
        case measure => omega
        case rel => exact ⟨i + 1, ⟨by have := HI.out; omega⟩, congrArg (Value.int .i64) (wrapn hlt HM.out), ⟨takeG_snoc HA.out hlt HB.out⟩, ⟨_, rfl⟩⟩
    · have c0 : decide ((i : Int) < (l.length : Int)) = false := decide_eq_false (by omega)
      obtain rfl : i = l.length := by have := HI.out; omega
      go_wp2
      go_ret
      exact ⟨by rw [idxG_none HA.out]; rfl, ⟨_, rfl⟩⟩

set_option maxHeartbeats 1000000 in
set_option maxRecDepth 100000 in
theorem containsC_any (A : Option Addr) (c : Nat) (l : List Int) (g : FuncId) (lb : Array Value) (p : Int → Bool) (w : World) (hr : Kd.C (Kd.int .i64) w A l.length l) (hc : l.length ≤ c)
    (hp : PredIn g lb p l w) :
    Calls Try.prog 64 #[.slice A l.length c, .func (.func g) #[] lb] w fun e w' => e = .returned (.bool (l.any p)) ∧ Drawn0 w w' := by
  have HC := Aside0.mk (indexC_any A c l g lb p w hr hc hp)
  have HE := Aside0.mk (idxG_ge p l)
  clear hp hr hc
  go_enter Try.func64, Try.ntmps64
  go_wp2_with ((with_reducible refine (HC.out).mono ?_); rintro e w' ⟨rfl, ⟨m2, rfl⟩⟩)
  go_ret
  exact ⟨by rw [← HE.out]; rfl, ⟨_, rfl⟩⟩

/-- The same at clauses: the function may lay blocks. -/
def PredLn (g : FuncId) (lb : Array Value) (p : List Int → Bool) (cs : List (List Int)) (w : World) : Prop :=
  Ent g ∧ ∀ x ∈ cs, ∀ A c W, Below w.heap.size w W → Kd.C (Kd.int .i64) W A x.length x → x.length ≤ c → Calls Try.prog g (#[.slice A x.length c] ++ lb) W fun e w' => e = .returned (.bool (p x)) ∧ Below W.heap.size W w'

set_option maxHeartbeats 1000000 in
set_option maxRecDepth 100000 in
theorem indexL_any (A : Option Addr) (c : Nat) (cs : List (List Int)) (g : FuncId) (lb : Array Value) (p : List Int → Bool) (w : World) (hr : Kd.C (Kd.slice 3 (Kd.int .i64)) w A cs.length cs) (_hc : cs.length ≤ c)
    (hp : PredLn g lb p cs w) :
    Calls Try.prog 53 #[.slice A cs.length c, .func (.func g) #[] lb] w fun e w' => e = .returned (.int .i64 (idxG p cs)) ∧ Below w.heap.size w w' := by
  have HR := Aside0.mk hr
  have HP := Aside0.mk hp.2
  have he := hp.1
  have HM := Aside0.mk (Kd.C_max hr)
  unfold Ent at he
  clear hr hp
  go_enter Try.func53, Try.ntmps53
  go_wp2
  go_loopg [8] (cs.length) (fun kq v8 w' => ∃ i : Nat, Aside0 (i + kq = cs.length) ∧ v8 = .int .i64 (i : Int) ∧ Aside0 (∀ x ∈ cs.take i, p x = false) ∧ Aside0 (Below w.heap.size w w'))
  case atStart => exact ⟨0, ⟨by omega⟩, rfl, ⟨by simp⟩, ⟨Below.refl _ _⟩⟩
  case round =>
    obtain ⟨i, HI, rfl, HA, HB⟩ := hrel
    by_cases hlt : i < cs.length
    · obtain ⟨k1, rfl⟩ : ∃ k1, gk = k1 + 1 := ⟨gk - 1, by have := HI.out; omega⟩
      have c0 : decide ((i : Int) < (cs.length : Int)) = true := decide_eq_true (by omega)
      obtain ⟨ad, A0, cc, e1, hx, hl, hC⟩ := at_L (Kd.C_below HR.out HB.out) (i : Int) (by omega) (by omega)
      cases e1
      have hx : wr.cell? (ad.add i) = some (.slice A0 (rdL cs i).length cc) := hx
      have HMem := Aside0.mk (show rdL cs (i : Int) ∈ cs from mem_getD hlt)
      have HC := Aside0.mk hC
      have HL := Aside0.mk hl
      clear hC hl
      cases hb : p (rdL cs (i : Int)) with
      | true =>
        have HB1 := Aside0.mk hb
        clear hb
        go_wp2_with ((with_reducible refine (HP.out _ HMem.out _ _ _ HB.out HC.out HL.out).mono ?_); rintro e w' ⟨rfl, hb2⟩; rw [HB1.out]; have HB2 := Aside0.mk hb2; clear hb2)
        go_ret
        exact ⟨by rw [idxG_here HA.out hlt HB1.out]; rfl, HB.out.trans (HB2.out.mono HB.out.size)⟩
      | false =>
        have HB1 := Aside0.mk hb
        clear hb
        go_wp2_with ((with_reducible refine (HP.out _ HMem.out _ _ _ HB.out HC.out HL.out).mono ?_); rintro e w' ⟨rfl, hb2⟩; rw [HB1.out]; have HB2 := Aside0.mk hb2; clear hb2)
        go_roundg k1
        case measure => omega
        case rel => exact ⟨i + 1, ⟨by have := HI.out; omega⟩, congrArg (Value.int .i64) (wrapn hlt HM.out), ⟨takeG_snoc HA.out hlt HB1.out⟩, ⟨HB.out.trans (HB2.out.mono HB.out.size)⟩⟩
    · have c0 : decide ((i : Int) < (cs.length : Int)) = false := decide_eq_false (by omega)
      obtain rfl : i = cs.length := by have := HI.out; omega
      go_wp2
      go_ret
      exact ⟨by rw [idxG_none HA.out]; rfl, HB.out⟩

/-- A literal under a model. -/
def litT (m : List Bool) (x : Int) : Bool := if x < 0 then !(rdOf false m (-x - 1)) else rdOf false m (x - 1)
def clauseT (m : List Bool) (c : List Int) : Bool := c.any (litT m)
/-- All literals stand in the model. -/
def inM (n : Nat) (c : List Int) : Prop := ∀ x ∈ c, x ≠ 0 ∧ -(n : Int) ≤ x ∧ x ≤ n

set_option maxHeartbeats 1000000 in
set_option maxRecDepth 100000 in
theorem holds1 (x : Int) (m : List Bool) (A : Option Addr) (cm : Nat) (b : Nat) (w : World) (hr : Kd.C Kd.bool w A m.length m) (hx : x ≠ 0) (h0 : -(m.length : Int) ≤ x) (h1 : x ≤ m.length) (hc : w.cell? ⟨b, 0, none⟩ = some (.slice A m.length cm)) :
    Calls Try.prog 65 #[.int .i64 x, .pointer (some ⟨b, 0, none⟩)] w fun e w' => e = .returned (.bool (litT m x)) ∧ Drawn0 w w' := by
  have HR := Aside0.mk hr
  have hmax := Kd.C_max hr
  clear hr
  by_cases hn : x < 0
  · have d0 : decide (x < 0) = true := decide_eq_true hn
    have hw : wrap64 (wrap64 (-x) - 1) = -x - 1 := by unfold wrap64; omega
    have hI : 0 ≤ wrap64 (wrap64 (-x) - 1) ∧ wrap64 (wrap64 (-x) - 1) < (m.length : Int) := by rw [hw]; omega
    obtain ⟨ad, e1, hy⟩ := Kd.at_bool HR.out (wrap64 (wrap64 (-x) - 1)) hI.1 hI.2
    cases e1
    have HE : Aside0 (litT m x = !(rdOf false m (wrap64 (wrap64 (-x) - 1)))) := ⟨by unfold litT; rw [if_pos hn, hw]⟩
    generalize rdOf false m (wrap64 (wrap64 (-x) - 1)) = y at *
    clear hn hw h0 h1 hmax hx
    go_enter Try.func65, Try.ntmps65
    go_wp2
    go_ret
    exact ⟨by rw [HE.out]; rfl, Drawn0.refl _⟩
  · have d0 : decide (x < 0) = false := decide_eq_false hn
    have hw : wrap64 (x - 1) = x - 1 := by unfold wrap64; omega
    have hI : 0 ≤ wrap64 (x - 1) ∧ wrap64 (x - 1) < (m.length : Int) := by rw [hw]; omega
    obtain ⟨ad, e1, hy⟩ := Kd.at_bool HR.out (wrap64 (x - 1)) hI.1 hI.2
    cases e1
    have HE : Aside0 (litT m x = (rdOf false m (wrap64 (x - 1)))) := ⟨by unfold litT; rw [if_neg hn, hw]⟩
    generalize rdOf false m (wrap64 (x - 1)) = y at *
    clear hn hw h0 h1 hmax hx
    go_enter Try.func65, Try.ntmps65
    go_wp2
    go_ret
    exact ⟨by rw [HE.out]; rfl, Drawn0.refl _⟩

set_option maxHeartbeats 1000000 in
set_option maxRecDepth 100000 in
theorem holds_any (A : Option Addr) (c : Nat) (l : List Int) (Am : Option Addr) (cm : Nat) (m : List Bool) (w : World) (hr : Kd.C (Kd.int .i64) w A l.length l) (hc : l.length ≤ c) (hm : Kd.C Kd.bool w Am m.length m) (hl : inM m.length l) :
    Calls Try.prog 55 #[.slice A l.length c, .slice Am m.length cm] w fun e w' => e = .returned (.bool (clauseT m l)) ∧ Below w.heap.size w w' := by
  have HR := Aside0.mk hr
  have HC := Aside0.mk hc
  have HMo := Aside0.mk hm
  have HL := Aside0.mk hl
  have HE : Aside0 (clauseT m l = l.any (litT m)) := ⟨rfl⟩
  clear hr hc hm hl
  go_enter Try.func55, Try.ntmps55
  go_wp2_with ((with_reducible refine (containsC_any _ _ _ _ _ (litT m) _ (Kd.C_below HR.out (below_alloc (Below.refl _ _) _)) HC.out ?_).mono ?_); (exact ⟨ent_of Try.func65 (by kernel_rfl) rfl, fun x hx W hB => holds1 x m Am cm _ W (Kd.C_below HMo.out ((below_alloc (Below.refl _ _) _).trans (hB.mono (by simp)))) (HL.out x hx).1 (HL.out x hx).2.1 (HL.out x hx).2.2 ((hB.cell (by simp)).trans (by simp))⟩); rintro e w' ⟨rfl, ⟨m2, rfl⟩⟩)
  go_ret
  exact ⟨by rw [HE.out]; rfl, pw_below_drewN (below_alloc (Below.refl _ _) _) _⟩

def firstI (m : List Bool) (cs : List (List Int)) : Int := idxG (fun c => !clauseT m c) cs

set_option maxHeartbeats 1000000 in
set_option maxRecDepth 100000 in
theorem first1 (A : Option Addr) (c : Nat) (l : List Int) (Am : Option Addr) (cm : Nat) (m : List Bool) (b : Nat) (w : World) (hr : Kd.C (Kd.int .i64) w A l.length l) (hc : l.length ≤ c) (hm : Kd.C Kd.bool w Am m.length m) (hl : inM m.length l) (hb : w.cell? ⟨b, 0, none⟩ = some (.slice Am m.length cm)) :
    Calls Try.prog 54 #[.slice A l.length c, .pointer (some ⟨b, 0, none⟩)] w fun e w' => e = .returned (.bool (!clauseT m l)) ∧ Below w.heap.size w w' := by
  have HH := Aside0.mk (holds_any A c l Am cm m w hr hc hm hl)
  clear hr hc hm hl
  go_enter Try.func54, Try.ntmps54
  go_wp2_with ((with_reducible refine (HH.out).mono ?_); rintro e w' ⟨rfl, hb2⟩; have HB2 := Aside0.mk hb2; clear hb2)
  go_ret
  exact ⟨rfl, HB2.out⟩

set_option maxHeartbeats 1000000 in
set_option maxRecDepth 100000 in
theorem first_any (v : Int) (A : Option Addr) (c : Nat) (cs : List (List Int)) (Am : Option Addr) (cm : Nat) (m : List Bool) (w : World) (hr : Kd.C (Kd.slice 3 (Kd.int .i64)) w A cs.length cs) (hc : cs.length ≤ c) (hm : Kd.C Kd.bool w Am m.length m) (hl : ∀ l ∈ cs, inM m.length l) :
    Calls Try.prog 36 #[.agg #[.int .i64 v, .slice A cs.length c], .slice Am m.length cm] w fun e w' => e = .returned (.int .i64 (firstI m cs)) ∧ Below w.heap.size w w' := by
  have HR := Aside0.mk hr
  have HC := Aside0.mk hc
  have HMo := Aside0.mk hm
  have HL := Aside0.mk hl
  have HE : Aside0 (firstI m cs = idxG (fun c => !clauseT m c) cs) := ⟨rfl⟩
  clear hr hc hm hl
  go_enter Try.func36, Try.ntmps36
  go_wp2_with ((with_reducible refine (indexL_any _ _ cs _ _ (fun c => !clauseT m c) _ (Kd.C_below HR.out (below_alloc (below_alloc (Below.refl _ _) _) _)) HC.out ?_).mono ?_); (exact ⟨ent_of Try.func54 (by kernel_rfl) rfl, fun x hx A0 c0 W hB hC0 hl0 => first1 A0 c0 x Am cm m _ W hC0 hl0 (Kd.C_below HMo.out ((below_alloc (below_alloc (Below.refl _ _) _) _).trans (hB.mono (by simp; omega)))) (HL.out x hx) ((hB.cell (by simp)).trans (by simp))⟩); rintro e w' ⟨rfl, hb2⟩; have HB2 := Aside0.mk hb2; clear hb2)
  go_ret
  exact ⟨by rw [HE.out]; rfl, (below_alloc (below_alloc (Below.refl _ _) _) _).trans (HB2.out.mono (by simp; omega))⟩

end Go.Proofs.Ytjfmoildblcjiaa.H6
