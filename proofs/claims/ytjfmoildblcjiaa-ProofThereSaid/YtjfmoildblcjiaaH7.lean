/- What is proved here: contracts of cnf.trials and cnf.Models. -/
import Derived.Test.YtjfmoildblcjiaaH6
import Derived.Test.YtjfmoildblcjiaaH4
import Derived.Lib.RabinKarpLaws
namespace Go.Proofs.Ytjfmoildblcjiaa.H7
open Go.RowKit Go.Proofs.YtjfmoildblcjiaaW.PrintWords Go.Proofs.YtjfmoildblcjiaaW.PrintLast Go.Proofs.YtjfmoildblcjiaaW.PrintMore Go.Proofs.Ytjfmoildblcjiaa.H1 Go.Proofs.Ytjfmoildblcjiaa.H2 Go.Proofs.Ytjfmoildblcjiaa.H4 Go.Proofs.Ytjfmoildblcjiaa.H6

/-- The n-th model of v variables: the variable 1 counts most. -/
def modelOf (v n : Nat) : List Bool := (List.range v).map fun i => decide ((n / 2 ^ (v - 1 - i)) % 2 = 1)
def models (v : Nat) : List (List Bool) := (List.range (2 ^ v)).map (modelOf v)
theorem modelOf_length (v n : Nat) : (modelOf v n).length = v := by simp [modelOf]
def sat (m : List Bool) (cs : List (List Int)) : Bool := cs.all (clauseT m)
/-- All models in order, as long as it is wished. -/
def trialR {σ : Type} (cs : List (List Int)) (go : σ → List Bool → σ × Bool) : σ → List (List Bool) → σ × Bool
  | S, [] => (S, true)
  | S, m :: r => if sat m cs then (if (go S m).2 then trialR cs go (go S m).1 r else ((go S m).1, false)) else trialR cs go S r

/-- What may be changed lies between B and N, or is new. -/
structure Quiet (B N : Nat) (w w' : World) : Prop where
  os : w'.os = w.os
  tape : w'.tape = w.tape
  output : w'.output = w.output
  size : w.heap.size ≤ w'.heap.size
  block : ∀ k, k < w.heap.size → (k < B ∨ N ≤ k) → w'.heap[k]? = w.heap[k]?
theorem Quiet.below {B N : Nat} {w w' : World} (h : Quiet B N w w') (hB : B ≤ w.heap.size) : Below B w w' := ⟨h.os, h.tape, h.output, h.size, fun k hk => h.block k (Nat.lt_of_lt_of_le hk hB) (.inl hk)⟩
theorem slice_own {α : Type} {d : Kd α} {e base b : Nat} {w : World} {ok : Nat → Prop} {v : Value} {xs : List α} (h : Kd.R d e w base ok v xs) (hb : v.ownBlock = some b) : ∃ cap, v = .slice (some ⟨b, 0, none⟩) xs.length cap := by
  obtain ⟨inner, ho⟩ := Kd.R_own h
  rcases ho.2 with ⟨rfl, _⟩ | ⟨g, cap, cur, rfl, _⟩
  · cases hb
  · have : g = b := by simpa [Value.ownBlock] using hb
    exact ⟨cap, by rw [this]⟩
theorem bit_of (k d : Nat) (hk : k < 9223372036854775808) : (bits BinOp.and IntKind.i64 ((k : Int) / 2 ^ d) 1 == 1) = decide ((k / 2 ^ d) % 2 = 1) := by
  have e : (k : Int) / 2 ^ d = ((k / 2 ^ d : Nat) : Int) := by simp
  rw [e, and_one _ (Nat.lt_of_le_of_lt (Nat.div_le_self _ _) hk)]
  have h2 : (k / 2 ^ d) % 2 < 2 := Nat.mod_lt _ (by decide)
  generalize (k / 2 ^ d) % 2 = r at *
  have : r = 0 ∨ r = 1 := by omega
  rcases this with rfl | rfl <;> rfl
theorem model_step {m : List Bool} {n k i : Nat} (hl : m.length = n) (ht : m.take i = (modelOf n k).take i) (hi : i < n) : (m.set i (decide ((k / 2 ^ (n - 1 - i)) % 2 = 1))).take (i + 1) = (modelOf n k).take (i + 1) := by
  rw [List.take_succ_eq_append_getElem (by rw [List.length_set, hl]; exact hi), List.take_succ_eq_append_getElem (by rw [modelOf_length]; exact hi)]
  rw [List.take_set_of_le (Nat.le_refl i), ht]
  simp [modelOf]
theorem models_length (v : Nat) : (models v).length = 2 ^ v := by simp [models]
theorem models_drop {n k : Nat} (h : k < 2 ^ n) : (models n).drop k = modelOf n k :: (models n).drop (k + 1) := by
  rw [List.drop_eq_getElem_cons (by rw [models_length]; exact h)]
  simp [models]
theorem first_n (n : Nat) (A : Option Addr) (c : Nat) (cs : List (List Int)) (Am : Option Addr) (cm : Nat) (m : List Bool) (w : World) (hr : Kd.C (Kd.slice 3 (Kd.int .i64)) w A cs.length cs) (hc : cs.length ≤ c) (hml : m.length = n) (hm : Kd.C Kd.bool w Am n m) (hl : ∀ l ∈ cs, inM n l) :
    Calls Try.prog 36 #[.agg #[.int .i64 (n : Int), .slice A cs.length c], .slice Am n cm] w fun e w' => e = .returned (.int .i64 (firstI m cs)) ∧ Below w.heap.size w w' := by
  subst hml
  exact first_any _ A c cs Am cm m w hr hc hm hl
theorem idxG_nonneg {α : Type} (p : α → Bool) (l : List α) : (idxG p l < 0) = (l.all (fun x => !p x) = true) := by
  have h := idxG_ge p l
  apply propext
  constructor
  · intro h1
    have h2 : decide (idxG p l ≥ 0) = false := decide_eq_false (by omega)
    rw [h2] at h
    rw [List.all_eq_true]
    intro x hx
    have := List.any_eq_false.1 h.symm x hx
    simpa using this
  · intro h1
    have h2 : l.any p = false := by
      rw [List.any_eq_false]
      intro x hx
      have := List.all_eq_true.1 h1 x hx
      simpa using this
    rw [h2] at h
    have := of_decide_eq_false h
    omega
theorem first_sat (m : List Bool) (cs : List (List Int)) : decide (firstI m cs < 0) = sat m cs := by
  unfold firstI sat
  have h := idxG_nonneg (fun c => !clauseT m c) cs
  simp only [Bool.not_not] at h
  rw [show decide (idxG (fun c => !clauseT m c) cs < 0) = decide (cs.all (clauseT m) = true) from decide_eq_decide.2 (Iff.of_eq h)]
  cases h3 : cs.all (clauseT m) <;> simp

/-- What trials asks of its function: with S told by Inv it does what go says. -/
structure DoSpec {σ : Type} (g : FuncId) (lb : Array Value) (go : σ → List Bool → σ × Bool) (B N v : Nat) (Inv Fin : σ → World → Prop) : Prop where
  ent : Ent g
  stable : ∀ S W W', Inv S W → Below N W W' → Inv S W'
  run : ∀ S m A cm W, N ≤ W.heap.size → m.length = v → Inv S W → Kd.C Kd.bool W A v m → v ≤ cm → Calls Try.prog g (#[.slice A v cm] ++ lb) W fun e w' =>
    e = .returned (.bool (go S m).2) ∧ Quiet B N W w' ∧ if (go S m).2 = true then Inv (go S m).1 w' else Fin (go S m).1 w'

def trialsE (v : Int) (cs : List (List Int)) : Int := if (checkE v cs).2 ≠ 0 then (checkE v cs).2 else if v > 16 then 6 else 0

def AfterT {σ : Type} (go : σ → List Bool → σ × Bool) (Inv Fin : σ → World → Prop) (S0 : σ) (v : Int) (cs : List (List Int)) (w' : World) : Prop :=
  if trialsE v cs = 0 then (if (trialR cs go S0 (models v.toNat)).2 = true then Inv (trialR cs go S0 (models v.toNat)).1 w' else Fin (trialR cs go S0 (models v.toNat)).1 w') else Inv S0 w'

set_option maxHeartbeats 4000000 in
set_option maxRecDepth 100000 in
theorem trials_any {σ : Type} (go : σ → List Bool → σ × Bool) (Inv Fin : σ → World → Prop) (g : FuncId) (lb : Array Value) (S0 : σ) (v : Int) (A : Option Addr) (c : Nat) (cs : List (List Int)) (B : Nat) (w : World)
    (hr : ∀ W, Below B w W → Kd.C (Kd.slice 3 (Kd.int .i64)) W A cs.length cs) (hc : cs.length ≤ c) (hB : B ≤ w.heap.size) (hd : DoSpec g lb go B w.heap.size v.toNat Inv Fin) (hI : Inv S0 w) :
    Calls Try.prog 25 #[.agg #[.int .i64 v, .slice A cs.length c], .func (.func g) #[] lb] w fun e w' => e = .returned (.int .i64 (trialsE v cs)) ∧ Below B w w' ∧ AfterT go Inv Fin S0 v cs w' := by
  have HR := Aside0.mk hr
  have HC := Aside0.mk hc
  have HBS := Aside0.mk hB
  have HD := Aside0.mk hd
  have HI := Aside0.mk hI
  have he := hd.ent
  unfold Ent at he
  clear hr hc hB hd hI
  by_cases h0 : (checkE v cs).2 = 0
  · have d0 : ((checkE v cs).2 != 0) = false := bne_eq_false_iff_eq.2 h0
    obtain ⟨hv0, hv1, hlen, hall⟩ := checkE_ok h0
    have HV1 := Aside0.mk hv1
    have HALL := Aside0.mk hall
    have HZ := Aside0.mk h0
    clear hall h0 hv1 hlen
    by_cases h1 : v > 16
    · have d1 : decide (v > 16) = true := decide_eq_true h1
      have HE : Aside0 (trialsE v cs = 6) := ⟨by unfold trialsE; rw [if_neg (by rw [HZ.out]; simp), if_pos h1]⟩
      generalize hce : checkE v cs = ce at *
      have HCE := Aside0.mk hce
      clear hce h1
      go_enter Try.func25, Try.ntmps25
      go_wp2_with ((with_reducible refine (check_any v _ _ cs _ (HR.out _ (below_alloc (Below.refl _ _) _ |>.mono HBS.out)) HC.out).mono ?_); rintro e w1 ⟨rfl, hb1⟩; rw [HCE.out]; have k0 := (hb1.cell (p := ⟨w.heap.size, 0, none⟩) (by simp)).trans (show _ = some (Value.int .i64 v) by simp); have HB1 := Aside0.mk hb1; clear hb1)
      go_ret
      exact ⟨by rw [HE.out]; rfl, ((below_alloc (Below.refl _ _) _).mono HBS.out).trans (HB1.out.mono (by have := HBS.out; simp; omega)), by unfold AfterT; rw [HE.out, if_neg (by decide)]; exact HD.out.stable _ _ _ HI.out ((below_alloc (Below.refl _ _) _).trans (HB1.out.mono (by simp)))⟩
    · have d1 : decide (v > 16) = false := decide_eq_false h1
      have HE : Aside0 (trialsE v cs = 0) := ⟨by unfold trialsE; rw [if_neg (by rw [HZ.out]; simp), if_neg h1]⟩
      obtain ⟨n, rfl⟩ : ∃ n : Nat, v = (n : Int) := ⟨v.toNat, by omega⟩
      have hn : n ≤ 16 := by omega
      have hd2 := HD.out
      rw [Int.toNat_natCast] at hd2
      clear HD
      have HD := Aside0.mk hd2
      clear hd2
      have HN := Aside0.mk hn
      generalize hce : checkE (n : Int) cs = ce at *
      have HCE := Aside0.mk hce
      clear hce h1
      have p0 : decide (0 ≤ (n : Int)) = true := decide_eq_true hv0
      go_enter Try.func25, Try.ntmps25
      go_wp2_with (first | ((with_reducible refine (check_any _ _ _ cs _ (HR.out _ (below_alloc (Below.refl _ _) _ |>.mono HBS.out)) HC.out).mono ?_); rintro e w1 ⟨rfl, hb1⟩; rw [HCE.out]; have k0 := (hb1.cell (p := ⟨w.heap.size, 0, none⟩) (by simp)).trans (show _ = some (Value.int .i64 (n : Int)) by simp); have k1 := (hb1.cell (p := ⟨w.heap.size, 1, none⟩) (by simp)).trans (show _ = some (Value.slice A cs.length c) by simp); have HB1 := Aside0.mk hb1; clear hb1) | ((with_reducible refine gate_dst (N := 23) rfl ?_); refine Kd.R_make Kd.bool _ 4 rfl (N := 23) rfl 54 _ _ rfl (n : Int) rfl rfl Try.underlying54 (.bool false) 1 (by kernel_rfl) rfl (by decide) (by omega) false (ok := fun _ => True) (okp := fun _ => True) rfl (fun _ hk => hk) trivial (by omega) (by have := HN.out; omega) (Below.refl _ _) (Nat.le_refl _) ?_; intro v23 w2 ho2 hb2 hg2 hn2; have hs1 : w.heap.size < w1.heap.size := (by have := HB1.out.size; simp at this; omega); have k0 := (hb2.cell (p := ⟨w.heap.size, 0, none⟩) hs1).trans k0; have k1 := (hb2.cell (p := ⟨w.heap.size, 1, none⟩) hs1).trans k1; have HO2 := Aside0.mk ho2; have HB2 := Aside0.mk hb2; have HN7 := Aside0.mk hn2; clear ho2 hb2 hg2 hn2))
      have hP : wrap64 (2 ^ n) = ((2 ^ n : Nat) : Int) := by
        have h2 : (2 : Nat) ^ n ≤ 2 ^ 16 := Nat.pow_le_pow_right (by decide) HN.out
        have h3 : (2 : Int) ^ n = ((2 ^ n : Nat) : Int) := by simp
        rw [h3]
        generalize 2 ^ n = N at *
        unfold wrap64; omega
      rw [hP]
      clear hP
      obtain ⟨N, hN⟩ : ∃ N : Nat, N = 2 ^ n := ⟨_, rfl⟩
      rw [← hN]
      have hNb : N ≤ 65536 := by rw [hN]; exact Nat.pow_le_pow_right (by decide) HN.out
      have HN2 := Aside0.mk hN
      have HNb := Aside0.mk hNb
      clear hN hNb
      obtain ⟨g7, hg7, hg7b⟩ := HN7.out
      obtain ⟨c7, rfl⟩ := slice_own HO2.out hg7
      have HO3 : Aside0 (Kd.R Kd.bool 4 w2 (w.heap.size + 1) (fun _ => True) (.slice (some ⟨g7, 0, none⟩) n c7) (List.replicate n false)) := ⟨by have := Kd.R_lower HO2.out hs1; simpa using this⟩
      have HG7 := Aside0.mk (Nat.lt_of_lt_of_le hs1 hg7b)
      rw [show (List.replicate (n : Int).toNat false).length = n by simp]
      have HW2 : Aside0 (Below w.heap.size w w2) := ⟨(below_alloc (Below.refl _ _) _).trans ((HB1.out.mono (by simp)).trans (HB2.out.mono (by omega)))⟩
      have HK : Aside0 (w2.cell? ⟨w.heap.size, 0, none⟩ = some (.int .i64 (n : Int)) ∧ w2.cell? ⟨w.heap.size, 1, none⟩ = some (.slice A cs.length c)) := ⟨⟨k0, k1⟩⟩
      have HIW := Aside0.mk (HD.out.stable _ _ _ HI.out HW2.out)
      have HM2 : Aside0 (trialR cs go S0 (models n) = trialR cs go S0 ((models n).drop 0)) := ⟨rfl⟩
      have HBW := Aside0.mk (HW2.out.mono HBS.out)
      have HSZ := Aside0.mk (Nat.lt_of_lt_of_le hs1 (HB2.out.size))
      clear HO2 HB2 HB1 k0 k1 hs1 HN7 hg7 hg7b
      go_loopg [27] (N) (fun kq v27 w' => ∃ (k : Nat) (S : σ) (m : List Bool), Aside0 (k + kq = N) ∧ v27 = .int .i64 (k : Int) ∧ Aside0 (trialR cs go S0 (models n) = trialR cs go S ((models n).drop k)) ∧ Aside0 (Inv S w') ∧ Aside0 (m.length = n) ∧ Aside0 (Kd.R Kd.bool 4 w' (w.heap.size + 1) (fun _ => True) (.slice (some ⟨g7, 0, none⟩) n c7) m) ∧ Aside0 (Below B w w') ∧ Aside0 (w.heap.size < w'.heap.size) ∧ Aside0 (w'.cell? ⟨w.heap.size, 0, none⟩ = some (.int .i64 (n : Int)) ∧ w'.cell? ⟨w.heap.size, 1, none⟩ = some (.slice A cs.length c)))
      case atStart => exact ⟨0, S0, _, ⟨by omega⟩, rfl, HM2, HIW, ⟨by simp⟩, HO3, HBW, HSZ, HK⟩
      case round =>
        clear HO3 HBW HSZ HK HIW HM2 HW2
        obtain ⟨k, S, m0, HKN, rfl, HM, HIn, HL0, HO, HB, HSZ, HK⟩ := hrel
        by_cases hlt : k < N
        · obtain ⟨k1, rfl⟩ : ∃ k1, gk = k1 + 1 := ⟨gk - 1, by have := HKN.out; omega⟩
          have c0 : decide ((k : Int) < (N : Int)) = true := decide_eq_true (by omega)
          obtain ⟨wo, rfl⟩ : ∃ wo : World, wo = wr := ⟨_, rfl⟩
          go_wp2
          go_loopg [32] (n) (fun kq v32 w' => ∃ (i : Nat) (m : List Bool), Aside0 (i + kq = n) ∧ v32 = .int .i64 (i : Int) ∧ Aside0 (Inv S w') ∧ Aside0 (m.length = n ∧ m.take i = (modelOf n k).take i) ∧ Aside0 (Kd.R Kd.bool 4 w' (w.heap.size + 1) (fun _ => True) (.slice (some ⟨g7, 0, none⟩) n c7) m) ∧ Aside0 (Below B w w') ∧ Aside0 (w.heap.size < w'.heap.size) ∧ Aside0 (w'.cell? ⟨w.heap.size, 0, none⟩ = some (.int .i64 (n : Int)) ∧ w'.cell? ⟨w.heap.size, 1, none⟩ = some (.slice A cs.length c)))
          case atStart => exact ⟨0, m0, ⟨by omega⟩, rfl, HIn, ⟨HL0.out, rfl⟩, HO, HB, HSZ, HK⟩
          case round =>
            clear HIn HL0 HO HB HSZ HK
            obtain ⟨i, m, HIK, rfl, HIn, HL, HO, HB, HSZ, HK⟩ := hrel
            by_cases hi : i < n
            · obtain ⟨k2, rfl⟩ : ∃ k2, gk = k2 + 1 := ⟨gk - 1, by have := HIK.out; omega⟩
              have c1 : decide ((i : Int) < (n : Int)) = true := decide_eq_true (by omega)
              have kk0 := HK.out.1
              have q0 : (0 ≤ (i : Int)) = True := eq_true (by omega)
              have q1 : ((i : Int) < (n : Int)) = True := eq_true (by omega)
              obtain ⟨hx1, hf1⟩ := Kd.R_celln false HO.out (i : Int) (by omega) (by omega)
              have hx : wr.cell? ⟨g7, i, none⟩ = some (.bool (rdOf false m (i : Int))) := hx1
              have hf : wr.frozen? ⟨g7, i, none⟩ = false := hf1
              have hwi : wrap64 (wrap64 ((n : Int) - 1) - (i : Int)) = ((n - 1 - i : Nat) : Int) := by have := HN.out; unfold wrap64; omega
              clear hx1 hf1
              have HEl : Aside0 ((bits BinOp.and IntKind.i64 ((k : Int) / 2 ^ (n - 1 - i)) 1 == 1) = decide ((k / 2 ^ (n - 1 - i)) % 2 = 1)) := ⟨bit_of k (n - 1 - i) (by have := HNb.out; omega)⟩
              go_wp2
              go_roundg k2
              case measure => omega
              case rel =>
                obtain ⟨hr1, hg1⟩ := Kd.R_putg HO.out (i : Int) (bits BinOp.and IntKind.i64 ((k : Int) / 2 ^ (n - 1 - i)) 1 == 1)
                have hgN := HG7.out
                refine ⟨i + 1, _, ⟨by have := HIK.out; omega⟩, congrArg (Value.int .i64) (by omega), ⟨HD.out.stable _ _ _ HIn.out (Below.setCell (Below.refl _ _) (by show w.heap.size ≤ g7; omega) _)⟩, ⟨⟨by rw [List.length_set]; exact HL.out.1, ?_⟩⟩, ⟨hr1⟩, ⟨HB.out.grown hg1 (by have := HBS.out; have := HSZ.out; omega) (fun k hk => by injection hk with hk; have := HBS.out; omega)⟩, ⟨by simpa using HSZ.out⟩, ⟨⟨(World.cell?_of_block (Below.heap_setCell _ _ _ _ (by show w.heap.size ≠ g7; omega))).trans HK.out.1, (World.cell?_of_block (Below.heap_setCell _ _ _ _ (by show w.heap.size ≠ g7; omega))).trans HK.out.2⟩⟩⟩
                rw [HEl.out]
                exact model_step HL.out.1 HL.out.2 hi
            · have c1 : decide ((i : Int) < (n : Int)) = false := decide_eq_false (by omega)
              have hm : m = modelOf n k := by
                have h2 := HL.out.2
                have h3 := HIK.out
                rwa [List.take_of_length_le (by rw [HL.out.1]; omega), List.take_of_length_le (by rw [modelOf_length]; omega)] at h2
              obtain ⟨hcn, hcc, hCm⟩ := Kd.R_reads' HO.out
              have HCM : Aside0 (Kd.C Kd.bool wr (some ⟨g7, 0, none⟩) n m) := ⟨by rw [HL.out.1] at hCm; exact hCm⟩
              have HCC := Aside0.mk hcc
              have HIM : Aside0 (∀ l ∈ cs, inM n l) := ⟨fun l hl x hx => by have := (litsE_ok (HALL.out l hl)).1 x hx; omega⟩
              have HMS : Aside0 ((models n).drop k = m :: (models n).drop (k + 1)) := ⟨by rw [hm]; exact models_drop (by rw [← HN2.out]; exact hlt)⟩
              have kk0 := HK.out.1
              have kk1 := HK.out.2
              clear hcn hcc hCm hm
              cases hs : sat m cs with
              | false =>
                have HS := Aside0.mk hs
                have d2 : decide (firstI m cs < 0) = false := (first_sat m cs).trans hs
                have HM1 : Aside0 (trialR cs go S0 (models n) = trialR cs go S ((models n).drop (k + 1))) := ⟨by rw [HM.out, HMS.out, trialR, HS.out]; rfl⟩
                clear hs
                go_wp2_with ((with_reducible refine (first_n n A c cs (some ⟨g7, 0, none⟩) c7 m _ (HR.out _ HB.out) HC.out HL.out.1 HCM.out HIM.out).mono ?_); rintro e w3 ⟨rfl, hb3⟩; have HB3 := Aside0.mk hb3; clear hb3)
                go_roundg k1
                case measure => omega
                case rel =>
                  have h1 := HSZ.out
                  exact ⟨k + 1, S, m, ⟨by have := HKN.out; omega⟩, congrArg (Value.int .i64) (by have := HNb.out; first | omega | (unfold wrap64; omega)), HM1, ⟨HD.out.stable _ _ _ HIn.out (HB3.out.mono (by omega))⟩, ⟨HL.out.1⟩, ⟨Kd.R_below HO.out HB3.out⟩, ⟨HB.out.trans (HB3.out.mono (by have := HBS.out; omega))⟩, ⟨by have := HB3.out.size; omega⟩, ⟨⟨(HB3.out.cell h1).trans HK.out.1, (HB3.out.cell h1).trans HK.out.2⟩⟩⟩
              | true =>
                have HS := Aside0.mk hs
                have d2 : decide (firstI m cs < 0) = true := (first_sat m cs).trans hs
                clear hs
                cases hg : (go S m).2 with
                | true =>
                  have HG := Aside0.mk hg
                  have HM1 : Aside0 (trialR cs go S0 (models n) = trialR cs go (go S m).1 ((models n).drop (k + 1))) := ⟨by rw [HM.out, HMS.out, trialR, HS.out, HG.out]; rfl⟩
                  clear hg
                  go_wp2_with (first | ((with_reducible refine (first_n n A c cs (some ⟨g7, 0, none⟩) c7 m _ (HR.out _ HB.out) HC.out HL.out.1 HCM.out HIM.out).mono ?_); rintro e w3 ⟨rfl, hb3⟩; have HB3 := Aside0.mk hb3; clear hb3) | ((with_reducible refine (HD.out.run S m (some ⟨g7, 0, none⟩) c7 _ (by have h1 := HSZ.out; have h2 := HB3.out.size; omega) HL.out.1 (HD.out.stable _ _ _ HIn.out (HB3.out.mono (by have h1 := HSZ.out; omega))) (Kd.C_below HCM.out HB3.out) HCC.out).mono ?_); rintro e w4 ⟨rfl, hq4, hi4⟩; rw [HG.out] at hi4 ⊢; have HQ4 := Aside0.mk hq4; have HI4 : Aside0 (Inv (go S m).1 w4) := ⟨by simpa using hi4⟩; clear hq4 hi4))
                  go_roundg k1
                  case measure => omega
                  case rel =>
                    have h1 := HSZ.out
                    have h2 := HB3.out.size
                    have h3 := HQ4.out.size
                    have h4 := HBS.out
                    exact ⟨k + 1, (go S m).1, m, ⟨by have := HKN.out; omega⟩, congrArg (Value.int .i64) (by have := HNb.out; first | omega | (unfold wrap64; omega)), HM1, HI4, ⟨HL.out.1⟩, ⟨Kd.R_mono (Kd.R_move (Kd.R_bound (Kd.R_below HO.out HB3.out)) (fun k hk => HQ4.out.block k hk.2.2.1 (.inr (by have := hk.2.1; omega)))) (fun _ _ => trivial)⟩, ⟨(HB.out.trans (HB3.out.mono (by omega))).trans (HQ4.out.below (by omega))⟩, ⟨by omega⟩, ⟨⟨(World.cell?_of_block (HQ4.out.block _ (by show w.heap.size < _; omega) (.inr (Nat.le_refl _)))).trans ((HB3.out.cell h1).trans HK.out.1), (World.cell?_of_block (HQ4.out.block _ (by show w.heap.size < _; omega) (.inr (Nat.le_refl _)))).trans ((HB3.out.cell h1).trans HK.out.2)⟩⟩⟩
                | false =>
                  have HG := Aside0.mk hg
                  have HM1 : Aside0 (trialR cs go S0 (models n) = ((go S m).1, false)) := ⟨by rw [HM.out, HMS.out, trialR, HS.out, HG.out]; rfl⟩
                  clear hg
                  go_wp2_with (first | ((with_reducible refine (first_n n A c cs (some ⟨g7, 0, none⟩) c7 m _ (HR.out _ HB.out) HC.out HL.out.1 HCM.out HIM.out).mono ?_); rintro e w3 ⟨rfl, hb3⟩; have HB3 := Aside0.mk hb3; clear hb3) | ((with_reducible refine (HD.out.run S m (some ⟨g7, 0, none⟩) c7 _ (by have h1 := HSZ.out; have h2 := HB3.out.size; omega) HL.out.1 (HD.out.stable _ _ _ HIn.out (HB3.out.mono (by have h1 := HSZ.out; omega))) (Kd.C_below HCM.out HB3.out) HCC.out).mono ?_); rintro e w4 ⟨rfl, hq4, hi4⟩; rw [HG.out] at hi4 ⊢; have HQ4 := Aside0.mk hq4; have HI4 : Aside0 (Fin (go S m).1 w4) := ⟨by simpa using hi4⟩; clear hq4 hi4))
                  go_ret
                  exact ⟨by rw [HE.out]; rfl, (HB.out.trans (HB3.out.mono (by have h1 := HSZ.out; have h4 := HBS.out; omega))).trans (HQ4.out.below (by have h1 := HSZ.out; have h2 := HB3.out.size; have h4 := HBS.out; omega)), by unfold AfterT; rw [HE.out, if_pos rfl, Int.toNat_natCast, HM1.out]; exact HI4.out⟩
        · have c0 : decide ((k : Int) < (N : Int)) = false := decide_eq_false (by omega)
          have HM1 : Aside0 (trialR cs go S0 (models n) = (S, true)) := ⟨by rw [HM.out, List.drop_of_length_le (by rw [models_length, ← HN2.out]; omega)]; rfl⟩
          go_wp2
          go_ret
          exact ⟨by rw [HE.out]; rfl, HB.out, by unfold AfterT; rw [HE.out, if_pos rfl, Int.toNat_natCast, HM1.out]; exact HIn.out⟩
  · have d0 : ((checkE v cs).2 != 0) = true := bne_iff_ne.2 h0
    have HE : Aside0 (trialsE v cs = (checkE v cs).2) := ⟨by unfold trialsE; rw [if_pos h0]⟩
    have HZ := Aside0.mk h0
    clear h0
    generalize hce : checkE v cs = ce at *
    have HCE := Aside0.mk hce
    clear hce
    go_enter Try.func25, Try.ntmps25
    go_wp2_with ((with_reducible refine (check_any v _ _ cs _ (HR.out _ (below_alloc (Below.refl _ _) _ |>.mono HBS.out)) HC.out).mono ?_); rintro e w1 ⟨rfl, hb1⟩; rw [HCE.out]; have HB1 := Aside0.mk hb1; clear hb1)
    go_ret
    exact ⟨by rw [HE.out]; rfl, ((below_alloc (Below.refl _ _) _).mono HBS.out).trans (HB1.out.mono (by have := HBS.out; simp; omega)), by unfold AfterT; rw [HE.out, if_neg HZ.out]; exact HD.out.stable _ _ _ HI.out ((below_alloc (Below.refl _ _) _).trans (HB1.out.mono (by simp)))⟩

end Go.Proofs.Ytjfmoildblcjiaa.H7
