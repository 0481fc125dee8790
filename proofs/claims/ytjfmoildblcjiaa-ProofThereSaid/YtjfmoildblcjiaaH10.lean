/- What is proved here: contracts of proof.force (few literals) and propagates. -/
import Derived.Test.YtjfmoildblcjiaaH9
import Derived.Test.YtjfmoildblcjiaaH7
import Derived.Deep.RegionHeld3
namespace Go.Proofs.Ytjfmoildblcjiaa.H10
open Go.RowKit Go.Proofs.YtjfmoildblcjiaaW.PrintWords Go.Proofs.YtjfmoildblcjiaaW.PrintLast Go.Proofs.YtjfmoildblcjiaaW.PrintMore Go.Proofs.Ytjfmoildblcjiaa.H1 Go.Proofs.Ytjfmoildblcjiaa.H2 Go.Proofs.Ytjfmoildblcjiaa.H3 Go.Proofs.Ytjfmoildblcjiaa.H4 Go.Proofs.Ytjfmoildblcjiaa.H5 Go.Proofs.Ytjfmoildblcjiaa.H7 Go.Proofs.Ytjfmoildblcjiaa.H9

/-- Force finds no conflict (and takes what it is given). -/
noncomputable def okF (v : Int) (cs : List (List Int)) (l : List Int) : Bool :=
  if (checkE v cs).2 ≠ 0 then false else if litsE l v ≠ 0 then false else ((initL [] l).bind (forceV cs)).isSome
theorem answer_ok {v : Int} {cs : List (List Int)} {l : List Int} {w w' : World} {e : Ending} (h : Answer v cs l w w' e) : Below w.heap.size w w' ∧ ∃ u n, e = .returned (.tuple #[u, .bool (okF v cs l), .int .i64 n]) := by
  obtain ⟨hb, h⟩ := h
  refine ⟨hb, ?_⟩
  unfold okF
  split at h
  · rename_i h0
    rw [if_pos h0]
    exact ⟨_, _, h⟩
  · rename_i h0
    rw [if_neg h0]
    split at h
    · rename_i h1
      rw [if_pos h1]
      exact ⟨_, _, h⟩
    · rename_i h1
      rw [if_neg h1]
      split at h
      · rename_i h2
        rw [h2]
        exact ⟨_, _, h⟩
      · rename_i h2
        rw [h2]
        obtain ⟨_, u, h3, _⟩ := h
        exact ⟨_, _, h3⟩

set_option maxHeartbeats 2000000 in
set_option maxRecDepth 100000 in
theorem pforce_any (v : Int) (A : Option Addr) (c : Nat) (cs : List (List Int)) (A1 : Option Addr) (c1 : Nat) (l : List Int) (w : World) (hr : Kd.C (Kd.slice 3 (Kd.int .i64)) w A cs.length cs) (hc : cs.length ≤ c)
    (hr1 : Kd.C (Kd.int .i64) w A1 l.length l) (hc1 : l.length ≤ c1) (hl : l.length ≤ 16384) :
    Calls Try.prog 44 #[.agg #[.int .i64 v, .slice A cs.length c], .slice A1 l.length c1] w fun e w' => (∃ u, e = .returned (.tuple #[u, .bool (okF v cs l)])) ∧ Below w.heap.size w w' := by
  have HR := Aside0.mk hr
  have HC := Aside0.mk hc
  have HR1 := Aside0.mk hr1
  have HC1 := Aside0.mk hc1
  have d0 : decide ((l.length : Int) ≤ 16384) = true := decide_eq_true (by omega)
  clear hr hc hr1 hc1 hl
  go_enter Try.func44, Try.ntmps44
  go_wp2_with ((with_reducible refine (force_any v A c cs A1 c1 l _ (Kd.C_below HR.out (below_alloc (Below.refl _ _) _)) HC.out (Kd.C_below HR1.out (below_alloc (Below.refl _ _) _)) HC1.out).mono ?_); rintro e w1 ha; obtain ⟨hb1, u1, n1, rfl⟩ := answer_ok ha; have HB1 := Aside0.mk hb1; clear ha hb1)
  go_ret2
  exact ⟨⟨_, rfl⟩, (below_alloc (Below.refl _ _) _).trans (HB1.out.mono (by simp))⟩

theorem pforce_n (n : Nat) (v : Int) (A : Option Addr) (c : Nat) (cs : List (List Int)) (A1 : Option Addr) (c1 : Nat) (l : List Int) (w : World) (hr : Kd.C (Kd.slice 3 (Kd.int .i64)) w A cs.length cs) (hc : cs.length ≤ c)
    (hn : l.length = n) (hr1 : Kd.C (Kd.int .i64) w A1 n l) (hc1 : n ≤ c1) (hl : n ≤ 16384) :
    Calls Try.prog 44 #[.agg #[.int .i64 v, .slice A cs.length c], .slice A1 n c1] w fun e w' => (∃ u, e = .returned (.tuple #[u, .bool (okF v cs l)])) ∧ Below w.heap.size w w' := by
  subst hn
  exact pforce_any v A c cs A1 c1 l w hr hc hr1 hc1 hl
theorem heap_pair (w : World) (x y : Value) (t : Nat) : (w.alloc (.cells #[x, y] t)).heap[w.heap.size]? = some (.cells #[x, y] t (0, 0)) := by
  show (w.heap.push _)[w.heap.size]? = _
  rw [Array.getElem?_push, if_pos rfl]
theorem cell_pair0 (w : World) (x y : Value) (t : Nat) : (w.alloc (.cells #[x, y] t)).cell? ⟨w.heap.size, 0, none⟩ = some x := by simp only [World.cell?, heap_pair]; rfl
theorem cell_pair1 (w : World) (x y : Value) (t : Nat) : (w.alloc (.cells #[x, y] t)).cell? ⟨w.heap.size, 1, none⟩ = some y := by simp only [World.cell?, heap_pair]; rfl
theorem frozen_pair (w : World) (x y : Value) (i t : Nat) : (w.alloc (.cells #[x, y] t)).frozen? ⟨w.heap.size, i, none⟩ = false := by
  simp only [World.frozen?, heap_pair]
  cases i <;> rfl
/-- The proof's formula lies in block g. -/
def St (w : World) (g : Nat) (v : Int) (cs : List (List Int)) : Prop :=
  ∃ A c, w.heap[g]? = some (.cells #[.int .i64 v, .slice A cs.length c] 49 (0, 0)) ∧ cs.length ≤ c ∧ Kd.C (Kd.slice 3 (Kd.int .i64)) w A cs.length cs

def negL (c : List Int) : List Int := c.map fun x => wrap64 (-x)

theorem take_set_step {α : Type} {m ys : List α} {d : α} {n i : Nat} (hl : m.length = n) (ht : m.take i = ys.take i) (hi : i < ys.length) (hin : i < n := by omega) : (m.set i (ys.getD i d)).take (i + 1) = ys.take (i + 1) := by
  rw [List.take_succ_eq_append_getElem (by rw [List.length_set, hl]; exact hin), List.take_succ_eq_append_getElem hi]
  rw [List.take_set_of_le (Nat.le_refl i), ht]
  simp [List.getD_eq_getElem?_getD, List.getElem?_eq_getElem hi]

set_option maxHeartbeats 4000000 in
set_option maxRecDepth 100000 in
theorem propagates_any (g : Nat) (v : Int) (cs : List (List Int)) (A1 : Option Addr) (c1 : Nat) (l : List Int) (w : World) (hs : St w g v cs)
    (hr1 : Kd.C (Kd.int .i64) w A1 l.length l) (hc1 : l.length ≤ c1) (hl : l.length ≤ 16384) :
    Calls Try.prog 31 #[.pointer (some ⟨g, 0, none⟩), .slice A1 l.length c1] w fun e w' => e = .returned (.bool (!okF (greatL v l) cs (negL l))) ∧ Below w.heap.size w w' := by
  obtain ⟨A, c, hg, hc, hr⟩ := hs
  have HG := Aside0.mk hg
  have HR := Aside0.mk hr
  have HC := Aside0.mk hc
  have HR1 := Aside0.mk hr1
  have HC1 := Aside0.mk hc1
  have HL := Aside0.mk hl
  clear hg hr hc hr1 hc1 hl
  go_enter Try.func31, Try.ntmps31
  go_wp2_with ((with_reducible refine gate_dst (N := 13) rfl ?_); refine Kd.R_make (Kd.int .i64) _ 3 rfl (N := 13) rfl 25 _ _ rfl (l.length : Int) rfl rfl Try.underlying25 (.int .i64 0) 8 info_int rfl (by decide) (by omega) 0 (ok := fun _ => True) (okp := fun _ => True) rfl (fun _ hk => hk) trivial (by omega) (by have := HL.out; omega) (Below.refl _ _) (Nat.le_refl _) ?_; intro v13 w2 ho2 hb2 hg2 hn2; have HO2 := Aside0.mk ho2; have HB2 := Aside0.mk hb2; have HN7 := Aside0.mk hn2; clear ho2 hb2 hg2 hn2)
  obtain ⟨g7, hg7, hg7b⟩ := HN7.out
  obtain ⟨c7, rfl⟩ := slice_own HO2.out hg7
  rw [show (List.replicate (l.length : Int).toNat (0 : Int)).length = l.length by simp]
  have HO3 : Aside0 (Kd.R (Kd.int .i64) 3 w2 w.heap.size (fun _ => True) (.slice (some ⟨g7, 0, none⟩) l.length c7) (List.replicate l.length 0)) := ⟨by simpa using HO2.out⟩
  have HG7 := Aside0.mk hg7b
  clear HO2 HN7 hg7 hg7b
  go_loopg [16] (l.length) (fun kq v16 w' => ∃ (i : Nat) (m : List Int), Aside0 (i + kq = l.length) ∧ v16 = .int .i64 (i : Int) ∧ Aside0 (m.length = l.length ∧ m.take i = (negL l).take i) ∧ Aside0 (Kd.R (Kd.int .i64) 3 w' w.heap.size (fun _ => True) (.slice (some ⟨g7, 0, none⟩) l.length c7) m) ∧ Aside0 (Below w.heap.size w w'))
  case atStart => exact ⟨0, List.replicate l.length 0, ⟨by omega⟩, rfl, ⟨by simp, rfl⟩, HO3, HB2⟩
  case round =>
    clear HO3 HB2
    obtain ⟨i, m, HIK, rfl, HLm, HO, HB⟩ := hrel
    by_cases hi : i < l.length
    · obtain ⟨k2, rfl⟩ : ∃ k2, gk = k2 + 1 := ⟨gk - 1, by have := HIK.out; omega⟩
      have c1 : decide ((i : Int) < (l.length : Int)) = true := decide_eq_true (by omega)
      obtain ⟨ad, e1, hx⟩ := Kd.at_int (Kd.C_below HR1.out HB.out) (i : Int) (by omega) (by omega)
      cases e1
      have hx : wr.cell? (ad.add i) = some (.int .i64 (rd l i)) := hx
      have q0 : (0 ≤ (i : Int)) = True := eq_true (by omega)
      have q1 : ((i : Int) < (l.length : Int)) = True := eq_true (by omega)
      obtain ⟨hy1, hf1⟩ := Kd.R_celln 0 HO.out (i : Int) (by omega) (by omega)
      have hy : wr.cell? ⟨g7, i, none⟩ = some (.int .i64 (rdOf 0 m (i : Int))) := hy1
      have hf : wr.frozen? ⟨g7, i, none⟩ = false := hf1
      clear hy1 hf1
      have HNx : Aside0 (wrap64 (-(rd l (i : Int))) = (negL l).getD i 0) := ⟨by simp [negL, rd, List.getD_eq_getElem?_getD, List.getElem?_eq_getElem hi]⟩
      generalize rd l (i : Int) = x at *
      go_wp2
      go_roundg k2
      case measure => omega
      case rel =>
        obtain ⟨hr1, hg1⟩ := Kd.R_putg HO.out (i : Int) (wrap64 (-x))
        refine ⟨i + 1, _, ⟨by have := HIK.out; omega⟩, congrArg (Value.int .i64) (wrapn hi (by have := HL.out; omega)), ⟨⟨by rw [List.length_set]; exact HLm.out.1, ?_⟩⟩, ⟨hr1⟩, ⟨HB.out.grown hg1 HB.out.size (fun k hk => by injection hk with hk; have := HG7.out; omega)⟩⟩
        rw [HNx.out]
        exact take_set_step HLm.out.1 HLm.out.2 (by simp [negL]; exact hi)
    · have c1 : decide ((i : Int) < (l.length : Int)) = false := decide_eq_false (by omega)
      have hm : m = negL l := by
        have h2 := HLm.out.2
        have h3 := HIK.out
        rwa [List.take_of_length_le (by rw [HLm.out.1]; omega), List.take_of_length_le (by simp [negL]; omega)] at h2
      subst hm
      obtain ⟨hcn, hcc, hCm⟩ := Kd.R_reads' HO.out
      have HCM : Aside0 (Kd.C (Kd.int .i64) wr (some ⟨g7, 0, none⟩) l.length (negL l)) := ⟨by simpa [negL] using hCm⟩
      have HNL : Aside0 ((negL l).length = l.length) := ⟨by simp [negL]⟩
      have HCC := Aside0.mk hcc
      clear hcn hcc hCm
      have HGr : Aside0 (wr.heap[g]? = some (.cells #[.int .i64 v, .slice A cs.length c] 49 (0, 0))) := ⟨(HB.out.block g (Array.getElem?_eq_some_iff.1 HG.out).1).trans HG.out⟩
      have hk0 : wr.cell? ⟨g, 0, none⟩ = some (.int .i64 v) := by simp [World.cell?, HGr.out]
      have hk1 : wr.cell? ⟨g, 1, none⟩ = some (.slice A cs.length c) := by simp [World.cell?, HGr.out]
      go_wp2
      have HK : Aside0 (∀ W, Below w.heap.size w W → W.cell? ⟨g, 0, none⟩ = some (.int .i64 v) ∧ W.cell? ⟨g, 1, none⟩ = some (.slice A cs.length c)) := ⟨fun W hW => by
        have hb := (hW.block g (Array.getElem?_eq_some_iff.1 HG.out).1).trans HG.out
        exact ⟨by simp [World.cell?, hb], by simp [World.cell?, hb]⟩⟩
      have hA0 : ∀ (n : Nat) (x y : Value), ((wr.drewN n).alloc (.cells #[x, y] 24)).cell? ⟨wr.heap.size, 0, none⟩ = some x := fun n x y => cell_pair0 _ x y _
      have hA1 : ∀ (n : Nat) (x y : Value), ((wr.drewN n).alloc (.cells #[x, y] 24)).cell? ⟨wr.heap.size, 1, none⟩ = some y := fun n x y => cell_pair1 _ x y _
      have hAf : ∀ (n i : Nat) (x y : Value), ((wr.drewN n).alloc (.cells #[x, y] 24)).frozen? ⟨wr.heap.size, i, none⟩ = false := fun n i x y => frozen_pair _ x y i _
      go_region_held3 (fun W => W.cell? ⟨g, 0, none⟩ = some (.int .i64 v) ∧ W.cell? ⟨g, 1, none⟩ = some (.slice A cs.length c) ∧ Aside0 (Below w.heap.size w W))
        (first | (refine (fun hb => ⟨(HK.out _ hb).1, (HK.out _ hb).2, ⟨hb⟩⟩) ?_; repeat (first | exact HB.out | (apply Aside0.out; assumption) | apply below_drew | apply pw_below_drewN | apply below_alloc | refine Below.setCell ?_ (show w.heap.size ≤ wr.heap.size from HB.out.size) _)) | fail)
        (first | ((with_reducible refine (greatest_any v A1 _ l _ (Kd.C_below HR1.out ?hb) HC1.out).mono ?_); (case hb => repeat (first | exact HB.out | (apply Aside0.out; assumption) | apply below_drew | apply pw_below_drewN | apply below_alloc)); rintro e w' ⟨rfl, ⟨m2, rfl⟩⟩))
      all_goals (rename_i hS; obtain ⟨_, _, HBS⟩ := hS)
      all_goals (go_wp2_with ((with_reducible refine (pforce_n l.length (greatL v l) A c cs (some ⟨g7, 0, none⟩) c7 (negL l) _ (Kd.C_below HR.out HBS.out) HC.out HNL.out (Kd.C_below HCM.out ?hb2) HCC.out HL.out).mono ?_); (case hb2 => repeat (first | exact Below.refl _ _ | apply below_drew | apply pw_below_drewN | apply below_alloc | refine Below.setCell ?_ (show wr.heap.size ≤ wr.heap.size from Nat.le_refl _) _)); rintro e w3 ⟨⟨u3, rfl⟩, hb3⟩; have HB3 := Aside0.mk hb3; clear hb3))

      all_goals go_ret
      all_goals exact ⟨rfl, HBS.out.trans (HB3.out.mono HBS.out.size)⟩
end Go.Proofs.Ytjfmoildblcjiaa.H10
