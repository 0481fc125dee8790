/- What is proved here: contracts of follows and do, for a clause that comes by propagation, or for the empty one. -/
import Derived.Test.YtjfmoildblcjiaaH10
import Derived.Deep.AppendLies
import Derived.RangeFuncOwn
namespace Go.Proofs.Ytjfmoildblcjiaa.H11
open Go.RowKit Go.Proofs.YtjfmoildblcjiaaW.PrintWords Go.Proofs.YtjfmoildblcjiaaW.PrintLast Go.Proofs.YtjfmoildblcjiaaW.PrintMore Go.Proofs.Ytjfmoildblcjiaa.H1 Go.Proofs.Ytjfmoildblcjiaa.H2 Go.Proofs.Ytjfmoildblcjiaa.H3 Go.Proofs.Ytjfmoildblcjiaa.H4 Go.Proofs.Ytjfmoildblcjiaa.H5 Go.Proofs.Ytjfmoildblcjiaa.H7 Go.Proofs.Ytjfmoildblcjiaa.H9 Go.Proofs.Ytjfmoildblcjiaa.H10

set_option maxHeartbeats 1000000 in
set_option maxRecDepth 100000 in
theorem first_nil (p : Value) (A1 : Option Addr) (c1 : Nat) (w : World) :
    Calls Try.prog 32 #[p, .slice A1 0 c1] w fun e w' => e = .returned (.bool false) ∧ Below w.heap.size w w' := by
  go_enter Try.func32, Try.ntmps32
  go_wp2
  go_ret
  exact ⟨rfl, below_alloc (Below.refl _ _) _⟩

noncomputable def folE (v : Int) (cs : List (List Int)) (l : List Int) : Int := if okF (greatL v l) cs (negL l) = true then 0 else 1

set_option maxHeartbeats 1000000 in
set_option maxRecDepth 100000 in
theorem follows_any (g : Nat) (v : Int) (cs : List (List Int)) (A1 : Option Addr) (c1 : Nat) (l : List Int) (w : World) (hs : St w g v cs)
    (hr1 : Kd.C (Kd.int .i64) w A1 l.length l) (hc1 : l.length ≤ c1) (hl : l.length ≤ 16384) (hd : okF (greatL v l) cs (negL l) = true → l = []) :
    Calls Try.prog 19 #[.pointer (some ⟨g, 0, none⟩), .slice A1 l.length c1] w fun e w' => e = .returned (.int .i64 (folE v cs l)) ∧ Below w.heap.size w w' := by
  have HP := Aside0.mk (propagates_any g v cs A1 c1 l w hs hr1 hc1 hl)
  clear hs hr1 hc1 hl
  cases hb : okF (greatL v l) cs (negL l) with
  | false =>
    have HB := Aside0.mk hb
    have HE : Aside0 (folE v cs l = 1) := ⟨by unfold folE; rw [hb]; rfl⟩
    clear hb hd
    go_enter Try.func19, Try.ntmps19
    go_wp2_with ((with_reducible refine (HP.out).mono ?_); rintro e w1 ⟨rfl, hb1⟩; rw [HB.out]; have HB1 := Aside0.mk hb1; clear hb1)
    go_ret
    exact ⟨by rw [HE.out]; rfl, HB1.out⟩
  | true =>
    obtain rfl := hd hb
    have HB := Aside0.mk hb
    have HE : Aside0 (folE v cs [] = 0) := ⟨by unfold folE; rw [hb]; rfl⟩
    clear hb hd
    rw [show ([] : List Int).length = 0 from rfl] at *
    go_enter Try.func19, Try.ntmps19
    go_wp2_with (first | ((with_reducible refine (HP.out).mono ?_); rintro e w1 ⟨rfl, hb1⟩; rw [HB.out]; have HB1 := Aside0.mk hb1; clear hb1) | ((with_reducible refine (first_nil _ _ _ _).mono ?_); rintro e w2 ⟨rfl, hb2⟩; have HB2 := Aside0.mk hb2; clear hb2))
    go_ret
    exact ⟨by rw [HE.out]; rfl, HB1.out.trans (HB2.out.mono HB1.out.size)⟩

/-- The proof's formula lies in block g, its clauses in a row of its own; they lay in w0 or were made since. -/
def SO (w0 : World) (base : Nat) (w : World) (g : Nat) (v : Int) (cs : List (List Int)) : Prop :=
  base ≤ g ∧ ∃ u, w.heap[g]? = some (.cells #[.int .i64 v, u] 49 (0, 0)) ∧ Kd.R (mixK w0) 26 w base (fun _ => True) u cs
theorem SO.st {w0 w : World} {base g : Nat} {v : Int} {cs : List (List Int)} (h : SO w0 base w g v cs) (hb : Below w0.heap.size w0 w) : St w g v cs := by
  obtain ⟨_, u, hg, hr⟩ := h
  obtain ⟨A, c, rfl, hl, hc⟩ := Kd.R_reads hr
  exact ⟨A, c, hg, hl, mixK_C hc hb⟩
theorem SO.below {w0 w w' : World} {base g : Nat} {v : Int} {cs : List (List Int)} (h : SO w0 base w g v cs) (hb : Below w.heap.size w w') : SO w0 base w' g v cs := by
  obtain ⟨hbg, u, hg, hr⟩ := h
  exact ⟨hbg, u, (hb.block g (Array.getElem?_eq_some_iff.1 hg).1).trans hg, Kd.R_below hr hb⟩

theorem mixK_E {w0 : World} {q : Nat} (h : q ∈ 26 :: (mixK w0).E) : q ≠ 49 := by
  have h2 : q = 26 ∨ q = 3 := by simpa [mixK, Kd.mix, Kd.or_, Kd.fixed, Kd.slice, Kd.int, Kd.scalar] using h
  omega
theorem SO.setv {w0 w : World} {base g : Nat} {v : Int} {cs : List (List Int)} (h : SO w0 base w g v cs) (v' : Int) : SO w0 base (w.setCell ⟨g, 0, none⟩ (.int .i64 v')) g v' cs := by
  obtain ⟨hbg, u, hg, hr⟩ := h
  exact ⟨hbg, u, by simpa using blk_set hg 0 (.int .i64 v'), Kd.R_set hr hg (fun _ => mixK_E) 0 _⟩
theorem SO.put {w0 w : World} {base g : Nat} {v : Int} {cs : List (List Int)} {u u1 : Value} (hbg : base ≤ g) (hg : w.heap[g]? = some (.cells #[.int .i64 v, u] 49 (0, 0))) (hr : Kd.R (mixK w0) 26 w base (fun _ => True) u1 cs) : SO w0 base (w.setCell ⟨g, 1, none⟩ u1) g v cs :=
  ⟨hbg, u1, by simpa using blk_set hg 1 u1, Kd.R_set hr hg (fun _ => mixK_E) 1 _⟩

/-- What do leaves as it lay: whatever is no cells, and all cells but states and rows of clauses. -/
structure Ke (w w' : World) : Prop where
  ko : KeepsOthers w w'
  kt : ∀ (k : Nat) (cells : Array Value) (t : Nat), w.heap[k]? = some (.cells cells t (0, 0)) → t ≠ 49 → t ≠ 26 → w'.heap[k]? = some (.cells cells t (0, 0))
theorem Ke.trans {a b c : World} (h : Ke a b) (k : Ke b c) : Ke a c := ⟨h.ko.trans k.ko, fun i cells t hi h1 h2 => k.kt i cells t (h.kt i cells t hi h1 h2) h1 h2⟩
theorem Ke.below {w w' : World} (h : Below w.heap.size w w') : Ke w w' :=
  ⟨⟨h.size, fun k _ hk _ => (h.block k (Array.getElem?_eq_some_iff.1 hk).1).trans hk⟩, fun k _ _ hk _ _ => (h.block k (Array.getElem?_eq_some_iff.1 hk).1).trans hk⟩
theorem Ke.set {w : World} {g : Nat} {cells : Array Value} (hg : w.heap[g]? = some (.cells cells 49 (0, 0))) (i : Nat) (u : Value) : Ke w (w.setCell ⟨g, i, none⟩ u) :=
  ⟨KeepsOthers.setCell _ _ _, fun k c t hk h1 _ => by
    have hne : k ≠ g := fun e => by subst e; rw [hg] at hk; cases hk; exact h1 rfl
    exact (Below.heap_setCell _ _ _ _ hne).trans hk⟩
theorem Ke.row {w w' : World} {base : Nat} {d : Kd (List Int)} {ok : Nat → Prop} {v : Value} {xs : List (List Int)} (hr : Kd.R d 26 w base ok v xs) (hg : w.grownBy w' v.ownBlock) : Ke w w' :=
  ⟨KeepsOthers.of_grownBy hg (fun j o e ho => by
    obtain ⟨inner, hown⟩ := Kd.R_own hr
    obtain ⟨cells, hc⟩ := own_typed hown j e
    rw [hc] at ho
    cases ho
    rfl), fun k c t hk _ h2 => by
    refine (hg.block k (Array.getElem?_eq_some_iff.1 hk).1 (fun e => ?_)).trans hk
    obtain ⟨inner, hown⟩ := Kd.R_own hr
    obtain ⟨cells, hc⟩ := own_typed hown k e.symm
    rw [hk] at hc
    cases hc
    exact h2 rfl⟩

set_option maxHeartbeats 4000000 in
set_option maxRecDepth 100000 in
theorem do_add (w0 : World) (base g : Nat) (v : Int) (cs : List (List Int)) (A1 : Option Addr) (c1 : Nat) (l : List Int) (w : World) (hs : SO w0 base w g v cs) (hw : Below w0.heap.size w0 w) (hb0 : w0.heap.size ≤ base) (hb1 : base ≤ w.heap.size)
    (hr1 : Kd.C (Kd.int .i64) w0 A1 l.length l) (hc1 : l.length ≤ c1) (hl : l.length ≤ 16384) (hd : okF (greatL v l) cs (negL l) = true → l = []) (hcs : cs.length ≤ 1000000) :
    Calls Try.prog 57 #[.pointer (some ⟨g, 0, none⟩), .agg #[.bool false, .slice A1 l.length c1]] w fun e w' =>
      e = .returned (.int .i64 (if folE v cs l = 0 then 180 else 0)) ∧ Below base w w' ∧ Ke w w' ∧ (if folE v cs l = 0 then SO w0 base w' g v cs else SO w0 base w' g (greatL v l) (cs ++ [l])) := by
  have HS := Aside0.mk hs
  have HW := Aside0.mk hw
  have HB0 := Aside0.mk hb0
  have HBA := Aside0.mk hb1
  have HR1 := Aside0.mk hr1
  have HC1 := Aside0.mk hc1
  have HL := Aside0.mk hl
  have HD := Aside0.mk hd
  have HCS := Aside0.mk hcs
  clear hs hw hb0 hb1 hr1 hc1 hl hd hcs
  by_cases hf : folE v cs l = 0
  · have d0 : (folE v cs l == 0) = true := beq_iff_eq.2 hf
    simp only [if_pos hf]
    clear hf
    go_enter Try.func57, Try.ntmps57
    go_wp2_with ((with_reducible refine (follows_any g v cs A1 c1 l _ (HS.out.below (below_alloc (Below.refl _ _) _)|>.st ?hb) (Kd.C_below HR1.out ?hb2) HC1.out HL.out HD.out).mono ?_); (case hb => exact HW.out.trans ((below_alloc (Below.refl _ _) _).mono HW.out.size)); (case hb2 => exact HW.out.trans ((below_alloc (Below.refl _ _) _).mono HW.out.size)); rintro e w1 ⟨rfl, hb1⟩; have HB1 := Aside0.mk hb1; clear hb1)
    have HW1 : Aside0 (Below w.heap.size w w1) := ⟨(below_alloc (Below.refl _ _) _).trans (HB1.out.mono (by simp))⟩
    go_ret
    exact ⟨rfl, HW1.out.mono HBA.out, Ke.below HW1.out, HS.out.below HW1.out⟩
  · have d0 : (folE v cs l == 0) = false := beq_eq_false_iff_ne.2 hf
    simp only [if_neg hf]
    clear hf
    go_enter Try.func57, Try.ntmps57
    go_wp2_with ((with_reducible refine (follows_any g v cs A1 c1 l _ (HS.out.below (below_alloc (Below.refl _ _) _)|>.st ?hb) (Kd.C_below HR1.out ?hb2) HC1.out HL.out HD.out).mono ?_); (case hb => exact HW.out.trans ((below_alloc (Below.refl _ _) _).mono HW.out.size)); (case hb2 => exact HW.out.trans ((below_alloc (Below.refl _ _) _).mono HW.out.size)); rintro e w1 ⟨rfl, hb1⟩; have HB1 := Aside0.mk hb1; clear hb1)
    have HW1 : Aside0 (Below w.heap.size w w1) := ⟨(below_alloc (Below.refl _ _) _).trans (HB1.out.mono (by simp))⟩
    have HLT : Aside0 (w.heap.size < w1.heap.size) := ⟨by have := HB1.out.size; simp at this; omega⟩
    obtain ⟨hbg, u, hgw, hRw⟩ := HS.out.below HW1.out
    have HBG := Aside0.mk hbg
    have HGW := Aside0.mk hgw
    have HRW := Aside0.mk hRw
    have hglt : Aside0 (g < w.heap.size) := ⟨by obtain ⟨_, _, h, _⟩ := HS.out; exact (Array.getElem?_eq_some_iff.1 h).1⟩
    clear hbg hRw
    have hk0 : w1.cell? ⟨g, 0, none⟩ = some (.int .i64 v) := by simp [World.cell?, hgw]
    have hk1 : w1.cell? ⟨g, 1, none⟩ = some u := by simp [World.cell?, hgw]
    have hf0 : w1.frozen? ⟨g, 0, none⟩ = false := by simp [World.frozen?, hgw]
    have hf1 : w1.frozen? ⟨g, 1, none⟩ = false := by simp [World.frozen?, hgw]
    have hx0 : w1.cell? ⟨w.heap.size, 0, none⟩ = some (.bool false) := (HB1.out.cell (p := ⟨w.heap.size, 0, none⟩) (by simp)).trans (by simp)
    have hx1 : w1.cell? ⟨w.heap.size, 1, none⟩ = some (.slice A1 l.length c1) := (HB1.out.cell (p := ⟨w.heap.size, 1, none⟩) (by simp)).trans (by simp)
    have hne : (g == w.heap.size) = false := by have := hglt.out; simp; omega
    clear hgw HB1
    go_region_with (first | ((with_reducible refine (greatest_any v A1 _ l _ (Kd.C_below HR1.out ?hb) HC1.out).mono ?_); (case hb => exact HW.out.trans (below_drew (HW1.out.mono HW.out.size))); rintro e w' ⟨rfl, ⟨m2, rfl⟩⟩))
    all_goals (obtain ⟨W2, hW2⟩ : ∃ W2, W2 = World.setCell (w1.drewN (1 + m2)) ⟨g, 0, none⟩ (.int .i64 (greatL v l)) := ⟨_, rfl⟩)
    all_goals rw [← hW2]
    all_goals (have HS2 : Aside0 (SO w0 base W2 g (greatL v l) cs) := ⟨by rw [hW2]; exact SO.setv (SO.below (HS.out.below HW1.out) (pw_below_drewN (Below.refl _ _) _)) _⟩)
    all_goals (have HB2 : Aside0 (Below base w W2) := ⟨by rw [hW2]; exact ((HW1.out.mono HBA.out).trans (pw_below_drewN (Below.refl _ _) _)).setCell (by show base ≤ g; exact HBG.out) _⟩)
    all_goals (have HKO2 : Aside0 (Ke w W2) := ⟨by rw [hW2]; exact ((Ke.below HW1.out).trans (Ke.below (pw_below_drewN (Below.refl _ _) _))).trans (Ke.set (show (w1.drewN _).heap[g]? = _ from HGW.out) 0 _)⟩)
    all_goals (have HSZ2 : Aside0 (w.heap.size < W2.heap.size) := ⟨by rw [hW2]; simpa using HLT.out⟩)
    all_goals (have hy1 : W2.cell? ⟨w.heap.size, 1, none⟩ = some (.slice A1 l.length c1) := by rw [hW2]; exact (World.cell?_of_block (Below.heap_setCell _ _ _ _ (by show w.heap.size ≠ g; have := hglt.out; omega))).trans hx1)
    all_goals clear hW2 hk0 hk1 hf0 hf1 hx0 hx1 HS HW1 HLT HGW HRW hne
    all_goals (obtain ⟨_, u2, hg2, hr2⟩ := HS2.out)
    all_goals (have HG2 := Aside0.mk hg2; have HR2 := Aside0.mk hr2; clear hr2)
    all_goals (have hz1 : W2.cell? ⟨g, 1, none⟩ = some u2 := by simp [World.cell?, hg2])
    all_goals (have hz2 : W2.frozen? ⟨g, 1, none⟩ = false := by simp [World.frozen?, hg2])
    all_goals clear hg2
    all_goals go_wp2
    all_goals (have HNE : Aside0 (some g ≠ u2.ownBlock) := ⟨Kd.R_ne HR2.out HG2.out (by decide)⟩)
    all_goals (have HGL : Aside0 (g < W2.heap.size) := ⟨by have h1 := hglt.out; have h2 := HSZ2.out; omega⟩)
    all_goals (have HUL : Aside0 (∀ k, W2.heap.size ≤ k → some k ≠ u2.ownBlock) := ⟨fun k hk e => by obtain ⟨inner, hown⟩ := Kd.R_own HR2.out; have := own_lt hown k e.symm; omega⟩)
    all_goals (have HBB : Aside0 (base ≤ W2.heap.size) := ⟨by have h1 := HBA.out; have h2 := HSZ2.out; omega⟩)
    all_goals (have HWW : Aside0 (Below w0.heap.size w0 W2) := ⟨HW.out.trans (HB2.out.mono HB0.out)⟩)
    all_goals (go_region_law (first
      | (refine Kd.R_append_step (mixK w0) (w0 := w) base ?hw (.tmp 56) (.tmp 60) 22 26 (.slice none 0 0) 24 rfl Try.underlying22 info_clause rfl Nat.one_pos (by decide) u2 cs l [.slice Ac l.length cc] (fun _ => True) (fun k => W2.heap.size ≤ k) rfl rfl ?hp ?hokp (fun _ _ => trivial) ?HO ?HB ?hbase ?hl ?_; (case hw => rfl); (case hp => exact Kd.mix_made HRC.out); (case hokp => exact fun k hk => ⟨trivial, HUL.out k hk⟩); (case HO => exact Kd.R_below HR2.out HBC.out); (case HB => exact HB2.out.trans (HBC.out.mono HBB.out)); (case hbase => exact Nat.le_trans HBB.out HBC.out.size); (case hl => have := HCS.out; omega); intro v1 w9 ho9 hb9 hg9 hat9; obtain ⟨A9, c9, rfl⟩ := Kd.R_slice ho9; have HO9 := Aside0.mk ho9; have HB9 := Aside0.mk hb9; have HG9 : Aside0 (w9.heap[g]? = some (.cells #[.int .i64 (greatL v l), u2] 49 (0, 0))) := ⟨(hg9.block g (Nat.lt_of_lt_of_le HGL.out HBC.out.size) HNE.out).trans ((HBC.out.block g HGL.out).trans HG2.out)⟩; have hz3 : w9.cell? ⟨g, 1, none⟩ = some u2 := (by simp [World.cell?, HG9.out]); have hz4 : w9.frozen? ⟨g, 1, none⟩ = false := (by simp [World.frozen?, HG9.out]); have HKO9 : Aside0 (Ke w w9) := ⟨(HKO2.out.trans (Ke.below HBC.out)).trans (Ke.row (Kd.R_below HR2.out HBC.out) hg9)⟩; clear ho9 hb9 hg9 hat9)
      | (go_simp; (with_reducible refine (cloneC_any A1 _ l _ (Kd.C_below HR1.out ?hb) ?hl).mono ?_); (case hb => exact below_drew HWW.out); (case hl => have := HL.out; omega); rintro e w5 ⟨vc, rfl, hRc, hBc⟩; obtain ⟨Ac, cc, rfl⟩ := Kd.R_slice hRc; have HBC : Aside0 (Below W2.heap.size W2 w5) := ⟨⟨hBc.os, hBc.tape, hBc.output, hBc.size, hBc.block⟩⟩; have HRC : Aside0 (Kd.R (Kd.int .i64) 3 w5 base (fun k => W2.heap.size ≤ k) (.slice Ac l.length cc) l) := ⟨Kd.R_mono (Kd.R_lower (Kd.R_bound hRc) HBB.out) (fun k hk => hk.2.1)⟩; have hz5 : w5.cell? ⟨g, 1, none⟩ = some u2 := (HBC.out.cell (p := ⟨g, 1, none⟩) HGL.out).trans hz1; have hz6 : ∀ o, (w5.alloc o).cell? ⟨g, 1, none⟩ = some u2 := (fun o => ((HBC.out.alloc HBC.out.size o).cell (p := ⟨g, 1, none⟩) HGL.out).trans hz1); clear hRc hBc)))
    all_goals go_wp2
    all_goals go_ret
    all_goals exact ⟨rfl, HB9.out.setCell (by show base ≤ g; exact HBG.out) _, HKO9.out.trans (Ke.set HG9.out 1 _), SO.put HBG.out HG9.out (by have h := HO9.out; rwa [show (cs ++ [l]).length = cs.length + 1 by simp] at h)⟩
end Go.Proofs.Ytjfmoildblcjiaa.H11
