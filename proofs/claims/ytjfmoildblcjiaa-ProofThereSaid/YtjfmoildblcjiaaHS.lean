/- What is proved here: slices.SortFunc by absolute value, as cnf.Force calls it. -/
import Derived.Test.YtjfmoildblcjiaaH4
import Derived.Test.YtjfmoildblcjiaaShelf
import Derived.Lib.OwnBridge
namespace Go.Proofs.Ytjfmoildblcjiaa.HS
open Go.RowKit Go.Proofs.YtjfmoildblcjiaaW.PrintWords Go.Proofs.YtjfmoildblcjiaaW.PrintLast Go.Proofs.YtjfmoildblcjiaaW.PrintMore Go.Proofs.Ytjfmoildblcjiaa.H1 Go.Proofs.Ytjfmoildblcjiaa.H4
open Go.Lib Go.Sort

abbrev Small := {x : Int // -262144 ≤ x ∧ x ≤ 262144}
instance : Inhabited Small := ⟨⟨0, by decide⟩⟩
def encS (x : Small) : Value := .int .i64 x.1
def cfS (x y : Small) : Int := absL x.1 - absL y.1
theorem oneS : OneCell encS := fun _ => rfl
theorem ltS (x y : Small) : ltOf cfS x y = decide (absL x.1 < absL y.1) := by
  unfold ltOf cfS
  exact decide_eq_decide.2 (by omega)
theorem swoS : SWO (ltOf cfS) where
  irrefl x := by rw [ltS]; simp
  trans x y z h1 h2 := by rw [ltS] at *; simp only [decide_eq_true_eq] at *; omega
  ntrans x y z h1 h2 := by rw [ltS] at *; simp only [decide_eq_false_iff_not] at *; omega

theorem mx_max (a b : Int) : mx a b = max a b := by unfold mx; split <;> omega
theorem closureS (x y : Int) (hx : -262144 ≤ x ∧ x ≤ 262144) (hy : -262144 ≤ y ∧ y ≤ 262144) (W : World) : Calls Try.prog 72 #[.int .i64 x, .int .i64 y] W fun e w' => e = .returned (.int .i64 (absL x - absL y)) ∧ ∃ q, w' = W.drewN q := by
  have H1 : Aside0 (wrap64 (-x) = -x) := ⟨by unfold wrap64; omega⟩
  have H2 : Aside0 (wrap64 (-y) = -y) := ⟨by unfold wrap64; omega⟩
  have H3 : Aside0 (wrap64 (absL x - absL y) = absL x - absL y) := by
    have h1 : 0 ≤ absL x ∧ absL x ≤ 262144 := by (unfold absL mx; split <;> omega)
    have h2 : 0 ≤ absL y ∧ absL y ≤ 262144 := by (unfold absL mx; split <;> omega)
    exact ⟨by unfold wrap64; omega⟩
  clear hx hy
  go_enter Try.func72, Try.ntmps72
  go_wp2
  go_ret
  exact ⟨by
    show Ending.returned (.int .i64 (wrap64 (max x (wrap64 (-x)) - max y (wrap64 (-y))))) = _
    rw [H1.out, H2.out, ← mx_max, ← mx_max]
    exact congrArg (fun n => Ending.returned (.int .i64 n)) H3.out, 0, rfl⟩

theorem small_of (l : List Int) (h : ∀ x ∈ l, -262144 ≤ x ∧ x ≤ 262144) : ∃ zs : List Small, l = zs.map Subtype.val :=
  ⟨l.pmap Subtype.mk h, by rw [List.map_pmap]; simp⟩

theorem sort_any (l : List Int) (v : Value) (base : Nat) (w : World) (hown : Kd.R (Kd.int .i64) 3 w base (fun _ => True) v l) (hg : LGood 262144 l) :
    Calls Try.prog 71 #[v, .func (.func 72) #[] #[]] w fun e w' => e = .returned (.tuple #[]) ∧ Kd.R (Kd.int .i64) 3 w' base (fun _ => True) v (sortA l) ∧ w.grownBy w' v.ownBlock := by
  have ho := Kd.own_of_R hown
  obtain ⟨A, c, rfl⟩ := Kd.R_slice hown
  by_cases h0 : l = []
  · subst h0
    refine (Go.Proofs.Try.slices_SortFunc_none (α := Small) A c _ w).mono ?_
    rintro e w' ⟨rfl, rfl⟩
    exact ⟨rfl, by rw [show sortA ([] : List Int) = [] from List.mergeSort_nil]; exact hown, ⟨rfl, rfl, rfl, Nat.le_refl _, fun _ _ _ => rfl⟩⟩
  · obtain ⟨zs, hz⟩ := small_of l (fun x hx => by have := (hg.rng x hx); omega)
    have hlen : l.length = zs.length := by rw [hz, List.length_map]
    have henc : encs (Value.int .i64) l = zs.map encS := by rw [hz, encs, List.map_map]; rfl
    rw [henc] at ho
    have hl0 : l.length ≠ 0 := fun h => h0 (List.length_eq_zero_iff.1 h)
    obtain ⟨g, cap, he, hb, hlt, hn, hm, hzl, hH⟩ := holds_of_ownsRow ho (fun e => by injection e with _ e2 _; exact hl0 e2)
    injection he with hA _ hc
    subst hA; subst hc
    have eg : ∀ args w, (callFunc 72 args).run Try.prog w = .ok (.enter 72 args) w := enters_of Try.func72 (by kernel_rfl) rfl
    have hcmp : Go.Proofs.CmpReads Try.prog 72 #[] encS cfS g 0 zs.toArray.size w := fun m os dk _ x y => closureS x.1 y.1 x.2 y.2 _
    have hs : l.length = zs.toArray.size := by rw [hlen, List.size_toArray]
    have hm2 : l.length < 4611686018427387904 := by
      have := good_len hg (by omega)
      omega
    have hcon := Go.Proofs.Try.slices_SortFunc encS oneS cfS swoS 72 #[] g 0 c zs.toArray w eg hcmp.lays hH hlt (by rw [← hs]; exact hm2)
    rw [← hs] at hcon
    refine hcon.mono ?_
    rintro e w' ⟨rfl, d', n, os, hp, hsd, rfl⟩
    have hdl : d'.toList.length = zs.length := by have := hp.1; simpa using this
    have hperm : d'.toList.Perm zs := by
      have h2 := hp.2.2
      rw [hs] at h2
      have e1 : d'.extract 0 zs.toArray.size = d' := by rw [← hp.1]; simp
      have e2 : zs.toArray.extract 0 zs.toArray.size = zs.toArray := by simp
      rw [e1, e2] at h2
      exact h2
    have hsort : d'.toList.map Subtype.val = sortA l := by
      refine sortA_unique hg (by rw [hz]; exact hperm.map _) ?_
      rw [List.pairwise_map, List.pairwise_iff_getElem]
      intro i j hi hj hij
      have h3 := hsd i j (Nat.zero_le _) hij (by rw [hlen, ← hdl]; exact hj)
      rw [ltS, decide_eq_false_iff_not] at h3
      rw [getElem!_pos d' i (by simpa using hi), getElem!_pos d' j (by simpa using hj)] at h3
      simp only [leA, decide_eq_true_eq, Array.getElem_toList]
      omega
    have hgrow : w.grownBy (Go.Proofs.sortWorld encS w g 0 n d' os) (some g) := ⟨rfl, rfl, rfl, by
      unfold Go.Proofs.sortWorld; rw [size_grow, Go.Proofs.size_putRow]; show w.heap.size ≤ w.heap.size + _; omega, fun k hk hne => by
      unfold Go.Proofs.sortWorld
      rw [heap_grow_old _ _ (by rw [Go.Proofs.size_putRow]; exact hk)]
      simp [putRow, mapBlock, Sort.ahead, Array.getElem?_modify, show g ≠ k from fun e => hne (by rw [e])]⟩
    refine ⟨rfl, ?_, hgrow⟩
    have hown2 := ownsRow_putRow (q := n) ho (ys := d'.toList) (by rw [hdl, hlen]) (Nat.le_refl _)
    rw [List.take_of_length_le (by rw [hdl, hlen]; exact Nat.le_refl _)] at hown2
    have hlen2 : (sortA l).length = l.length := by rw [← hsort, List.length_map, hdl, hlen]
    refine Kd.R_of_own ?_ (fun _ _ => trivial)
    rw [hlen2, ← hsort, encs, List.map_map]
    unfold Go.Proofs.sortWorld
    refine own_move hown2 (fun k hk => ?_)
    have hk' : g = k := by simpa [Value.ownBlock] using hk
    subst hk'
    rw [heap_grow_old _ _ (by rw [Go.Proofs.size_putRow]; exact hlt)]
end Go.Proofs.Ytjfmoildblcjiaa.HS
