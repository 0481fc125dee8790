/- What is proved here: contracts of proof.greatest, and of slices.Clone at clauses and at rows of clauses. -/
import Derived.Test.YtjfmoildblcjiaaH5
import Derived.Lib.SliceRun
namespace Go.Proofs.Ytjfmoildblcjiaa.H9
open Go.RowKit Go.Proofs.YtjfmoildblcjiaaW.PrintWords Go.Proofs.YtjfmoildblcjiaaW.PrintLast Go.Proofs.YtjfmoildblcjiaaW.PrintMore Go.Proofs.Ytjfmoildblcjiaa.H1 Go.Proofs.Ytjfmoildblcjiaa.H2 Go.Proofs.Ytjfmoildblcjiaa.H3 Go.Proofs.Ytjfmoildblcjiaa.H4 Go.Proofs.Ytjfmoildblcjiaa.H5

theorem max_3 (ats : Array TypeId) (ty : TypeId) (k k' k'' : IntKind) (a b c : Int) : Builtin.max_ ats ty #[.int k a, .int k' b, .int k'' c] = pure (.int k (max (max a b) c)) := by
  rw [max_three, max2_int]
  simp only [pure_bind, max2_int, bind_pure]
  congr 2
  split <;> split <;> omega
attribute [local go_sem] max_3
def greatL : Int → List Int → Int
  | n, [] => n
  | n, x :: r => greatL (max n (max x (wrap64 (-x)))) r

set_option maxHeartbeats 1000000 in
set_option maxRecDepth 100000 in
theorem greatest_any (n : Int) (A : Option Addr) (c : Nat) (l : List Int) (w : World) (hr : Kd.C (Kd.int .i64) w A l.length l) (_hc : l.length ≤ c) :
    Calls Try.prog 43 #[.int .i64 n, .slice A l.length c] w fun e w' => e = .returned (.int .i64 (greatL n l)) ∧ Drawn0 w w' := by
  have HR := Aside0.mk hr
  have HM := Aside0.mk (Kd.C_max hr)
  clear hr
  go_enter Try.func43, Try.ntmps43
  go_wp2
  go_loopg [0, 9] (l.length) (fun kq v0 v9 w' => ∃ (i : Nat) (m : Int), Aside0 (i + kq = l.length) ∧ v0 = .int .i64 m ∧ v9 = .int .i64 (i : Int) ∧ Aside0 (greatL n l = greatL m (l.drop i)) ∧ Drawn0 w w')
  case atStart => exact ⟨0, n, ⟨by omega⟩, rfl, rfl, ⟨rfl⟩, Drawn0.refl _⟩
  case round =>
    obtain ⟨i, m, HI, rfl, rfl, HA, ⟨m1, rfl⟩⟩ := hrel
    by_cases hlt : i < l.length
    · obtain ⟨k1, rfl⟩ : ∃ k1, gk = k1 + 1 := ⟨gk - 1, by have := HI.out; omega⟩
      have c0 : decide ((i : Int) < (l.length : Int)) = true := decide_eq_true (by omega)
      obtain ⟨ad, e1, hx⟩ := Kd.at_int HR.out (i : Int) (by omega) (by omega)
      cases e1
      have hx : w.cell? (ad.add i) = some (.int .i64 (rd l i)) := hx
      have HD : Aside0 (l.drop i = rd l i :: l.drop (i + 1)) := ⟨drop_rd hlt⟩
      generalize rd l (i : Int) = x at *
      have HA1 : Aside0 (greatL n l = greatL (max m (max x (wrap64 (-x)))) (l.drop (i + 1))) := ⟨by rw [HA.out, HD.out]; rfl⟩
      clear HA HD
      go_wp2
      go_roundg k1
      case measure => omega
      case rel => exact ⟨i + 1, _, ⟨by have := HI.out; omega⟩, rfl, congrArg (Value.int .i64) (wrapn hlt HM.out), HA1, ⟨_, rfl⟩⟩
    · have c0 : decide ((i : Int) < (l.length : Int)) = false := decide_eq_false (by omega)
      have HE : Aside0 (greatL n l = m) := ⟨by rw [HA.out, List.drop_of_length_le (by omega)]; rfl⟩
      go_wp2
      go_ret
      exact ⟨by rw [HE.out]; rfl, ⟨_, rfl⟩⟩

theorem greatL_ge : ∀ (l : List Int) (n : Int), n ≤ greatL n l
  | [], _ => Int.le_refl _
  | x :: r, n => Int.le_trans (by omega) (greatL_ge r (max n (max x (wrap64 (-x)))))
/-- All literals lie within b. -/
def Within (b : Int) (l : List Int) : Prop := ∀ x ∈ l, x ≠ 0 ∧ -b ≤ x ∧ x ≤ b
theorem greatL_le {b : Int} (hb : b ≤ 262144) : ∀ (l : List Int) (n : Int), n ≤ b → Within b l → greatL n l ≤ b
  | [], _, h, _ => h
  | x :: r, n, h, hw => by
    have h1 := hw x List.mem_cons_self
    refine greatL_le hb r _ ?_ (fun y hy => hw y (List.mem_cons_of_mem _ hy))
    have h5 : wrap64 (-x) = -x := by unfold wrap64; omega
    omega
theorem greatL_in {b : Int} (hb : b ≤ 262144) : ∀ (l : List Int) (n : Int), Within b l → Within (greatL n l) l
  | [], _, _ => fun x hx => by cases hx
  | x :: r, n, hw => fun y hy => by
    have h1 := hw x List.mem_cons_self
    rcases List.mem_cons.1 hy with rfl | hy
    · have h2 := greatL_ge r (max n (max y (wrap64 (-y))))
      have h5 : wrap64 (-y) = -y := by unfold wrap64; omega
      rw [h5] at h2
      rw [greatL, h5]
      exact ⟨h1.1, by omega, by omega⟩
    · exact greatL_in hb r _ (fun z hz => hw z (List.mem_cons_of_mem _ hz)) y hy

set_option maxHeartbeats 1000000 in
set_option maxRecDepth 100000 in
theorem cloneC_any (A : Option Addr) (c : Nat) (l : List Int) (w : World) (hr : Kd.C (Kd.int .i64) w A l.length l) (hb : l.length ≤ 1000000) :
    Calls Try.prog 29 #[.slice A l.length c] w fun e w' => ∃ v, e = .returned v ∧ Kd.R (Kd.int .i64) 3 w' w.heap.size (fun _ => True) v l ∧ Below w.heap.size w w' := by
  have HR := Aside0.mk hr
  have HB := Aside0.mk hb
  have hnil := fun (w : World) (a : Option Addr) (l c : Nat) => Go.Lib.run_eql_slice_nil (P := Try.prog) (w := w) (t := 26) (e := 3) (a := a) (n := l) (c := c) (n' := 0) (c' := 0) (h := Try.underlying26)
  clear hr hb
  cases A with
  | none =>
    have hl : l = [] := by
      have h1 := HR.out
      rcases Nat.eq_zero_or_pos l.length with h0 | h0
      · exact List.length_eq_zero_iff.1 h0
      · obtain ⟨ad, h2, _⟩ := h1.2.2 h0
        cases h2
    subst hl
    go_enter Try.func29, Try.ntmps29
    go_wp2
    go_ret
    exact ⟨_, rfl, Kd.R_nil _ _ _ _ _, Below.refl _ _⟩
  | some ad =>
    go_enter Try.func29, Try.ntmps29
    have HE0 : Aside0 (Kd.R (Kd.int .i64) 3 (w.alloc (.cells #[] 3)) w.heap.size (fun _ => True) (.slice (some ⟨w.heap.size, 0, none⟩) 0 0) []) := ⟨Kd.R_of_own (own_lit_of (enc := Value.int .i64) w w.heap.size 3 [] (Nat.le_refl _) (by simp)) (fun _ _ => trivial)⟩
    go_wp2_with ((with_reducible refine gate_builtin (b := .append) (xs := #[.tmp 5, .tmp 6]) rfl ?_); at_builtin; refine Kd.R_append_rows (Kd.int .i64) (Rr := (Kd.int .i64).K w) (w0 := w) w.heap.size rfl (.tmp 5) (.tmp 6) 26 3 (.int .i64 0) 8 rfl Try.underlying26 info_int rfl (by decide) (by decide) (.slice (some ⟨w.heap.size, 0, none⟩) 0 0) [] l (some ad) l.length c (fun _ => True) (fun _ => False) rfl rfl HE0.out (Kd.C_below HR.out (below_alloc (Below.refl _ _) _)) (fun _ _ h => h) (fun _ h => h.elim) (fun _ _ => trivial) (below_alloc (Below.refl _ _) _) (by simp) (by have := HB.out; simp; omega) ?_; intro v1 w9 ho hb hg hat; have HO9 := Aside0.mk ho; have HB9 := Aside0.mk hb; clear ho hb hg hat)
    go_ret
    exact ⟨_, rfl, by simpa using HO9.out, HB9.out⟩

/-- Clauses that lay in w0, or that were made since. -/
abbrev mixK (w0 : World) : Kd (List Int) := Kd.mix 3 (Kd.int .i64) (Kd.int .i64) w0
theorem info_clause : (Try.prog.info? 26).map (fun i => (i.zero, i.size, i.bytes)) = some (some (.slice none 0 0), 1, 24) := by kernel_rfl
theorem mixK_C {w0 w : World} {A : Option Addr} {n : Nat} {cs : List (List Int)} (h : Kd.C (mixK w0) w A n cs) (hb : Below w0.heap.size w0 w) : Kd.C (Kd.slice 3 (Kd.int .i64)) w A n cs :=
  ReadsRow.imp_ (R := (mixK w0).K w) h (Below.refl _ _) (fun _ _ hp => Kd.mix_read rfl (fun _ _ h => h) hb hp)

set_option maxHeartbeats 1000000 in
set_option maxRecDepth 100000 in
theorem cloneL_any (w0 : World) (A : Option Addr) (c : Nat) (cs : List (List Int)) (w : World) (hr : Kd.C (Kd.slice 3 (Kd.int .i64)) w0 A cs.length cs) (hw : Below w0.heap.size w0 w) (hb : cs.length ≤ 1000000) :
    Calls Try.prog 38 #[.slice A cs.length c] w fun e w' => ∃ v, e = .returned v ∧ Kd.R (mixK w0) 26 w' w.heap.size (fun _ => True) v cs ∧ Below w.heap.size w w' := by
  have HR := Aside0.mk hr
  have HB := Aside0.mk hb
  have HW := Aside0.mk hw
  have hnil := fun (w : World) (a : Option Addr) (l c : Nat) => Go.Lib.run_eql_slice_nil (P := Try.prog) (w := w) (t := 22) (e := 26) (a := a) (n := l) (c := c) (n' := 0) (c' := 0) (h := Try.underlying22)
  clear hr hb hw
  cases A with
  | none =>
    have hl : cs = [] := by
      have h1 := HR.out
      rcases Nat.eq_zero_or_pos cs.length with h0 | h0
      · exact List.length_eq_zero_iff.1 h0
      · obtain ⟨ad, h2, _⟩ := h1.2.2 h0
        cases h2
    subst hl
    go_enter Try.func38, Try.ntmps38
    go_wp2
    go_ret
    exact ⟨_, rfl, Kd.R_nil _ _ _ _ _, Below.refl _ _⟩
  | some ad =>
    go_enter Try.func38, Try.ntmps38
    have HE0 : Aside0 (Kd.R (mixK w0) 26 (w.alloc (.cells #[] 26)) w.heap.size (fun _ => True) (.slice (some ⟨w.heap.size, 0, none⟩) 0 0) []) := ⟨⟨fun _ _ => trivial, [], own_lit_of (enc := Value.int .i64) w w.heap.size 26 [] (Nat.le_refl _) (by simp), Reps.none _ _⟩⟩
    have HRR : Aside0 (ReadsRow ((Kd.slice 3 (Kd.int .i64)).K w0) 1 (w.alloc (.cells #[] 26)) (some ad) cs.length cs) := ⟨ReadsRow.imp_ (R := (Kd.slice 3 (Kd.int .i64)).K w0) HR.out (HW.out.trans ((below_alloc (Below.refl _ _) _).mono HW.out.size)) (fun _ _ h => h)⟩
    go_wp2_with ((with_reducible refine gate_builtin (b := .append) (xs := #[.tmp 5, .tmp 6]) rfl ?_); at_builtin; refine Kd.R_append_rows (mixK w0) (Rr := (Kd.slice 3 (Kd.int .i64)).K w0) (w0 := w) w.heap.size rfl (.tmp 5) (.tmp 6) 22 26 (.slice none 0 0) 24 rfl Try.underlying22 info_clause rfl Nat.one_pos (by decide) (.slice (some ⟨w.heap.size, 0, none⟩) 0 0) [] cs (some ad) cs.length c (fun _ => True) (fun _ => False) rfl rfl HE0.out HRR.out (fun _ _ h => .inl h) (fun _ h => h.elim) (fun _ _ => trivial) (below_alloc (Below.refl _ _) _) (by simp) (by have := HB.out; simp; omega) ?_; intro v1 w9 ho hb hg hat; have HO9 := Aside0.mk ho; have HB9 := Aside0.mk hb; clear ho hb hg hat)
    go_ret
    exact ⟨_, rfl, by simpa using HO9.out, HB9.out⟩
end Go.Proofs.Ytjfmoildblcjiaa.H9
