/- What is proved here: the contract of cnf.Models. -/
import Derived.Test.YtjfmoildblcjiaaH7
namespace Go.Proofs.Ytjfmoildblcjiaa.H8
open Go.RowKit Go.Proofs.YtjfmoildblcjiaaW.PrintWords Go.Proofs.YtjfmoildblcjiaaW.PrintLast Go.Proofs.YtjfmoildblcjiaaW.PrintMore Go.Proofs.Ytjfmoildblcjiaa.H1 Go.Proofs.Ytjfmoildblcjiaa.H2 Go.Proofs.Ytjfmoildblcjiaa.H4 Go.Proofs.Ytjfmoildblcjiaa.H6 Go.Proofs.Ytjfmoildblcjiaa.H7

def goN (S : Int) (_ : List Bool) : Int × Bool := (wrap64 (S + 1), true)
def InvN (b : Nat) (S : Int) (w : World) : Prop := w.cell? ⟨b, 0, none⟩ = some (.int .i64 S) ∧ w.frozen? ⟨b, 0, none⟩ = false

set_option maxHeartbeats 1000000 in
set_option maxRecDepth 100000 in
theorem models1 (S : Int) (m : Value) (b : Nat) (w : World) (hc : w.cell? ⟨b, 0, none⟩ = some (.int .i64 S)) (hf : w.frozen? ⟨b, 0, none⟩ = false) :
    Calls Try.prog 26 #[m, .pointer (some ⟨b, 0, none⟩)] w fun e w' => e = .returned (.bool true) ∧ w' = w.setCell ⟨b, 0, none⟩ (.int .i64 (wrap64 (S + 1))) := by
  go_enter Try.func26, Try.ntmps26
  go_wp2
  go_ret
  exact ⟨rfl, rfl⟩

theorem specN (b B N v : Nat) (hb : B ≤ b) (hN : b < N) : DoSpec 26 #[.pointer (some ⟨b, 0, none⟩)] goN B N v (InvN b) (fun _ _ => False) where
  ent := ent_of Try.func26 (by kernel_rfl) rfl
  stable := fun S W W' h hB => ⟨(hB.cell (p := ⟨b, 0, none⟩) hN).trans h.1, (hB.frozen (p := ⟨b, 0, none⟩) hN).trans h.2⟩
  run := fun S m A cm W hNW hl hI _ _ => (models1 S _ b W hI.1 hI.2).mono fun e w' ⟨he, hw⟩ => by
    subst hw
    have hbl : b < W.heap.size := World.block_lt_of_cell? W _ hI.1
    refine ⟨he, ⟨rfl, rfl, rfl, by simp [World.setCell], fun k hk hk2 => Below.heap_setCell _ _ _ _ (by show k ≠ b; omega)⟩, ?_⟩
    rw [if_pos (show (goN S m).2 = true from rfl)]
    exact ⟨by rw [show (goN S m).1 = wrap64 (S + 1) from rfl]; exact World.cell?_setCell_same _ _ _ hI.1, by rw [World.frozen?_setCell]; exact hI.2⟩

theorem inv0 (w : World) (o : Obj) (t : Nat) : InvN (w.heap.size + 1) 0 ((w.alloc o).alloc (.cells #[.int .i64 0] t)) := by
  have h : ((w.alloc o).alloc (.cells #[.int .i64 0] t)).heap[w.heap.size + 1]? = some (.cells #[.int .i64 0] t (0, 0)) := by
    show ((w.heap.push o).push _)[w.heap.size + 1]? = _
    rw [Array.getElem?_push, if_pos (by simp)]
  exact ⟨by simp, by simp only [World.frozen?, h]; rfl⟩
def countM (v : Int) (cs : List (List Int)) : Nat := ((models v.toNat).filter (fun m => sat m cs)).length
theorem run_count (cs : List (List Int)) : ∀ (l : List (List Bool)) (S : Nat), S + l.length < 9223372036854775807 → trialR cs goN (S : Int) l = (((S + (l.filter (fun m => sat m cs)).length : Nat) : Int), true)
  | [], S, _ => rfl
  | m :: r, S, h => by
    rw [List.length_cons] at h
    rw [trialR, List.filter_cons]
    by_cases hs : sat m cs = true
    · have hw : (goN (S : Int) m).1 = ((S + 1 : Nat) : Int) := by show wrap64 _ = _; unfold wrap64; omega
      rw [if_pos hs, if_pos hs, if_pos (show (goN (S : Int) m).2 = true from rfl), hw, run_count cs r (S + 1) (by omega), List.length_cons]
      congr 2
      omega
    · rw [if_neg hs, if_neg hs, run_count cs r S (by omega)]
def modelsE (v : Int) (cs : List (List Int)) : Int := if trialsE v cs = 0 then (countM v cs : Int) else 0
theorem trials_small {v : Int} {cs : List (List Int)} (h : trialsE v cs = 0) : 0 ≤ v ∧ v ≤ 16 ∧ (checkE v cs).2 = 0 := by
  unfold trialsE at h
  split at h
  · exact absurd h ‹_›
  · rename_i h1
    have h2 : (checkE v cs).2 = 0 := by simpa using h1
    split at h
    · simp at h
    · exact ⟨(checkE_ok h2).1, by omega, h2⟩
theorem after_models {b : Nat} {v : Int} {cs : List (List Int)} {w' : World} (h : AfterT goN (InvN b) (fun _ _ => False) 0 v cs w') : w'.cell? ⟨b, 0, none⟩ = some (.int .i64 (modelsE v cs)) := by
  unfold AfterT at h
  unfold modelsE
  split at h
  · rename_i h0
    obtain ⟨hv0, hv1, _⟩ := trials_small h0
    have hr := run_count cs (models v.toNat) 0 (by
      rw [models_length]
      have : 2 ^ v.toNat ≤ 2 ^ 16 := Nat.pow_le_pow_right (by decide) (by omega)
      omega)
    rw [show ((0 : Nat) : Int) = 0 from rfl, Nat.zero_add] at hr
    rw [hr, if_pos rfl] at h
    rw [if_pos h0]
    exact h.1
  · rename_i h0
    rw [if_neg h0]
    exact h.1

set_option maxHeartbeats 2000000 in
set_option maxRecDepth 100000 in
theorem models_any (v : Int) (A : Option Addr) (c : Nat) (cs : List (List Int)) (w : World) (hr : Kd.C (Kd.slice 3 (Kd.int .i64)) w A cs.length cs) (hc : cs.length ≤ c) :
    Calls Try.prog 13 #[.agg #[.int .i64 v, .slice A cs.length c]] w fun e w' => e = .returned (.tuple #[.int .i64 (modelsE v cs), .int .i64 (trialsE v cs)]) ∧ Below w.heap.size w w' := by
  have HR := Aside0.mk hr
  have HC := Aside0.mk hc
  clear hr hc
  go_enter Try.func13, Try.ntmps13
  go_wp2_with ((with_reducible refine (trials_any goN (InvN (w.heap.size + 1)) (fun _ _ => False) _ _ 0 v A c cs w.heap.size _ ?hr HC.out ?hB ?hd ?hI).mono ?_); (case hr => exact fun W hW => Kd.C_below HR.out ((below_alloc (below_alloc (Below.refl _ _) _) _).trans hW)); (case hB => simp; omega); (case hd => exact specN _ _ _ _ (by omega) (by simp)); (case hI => exact inv0 w _ _); rintro e w1 ⟨rfl, hb1, ha1⟩; have k1 := after_models ha1; have HB1 := Aside0.mk hb1; clear hb1 ha1)
  go_ret2
  exact ⟨rfl, (below_alloc (below_alloc (Below.refl _ _) _) _).trans HB1.out⟩

end Go.Proofs.Ytjfmoildblcjiaa.H8
