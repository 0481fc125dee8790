/- What is proved here: cnf.Models and proof.Check (of steps that come by propagation) as the printer's functions. -/
import Derived.Test.YtjfmoildblcjiaaH8
import Derived.Test.YtjfmoildblcjiaaH14
namespace Go.Proofs.Ytjfmoildblcjiaa.Orc
open Go.RowKit Go.Proofs.YtjfmoildblcjiaaW.PrintWords Go.Proofs.YtjfmoildblcjiaaW.PrintLast Go.Proofs.YtjfmoildblcjiaaW.PrintMore Go.Proofs.Ytjfmoildblcjiaa.QK Go.Proofs.Ytjfmoildblcjiaa.H1 Go.Proofs.Ytjfmoildblcjiaa.H2 Go.Proofs.Ytjfmoildblcjiaa.H7 Go.Proofs.Ytjfmoildblcjiaa.H8 Go.Proofs.Ytjfmoildblcjiaa.H4 Go.Proofs.Ytjfmoildblcjiaa.H9 Go.Proofs.Ytjfmoildblcjiaa.H10 Go.Proofs.Ytjfmoildblcjiaa.H11 Go.Proofs.Ytjfmoildblcjiaa.H12 Go.Proofs.Ytjfmoildblcjiaa.H13 Go.Proofs.Ytjfmoildblcjiaa.H14

def cnf_Models.f (a0_0 : Int) (l0_1 : List (List Int)) : Option (Int × Int) := some (modelsE a0_0 l0_1, trialsE a0_0 l0_1)
theorem cnf_Models.calls (a0_0 : Int) (A0_1 : Option Addr) (c0_1 : Nat) (l0_1 : List (List Int)) (r1 r2 : Int) (w : World) (hr0 : Kd.C (Kd.slice 3 (Kd.int .i64)) w A0_1 l0_1.length l0_1) (hc0 : l0_1.length ≤ c0_1) (h : cnf_Models.f a0_0 l0_1 = some (r1, r2)) :
    Calls Try.prog 13 #[.agg #[.int .i64 a0_0, .slice A0_1 l0_1.length c0_1]] w fun e w' => e = .returned (.tuple #[.int .i64 r1, .int .i64 r2]) ∧ Below w.heap.size w w' := by
  have e : (modelsE a0_0 l0_1, trialsE a0_0 l0_1) = (r1, r2) := Option.some.inj h
  cases e
  exact models_any a0_0 A0_1 c0_1 l0_1 w hr0 hc0

/-- The states of a proof all of whose lines add, and what is wrong with each. -/
noncomputable def stF (v : Int) (cs : List (List Int)) (ls : List S39) : Nat → Int × List (List Int)
  | 0 => (v, cs)
  | k + 1 => if folE (stF v cs ls k).1 (stF v cs ls k).2 (rd_T39 ls (k : Int)).f1 = 0 then stF v cs ls k else (greatL (stF v cs ls k).1 (rd_T39 ls (k : Int)).f1, (stF v cs ls k).2 ++ [(rd_T39 ls (k : Int)).f1])
noncomputable def erF (v : Int) (cs : List (List Int)) (ls : List S39) (k : Nat) : Int := if folE (stF v cs ls k).1 (stF v cs ls k).2 (rd_T39 ls (k : Int)).f1 = 0 then 180 else 0
/-- Each step that is come to adds, and comes by propagation, or is the empty clause. -/
def GoodP (v : Int) (cs : List (List Int)) (ls : List S39) : Prop :=
  (checkE v cs).2 = 0 → checkP ls = 0 → ∀ k, k < ls.length → Fine (erF v cs ls) ls k → (rd_T39 ls (k : Int)).f0 = false ∧
    (okF (greatL (stF v cs ls k).1 (rd_T39 ls (k : Int)).f1) (stF v cs ls k).2 (negL (rd_T39 ls (k : Int)).f1) = true → (rd_T39 ls (k : Int)).f1 = [])
theorem stF_len (v : Int) (cs : List (List Int)) (ls : List S39) : ∀ k, (stF v cs ls k).2.length ≤ cs.length + k
  | 0 => Nat.le_refl _
  | k + 1 => by
    have := stF_len v cs ls k
    rw [stF]
    split
    · omega
    · simp; omega
theorem doAt_of {v : Int} {cs : List (List Int)} {ls : List S39} (hG : GoodP v cs ls) (h1 : (checkE v cs).2 = 0) (h2 : checkP ls = 0) (w : World) (base g : Nat) (hb : w.heap.size ≤ base) (k : Nat) (hk : k < ls.length) (hf : Fine (erF v cs ls) ls k) :
    DoAt w base g (stF v cs ls k) (rd_T39 ls (k : Int)) (erF v cs ls k) (stF v cs ls (k + 1)) := by
  obtain ⟨hg, hd⟩ := hG h1 h2 k hk hf
  have hlen := stF_len v cs ls k
  have hck := checkP_ok h2
  have hcs := (checkE_ok h1).2.2.1
  have hx := hck.2 (rd_T39 ls (k : Int)) (by
    rw [rd_T39, List.getD_eq_getElem?_getD, Int.toNat_natCast, List.getElem?_eq_getElem hk]
    exact List.getElem_mem hk)
  intro A c W hS hW hbW hr hc
  rw [hg]
  refine (do_add w base g _ _ A c _ W hS hW hb hbW hr hc hx.1 hd (by omega)).mono ?_
  rintro e W' ⟨he, hB, hK, hs⟩
  refine ⟨he, hB, hK, ?_⟩
  rw [stF]
  split
  · rename_i h0; rw [if_pos h0] at hs; exact hs
  · rename_i h0; rw [if_neg h0] at hs; exact hs

open Classical in
noncomputable def proof_Check.f (a0_0 : Int) (l0_1 : List (List Int)) (l1 : List S39) : Option (Bool × Int × Int) := if GoodP a0_0 l0_1 l1 then some (walkE a0_0 l0_1 l1 (erF a0_0 l0_1 l1)) else none
theorem proof_Check.calls (a0_0 : Int) (A0_1 : Option Addr) (c0_1 : Nat) (l0_1 : List (List Int)) (A1 : Option Addr) (c1 : Nat) (l1 : List S39) (r1 : Bool) (r2 r3 : Int) (w : World) (hr0 : Kd.C (Kd.slice 3 (Kd.int .i64)) w A0_1 l0_1.length l0_1) (hc0 : l0_1.length ≤ c0_1) (hr1 : Kd.C k39 w A1 l1.length l1) (hc1 : l1.length ≤ c1) (h : proof_Check.f a0_0 l0_1 l1 = some (r1, r2, r3)) :
    Calls Try.prog 14 #[.agg #[.int .i64 a0_0, .slice A0_1 l0_1.length c0_1], .slice A1 l1.length c1] w fun e w' => e = .returned (.tuple #[.bool r1, .int .i64 r2, .int .i64 r3]) ∧ Below w.heap.size w w' := by
  unfold proof_Check.f at h
  split at h
  · rename_i hG
    have e := Option.some.inj h
    refine (pCheck_any a0_0 A0_1 c0_1 l0_1 A1 c1 l1 (stF a0_0 l0_1 l1) (erF a0_0 l0_1 l1) w hr0 hc0 hr1 hc1 rfl (fun h1 h2 w base g hb k hk hf => doAt_of hG h1 h2 w base g hb k hk hf)).mono ?_
    rintro e1 w' ⟨he, hb⟩
    rw [e] at he
    exact ⟨he, hb⟩
  · cases h
end Go.Proofs.Ytjfmoildblcjiaa.Orc
