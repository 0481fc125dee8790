/- What is proved here: laws of a map[int]int of the call's own whose elements are all 1 (a set of ints), over the model's own operations: make, look-up, store, range, next, entry. -/
import Derived.Test.YtjfmoildblcjiaaH1
namespace Go.Proofs.Ytjfmoildblcjiaa.HM
open Go.RowKit Go.Proofs.YtjfmoildblcjiaaW.PrintWords Go.Proofs.YtjfmoildblcjiaaW.PrintLast Go.Proofs.YtjfmoildblcjiaaW.PrintMore

def iv (x : Int) : Value := .int .i64 x
/-- The entries of a map whose keys are S in order of coming, each with the element 1. -/
structure Ents (es : Array MapEntry) (clock : Nat) (S : List Int) : Prop where
  keys : es.toList.map (·.key) = S.map iv
  vals : ∀ e ∈ es.toList, e.val = iv 1
  born : (es.toList.map (·.born)).Nodup
  old : ∀ e ∈ es.toList, e.born < clock
  nodup : S.Nodup
def IsSet (w : World) (b : Nat) (S : List Int) : Prop := ∃ es clock, w.heap[b]? = some (.map es clock) ∧ Ents es clock S

theorem iv_inj {a b : Int} (h : iv a = iv b) : a = b := by injection h
theorem findNow_none {x : Int} : ∀ (l : List MapEntry) (S : List Int) (i : Nat), l.map (·.key) = S.map iv → x ∉ S → Instr.findNow (.int .i64) (iv x) l i = some none
  | [], _, _, _, _ => rfl
  | e :: l, S, i, h, hx => by
    cases S with
    | nil => simp at h
    | cons y S =>
      simp only [List.map_cons, List.cons.injEq] at h
      have hy : (x == y) = false := beq_eq_false_iff_ne.2 (fun hh => hx (by simp [hh]))
      simp only [Instr.findNow, h.1, Instr.sameNow, iv, if_true, hy]
      exact findNow_none l S (i + 1) h.2 (fun hh => hx (by simp [hh]))
theorem findNow_some {x : Int} : ∀ (l : List MapEntry) (S : List Int) (i : Nat), l.map (·.key) = S.map iv → (∀ e ∈ l, e.val = iv 1) → x ∈ S → ∃ j, j < l.length ∧ (l[j]?).map (·.key) = some (iv x) ∧ Instr.findNow (.int .i64) (iv x) l i = some (some (i + j, iv 1))
  | [], S, _, h, _, hx => by
    cases S with
    | nil => simp at hx
    | cons y S => simp at h
  | e :: l, S, i, h, hv, hx => by
    cases S with
    | nil => simp at h
    | cons y S =>
      simp only [List.map_cons, List.cons.injEq] at h
      by_cases hy : x = y
      · refine ⟨0, by simp, by simp [h.1, hy], ?_⟩
        simp only [Instr.findNow, h.1, Instr.sameNow, iv, if_true, hy, beq_self_eq_true]
        rw [hv e (by simp)]
        rfl
      · have hy' : (x == y) = false := beq_eq_false_iff_ne.2 hy
        obtain ⟨j, hj, hk, hf⟩ := findNow_some l S (i + 1) h.2 (fun e he => hv e (by simp [he])) (by simpa [hy] using hx)
        refine ⟨j + 1, by simpa using hj, by simpa using hk, ?_⟩
        simp only [Instr.findNow, h.1, Instr.sameNow, iv, if_true, hy']
        rw [show i + (j + 1) = i + 1 + j from by omega]
        exact hf

section
variable {P : Program} {w : World} {b : Nat} {S : List Int} {T K E : TypeId}
theorem run_ck (em : Bool) (n : Nat) (x : Int) (w : World) (hK : P.underlying K = some (.int .i64)) : (Instr.checkKey em (n + 1) K (.int .i64 x)).run P w = .ok () w := by
  simp [Instr.checkKey, run_underlying hK]
theorem run_ck' (em : Bool) (x : Int) (w : World) (hK : P.underlying K = some (.int .i64)) : (Instr.checkKey em 10000 K (.int .i64 x)).run P w = .ok () w := run_ck em 9999 x w hK
theorem get_map {es : Array MapEntry} {clock : Nat} (h : w.heap[b]? = some (.map es clock)) : (getObj b).run P w = .ok (.map es clock) w := by simp [getObj, Sem.run, h]
theorem set_map {es : Array MapEntry} {clock : Nat} (h : w.heap[b]? = some (.map es clock)) (o : Obj) : (setObj b o).run P w = .ok () { w with heap := w.heap.setIfInBounds b o } := by simp [setObj, Sem.run, h]
theorem get_iter {m : Option Nat} {s c : Nat} {seen : Array Nat} (h : w.heap[b]? = some (.mapIter m s seen c)) : (getObj b).run P w = .ok (.mapIter m s seen c) w := by simp [getObj, Sem.run, h]
theorem set_iter {m : Option Nat} {s c : Nat} {seen : Array Nat} (h : w.heap[b]? = some (.mapIter m s seen c)) (o : Obj) : (setObj b o).run P w = .ok () { w with heap := w.heap.setIfInBounds b o } := by simp [setObj, Sem.run, h]
theorem grown_set (w : World) (b : Nat) (o : Obj) : w.grownBy { w with heap := w.heap.setIfInBounds b o } (some b) := by
  refine ⟨rfl, rfl, rfl, by simp, fun k _ hk => ?_⟩
  have : b ≠ k := fun e => hk (by rw [e])
  simp [this]
theorem lookup_in (hs : IsSet w b S) (hT : P.underlying T = some (.map K E)) (hK : P.underlying K = some (.int .i64)) {x : Int} (hx : x ∈ S) :
    (Instr.lookup T (.map (some b)) (.int .i64 x) false).run P w = .ok (.int .i64 1) w := by
  obtain ⟨es, clock, hb, F⟩ := hs
  obtain ⟨j, hj, _, hf⟩ := findNow_some es.toList S 0 F.keys F.vals hx
  unfold iv at hf
  simp [Instr.lookup, get_map hb, run_ck' _ x w hK, Instr.findKey, run_underlying hT, run_underlying hK, hf]
theorem lookup_out (hs : IsSet w b S) (hT : P.underlying T = some (.map K E)) (hK : P.underlying K = some (.int .i64)) (hE : (zeroValue E).run P w = .ok (.int .i64 0) w) {x : Int} (hx : x ∉ S) :
    (Instr.lookup T (.map (some b)) (.int .i64 x) false).run P w = .ok (.int .i64 0) w := by
  obtain ⟨es, clock, hb, F⟩ := hs
  have hf := findNow_none es.toList S 0 F.keys hx
  unfold iv at hf
  simp [Instr.lookup, get_map hb, run_ck' _ x w hK, Instr.findKey, run_underlying hT, run_underlying hK, hf, hE]
/-- A literal more in the set. -/
def put (S : List Int) (x : Int) : List Int := if x ∈ S then S else S ++ [x]
theorem made (w : World) : IsSet (w.alloc (.map #[] 0)) w.heap.size [] := ⟨#[], 0, heap_alloc_new w _, ⟨rfl, by simp, by simp, by simp, by simp⟩⟩
theorem IsSet.grown {w1 : World} {row : Option Nat} (h : IsSet w b S) (hg : w.grownBy w1 row) (hne : some b ≠ row) : IsSet w1 b S := by
  obtain ⟨es, clock, hb, F⟩ := h
  exact ⟨es, clock, (hg.block b (by
    rcases Nat.lt_or_ge b w.heap.size with h | h
    · exact h
    · simp [Array.getElem?_eq_none h] at hb) hne).trans hb, F⟩
theorem IsSet.lt (h : IsSet w b S) : b < w.heap.size := by
  obtain ⟨es, clock, hb, F⟩ := h
  rcases Nat.lt_or_ge b w.heap.size with h | h
  · exact h
  · simp [Array.getElem?_eq_none h] at hb
theorem IsSet.below {w1 : World} {B : Nat} (h : IsSet w b S) (hb : Below B w w1) (hB : b < B) : IsSet w1 b S := by
  obtain ⟨es, clock, h1, F⟩ := h
  exact ⟨es, clock, (hb.block b hB).trans h1, F⟩
theorem ents_modify {es : Array MapEntry} {clock i : Nat} {x : Int} (F : Ents es clock S) (hk : (es.toList[i]?).map (·.key) = some (iv x)) :
    Ents (es.modify i fun e => { e with key := iv x, val := iv 1 }) clock S := by
  have e1 : es.modify i (fun e => { e with key := iv x, val := iv 1 }) = es := by
    apply Array.ext_getElem?
    intro j
    rw [Array.getElem?_modify]
    by_cases hj : i = j
    · subst hj
      rw [if_pos rfl]
      cases he : es[i]? with
      | none => rfl
      | some e =>
        have hl : es.toList[i]? = some e := by rw [← he]; simp
        rw [hl] at hk
        have hk' : e.key = iv x := by simpa using hk
        have hv := F.vals e (List.mem_of_getElem? hl)
        simp only [Option.map_some, ← hk', ← hv]
    · rw [if_neg hj]
  rw [e1]
  exact F
theorem ents_push {es : Array MapEntry} {clock : Nat} {x : Int} (F : Ents es clock S) (hx : x ∉ S) : Ents (es.push { key := iv x, val := iv 1, born := clock }) (clock + 1) (S ++ [x]) := by
  refine ⟨by simp [F.keys], ?_, ?_, ?_, ?_⟩
  · intro e he
    simp only [Array.toList_push, List.mem_append, List.mem_singleton] at he
    rcases he with he | rfl
    · exact F.vals e he
    · rfl
  · rw [Array.toList_push, List.map_append, List.nodup_append]
    refine ⟨F.born, by simp, ?_⟩
    intro a ha c hc
    obtain ⟨e, he, rfl⟩ := List.mem_map.1 ha
    have := F.old e he
    have hc' : c = clock := by simpa using hc
    omega
  · intro e he
    simp only [Array.toList_push, List.mem_append, List.mem_singleton] at he
    rcases he with he | rfl
    · have := F.old e he; omega
    · exact Nat.lt_succ_self _
  · rw [List.nodup_append]
    exact ⟨F.nodup, by simp, fun a ha c hc => by rw [List.mem_singleton.1 hc]; exact fun e => hx (e ▸ ha)⟩
theorem update_run (hs : IsSet w b S) (hT : P.underlying T = some (.map K E)) (hK : P.underlying K = some (.int .i64)) (x : Int) :
    ∃ w1, (Instr.mapUpdate T (.map (some b)) (.int .i64 x) (.int .i64 1)).run P w = .ok () w1 ∧ IsSet w1 b (put S x) ∧ w.grownBy w1 (some b) ∧ w1.heap.size = w.heap.size := by
  have hlt := hs.lt
  obtain ⟨es, clock, hb, F⟩ := hs
  by_cases hx : x ∈ S
  · obtain ⟨j, hj, hk, hf⟩ := findNow_some es.toList S 0 F.keys F.vals hx
    have hkey : ((es[j]?).map (·.key)).getD (.int .i64 x) = .int .i64 x := by
      have : (es[j]?).map (·.key) = some (iv x) := by simpa using hk
      rw [this]; rfl
    refine ⟨{ w with heap := w.heap.setIfInBounds b (.map (es.modify j fun e => { e with key := iv x, val := iv 1 }) clock) }, ?_, ⟨es.modify j fun e => { e with key := iv x, val := iv 1 }, clock, by simp [hlt], ?_⟩, grown_set w b _, by simp⟩
    · have hs10 : Instr.sameBits 10000 (.int .i64 x) (.int .i64 x) = true := by simp [Instr.sameBits]
      rw [Nat.zero_add] at hf
      unfold iv at hf
      simp [Instr.mapUpdate, get_map hb, run_ck' _ x w hK, Instr.findKey, run_underlying hT, run_underlying hK, hf, Instr.keyThatStays, hkey, hs10, set_map hb, iv]
    · unfold put; rw [if_pos hx]; exact ents_modify F hk
  · have hf := findNow_none es.toList S 0 F.keys hx
    refine ⟨{ w with heap := w.heap.setIfInBounds b (.map (es.push { key := iv x, val := iv 1, born := clock }) (clock + 1)) }, ?_, ⟨es.push { key := iv x, val := iv 1, born := clock }, clock + 1, by simp [hlt], ?_⟩, grown_set w b _, by simp⟩
    · unfold iv at hf
      simp [Instr.mapUpdate, get_map hb, run_ck' _ x w hK, Instr.findKey, run_underlying hT, run_underlying hK, hf, set_map hb, iv]
    · unfold put; rw [if_neg hx]; exact ents_push F hx
end

section
variable {P : Program} {w : World} {ops : Array Oper} {rest : List Oper} {o : Oper} {a : Act} {Q : Exit → Act → World → Prop} {b : Nat} {S : List Int}
theorem wpl_update (hg : o.guard = none) (m x : Operand) (T : TypeId) (hop : o.op = Op.mapUpdate T m x (.const (.int .i64 1))) {K E : TypeId} (hT : P.underlying T = some (.map K E)) (hK : P.underlying K = some (.int .i64)) (y : Int)
    (hm : a.eval m = .map (some b)) (hx : a.eval x = .int .i64 y) (hs : IsSet w b S)
    (h : ∀ w1, IsSet w1 b (put S y) → w.grownBy w1 (some b) → w1.heap.size = w.heap.size → wpList P ops Q rest (a.put o.dst undef) w1) : wpList P ops Q (o :: rest) a w := by
  refine wpList_plain hg fun K' hK' => ?_
  obtain ⟨w1, hrun, r1, r2, r3⟩ := update_run hs hT hK y
  unfold Oper.wp
  have hc : a.eval (.const (.int .i64 1)) = .int .i64 1 := rfl
  simp [execOp, hop, hm, hx, hc, hrun, Result.andThen]
  exact hK' _ _ (h w1 r1 r2 r3)
end

/-! The range over the set: what is done so far (in the order in which it came), out of S. -/
def IsIter (w : World) (r b : Nat) (S done : List Int) : Prop :=
  r ≠ b ∧ ∃ es clock seen, w.heap[b]? = some (.map es clock) ∧ Ents es clock S ∧ w.heap[r]? = some (.mapIter (some b) clock seen clock) ∧
    ∃ ds : List MapEntry, (∀ e ∈ ds, e ∈ es.toList) ∧ ds.Nodup ∧ seen.toList = ds.map (·.born) ∧ ds.map (·.key) = done.map iv
section
variable {P : Program} {w : World} {r b : Nat} {S done : List Int}
theorem born_inj {es : Array MapEntry} {clock : Nat} (F : Ents es clock S) {e e' : MapEntry} (h : e ∈ es.toList) (h' : e' ∈ es.toList) (hb : e.born = e'.born) : e = e' := by
  have hp := F.born
  rw [List.Nodup, List.pairwise_map] at hp
  obtain ⟨i, hi, rfl⟩ := List.getElem_of_mem h
  obtain ⟨j, hj, rfl⟩ := List.getElem_of_mem h'
  rcases Nat.lt_trichotomy i j with hij | hij | hij
  · exact absurd hb (List.pairwise_iff_getElem.1 hp i j hi hj hij)
  · subst hij; rfl
  · exact absurd hb.symm (List.pairwise_iff_getElem.1 hp j i hj hi hij)
theorem key_inj {es : Array MapEntry} {clock : Nat} (F : Ents es clock S) {e e' : MapEntry} (h : e ∈ es.toList) (h' : e' ∈ es.toList) (hb : e.key = e'.key) : e = e' := by
  have hp : (es.toList.map (·.key)).Nodup := by
    rw [F.keys, List.Nodup, List.pairwise_map]
    exact F.nodup.imp (fun hne e => hne (iv_inj e))
  rw [List.Nodup, List.pairwise_map] at hp
  obtain ⟨i, hi, rfl⟩ := List.getElem_of_mem h
  obtain ⟨j, hj, rfl⟩ := List.getElem_of_mem h'
  rcases Nat.lt_trichotomy i j with hij | hij | hij
  · exact absurd hb (List.pairwise_iff_getElem.1 hp i j hi hj hij)
  · subst hij; rfl
  · exact absurd hb.symm (List.pairwise_iff_getElem.1 hp j i hj hi hij)
theorem IsIter.set (h : IsIter w r b S done) : IsSet w b S := by
  obtain ⟨_, es, clock, seen, h1, F, _⟩ := h
  exact ⟨es, clock, h1, F⟩
theorem IsIter.grown {w1 : World} {row : Option Nat} (h : IsIter w r b S done) (hg : w.grownBy w1 row) (hb : some b ≠ row) (hr : some r ≠ row) : IsIter w1 r b S done := by
  obtain ⟨hne, es, clock, seen, h1, F, h2, ds⟩ := h
  have lt : ∀ k o, w.heap[k]? = some o → k < w.heap.size := fun k o hk => by
    rcases Nat.lt_or_ge k w.heap.size with h | h
    · exact h
    · simp [Array.getElem?_eq_none h] at hk
  exact ⟨hne, es, clock, seen, (hg.block b (lt _ _ h1) hb).trans h1, F, (hg.block r (lt _ _ h2) hr).trans h2, ds⟩
/-- Each that is done is of S, each once; where all are done it is S in another order. -/
theorem IsIter.sub (h : IsIter w r b S done) : done.Nodup ∧ ∀ x ∈ done, x ∈ S := by
  obtain ⟨_, es, clock, seen, _, F, _, ds, hsub, hnd, _, hk⟩ := h
  have hkn : (ds.map (·.key)).Nodup := by
    rw [List.Nodup, List.pairwise_map]
    refine hnd.imp_of_mem ?_
    intro a c ha hc hne e
    exact hne (key_inj F (hsub a ha) (hsub c hc) e)
  constructor
  · rw [hk, List.Nodup, List.pairwise_map] at hkn
    exact hkn.imp (fun h e => h (by rw [e]))
  · intro x hx
    have : iv x ∈ ds.map (·.key) := by rw [hk]; exact List.mem_map_of_mem hx
    obtain ⟨e, he, hke⟩ := List.mem_map.1 this
    have : iv x ∈ es.toList.map (·.key) := hke ▸ List.mem_map_of_mem (hsub e he)
    rw [F.keys] at this
    obtain ⟨y, hy, hyx⟩ := List.mem_map.1 this
    rw [← iv_inj hyx]
    exact hy
theorem range_run (hs : IsSet w b S) {T K E : TypeId} (hT : P.underlying T = some (.map K E)) :
    ∃ w1, (Instr.range T (.map (some b))).run P w = .ok (.pointer (some ⟨w.heap.size, 0, none⟩)) w1 ∧ IsIter w1 w.heap.size b S [] ∧ w.grownBy w1 none ∧ w1.heap.size = w.heap.size + 1 := by
  have hlt := hs.lt
  obtain ⟨es, clock, hb, F⟩ := hs
  refine ⟨w.alloc (.mapIter (some b) clock #[] clock), ?_, ⟨by omega, es, clock, #[], (Below.heap_alloc w _ b hlt).trans hb, F, heap_alloc_new w _, [], by simp, by simp, rfl, rfl⟩, World.grownBy_alloc w _ none, by simp⟩
  simp [Instr.range, run_underlying hT, get_map hb]
theorem choose_some (w : World) (n : Nat) (hn : 0 < n) : ∃ i w2, i < n ∧ (choose (.mapNext n)).run P w = .ok i w2 ∧ (w2 = w ∨ w2 = w.drew) := by
  by_cases h : (Question.mapNext n).forced = true
  · exact ⟨0, w, hn, by simp [h], .inl rfl⟩
  · exact ⟨_, w.drew, Nat.mod_lt (w.tape w.drawn (.mapNext n)) hn, by simp [h, Question.cut], .inr rfl⟩
theorem next_run (h : IsIter w r b S done) (ty : TypeId) :
    (done.length = S.length ∧ (Instr.next (.pointer (some ⟨r, 0, none⟩)) false ty).run P w = .ok (.tuple #[.bool false]) w) ∨
    ∃ x w1, x ∉ done ∧ (Instr.next (.pointer (some ⟨r, 0, none⟩)) false ty).run P w = .ok (.tuple #[.bool true, .int .i64 x, .int .i64 1]) w1 ∧ IsIter w1 r b S (done ++ [x]) ∧ w.grownBy w1 (some r) ∧ w1.heap.size = w.heap.size ∧
      (Instr.entry (.pointer (some ⟨r, 0, none⟩))).run P w1 = .ok (.tuple #[.int .i64 x, .int .i64 1]) w1 := by
  obtain ⟨hne, es, clock, seen, h1, F, h2, ds, hsub, hnd, hseen, hk⟩ := h
  have lt : ∀ k o, w.heap[k]? = some o → k < w.heap.size := fun k o hk => by
    rcases Nat.lt_or_ge k w.heap.size with h | h
    · exact h
    · simp [Array.getElem?_eq_none h] at hk
  have hguard : (!seen.isEmpty && !es.isEmpty && es.all (fun e => decide (e.born ≥ clock))) = false := by
    cases he : es.isEmpty with
    | true => simp
    | false =>
      have : es.all (fun e => decide (e.born ≥ clock)) = false := by
        rw [← Array.all_toList, List.all_eq_false]
        have hpos : 0 < es.toList.length := by
          rcases Nat.eq_zero_or_pos es.toList.length with h0 | h0
          · simp at h0; simp [h0] at he
          · exact h0
        refine ⟨es.toList[0], List.getElem_mem hpos, ?_⟩
        have := F.old _ (List.getElem_mem hpos)
        simp only [ge_iff_le, decide_eq_true_eq]
        omega
      simp [this]
  generalize hL : es.filter (fun e => !seen.contains e.born) = L
  have hmem : ∀ e, e ∈ L.toList ↔ e ∈ es.toList ∧ e ∉ ds := by
    intro e
    rw [← hL]
    simp only [Array.toList_filter, List.mem_filter, Bool.not_eq_true', ← Array.contains_toList, hseen]
    constructor
    · rintro ⟨a, c⟩
      refine ⟨a, fun hd => ?_⟩
      rw [List.contains_eq_mem] at c
      exact absurd (List.mem_map_of_mem hd) (of_decide_eq_false c)
    · rintro ⟨a, c⟩
      refine ⟨a, ?_⟩
      rw [List.contains_eq_mem]
      refine decide_eq_false (fun hm => ?_)
      obtain ⟨d, hd, hdb⟩ := List.mem_map.1 hm
      exact c (born_inj F (hsub d hd) a hdb ▸ hd)
  have hold : L.filter (fun e => decide (e.born < clock)) = L := by
    apply Array.ext'
    rw [Array.toList_filter, List.filter_eq_self]
    intro e he
    exact decide_eq_true (F.old e ((hmem e).1 he).1)
  have hnew : L.filter (fun e => decide (e.born ≥ clock)) = #[] := by
    apply Array.ext'
    rw [Array.toList_filter, List.filter_eq_nil_iff]
    intro e he
    have := F.old e ((hmem e).1 he).1
    simp only [ge_iff_le, decide_eq_true_eq]
    omega
  by_cases hz : L = #[]
  · left
    constructor
    · have hl1 : done.length = ds.length := by have := congrArg List.length hk; simpa using this.symm
      have hl2 : S.length = es.toList.length := by have := congrArg List.length F.keys; simpa using this.symm
      rw [hl1, hl2]
      refine Nat.le_antisymm ?_ ?_
      · exact (hnd.length_le_of_subset (fun e he => hsub e he))
      · have hnes : es.toList.Nodup := by
          have hp := F.born
          rw [List.Nodup, List.pairwise_map] at hp
          exact hp.imp (fun h e => h (by rw [e]))
        refine hnes.length_le_of_subset ?_
        · intro e he
          rcases Classical.em (e ∈ ds) with hd | hd
          · exact hd
          · have := (hmem e).2 ⟨he, hd⟩
            rw [hz] at this
            simp at this
    · subst hz
      simp only [Instr.next, Sem.run_bind, get_iter h2, Result.andThen, get_map h1, hguard, Bool.false_eq_true, if_false, hL, hold, hnew]
      simp [Question.forced]
  · right
    have hpos : 0 < L.size := Nat.pos_of_ne_zero (fun h => hz (Array.eq_empty_of_size_eq_zero h))
    have hemp : L.isEmpty = false := by cases h : L.isEmpty with
      | false => rfl
      | true => exact absurd (Array.isEmpty_iff.1 h) hz
    obtain ⟨i, w2, hi, hch, hw2⟩ := choose_some (P := P) w L.size hpos
    have hLi : L[i]? = some L[i] := Array.getElem?_eq_getElem hi
    generalize L[i] = e at hLi
    have he : e ∈ L.toList := by
      have : L.toList[i]? = some e := by simpa using hLi
      exact List.mem_of_getElem? this
    obtain ⟨hes, hds⟩ := (hmem e).1 he
    have hkx : ∃ x, e.key = iv x := by
      have : e.key ∈ S.map iv := F.keys ▸ List.mem_map_of_mem hes
      obtain ⟨x, _, hx⟩ := List.mem_map.1 this
      exact ⟨x, hx.symm⟩
    obtain ⟨x, hx⟩ := hkx
    have hh2 : w2.heap = w.heap := by rcases hw2 with rfl | rfl <;> rfl
    have h2' : w2.heap[r]? = some (.mapIter (some b) clock seen clock) := by rw [hh2]; exact h2
    have hg0 : w.grownBy w2 (some r) := by
      rcases hw2 with rfl | rfl
      · exact ⟨rfl, rfl, rfl, Nat.le_refl _, fun _ _ _ => rfl⟩
      · exact ⟨rfl, rfl, rfl, Nat.le_refl _, fun _ _ _ => rfl⟩
    have hg1 := grown_set w2 r (.mapIter (some b) clock (seen.push e.born) clock)
    have hg2 : w.grownBy { w2 with heap := w2.heap.setIfInBounds r (.mapIter (some b) clock (seen.push e.born) clock) } (some r) :=
      ⟨hg1.os.trans hg0.os, hg1.tape.trans hg0.tape, hg1.output.trans hg0.output, Nat.le_trans hg0.size hg1.size, fun k hk hn => (hg1.block k (by rw [hh2]; exact hk) hn).trans (hg0.block k hk hn)⟩
    have hr2 : r < w2.heap.size := by rw [hh2]; exact lt r _ h2
    have hb3 : ({ w2 with heap := w2.heap.setIfInBounds r (.mapIter (some b) clock (seen.push e.born) clock) } : World).heap[b]? = some (.map es clock) := by
      simp only [Array.getElem?_setIfInBounds, if_neg hne, hh2]; exact h1
    have hr3 : ({ w2 with heap := w2.heap.setIfInBounds r (.mapIter (some b) clock (seen.push e.born) clock) } : World).heap[r]? = some (.mapIter (some b) clock (seen.push e.born) clock) := by
      simp only [Array.getElem?_setIfInBounds, if_true, if_pos hr2]
    refine ⟨x, { w2 with heap := w2.heap.setIfInBounds r (.mapIter (some b) clock (seen.push e.born) clock) }, ?_, ?_, ⟨hne, es, clock, _, hb3, F, hr3, ds ++ [e], ?_, ?_, ?_, ?_⟩, hg2, by simp [hh2], ?_⟩
    · intro hxd
      have : iv x ∈ ds.map (·.key) := by rw [hk]; exact List.mem_map_of_mem hxd
      obtain ⟨d, hd, hdk⟩ := List.mem_map.1 this
      exact hds (key_inj F (hsub d hd) hes (hdk.trans hx.symm) ▸ hd)
    · have hsz : (#[] ++ (L ++ #[]).map some : Array (Option MapEntry)).size = L.size := by simp
      have hget : (#[] ++ (L ++ #[]).map some : Array (Option MapEntry))[i]? = some (some e) := by simp [hLi]
      simp only [Instr.next, Sem.run_bind, get_iter h2, Result.andThen, get_map h1, hguard, Bool.false_eq_true, if_false, Sem.run_pure, hL, hold, hnew, hemp, hsz, hch, hget, set_iter h2', hx, F.vals e hes]
      rfl
    · intro d hd
      rcases List.mem_append.1 hd with hd | hd
      · exact hsub d hd
      · rw [List.mem_singleton.1 hd]; exact hes
    · rw [List.nodup_append]
      exact ⟨hnd, by simp, fun a ha c hc => by rw [List.mem_singleton.1 hc]; exact fun h => hds (h ▸ ha)⟩
    · simp [hseen]
    · simp [hk, hx]
    · have hback : (seen.push e.born).back? = some e.born := by simp
      have hfind : es.find? (fun d => d.born == e.born) = some e := by
        rw [← Array.find?_toList, List.find?_eq_some_iff_getElem]
        obtain ⟨j, hj, hje⟩ := List.getElem_of_mem hes
        refine ⟨by simp, j, hj, hje, fun k hk => ?_⟩
        have : es.toList[k]'(by omega) ≠ e := by
          intro hh
          have hp := F.born
          rw [List.Nodup, List.pairwise_map] at hp
          have := List.pairwise_iff_getElem.1 hp k j (by omega) hj hk
          exact this (by rw [hh, hje])
        simp only [Bool.not_eq_true', beq_eq_false_iff_ne, ne_eq]
        exact fun hh => this (born_inj F (List.getElem_mem _) hes hh)
      simp only [Instr.entry, Sem.run_bind, get_iter hr3, Result.andThen, hback, get_map hb3, bne_self_eq_false, Bool.false_eq_true, if_false, hfind, Sem.run_pure, hx, F.vals e hes]
      rfl
end

section
variable {P : Program} {w : World} {ops : Array Oper} {rest : List Oper} {o : Oper} {a : Act} {Q : Exit → Act → World → Prop} {r b : Nat} {S done : List Int}
theorem wpl_range (hg : o.guard = none) (m : Operand) (T : TypeId) (hop : o.op = Op.range T m) {K E : TypeId} (hT : P.underlying T = some (.map K E)) (hm : a.eval m = .map (some b)) (hs : IsSet w b S)
    (h : ∀ w1, IsIter w1 w.heap.size b S [] → w.grownBy w1 none → w1.heap.size = w.heap.size + 1 → wpList P ops Q rest (a.put o.dst (.pointer (some ⟨w.heap.size, 0, none⟩))) w1) : wpList P ops Q (o :: rest) a w := by
  refine wpList_plain hg fun K' hK' => ?_
  obtain ⟨w1, hrun, r1, r2, r3⟩ := range_run hs hT
  unfold Oper.wp
  simp [execOp, hop, hm, hrun, Result.andThen]
  exact hK' _ _ (h w1 r1 r2 r3)
theorem wpl_next (hg : o.guard = none) (it : Operand) (hop : o.op = Op.next it false) (hit : a.eval it = .pointer (some ⟨r, 0, none⟩)) (hs : IsIter w r b S done)
    (hDone : done.length = S.length → wpList P ops Q rest (a.put o.dst (.tuple #[.bool false])) w)
    (hMore : ∀ x w1, x ∉ done → IsIter w1 r b S (done ++ [x]) → w.grownBy w1 (some r) → w1.heap.size = w.heap.size → (Instr.entry (.pointer (some ⟨r, 0, none⟩))).run P w1 = .ok (.tuple #[.int .i64 x, .int .i64 1]) w1 →
      wpList P ops Q rest (a.put o.dst (.tuple #[.bool true, .int .i64 x, .int .i64 1])) w1) : wpList P ops Q (o :: rest) a w := by
  refine wpList_plain hg fun K' hK' => ?_
  unfold Oper.wp
  rcases next_run (P := P) hs o.type with ⟨h0, hrun⟩ | ⟨x, w1, hx, hrun, r1, r2, r3, r4⟩
  · simp [execOp, hop, hit, hrun, Result.andThen]
    exact hK' _ _ (hDone h0)
  · simp [execOp, hop, hit, hrun, Result.andThen]
    exact hK' _ _ (hMore x w1 hx r1 r2 r3 r4)
end

end Go.Proofs.Ytjfmoildblcjiaa.HM
