/- law27: the document's has, in, known, parts, may, by the chunk layer. -/
import Derived.Test.YtallboljaphbpaaP3
import Derived.WalkKit
import Derived.WalkSpells
import Derived.Maps.RangeWalk
import Derived.Maps.Own
import Derived.Sort.KeysCollected
import Derived.Maps.AppendAt
import Derived.OwnWalk
import Derived.Deep.Slices
import Derived.Deep.Fields
import Derived.ChangeSame
import Derived.Test.YtallboljaphbpaaRows
import Derived.ProofKit
set_option linter.unusedVariables false
set_option linter.unusedSimpArgs false
namespace Go.Am
open Go Go.Proofs Go.RowKit Go.ChangeMaps

/-! ### the range over a map: laws at the operations, of entries as they lie -/
def keyStr (e : MapEntry) : List UInt8 := match e.key with
  | .string s => s.data.toList
  | _ => []
structure Rng (w : World) (b r clock : Nat) (ms : Array MapEntry) (seen : Array Nat) : Prop where
  map : w.heap[b]? = some (.map ms clock)
  it : ∃ c0, w.heap[r]? = some (.mapIter (some b) clock seen c0) ∧ clock ≤ c0
theorem Rng.grown {w w' : World} {b r clock : Nat} {ms : Array MapEntry} {seen : Array Nat} {row : Option Nat} (h : Rng w b r clock ms seen) (g : w.grownBy w' row) (h1 : some b ≠ row) (h2 : some r ≠ row) : Rng w' b r clock ms seen := by
  obtain ⟨hm, c0, hi, hc⟩ := h
  have hbl := (Array.getElem?_eq_some_iff.1 hm).1
  have hrl := (Array.getElem?_eq_some_iff.1 hi).1
  exact ⟨by rw [g.block b hbl h1]; exact hm, c0, by rw [g.block r hrl h2]; exact hi, hc⟩
theorem Rng.alloc {w : World} {b r clock : Nat} {ms : Array MapEntry} {seen : Array Nat} (h : Rng w b r clock ms seen) (o : Obj) : Rng (w.alloc o) b r clock ms seen := by
  obtain ⟨hm, c0, hi, hc⟩ := h
  have hbl := (Array.getElem?_eq_some_iff.1 hm).1
  have hrl := (Array.getElem?_eq_some_iff.1 hi).1
  exact ⟨by rw [qcg w o b hbl]; exact hm, c0, by rw [qcg w o r hrl]; exact hi, hc⟩

theorem left_perm {ms : Array MapEntry} {seen : Array Nat} (hn : (ms.toList.map (·.born)).Nodup) {e : MapEntry} (he : e ∈ (leftOf ms seen).toList) : (leftOf ms seen).toList.Perm (e :: (leftOf ms (seen.push e.born)).toList) := by
  unfold leftOf at he ⊢
  simp only [Array.toList_filter] at he ⊢
  obtain ⟨l⟩ := ms
  simp only at he hn ⊢
  induction l with
  | nil => cases he
  | cons x l ih =>
    simp only [List.map_cons, List.nodup_cons] at hn
    by_cases hx : x = e
    · subst hx
      have hs : seen.contains x.born = false := by
        have := (List.mem_filter.1 he).2
        simpa using this
      have h1 : ∀ y ∈ l, (!(seen.push x.born).contains y.born) = !(seen.contains y.born) := fun y hy => by
        have hne : y.born ≠ x.born := fun q => hn.1 (List.mem_map.2 ⟨y, hy, q⟩)
        simp [Array.contains_push, hne]
      simp only [List.filter_cons, hs, Bool.not_false, if_true]
      rw [List.filter_congr h1]
      have h2 : (!(seen.push x.born).contains x.born) = false := by simp [Array.contains_push]
      rw [h2]
      exact .refl _
    · have he' : e ∈ l.filter fun e => !(seen.contains e.born) := by
        rw [List.filter_cons] at he
        split at he
        · rcases List.mem_cons.1 he with q | q
          · exact absurd q.symm hx
          · exact q
        · exact he
      have hel : e ∈ l := (List.mem_filter.1 he').1
      have hne : x.born ≠ e.born := fun q => hn.1 (List.mem_map.2 ⟨e, hel, q.symm⟩)
      have h2 : (!(seen.push e.born).contains x.born) = !(seen.contains x.born) := by simp [Array.contains_push, hne]
      have := ih hn.2 he'
      simp only [List.filter_cons, h2]
      split
      · exact (this.cons x).trans (.swap _ _ _)
      · exact this

section
variable {P : Program} {w : World} {ops : Array Oper} {rest : List Oper} {o : Oper} {a : Act} {Q : Exit → Act → World → Prop}
theorem wpList_range_raw (hg : o.guard = none) (m : Operand) (t : TypeId) (hop : o.op = Op.range t m) (k e : TypeId) (ht : P.underlying t = some (.map k e)) (b clock : Nat) (ms : Array MapEntry)
    (hm : a.eval m = .map (some b)) (hown : w.heap[b]? = some (.map ms clock))
    (hK : ∀ w', Rng w' b w.heap.size clock ms #[] → w.grownBy w' none → w'.heap.size = w.heap.size + 1 → wpList P ops Q rest (a.put o.dst (.pointer (some ⟨w.heap.size, 0, none⟩))) w') :
    wpList P ops Q (o :: rest) a w := by
  refine wpList_plain hg fun K' hK' => ?_
  have hrun : (Instr.range t (.map (some b))).run P w = .ok (.pointer (some ⟨w.heap.size, 0, none⟩)) (w.alloc (.mapIter (some b) clock #[] clock)) := by
    simp [Instr.range, run_underlying ht, getObj, Sem.run, hown, newObj]
  unfold Oper.wp
  simp [execOp, hop, hm, hrun, Result.andThen]
  have hbl := (Array.getElem?_eq_some_iff.1 hown).1
  refine hK' _ _ (hK _ ⟨?_, clock, ?_, Nat.le_refl _⟩ ?_ ?_)
  · rw [qcg w _ b hbl]; exact hown
  · exact World.alloc_heap_new w _
  · exact World.grownBy_alloc w _ none
  · simp
theorem wpList_next_raw (hg : o.guard = none) (it : Operand) (hop : o.op = Op.next it false) (b r clock : Nat) (ms : Array MapEntry) (seen : Array Nat)
    (hit : a.eval it = .pointer (some ⟨r, 0, none⟩)) (h : Rng w b r clock ms seen) (hb : Born ms clock) (hbr : b ≠ r)
    (hDone : (leftOf ms seen).toList = [] → wpList P ops Q rest (a.put o.dst (.tuple #[.bool false])) w)
    (hMore : ∀ (e : MapEntry) (w' : World), e ∈ (leftOf ms seen).toList → Rng w' b r clock ms (seen.push e.born) → w.grownBy w' (some r) → w'.heap.size = w.heap.size → (Instr.entry (.pointer (some ⟨r, 0, none⟩))).run P w' = .ok (.tuple #[e.key, e.val]) w' →
      wpList P ops Q rest (a.put o.dst (.tuple #[.bool true, e.key, e.val])) w') :
    wpList P ops Q (o :: rest) a w := by
  refine wpList_plain hg fun K' hK' => ?_
  unfold Oper.wp
  obtain ⟨hm, c0, hi, hc⟩ := h
  have hbl := (Array.getElem?_eq_some_iff.1 hm).1
  have hrl := (Array.getElem?_eq_some_iff.1 hi).1
  rcases run_next_at (P := P) w o.type r b clock c0 seen ms clock hi hm hb.2 hc with ⟨h0, hrun⟩ | ⟨e, he, w1, hw1, hrun⟩
  · simp [execOp, hop, hit, hrun, Result.andThen]
    exact hK' _ _ (hDone (by simpa using h0))
  · simp [execOp, hop, hit, hrun, Result.andThen]
    have hw1h : w1.heap = w.heap := by rcases hw1 with rfl | rfl <;> rfl
    have hs1 : (setBlock w1 r (.mapIter (some b) clock (seen.push e.born) clock)).heap[b]? = some (.map ms clock) := by
      simp only [setBlock, Array.getElem?_setIfInBounds, hw1h]
      rw [if_neg (fun q => hbr q.symm)]; exact hm
    have hs2 : (setBlock w1 r (.mapIter (some b) clock (seen.push e.born) clock)).heap[r]? = some (.mapIter (some b) clock (seen.push e.born) clock) := by
      simp only [setBlock, Array.getElem?_setIfInBounds, hw1h]
      simp [hrl]
    refine hK' _ _ (hMore e _ he ⟨hs1, clock, hs2, Nat.le_refl _⟩ ?_ ?_ ?_)
    · refine ⟨?_, ?_, ?_, ?_, fun i hi hr => ?_⟩
      · rcases hw1 with rfl | rfl <;> rfl
      · rcases hw1 with rfl | rfl <;> rfl
      · rcases hw1 with rfl | rfl <;> rfl
      · simp [setBlock, hw1h]
      · simp only [setBlock, Array.getElem?_setIfInBounds, hw1h]
        rw [if_neg (fun q => hr (by rw [q]))]
    · simp [setBlock, hw1h]
    · refine run_entry_at _ r b clock seen ms clock e hs2 hs1 ?_ hb.1
      have := he
      unfold leftOf at this
      simp only [Array.toList_filter] at this
      exact (List.mem_filter.1 this).1
end

set_option maxRecDepth 100000 in
set_option maxHeartbeats 1000000 in
theorem list_any (b clock : Nat) (ms : Array MapEntry) (w : World) (hm : w.heap[b]? = some (.map ms clock)) (hb : Born ms clock) (hk : ∀ e ∈ ms.toList, ∃ s : ByteArray, e.key = .string s) (hn : ms.size < 1099511627776) :
    Calls Try.prog 49 #[.agg #[.map (some b)]] w fun e w' => ∃ (v : Value) (ss : List (List UInt8)), e = .returned v ∧ ss.Perm (ms.toList.map keyStr) ∧ w'.ownsRow w.heap.size 9 1 v ss.length (ss.map Go.Proofs.encStr) ∧ Below w.heap.size w w' := by
  have hbl := (Array.getElem?_eq_some_iff.1 hm).1
  obtain ⟨i0, hi, hz0, hz1, hz2⟩ := info_parts (P := Try.prog) (e := 9) (z := .string ⟨#[]⟩) (size := 1) (bytes := 16) (by kernel_rfl)
  go_enter Try.func49, Try.ntmps49
  go_wp2_with (first
    | (at_range; refine wpList_range_raw rfl _ 67 rfl 9 3 Try.underlying67 b clock ms rfl (by rw [qcg _ _ _ hbl]; exact hm) ?_; intro w0 hrg0 hg0 hs0)
    | go_in)
  go_frame
  go_loopw [2] (fun v wr => ∃ (seen : Array Nat) (ss : List (List UInt8)), Rng wr b (w.alloc (.cells #[.map (some b)] 69)).heap.size clock ms seen ∧ (ss ++ (leftOf ms seen).toList.map keyStr).Perm (ms.toList.map keyStr) ∧
      wr.ownsRow w.heap.size 9 1 v ss.length (ss.map Go.Proofs.encStr) ∧ Below w.heap.size w wr)
    (fun _ wr => wr.rangeLeft b (w.alloc (.cells #[.map (some b)] 69)).heap.size)
  case atStart =>
    refine ⟨#[], [], hrg0, by rw [show leftOf ms #[] = ms from Array.filter_eq_self.2 (by simp)]; exact .refl _, ⟨by simp, .inl ⟨rfl, rfl⟩⟩, ?_⟩
    exact ((Below.refl _ _).alloc (Nat.le_refl _) _).grown hg0 (by simp) (fun j hj => by cases hj)
  case round =>
    obtain ⟨seen, ss, hrg, hC, hrow, hnx⟩ := hrel
    go_wp2_with (first
      | (at_next; refine wpList_next_raw rfl _ rfl b (w.alloc (.cells #[.map (some b)] 69)).heap.size clock ms seen rfl hrg hb (by simp; omega) ?_ ?_)
      | go_in)
    · intro h0
      go_wp2
      go_ret
      rw [h0] at hC
      exact ⟨_, ss, rfl, by simpa using hC, hrow, hnx⟩
    · intro e w2 hel hrg2 hg2 hs2 hen
      have hel' : e ∈ (leftOf ms seen).toList := by simpa using hel
      have hem : e ∈ ms.toList := by
        unfold leftOf at hel'
        simp only [Array.toList_filter] at hel'
        exact (List.mem_filter.1 hel').1
      obtain ⟨s, hks⟩ := hk e hem
      have hsx : e.key = Go.Proofs.encStr (keyStr e) := by
        rw [hks]; simp [keyStr, hks, Go.Proofs.encStr]
      rw [hks] at hen
      have hlen : ss.length < ms.size := by
        have h1 := hC.length_eq
        simp only [List.length_append, List.length_map] at h1
        have h2 := List.length_pos_of_mem hel'
        simp at h1
        simp at h2
        omega
      have hrowr : ∀ k, u2.ownBlock = some k → k ≠ b ∧ k ≠ w.heap.size + 1 := by
        intro k hkk
        rcases hrow.2 with ⟨rfl, _⟩ | ⟨g, cap, cur, rfl, hbase, hg, _⟩
        · cases hkk
        · cases hkk
          refine ⟨by simp; omega, fun q => ?_⟩
          simp only at q
          obtain ⟨_, c0, hi, _⟩ := hrg
          rw [show (w.alloc (.cells #[.map (some b)] 69)).heap.size = w.heap.size + 1 by simp, ← q] at hi
          rw [hg] at hi; cases hi
      have hrow2 := hrow.kept hg2 (Or.inr (fun q => (hrowr _ q).2 rfl))
      clear hs2
      go_wp2_with (first
        | (at_builtin; refine wpList_append_own _ rfl _ _ 62 rfl w.heap.size 9 i0 (.string ⟨#[]⟩) 1 16 Try.underlying62 hi hz0 hz1 hz2 rfl (by decide) _ _ _ rfl (hrow2.alloc _) ⟨w2.heap.size, 0, none⟩ 1 1 [.string s] rfl rfl (cell_one_new _ _ _) (fun x hx => by simp at hx; subst hx; rfl) (by unfold maxLen; omega) (by omega) (by have := hnx.size; have := hg2.size; simp; omega) ?_; intro v' w3 hown' hg3 hnil3)
        | go_in)
      have hrg3 := (hrg2.alloc (.cells #[.string s] 9)).grown hg3 (fun q => (hrowr _ q.symm).1 rfl) (fun q => (hrowr _ q.symm).2 rfl)
      have hperm := left_perm hb.1 hel'
      go_roundw
      case rel =>
        refine ⟨v', .string s, .tuple #[.bool true, .string s, e.val], .bool true, .tuple #[.string s, e.val], .string s, u2, .string s, .slice (some ⟨w2.heap.size, 0, none⟩) 1 1, v', ⟨seen.push e.born, ss ++ [keyStr e], by simpa using hrg3, ?_, ?_, ?_⟩, by simp⟩
        · refine List.Perm.trans ?_ hC
          rw [List.append_assoc]
          exact ((hperm.map keyStr).append_left ss).symm
        · have he : Value.string s = Go.Proofs.encStr (keyStr e) := by rw [← hks]; exact hsx
          rw [he] at hown'
          simpa using hown'
        · exact ((hnx.grown hg2 hnx.size (fun j hj => by cases hj; simp)).alloc (by have := hnx.size; have := hg2.size; omega) _).grown hg3 (by have := hnx.size; have := hg2.size; simp; omega) (fun j hj => by
            rcases hrow.2 with ⟨rfl, _⟩ | ⟨g, cap, cur, rfl, hbase, hg, _⟩
            · cases hj
            · cases hj; exact hbase)
      case measure =>
        have h1 : wr.rangeLeft b (w.alloc (.cells #[.map (some b)] 69)).heap.size = (leftOf ms seen).size := by
          obtain ⟨hm1, c0, hi1, _⟩ := hrg
          simp only [World.rangeLeft, hm1, hi1]
        have h2 : w3.rangeLeft b (w.alloc (.cells #[.map (some b)] 69)).heap.size = (leftOf ms (seen.push e.born)).size := by
          obtain ⟨hm1, c0, hi1, _⟩ := hrg3
          rw [show (w.alloc (.cells #[.map (some b)] 69)).heap.size = w.heap.size + 1 by simp]
          simp only [World.rangeLeft, hm1, hi1]
        rw [h1, h2]
        have := hperm.length_eq
        simp at this
        omega
end Go.Am
namespace Go.Am
open Go Go.Proofs Go.RowKit AM
set_option maxRecDepth 10000

theorem run_append_zeros {P : Program} {w : World} {t u ty el n : Nat} {i : TypeInfo} {z : Value} (ht : P.underlying t = some (.slice el)) (hu : P.underlying u = some (.int .i64)) (hi : P.info? el = some i) (hz : i.zero = some z)
    (hn : 0 < n) (hb0 : i.bytes ≠ 0) (hs0 : i.size ≠ 0) (hbytes : n * i.bytes ≤ 140737488355328) (h63 : n < 9223372036854775808) :
    (Builtin.append_ #[t, u] ty #[.slice none 0 0, .int .i64 (n : Int)]).run P w =
      .ok (.slice (some ⟨w.heap.size, 0, none⟩) n (grownCap w n 0 el)) (w.drew.alloc (.cells (Builtin.zeroCells z.cells n ++ Builtin.zeroCells z.cells (grownCap w n 0 el - n)) el)) := by
  have hfit := growslice_fits (old := 0) (need := n) (by omega) hbytes
  have hno : ¬ n ≤ 0 := by omega
  have hfit' : ¬ (Builtin.nextslicecap n 0 * i.bytes > 2 ^ 48) := by omega
  have hw : IntKind.wrap .i64 (n : Int) = (n : Int) := wrap64 rfl (by omega)
  have hnn : ¬ ((n : Int) < 0) := by omega
  have hb : ¬ ((n : Int) * (i.bytes : Int) > 2 ^ 48) := by
    rw [← Int.natCast_mul, show (2 : Int) ^ 48 = 281474976710656 from rfl]
    omega
  simp [Builtin.append_, run_underlying ht, run_underlying hu, qbg hi, run_typeInfo' hi, asInt, hw, hnn, hb, hno, hb0, hfit', qb8 hi hz, newRow, Builtin.firstCells, hs0, asIntOf]
  have hb' : ¬ ((281474976710656 : Int) < (n : Int) * (i.bytes : Int)) := hb
  have hn0 : n ≠ 0 := by omega
  have h63' : ¬ ((9223372036854775807 : Int) < (n : Int)) := by omega
  simp [hb', hn0, h63', Question.forced, grownCap]
  intro hc
  exact absurd hc (Nat.mul_ne_zero hn0 hs0)

theorem wpList_append_zeros {P : Program} {w : World} {ops : Array Oper} {rest : List Oper} {o : Oper} {a : Act} {Q : Exit → Act → World → Prop} (hgd : o.guard = none) (s x : Operand) (t u : TypeId)
    (ho : o.op = .call { callee := .builtin .append, args := #[s, x], argTypes := #[t, u] }) (el : TypeId) (i : TypeInfo) (z : Value) (ht : P.underlying t = some (.slice el)) (hu : P.underlying u = some (.int .i64)) (hi : P.info? el = some i) (hz : i.zero = some z)
    (n : Nat) (hs : a.eval s = .slice none 0 0) (hx : a.eval x = .int .i64 (n : Int)) (hn : 0 < n) (hb0 : i.bytes ≠ 0) (hs0 : i.size ≠ 0) (hbytes : n * i.bytes ≤ 140737488355328) (h63 : n < 9223372036854775808)
    (h : wpList P ops Q rest (a.put o.dst (.slice (some ⟨w.heap.size, 0, none⟩) n (grownCap w n 0 el))) (w.drew.alloc (.cells (Builtin.zeroCells z.cells n ++ Builtin.zeroCells z.cells (grownCap w n 0 el - n)) el))) :
    wpList P ops Q (o :: rest) a w := by
  refine wpList_plain hgd fun K hK => ?_
  have hr := run_append_zeros (P := P) (w := w) (ty := o.type) ht hu hi hz hn hb0 hs0 hbytes h63
  unfold Oper.wp execOp
  simp only [ho, resolve, invoke, builtin, Sem.run_bind, Sem.run_pure, Result.andThen_ok, List.map_toArray, List.map_cons, List.map_nil, hs, hx, hr]
  exact hK _ _ h

set_option maxRecDepth 100000 in
theorem grow_any (n : Nat) (hn : 0 < n) (hb : n < 1099511627776) (w : World) :
    Calls Try.prog 46 #[.slice none 0 0, .int .i64 (n : Int)] w fun e w' => ∃ C, e = .returned (.slice (some ⟨w.heap.size, 0, none⟩) 0 C) ∧ n ≤ C ∧ w' = w.drew.alloc (.cells (Builtin.zeroCells #[.int .i64 0] n ++ Builtin.zeroCells #[.int .i64 0] (C - n)) 3) := by
  obtain ⟨i0, hi, hz0, hz1, hz2⟩ := info_parts (P := Try.prog) (e := 3) (z := .int .i64 0) (size := 1) (bytes := 8) (by kernel_rfl)
  have hge := grownCap_ge w n 0 3
  go_enter Try.func46, Try.ntmps46
  go_wp2_with (first
    | (at_builtin; refine wpList_append_zeros rfl _ _ 27 3 rfl 3 i0 (.int .i64 0) Try.underlying27 Try.underlying3 hi hz0 n rfl (by rfl) hn (by rw [hz2]; decide) (by rw [hz1]; decide) (by rw [hz2]; omega) (by omega) ?_)
    | go_in)
  go_ret
  exact ⟨_, rfl, hge, rfl⟩

/-- what the machine takes for slices.Grow of nil -/
def growSum : List AV → AM AV
  | [.sl .nil 0 [], .int .i64 n] => do
    AM.guard (decide (0 < n) && decide (n < 1099511627776))
    let id ← AM.halloc (.row 1 (qan [.int .i64 0] n.toNat) false)
    pure (.own id 0 0 0)
  | _ => AM.fail
theorem repeat_one (v : AV) : ∀ n, qan [v] n = List.replicate n v
  | 0 => rfl
  | n + 1 => by simp only [qan, repeat_one v n, List.replicate_succ]; rfl
theorem one_arg {h : Hp} {μ : Nat → Nat} {w : World} {a : AV} {xs : List Value} (r : VRs h μ w [a] xs) : ∃ x, xs = [x] ∧ VR h μ w a x := by
  have hl := r.1
  cases xs with
  | nil => cases hl
  | cons x t => cases t with
    | nil => exact ⟨x, rfl, r.2 0 (by simp) (by simp)⟩
    | cons _ _ => simp at hl
theorem two_args {h : Hp} {μ : Nat → Nat} {w : World} {a b : AV} {xs : List Value} (r : VRs h μ w [a, b] xs) : ∃ x y, xs = [x, y] ∧ VR h μ w a x ∧ VR h μ w b y := by
  have hl := r.1
  match xs, r, hl with
  | [x, y], r, _ => exact ⟨x, y, rfl, r.2 0 (by simp) (by simp), r.2 1 (by simp) (by simp)⟩

theorem zeroCells_one (a : Value) (n : Nat) : Builtin.zeroCells #[a] n = Array.replicate n a := by
  apply Array.ext
  · simp [Builtin.zeroCells]
  · intro i h1 h2
    simp [Builtin.zeroCells, Nat.mod_one]
theorem grow_ok {h h' : Hp} {μ : Nat → Nat} {w : World} {args : List AV} {xs : List Value} {v : AV} (e : (growSum args).run h = some (v, h')) (s : SR h μ w) (r : VRs h μ w args xs) (F : Fresh h h') :
    CallsIn Fence.wide 0 Try.prog 46 xs.toArray w (Got h μ w v h') := by
  refine callsIn_wide.2 ?_
  unfold growSum at e
  split at e
  · rename_i n
    obtain ⟨_, h1, e1, e2⟩ := bind_some e
    obtain ⟨hg, rfl⟩ := qap e1
    obtain ⟨id, h2, e3, e4⟩ := bind_some e2
    obtain ⟨rfl, rfl⟩ := qcq e3
    obtain ⟨rfl, rfl⟩ := qab e4
    simp only [Bool.and_eq_true, decide_eq_true_eq] at hg
    obtain ⟨x, y, rfl, hx, hy⟩ := two_args r
    · cases hy
      cases hx with
      | sl _ _ _ A cap vals hn hnil =>
        obtain ⟨rfl, rfl⟩ := hnil rfl
        obtain ⟨m, rfl⟩ : ∃ m : Nat, n = (m : Int) := ⟨n.toNat, by omega⟩
        refine (grow_any m (by omega) (by omega) w).mono ?_
        rintro en w' ⟨C, rfl, hC, rfl⟩
        have hfr : h1.get h1.next = none := F _ (Nat.le_refl _) (Nat.lt_succ_self _)
        obtain ⟨s1, t1⟩ := s.drawn (w' := w.drew) rfl rfl rfl rfl
        have hz : Builtin.zeroCells #[Value.int .i64 0] m ++ Builtin.zeroCells #[Value.int .i64 0] (C - m) = (Array.replicate C (Value.int .i64 0)) := by
          rw [zeroCells_one, zeroCells_one, Array.replicate_append_replicate]
          congr 1; omega
        rw [hz]
        obtain ⟨s2, t2⟩ := s1.alloc hfr (.cells (Array.replicate C (Value.int .i64 0)) 3) (.row 1 (qan [.int .i64 0] (m : Int).toNat) false) (by
          refine ⟨_, 3, rfl, ?_, fun c => (by cases c), ?_⟩
          · rw [repeat_one]; simp; omega
          · rw [repeat_one]
            simp only [List.length_replicate, Array.toList_replicate, List.take_replicate]
            refine ⟨by simp; omega, fun i h1 h2 => ?_⟩
            simp only [List.getElem_replicate]
            exact .int _ _)
        have hmu : upd μ h1.next w.drew.heap.size h1.next = w.heap.size := by simp [upd]
        refine ⟨_, s2, t1.trans t2, ?_⟩
        refine .own _ _ _ _ _ (qbm _ _ _ _) rfl 1 _ false rfl _ C (Nat.zero_le _) fun _ => ⟨?_, Array.replicate C (.int .i64 0), 3, ?_, ?_⟩
        · rw [hmu]
        · rw [hmu]; exact World.alloc_heap_new _ _
        · simp
  · cases e
end Go.Am
namespace Go.Am
open Go Go.Proofs AM RowKit
set_option maxRecDepth 10000

def sums27 : Sums := fun f => match Nat.beq f 49 with
  | true => some listSum
  | false => match Nat.beq f 67 with
    | true => some qbp
    | false => match Nat.beq f 73 with
      | true => some sortSum
      | false => match Nat.beq f 46 with
        | true => some growSum
        | false => none
def pol27 : Pol := ⟨fun _ _ => false⟩
theorem s27 : S27 pol27 sums27 := ⟨fun _ _ => rfl, rfl, fun f h => by
  simp only [List.mem_cons, List.not_mem_nil, or_false, not_or] at h
  obtain ⟨_, _, _, h0, h1, h2, h3⟩ := h
  have e0 : Nat.beq f 46 = false := by
    cases hq : Nat.beq f 46 with
    | false => rfl
    | true => exact absurd (Nat.eq_of_beq_eq_true hq) h0
  have e1 : Nat.beq f 49 = false := by
    cases hq : Nat.beq f 49 with
    | false => rfl
    | true => exact absurd (Nat.eq_of_beq_eq_true hq) h1
  have e2 : Nat.beq f 67 = false := by
    cases hq : Nat.beq f 67 with
    | false => rfl
    | true => exact absurd (Nat.eq_of_beq_eq_true hq) h2
  have e3 : Nat.beq f 73 = false := by
    cases hq : Nat.beq f 73 with
    | false => rfl
    | true => exact absurd (Nat.eq_of_beq_eq_true hq) h3
  simp only [sums27, e0, e1, e2, e3]⟩
theorem SR.below {h : Hp} {μ : Nat → Nat} {w w' : World} (s : SR h μ w) (b : Below w.heap.size w w') : SR h μ w' ∧ Stp h μ w h μ w' := by
  have hlt : ∀ id o, h.get id = some o → μ id < w.heap.size := fun id o ho => by
    obtain ⟨x, h1, _⟩ := s.blk id o ho; exact (Array.getElem?_eq_some_iff.1 h1).1
  have st : Stp h μ w h μ w' := ⟨b.size, fun id o ho => ⟨o, ho, Nat.le_refl _, Body.like_refl _, fun _ => ⟨rfl, fun cs _ hc => ⟨cs, by rw [b.block _ (hlt id o ho)]; exact hc, rfl⟩⟩⟩,
    fun c hc _ => b.block c hc, fun _ _ hc => hc, b.os, b.tape, b.output⟩
  exact ⟨⟨fun id o ho => by obtain ⟨x, h1, h2⟩ := s.blk id o ho; exact ⟨x, by rw [b.block _ (hlt id o ho)]; exact h1, h2.mono st⟩, s.inj⟩, st⟩

theorem list_ok {h h' : Hp} {μ : Nat → Nat} {w : World} {args : List AV} {xs : List Value} {v : AV} (e : (listSum args).run h = some (v, h')) (s : SR h μ w) (r : VRs h μ w args xs) :
    CallsIn Fence.wide 0 Try.prog 49 xs.toArray w (Got h μ w v h') := by
  refine callsIn_wide.2 ?_
  match args, e with
  | [.agg [.mapv id]], e =>
    obtain ⟨x, rfl, hx⟩ := one_arg r
    obtain ⟨es, h1, e1, e2⟩ := bind_some e
    obtain ⟨rfl, o, ho, hb⟩ := mapOf_some e1
    obtain ⟨_, h2, e3, e4⟩ := bind_some e2
    obtain ⟨hg, rfl⟩ := qap e3
    obtain ⟨rfl, rfl⟩ := qab e4
    simp only [Bool.and_eq_true, Nat.blt_eq, List.all_eq_true] at hg
    cases hx with
    | agg _ vals hl hr =>
      obtain ⟨y, rfl, hy⟩ := one_arg (⟨hl, hr⟩ : VRs _ μ w [.mapv id] vals)
      obtain rfl := hy.map_live
      obtain ⟨ms, clock, hw, q1, q2, hbn⟩ := s.mapBorn ho hb
      have hlen : es.length = ms.size := by have := q1.1; simpa using this
      have hks : ∀ i (h1 : i < es.length) (h2 : i < ms.toList.length), ∃ t : ByteArray, ms.toList[i].key = .string t ∧ es[i].1 = .str t.data.toList := by
        intro i h1 h2
        have := q1.2 i (by simpa using h1) (by simpa using h2)
        simp only [List.getElem_map] at this
        have hst := hg.2 es[i] (List.getElem_mem h1)
        generalize es[i].1 = k at this hst
        generalize ms.toList[i].key = kv at this
        cases k <;> first | cases hst | skip
        cases this with
        | str t l e => exact ⟨t, rfl, by rw [e]⟩
      have hkey : ∀ e ∈ ms.toList, ∃ t : ByteArray, e.key = .string t := by
        intro e he
        obtain ⟨i, hi, rfl⟩ := List.getElem_of_mem he
        obtain ⟨t, ht, _⟩ := hks i (by rw [hlen]; simpa using hi) hi
        exact ⟨t, ht⟩
      have hkeys : es.map (·.1) = (ms.toList.map keyStr).map .str := by
        apply List.ext_getElem
        · simp [hlen]
        · intro i h1 h2
          obtain ⟨t, ht, he⟩ := hks i (by simpa using h1) (by simpa using h2)
          simp only [List.getElem_map]
          rw [he]
          simp only [keyStr, ht]
      refine (list_any (μ id) clock ms w hw hbn hkey (by omega)).mono ?_
      rintro en w' ⟨val, ss, rfl, hp, hrow, hbel⟩
      obtain ⟨s1, t1⟩ := s.below hbel
      refine ⟨μ, s1, t1, .bag _ (ss.map .str) val (by rw [hkeys]; exact hp.map _) ?_⟩
      have hns : ∀ c, w.heap.size ≤ c → ¬ Held h' μ c := by
        rintro c hc ⟨i, oo, hi, rfl⟩
        obtain ⟨z, hz, _⟩ := s.blk i oo hi
        have := (Array.getElem?_eq_some_iff.1 hz).1
        omega
      rcases hrow.2 with ⟨rfl, h0⟩ | ⟨g, cap, cur, rfl, hbase, hgc, hcap, hmax, hsz, htk⟩
      · obtain rfl : ss = [] := List.length_eq_zero_iff.1 h0
        exact .sl .any 0 [] none 0 [] (Nat.le_refl _) (by simp) (by simp) (by simp) (by simp) (by simp) rfl (by simp) (by simp) (by simp)
      · have hgl := (Array.getElem?_eq_some_iff.1 hgc).1
        have hcc : ∀ i (hi : i < ss.length), cur[i]? = some (Value.string ⟨(ss[i]).toArray⟩) := by
          intro i hi
          have h1 : (cur.toList.take (ss.length * 1))[i]? = (ss.map Go.Proofs.encStr)[i]? := by rw [htk]
          rw [List.getElem?_take, if_pos (by omega)] at h1
          simpa [hi, Go.Proofs.encStr] using h1
        have := VR.sl (h := h') (μ := μ) (w := w') .any ss.length (ss.map .str) (some ⟨g, 0, none⟩) cap (ss.map Go.Proofs.encStr) hcap (by simp) (by simp) (by simp) (by simp)
          (fun ad e _ => by cases e; exact ⟨hns g hbase, hgl⟩) (by simp) (by simp)
          (fun ad e i hi => by
            cases e
            have hi' : i < ss.length := by simpa using hi
            rw [add_plain]
            unfold World.cell?
            simp only [hgc, Nat.zero_add]
            rw [hcc i hi']
            simp [Go.Proofs.encStr])
          (fun i h1 h2 => by
            simp only [List.getElem_map]
            exact .str _ _ rfl)
        simpa using this

theorem name_of : ∀ (l : List Func) (i : Nat) (fn : Func), l.all (fun fn => !(fn.name == "runtime.NumGoroutine")) = true → l[i]? = some fn → (fn.name == "runtime.NumGoroutine") = false := fun l i fn h e => by
  have := List.all_eq_true.1 h fn (List.mem_of_getElem? e)
  simpa using this
theorem progOk : ProgOk Try.prog := ⟨by kernel_rfl, fun f fn e => name_of Try.prog.funcs.toList f fn (by kernel_rfl) (by simpa using e)⟩
def sums0 : Sums := fun _ => none
theorem sums0_ok : SumsOk Try.prog sums0 := fun _ _ h => by cases h

theorem run_beside {α : Type} {m : AM α} {h0 h : Hp} {a : α} (hn : h.next = h0.next) (hsub : ∀ id o, h0.get id = some o → h.get id = some o) (e : m.run h0 = some (a, h0)) :
    ∃ g, m.run h = some (a, g) ∧ g.next = h.next ∧ ∀ id, g.get id = h.get id := by
  obtain ⟨_, b⟩ := m.good.2 h0 a h0 e (fun id h1 h2 => by omega)
  obtain ⟨g, e1, e2, e3⟩ := b h hn hsub
  refine ⟨g, e1, by rw [e2, hn], fun id => ?_⟩
  rw [e3 id]
  split
  · rename_i c
    rcases c with c | c
    · obtain ⟨o, ho⟩ := Option.isSome_iff_exists.1 c
      rw [ho, hsub id o ho]
    · omega
  · rfl
theorem SR.congr {h g : Hp} {μ : Nat → Nat} {w : World} (s : SR g μ w) (e : ∀ id, g.get id = h.get id) : SR h μ w ∧ Stp g μ w h μ w := by
  have st : Stp g μ w h μ w := ⟨Nat.le_refl _, fun id o ho => ⟨o, by rw [← e id]; exact ho, Nat.le_refl _, Body.like_refl _, fun _ => ⟨rfl, fun cs _ hc => ⟨cs, hc, rfl⟩⟩⟩, fun _ _ _ => rfl,
    fun c _ ⟨id, o, ho, hm⟩ => ⟨id, o, by rw [e id]; exact ho, hm⟩, rfl, rfl, rfl⟩
  exact ⟨⟨fun id o ho => by obtain ⟨x, h1, h2⟩ := s.blk id o (by rw [e id]; exact ho); exact ⟨x, h1, h2.mono st⟩, fun i j o o' hi hj => s.inj i j o o' (by rw [e i]; exact hi) (by rw [e j]; exact hj)⟩, st⟩
theorem contains_any {h : Hp} {v : AV} {n : Nat} {c : List AV} (o : SlV h 1 v n c) {l : List Str} (hl : l.length = n) (hc : strs l = c) (hv : ∀ i ∈ qa4 v, i < h.next) (s : Str) (hb : l.length < 2 ^ 62) :
    ∃ g, (qat Try.prog pol27 sums0 (l.length + 4) (.func (.func 67) [] []) [v, .str s]).run h = some (.bool (decide (s ∈ l)), g) ∧ g.next = h.next ∧ ∀ id, g.get id = h.get id := by
  have key : ∀ h0 : Hp, h0.WF → h.next = h0.next → (∀ id o, h0.get id = some o → h.get id = some o) → Strs h0 v l → ∃ g, (qat Try.prog pol27 sums0 (l.length + 4) (.func (.func 67) [] []) [v, .str s]).run h = some (.bool (decide (s ∈ l)), g) ∧ g.next = h.next ∧ ∀ id, g.get id = h.get id := by
    intro h0 w0 hn hsub o0
    obtain ⟨r, h1, e, rfl, rfl⟩ := contains_code (pol := pol27) (sums := sums0) rfl rfl (l.length + 3) o0 s (by omega) hb w0
    exact run_beside hn hsub e
  have hleaf : ∀ n id, (⟨.leaf, n⟩ : Hp).get id = none := fun n id => Tm.get_leaf id
  cases o with
  | imm k n c e =>
    refine key ⟨.leaf, h.next⟩ (fun id o ho => by rw [hleaf] at ho; cases ho) rfl (fun id o ho => by rw [hleaf] at ho; cases ho) ?_
    rw [Strs, hl, hc]
    exact .imm k n c e
  | own id ver off n row fix r e =>
    obtain ⟨st, ho⟩ := r
    have hid := hv id (by simp [qa4])
    have hget : ∀ i o, (⟨Tm.set .leaf id (some ⟨ver, st, .row 1 row fix⟩), h.next⟩ : Hp).get i = some o → i = id ∧ o = ⟨ver, st, .row 1 row fix⟩ := fun i o ho => by
      change (Tm.set .leaf id _).get i = _ at ho
      rw [Tm.get_set] at ho
      split at ho
      · rename_i q; cases ho; exact ⟨q, rfl⟩
      · rw [Tm.get_leaf] at ho; cases ho
    refine key ⟨Tm.set .leaf id (some ⟨ver, st, .row 1 row fix⟩), h.next⟩ (fun i o ho => by rw [(hget i o ho).1]; exact hid) rfl (fun i o ho' => by obtain ⟨rfl, rfl⟩ := hget i o ho'; exact ho) ?_
    rw [Strs, hl, hc]
    exact .own id ver off _ row fix ⟨st, qbm _ _ _ _⟩ e
theorem hasStr_some {s : Str} : ∀ {c : List AV} {b : Bool}, hasStr s c = some b → ∃ l, c = strs l ∧ b = decide (s ∈ l)
  | [], b, h => by cases h; exact ⟨[], rfl, rfl⟩
  | v :: r, b, h => by
    cases v <;> first | cases h | skip
    rename_i x
    have h' := h
    simp only [hasStr] at h
    cases hr : hasStr s r with
    | none => rw [hr] at h; cases h
    | some b' =>
      obtain ⟨l, rfl, _⟩ := hasStr_some hr
      refine ⟨x :: l, rfl, ?_⟩
      have := hasStr_strs s (x :: l)
      simp only [strs, List.map_cons] at this h'
      rw [this] at h'
      cases h'; rfl
theorem contains_go {h : Hp} {μ : Nat → Nat} {w : World} {v : AV} {x y : Value} {l : List Str} {s' : Str} (o : Strs h v l) (hv : ∀ i ∈ qa4 v, i < h.next) (hb : l.length < 2 ^ 62) (s : SR h μ w) (hx : VR h μ w v x) (hy : VR h μ w (.str s') y) :
    CallsIn Fence.wide 0 Try.prog 67 #[x, y] w (Got h μ w (.bool (decide (s' ∈ l))) h) := by
  obtain ⟨g, e, hn, hg⟩ := contains_any o rfl rfl hv s' hb
  simp only [qat, List.nil_append, List.append_nil] at e
  have hc := acall_sound (pol := pol27) progOk sums0_ok (l.length + 3)
  have r : VRs h μ w [v, .str s'] [x, y] := VRs.cons hx (VRs.cons hy VRs.nil)
  obtain ⟨_, hk⟩ := afunc_calls hc (region_ok progOk hc) sums0_ok (l.length + 3) 67 e s r (fun id h1 h2 => by omega)
  refine CallsIn.mono hk fun en w' hgot => ?_
  cases en with
  | returned z =>
    obtain ⟨μ', s1, t1, v1⟩ := hgot
    obtain ⟨s2, t2⟩ := s1.congr hg
    exact ⟨μ', s2, t1.trans t2, v1.mono t2⟩
  | panicked _ => exact hgot.elim
  | outgrown => exact hgot.elim
theorem okId_some {h h' : Hp} {id : Nat} {u : Unit} (e : (okId id).run h = some (u, h')) : h' = h ∧ id < h.next := by
  change cond _ _ _ = _ at e
  cases hb : Nat.blt id h.next with
  | false => rw [hb] at e; cases e
  | true => rw [hb] at e; cases e; exact ⟨rfl, by simpa [Nat.blt_eq] using hb⟩
/-- what a run of the second kind has looked at -/
theorem contains_own {h h' : Hp} {id ver off n : Nat} {s : Str} {v : AV} (e : (qbp [.own id ver off n, .str s]).run h = some (v, h')) : h' = h ∧ id < h.next ∧ ∃ l, SlV h 1 (.own id ver off n) n (strs l) ∧ l.length = n ∧ n < 2 ^ 62 ∧ v = .bool (decide (s ∈ l)) := by
  obtain ⟨_, h1, e1, e2⟩ := bind_some e
  obtain ⟨_, h2, e3, e4⟩ := bind_some e1
  obtain ⟨rfl, hid⟩ := okId_some e3
  obtain ⟨⟨esz, row, fix⟩, h3, e5, e6⟩ := bind_some e4
  obtain ⟨rfl, o, ho, hv, hb⟩ := qbw e5
  obtain ⟨hg, rfl⟩ := qap e6
  obtain ⟨⟨m, c⟩, h4, e7, e8⟩ := bind_some e2
  obtain ⟨⟨esz', row', fix'⟩, h5, e9, e10⟩ := bind_some e7
  obtain ⟨rfl, o', ho', hv', hb'⟩ := qbw e9
  obtain ⟨_, h6, e11, e12⟩ := bind_some e10
  obtain ⟨hg2, rfl⟩ := qap e11
  obtain ⟨h7, rfl⟩ := qab e12
  simp only [Prod.mk.injEq] at h7
  obtain ⟨rfl, rfl⟩ := h7
  obtain ⟨_, h8, e13, e14⟩ := bind_some e8
  obtain ⟨hg3, rfl⟩ := qap e13
  obtain ⟨b, h9, e15, e16⟩ := bind_some e14
  obtain ⟨hs, rfl⟩ := qbb e15
  obtain ⟨rfl, rfl⟩ := qab e16
  rw [ho] at ho'; cases ho'
  rw [hb] at hb'; cases hb'
  obtain rfl : esz = 1 := by simpa using hg
  have hlen : off + m * 1 ≤ row.length := by simpa using hg2
  obtain ⟨l, hl, rfl⟩ := hasStr_some hs
  have hll : l.length = m := by
    have := congrArg List.length hl
    simp at this; omega
  obtain ⟨ver', st, body⟩ := o
  simp only at hv hb
  subst hv hb
  refine ⟨rfl, hid, l, ?_, hll, by simpa [Nat.blt_eq] using hg3, rfl⟩
  rw [← hl]
  exact .own id _ off m row fix ⟨st, ho⟩ hlen
theorem contains_sl {h h' : Hp} {k : SK} {n : Nat} {c : List AV} {s : Str} {v : AV} (e : (qbp [.sl k n c, .str s]).run h = some (v, h')) : h' = h ∧ ∃ l, c = strs l ∧ l.length = n ∧ n < 2 ^ 62 ∧ v = .bool (decide (s ∈ l)) := by
  obtain ⟨_, h1, e1, e2⟩ := bind_some e
  obtain ⟨_, rfl⟩ := qab e1
  obtain ⟨⟨m, c'⟩, h4, e7, e8⟩ := bind_some e2
  obtain ⟨_, h6, e11, e12⟩ := bind_some e7
  obtain ⟨hg2, rfl⟩ := qap e11
  obtain ⟨h7, rfl⟩ := qab e12
  simp only [Prod.mk.injEq] at h7
  obtain ⟨rfl, rfl⟩ := h7
  obtain ⟨_, h8, e13, e14⟩ := bind_some e8
  obtain ⟨hg3, rfl⟩ := qap e13
  obtain ⟨b, h9, e15, e16⟩ := bind_some e14
  obtain ⟨hs, rfl⟩ := qbb e15
  obtain ⟨rfl, rfl⟩ := qab e16
  obtain ⟨l, rfl, rfl⟩ := hasStr_some hs
  exact ⟨rfl, l, rfl, by simpa using (show m * 1 = (strs l).length by simpa using hg2).symm, by simpa [Nat.blt_eq] using hg3, rfl⟩
theorem contains_bag {h h' : Hp} {c : List AV} {s : Str} {v : AV} (e : (qbp [.bag c, .str s]).run h = some (v, h')) : h' = h ∧ ∃ l, c = strs l ∧ v = .bool (decide (s ∈ l)) ∧ c.length < 2 ^ 62 := by
  obtain ⟨_, h8, e13, e14⟩ := bind_some e
  obtain ⟨hg3, rfl⟩ := qap e13
  obtain ⟨b, h9, e15, e16⟩ := bind_some e14
  obtain ⟨hs, rfl⟩ := qbb e15
  obtain ⟨rfl, rfl⟩ := qab e16
  obtain ⟨l, rfl, rfl⟩ := hasStr_some hs
  exact ⟨rfl, l, rfl, rfl, by simpa [Nat.blt_eq] using hg3⟩
theorem strs_perm {c : List AV} {l : List Str} (p : c.Perm (strs l)) : ∃ l', c = strs l' ∧ l'.Perm l := by
  have h : ∀ x ∈ c, ∃ t, x = AV.str t := fun x hx => by
    obtain ⟨t, _, rfl⟩ := List.mem_map.1 (p.mem_iff.1 hx)
    exact ⟨t, rfl⟩
  have h2 : ∃ l', c = strs l' := by
    clear p
    induction c with
    | nil => exact ⟨[], rfl⟩
    | cons x c ih =>
      obtain ⟨t, rfl⟩ := h x List.mem_cons_self
      obtain ⟨l', rfl⟩ := ih fun y hy => h y (List.mem_cons_of_mem _ hy)
      exact ⟨t :: l', rfl⟩
  obtain ⟨l', rfl⟩ := h2
  refine ⟨l', rfl, ?_⟩
  have := p.map (fun | .str s => s | _ => [])
  simpa [strs, Function.comp_def] using this
theorem contains_ok {h h' : Hp} {μ : Nat → Nat} {w : World} {args : List AV} {xs : List Value} {v : AV} (e : (qbp args).run h = some (v, h')) (s : SR h μ w) (r : VRs h μ w args xs) :
    CallsIn Fence.wide 0 Try.prog 67 xs.toArray w (Got h μ w v h') := by
  have e0 := e
  unfold qbp at e
  split at e
  · rename_i c t
    obtain ⟨x, y, rfl, hx, hy⟩ := two_args r
    obtain ⟨rfl, l, rfl, rfl, hb⟩ := contains_bag e0
    cases hx with
    | bag _ c' _ p hr =>
      have hlen := p.length_eq
      obtain ⟨l', rfl, hp⟩ := strs_perm p
      have : decide (t ∈ l) = decide (t ∈ l') := by rw [decide_eq_decide]; exact hp.mem_iff.symm
      rw [this]
      exact contains_go (l := l') (.imm _ _ _ (by simp)) (fun i hi => by cases hi) (by simp at hlen hb; omega) s (by simpa using hr) hy
  · rename_i a t hnb
    obtain ⟨x, y, rfl, hx, hy⟩ := two_args r
    cases a with
    | sl k n c =>
      obtain ⟨rfl, l, rfl, rfl, hb, rfl⟩ := contains_sl e0
      exact contains_go (l := l) (.imm _ _ _ (by simp)) (fun i hi => by cases hi) hb s hx hy
    | own id ver off n =>
      obtain ⟨rfl, hid, l, so, rfl, hb, rfl⟩ := contains_own e0
      exact contains_go (l := l) so (fun i hi => by simp [qa4] at hi; subst hi; exact hid) hb s hx hy
    | bag c => exact (hnb c rfl).elim
    | _ =>
      obtain ⟨_, h1, e1, e2⟩ := bind_some e
      obtain ⟨_, h4, e7, e8⟩ := bind_some e2
      cases e7
  · cases e
theorem sums27_ok : SumsOk Try.prog sums27 := fun f sm h => by
  unfold sums27 at h
  cases h1 : Nat.beq f 49 with
  | true =>
    rw [h1] at h; cases h
    obtain rfl := Nat.eq_of_beq_eq_true h1
    exact ⟨⟨_, _, Try.func49, rfl⟩, fun args h h' v μ w xs e s r _ => list_ok e s r⟩
  | false =>
    rw [h1] at h
    dsimp only at h
    cases h2 : Nat.beq f 67 with
    | true =>
      rw [h2] at h; cases h
      obtain rfl := Nat.eq_of_beq_eq_true h2
      exact ⟨⟨_, _, Try.func67, rfl⟩, fun args h h' v μ w xs e s r _ => contains_ok e s r⟩
    | false =>
      rw [h2] at h
      dsimp only at h
      cases h3 : Nat.beq f 73 with
      | true =>
        rw [h3] at h; cases h
        obtain rfl := Nat.eq_of_beq_eq_true h3
        exact ⟨⟨_, _, Try.func73, rfl⟩, fun args h h' v μ w xs e s r _ => sort_ok e s r⟩
      | false =>
        rw [h3] at h
        dsimp only at h
        cases h4 : Nat.beq f 46 with
        | true =>
          rw [h4] at h; cases h
          obtain rfl := Nat.eq_of_beq_eq_true h4
          exact ⟨⟨_, _, Try.func46, rfl⟩, fun args h h' v μ w xs e s r F => grow_ok e s r F⟩
        | false => rw [h4] at h; cases h
end Go.Am
namespace Go.Am
open Go AM

section
variable {h h1 : Hp} {id fn nt : Nat} {T : qag} {ps : List Tmp} {a b : Code} {st : LoopState} {p : Option Code}
theorem LoopAt.keep (l : LoopAt h id fn nt T ps a b st p) (k : Keep h h1) : LoopAt h1 id fn nt T ps a b st p := by
  obtain ⟨v, s, e⟩ := l; exact ⟨v, s, k.same _ _ e⟩
theorem LoopAt.keepBut {X : Nat → Prop} (l : LoopAt h id fn nt T ps a b st p) (k : KeepBut X h h1) (hx : ¬ X id) : LoopAt h1 id fn nt T ps a b st p := by
  obtain ⟨v, s, e⟩ := l; exact ⟨v, s, k.same _ _ hx e⟩
theorem LoopAt.lt (l : LoopAt h id fn nt T ps a b st p) (w : h.WF) : id < h.next := by
  obtain ⟨v, s, e⟩ := l; exact w _ _ e
theorem SlV.ne_loop {sz n : Nat} {v : AV} {c : List AV} (s : SlV h sz v n c) (l : LoopAt h id fn nt T ps a b st p) : ∀ k ∈ qa4 v, k ≠ id := by
  cases s with
  | imm => intro k hk; cases hk
  | own i ver off n row fix r e =>
    intro k hk q
    simp [qa4] at hk
    subst hk q
    obtain ⟨_, e1⟩ := r; obtain ⟨_, _, e2⟩ := l
    rw [e1] at e2; cases e2
theorem LoopAt.fam (_ : LoopAt h id fn nt T ps a b st p) : ∃ L : Hp → LoopState → Option Code → Prop, ∀ g st p, L g st p ↔ LoopAt g id fn nt T ps a b st p := ⟨fun g st p => LoopAt g id fn nt T ps a b st p, fun _ _ _ => Iff.rfl⟩
/-- the record is written -/
theorem LoopAt.put (l : LoopAt h id fn nt T ps a b st p) (st' : LoopState) (p' : Option Code) {Q : Unit → Hp → Prop} (q : ∀ h1, KeepBut (· = id) h h1 → LoopAt h1 id fn nt T ps a b st' p' → Q () h1) :
    Runs (do let o ← AM.hget id; AM.hput id o.ver (.loop fn nt T ps a b st' p')) h Q := by
  obtain ⟨v, s, e⟩ := l
  exact Runs.bind (Runs.hget e (Runs.hput e (Nat.le_refl _) (q _ (KeepBut.put _) ⟨_, _, qbm _ _ _ _⟩)))
end

section
variable {P : Program} {pol : Pol} {call : qa6} {fn nt fuel : Nat} {h : Hp} {T : qag} {sums : Sums}
theorem R_rangeFunc {f : Operand} {F : AV} {params : Array Tmp} {a b : Code} {Q : Exit × qag → Hp → Prop} (hF : qaj T f = F) (hy : isYield F = false)
    (r : ∀ h1 id, Keep h h1 → LoopAt h1 id fn nt T params.toList a b .ready none → h.next ≤ id → id < h1.next →
      Runs (call F [.func (.yield id) [] []]) h1 fun _ h2 => ∃ st p, LoopAt h2 id fn nt T params.toList a b st p ∧ isBusy st = false ∧ ∀ h3, KeepBut (· = id) h2 h3 → Runs (qcu p T) h3 Q) :
    Runs (qaw P pol call fn nt fuel (.rangeFunc f params a b) T) h Q := by
  refine Runs.wf fun w => ?_
  simp only [qaw, hF, hy]
  refine Runs.bind (Runs.guard rfl (Runs.bind (Runs.halloc ?_)))
  refine Runs.bind ((r _ h.next (Keep.alloc w _) ⟨_, _, qbm _ _ _ _⟩ (Nat.le_refl _) (Nat.lt_succ_self _)).mono ?_)
  rintro _ h2 ⟨st, p, hl, hb, k⟩
  refine Runs.bind (Runs.of hl.run ?_)
  dsimp only
  obtain ⟨v, s, e⟩ := hl
  refine Runs.bind (Runs.hget e (Runs.bind (Runs.guard (by rw [hb]; rfl) (Runs.bind (Runs.hput e (Nat.le_refl _) (k _ (KeepBut.put _)))))))
theorem after_none {Q : Exit × qag → Hp → Prop} (q : Q (.normal, T) h) : Runs (qcu none T) h Q := Runs.pure q
theorem after_ret {Q : Exit × qag → Hp → Prop} (q : Q (.ret, T) h) : Runs (qcu (some .ret) T) h Q := by
  unfold qcu
  exact Runs.bind (Runs.ofOption rfl (Runs.pure q))
theorem after_exit {id : Nat} {Q : Exit × qag → Hp → Prop} (q : Q (.exit id, T) h) : Runs (qcu (some (.exit id)) T) h Q := by
  unfold qcu
  exact Runs.bind (Runs.ofOption rfl (Runs.pure q))

theorem K_round_end {l : Nat} {T0 : qag} {ps : List Tmp} {a b : Code} {Q : AV → Hp → Prop} {st : LoopState} {p : Option Code} (hl : LoopAt h l fn nt T0 ps a b st p) (q : ∀ h4, KeepBut (· = l) h h4 → LoopAt h4 l fn nt T0 ps a b .ready none → Q (.bool true) h4) : KRound l fn nt T0 ps a b Q (.normal, T) h :=
  ⟨.ready, none, st, p, rfl, hl, q⟩
theorem K_round_ret {l : Nat} {T0 : qag} {ps : List Tmp} {a b : Code} {Q : AV → Hp → Prop} {st : LoopState} {p : Option Code} (hl : LoopAt h l fn nt T0 ps a b st p) (q : ∀ h4, KeepBut (· = l) h h4 → LoopAt h4 l fn nt T0 ps a b .done (some .ret) → Q (.bool false) h4) : KRound l fn nt T0 ps a b Q (.ret, T) h :=
  ⟨.done, some .ret, st, p, rfl, hl, q⟩
theorem K_assign {n l : Nat} {T0 : qag} {ps : List Tmp} {a b : Code} {Q : AV → Hp → Prop} (hl : LoopAt h l fn nt T0 ps a b .ready none) (q : ∀ h2, KeepBut (· = l) h h2 → LoopAt h2 l fn nt T0 ps a b .busy none → Runs (qaw P pol call fn nt n b T) h2 (KRound l fn nt T0 ps a b Q)) : KAssign P pol call n l fn nt T0 ps a b Q (.normal, T) h := ⟨rfl, hl, q⟩
theorem R_gen {c : Code} {Q : Exit × qag → Hp → Prop} (Pr : qag → Prop) (h0 : Pr T) (r : ∀ T, Pr T → Runs (qaw P pol call fn nt fuel c T) h Q) : Runs (qaw P pol call fn nt fuel c T) h Q := r T h0
theorem aparams_cons (nt t : Nat) (ts : List Tmp) (v : AV) (vs : List AV) (T : qag) : aparams nt (t :: ts) (v :: vs) T = aparams nt ts vs (qa2? nt T (some t) v) := rfl
theorem aparams_nil (nt : Nat) (vs : List AV) (T : qag) : aparams nt [] vs T = T := by cases vs <;> rfl
end
end Go.Am
namespace Go.Am
open Go Go.Proofs AM
set_option maxRecDepth 10000
variable {pol : Pol} {sums : Sums}
attribute [local irreducible] KSeq KMid KBlock KLoop KOps KFunc Runs qbq qaw aopsM aop qat qay qa2 qa2? qaj qa8 qah
attribute [local irreducible] KRound KAssign

structure S27' (pol : Pol) (sums : Sums) : Prop extends S27 pol sums where
  list : sums 49 = some listSum
  sort : sums 73 = some sortSum
  grow : sums 46 = some growSum

theorem values1_spec (S : S27' pol sums) {n : Nat} {h : Hp} {i1 : Nat} {s Y : AV} {l : List Int} (hn : l.length + 4 ≤ n) (r1 : Row h i1 0 1 [s] true) (hb : l.length < 2 ^ 62) (I : Nat → Hp → Prop) (h0 : I 0 h) (hI : ∀ i g, I i g → Ints g s l)
    (hY : ∀ i (hi : i < l.length) g m, n ≤ m + 2 → I i g → Runs (qat Try.prog pol sums m Y [.int .i64 l[i]]) g fun v g' => v = .bool true ∧ I (i + 1) g') :
    Runs (qat Try.prog pol sums n (.func (.func 74) [] [.ptr i1 0 0]) [Y]) h (fun _ g => I l.length g) := by
  have s74 : sums 74 = none := S.rest _ (by decide)
  obtain ⟨n, rfl⟩ : ∃ m, n = m + 1 := ⟨n - 1, by omega⟩
  refine qb9 (by assumption) Try.func74 rfl (by simp [Try.f74]) ?_
  have a0 : qay (qah Try.f74.ntmps (([] ++ [Y] ++ [.ptr i1 0 0]) : List AV)) 0 = Y := qaf rfl
  have a1 : qay (qah Try.f74.ntmps (([] ++ [Y] ++ [.ptr i1 0 0]) : List AV)) 1 = .ptr i1 0 0 := qaf rfl
  generalize qah Try.f74.ntmps (([] ++ [Y] ++ [.ptr i1 0 0]) : List AV) = T at *
  show Runs (qaw _ _ _ _ 16 _ _ _) _ _
  have o := hI 0 h h0
  refine goP ?_
  apply R_loop (k := l.length) (I := fun k T g => ∃ i, k = l.length - i ∧ i ≤ l.length ∧ qay T 0 = Y ∧ qay T 5 = s ∧ qay T 6 = .int .i64 (l.length : Nat) ∧ qay T 7 = .int .i64 (i : Nat) ∧ I i g)
  · omega
  · exact ⟨0, by omega, by omega, by exact tgP, by exact tgP, by exact tgP, by exact tgP, h0⟩
  · rintro k T g ⟨i, rfl, hi, t0, t5, t6, t7, hI'⟩
    refine goP ?_
    apply qa9 (decide ((i : Int) < (l.length : Int)))
    · exact evP
    · intro c
      have hlt : i < l.length := by simpa using c
      refine goP ?_
      apply qax
      · exact evP
      · exact hI i g hI'
      · exact evP
      · omega
      · rfl
      intro a ha _
      rw [ints_at hlt] at ha
      apply qbx
      · exact evP
      · exact ha
      refine goP ?_
      (apply qbn; exact evP; (repeat (apply qai; exact evP)); exact qas)
      refine (hY i hlt g n (by omega) hI').mono ?_
      rintro v g' ⟨rfl, hI2⟩
      refine ⟨Undis.off rfl, ?_⟩
      refine goP ?_
      apply qa9 (!true)
      · exact evP
      · intro c; cases c
      intro _
      refine goP ?_
      apply K_loop (l.length - (i + 1)) (by omega)
      exact ⟨i + 1, rfl, by omega, by exact tgP, by exact tgP, by exact tgP, by exact tgP, hI2⟩
    · intro c
      have : i = l.length := by
        have : ¬ i < l.length := by simpa using c
        omega
      subst this
      refine goP ?_
      apply R_results0 rfl
      exact hI'

theorem appendSeq_spec (S : S27' pol sums) {n : Nat} {h : Hp} {i1 : Nat} {s : AV} {l : List Int} (hn : l.length + 8 ≤ n) (r1 : Row h i1 0 1 [s] true) (o : Ints h s l) (hb : l.length < 2 ^ 40) :
    Runs (qat Try.prog pol sums n (.func (.func 80) [] []) [.sl .nil 0 [], .func (.func 74) [] [.ptr i1 0 0]]) h (fun v h' => Keep h h' ∧ Ints h' v l ∧ qcr v = true ∧ (l ≠ [] → qa4 v ≠ []) ∧ (l = [] → v = .sl .nil 0 []) ∧ ∀ k ∈ qa4 v, h.next ≤ k) := by
  apply Runs.wf
  intro w
  have s80 : sums 80 = none := S.rest _ (by decide)
  obtain ⟨n, rfl⟩ : ∃ m, n = m + 1 := ⟨n - 1, by omega⟩
  refine qb9 (by assumption) Try.func80 rfl (by simp [Try.f80]) ?_
  have a0 : qay (qah Try.f80.ntmps (([] ++ [.sl .nil 0 [], .func (.func 74) [] [.ptr i1 0 0]] ++ []) : List AV)) 0 = .sl .nil 0 [] := qaf rfl
  have a1 : qay (qah Try.f80.ntmps (([] ++ [.sl .nil 0 [], .func (.func 74) [] [.ptr i1 0 0]] ++ []) : List AV)) 1 = .func (.func 74) [] [.ptr i1 0 0] := qaf rfl
  generalize qah Try.f80.ntmps (([] ++ [.sl .nil 0 [], .func (.func 74) [] [.ptr i1 0 0]] ++ []) : List AV) = T at *
  show Runs (qaw _ _ _ _ 13 _ _ _) _ _
  refine goP ?_
  apply O_box
  · exact evP
  · rfl
  intro g1 i2 k1 r2 l1 l2
  change Row g1 i2 0 1 [.sl .nil 0 []] true at r2
  refine goP ?_
  apply R_midB (fun T g => qay T 2 = .ptr i2 0 0 ∧ KeepBut (h.next ≤ ·) h g ∧ ∃ v, Row g i2 0 1 [v] true ∧ Ints g v l ∧ qcr v = true ∧ (l ≠ [] → qa4 v ≠ []) ∧ (l = [] → v = .sl .nil 0 []) ∧ ∀ k ∈ qa4 v, h.next ≤ k)
  · refine R_gen (fun T => qay T 2 = .ptr i2 0 0 ∧ qay T 6 = .func (.func 74) [] [.ptr i1 0 0]) ⟨by exact tgP, by exact tgP⟩ ?_
    rintro T0 ⟨t2, t6⟩
    apply R_rangeFunc (F := .func (.func 74) [] [.ptr i1 0 0])
    · exact evP
    · rfl
    intro g2 lid k2 hl l3 l4
    have r2' := r2.keep k2
    have o1 := o.keep (k1.trans k2)
    refine (values1_spec S (l := l) (n := n) (by omega) (r1.keep (k1.trans k2)) (by omega) (fun i g => KeepBut (h.next ≤ ·) h g ∧ LoopAt g lid 80 13 T0 [7] (.region 2 #[⟨some 5, .assign (.tmp 7), 3, "iter.go:51", #[], none⟩] false) _ .ready none ∧ ∃ v, Row g i2 0 1 [v] true ∧ Ints g v (l.take i) ∧ qcr v = true ∧ (0 < i → qa4 v ≠ []) ∧ (i = 0 → v = .sl .nil 0 []) ∧ ∀ k ∈ qa4 v, h.next ≤ k ∧ k ≠ i2 ∧ k ≠ lid) ⟨(k1.trans k2).but _, hl, _, r2', SlV.nil, rfl, fun c => absurd c (by omega), fun _ => rfl, by simp [qa4]⟩ (fun i g hg => o.old w hg.1) ?_).mono ?_
    · rintro i hi g m hm ⟨kp, hl, v, rv, sv, gv, nv, zv, iv⟩
      obtain ⟨m, rfl⟩ : ∃ q, m = q + 1 := ⟨m - 1, by omega⟩
      refine R_yield hl rfl ?_
      rw [aparams_cons, aparams_nil]
      refine goP ?_
      refine K_assign hl fun g3 kb3 hl3 => ?_
      have hne : i2 ≠ lid := by omega
      have rv3 := rv.keepBut kb3 hne
      have sv3 := sv.keepBut kb3 fun k hk => (iv k hk).2.2
      refine goP ?_
      apply qbl
      · exact qa0 (by exact evP) qbv
      · rfl
      · rfl
      · exact S.lit _ _
      intro _
      apply O_wf
      intro w3
      apply O_append (new := [.int .i64 l[i]]) (m := 1) (bytes := 8)
      · exact qai (by exact evP) (qai (by exact evP) qas)
      · exact sv3
      · exact gv
      · exact SlV.imm _ _ _ rfl
      · rfl
      · rfl
      · simp only [room, List.length_take]; omega
      intro v' g4 kb4 s4 gr4 iv4 ne4
      refine ⟨Undis.off rfl, ?_⟩
      have rv4 := rv3.keepBut kb4 fun q => (iv _ q).2.1 rfl
      refine goP ?_
      apply qb0
      · exact evP
      · exact evP
      · exact rv4
      · simp [s4.acells, s4.one, ones]
      intro g5 kb5 r5
      refine ⟨Undis.off rfl, ?_⟩
      rw [s4.acells] at r5
      change Row g5 i2 0 1 [v'] true at r5
      have hl4 := (hl3.keepBut kb4 fun q => (iv _ q).2.2 rfl).keepBut kb5 (fun q => hne q.symm)
      have hlid := hl3.lt w3
      have hi2 := rv3.lt w3
      have iv' : ∀ k ∈ qa4 v', h.next ≤ k ∧ k ≠ i2 ∧ k ≠ lid := fun k hk => by
        rcases iv4 k hk with q | q
        · exact iv k q
        · refine ⟨?_, by omega, by omega⟩
          have := kp.next; have := kb3.next; omega
      have s5 := s4.keepBut kb5 fun k hk e => (iv' k hk).2.1 e
      refine goP ?_
      refine K_round_end hl4 fun g6 kb6 hl6 => ⟨rfl, ?_, hl6, v', r5.keepBut kb6 hne, ?_, gr4, fun _ => ne4 (by omega), fun c => (by omega), iv'⟩
      · exact (((kp.trans (kb3.weaken fun k hk => by subst hk; have := k1.next; omega)).trans (kb4.weaken fun k hk => (iv k hk).1)).trans (kb5.weaken fun k hk => by subst hk; exact l1)).trans (kb6.weaken fun k hk => by subst hk; have := k1.next; omega)
      · have s6 := s5.keepBut kb6 fun k hk e => (iv' k hk).2.2 e
        have e1 : ints (l.take (i + 1)) = ints (l.take i) ++ [.int .i64 l[i]] := by rw [List.take_succ_eq_append_getElem hi, ints_append]; rfl
        have e2 : (l.take (i + 1)).length = (l.take i).length + 1 := by simp; omega
        show SlV g6 1 v' (l.take (i + 1)).length (ints (l.take (i + 1)))
        rw [e1, e2]
        exact s6
    · rintro _ g ⟨kp, hl, v, rv, sv, gv, nv, zv, iv⟩
      rw [List.take_length] at sv
      refine ⟨.ready, none, hl, rfl, fun g3 kb3 => after_none ?_⟩
      refine goP ?_
      apply K_mid
      have hne : i2 ≠ lid := by omega
      refine ⟨t2, kp.trans (kb3.weaken fun k hk => by subst hk; have := k1.next; omega), v, rv.keepBut kb3 hne, sv.keepBut kb3 (fun k hk e => (iv k hk).2.2 e), gv, fun c => nv (List.length_pos_iff.2 c), fun c => zv (by rw [c]; rfl), fun k hk => (iv k hk).1⟩
  rintro T g ⟨t2, kp, v, r, q1, q2, q3, q4, q5⟩
  refine goP ?_
  (apply qav rfl; exact tgP)
  exact ⟨kp.toKeep w, q1, q2, q3, q4, q5⟩

theorem sort_spec (hs : sums 73 = some sortSum) {n : Nat} (hn : 1 ≤ n) {h : Hp} {v : AV} {l : List Int} (o : Ints h v l) (hg : qcr v = true) (h1 : l ≠ [] → qa4 v ≠ []) (h2 : l = [] → v = .sl .nil 0 []) (hb : l.length < 2 ^ 61) :
    Runs (qat Try.prog pol sums n (.func (.func 73) [] []) [v]) h (fun r h' => r = .tuple [] ∧ KeepBut (· ∈ qa4 v) h h' ∧ Ints h' v (qcv l)) := by
  obtain ⟨n, rfl⟩ : ∃ m, n = m + 1 := ⟨n - 1, by omega⟩
  refine R_sum hs ?_
  simp only [List.nil_append, List.append_nil]
  by_cases he : l = []
  · obtain rfl := h2 he
    subst he
    exact Runs.pure ⟨rfl, KeepBut.refl _, o⟩
  · obtain ⟨id, ver, fix, len, rfl, row, r, hlen, h3, h4⟩ := o.rowInts (h1 he) hg
    obtain ⟨k, hk⟩ : ∃ k, l.length = k + 1 := ⟨l.length - 1, by have := List.length_pos_iff.2 he; omega⟩
    rw [hk] at h3 h4 ⊢
    simp only [sortSum]
    obtain ⟨st, ho⟩ := r
    refine Runs.bind (Runs.row ho ?_)
    dsimp only
    rw [show (Nat.ble (0 + (k + 1)) row.length && Nat.blt (k + 1) 4611686018427387904) = true by simp [Nat.blt_eq]; omega, qar, qaa, h4, intsOf_ints, ofOption_some', qaa]
    have hsl : (qcv l).length = k + 1 := by rw [(sortZ_perm l).length_eq, hk]
    refine Runs.bind (Runs.hput ho (Nat.le_refl _) (Runs.pure ⟨rfl, (KeepBut.put _).weaken (by rintro i rfl; simp [qa4]), ?_⟩))
    have hfit : 0 + (ints (qcv l)).length ≤ row.length := by simp; omega
    have := SlV.own (h := ⟨h.obj.set id (some ⟨ver, st + 1, .row 1 (splice row 0 (ints (qcv l))) fix⟩), h.next⟩) (sz := 1) id ver 0 (k + 1) _ fix ⟨_, qbm _ _ _ _⟩ (by rw [qby hfit]; omega)
    show SlV _ 1 _ (qcv l).length (ints (qcv l))
    rw [hsl]
    have e : ((splice row 0 (ints (qcv l))).drop 0).take ((k + 1) * 1) = ints (qcv l) := by
      have := splice_end hfit
      simp only [Nat.zero_add, ints_length, hsl, List.take_zero, List.nil_append] at this
      simpa using this
    rw [e] at this
    exact this

def wholeZ (order : List Int) (many : Nat) : Bool := decide (qcv order = zs (List.range order.length)) && order.length == many
theorem whole_spec (S : S27' pol sums) {n : Nat} {h : Hp} {s : AV} {l : List Int} (hn : l.length + 12 ≤ n) (o : Ints h s l) (hb : l.length < 2 ^ 40) (many : Nat) :
    Runs (qat Try.prog pol sums n (.func (.func 28) [] []) [s, .int .i64 (many : Nat)]) h (fun v h' => Keep h h' ∧ v = .bool (wholeZ l many)) := by
  apply Runs.wf
  intro w
  have S' := S.rest
  have s28 : sums 28 = none := S' _ (by decide)
  obtain ⟨n, rfl⟩ : ∃ m, n = m + 1 := ⟨n - 1, by omega⟩
  refine qb9 (by assumption) Try.func28 rfl (by simp [Try.f28]) ?_
  have a0 : qay (qah Try.f28.ntmps (([] ++ [s, .int .i64 (many : Nat)] ++ []) : List AV)) 0 = s := qaf rfl
  have a1 : qay (qah Try.f28.ntmps (([] ++ [s, .int .i64 (many : Nat)] ++ []) : List AV)) 1 = .int .i64 (many : Nat) := qaf rfl
  generalize qah Try.f28.ntmps (([] ++ [s, .int .i64 (many : Nat)] ++ []) : List AV) = T at *
  show Runs (qaw _ _ _ _ 26 _ _ _) _ _
  refine goP ?_
  (apply qbn; exact evP; (repeat (apply qai; exact evP)); exact qas)
  have vals : ∀ g, Ints g s l → ∀ n, 1 ≤ n → Runs (qat Try.prog pol sums n (.func (.func 57) [] []) [s]) g (fun v g' => Keep g g' ∧ ∃ i1, v = .func (.func 74) [] [.ptr i1 0 0] ∧ Row g' i1 0 1 [s] true) := by
    intro g og n hn
    have s57 : sums 57 = none := S' _ (by decide)
    clear a0 a1
    obtain ⟨n, rfl⟩ : ∃ m, n = m + 1 := ⟨n - 1, by omega⟩
    refine qb9 (by assumption) Try.func57 rfl (by simp [Try.f57]) ?_
    have a0 : qay (qah Try.f57.ntmps (([] ++ [s] ++ []) : List AV)) 0 = s := qaf rfl
    generalize qah Try.f57.ntmps (([] ++ [s] ++ []) : List AV) = T at *
    show Runs (qaw _ _ _ _ 4 _ _ _) _ _
    refine goP ?_
    apply O_box
    · exact evP
    · exact og.known
    intro g1 i1 k1 r1 l1 l2
    rw [og.acells] at r1
    refine goP ?_
    apply O_makeFunc (l1 := []) (l2 := [.ptr i1 0 0])
    · exact qas
    · exact qai (by exact evP) qas
    refine goP ?_
    (apply qav rfl; exact tgP)
    exact ⟨k1, i1, rfl, r1⟩
  refine (vals h o n (by omega)).mono ?_
  rintro v g1 ⟨k1, i1, rfl, r1⟩
  refine ⟨Undis.off rfl, ?_⟩
  have o1 := o.keep k1
  have sorted : ∀ n, l.length + 11 ≤ n → Runs (qat Try.prog pol sums n (.func (.func 56) [] []) [.func (.func 74) [] [.ptr i1 0 0]]) g1 (fun v g' => Keep g1 g' ∧ Ints g' v (qcv l)) := by
    intro n hn
    apply Runs.wf
    intro w1
    have s56 : sums 56 = none := S' _ (by decide)
    clear a0 a1
    obtain ⟨n, rfl⟩ : ∃ m, n = m + 1 := ⟨n - 1, by omega⟩
    refine qb9 (by assumption) Try.func56 rfl (by simp [Try.f56]) ?_
    have a0 : qay (qah Try.f56.ntmps (([] ++ [.func (.func 74) [] [.ptr i1 0 0]] ++ []) : List AV)) 0 = .func (.func 74) [] [.ptr i1 0 0] := qaf rfl
    generalize qah Try.f56.ntmps (([] ++ [.func (.func 74) [] [.ptr i1 0 0]] ++ []) : List AV) = T at *
    show Runs (qaw _ _ _ _ 9 _ _ _) _ _
    refine goP ?_
    (apply qbn; exact evP; (repeat (apply qai; exact evP)); exact qas)
    have coll : ∀ n, l.length + 10 ≤ n → Runs (qat Try.prog pol sums n (.func (.func 72) [] []) [.func (.func 74) [] [.ptr i1 0 0]]) g1 (fun v h' => Keep g1 h' ∧ Ints h' v l ∧ qcr v = true ∧ (l ≠ [] → qa4 v ≠ []) ∧ (l = [] → v = .sl .nil 0 []) ∧ ∀ k ∈ qa4 v, g1.next ≤ k) := by
      intro n hn
      have s72 : sums 72 = none := S' _ (by decide)
      clear a0
      obtain ⟨n, rfl⟩ : ∃ m, n = m + 1 := ⟨n - 1, by omega⟩
      refine qb9 (by assumption) Try.func72 rfl (by simp [Try.f72]) ?_
      have a0 : qay (qah Try.f72.ntmps (([] ++ [.func (.func 74) [] [.ptr i1 0 0]] ++ []) : List AV)) 0 = .func (.func 74) [] [.ptr i1 0 0] := qaf rfl
      generalize qah Try.f72.ntmps (([] ++ [.func (.func 74) [] [.ptr i1 0 0]] ++ []) : List AV) = T at *
      show Runs (qaw _ _ _ _ 5 _ _ _) _ _
      refine goP ?_
      (apply qbn; exact evP; (repeat (apply qai; exact evP)); exact qas)
      refine (appendSeq_spec S (by omega) r1 o1 hb).mono ?_
      rintro v g2 ⟨k2, q⟩
      refine ⟨Undis.off rfl, ?_⟩
      refine goP ?_
      (apply qav rfl; exact tgP)
      exact ⟨k2, q⟩
    refine (coll n (by omega)).mono ?_
    rintro v g2 ⟨k2, q1, q2, q3, q4, q5⟩
    refine ⟨Undis.off rfl, ?_⟩
    refine goP ?_
    (apply qbn; exact evP; (repeat (apply qai; exact evP)); exact qas)
    refine (sort_spec S.sort (by omega) q1 q2 q3 q4 (by omega)).mono ?_
    rintro r g3 ⟨rfl, kb3, s3⟩
    refine ⟨Undis.off rfl, ?_⟩
    refine goP ?_
    (apply qav rfl; exact tgP)
    exact ⟨KeepBut.keep k2 kb3 fun i hi => w1.get (q5 i hi), s3⟩
  (apply qbn; exact evP; (repeat (apply qai; exact evP)); exact qas)
  refine (sorted n (by omega)).mono ?_
  rintro v g2 ⟨k2, s2⟩
  refine ⟨Undis.off rfl, ?_⟩
  have kk := k1.trans k2
  have hsl : (qcv l).length = l.length := (sortZ_perm l).length_eq
  have s2' : SlV g2 1 v l.length (ints (qcv l)) := by rw [← hsl]; exact s2
  refine goP ?_
  apply R_loop (k := l.length) (I := fun k T g => ∃ i, k = l.length - i ∧ i ≤ l.length ∧ qay T 1 = .int .i64 (many : Nat) ∧ qay T 5 = v ∧ qay T 11 = v ∧ qay T 12 = .int .i64 (l.length : Nat) ∧ qay T 13 = .int .i64 (i : Nat) ∧ g = g2 ∧ (qcv l).take i = (zs (List.range l.length)).take i)
  · omega
  · exact ⟨0, by omega, by omega, by exact tgP, by exact tgP, by exact tgP, by exact tgP, by exact tgP, rfl, by simp⟩
  · rintro k T g ⟨i, rfl, hi, t1, t5, t11, t12, t13, rfl, hp⟩
    refine goP ?_
    apply qa9 (decide ((i : Int) < (l.length : Int)))
    · exact evP
    · intro c
      have hlt : i < l.length := by simpa using c
      have hlt' : i < (qcv l).length := by omega
      refine goP ?_
      apply qax
      · exact evP
      · exact s2'
      · exact evP
      · omega
      · rfl
      intro a ha _
      rw [ints_at hlt'] at ha
      apply qbx
      · exact evP
      · exact ha
      refine goP ?_
      apply qa9 ((i : Int) != (qcv l)[i])
      · exact evP
      · intro c
        have c : (i : Int) ≠ (qcv l)[i] := by simpa using c
        refine goP ?_
        (apply qav rfl; exact tgP)
        refine ⟨kk, ?_⟩
        have : qcv l ≠ zs (List.range l.length) := fun e => by
          have h1 : (qcv l)[i]? = (zs (List.range l.length))[i]? := by rw [e]
          rw [List.getElem?_eq_getElem hlt'] at h1
          simp [zs, hlt] at h1
          exact c h1.symm
        simp [wholeZ, this]
      · intro c
        have c : (i : Int) = (qcv l)[i] := by simpa using c
        refine goP ?_
        apply K_loop (l.length - (i + 1)) (by omega)
        refine ⟨i + 1, rfl, by omega, by exact tgP, by exact tgP, by exact tgP, by exact tgP, by exact tgP, rfl, ?_⟩
        rw [List.take_succ_eq_append_getElem hlt', List.take_succ_eq_append_getElem (by simpa using hlt), hp, ← c]
        simp [zs]
    · intro c
      have : i = l.length := by
        have : ¬ i < l.length := by simpa using c
        omega
      subst this
      have hp' : qcv l = zs (List.range l.length) := by
        rw [List.take_of_length_le (by omega), List.take_of_length_le (by simp)] at hp
        exact hp
      refine goP ?_
      (apply qav rfl; exact tgP)
      refine ⟨kk, ?_⟩
      simp only [wholeZ, hp', decide_true, Bool.true_and]
      congr 1
      rw [Bool.eq_iff_iff]
      simp
      omega
end Go.Am
namespace Go.Am
open Go Go.Proofs AM
set_option maxRecDepth 10000
variable {pol : Pol} {sums : Sums}
attribute [local irreducible] KSeq KMid KBlock KLoop KOps KFunc Runs qbq qaw aopsM aop qat qay qa2 qa2? qaj qa8 qah
attribute [local irreducible] KRound KAssign

abbrev stepC (place op : Int) (p : Ptn) (sv fv : AV) : List AV := [.int .i64 place, .int .i64 op] ++ qcd p ++ [sv, fv]
theorem stepC_ones {place op : Int} {p : Ptn} {sv fv : AV} (h1 : one sv = true) (h2 : one fv = true) : ones (stepC place op p sv fv) = true := by
  simp [ones, h1, h2, show ∀ k c, one (.int k c) = true from fun _ _ => rfl, show ∀ s, one (.str s) = true from fun _ => rfl]
/-- the names that are known ahead of a step -/
def qaq (pats : List Ptn) (order : List Nat) (i : Nat) : List Str := (order.take i).foldl (fun k j => match pats[j]? with | some p => learnZ k p | none => k) []
theorem knownAt_succ (pats : List Ptn) (order : List Nat) {i : Nat} (hi : i < order.length) (hp : order[i] < pats.length) : qaq pats order (i + 1) = learnZ (qaq pats order i) pats[order[i]] := by
  unfold qaq
  rw [List.take_succ_eq_append_getElem hi, List.foldl_append]
  simp [hp]
theorem knownAt_length (pats : List Ptn) (order : List Nat) : ∀ i, (qaq pats order i).length ≤ 3 * i := by
  intro i
  unfold qaq
  have h : ∀ (l : List Nat) (k : List Str), (l.foldl (fun k j => match pats[j]? with | some p => learnZ k p | none => k) k).length ≤ k.length + 3 * l.length := by
    intro l
    induction l with
    | nil => intro k; simp
    | cons j l ih =>
      intro k
      simp only [List.foldl_cons, List.length_cons]
      cases pats[j]? with
      | none => have := ih k; simp only; omega
      | some p => have := ih (learnZ k p); have := learnZ_length k p; simp only; omega
  have := h (order.take i) []
  simp only [List.length_nil, List.length_take] at this
  omega

theorem each1_spec (S : S27' pol sums) {n : Nat} {h : Hp} {ip iq : Nat} {ov qv pv Y : AV} {order : List Nat} {pats : List Ptn} (hn : order.length + pats.length + 20 ≤ n) (hb : order.length < 2 ^ 30) (hb2 : pats.length < 2 ^ 30)
    (rp : Row h ip 0 2 [ov, qv] true) (rq : Row h iq 0 1 [pv] true) (oo : Ints h ov (zs order)) (po : Rows qcd 15 h pv pats) (hor : ∀ i ∈ order, i < pats.length)
    (X : Nat → Prop) (hX : ∀ j, X j → j < h.next) (hXp : ¬ X ip) (hXq : ¬ X iq) (hXo : ∀ k ∈ qa4 ov, ¬ X k) (hXpv : ∀ k ∈ qa4 pv, ¬ X k)
    (opsF : Nat → List Int) (I : Nat → Hp → Prop) (Stop : Hp → Prop) (h0 : I 0 h) (hI : ∀ i g g', I i g → KeepBut (h.next ≤ ·) g g' → I i g') (hQ : ∀ i g, I i g → Ints g qv (opsF i)) (hQl : ∀ i, (opsF i).length = order.length)
    (hY : ∀ i (hi : i < order.length) (hp : order[i] < pats.length) g m sv fv, n ≤ m + 3 → I i g → Strs g sv (qa1 (qaq pats order i) pats[order[i]]) → Strs g fv (fresh (qaq pats order i) pats[order[i]]) →
      Runs (qat Try.prog pol sums m Y [.int .i64 (i : Nat), .agg (stepC (order[i] : Nat) ((opsF i)[i]'(by rw [hQl]; exact hi)) pats[order[i]] sv fv)]) g fun v g' => ∃ b, v = .bool b ∧ KeepBut X g g' ∧ (b = true → I (i + 1) g') ∧ (b = false → Stop g')) :
    Runs (qat Try.prog pol sums n (.func (.func 47) [] [.ptr ip 0 0, .ptr iq 0 0]) [Y]) h (fun _ g => KeepBut (fun j => X j ∨ h.next ≤ j) h g ∧ (I order.length g ∨ Stop g)) := by
  apply Runs.wf
  intro w
  have S' := S.rest
  have s47 : sums 47 = none := S' _ (by decide)
  obtain ⟨n, rfl⟩ : ∃ m, n = m + 1 := ⟨n - 1, by omega⟩
  refine qb9 (by assumption) Try.func47 rfl (by simp [Try.f47]) ?_
  have a0 : qay (qah Try.f47.ntmps (([] ++ [Y] ++ [.ptr ip 0 0, .ptr iq 0 0]) : List AV)) 0 = Y := qaf rfl
  have a1 : qay (qah Try.f47.ntmps (([] ++ [Y] ++ [.ptr ip 0 0, .ptr iq 0 0]) : List AV)) 1 = .ptr ip 0 0 := qaf rfl
  have a2 : qay (qah Try.f47.ntmps (([] ++ [Y] ++ [.ptr ip 0 0, .ptr iq 0 0]) : List AV)) 2 = .ptr iq 0 0 := qaf rfl
  generalize qah Try.f47.ntmps (([] ++ [Y] ++ [.ptr ip 0 0, .ptr iq 0 0]) : List AV) = T at *
  show Runs (qaw _ _ _ _ 50 _ _ _) _ _
  refine goP ?_
  apply O_makeMap
  intro g1 mid k1 rm l1 l2
  apply O_build (c' := [.mapv mid])
  · exact qa0 (by exact evP) qbv
  · rfl
  apply O_wf
  intro w1
  apply O_alloc
  intro g2 i4 k2 r4 l3 l4
  apply qb0
  · exact evP
  · exact evP
  · exact r4
  · rfl
  intro g3 kb3 r4
  refine ⟨Undis.off rfl, ?_⟩
  change Row g3 i4 0 1 [.mapv mid] true at r4
  have k3 : Keep g1 g3 := KeepBut.keep k2 kb3 fun j hj => w1.get (by omega)
  have kk := k1.trans k3
  have rm3 := rm.keep k3
  have rp3 := rp.keep kk
  have oo3 := oo.keep kk
  refine goP ?_
  have hol : (zs order).length = order.length := qa7 order
  have hip := rp.lt w
  have hiq := rq.lt w
  have hov := oo.lt w
  have hpv := po.lt w
  apply R_loop (k := order.length) (I := fun k T g => ∃ i c, k = order.length - i ∧ i ≤ order.length ∧ qay T 0 = Y ∧ qay T 1 = .ptr ip 0 0 ∧ qay T 2 = .ptr iq 0 0 ∧ qay T 4 = .ptr i4 0 0 ∧ qay T 13 = ov ∧ qay T 14 = .int .i64 ((zs order).length : Nat) ∧ qay T 15 = .int .i64 (i : Nat) ∧
    KeepBut (fun j => X j ∨ h.next ≤ j) h g ∧ I i g ∧ Row g i4 0 1 [.mapv mid] true ∧ KnownAt g mid c (qaq pats order i) ∧ c ≤ 3 * i)
  · omega
  · refine ⟨0, 0, by omega, by omega, by exact tgP, by exact tgP, by exact tgP, by exact tgP, by exact tgP, by exact tgP, by exact tgP, kk.but _, hI 0 h g3 h0 (kk.but _), r4, ⟨[], rm3, rfl, by simp⟩, by omega⟩
  · rintro k T g ⟨i, c, rfl, hi, t0, t1, t2, t4, t13, t14, t15, kp, hIi, r4, kn, hci⟩
    refine goP ?_
    apply qa9 (decide ((i : Int) < ((zs order).length : Int)))
    · exact evP
    · intro cc
      have hlt : i < order.length := by simpa using cc
      have hpl := hor order[i] (List.getElem_mem hlt)
      have hnx : ∀ j, ¬ X j → j < h.next → ¬ (X j ∨ h.next ≤ j) := fun j h1 h2 h3 => by rcases h3 with q | q; exact h1 q; omega
      have og := oo.keepBut kp fun j hj => hnx j (hXo j hj) (hov j hj)
      have pg := po.keepBut kp fun j hj => hnx j (hXpv j hj) (hpv j hj)
      have rqg := rq.keepBut kp (hnx _ hXq hiq)
      refine goP ?_
      apply qax
      · exact evP
      · exact og
      · exact evP
      · omega
      · rfl
      intro a ha _
      rw [ints_at (l := zs order) (i := i) (by omega)] at ha
      have hzi : (zs order)[i]'(by omega) = (order[i] : Nat) := by simp [zs]
      rw [hzi] at ha
      apply qbx
      · exact evP
      · exact ha
      refine goP ?_
      apply qax
      · exact evP
      · exact pg
      · exact evP
      · exact hpl
      · rfl
      intro a2 ha2 _
      rw [flat_at ptnC_len hpl] at ha2
      apply qcf
      · exact evP
      · exact ha2
      · rfl
      apply O_wf
      intro wg
      apply O_alloc
      intro g5 i7 k5 r7 l7 l8
      apply qb0
      · exact evP
      · exact evP
      · exact r7
      · rfl
      intro g6 kb6 r7
      refine ⟨Undis.off rfl, ?_⟩
      change Row g6 i7 0 15 (qcd pats[order[i]]) true at r7
      have k6 : Keep g g6 := KeepBut.keep k5 kb6 fun j hj => wg.get (by omega)
      have r4' := r4.keep k6
      have kn' := kn.keep k6
      have hgn : h.next ≤ g.next := kp.next
      refine goP ?_
      apply qau (n := 1)
      · exact evP
      · exact r4'
      · rfl
      · exact rfl
      apply qau (n := 15)
      · exact evP
      · exact r7
      · rfl
      · exact rfl
      (apply qbn; exact evP; (repeat (apply qai; exact evP)); exact qas)
      refine (parts_spec S.lit (S' _ (by decide)) (S' _ (by decide)) (S' _ (by decide)) (S' _ (by decide)) S.has (by omega) kn' pats[order[i]]).mono ?_
      rintro v g7 ⟨k7, sv, fv, rfl, ss, sf⟩
      refine ⟨Undis.off rfl, ?_⟩
      have k67 := k6.trans k7
      have I7 := hI i g g7 hIi (k67.but _)
      have q7 := hQ i g7 I7
      have r7' := r7.keep k7
      have r4'' := r4'.keep k7
      have kn'' := kn'.keep k7
      have kp7 : KeepBut (fun j => X j ∨ h.next ≤ j) h g7 := kp.trans (k67.but _)
      have rpg := rp.keepBut kp7 (hnx _ hXp hip)
      have hql := hQl i
      refine goP ?_
      (refine R_drawn [0, 1, 2, 3, 4, 5, 6, 7, 8, 9, 10, 11, 12, 13] [0, 0, 0, 0, 8, 0, 56, 120, 0, 0, 0, 2044, 4095, 8191] (by kernel_rfl) (by kernel_rfl) (by rfl) ?_; dsimp only [qci, List.map, List.getElem?_cons_zero, List.getElem?_cons_succ])
      refine goP ?_
      apply qax
      · exact evP
      · exact q7
      · exact evP
      · omega
      · rfl
      intro a3 ha3 _
      rw [ints_at (l := opsF i) (i := i) (by omega)] at ha3
      apply qbx
      · exact evP
      · exact ha3
      apply qau (n := 15)
      · exact evP
      · exact r7'
      · rfl
      · exact rfl
      refine goP ?_
      apply O_build (c' := stepC (order[i] : Nat) ((opsF i)[i]'(by omega)) pats[order[i]] sv fv)
      · exact qa0 (by exact evP) (qa0 (by exact evP) (qa0 (by exact evP) (qa0 (by exact evP) (qa0 (by exact evP) qbv))))
      · simp [afillL, splice, ss.acells, sf.acells, ss.known, sf.known, show ∀ c, acells (.agg c) = c from fun _ => rfl, show ∀ c, Am.known (.agg c) = true from fun _ => rfl, show ∀ k c, acells (.int k c) = [.int k c] from fun _ _ => rfl, show ∀ k c, Am.known (.int k c) = true from fun _ _ => rfl]
        rfl
      (apply qbn; exact evP; (repeat (apply qai; exact evP)); exact qas)
      refine (hY i hlt hpl g7 n sv fv (by omega) I7 ss sf).mono ?_
      rintro v g8 ⟨b, rfl, kb8, h1, h2⟩
      refine ⟨Undis.ahead (by kernel_rfl), ?_⟩
      have kp8 : KeepBut (fun j => X j ∨ h.next ≤ j) h g8 := kp7.trans (kb8.weaken fun j hj => .inl hj)
      refine goP ?_
      apply qa9 (!b)
      · exact evP
      · intro cb
        have cb : b = false := by simpa using cb
        refine goP ?_
        apply R_results0 rfl
        exact ⟨kp8, .inr (h2 cb)⟩
      · intro cb
        have cb : b = true := by simpa using cb
        have I8 := h1 cb
        have nX : ∀ j, h.next ≤ j → ¬ X j := fun j hj hx => by have := hX j hx; omega
        have r4c := r4''.keepBut kb8 (nX _ (by have := k1.next; omega))
        have r7c := r7'.keepBut kb8 (nX _ (by omega))
        have knc := kn''.keepBut kb8 (nX _ l1)
        refine goP ?_
        (refine R_drawn [0, 1, 2, 3, 4] [0, 0, 2, 6, 15] (by kernel_rfl) (by kernel_rfl) (by rfl) ?_; dsimp only [qci, List.map, List.getElem?_cons_zero, List.getElem?_cons_succ])
        refine goP ?_
        apply qau (n := 1)
        · exact evP
        · exact r4c
        · rfl
        · exact rfl
        apply qau (n := 15)
        · exact evP
        · exact r7c
        · rfl
        · exact rfl
        apply qbl
        · exact qa0 (by exact evP) qbv
        · rfl
        · rfl
        · exact S.lit _ _
        intro _
        (apply qbn; exact evP; (repeat (apply qai; exact evP)); exact qas)
        apply Runs.wf
        intro w8
        refine (vars_spec S.lit (S' _ (by decide)) (S' _ (by decide)) (S' _ (by decide)) S.has (l := [pats[order[i]]]) (by simp; omega) (SlV.imm _ _ _ rfl) (by simp)).mono ?_
        rintro nv g9 ⟨k9, s9, -, hv9⟩
        refine ⟨k9.undis, ?_⟩
        have hvl := qbe [pats[order[i]]]
        simp only [List.length_singleton] at hvl
        have kn9 := knc.keep k9
        have hmidlt := knc.lt w8
        (apply qbn; exact evP; (repeat (apply qai; exact evP)); exact qas)
        refine (learn_spec (S' _ (by decide)) (by omega) kn9 s9 (fun q => by have := hv9 _ q; omega) (by omega)).mono ?_
        rintro _ g10 ⟨kb10, kn10⟩
        refine ⟨Undis.ahead (by kernel_rfl), ?_⟩
        have hg89 : g8.next ≤ g9.next := k9.next
        have hh8 : h.next ≤ g8.next := kp8.next
        have kb910 : KeepBut (h.next ≤ ·) g8 g10 := (k9.but _).trans (kb10.weaken fun j hj => by rcases hj with rfl | hj; exact l1; omega)
        have hi4m : i4 ≠ mid := by omega
        have r4d := (r4c.keep k9).keepBut kb10 (fun q => by rcases q with q | q; exact hi4m q; have := r4c.lt w8; omega)
        refine goP ?_
        apply K_loop (order.length - (i + 1)) (by omega)
        refine ⟨i + 1, c + (qbu [pats[order[i]]]).length, rfl, by omega, by exact tgP, by exact tgP, by exact tgP, by exact tgP, by exact tgP, by exact tgP, by exact tgP, kp8.trans (kb910.weaken fun j hj => .inr hj), hI _ _ _ I8 kb910, r4d, ?_, by omega⟩
        rw [knownAt_succ pats order hlt hpl]
        exact kn10
    · intro cc
      have : i = order.length := by
        have : ¬ i < order.length := by simpa using cc
        omega
      subst this
      refine goP ?_
      apply R_results0 rfl
      exact ⟨kp, .inl hIi⟩
end Go.Am
namespace Go.Am
open Go Go.Proofs AM
set_option maxRecDepth 10000
variable {pol : Pol} {sums : Sums}

def mayZ (op : Int) (k : Nat) : Bool := if op = 1 then true else if op = 2 then decide (0 < k) else if op = 3 then k == 1 else false
def stepOk (pats : List Ptn) (o : List Nat) (ops : List Int) (i : Nat) : Bool := match o[i]?, ops[i]? with
  | some j, some op => match pats[j]? with
    | some p => mayZ op (qa1 (qaq pats o i) p).length
    | none => false
  | _, _ => false
def qbf (pats : List Ptn) (order ops : List Int) : Bool := wholeZ order pats.length && (ops.length == pats.length) && (List.range pats.length).all (stepOk pats (order.map Int.toNat) ops)

theorem zs_toNat (o : List Nat) : (zs o).map Int.toNat = o := by
  simp [zs, List.map_map, Function.comp_def]
theorem wholeZ_true {l : List Int} {m : Nat} (h : wholeZ l m = true) : ∃ o : List Nat, l = zs o ∧ (∀ i ∈ o, i < m) ∧ o.length = m ∧ o.Perm (List.range m) := by
  simp only [wholeZ, Bool.and_eq_true, decide_eq_true_eq, beq_iff_eq] at h
  obtain ⟨h1, rfl⟩ := h
  have hp : l.Perm (zs (List.range l.length)) := by rw [← h1]; exact (sortZ_perm l).symm
  have hz : ∀ x ∈ l, ∃ i : Nat, x = (i : Int) ∧ i < l.length := fun x hx => by
    obtain ⟨i, hi, rfl⟩ := List.mem_map.1 (hp.mem_iff.1 hx)
    exact ⟨i, rfl, List.mem_range.1 hi⟩
  have hl : l = zs (l.map Int.toNat) := by
    apply List.ext_getElem
    · simp
    · intro i h1 h2
      obtain ⟨j, hj, _⟩ := hz l[i] (List.getElem_mem h1)
      simp [zs, hj]
  refine ⟨l.map Int.toNat, hl, fun i hi => ?_, by simp, ?_⟩
  · obtain ⟨x, hx, rfl⟩ := List.mem_map.1 hi
    obtain ⟨j, rfl, hj⟩ := hz x hx
    simpa using hj
  · have := hp.map Int.toNat
    rw [zs_toNat] at this
    exact this

attribute [local irreducible] KSeq KMid KBlock KLoop KOps KFunc Runs qbq qaw aopsM aop qat qay qa2 qa2? qaj qa8 qah
attribute [local irreducible] KRound KAssign
theorem may_spec (hs : sums 29 = none) {n : Nat} (hn : 1 ≤ n) (op : Int) (k : Nat) (h : Hp) : Runs (qat Try.prog pol sums n (.func (.func 29) [] []) [.int .i64 op, .int .i64 (k : Nat)]) h (fun v h' => h = h' ∧ v = .bool (mayZ op k)) := by
  obtain ⟨n, rfl⟩ : ∃ m, n = m + 1 := ⟨n - 1, by omega⟩
  refine qb9 (by assumption) Try.func29 rfl (by simp [Try.f29]) ?_
  have a0 : qay (qah Try.f29.ntmps (([] ++ [.int .i64 op, .int .i64 (k : Nat)] ++ []) : List AV)) 0 = .int .i64 op := qaf rfl
  have a1 : qay (qah Try.f29.ntmps (([] ++ [.int .i64 op, .int .i64 (k : Nat)] ++ []) : List AV)) 1 = .int .i64 (k : Nat) := qaf rfl
  generalize qah Try.f29.ntmps (([] ++ [.int .i64 op, .int .i64 (k : Nat)] ++ []) : List AV) = T at *
  show Runs (qaw _ _ _ _ 16 _ _ _) _ _
  refine goP ?_
  apply qa9 (op == 1)
  · exact evP
  · intro c
    have c : op = 1 := by simpa using c
    refine goP ?_
    (apply qav rfl; exact tgP)
    simp [mayZ, c]
  intro c
  have c : ¬ op = 1 := by simpa using c
  refine goP ?_
  apply qa9 (op == 2)
  · exact evP
  · intro c2
    have c2 : op = 2 := by simpa using c2
    refine goP ?_
    (apply qav rfl; exact tgP)
    simp [mayZ, c2]
  intro c2
  have c2 : ¬ op = 2 := by simpa using c2
  refine goP ?_
  apply qa9 (op == 3)
  · exact evP
  · intro c3
    have c3 : op = 3 := by simpa using c3
    refine goP ?_
    (apply qav rfl; exact tgP)
    simp [mayZ, c3]
    rw [Bool.eq_iff_iff]
    simp
    omega
  · intro c3
    have c3 : ¬ op = 3 := by simpa using c3
    refine goP ?_
    (apply qav rfl; exact tgP)
    simp [mayZ, c, c2, c3]

theorem each_spec (S : S27' pol sums) {n : Nat} (hn : 1 ≤ n) {h : Hp} {ov qv pv : AV} (ho : acells pv = [pv]) (hk : Am.known pv = true) :
    Runs (qat Try.prog pol sums n (.func (.func 21) [] []) [.agg [ov, qv], pv]) h (fun v h' => Keep h h' ∧ ∃ ip iq, v = .func (.func 47) [] [.ptr ip 0 0, .ptr iq 0 0] ∧ Row h' ip 0 2 [ov, qv] true ∧ Row h' iq 0 1 [pv] true ∧ h.next ≤ ip ∧ h.next ≤ iq) := by
  have s21 : sums 21 = none := S.rest _ (by decide)
  obtain ⟨n, rfl⟩ : ∃ m, n = m + 1 := ⟨n - 1, by omega⟩
  refine qb9 (by assumption) Try.func21 rfl (by simp [Try.f21]) ?_
  have a0 : qay (qah Try.f21.ntmps (([] ++ [.agg [ov, qv], pv] ++ []) : List AV)) 0 = .agg [ov, qv] := qaf rfl
  have a1 : qay (qah Try.f21.ntmps (([] ++ [.agg [ov, qv], pv] ++ []) : List AV)) 1 = pv := qaf rfl
  generalize qah Try.f21.ntmps (([] ++ [.agg [ov, qv], pv] ++ []) : List AV) = T at *
  show Runs (qaw _ _ _ _ 6 _ _ _) _ _
  refine goP ?_
  apply O_box
  · exact evP
  · rfl
  intro g1 ip k1 r1 l1 l2
  change Row g1 ip 0 2 [ov, qv] true at r1
  apply O_box
  · exact evP
  · exact hk
  intro g2 iq k2 r2 l3 l4
  rw [ho] at r2
  refine goP ?_
  apply O_makeFunc (l1 := []) (l2 := [.ptr ip 0 0, .ptr iq 0 0])
  · exact qas
  · exact qai (by exact evP) (qai (by exact evP) qas)
  refine goP ?_
  (apply qav rfl; exact tgP)
  exact ⟨k1.trans k2, ip, iq, rfl, r1.keep k2, r2, l1, by have := k1.next; omega⟩

theorem right_spec (S : S27' pol sums) {n : Nat} {h : Hp} {ov qv pv : AV} {order ops : List Int} {pats : List Ptn} (hn : order.length + pats.length + 40 ≤ n) (hb : order.length < 2 ^ 30) (hb2 : pats.length < 2 ^ 30) (hb3 : ops.length < 2 ^ 40)
    (oo : Ints h ov order) (oq : Ints h qv ops) (po : Rows qcd 15 h pv pats) :
    Runs (qat Try.prog pol sums n (.func (.func 9) [] []) [.agg [ov, qv], pv]) h (fun v h' => Keep h h' ∧ v = .int .i64 (if qbf pats order ops then 0 else 18)) := by
  apply Runs.wf
  intro w
  have S' := S.rest
  have s9 : sums 9 = none := S' _ (by decide)
  obtain ⟨n, rfl⟩ : ∃ m, n = m + 1 := ⟨n - 1, by omega⟩
  refine qb9 (by assumption) Try.func9 rfl (by simp [Try.f9]) ?_
  have a0 : qay (qah Try.f9.ntmps (([] ++ [.agg [ov, qv], pv] ++ []) : List AV)) 0 = .agg [ov, qv] := qaf rfl
  have a1 : qay (qah Try.f9.ntmps (([] ++ [.agg [ov, qv], pv] ++ []) : List AV)) 1 = pv := qaf rfl
  generalize qah Try.f9.ntmps (([] ++ [.agg [ov, qv], pv] ++ []) : List AV) = T at *
  show Runs (qaw _ _ _ _ 33 _ _ _) _ _
  refine goP ?_
  apply O_box
  · exact evP
  · rfl
  intro g1 i2 k1 r2 l1 l2
  change Row g1 i2 0 2 [ov, qv] true at r2
  apply O_alloc
  intro g2 ie k2 re l3 l4
  change Row g2 ie 0 1 [.int .i64 0] true at re
  replace r2 := r2.keep k2
  have kk := k1.trans k2
  have oo2 := oo.keep kk
  have oq2 := oq.keep kk
  have po2 := po.keep kk
  refine goP ?_
  (apply qbn; exact evP; (repeat (apply qai; exact evP)); exact qas)
  refine (whole_spec S (by omega) oo2 (by omega) pats.length).mono ?_
  rintro v g3 ⟨k3, rfl⟩
  refine ⟨Undis.off rfl, ?_⟩
  replace r2 := r2.keep k3
  replace re := re.keep k3
  replace oq2 := oq2.keep k3
  replace po2 := po2.keep k3
  replace oo2 := oo2.keep k3
  replace kk := kk.trans k3
  have endBad : ∀ (T : qag) (g4 : Hp), qay T 4 = .ptr ie 0 0 → Keep h g4 → Row g4 ie 0 1 [.int .i64 18] true → qbf pats order ops = false → Runs (qa8 Try.prog Try.f9 T) g4 (fun v h' => Keep h h' ∧ v = .int .i64 (if qbf pats order ops then 0 else 18)) := by
    intro T g4 t4 k4 r4 hr
    apply R_res_one rfl t4 r4 rfl
    exact ⟨k4, by rw [hr]; rfl⟩
  have hie : ∀ j, j = ie → h.get j = none := fun j hj => by subst hj; exact w.get (by have := k1.next; omega)
  refine goP ?_
  cases hw : wholeZ order pats.length with
  | false =>
    refine goP ?_
    apply qa9 true
    · exact evP
    · intro _
      refine goP ?_
      apply qb0
      · exact evP
      · exact evP
      · exact re
      · rfl
      intro g4 kb4 r4
      refine ⟨Undis.off rfl, ?_⟩
      refine goP ?_
      exact endBad _ _ (by exact tgP) (KeepBut.keep kk kb4 hie) r4 (by simp [qbf, hw])
    · intro c; cases c
  | true =>
    refine goP ?_
    apply qa9 ((ops.length : Int) != (pats.length : Int))
    · exact evP
    · intro c
      have c : ops.length ≠ pats.length := by simp at c; omega
      refine goP ?_
      apply qb0
      · exact evP
      · exact evP
      · exact re
      · rfl
      intro g4 kb4 r4
      refine ⟨Undis.off rfl, ?_⟩
      refine goP ?_
      exact endBad _ _ (by exact tgP) (KeepBut.keep kk kb4 hie) r4 (by simp [qbf, c])
    intro c
    have c : ops.length = pats.length := by simp at c; omega
    obtain ⟨o, rfl, hol, hoL, _⟩ := wholeZ_true hw
    have hzl : (zs o).length = o.length := qa7 o
    have hright : qbf pats (zs o) ops = (List.range pats.length).all (stepOk pats o ops) := by
      simp only [qbf, hw, c, zs_toNat]
      simp
    refine goP ?_
    apply qau (n := 2)
    · exact evP
    · exact r2
    · rfl
    · exact rfl
    refine goP ?_
    (apply qbn; exact evP; (repeat (apply qai; exact evP)); exact qas)
    refine (each_spec S (by omega) po2.acells po2.known).mono ?_
    rintro v g4 ⟨k4, ip, iq, rfl, rp, rq, l5, l6⟩
    refine ⟨Undis.off rfl, ?_⟩
    replace r2 := r2.keep k4
    replace re := re.keep k4
    replace oq2 := oq2.keep k4
    replace po2 := po2.keep k4
    replace oo2 := oo2.keep k4
    replace kk := kk.trans k4
    apply O_wf
    intro w4
    refine goP ?_
    refine R_gen (fun T => qay T 4 = .ptr ie 0 0 ∧ qay T 23 = .func (.func 47) [] [.ptr ip 0 0, .ptr iq 0 0]) ⟨by exact tgP, by exact tgP⟩ ?_
    rintro T0 ⟨t4, t23⟩
    apply R_rangeFunc (F := .func (.func 47) [] [.ptr ip 0 0, .ptr iq 0 0])
    · exact evP
    · rfl
    intro h2 lid k5 hl l7 l8
    have hrow := rp.keep k5
    have hroq := rq.keep k5
    replace re := re.keep k5
    replace oq2 := oq2.keep k5
    replace po2 := po2.keep k5
    replace oo2 := oo2.keep k5
    replace kk := kk.trans k5
    have hg4 : g1.next ≤ g4.next := by have := k2.next; have := k3.next; have := k4.next; omega
    have hieL : ie < g4.next := by have := k3.next; have := k4.next; omega
    have lqv : ∀ j ∈ qa4 qv, j < h.next := oq.lt w
    have lov : ∀ j ∈ qa4 ov, j < h.next := oo.lt w
    have lpv : ∀ j ∈ qa4 pv, j < h.next := po.lt w
    have hhg : h.next ≤ g1.next := k1.next
    have hlen : ∀ i, i < o.length → i < ops.length := fun i hi => by omega
    have hstep : ∀ i (hi : i < o.length) (hp : o[i] < pats.length), stepOk pats o ops i = mayZ (ops[i]'(hlen i hi)) (qa1 (qaq pats o i) pats[o[i]]).length := fun i hi hp => by
      simp [stepOk, hi, hlen i hi, hp]
    have hXlt : ∀ j, (j = lid ∨ j = ie) → j < h2.next := fun j hj => by rcases hj with rfl | rfl <;> omega
    have hipL : ip < g4.next := rp.lt w4
    have hiqL : iq < g4.next := rq.lt w4
    have hg3 : g1.next ≤ g3.next := by have := k2.next; have := k3.next; omega
    have hie3 : ie < g3.next := by have := k3.next; omega
    obtain ⟨L, hL⟩ := hl.fam
    refine (each1_spec S (h := h2) (X := fun j => j = lid ∨ j = ie) (n := n) (order := o) (by omega) (by omega) hb2 hrow hroq oo2 po2 hol hXlt (by rintro (q | q) <;> omega) (by rintro (q | q) <;> omega)
      (fun k hk q => by have := lov k hk; rcases q with q | q <;> omega) (fun k hk q => by have := lpv k hk; rcases q with q | q <;> omega)
      (fun _ => ops)
      (fun i g => KeepBut (fun j => j = lid ∨ h2.next ≤ j) h2 g ∧ L g .ready none ∧ ∀ j, j < i → stepOk pats o ops j = true)
      (fun g => KeepBut (fun j => j = lid ∨ j = ie ∨ h2.next ≤ j) h2 g ∧ L g .done (some .ret) ∧ Row g ie 0 1 [.int .i64 18] true ∧ ∃ j, j < o.length ∧ stepOk pats o ops j = false)
      ⟨KeepBut.refl _, (hL _ _ _).2 hl, fun j hj => by omega⟩
      (fun i g g' hi k => ⟨hi.1.trans (k.weaken fun j hj => .inr hj), (hL _ _ _).2 (((hL _ _ _).1 hi.2.1).keepBut k (by omega)), hi.2.2⟩)
      (fun i g hi => oq2.keepBut hi.1 fun j hj q => by have := lqv j hj; rcases q with q | q <;> omega)
      (fun _ => by omega) ?_).mono ?_
    · rintro i hi hp g m sv fv hm ⟨kp, hl2, hall⟩ ss sf
      obtain ⟨m, rfl⟩ : ∃ q, m = q + 1 := ⟨m - 1, by omega⟩
      replace hl2 := (hL _ _ _).1 hl2
      refine R_yield hl2 rfl ?_
      rw [aparams_cons, aparams_cons, aparams_nil]
      refine goP ?_
      apply O_wf
      intro wg
      apply O_alloc
      intro g5 i6 k6 r6 l9 l10
      apply qb0
      · exact evP
      · exact evP
      · exact r6
      · have h1 := stepC_ones (place := (o[i] : Nat)) (op := ops[i]'(hlen i hi)) (p := pats[o[i]]) ss.one sf.one
        show (_ && _ && ones (stepC _ _ _ sv fv)) = true
        rw [h1]; rfl
      intro g6 kb6 r6
      refine ⟨Undis.off rfl, ?_⟩
      change Row g6 i6 0 19 (stepC (o[i] : Nat) (ops[i]'(hlen i hi)) pats[o[i]] sv fv) true at r6
      have k6' : Keep g g6 := KeepBut.keep k6 kb6 fun j hj => wg.get (by omega)
      have hlid := hl2.lt wg
      refine goP ?_
      refine K_assign (hl2.keep k6') fun g7 kb7 hl7 => ?_
      have r7 := r6.keepBut kb7 (by omega)
      have ss7 := (ss.keep k6').keepBut kb7 ((ss.keep k6').ne_loop (hl2.keep k6'))
      refine goP ?_
      (apply qbn; exact evP; (repeat (apply qai; exact evP)); exact qas)
      refine (may_spec (S' _ (by decide)) (by omega) _ _ _).mono ?_
      rintro v g8 ⟨rfl, rfl⟩
      refine ⟨Undis.off rfl, ?_⟩
      rw [← hstep i hi hp]
      have re7 : Row g7 ie 0 1 [.int .i64 0] true := ((re.keepBut kp (by omega)).keep k6').keepBut kb7 (by omega)
      have kp7 : KeepBut (fun j => j = lid ∨ h2.next ≤ j) h2 g7 := (kp.trans (k6'.but _)).trans (kb7.weaken fun j hj => .inl hj)
      have kx7 : KeepBut (fun j => j = lid ∨ j = ie) g g7 := (k6'.but _).trans (kb7.weaken fun j hj => .inl hj)
      refine goP ?_
      apply qa9 (!stepOk pats o ops i)
      · exact evP
      · intro cs
        have cs : stepOk pats o ops i = false := by simpa using cs
        refine goP ?_
        apply qb0
        · exact evP
        · exact evP
        · exact re7
        · rfl
        intro g8 kb8 r8
        refine ⟨Undis.off rfl, ?_⟩
        refine goP ?_
        refine K_round_ret (hl7.keepBut kb8 (by omega)) fun g9 kb9 hl9 => ⟨false, rfl, ?_, fun c => (by cases c), fun _ => ⟨?_, (hL _ _ _).2 hl9, r8.keepBut kb9 (by omega), i, hi, cs⟩⟩
        · exact (kx7.trans (kb8.weaken fun j hj => .inr hj)).trans (kb9.weaken fun j hj => .inl hj)
        · exact ((kp7.weaken fun j hj => by rcases hj with q | q; exact .inl q; exact .inr (.inr q)).trans (kb8.weaken fun j hj => .inr (.inl hj))).trans (kb9.weaken fun j hj => .inl hj)
      · intro cs
        have cs : stepOk pats o ops i = true := by simpa using cs
        refine goP ?_
        refine K_round_end hl7 fun g9 kb9 hl9 => ⟨true, rfl, kx7.trans (kb9.weaken fun j hj => .inl hj), fun _ => ⟨kp7.trans (kb9.weaken fun j hj => .inl hj), (hL _ _ _).2 hl9, fun j hj => ?_⟩, fun c => (by cases c)⟩
        by_cases e : j = i
        · subst e; exact cs
        · exact hall j (by omega)
    · have hlidh : ∀ j, (j = lid ∨ h2.next ≤ j) → h.get j = none := fun j hj => w.get (by rcases hj with q | q <;> omega)
      rintro _ g ⟨kp, hI | hS⟩
      · obtain ⟨kp1, hl1, hall⟩ := hI
        refine ⟨.ready, none, (hL _ _ _).1 hl1, rfl, fun g3' kb => after_none ?_⟩
        have kf : Keep h g3' := KeepBut.keep kk (kp1.trans (kb.weaken fun j hj => .inl hj)) hlidh
        have ref : Row g3' ie 0 1 [.int .i64 0] true := (re.keepBut kp1 (by omega)).keepBut kb (by omega)
        have hr : qbf pats (zs o) ops = true := by
          rw [hright, List.all_eq_true]
          intro j hj
          exact hall j (by have := List.mem_range.1 hj; omega)
        refine goP ?_
        apply qb0
        · exact evP
        · exact evP
        · exact ref
        · rfl
        intro g8 kb8 r8
        refine ⟨Undis.off rfl, ?_⟩
        refine goP ?_
        apply R_res_one rfl
        · exact tgP
        · exact r8
        · rfl
        · exact ⟨KeepBut.keep kf kb8 hie, by rw [hr]; rfl⟩
      · obtain ⟨kp1, hl1, r1, j, hj, hbad⟩ := hS
        refine ⟨.done, some .ret, (hL _ _ _).1 hl1, rfl, fun g3' kb => after_ret ?_⟩
        have kf : Keep h g3' := KeepBut.keep kk (kp1.trans (kb.weaken fun j hj => .inl hj)) (fun j hj => by
          rcases hj with q | q | q
          · exact hlidh j (.inl q)
          · exact hie j q
          · exact hlidh j (.inr q))
        have hr : qbf pats (zs o) ops = false := by
          rw [hright]
          cases hq : (List.range pats.length).all (stepOk pats o ops) with
          | false => rfl
          | true =>
            have := List.all_eq_true.1 hq j (List.mem_range.2 (by omega))
            rw [this] at hbad; cases hbad
        refine goP ?_
        exact endBad _ _ t4 kf (r1.keepBut kb (by omega)) hr
end Go.Am
namespace Go.Am
open Go Go.Proofs AM
set_option maxRecDepth 10000
variable {pol : Pol} {sums : Sums}
attribute [local irreducible] KSeq KMid KBlock KLoop KOps KFunc Runs qbq qaw aopsM aop qat qay qa2 qa2? qaj qa8 qah
attribute [local irreducible] KRound KAssign

theorem SlV.source {P : Program} {e : TypeId} {h : Hp} {sz n : Nat} {x : AV} {c : List AV} (gx : SlV h sz x n c) : qco P e sz x = qb7 sz x := by cases gx <;> rfl
theorem O_append0 {P : Program} {call : qa6} {fn nt : Nat} {h : Hp} {T : qag} {R : Rg} {rest : List (Nat × Oper)} {seen : Seen} {i : Nat} {Q : qag → Hp → Prop} {d : Option Tmp} {ty : TypeId} {pos : String} {after : Array Edge}
    {args : Array Operand} {t u e e' : TypeId} {sz bytes n : Nat} {z s x : AV} {cells : List AV} [ht : TSl P t e] [hu : TSl P u e'] [hs : TSz P e sz] [hb' : qae P e bytes] [hz' : qam P e z]
    (hl : args.toList.map (qaj T) = [s, x]) (gs : SlV h sz s n cells) (gx : SlV h sz x 0 [])
    (hz : (!(Nat.beq sz 0) && !(Nat.beq bytes 0) && Nat.beq (acells z).length sz) = true)
    (r : Undis R seen i h h ∧ qbq P pol call fn nt R rest seen (qa2? nt T d s) h Q) :
    qbq P pol call fn nt R ((i, ⟨d, .call ⟨.builtin .append, args, #[t, u]⟩, ty, pos, after, none⟩) :: rest) seen T h Q := by
  refine O_do rfl rfl ?_
  simp only [Bool.and_eq_true] at hz
  simp only [aop, hl, qck, aappendOp, elem_of ht.un, hs.sz, hb'.bytes, hz'.zero, hu.un, qaa]
  rw [hz.1.1, hz.1.2, Bool.and_self, qar, qaa, qaa, hz.2, qar, qaa]
  have hsrc : (qco P e sz x).run h = some ((0, []), h) := by
    rw [gx.source]
    exact gx.cells_run
  refine Runs.bind (Runs.of hsrc ?_)
  dsimp only
  cases gs with
  | imm => exact Runs.pure r
  | own id ver off n row fix r' e =>
    obtain ⟨st, ho⟩ := r'
    simp only [aappend]
    refine Runs.bind (Runs.row ho ?_)
    dsimp only
    rw [show Nat.beq sz sz = true by simp, qar, qaa]
    exact Runs.pure r

theorem grow_spec (hs : sums 46 = some growSum) {n : Nat} (hn : 1 ≤ n) {h : Hp} {m : Nat} (h0 : 0 < m) (hb : m < 2 ^ 40) :
    Runs (qat Try.prog pol sums n (.func (.func 46) [] []) [.sl .nil 0 [], .int .i64 (m : Nat)]) h (fun v h' => Keep h h' ∧ ∃ id, v = .own id 0 0 0 ∧ h.next ≤ id ∧ Ints h' v []) := by
  obtain ⟨n, rfl⟩ : ∃ k, n = k + 1 := ⟨n - 1, by omega⟩
  refine R_sum hs (Runs.wf fun w => ?_)
  simp only [List.nil_append, List.append_nil, growSum]
  refine Runs.bind (Runs.guard (by simp; omega) (Runs.bind (Runs.halloc (Runs.pure ⟨Keep.alloc w _, h.next, rfl, Nat.le_refl _, ?_⟩))))
  have := SlV.own (h := ⟨h.obj.set h.next (some ⟨0, 0, .row 1 (qan [.int .i64 0] ((m : Nat) : Int).toNat) false⟩), h.next + 1⟩) (sz := 1) h.next 0 0 0 _ false ⟨_, qbm _ _ _ _⟩ (by omega)
  exact this

theorem concat_spec (S : S27' pol sums) {n : Nat} {h : Hp} {v1 v2 : AV} {l1 l2 : List Int} (hn : 10 ≤ n) (o1 : Ints h v1 l1) (o2 : Ints h v2 l2) (hne : 0 < l1.length + l2.length) (hb : l1.length + l2.length < 2 ^ 30) :
    Runs (qat Try.prog pol sums n (.func (.func 20) [] []) [.sl .full 2 [v1, v2]]) h (fun v h' => Keep h h' ∧ Ints h' v (l1 ++ l2) ∧ qcr v = true ∧ qa4 v ≠ [] ∧ ∀ k ∈ qa4 v, h.next ≤ k) := by
  apply Runs.wf
  intro w
  have S' := S.rest
  have s20 : sums 20 = none := S' _ (by decide)
  obtain ⟨n, rfl⟩ : ∃ m, n = m + 1 := ⟨n - 1, by omega⟩
  refine qb9 (by assumption) Try.func20 rfl (by simp [Try.f20]) ?_
  have a0 : qay (qah Try.f20.ntmps (([] ++ [.sl .full 2 [v1, v2]] ++ []) : List AV)) 0 = .sl .full 2 [v1, v2] := qaf rfl
  generalize qah Try.f20.ntmps (([] ++ [.sl .full 2 [v1, v2]] ++ []) : List AV) = T at *
  show Runs (qaw _ _ _ _ 36 _ _ _) _ _
  have sv : ∀ h, SlV h 1 (.sl .full 2 [v1, v2]) 2 [v1, v2] := fun h => .imm _ _ _ rfl
  have sv0 := sv h
  have hget : ∀ i, i < 2 → ∃ v l, (([v1, v2] : List AV).drop (i * 1)).take 1 = [v] ∧ Ints h v l ∧ (([l1, l2] : List (List Int)).take (i + 1)).flatten = (([l1, l2] : List (List Int)).take i).flatten ++ l := fun i hi => by
    match i, hi with
    | 0, _ => exact ⟨v1, l1, rfl, o1, by simp⟩
    | 1, _ => exact ⟨v2, l2, rfl, o2, by simp⟩
  have hlen : ∀ i, (([l1, l2] : List (List Int)).take i).flatten.length ≤ l1.length + l2.length := fun i => by
    match i with
    | 0 => simp
    | 1 => simp
    | i + 2 => simp
  refine goP ?_
  apply R_midB (fun T g => qay T 0 = .sl .full 2 [v1, v2] ∧ qay T 3 = .int .i64 ((l1.length + l2.length : Nat) : Int) ∧ g = h)
  · apply R_loop (k := 2) (I := fun k T g => ∃ i, k = 2 - i ∧ i ≤ 2 ∧ qay T 0 = .sl .full 2 [v1, v2] ∧ qay T 9 = .sl .full 2 [v1, v2] ∧ qay T 10 = .int .i64 (2 : Nat) ∧ qay T 11 = .int .i64 (i : Nat) ∧ qay T 3 = .int .i64 ((([l1, l2] : List (List Int)).take i).flatten.length : Nat) ∧ g = h)
    · omega
    · exact ⟨0, by omega, by omega, by exact tgP, by exact tgP, by exact tgP, by exact tgP, by exact tgP, rfl⟩
    · rintro k T g ⟨i, rfl, hi, t0, t9, t10, t11, t3, rfl⟩
      refine goP ?_
      apply qa9 (decide ((i : Int) < ((2 : Nat) : Int)))
      · exact evP
      · intro c
        have hlt : i < 2 := by simp at c; omega
        obtain ⟨v, l, hv, ov, hfl⟩ := hget i hlt
        have hl1 := hlen (i + 1)
        rw [hfl, List.length_append] at hl1
        refine goP ?_
        apply qax
        · exact evP
        · exact sv0
        · exact evP
        · omega
        · rfl
        intro a ha _
        rw [hv] at ha
        apply qbx
        · exact evP
        · exact ha
        refine goP ?_
        apply qa9 (decide (((([l1, l2] : List (List Int)).take i).flatten.length : Int) + (l.length : Int) < 0))
        · exact evP
        · intro c; simp at c; omega
        intro _
        refine goP ?_
        apply K_loop (2 - (i + 1)) (by omega)
        refine ⟨i + 1, rfl, by omega, by exact tgP, by exact tgP, by exact tgP, by exact tgP, ?_, rfl⟩
        rw [hfl, List.length_append, Int.natCast_add]
        exact tgP
      · intro c
        have : i = 2 := by simp at c; omega
        subst this
        refine goP ?_
        apply K_mid
        have t3' : qay T 3 = .int .i64 ((l1.length + l2.length : Nat) : Int) := by
          rw [t3]; simp
        exact ⟨by exact tgP, by exact tgP, rfl⟩
  rintro T g ⟨t0, t3, rfl⟩
  refine goP ?_
  (apply qbn; exact evP; (repeat (apply qai; exact evP)); exact qas)
  refine (grow_spec S.grow (by omega) hne (by omega)).mono ?_
  rintro v6 g1 ⟨k1, id, rfl, hid, s6⟩
  refine ⟨Undis.off rfl, ?_⟩
  have sv1 := sv g1
  refine goP ?_
  apply R_midB (fun T g2 => Keep g g2 ∧ ∃ v, qay T 6 = v ∧ Ints g2 v (l1 ++ l2) ∧ qcr v = true ∧ qa4 v ≠ [] ∧ ∀ k ∈ qa4 v, g.next ≤ k)
  · apply R_loop (k := 2) (I := fun k T g2 => ∃ i v, k = 2 - i ∧ i ≤ 2 ∧ qay T 25 = .sl .full 2 [v1, v2] ∧ qay T 26 = .int .i64 (2 : Nat) ∧ qay T 27 = .int .i64 (i : Nat) ∧ qay T 6 = v ∧ KeepBut (g.next ≤ ·) g g2 ∧ Ints g2 v (([l1, l2] : List (List Int)).take i).flatten ∧ qcr v = true ∧ qa4 v ≠ [] ∧ ∀ k ∈ qa4 v, g.next ≤ k)
    · omega
    · exact ⟨0, _, by omega, by omega, by exact tgP, by exact tgP, by exact tgP, by exact tgP, k1.but _, by simpa using s6, rfl, by simp [qa4], by simp [qa4]; exact hid⟩
    · rintro k T g2 ⟨i, v, rfl, hi, t25, t26, t27, t6, kp, sv', gv, nv, iv⟩
      refine goP ?_
      apply qa9 (decide ((i : Int) < ((2 : Nat) : Int)))
      · exact evP
      · intro c
        have hlt : i < 2 := by simp at c; omega
        obtain ⟨u, l, hv, ou, hfl⟩ := hget i hlt
        have hl1 := hlen (i + 1)
        rw [hfl, List.length_append] at hl1
        have sv2 := sv g2
        have ou2 := ou.old w kp
        refine goP ?_
        apply qax
        · exact evP
        · exact sv2
        · exact evP
        · omega
        · rfl
        intro a ha _
        rw [hv] at ha
        apply qbx
        · exact evP
        · exact ha
        refine goP ?_
        by_cases hl0 : l = []
        · subst hl0
          apply O_append0
          · exact qai (by exact evP) (qai (by exact evP) qas)
          · exact sv'
          · exact ou2
          · rfl
          refine ⟨Undis.off rfl, ?_⟩
          refine goP ?_
          apply K_loop (2 - (i + 1)) (by omega)
          refine ⟨i + 1, v, rfl, by omega, by exact tgP, by exact tgP, by exact tgP, by exact tgP, kp, ?_, gv, nv, iv⟩
          rw [hfl, List.append_nil]; exact sv'
        apply O_append (new := ints l) (m := l.length) (bytes := 8)
        · exact qai (by exact evP) (qai (by exact evP) qas)
        · exact sv'
        · exact gv
        · exact ou2
        · exact ints_ones l
        · rfl
        · simp only [room]; omega
        intro v' g3 kb3 s3 gr3 iv3 ne3
        refine ⟨Undis.off rfl, ?_⟩
        refine goP ?_
        apply K_loop (2 - (i + 1)) (by omega)
        refine ⟨i + 1, v', rfl, by omega, by exact tgP, by exact tgP, by exact tgP, by exact tgP, kp.trans (kb3.weaken fun k hk => iv k hk), ?_, gr3, ?_, fun k hk => ?_⟩
        · rw [hfl, Ints, List.length_append, ints_append]; exact s3
        · exact ne3 (List.length_pos_iff.2 hl0)
        · rcases iv3 k hk with q | q
          · exact iv k q
          · have := kp.next; omega
      · intro c
        have : i = 2 := by simp at c; omega
        subst this
        refine goP ?_
        apply K_mid
        exact ⟨kp.toKeep w, v, by exact tgP, by simpa using sv', gv, nv, iv⟩
  rintro T g2 ⟨kp, v, t6, q⟩
  refine goP ?_
  (apply qav rfl; exact tgP)
  exact ⟨kp, q⟩
end Go.Am
namespace Go.Am
open Go Go.Proofs AM
set_option maxRecDepth 10000
variable {pol : Pol} {sums : Sums}

def turnOp (turn : Int) (k : Nat) : Int := if turn.tmod 2 = 0 ∨ k = 0 then 1 else if k = 1 then 3 else 2
def qct (turn : Int) (len : Nat) : Nat := ((turn.tmod len + len).tmod len).toNat
def rot (order : List Nat) (k : Nat) : List Nat := order.drop k ++ order.take k
def opAt (pats : List Ptn) (turn : Int) (o : List Nat) (j : Nat) : Int := match o[j]? with
  | some x => match pats[x]? with
    | some p => turnOp turn (qa1 (qaq pats o j) p).length
    | none => 0
  | none => 0
def qb1 (pats : List Ptn) (turn : Int) (o : List Nat) (i : Nat) : List Int := (List.range o.length).map fun j => if j < i then opAt pats turn o j else 0
theorem qbi (pats : List Ptn) (turn : Int) (o : List Nat) (i : Nat) : (qb1 pats turn o i).length = o.length := by simp [qb1]
theorem turnOps_set (pats : List Ptn) (turn : Int) (o : List Nat) (i : Nat) : (qb1 pats turn o i).set i (opAt pats turn o i) = qb1 pats turn o (i + 1) := by
  apply List.ext_getElem
  · simp [qb1]
  · intro j h1 h2
    simp only [qb1, List.getElem_set, List.getElem_map, List.getElem_range]
    by_cases e : i = j
    · subst e; simp
    · rw [if_neg e]
      by_cases h3 : j < i
      · rw [if_pos h3, if_pos (by omega)]
      · rw [if_neg h3, if_neg (by omega)]
theorem turnOps_zero (pats : List Ptn) (turn : Int) (o : List Nat) : qb1 pats turn o 0 = List.replicate o.length 0 := by
  apply List.ext_getElem
  · simp [qb1]
  · intro j h1 h2; simp [qb1]
theorem turnK_lt (turn : Int) {len : Nat} (h : 0 < len) : qct turn len < len := by
  have h1 : (turn.tmod len + len).tmod len < len := Int.tmod_lt_of_pos _ (by omega)
  unfold qct; omega
theorem turnK_eq (turn : Int) {len : Nat} (h : 0 < len) : (turn.tmod len + len).tmod len = (qct turn len : Nat) := by
  have h0 : -(len : Int) < turn.tmod len := Int.lt_tmod_of_pos _ (by omega)
  have : 0 ≤ (turn.tmod len + len).tmod len := Int.tmod_nonneg _ (by omega)
  unfold qct; omega
theorem rot_length (order : List Nat) (k : Nat) (h : k ≤ order.length) : (rot order k).length = order.length := by simp [rot]; omega

attribute [local irreducible] KSeq KMid KBlock KLoop KOps KFunc Runs qbq qaw aopsM aop qat qay qa2 qa2? qaj qa8 qah
attribute [local irreducible] KRound KAssign
theorem turned1_spec (hs : sums 22 = none) {n : Nat} (hn : 1 ≤ n) (turn : Int) (k : Nat) (h : Hp) : Runs (qat Try.prog pol sums n (.func (.func 22) [] []) [.int .i64 turn, .int .i64 (k : Nat)]) h (fun v h' => h = h' ∧ v = .int .i64 (turnOp turn k)) := by
  obtain ⟨n, rfl⟩ : ∃ m, n = m + 1 := ⟨n - 1, by omega⟩
  refine qb9 (by assumption) Try.func22 rfl (by simp [Try.f22]) ?_
  have a0 : qay (qah Try.f22.ntmps (([] ++ [.int .i64 turn, .int .i64 (k : Nat)] ++ []) : List AV)) 0 = .int .i64 turn := qaf rfl
  have a1 : qay (qah Try.f22.ntmps (([] ++ [.int .i64 turn, .int .i64 (k : Nat)] ++ []) : List AV)) 1 = .int .i64 (k : Nat) := qaf rfl
  generalize qah Try.f22.ntmps (([] ++ [.int .i64 turn, .int .i64 (k : Nat)] ++ []) : List AV) = T at *
  show Runs (qaw _ _ _ _ 16 _ _ _) _ _
  refine goP ?_
  apply O_rem
  · exact evP
  · exact evP
  · decide
  refine goP ?_
  cases hv : (turn.tmod 2 == 0) with
  | true =>
    have hv' : turn.tmod 2 = 0 := by simpa using hv
    refine goP ?_
    apply qa9 true
    · exact evP
    · intro _
      refine goP ?_
      (apply qav rfl; exact tgP)
      simp [turnOp, hv']
    · intro c; cases c
  | false =>
    have hv' : ¬ turn.tmod 2 = 0 := by simpa using hv
    refine goP ?_
    apply qa9 ((k : Int) == 0)
    · exact evP
    · intro c
      have c : k = 0 := by simp at c; omega
      refine goP ?_
      (apply qav rfl; exact tgP)
      simp [turnOp, c]
    intro c
    have c : ¬ k = 0 := by simp at c; omega
    refine goP ?_
    apply qa9 ((k : Int) == 1)
    · exact evP
    · intro c1
      have c1 : k = 1 := by simp at c1; omega
      refine goP ?_
      (apply qav rfl; exact tgP)
      simp [turnOp, hv', c1]
    · intro c1
      have c1 : ¬ k = 1 := by simp at c1; omega
      refine goP ?_
      (apply qav rfl; exact tgP)
      simp [turnOp, hv', c, c1]

theorem fill2 {v1 v2 : AV} (h1 : acells v1 = [v1]) (h2 : acells v2 = [v2]) (k1 : Am.known v1 = true) (k2 : Am.known v2 = true) : afillL ((List.range 2).map fun i => (i * 1, 1)) (qan (acells (.sl .nil 0 [])) 2) [(0, v1), (1, v2)] = some [v1, v2] := by
  simp only [afillL, List.range, List.range.loop, List.map_cons, List.map_nil, List.getElem?_cons_zero, List.getElem?_cons_succ, h1, h2, k1, k2]
  rfl
theorem fillP {v1 v2 : AV} (h1 : acells v1 = [v1]) (k1 : Am.known v1 = true) {id n : Nat} (e : v2 = .own id 0 0 n) : afillL [(0, 1), (1, 1)] [.sl .nil 0 [], .sl .nil 0 []] [(0, v1), (1, v2)] = some [v1, v2] := by
  subst e
  simp only [afillL, List.getElem?_cons_zero, List.getElem?_cons_succ, h1, k1]
  rfl
theorem repeat_zero : ∀ n, qan [.int .i64 0] n = ints (List.replicate n 0)
  | 0 => rfl
  | n + 1 => by simp only [qan, repeat_zero n, List.replicate_succ]; rfl
theorem turned_spec (S : S27' pol sums) {n : Nat} {h : Hp} {ov qv pv : AV} {order : List Nat} {ops : List Int} {pats : List Ptn} (turn : Int) (hn : order.length + pats.length + 60 ≤ n) (hb2 : pats.length < 2 ^ 28) (hb3 : ops.length < 2 ^ 40)
    (oo : Ints h ov (zs order)) (oq : Ints h qv ops) (po : Rows qcd 15 h pv pats) (hr : qbf pats (zs order) ops = true) (hol : order.length = pats.length) (hor : ∀ i ∈ order, i < pats.length) (hne : 0 < pats.length) :
    Runs (qat Try.prog pol sums n (.func (.func 7) [] []) [.agg [ov, qv], .int .i64 turn, pv]) h (fun v h' => Keep h h' ∧ ∃ ov' qid, v = .agg [ov', .own qid 0 0 pats.length] ∧ Ints h' ov' (zs (rot order (qct turn pats.length))) ∧ qcr ov' = true ∧ qa4 ov' ≠ [] ∧ (∀ k ∈ qa4 ov', h.next ≤ k ∧ k ≠ qid) ∧ h.next ≤ qid ∧
      RowInts h' qid 0 0 true pats.length (qb1 pats turn (rot order (qct turn pats.length)) pats.length)) := by
  apply Runs.wf
  intro w
  have S' := S.rest
  have s7 : sums 7 = none := S' _ (by decide)
  have hk := turnK_lt turn hne
  have hkeq := turnK_eq turn hne
  have ht0 : -(pats.length : Int) < turn.tmod pats.length := Int.lt_tmod_of_pos _ (by omega)
  have ht1 : turn.tmod pats.length < pats.length := Int.tmod_lt_of_pos _ (by omega)
  have hrl := rot_length order (qct turn pats.length) (by omega)
  generalize hkk : qct turn pats.length = k at *
  generalize hro : rot order k = o at *
  obtain ⟨n, rfl⟩ : ∃ m, n = m + 1 := ⟨n - 1, by omega⟩
  refine qb9 (by assumption) Try.func7 rfl (by simp [Try.f7]) ?_
  have a0 : qay (qah Try.f7.ntmps (([] ++ [.agg [ov, qv], .int .i64 turn, pv] ++ []) : List AV)) 0 = .agg [ov, qv] := qaf rfl
  have a1 : qay (qah Try.f7.ntmps (([] ++ [.agg [ov, qv], .int .i64 turn, pv] ++ []) : List AV)) 1 = .int .i64 turn := qaf rfl
  have a2 : qay (qah Try.f7.ntmps (([] ++ [.agg [ov, qv], .int .i64 turn, pv] ++ []) : List AV)) 2 = pv := qaf rfl
  generalize qah Try.f7.ntmps (([] ++ [.agg [ov, qv], .int .i64 turn, pv] ++ []) : List AV) = T at *
  show Runs (qaw _ _ _ _ 64 _ _ _) _ _
  refine goP ?_
  apply O_box
  · exact evP
  · rfl
  intro g1 i3 k1 r3 l1 l2
  change Row g1 i3 0 2 [ov, qv] true at r3
  apply O_box
  · exact evP
  · rfl
  intro g2 i4 k2 r4 l3 l4
  change Row g2 i4 0 1 [.int .i64 turn] true at r4
  apply O_alloc
  intro g3 i6 k3 r6 l5 l6
  change Row g3 i6 0 2 [.sl .nil 0 [], .sl .nil 0 []] true at r6
  replace r3 := (r3.keep k2).keep k3
  replace r4 := r4.keep k3
  have kk := (k1.trans k2).trans k3
  have oo3 := oo.keep kk
  have oq3 := oq.keep kk
  have po3 := po.keep kk
  refine goP ?_
  apply qau (n := 2)
  · exact evP
  · exact r3
  · rfl
  · exact rfl
  refine goP ?_
  (apply qbn; exact evP; (repeat (apply qai; exact evP)); exact qas)
  refine (right_spec S (by rw [qa7]; omega) (by rw [qa7]; omega) (by omega) hb3 oo3 oq3 po3).mono ?_
  rintro v g4 ⟨k4, rfl⟩
  refine ⟨Undis.off rfl, ?_⟩
  rw [hr]
  replace r3 := r3.keep k4
  replace r4 := r4.keep k4
  replace r6 := r6.keep k4
  replace oo3 := oo3.keep k4
  replace po3 := po3.keep k4
  replace kk := kk.trans k4
  refine goP ?_
  apply qa9 false
  · exact evP
  · intro c; cases c
  intro _
  refine goP ?_
  apply qa9 ((pats.length : Int) == 0)
  · exact evP
  · intro c; exfalso; simp at c; rw [c] at hne; simp at hne
  intro _
  refine goP ?_
  apply O_rem
  · exact evP
  · exact evP
  · omega
  refine goP ?_
  apply O_rem
  · exact evP
  · exact evP
  · omega
  rw [hkeq]
  refine goP ?_
  have hzl : (zs order).length = order.length := qa7 order
  (refine R_drawn [0, 1, 2, 3, 4, 5, 6, 7, 10, 11, 8, 9, 12, 13, 14] [0, 1, 0, 7, 0, 16, 0, 112, 255, 511, 0, 1024, 3072, 8191, 16383] (by kernel_rfl) (by kernel_rfl) (by rfl) ?_; dsimp only [qci, List.map, List.getElem?_cons_zero, List.getElem?_cons_succ])
  refine goP ?_
  apply O_slice_v (l := k) (u := (zs order).length)
  · exact evP
  · exact oo3
  · exact bounds_lo (by rw [Option.map_some]; congr 1; exact evP) (by omega)
  · omega
  · omega
  intro v1 s1 hv1 _
  refine goP ?_
  apply O_slice_v (l := 0) (u := k)
  · exact evP
  · exact oo3
  · exact bounds_hi (by rw [Option.map_some]; congr 1; exact evP) (by omega)
  · omega
  · omega
  intro v2 s2 hv2 _
  have s1' : Ints g4 v1 (zs (order.drop k)) := by
    have e : ((ints (zs order)).drop (k * 1)).take (((zs order).length - k) * 1) = ints (zs (order.drop k)) := by
      rw [Nat.mul_one, Nat.mul_one, List.take_of_length_le (by simp)]
      simp [ints, zs, List.map_drop]
    rw [e] at s1
    show SlV g4 1 v1 (zs (order.drop k)).length _
    rw [qa7, List.length_drop, ← hzl]
    exact s1
  have s2' : Ints g4 v2 (zs (order.take k)) := by
    have e : ((ints (zs order)).drop (0 * 1)).take ((k - 0) * 1) = ints (zs (order.take k)) := by
      simp [ints, zs, List.map_take]
    rw [e] at s2
    show SlV g4 1 v2 (zs (order.take k)).length _
    rw [qa7, List.length_take, Nat.min_eq_left (by omega)]
    exact s2
  refine goP ?_
  apply qbl (c' := [v1, v2])
  · exact qa0 (by exact evP) (qa0 (by exact evP) qbv)
  · rfl
  · exact fill2 s1.acells s2.acells s1.known s2.known
  · exact S.lit _ _
  intro _
  (apply qbn; exact evP; (repeat (apply qai; exact evP)); exact qas)
  refine (concat_spec S (by omega) s1' s2' (by simp; omega) (by simp; omega)).mono ?_
  rintro ov' g5 ⟨k5, so, go', vo, io⟩
  refine ⟨k5.undis, ?_⟩
  apply O_wf
  intro w5
  have so' : Ints g5 ov' (zs o) := by
    have e : zs (order.drop k) ++ zs (order.take k) = zs o := by rw [← hro]; simp [zs, rot]
    rw [← e]; exact so
  replace r3 := r3.keep k5
  replace r4 := r4.keep k5
  replace r6 := r6.keep k5
  replace po3 := po3.keep k5
  replace kk := kk.trans k5
  refine goP ?_
  apply O_makeSlice (n := pats.length) (bytes := 8)
  · exact evP
  · exact evP
  · rfl
  · omega
  · simp [room]; omega
  intro g6 qid k6 rq l7 l8
  replace r3 := r3.keep k6
  replace r4 := r4.keep k6
  replace r6 := r6.keep k6
  replace po3 := po3.keep k6
  replace so' := so'.keep k6
  have hq0 : RowInts g6 qid 0 0 true pats.length (qb1 pats turn o 0) := by
    have e : acells (.int .i64 0) = [.int .i64 0] := rfl
    rw [e, repeat_zero] at rq
    refine ⟨_, rq, by simp, by rw [qbi]; omega, ?_⟩
    rw [turnOps_zero, hrl, hol]
    simp [ints]
  replace kk := kk.trans k6
  apply O_build (c' := [ov', .own qid 0 0 pats.length])
  · exact qa0 (by exact evP) (qa0 (by exact evP) qbv)
  · exact fillP so'.acells so'.known rfl
  apply qb0
  · exact evP
  · exact evP
  · exact r6
  · have h1 : ones [ov', .own qid 0 0 pats.length] = true := by simp [ones, so'.one, show one (.own qid 0 0 pats.length) = true from rfl]
    show (_ && _ && ones [ov', _]) = true
    rw [h1]; rfl
  intro g7 kb7 r7
  refine ⟨Undis.ahead (by kernel_rfl), ?_⟩
  change Row g7 i6 0 2 [ov', .own qid 0 0 pats.length] true at r7
  have h6i : h.next ≤ i6 := by have := k1.next; have := k2.next; omega
  have hi6 : ∀ j, j = i6 → h.get j = none := fun j hj => by subst hj; exact w.get h6i
  have kk7 : Keep h g7 := KeepBut.keep kk kb7 hi6
  have hqi : qid ≠ i6 := by have := k4.next; have := k5.next; omega
  have hg3 : g3.next ≤ g5.next := by have := k4.next; have := k5.next; omega
  have vo5 : ∀ j ∈ qa4 ov', j < g5.next ∧ g4.next ≤ j := fun j hj => ⟨so.lt w5 j hj, io j hj⟩
  have lpv : ∀ j ∈ qa4 pv, j < h.next := po.lt w
  have so7 := so'.keepBut kb7 (fun j hj e => by have := (vo5 j hj).2; have := k4.next; omega)
  have po7 := po3.keepBut kb7 (fun j hj e => by have := lpv j hj; omega)
  have r47 := r4.keepBut kb7 (by omega)
  have hq7 := hq0.keepBut kb7 hqi
  refine goP ?_
  apply qau (n := 2)
  · exact evP
  · exact r7
  · rfl
  · exact rfl
  refine goP ?_
  (apply qbn; exact evP; (repeat (apply qai; exact evP)); exact qas)
  refine (each_spec S (by omega) po7.acells po7.known).mono ?_
  rintro v g8 ⟨k8, ip, iq, rfl, rp, rq', l9, l10⟩
  refine ⟨Undis.off rfl, ?_⟩
  replace r7 := r7.keep k8
  replace so7 := so7.keep k8
  replace po7 := po7.keep k8
  replace r47 := r47.keep k8
  replace hq7 := hq7.keep k8
  replace kk7 := kk7.trans k8
  apply O_wf
  intro w8
  refine goP ?_
  refine R_gen (fun T => qay T 4 = .ptr i4 0 0 ∧ qay T 6 = .ptr i6 0 0 ∧ qay T 51 = .func (.func 47) [] [.ptr ip 0 0, .ptr iq 0 0]) ⟨by exact tgP, by exact tgP, by exact tgP⟩ ?_
  rintro T0 ⟨t4, t6, t51⟩
  apply R_rangeFunc (F := .func (.func 47) [] [.ptr ip 0 0, .ptr iq 0 0])
  · exact evP
  · rfl
  intro h2 lid k9 hl l11 l12
  have hrow := rp.keep k9
  have hroq := rq'.keep k9
  replace r7 := r7.keep k9
  replace so7 := so7.keep k9
  replace po7 := po7.keep k9
  replace r47 := r47.keep k9
  replace hq7 := hq7.keep k9
  replace kk7 := kk7.trans k9
  have n78 : g7.next ≤ g8.next := k8.next
  have n67 : g6.next ≤ g7.next := kb7.next
  have n56 : g5.next ≤ g6.next := k6.next
  have hipL : ip < g8.next := rp.lt w8
  have hiqL : iq < g8.next := rq'.lt w8
  have hon : ∀ i ∈ o, i < pats.length := fun i hi => by
    rw [← hro] at hi
    rcases List.mem_append.1 hi with q | q
    · exact hor i (List.mem_of_mem_drop q)
    · exact hor i (List.mem_of_mem_take q)
  have hop : ∀ i (hi : i < o.length) (hp : o[i] < pats.length), opAt pats turn o i = turnOp turn (qa1 (qaq pats o i) pats[o[i]]).length := fun i hi hp => by
    simp [opAt, hi, hp]
  obtain ⟨L, hL⟩ := hl.fam
  refine (each1_spec S (h := h2) (X := fun j => j = lid ∨ j = qid) (n := n) (order := o) (by omega) (by omega) (by omega) hrow hroq so7 po7 hon (fun j hj => by rcases hj with rfl | rfl <;> omega) (by rintro (q | q) <;> omega) (by rintro (q | q) <;> omega)
    (fun j hj q => by have := (vo5 j hj).1; rcases q with q | q <;> omega) (fun j hj q => by have := lpv j hj; have := k1.next; have := k2.next; have := k3.next; rcases q with q | q <;> omega)
    (fun i => qb1 pats turn o i)
    (fun i g => KeepBut (fun j => j = lid ∨ j = qid ∨ h2.next ≤ j) h2 g ∧ L g .ready none ∧ RowInts g qid 0 0 true pats.length (qb1 pats turn o i))
    (fun _ => False)
    ⟨KeepBut.refl _, (hL _ _ _).2 hl, hq7⟩
    (fun i g g' hi k => ⟨hi.1.trans (k.weaken fun j hj => .inr (.inr hj)), (hL _ _ _).2 (((hL _ _ _).1 hi.2.1).keepBut k (by omega)), hi.2.2.keepBut k (by omega)⟩)
    (fun i g hi => by
      have := hi.2.2.slv
      rw [qbi, hrl, hol] at this
      exact this)
    (fun i => qbi _ _ _ _) ?_).mono ?_
  · rintro i hi hp g m sv fv hm ⟨kp, hl2, hq⟩ ss sf
    obtain ⟨m, rfl⟩ : ∃ q, m = q + 1 := ⟨m - 1, by omega⟩
    replace hl2 := (hL _ _ _).1 hl2
    refine R_yield hl2 rfl ?_
    rw [aparams_cons, aparams_cons, aparams_nil]
    refine goP ?_
    apply O_wf
    intro wg
    apply O_alloc
    intro g9 i9 k9' r9 l13 l14
    apply qb0
    · exact evP
    · exact evP
    · exact r9
    · have h1 := stepC_ones (place := (o[i] : Nat)) (op := (qb1 pats turn o i)[i]'(by rw [qbi]; exact hi)) (p := pats[o[i]]) ss.one sf.one
      show (_ && _ && ones (stepC _ _ _ sv fv)) = true
      rw [h1]; rfl
    intro g10 kb10 r10
    refine ⟨Undis.off rfl, ?_⟩
    change Row g10 i9 0 19 (stepC (o[i] : Nat) ((qb1 pats turn o i)[i]'(by rw [qbi]; exact hi)) pats[o[i]] sv fv) true at r10
    have k10 : Keep g g10 := KeepBut.keep k9' kb10 fun j hj => wg.get (by omega)
    have hlid := hl2.lt wg
    refine goP ?_
    refine K_assign (hl2.keep k10) fun g11 kb11 hl11 => ?_
    have r11 := r10.keepBut kb11 (by omega)
    have ss11 := (ss.keep k10).keepBut kb11 ((ss.keep k10).ne_loop (hl2.keep k10))
    have hg2 : h2.next ≤ g.next := kp.next
    have kp11 : KeepBut (fun j => j = lid ∨ j = qid ∨ h2.next ≤ j) h2 g11 := (kp.trans (k10.but _)).trans (kb11.weaken fun j hj => .inl hj)
    have r7' := r7.keepBut kp11 (by omega)
    have r4' := r47.keepBut kp11 (by omega)
    have hq11 := (hq.keep k10).keepBut kb11 (by omega)
    refine goP ?_
    (refine R_drawn [0, 1, 2, 3, 4, 5, 6, 7, 8, 9] [0, 1, 0, 0, 0, 16, 48, 120, 255, 511] (by kernel_rfl) (by kernel_rfl) (by rfl) ?_; dsimp only [qci, List.map, List.getElem?_cons_zero, List.getElem?_cons_succ])
    refine goP ?_
    (apply qbn; exact evP; (repeat (apply qai; exact evP)); exact qas)
    refine (turned1_spec (S' _ (by decide)) (by omega) _ _ _).mono ?_
    rintro v g12 ⟨rfl, rfl⟩
    refine ⟨(Keep.refl _).undis, ?_⟩
    rw [← hop i hi hp]
    obtain ⟨row, q1, q2, q3, q4⟩ := hq11
    rw [qbi, hrl, hol] at q3
    have hi' : i < pats.length := by omega
    apply O_indexAddr_own
    · exact evP
    · exact q1
    · exact evP
    · exact hi'
    · omega
    apply qb0
    · exact evP
    · exact evP
    · exact q1
    · simp [acells, ones, one]; omega
    intro g13 kb13 r13
    refine ⟨Undis.ahead (by kernel_rfl), ?_⟩
    have hs13 := RowInts.splice r13 (l := qb1 pats turn o i) (by rw [qbi]; omega) q4 (by rw [qbi]; exact hi)
    rw [turnOps_set, q2] at hs13
    refine goP ?_
    refine K_round_end (hl11.keepBut kb13 (by omega)) fun g14 kb14 hl14 => ⟨true, rfl, ?_, fun _ => ⟨?_, (hL _ _ _).2 hl14, hs13.keepBut kb14 (by omega)⟩, fun c => (by cases c)⟩
    · exact (((k10.but _).trans (kb11.weaken fun j hj => .inl hj)).trans (kb13.weaken fun j hj => .inr hj)).trans (kb14.weaken fun j hj => .inl hj)
    · exact (kp11.trans (kb13.weaken fun j hj => .inr (.inl hj))).trans (kb14.weaken fun j hj => .inl hj)
  · rintro _ g ⟨kp, hI | hS⟩
    · obtain ⟨kp1, hl1, hq⟩ := hI
      refine ⟨.ready, none, (hL _ _ _).1 hl1, rfl, fun g15 kb => after_none ?_⟩
      have kp2 : KeepBut (fun j => j = lid ∨ j = qid ∨ h2.next ≤ j) h2 g15 := kp1.trans (kb.weaken fun j hj => .inl hj)
      have r15 := r7.keepBut kp2 (by omega)
      have so15 := so7.keepBut kp2 (fun j hj q => by have := (vo5 j hj).1; rcases q with q | q | q <;> omega)
      have q15 := hq.keepBut kb (by omega)
      have hgh : g1.next ≤ g5.next := by have := k2.next; have := k3.next; omega
      have kf : Keep h g15 := KeepBut.keep kk7 kp2 fun j hj => w.get (by have := k1.next; rcases hj with q | q | q <;> omega)
      refine goP ?_
      apply qau (n := 2)
      · exact evP
      · exact r15
      · rfl
      · exact rfl
      apply qb0
      · exact evP
      · exact evP
      · exact r15
      · have h1 : ones [ov', .own qid 0 0 pats.length] = true := by simp [ones, so'.one, show one (.own qid 0 0 pats.length) = true from rfl]
        show (_ && _ && ones [ov', _]) = true
        rw [h1]; rfl
      intro g16 kb16 r16
      refine ⟨Undis.off rfl, ?_⟩
      refine goP ?_
      apply R_res_agg rfl (c' := [ov', .own qid 0 0 pats.length])
      · exact tgP
      · exact r16
      · rfl
      · rfl
      refine ⟨KeepBut.keep kf kb16 hi6, ov', qid, rfl, so15.keepBut kb16 (fun j hj e => by have := (vo5 j hj).2; have := k4.next; omega), go', vo, fun j hj => ?_, by have := k1.next; omega, ?_⟩
      · have := vo5 j hj
        have := k1.next; have := k2.next; have := k3.next; have := k4.next
        exact ⟨by omega, by omega⟩
      · have := q15.keepBut kb16 hqi
        rw [hrl, hol] at this
        exact this
    · exact hS.elim
end Go.Am
namespace Go.Am
open Go Go.Proofs AM
set_option maxRecDepth 10000

theorem mayZ_opZ (x : Sts) (known : List Str) (p : Ptn) : mayZ (opZ x known p) (qa1 known p).length = true := by
  unfold opZ
  by_cases h0 : (qa1 known p).length = 0
  · rw [if_pos h0]; simp [mayZ]
  · rw [if_neg h0]
    by_cases h1 : qb6 x p [] ≤ 64
    · rw [if_pos h1]; simp [mayZ]; omega
    · rw [if_neg h1]
      by_cases h2 : (qa1 known p).length = 1
      · rw [if_pos h2, h2]; simp [mayZ]
      · rw [if_neg h2]; simp [mayZ]
theorem mayZ_turn (turn : Int) (k : Nat) : mayZ (turnOp turn k) k = true := by
  unfold turnOp
  split
  · simp [mayZ]
  · rename_i h
    split
    · rename_i h2; subst h2; simp [mayZ]
    · simp [mayZ]; omega

theorem sortZ_range {l : List Int} {n : Nat} (p : l.Perm (zs (List.range n))) : qcv l = zs (List.range n) := by
  refine sorted_one ((sortZ_perm l).trans p) (sortZ_sorted l) ?_
  unfold zs
  rw [List.pairwise_map]
  exact pw_turn (List.pairwise_lt_range (n := n)) fun a b h => by omega
theorem wholeZ_perm {o : List Nat} {n : Nat} (p : o.Perm (List.range n)) : wholeZ (zs o) n = true := by
  have hl : o.length = n := by have := p.length_eq; simpa using this
  have : qcv (zs o) = zs (List.range n) := sortZ_range (p.map _)
  simp [wholeZ, this, hl]

theorem filter_nodup {left : List Nat} {i : Nat} (hn : left.Nodup) (hi : i ∈ left) : (i :: left.filter (· ≠ i)).Perm left := by
  induction left with
  | nil => cases hi
  | cons a l ih =>
    obtain ⟨h1, h2⟩ := List.nodup_cons.1 hn
    by_cases e : a = i
    · subst e
      have : l.filter (· ≠ a) = l := List.filter_eq_self.2 fun b hb => by
        have : b ≠ a := fun q => h1 (q ▸ hb)
        simpa using this
      simp only [List.filter_cons, ne_eq, not_true, decide_false, Bool.false_eq_true, if_false]
      simp only [ne_eq] at this
      rw [this]
    · have hi' : i ∈ l := by rcases List.mem_cons.1 hi with q | q; exact absurd q.symm e; exact q
      have := ih h2 hi'
      simp only [List.filter_cons, e, ne_eq, not_false_eq_true, decide_true, if_true]
      simp only [ne_eq] at this
      exact (List.Perm.swap _ _ _).trans (this.cons a)

theorem ofLoop_ok (x : Sts) (pats : List Ptn) : ∀ (n : Nat) (known : List Str) (left : List Nat), left.length = n → left.Nodup → (∀ i ∈ left, i < pats.length) →
    (qcm x pats n known left).1.Perm left ∧ (qcm x pats n known left).2.length = n ∧
    ∀ i j op, (qcm x pats n known left).1[i]? = some j → (qcm x pats n known left).2[i]? = some op → ∃ p, pats[j]? = some p ∧ op = opZ x (((qcm x pats n known left).1.take i).foldl (fun k j => match pats[j]? with | some p => learnZ k p | none => k) known) p
  | 0, known, left, h, _, _ => by
    have : left = [] := List.length_eq_zero_iff.1 h
    subst this
    exact ⟨.refl _, rfl, fun i j op h1 _ => by simp [qcm] at h1⟩
  | n + 1, known, left, h, hn, hp => by
    have hne : left ≠ [] := by rintro rfl; cases h
    obtain ⟨i, hi, hpk⟩ := pickZ_mem (x := x) (pats := pats) (known := known) hne
    have hip := hp i hi
    have hst := ofLoop_step x pats hi hip hpk hp
    rw [h] at hst
    have hpm := filter_nodup hn hi
    have hfl : (left.filter (· ≠ i)).length = n := by have := hpm.length_eq; simp at this ⊢; omega
    rw [hfl] at hst
    rw [hst]
    obtain ⟨a1, a2, a3⟩ := ofLoop_ok x pats n (learnZ known pats[i]) (left.filter (· ≠ i)) hfl (hn.filter _) (fun j hj => hp j (List.mem_filter.1 hj).1)
    refine ⟨(a1.cons i).trans hpm, by rw [List.length_cons, a2], fun k j op h1 h2 => ?_⟩
    cases k with
    | zero =>
      simp only [List.getElem?_cons_zero, Option.some.injEq] at h1 h2
      subst h1 h2
      exact ⟨pats[i], List.getElem?_eq_getElem hip, rfl⟩
    | succ k =>
      simp only [List.getElem?_cons_succ] at h1 h2
      obtain ⟨p, b1, b2⟩ := a3 k j op h1 h2
      refine ⟨p, b1, ?_⟩
      rw [b2]
      simp only [List.take_succ_cons, List.foldl_cons, List.getElem?_eq_getElem hip]
theorem planZ_ok (x : Sts) (pats : List Ptn) : (qb4 x pats).1.Perm (List.range pats.length) ∧ (qb4 x pats).2.length = pats.length ∧ qbf pats (zs (qb4 x pats).1) (qb4 x pats).2 = true := by
  obtain ⟨a1, a2, a3⟩ := ofLoop_ok x pats pats.length [] (List.range pats.length) (by simp) List.nodup_range (fun i hi => List.mem_range.1 hi)
  refine ⟨a1, a2, ?_⟩
  have hl : (qb4 x pats).1.length = pats.length := by have := a1.length_eq; simpa [qb4] using this
  have ho : (qb4 x pats).2.length = pats.length := a2
  simp only [qbf, Bool.and_eq_true, List.all_eq_true]
  refine ⟨⟨wholeZ_perm a1, by simpa using ho⟩, fun i hi => ?_⟩
  have hi := List.mem_range.1 hi
  rw [zs_toNat]
  have h1 : (qb4 x pats).1[i]? = some ((qb4 x pats).1[i]'(by omega)) := List.getElem?_eq_getElem _
  have h2 : (qb4 x pats).2[i]? = some ((qb4 x pats).2[i]'(by omega)) := List.getElem?_eq_getElem _
  obtain ⟨p, b1, b2⟩ := a3 i _ _ h1 h2
  unfold stepOk
  rw [h1, h2]
  dsimp only
  rw [b1]
  dsimp only
  rw [b2]
  exact mayZ_opZ _ _ _
theorem rot_perm (o : List Nat) (k : Nat) : (rot o k).Perm o := by
  unfold rot
  exact (List.perm_append_comm).trans (by rw [List.take_append_drop])
theorem turn_ok (pats : List Ptn) (turn : Int) {o : List Nat} (p : o.Perm (List.range pats.length)) : qbf pats (zs o) (qb1 pats turn o pats.length) = true := by
  have hl : o.length = pats.length := by have := p.length_eq; simpa using this
  simp only [qbf, Bool.and_eq_true, List.all_eq_true]
  refine ⟨⟨wholeZ_perm p, by simp [qbi, hl]⟩, fun i hi => ?_⟩
  have hi := List.mem_range.1 hi
  rw [zs_toNat]
  have hio : i < o.length := by omega
  have hj : o[i] < pats.length := List.mem_range.1 (p.mem_iff.1 (List.getElem_mem hio))
  unfold stepOk
  rw [List.getElem?_eq_getElem hio]
  have h2 : (qb1 pats turn o pats.length)[i]? = some (opAt pats turn o i) := by
    simp [qb1, hio, hi]
  rw [h2]
  dsimp only
  rw [List.getElem?_eq_getElem hj]
  dsimp only
  have : opAt pats turn o i = turnOp turn (qa1 (qaq pats o i) pats[o[i]]).length := by simp [opAt, hio, hj]
  rw [this]
  exact mayZ_turn _ _
end Go.Am
namespace Go.Am
open Go Go.Proofs AM
set_option maxRecDepth 10000

def isTrueR : Option (AV × Hp) → Bool
  | some (.bool true, _) => true
  | _ => false
theorem awake_run : isTrueR ((qat Try.prog pol27 sums27 3000 (.func (.func 6) [] []) []).run ⟨.leaf, 1⟩) = true := by kernel_rfl
theorem s27' : S27' pol27 sums27 := { s27 with list := rfl, sort := rfl, grow := rfl }

theorem right_twice {pats : List Ptn} {o : List Nat} {ops : List Int} (h2 : 2 ≤ o.length) : qbf pats ((zs o).set 0 ((zs o)[o.length - 1]'(by simp; omega))) ops = false := by
  cases hq : qbf pats ((zs o).set 0 ((zs o)[o.length - 1]'(by simp; omega))) ops with
  | false => rfl
  | true =>
    exfalso
    simp only [qbf, Bool.and_eq_true] at hq
    obtain ⟨o2, h1, _, h3, h4⟩ := wholeZ_true hq.1.1
    have hn : o2.Nodup := h4.nodup_iff.2 List.nodup_range
    have hl : o2.length = o.length := by have := congrArg List.length h1; simpa using this.symm
    have e1 : ((zs o).set 0 ((zs o)[o.length - 1]'(by simp; omega)))[0]? = ((zs o).set 0 ((zs o)[o.length - 1]'(by simp; omega)))[o.length - 1]? := by
      rw [List.getElem?_set_self (by simp; omega), List.getElem?_set_ne (by omega), List.getElem?_eq_getElem (by simp; omega)]
    rw [h1] at e1
    have a1 : 0 < o2.length := by omega
    have a2 : o.length - 1 < o2.length := by omega
    simp only [zs, List.getElem?_map, List.getElem?_eq_getElem a1, List.getElem?_eq_getElem a2, Option.map_some, Option.some.injEq] at e1
    have e2 : o2[0] = o2[o.length - 1] := by omega
    exact List.pairwise_iff_getElem.1 hn 0 (o.length - 1) a1 a2 (by omega) e2
theorem right_less {pats : List Ptn} {order ops : List Int} (h : order.length ≠ pats.length) : qbf pats order ops = false := by
  simp [qbf, wholeZ, h]
theorem right_none {pats : List Ptn} {o : List Nat} {ops : List Int} (h : 0 < pats.length) (ho : ops.length = pats.length) : qbf pats (zs o) (ops.set (pats.length - 1) 4) = false := by
  cases hq : qbf pats (zs o) (ops.set (pats.length - 1) 4) with
  | false => rfl
  | true =>
    exfalso
    simp only [qbf, Bool.and_eq_true, List.all_eq_true] at hq
    have := hq.2 (pats.length - 1) (List.mem_range.2 (by omega))
    rw [zs_toNat] at this
    unfold stepOk at this
    rw [List.getElem?_set, if_pos rfl, if_pos (by omega)] at this
    cases ho2 : o[pats.length - 1]? with
    | none => rw [ho2] at this; cases this
    | some j =>
      rw [ho2] at this
      dsimp only at this
      cases hp : pats[j]? with
      | none => rw [hp] at this; cases this
      | some p => rw [hp] at this; simp [mayZ] at this
theorem right_first {pats : List Ptn} {o : List Nat} {ops : List Int} (h : 0 < pats.length) (ho : ops.length = pats.length) : qbf pats (zs o) (ops.set 0 2) = false := by
  cases hq : qbf pats (zs o) (ops.set 0 2) with
  | false => rfl
  | true =>
    exfalso
    simp only [qbf, Bool.and_eq_true, List.all_eq_true] at hq
    have := hq.2 0 (List.mem_range.2 (by omega))
    rw [zs_toNat] at this
    unfold stepOk at this
    rw [List.getElem?_set, if_pos rfl, if_pos (by omega)] at this
    cases ho2 : o[0]? with
    | none => rw [ho2] at this; cases this
    | some j =>
      rw [ho2] at this
      dsimp only at this
      cases hp : pats[j]? with
      | none => rw [hp] at this; cases this
      | some p => rw [hp] at this; simp [mayZ, qaq, qa1] at this

theorem awake_spec {h : Hp} (hn : h.next = 1) : Runs (qat Try.prog pol27 sums27 3000 (.func (.func 6) [] []) []) h (fun v h' => Keep h h' ∧ v = .bool true) := fun w => by
  have hr := awake_run
  cases hq : (qat Try.prog pol27 sums27 3000 (.func (.func 6) [] []) []).run ⟨.leaf, 1⟩ with
  | none => rw [hq] at hr; cases hr
  | some p =>
    obtain ⟨v, h'⟩ := p
    rw [hq] at hr
    have hleaf : ∀ id, (⟨.leaf, 1⟩ : Hp).get id = none := fun id => Tm.get_leaf id
    have hv : v = .bool true := by
      cases v <;> first | cases hr | skip
      rename_i b
      cases b
      · cases hr
      · rfl
    subst hv
    obtain ⟨_, b⟩ := (qat Try.prog pol27 sums27 3000 (.func (.func 6) [] []) []).good.2 _ _ _ hq (fun id _ _ => hleaf id)
    obtain ⟨g, e1, e2, e3⟩ := b h hn (fun id o ho => by rw [hleaf] at ho; cases ho)
    have hd := ((qat Try.prog pol27 sums27 3000 (.func (.func 6) [] []) []).good.1 _ _ _ hq).next
    refine ⟨_, g, e1, ⟨fun id o ho => ?_, ?_⟩, rfl⟩
    · have := w id o ho
      rw [e3 id, if_neg, ho]
      rintro (q | q)
      · rw [hleaf] at q; cases q
      · have q1 : 1 ≤ id := q.1
        omega
    · rw [e2, hn]; exact hd
end Go.Am
namespace Go.Am
open Go Go.Proofs AM RowKit ChangeShapes WideShapes Deep
set_option maxRecDepth 10000

inductive Leaf where
  | int (k : IntKind)
  | str
/-- what kind of cell stands at a place of a type's values -/
def leafAt (P : Program) : Nat → TypeId → Nat → Option Leaf
  | 0, _, _ => none
  | n + 1, t, i => match P.underlying t with
    | some (.int k) => cond (Nat.beq i 0) (some (.int k)) none
    | some .string => cond (Nat.beq i 0) (some .str) none
    | some (.struct fs) => match fs.toList.find? (fun f => Nat.ble f.offset i && Nat.blt i (f.offset + P.cellsOf f.type)) with
      | some f => leafAt P n f.type (i - f.offset)
      | none => none
    | _ => none
def fits : Leaf → Value → Prop
  | .int k, v => ∃ n, v = .int k n
  | .str, v => ∃ s, v = .string s
section
variable {H : Type} {enc : TypeId × Value → H} {P : Program} {w : World} {base : Nat} {spare : Nat → Bool} {held : Bool}
theorem leaf_ok : ∀ (n : Nat) {fuel : Nat} {t : TypeId} {cs : List Value} {x : DataW H × List MemPlace} {i : Nat} {κ : Leaf}, DataW.trod enc P w base spare held fuel t cs = some x → leafAt P n t i = some κ → ∃ c, cs[i]? = some c ∧ fits κ c := by
  intro n
  induction n with
  | zero => intro fuel t cs x i κ _ h; cases h
  | succ n ih =>
    intro fuel t cs x i κ h hl
    simp only [leafAt] at hl
    cases hu : P.underlying t with
    | none => rw [hu] at hl; cases hl
    | some d =>
      rw [hu] at hl
      cases d <;> first | cases hl | skip
      · rename_i k
        cases hi : Nat.beq i 0 with
        | false => rw [hi] at hl; cases hl
        | true =>
          obtain rfl := Nat.eq_of_beq_eq_true hi
          rw [hi] at hl; cases hl
          obtain ⟨m, rfl, _⟩ := DataW.trod_int hu h
          exact ⟨_, rfl, m, rfl⟩
      · cases hi : Nat.beq i 0 with
        | false => rw [hi] at hl; cases hl
        | true =>
          obtain rfl := Nat.eq_of_beq_eq_true hi
          rw [hi] at hl; cases hl
          obtain ⟨m, rfl, _⟩ := DataW.trod_string hu h
          exact ⟨_, rfl, m, rfl⟩
      · rename_i fs
        dsimp only at hl
        cases hf : fs.toList.find? (fun f => Nat.ble f.offset i && Nat.blt i (f.offset + P.cellsOf f.type)) with
        | none => rw [hf] at hl; cases hl
        | some f =>
          rw [hf] at hl
          have hfm := List.mem_of_find?_eq_some hf
          have hfp := List.find?_some hf
          simp only [Bool.and_eq_true, Nat.blt_eq, Nat.ble_eq] at hfp
          obtain ⟨xs, m, _, _, hlen, hxl, hg⟩ := DataW.trod_struct hu h
          obtain ⟨j, hj, hjf⟩ := List.getElem_of_mem hfm
          have hja : fs[j]? = some f := by rw [← hjf]; simp
          have h1 := hg j f hja
          have hjx : j < xs.length := by rw [hxl]; simpa using hj
          rw [List.getElem?_eq_getElem hjx] at h1
          obtain ⟨c, hc, hfit⟩ := ih h1 hl
          refine ⟨c, ?_, hfit⟩
          rw [List.getElem?_take, if_pos (by omega), List.getElem?_drop] at hc
          rw [← hc]
          congr 1; omega
end

theorem leaf_int {H : Type} {enc : TypeId × Value → H} {P : Program} {w : World} {base : Nat} {spare : Nat → Bool} {held : Bool} (n : Nat) {fuel : Nat} {t : TypeId} {cs : List Value} {x : DataW H × List MemPlace} {k : IntKind} (i : Nat) (h : DataW.trod enc P w base spare held fuel t cs = some x) (hl : leafAt P n t i = some (.int k)) : ∃ m, cs[i]? = some (.int k m) := by
  obtain ⟨c, h1, m, rfl⟩ := leaf_ok n h hl; exact ⟨m, h1⟩
theorem qcp {H : Type} {enc : TypeId × Value → H} {P : Program} {w : World} {base : Nat} {spare : Nat → Bool} {held : Bool} (n : Nat) {fuel : Nat} {t : TypeId} {cs : List Value} {x : DataW H × List MemPlace} (i : Nat) (h : DataW.trod enc P w base spare held fuel t cs = some x) (hl : leafAt P n t i = some .str) : ∃ m, cs[i]? = some (.string m) := by
  obtain ⟨c, h1, m, rfl⟩ := leaf_ok n h hl; exact ⟨m, h1⟩

/-- cells that are as those of an abstract value -/
def Cells (av : List AV) (cs : List Value) : Prop := ∀ (h : Hp) (μ : Nat → Nat) (w : World), VRs h μ w av cs
theorem Cells.nil : Cells [] [] := fun _ _ _ => VRs.nil
theorem Cells.int {k : IntKind} {n : Int} {av : List AV} {cs : List Value} (c : Cells av cs) : Cells (.int k n :: av) (.int k n :: cs) := fun h μ w => VRs.cons (.int _ _) (c h μ w)
theorem Cells.str {s : ByteArray} {av : List AV} {cs : List Value} (c : Cells av cs) : Cells (.str s.data.toList :: av) (.string s :: cs) := fun h μ w => VRs.cons (.str _ _ rfl) (c h μ w)
theorem Cells.append {av av' : List AV} {cs cs' : List Value} (c : Cells av cs) (d : Cells av' cs') : Cells (av ++ av') (cs ++ cs') := fun h μ w => (c h μ w).append (d h μ w)

section
variable {H : Type} {enc : TypeId × Value → H} {w : World} {base : Nat} {spare : Nat → Bool} {held : Bool} {fuel : Nat} {cs : List Value} {x : DataW H × List MemPlace}
theorem open_ptn (h : DataW.trod enc Try.prog w base spare held fuel 48 cs = some x) (hl : cs.length = 15) : ∃ p : Ptn, Cells (qcd p) cs := by
  obtain ⟨c0, e0⟩ := qcp 9 0 h (by kernel_rfl)
  obtain ⟨c1, e1⟩ := leaf_int (k := .i64) 9 1 h (by kernel_rfl)
  obtain ⟨c2, e2⟩ := qcp 9 2 h (by kernel_rfl)
  obtain ⟨c3, e3⟩ := qcp 9 3 h (by kernel_rfl)
  obtain ⟨c4, e4⟩ := qcp 9 4 h (by kernel_rfl)
  obtain ⟨c5, e5⟩ := qcp 9 5 h (by kernel_rfl)
  obtain ⟨c6, e6⟩ := leaf_int (k := .i64) 9 6 h (by kernel_rfl)
  obtain ⟨c7, e7⟩ := qcp 9 7 h (by kernel_rfl)
  obtain ⟨c8, e8⟩ := qcp 9 8 h (by kernel_rfl)
  obtain ⟨c9, e9⟩ := qcp 9 9 h (by kernel_rfl)
  obtain ⟨c10, e10⟩ := qcp 9 10 h (by kernel_rfl)
  obtain ⟨c11, e11⟩ := leaf_int (k := .i64) 9 11 h (by kernel_rfl)
  obtain ⟨c12, e12⟩ := qcp 9 12 h (by kernel_rfl)
  obtain ⟨c13, e13⟩ := qcp 9 13 h (by kernel_rfl)
  obtain ⟨c14, e14⟩ := qcp 9 14 h (by kernel_rfl)
  match cs, hl with
  | [d0, d1, d2, d3, d4, d5, d6, d7, d8, d9, d10, d11, d12, d13, d14], _ =>
    simp only [List.getElem?_cons_zero, List.getElem?_cons_succ, Option.some.injEq] at *
    subst e0 e1 e2 e3 e4 e5 e6 e7 e8 e9 e10 e11 e12 e13 e14
    exact ⟨⟨⟨c0.data.toList, ⟨c1, c2.data.toList, c3.data.toList, c4.data.toList⟩⟩, ⟨c5.data.toList, ⟨c6, c7.data.toList, c8.data.toList, c9.data.toList⟩⟩, ⟨c10.data.toList, ⟨c11, c12.data.toList, c13.data.toList, c14.data.toList⟩⟩⟩,
      .str (.int (.str (.str (.str (.str (.int (.str (.str (.str (.str (.int (.str (.str (.str .nil))))))))))))))⟩
theorem open_lin (h : DataW.trod enc Try.prog w base spare held fuel 52 cs = some x) (hl : cs.length = 7) : ∃ p : Lin, Cells (linC p) cs := by
  obtain ⟨c0, e0⟩ := leaf_int (k := .i64) 9 0 h (by kernel_rfl)
  obtain ⟨c1, e1⟩ := qcp 9 1 h (by kernel_rfl)
  obtain ⟨c2, e2⟩ := qcp 9 2 h (by kernel_rfl)
  obtain ⟨c3, e3⟩ := qcp 9 3 h (by kernel_rfl)
  obtain ⟨c4, e4⟩ := leaf_int (k := .i64) 9 4 h (by kernel_rfl)
  obtain ⟨c5, e5⟩ := leaf_int (k := .i64) 9 5 h (by kernel_rfl)
  obtain ⟨c6, e6⟩ := leaf_int (k := .i64) 9 6 h (by kernel_rfl)
  match cs, hl with
  | [d0, d1, d2, d3, d4, d5, d6], _ =>
    simp only [List.getElem?_cons_zero, List.getElem?_cons_succ, Option.some.injEq] at *
    subst e0 e1 e2 e3 e4 e5 e6
    exact ⟨⟨⟨c0, c1.data.toList, c2.data.toList, c3.data.toList⟩, c4, c5, c6⟩, .int (.str (.str (.str (.int (.int (.int .nil))))))⟩

/-- a slice of structs, as it comes in -/
theorem open_rows {α : Type} {f : α → List AV} {sz : Nat} {t e : TypeId} (hf : ∀ a, (f a).length = sz) (ht : Try.prog.underlying t = some (.slice e)) (hc : Try.prog.cellsOf e = sz)
    (hopen : ∀ {fuel : Nat} {cs : List Value} {x : DataW H × List MemPlace}, DataW.trod enc Try.prog w base spare held fuel e cs = some x → cs.length = sz → ∃ a, Cells (f a) cs)
    (h : DataW.trod enc Try.prog w base spare held fuel t cs = some x) : ∃ (v : Value) (l : List α), cs = [v] ∧ VR Hp.none id w (.sl .any l.length (qca f l)) v := by
  rcases open_slice ht h with ⟨rfl, _⟩ | ⟨a, len, cap, m, n, D, Pl, rfl, hb, hl, hm, hmm, hx, hi⟩
  · exact ⟨_, [], rfl, .sl .any 0 [] none 0 [] (Nat.le_refl _) (by simp) (by simp) (by simp) (by simp) (by simp) rfl (by simp) (by simp) (by simp)⟩
  · have hlm : len ≤ m := by rw [hmm]; split <;> omega
    rw [hc] at hi
    have key : ∀ k, k ≤ len → ∃ (l : List α) (cs : List Value), l.length = k ∧ Cells (qca f l) cs ∧ cs.length = k * sz ∧ ∀ i (hi : i < cs.length), w.cell? (a.add i) = some cs[i] := by
      intro k
      induction k with
      | zero => intro _; exact ⟨[], [], rfl, .nil, by simp, fun i hi => by cases hi⟩
      | succ k ih =>
        intro hk
        obtain ⟨l, cs, h1, h2, h3, h4⟩ := ih (by omega)
        obtain ⟨cs', h5, h6⟩ := hi k (by omega)
        obtain ⟨_, h7, h8⟩ := World.cells?_some h5
        obtain ⟨p, h9⟩ := hopen h6 h7
        refine ⟨l ++ [p], cs ++ cs', by simp [h1], ?_, by simp [h3, h7, Nat.succ_mul], fun i hi => ?_⟩
        · have : qca f (l ++ [p]) = qca f l ++ f p := by simp [qca]
          rw [this]; exact h2.append h9
        · by_cases hlt : i < cs.length
          · rw [List.getElem_append_left hlt]; exact h4 i hlt
          · have hi' : i - cs.length < cs'.length := by simp at hi; omega
            rw [List.getElem_append_right (by omega)]
            have := h8 (i - cs.length) (by omega)
            rw [List.getElem?_eq_getElem hi', add_of_add] at this
            rw [← this]
            congr 2; omega
    obtain ⟨l, cs, h1, h2, h3, h4⟩ := key len (Nat.le_refl _)
    have hvr := h2 Hp.none id w
    refine ⟨_, l, rfl, ?_⟩
    rw [h1]
    refine .sl .any len (qca f l) (some a) cap cs hl (by simp) (by simp) (by simp) (by simp) (fun ad e hne => ?_) hvr.1 (by simp) (fun ad e i hi => by cases e; exact h4 i hi) hvr.2
    cases e
    refine ⟨fun ⟨i, o, ho, _⟩ => (by rw [Hp.none_get] at ho; cases ho), ?_⟩
    have hcl : 0 < cs.length := by rw [← hvr.1]; exact List.length_pos_iff.2 hne
    have := h4 0 hcl
    unfold World.cell? at this
    cases hq : w.heap[(a.add 0).block]? with
    | none => simp only [hq] at this; cases this
    | some o => rw [add_block] at hq; exact (Array.getElem?_eq_some_iff.1 hq).1
end
end Go.Am
namespace Go.Proofs.Ytallboljaphbpaa
open Go Go.Am Go.ChangeShapes Go.WideShapes Go.ChangeAt Go.RowKit
set_option maxRecDepth 100000

theorem Try.own : ownKnob Try.prog.godebug = none := by kernel_rfl
theorem Try.laidOut : laidOutB Try.prog = true := by kernel_rfl

section
variable {H : Type} {enc : TypeId × Value → H} {w : World}
/-- stats, as they come in -/
theorem open_stats {b0 : Nat} {v : Value} {d : DataW H} {p : List MemPlace} (hv : Value.okWide Try.prog w .any b0 24 v) (h : DataW.Trod enc Try.prog w 0 (fun _ => true) true 24 v d p) :
    ∃ (x : Sts) (lv : AV), VR Hp.none id w (.agg (stsC x lv)) v ∧ Go.Am.Rows linC 7 Hp.none lv x.lines := by
  obtain ⟨cs, rfl, hsz⟩ := okWide_struct Try.underlying24 hv
  obtain ⟨fuel, hf⟩ := h
  obtain ⟨c0, e0⟩ := leaf_int (k := .i64) 9 0 hf (by kernel_rfl)
  obtain ⟨c1, e1⟩ := leaf_int (k := .i64) 9 1 hf (by kernel_rfl)
  obtain ⟨c2, e2⟩ := leaf_int (k := .i64) 9 2 hf (by kernel_rfl)
  obtain ⟨c3, e3⟩ := leaf_int (k := .i64) 9 3 hf (by kernel_rfl)
  obtain ⟨xs, m, _, _, hlen, hxl, hg⟩ := DataW.trod_struct Try.underlying24 hf
  have h4 := hg 4 _ rfl
  obtain ⟨l⟩ := cs
  have hc5 : Try.prog.cellsOf 24 = 5 := by kernel_rfl
  match l, hsz.trans hc5 with
  | [b0, b1, b2, b3, b4], _ =>
    simp only [Value.cells, List.getElem?_cons_zero, List.getElem?_cons_succ, Option.some.injEq] at e0 e1 e2 e3
    subst e0 e1 e2 e3
    have hx4 : xs[4]? = some (xs[4]'(by rw [hxl]; decide)) := List.getElem?_eq_getElem _
    rw [hx4] at h4
    have h5 : DataW.trod enc Try.prog w 0 (fun _ => true) true m 22 [b4] = some (xs[4]'(by rw [hxl]; decide)) := h4
    obtain ⟨v', l, hv', hr⟩ := open_rows (f := linC) (sz := 7) (α := Lin) linC_len Try.underlying22 (by kernel_rfl) (fun h hl => open_lin h hl) h5
    cases hv'
    refine ⟨⟨c0, c1, c2, c3, l⟩, .sl .any l.length (qca linC l), ?_, .imm _ _ _ (qbt linC_len l).symm⟩
    have hcell : VRs Hp.none id w (stsC ⟨c0, c1, c2, c3, l⟩ (.sl .any l.length (qca linC l))) [.int .i64 c0, .int .i64 c1, .int .i64 c2, .int .i64 c3, b4] :=
      VRs.cons (.int _ _) (VRs.cons (.int _ _) (VRs.cons (.int _ _) (VRs.cons (.int _ _) (VRs.cons hr VRs.nil))))
    exact .agg _ _ hcell.1 hcell.2
/-- patterns, as they come in -/
theorem open_patterns {b0 : Nat} {v : Value} {d : DataW H} {p : List MemPlace} (hv : Value.okWide Try.prog w .any b0 25 v) (h : DataW.Trod enc Try.prog w 0 (fun _ => true) true 25 v d p) :
    ∃ (l : List Ptn) (pv : AV), VR Hp.none id w pv v ∧ Go.Am.Rows qcd 15 Hp.none pv l := by
  obtain ⟨a, len, cap, rfl⟩ := okWide_slice Try.underlying25 hv
  obtain ⟨fuel, hf⟩ := h
  obtain ⟨v', l, hv', hr⟩ := open_rows (f := qcd) (sz := 15) (α := Ptn) ptnC_len Try.underlying25 (by kernel_rfl) (fun h hl => open_ptn h hl) hf
  cases hv'
  exact ⟨l, _, hr, .imm _ _ _ (qbt ptnC_len l).symm⟩
end

end Go.Proofs.Ytallboljaphbpaa
namespace Go.Am
open Go Go.Proofs AM
set_option maxRecDepth 10000
set_option synthInstance.maxHeartbeats 200000
set_option synthInstance.maxSize 2000
set_option linter.unusedVariables false
variable {pol : Pol} {sums : Sums}

attribute [local irreducible] ACo AK AT qa3 ARs Fin Cal KLp KFun
abbrev strC (s : Str) : List AV := [.str s]
instance : FL strC 1 := ⟨fun _ => rfl⟩
instance : FOne strC := ⟨fun _ => rfl⟩
instance {s : Str} : Enc [.str s] strC s := ⟨rfl⟩

theorem has_w (hs : sums 44 = none) {n : Nat} {W : List Ck} {v : AV} {l : List Str} (s : Str) [HasRows [] W v strC 1 l] (hn : l.length + 1 < n) (hb : l.length < 2 ^ 60) :
    Cal [] W (qat Try.prog pol sums n (.func (.func 44) [] []) [v, .str s]) (fun r N => r = .bool (decide (s ∈ l)) ∧ N = []) := by
  refine qbh (f := 44) (nt := 18) (rs := [.tmp 4]) (by omega) (by first | assumption | exact S.rest _ (by decide)) Try.func44 rfl rfl rfl rfl fun m h0 T hm aT => ?_
  (repeat first|refine Wk.go ?_|refine qal ?_|intro _)
  refine A_loop (fun k L T => ∃ i, k = l.length - i ∧ i ≤ l.length ∧ L = [] ∧ Lk T 5 (.int .i64 (i : Nat)) ∧ ∀ j, j < i → l[j]? ≠ some s) [0, 1] l.length (by omega) ⟨0, rfl, Nat.zero_le _, rfl, lkz (by rfl), fun j hj => by omega⟩ (by rfl) ?_
  rintro k L T1 ⟨i, rfl, hi, rfl, h5, hall⟩ hA
  (repeat first|refine Wk.go ?_|refine qal ?_|intro _)
  refine ⟨fun c => ?_, fun c => ?_⟩
  · have c : i < l.length := by simpa using c
    have : ElAt l i l[i] := ⟨List.getElem?_eq_getElem c⟩
    (repeat first|refine Wk.go ?_|refine qal ?_|intro _)
    refine ⟨fun e => ?_, fun e => ?_⟩
    · have e : l[i] = s := by simpa using e
      (repeat first|refine Wk.go ?_|refine qal ?_|intro _)
      exact fin ⟨by simp [← e], rfl⟩
    · have e : l[i] ≠ s := by simpa using e
      (repeat first|refine Wk.go ?_|refine qal ?_|intro _)
      refine lend (l.length - (i + 1)) _ (by omega) ⟨i + 1, rfl, c, rfl, inferInstance, fun j hj => ?_⟩
      by_cases q : j = i
      · subst q; simp [c, e]
      · exact hall j (by omega)
  · have c : ¬ i < l.length := by simpa using c
    (repeat first|refine Wk.go ?_|refine qal ?_|intro _)
    refine fin ⟨?_, rfl⟩
    rw [decide_eq_false]
    intro q
    obtain ⟨j, hj, e⟩ := List.getElem_of_mem q
    exact hall j (by omega) (by rw [List.getElem?_eq_getElem hj, e])
end Go.Am
namespace Go.Am
open Go Go.Proofs AM
set_option maxRecDepth 10000
set_option synthInstance.maxHeartbeats 200000
set_option synthInstance.maxSize 2000
set_option linter.unusedVariables false
variable {pol : Pol} {sums : Sums}
attribute [local irreducible] ACo AK AT qa3 ARs Fin Cal KLp KFun

abbrev qbd (i : Int) : List AV := [.int .i64 i]
instance : FL qbd 1 := ⟨fun _ => rfl⟩
instance : FOne qbd := ⟨fun _ => rfl⟩
instance {i : Int} : Enc [.int .i64 i] qbd i := ⟨rfl⟩
instance : FL qcd 15 := ⟨fun _ => rfl⟩
instance : FOne qcd := ⟨fun _ => rfl⟩
instance enc_ptn {p : Ptn} : Enc (qcd p) qcd p := ⟨rfl⟩
theorem flat_str : ∀ l : List Str, qca strC l = strs l
  | [] => rfl
  | s :: l => by rw [qch, flat_str l]; rfl
theorem flat_int : ∀ l : List Int, qca qbd l = ints l
  | [] => rfl
  | s :: l => by rw [qch, flat_int l]; rfl
theorem Strs.rows {h : Hp} {v : AV} {l : List Str} (s : Strs h v l) : Rows strC 1 h v l := by show SlV _ _ _ _ _; rw [flat_str]; exact s
theorem Ints.rows {h : Hp} {v : AV} {l : List Int} (s : Ints h v l) : Rows qbd 1 h v l := by show SlV _ _ _ _ _; rw [flat_int]; exact s
theorem HasRows.strs {W : List Ck} {v : AV} {l : List Str} (a : HasRows [] W v strC 1 l) {h : Hp} (k : ∀ c ∈ W, c.p h) : Strs h v l := by show SlV _ _ _ _ _; rw [← flat_str]; exact a.has h k
theorem HasRows.ints {W : List Ck} {v : AV} {l : List Int} (a : HasRows [] W v qbd 1 l) {h : Hp} (k : ∀ c ∈ W, c.p h) : Ints h v l := by show SlV _ _ _ _ _; rw [← flat_int]; exact a.has h k

theorem vars_w (S : S27' pol sums) {n : Nat} {W : List Ck} {v : AV} {l : List Ptn} [a : HasRows [] W v qcd 15 l] (hn : l.length + 7 ≤ n) (hb : l.length < 2 ^ 30) :
    Cal [] W (qat Try.prog pol sums n (.func (.func 27) [] []) [v]) (fun r N => N = [.rows strC 1 r (qbu l)]) :=
  Cal.of fun h w k => (vars_spec S.lit (S.rest _ (by decide)) (S.rest _ (by decide)) (S.rest _ (by decide)) S.has hn (a.has h k) hb).mono fun r h' ⟨k1, s, g, f⟩ =>
    ⟨k1, _, rfl, fun c hc => by rcases List.mem_singleton.1 hc with rfl; exact ⟨s.rows, g⟩, by simp [cids, Ck.rows, vids_nodup], by simpa [cids, Ck.rows] using f⟩

theorem parts_w (S : S27' pol sums) {n : Nat} {W : List Ck} {mid c : Nat} {es : List (AV × AV)} {l : List Str} [a : HasMap [] W mid es] (hc : Counts c es l) (p : Ptn) (hn : 10 ≤ n) :
    Cal [] W (qat Try.prog pol sums n (.func (.func 48) [] []) [.agg [.mapv mid], .agg (qcd p)]) (fun r N => ∃ a b, r = .tuple [a, b] ∧ N = [.rows strC 1 a (qa1 l p), .rows strC 1 b (fresh l p)]) := by
  refine qbh (f := 48) (nt := 32) (rs := [.tmp 4, .tmp 5]) (by omega) (by first | assumption | exact S.rest _ (by decide)) Try.func48 rfl rfl rfl rfl fun m h0 T hm aT => ?_
  (repeat first|refine Wk.go ?_|refine qal ?_|intro _)
  refine qad (vars_w S (l := [p]) (by simp; omega) (by simp)) ?_
  rintro r _ rfl
  (repeat first|refine Wk.go ?_|refine qal ?_|intro _)
  rename_i i2 i3
  have hl := qbe [p]
  simp only [List.length_singleton] at hl
  refine qc2 strC 1 (.sl .nil 0 []) (qc2 strC 1 (.sl .nil 0 []) ?_)
  refine A_loop (fun k L T => ∃ i a b xs ys, k = (qbu [p]).length - i ∧ i ≤ (qbu [p]).length ∧ Lk T 12 (.int .i64 (i : Nat)) ∧ Lk T 4 a ∧ Lk T 5 b ∧ L = [.rows strC 1 a xs, .rows strC 1 b ys, .rows strC 1 r (qbu [p]), .row i3 0 15 (qcd p) true, .row i2 0 1 [.mapv mid] true] ∧ xs = ((qbu [p]).take i).filter (· ∈ l) ∧ ys = ((qbu [p]).take i).filter (· ∉ l))
    [2, 10, 11] (qbu [p]).length (by omega) ⟨0, _, _, _, _, rfl, Nat.zero_le _, lkz (by rfl), inferInstance, inferInstance, rfl, rfl, rfl⟩ (by rfl) ?_
  rintro k L T1 ⟨i, a, b, xs, ys, rfl, hi, h12, h4, h5, rfl, hx, hy⟩ hA
  (repeat first|refine Wk.go ?_|refine qal ?_|intro _)
  refine ⟨fun c => ?_, fun c => ?_⟩
  · have c : i < (qbu [p]).length := by simpa using c
    generalize hs : (qbu [p])[i] = s
    have hs' : (qbu [p])[i]? = some s := by rw [List.getElem?_eq_getElem c, hs]
    have e1 : ElAt (qbu [p]) i s := ⟨hs'⟩
    have ht : (qbu [p]).take (i + 1) = (qbu [p]).take i ++ [s] := by rw [List.take_succ_eq_append_getElem c, hs]
    have l1 := List.length_filter_le (· ∈ l) ((qbu [p]).take i)
    have l2 := List.length_filter_le (· ∉ l) ((qbu [p]).take i)
    rw [List.length_take] at l1 l2
    rw [← hx] at l1
    rw [← hy] at l2
    (repeat first|refine Wk.go ?_|refine qal ?_|intro _)
    by_cases q : s ∈ l
    · obtain ⟨z, hz, z0, z1⟩ := (hc.find s).1 q
      have := FindS.mk hz
      (repeat first|refine Wk.go ?_|refine qal ?_|intro _)
      refine condT (by simp; omega) ?_
      (repeat first|refine Wk.go ?_|refine qal ?_|intro _)
      refine lend ((qbu [p]).length - (i + 1)) _ (by omega) ⟨i + 1, _, _, xs ++ [s], ys, rfl, c, inferInstance, inferInstance, inferInstance, rfl, ?_, ?_⟩ <;> simp [ht, q, hx, hy]
    · have := FindN.mk ((hc.find s).2 q)
      (repeat first|refine Wk.go ?_|refine qal ?_|intro _)
      refine condF (by rfl) ?_
      (repeat first|refine Wk.go ?_|refine qal ?_|intro _)
      refine lend ((qbu [p]).length - (i + 1)) _ (by omega) ⟨i + 1, _, _, xs, ys ++ [s], rfl, c, inferInstance, inferInstance, inferInstance, rfl, ?_, ?_⟩ <;> simp [ht, q, hx, hy]
  · have c : i = (qbu [p]).length := by
      have : ¬ i < (qbu [p]).length := by simpa using c
      omega
    subst c
    rw [List.take_length] at hx hy
    rw [hx, hy, show (qbu [p]).filter (· ∈ l) = qa1 l p from rfl, show (qbu [p]).filter (· ∉ l) = fresh l p from rfl]
    (repeat first|refine Wk.go ?_|refine qal ?_|intro _)
    exact fin ⟨_, _, rfl, rfl⟩

theorem learn_w (S : S27' pol sums) {n : Nat} {W : List Ck} {mid c : Nat} {es : List (AV × AV)} {l names : List Str} {v : AV} [a : HasRows [] W v strC 1 names] (hc : Counts c es l) (hn : names.length + 2 ≤ n) (hb : c + names.length < 2 ^ 62) :
    Cal [.map mid es] W (qat Try.prog pol sums n (.func (.func 26) [] []) [.agg [.mapv mid], v]) (fun _ N => ∃ es', N = [.map mid es'] ∧ Counts (c + names.length) es' (names.foldl qcj l)) := by
  refine qbh (f := 26) (nt := 18) (rs := []) (by omega) (by first | assumption | exact S.rest _ (by decide)) Try.func26 rfl rfl rfl rfl fun m h0 T hm aT => ?_
  (repeat first|refine Wk.go ?_|refine qal ?_|intro _)
  rename_i i2
  refine A_loop (fun k L T => ∃ i es', k = names.length - i ∧ i ≤ names.length ∧ Lk T 8 (.int .i64 (i : Nat)) ∧ L = [.row i2 0 1 [.mapv mid] true, .map mid es'] ∧ Counts (c + i) es' ((names.take i).foldl qcj l))
    [2, 6, 7] names.length (by omega) ⟨0, _, rfl, Nat.zero_le _, lkz (by rfl), rfl, hc⟩ (by rfl) ?_
  rintro k L T1 ⟨i, es', rfl, hi, h8, rfl, hc'⟩ hA
  (repeat first|refine Wk.go ?_|refine qal ?_|intro _)
  refine ⟨fun e => ?_, fun e => ?_⟩
  · have e : i < names.length := by simpa using e
    generalize hs : names[i] = s
    have e1 : ElAt names i s := ⟨by rw [List.getElem?_eq_getElem e, hs]⟩
    have ht : names.take (i + 1) = names.take i ++ [s] := by rw [List.take_succ_eq_append_getElem e, hs]
    have hf : (names.take (i + 1)).foldl qcj l = qcj ((names.take i).foldl qcj l) s := by rw [ht, List.foldl_append]; rfl
    (repeat first|refine Wk.go ?_|refine qal ?_|intro _)
    by_cases q : s ∈ (names.take i).foldl qcj l
    · obtain ⟨z, hz, z0, z1⟩ := (hc'.find s).1 q
      have := FindS.mk hz
      (repeat first|refine Wk.go ?_|refine qal ?_|intro _)
      have hq := hc'.upd s (z + 1) (by omega)
      rw [← hf] at hq
      exact lend (names.length - (i + 1)) _ (by omega) ⟨i + 1, _, rfl, e, inferInstance, rfl, hq⟩
    · have := FindN.mk ((hc'.find s).2 q)
      (repeat first|refine Wk.go ?_|refine qal ?_|intro _)
      have hq := hc'.upd s 1 (by omega)
      rw [← hf, show ((1 : Nat) : Int) = 0 + 1 from rfl] at hq
      exact lend (names.length - (i + 1)) _ (by omega) ⟨i + 1, _, rfl, e, inferInstance, rfl, hq⟩
  · have e : i = names.length := by
      have : ¬ i < names.length := by simpa using e
      omega
    subst e
    rw [List.take_length] at hc'
    (repeat first|refine Wk.go ?_|refine qal ?_|intro _)
    exact fin ⟨_, rfl, hc'⟩

theorem each_w (S : S27' pol sums) {n : Nat} {W : List Ck} {ov qv pv : AV} {α : Type} {f : α → List AV} {sz : Nat} {l : List α} [a : HasRows [] W pv f sz l] (hn : 1 ≤ n) :
    Cal [] W (qat Try.prog pol sums n (.func (.func 21) [] []) [.agg [ov, qv], pv]) (fun r N => ∃ ip iq, r = .func (.func 47) [] [.ptr ip 0 0, .ptr iq 0 0] ∧ N = [.row iq 0 1 [pv] true, .row ip 0 2 [ov, qv] true]) := by
  refine qbh (f := 21) (nt := 6) (rs := [.tmp 4]) (by omega) (by first | assumption | exact S.rest _ (by decide)) Try.func21 rfl rfl rfl rfl fun m h0 T hm aT => ?_
  (repeat first|refine Wk.go ?_|refine qal ?_|intro _)
  exact fin ⟨_, _, rfl, rfl⟩

abbrev stepL (place op : Int) (p : Ptn) (sv fv : AV) : List AV := [.int .i64 place, .int .i64 op, .str p.s.var, .int .i64 p.s.term.kind, .str p.s.term.a, .str p.s.term.b, .str p.s.term.c, .str p.p.var, .int .i64 p.p.term.kind, .str p.p.term.a, .str p.p.term.b, .str p.p.term.c, .str p.o.var, .int .i64 p.o.term.kind, .str p.o.term.a, .str p.o.term.b, .str p.o.term.c, sv, fv]
theorem each1_w (S : S27' pol sums) {n : Nat} {W C : List Ck} {ip iq : Nat} {ov qv pv Y : AV} {order : List Nat} {ops : List Int} {pats : List Ptn} [HasRow [] W ip 0 2 [ov, qv] true] [HasRow [] W iq 0 1 [pv] true] [HasRows [] W ov qbd 1 (zs order)] [HasRows [] W qv qbd 1 ops] [HasRows [] W pv qcd 15 pats]
    (hn : order.length + pats.length + 20 ≤ n) (hb : order.length < 2 ^ 30) (hor : ∀ i ∈ order, i < pats.length) (hol : ops.length = order.length)
    (J : Nat → List Ck → Prop) (Stop : List Ck → Prop) (hJ : J 0 C)
    (hY : ∀ i j op p (E C' : List Ck) m sv fv, order[i]? = some j → pats[j]? = some p → ops[i]? = some op → n ≤ m + 3 → J i C' → HasRows [] E sv strC 1 (qa1 (qaq pats order i) p) → HasRows [] E fv strC 1 (fresh (qaq pats order i) p) →
      Cal C' (E ++ W) (qat Try.prog pol sums m Y [.int .i64 (i : Nat), .agg (stepL (j : Nat) op p sv fv)]) fun v N => ∃ b, v = .bool b ∧ (b = true → J (i + 1) N) ∧ (b = false → Stop N)) :
    Cal C W (qat Try.prog pol sums n (.func (.func 47) [] [.ptr ip 0 0, .ptr iq 0 0]) [Y]) (fun _ N => J order.length N ∨ Stop N) := by
  refine qbh (f := 47) (nt := 50) (rs := []) (by omega) (by first | assumption | exact S.rest _ (by decide)) Try.func47 rfl rfl rfl rfl fun m h0 T hm aT => ?_
  (repeat first|refine Wk.go ?_|refine qal ?_|intro _)
  rename_i mid i4
  have hz : (zs order).length = order.length := qa7 order
  refine A_loop (fun k L T => ∃ i es C', k = order.length - i ∧ i ≤ order.length ∧ Lk T 15 (.int .i64 (i : Nat)) ∧ L = .row i4 0 1 [.mapv mid] true :: .map mid es :: C' ∧ Counts (3 * i) es (qaq pats order i) ∧ J i C')
    [0, 1, 2, 4, 13, 14] order.length (by omega) ⟨0, [], _, rfl, Nat.zero_le _, lkz (by rfl), rfl, ⟨rfl, fun e h => by cases h⟩, hJ⟩ (by rfl) ?_
  rintro k L T1 ⟨i, es, C', rfl, hi, h15, rfl, hc, hJi⟩ hA
  (repeat first|refine Wk.go ?_|refine qal ?_|intro _)
  refine ⟨fun e => ?_, fun e => ?_⟩
  · have e : i < order.length := by simpa using e
    generalize hj : order[i] = j
    have hj' : order[i]? = some j := by rw [List.getElem?_eq_getElem e, hj]
    have hjp : j < pats.length := hor j (List.mem_of_getElem? hj')
    generalize hp : pats[j] = p
    have hp' : pats[j]? = some p := by rw [List.getElem?_eq_getElem hjp, hp]
    generalize ho : ops[i]'(by omega) = op
    have ho' : ops[i]? = some op := by rw [List.getElem?_eq_getElem (by omega), ho]
    have e1 : ElAt (zs order) i (j : Int) := ⟨by simp [zs, hj']⟩
    have e2 : ElAt pats j p := ⟨hp'⟩
    have e3 : ElAt ops i op := ⟨ho'⟩
    (repeat first|refine Wk.go ?_|refine qal ?_|intro _)
    refine qad (parts_w S hc p (by omega)) ?_
    rintro r _ ⟨sv, fv, rfl, rfl⟩
    (repeat first|refine Wk.go ?_|refine qal ?_|intro _)
    refine qbo [0, 1, 2, 3, 4, 5, 6, 7, 8, 9, 10, 11, 12, 13] [0, 0, 0, 0, 8, 0, 56, 120, 0, 0, 0, 2044, 4095, 8191] (by kernel_rfl) (by kernel_rfl) (by rfl) ?_
    (repeat first|refine Wk.go ?_|refine qal ?_|intro _)
    refine A_callT (C := C') (by kernel_rfl) (hY i j op p _ C' m sv fv hj' hp' ho' (by omega) hJi (by infer_instance) (by infer_instance)) ?_
    rintro v N ⟨b, rfl, hb1, hb2⟩
    (repeat first|refine Wk.go ?_|refine qal ?_|intro _)
    refine ⟨fun eb => ?_, fun eb => ?_⟩
    · have eb : b = false := by simpa using eb
      (repeat first|refine Wk.go ?_|refine qal ?_|intro _)
      exact fin (.inr (hb2 eb))
    · have eb : b = true := by simpa using eb
      (repeat first|refine Wk.go ?_|refine qal ?_|intro _)
      refine qbo [0, 1, 2, 3, 4] [0, 0, 2, 6, 15] (by kernel_rfl) (by kernel_rfl) (by rfl) ?_
      (repeat first|refine Wk.go ?_|refine qal ?_|intro _)
      refine qad (vars_w S (l := [p]) (by simp; omega) (by simp)) ?_
      rintro r _ rfl
      (repeat first|refine Wk.go ?_|refine qal ?_|intro _)
      refine A_call (C := [.map mid es]) (by kernel_rfl) (learn_w S hc (by have := qbe [p]; simp at this; omega) (by have := qbe [p]; simp at this; omega)) ?_
      rintro r' _ ⟨es', rfl, hc'⟩
      (repeat first|refine Wk.go ?_|refine qal ?_|intro _)
      have hk := knownAt_succ pats order e (by rw [hj]; exact hjp)
      have hc2 : Counts (3 * (i + 1)) es' (qaq pats order (i + 1)) := by
        rw [hk]
        simp only [hj, hp]
        have := qbe [p]
        simp at this
        exact ⟨hc'.1, fun e he => by obtain ⟨z, h1, h2, h3⟩ := hc'.2 e he; exact ⟨z, h1, h2, by omega⟩⟩
      exact lend (order.length - (i + 1)) _ (by omega) ⟨i + 1, es', N, rfl, e, inferInstance, rfl, hc2, hb1 eb⟩
  · have e : i = order.length := by
      have : ¬ i < order.length := by simpa using e
      omega
    subst e
    (repeat first|refine Wk.go ?_|refine qal ?_|intro _)
    exact fin (.inl hJi)
end Go.Am
namespace Go.Am
open Go Go.Proofs AM
set_option maxRecDepth 10000
set_option synthInstance.maxHeartbeats 200000
set_option synthInstance.maxSize 2000
set_option linter.unusedVariables false
variable {pol : Pol} {sums : Sums}
attribute [local irreducible] ACo AK AT qa3 ARs Fin Cal KLp KFun

theorem right_w (S : S27' pol sums) {n : Nat} {W : List Ck} {ov qv pv : AV} {order ops : List Int} {pats : List Ptn} [a : HasRows [] W ov qbd 1 order] [b : HasRows [] W qv qbd 1 ops] [c : HasRows [] W pv qcd 15 pats]
    (hn : order.length + pats.length + 40 ≤ n) (hb : order.length < 2 ^ 30) (hb2 : pats.length < 2 ^ 30) (hb3 : ops.length < 2 ^ 40) (hr : qbf pats order ops = true) :
    Cal [] W (qat Try.prog pol sums n (.func (.func 9) [] []) [.agg [ov, qv], pv]) (fun r N => r = .int .i64 0 ∧ N = []) :=
  Cal.of0 fun h w k => (right_spec S hn hb hb2 hb3 (a.ints k) (b.ints k) (c.has h k)).mono fun r h' ⟨k1, e⟩ => ⟨k1, by rw [e, hr]; rfl⟩

theorem steps_w (S : S27' pol sums) {n : Nat} {W : List Ck} {ov qv pv : AV} {order ops : List Int} {pats : List Ptn} [HasRows [] W ov qbd 1 order] [HasRows [] W qv qbd 1 ops] [HasRows [] W pv qcd 15 pats]
    (hn : order.length + pats.length + 41 ≤ n) (hb : order.length < 2 ^ 30) (hb2 : pats.length < 2 ^ 30) (hb3 : ops.length < 2 ^ 40) (hr : qbf pats order ops = true) :
    Cal [] W (qat Try.prog pol sums n (.func (.func 39) [] []) [.agg [ov, qv], pv]) (fun r N => ∃ ip iq, r = .func (.func 47) [] [.ptr ip 0 0, .ptr iq 0 0] ∧ N = [.row iq 0 1 [pv] true, .row ip 0 2 [ov, qv] true]) := by
  refine qbh (f := 39) (nt := 12) (rs := [.tmp 4]) (by omega) (by first | assumption | exact S.rest _ (by decide)) Try.func39 rfl rfl rfl rfl fun m h0 T hm aT => ?_
  (repeat first|refine Wk.go ?_|refine qal ?_|intro _)
  refine qad (right_w S (order := order) (ops := ops) (pats := pats) (by omega) hb hb2 hb3 hr) ?_
  rintro r _ ⟨rfl, rfl⟩
  (repeat first|refine Wk.go ?_|refine qal ?_|intro _)
  refine condF (by rfl) ?_
  (repeat first|refine Wk.go ?_|refine qal ?_|intro _)
  refine qad (each_w S (by omega)) ?_
  rintro r _ ⟨ip, iq, rfl, rfl⟩
  (repeat first|refine Wk.go ?_|refine qal ?_|intro _)
  exact fin ⟨_, _, rfl, rfl⟩

theorem shares_w (S : S27' pol sums) {n : Nat} {W : List Ck} {v : AV} {names : List Str} [HasRows [] W v strC 1 names] (p : Ptn) (hn : names.length + 20 ≤ n) (hb : names.length < 2 ^ 40) :
    Cal [] W (qat Try.prog pol sums n (.func (.func 45) [] []) [.agg (qcd p), v]) (fun r N => r = .bool (decide (0 < (qa1 names p).length)) ∧ N = []) := by
  refine qbh (f := 45) (nt := 22) (rs := [.tmp 4]) (by omega) (by first | assumption | exact S.rest _ (by decide)) Try.func45 rfl rfl rfl rfl fun m h0 T hm aT => ?_
  (repeat first|refine Wk.go ?_|refine qal ?_|intro _)
  refine qad (vars_w S (l := [p]) (by simp; omega) (by simp)) ?_
  rintro r _ rfl
  (repeat first|refine Wk.go ?_|refine qal ?_|intro _)
  rename_i i2
  have hl := qbe [p]
  simp only [List.length_singleton] at hl
  refine A_loop (fun k L T => ∃ i, k = (qbu [p]).length - i ∧ i ≤ (qbu [p]).length ∧ Lk T 6 (.int .i64 (i : Nat)) ∧ L = [.rows strC 1 r (qbu [p]), .row i2 0 15 (qcd p) true] ∧ ∀ s ∈ (qbu [p]).take i, s ∉ names)
    [1, 5] (qbu [p]).length (by omega) ⟨0, rfl, Nat.zero_le _, lkz (by rfl), rfl, fun s hs => by cases hs⟩ (by rfl) ?_
  rintro k L T1 ⟨i, rfl, hi, h6, rfl, hall⟩ hA
  (repeat first|refine Wk.go ?_|refine qal ?_|intro _)
  refine ⟨fun c => ?_, fun c => ?_⟩
  · have c : i < (qbu [p]).length := by simpa using c
    generalize hs : (qbu [p])[i] = s
    have hs' : (qbu [p])[i]? = some s := by rw [List.getElem?_eq_getElem c, hs]
    have e1 : ElAt (qbu [p]) i s := ⟨hs'⟩
    (repeat first|refine Wk.go ?_|refine qal ?_|intro _)
    refine qad (has_w (S.rest _ (by decide)) s (by omega) (by omega)) ?_
    rintro _ _ ⟨rfl, rfl⟩
    by_cases q : s ∈ names
    · have : Is (decide (s ∈ names)) true := ⟨by simp [q]⟩
      (repeat first|refine Wk.go ?_|refine qal ?_|intro _)
      refine fin ⟨?_, rfl⟩
      have : s ∈ qa1 names p := List.mem_filter.2 ⟨List.mem_of_getElem? hs', by simpa using q⟩
      rw [decide_eq_true (List.length_pos_of_mem this)]
    · have : Is (decide (s ∈ names)) false := ⟨by simp [q]⟩
      (repeat first|refine Wk.go ?_|refine qal ?_|intro _)
      refine lend ((qbu [p]).length - (i + 1)) _ (by omega) ⟨i + 1, rfl, c, inferInstance, rfl, fun x hx => ?_⟩
      rw [List.take_succ_eq_append_getElem c, hs, List.mem_append, List.mem_singleton] at hx
      rcases hx with hx | rfl
      · exact hall x hx
      · exact q
  · have c : i = (qbu [p]).length := by
      have : ¬ i < (qbu [p]).length := by simpa using c
      omega
    subst c
    rw [List.take_length] at hall
    (repeat first|refine Wk.go ?_|refine qal ?_|intro _)
    refine fin ⟨?_, rfl⟩
    have : qa1 names p = [] := List.filter_eq_nil_iff.2 fun s hs => by simpa using hall s hs
    rw [this]; rfl
end Go.Am
namespace Go.Am
open Go Go.Proofs AM
set_option maxRecDepth 10000
set_option synthInstance.maxHeartbeats 200000
set_option synthInstance.maxSize 2000
set_option linter.unusedVariables false
variable {pol : Pol} {sums : Sums}
attribute [local irreducible] ACo AK AT qa3 ARs Fin Cal KLp KFun

/-- the patterns ahead of a step -/
def qbk (pats : List Ptn) (order : List Nat) (k : Nat) : List Ptn := (order.take k).filterMap fun j => pats[j]?
theorem qcs (pats : List Ptn) (order : List Nat) (k : Nat) : (qbk pats order k).length ≤ k := by
  have h1 : (qbk pats order k).length ≤ (order.take k).length := List.length_filterMap_le _ _
  have h2 : (order.take k).length ≤ k := List.length_take_le _ _
  omega
theorem aheadL_succ {pats : List Ptn} {order : List Nat} {k j : Nat} {p : Ptn} (h1 : order[k]? = some j) (h2 : pats[j]? = some p) : qbk pats order (k + 1) = qbk pats order k ++ [p] := by
  obtain ⟨hk, rfl⟩ := List.getElem?_eq_some_iff.1 h1
  unfold qbk
  rw [List.take_succ_eq_append_getElem hk, List.filterMap_append]
  simp [h2]

theorem zs_at {order : List Nat} {k j : Nat} (h : order[k]? = some j) : ElAt (zs order) k (j : Int) := ⟨by simp [zs, h]⟩
theorem near_w (S : S27' pol sums) {n : Nat} {W : List Ck} {ov qv pv : AV} {order : List Nat} {pats : List Ptn} [HasRows [] W ov qbd 1 (zs order)] [HasRows [] W pv qcd 15 pats]
    (hn : 4 * order.length + 50 ≤ n) (hb : order.length < 2 ^ 28) (hor : ∀ i ∈ order, i < pats.length)
    (hnear : ∀ k j p, 1 ≤ k → order[k]? = some j → pats[j]? = some p → 0 < (qa1 (qbu (qbk pats order k)) p).length ∨ (qbu [p]).length = 0 ∨ ∀ i j' p', k < i → order[i]? = some j' → pats[j']? = some p' → ¬ 0 < (qa1 (qbu (qbk pats order k)) p').length) :
    Cal [] W (qat Try.prog pol sums n (.func (.func 16) [] []) [.agg [ov, qv], pv]) (fun r N => r = .bool true ∧ N = []) := by
  have hz : (zs order).length = order.length := qa7 order
  have get : ∀ k, k < order.length → ∃ j p, order[k]? = some j ∧ pats[j]? = some p := fun k hk =>
    ⟨order[k], pats[order[k]]'(hor _ (List.getElem_mem hk)), List.getElem?_eq_getElem hk, List.getElem?_eq_getElem _⟩
  refine qbh (f := 16) (nt := 78) (rs := [.tmp 4]) (by omega) (by first | assumption | exact S.rest _ (by decide)) Try.func16 rfl rfl rfl rfl fun m h0 T hm aT => ?_
  (repeat first|refine Wk.go ?_|refine qal ?_|intro _)
  rename_i i2
  refine A_loop (fun d L T => ∃ k, d = order.length + 1 - k ∧ 1 ≤ k ∧ k ≤ order.length + 1 ∧ Lk T 5 (.int .i64 (k : Nat)) ∧ L = [.row i2 0 2 [ov, qv] true])
    [1, 2] (order.length) (by omega) ⟨1, by omega, by omega, by omega, lkz (by rfl), rfl⟩ (by rfl) ?_
  rintro d L T1 ⟨k, rfl, hk1, hk2, h5, rfl⟩ hA
  (repeat first|refine Wk.go ?_|refine qal ?_|intro _)
  refine ⟨fun c => ?_, fun c => ?_⟩
  rotate_left
  · (repeat first|refine Wk.go ?_|refine qal ?_|intro _)
    exact fin ⟨rfl, rfl⟩
  have c : k < order.length := by rw [hz] at c; simpa using c
  (repeat first|refine Wk.go ?_|refine qal ?_|intro _)
  refine qc2 qcd 15 (.sl .nil 0 []) ?_
  refine A_loop (fun d L T => ∃ i av, d = k - i ∧ i ≤ k ∧ Lk T 7 (.int .i64 (i : Nat)) ∧ Lk T 6 av ∧ L = [.rows qcd 15 av (qbk pats order i), .row i2 0 2 [ov, qv] true])
    [1, 2, 4, 5, 10, 11, 12, 13, 14] k (by omega) ⟨0, _, rfl, Nat.zero_le _, lkz (by rfl), inferInstance, rfl⟩ (by rfl) ?_
  rintro d L T2 ⟨i, av, rfl, hi, h7, h6, rfl⟩ hA2
  (repeat first|refine Wk.go ?_|refine qal ?_|intro _)
  refine ⟨fun c2 => ?_, fun c2 => ?_⟩
  · have c2 : i < k := by simpa using c2
    obtain ⟨j, p, hj, hp⟩ := get i (by omega)
    have := zs_at hj
    have := ElAt.mk hp
    have hjl : j < pats.length := (List.getElem?_eq_some_iff.1 hp).1
    have hal := qcs pats order i
    (repeat first|refine Wk.go ?_|refine qal ?_|intro _)
    refine lend (k - (i + 1)) _ (by omega) ⟨i + 1, _, rfl, c2, inferInstance, inferInstance, by rw [aheadL_succ hj hp]⟩
  have c2 : i = k := by
    have : ¬ i < k := by simpa using c2
    omega
  subst c2
  obtain ⟨j, p, hj, hp⟩ := get i c
  have := zs_at hj
  have := ElAt.mk hp
  have hjl : j < pats.length := (List.getElem?_eq_some_iff.1 hp).1
  have hal := qcs pats order i
  have hvl := qbe (qbk pats order i)
  (repeat first|refine Wk.go ?_|refine qal ?_|intro _)
  refine qad (vars_w S (l := qbk pats order i) (by omega) (by omega)) ?_
  rintro nv _ rfl
  (repeat first|refine Wk.go ?_|refine qal ?_|intro _)
  refine qad (shares_w S (names := qbu (qbk pats order i)) p (by omega) (by omega)) ?_
  rintro _ _ ⟨rfl, rfl⟩
  by_cases q1 : 0 < (qa1 (qbu (qbk pats order i)) p).length
  · have : Is (decide (0 < (qa1 (qbu (qbk pats order i)) p).length)) true := ⟨by simpa using q1⟩
    (repeat first|refine Wk.go ?_|refine qal ?_|intro _)
    exact lend (order.length + 1 - (i + 1)) _ (by omega) ⟨i + 1, rfl, by omega, by omega, inferInstance, rfl⟩
  have : Is (decide (0 < (qa1 (qbu (qbk pats order i)) p).length)) false := ⟨by simpa using q1⟩
  (repeat first|refine Wk.go ?_|refine qal ?_|intro _)
  refine qad (vars_w S (l := [p]) (by simp; omega) (by simp)) ?_
  rintro nv1 _ rfl
  by_cases q2 : (qbu [p]).length = 0
  · have : Is (((qbu [p]).length : Int) == 0) true := ⟨by simp [q2]⟩
    (repeat first|refine Wk.go ?_|refine qal ?_|intro _)
    exact lend (order.length + 1 - (i + 1)) _ (by omega) ⟨i + 1, rfl, by omega, by omega, inferInstance, rfl⟩
  have : Is (((qbu [p]).length : Int) == 0) false := ⟨by simp; intro e; exact q2 (by rw [e]; rfl)⟩
  have hlast := ((hnear i j p hk1 hj hp).resolve_left q1).resolve_left q2
  (repeat first|refine Wk.go ?_|refine qal ?_|intro _)
  refine A_loopS (fun d L T => ∃ x, d = order.length - x ∧ i < x ∧ x ≤ order.length ∧ Lk T 9 (.int .i64 (x : Nat)) ∧ L = [.rows strC 1 nv (qbu (qbk pats order i)), .row i2 0 2 [ov, qv] true])
    [1, 2, 5, 10, 11, 12, 13, 14, 6, 7, 17, 18, 19, 22, 23, 24, 25, 26, 27, 28, 29, 30, 31, 32, 20, 21, 33, 34, 8, 35, 36, 37, 38, 39, 40, 41, 42, 43, 44, 45, 46, 47, 48, 49, 50, 51, 52, 53, 54, 55, 56, 57, 58, 59, 60] (order.length - (i + 1)) (by omega) ⟨i + 1, rfl, by omega, by omega, inferInstance, rfl⟩ (by rfl) ?_
  rintro d L T3 ⟨x, rfl, hx1, hx2, h9, rfl⟩ hA3
  (repeat first|refine Wk.go ?_|refine qal ?_|intro _)
  refine ⟨fun c3 => ?_, fun c3 => ?_⟩
  · have c3 : x < order.length := by rw [hz] at c3; simpa using c3
    obtain ⟨j', p', hj', hp'⟩ := get x c3
    have := zs_at hj'
    have := ElAt.mk hp'
    have hjl' : j' < pats.length := (List.getElem?_eq_some_iff.1 hp').1
    have hno := hlast x j' p' hx1 hj' hp'
    (repeat first|refine Wk.go ?_|refine qal ?_|intro _)
    refine qad (shares_w S (names := qbu (qbk pats order i)) p' (by omega) (by omega)) ?_
    rintro _ _ ⟨rfl, rfl⟩
    have : Is (decide (0 < (qa1 (qbu (qbk pats order i)) p').length)) false := ⟨by simpa using hno⟩
    (repeat first|refine Wk.go ?_|refine qal ?_|intro _)
    exact lend (order.length - (x + 1)) _ (by omega) ⟨x + 1, rfl, by omega, c3, inferInstance, rfl⟩
  · (repeat first|refine Wk.go ?_|refine qal ?_|intro _)
    exact lend (order.length + 1 - (i + 1)) _ (by omega) ⟨i + 1, rfl, by omega, by omega, inferInstance, rfl⟩
end Go.Am
namespace Go.Am
open Go Go.Proofs AM
set_option maxRecDepth 10000
set_option synthInstance.maxHeartbeats 400000
set_option synthInstance.maxSize 4000
set_option linter.unusedVariables false
variable {pol : Pol} {sums : Sums}

def andO (o k : Option Bool) : Option Bool := match o with
  | some true => k
  | some false => some false
  | none => none
theorem andO_some (a b : Bool) : andO (some a) (some b) = some (a && b) := by cases a <;> rfl
def trmO (a b : Trm) : Option Bool := andO (some (a.kind == b.kind)) (andO (some (a.a == b.a)) (andO (some (a.b == b.b)) (andO (some (a.c == b.c)) (some true))))
def sltO (a b : Slt) : Option Bool := andO (some (a.var == b.var)) (andO (trmO a.term b.term) (some true))
theorem trmO_eq (a b : Trm) : trmO a b = some (decide (a = b)) := by
  obtain ⟨k, x, y, z⟩ := a
  obtain ⟨k', x', y', z'⟩ := b
  simp only [trmO, andO_some]
  congr 1
  rw [Bool.eq_iff_iff]
  simp
theorem sltO_eq (a b : Slt) : sltO a b = some (decide (a = b)) := by
  obtain ⟨v, t⟩ := a
  obtain ⟨v', t'⟩ := b
  simp only [sltO, trmO_eq, andO_some]
  congr 1
  rw [Bool.eq_iff_iff]
  simp
theorem ptn_eqIn (a b : Ptn) : aeqIn Try.prog 9 48 (.agg (qcd a)) (.agg (qcd b)) = some (decide (a = b)) := by
  obtain ⟨⟨v1, ⟨k1, x1, y1, z1⟩⟩, ⟨v2, ⟨k2, x2, y2, z2⟩⟩, ⟨v3, ⟨k3, x3, y3, z3⟩⟩⟩ := a
  obtain ⟨⟨w1, ⟨l1, p1, q1, r1⟩⟩, ⟨w2, ⟨l2, p2, q2, r2⟩⟩, ⟨w3, ⟨l3, p3, q3, r3⟩⟩⟩ := b
  have e : ∀ a b : Ptn, andO (sltO a.s b.s) (andO (sltO a.p b.p) (andO (sltO a.o b.o) (some true))) = some (decide (a = b)) := by
    intro a b
    obtain ⟨s, p, o⟩ := a
    obtain ⟨s', p', o'⟩ := b
    simp only [sltO_eq, andO_some]
    congr 1
    rw [Bool.eq_iff_iff]
    simp
  refine Eq.trans ?_ (e _ _)
  kernel_rfl
instance : SEq Try.prog 48 qcd where
  eql a b := (abin_struct (by kernel_rfl) (by kernel_rfl) (ptn_eqIn a b)).1
  neq a b := (abin_struct (by kernel_rfl) (by kernel_rfl) (ptn_eqIn a b)).2

def qcy (n : Nat) (order : List Nat) (i : Nat) : List Int := (List.range n).map fun j => if j ∈ order.take i then 1 else 0
theorem takenAt_length (n : Nat) (order : List Nat) (i : Nat) : (qcy n order i).length = n := by simp [qcy]
theorem takenAt_zero (n : Nat) (order : List Nat) : List.replicate n 0 = qcy n order 0 := by
  apply List.ext_getElem
  · simp [qcy]
  · intro j h1 h2; simp [qcy]
theorem takenAt_get {n : Nat} {order : List Nat} {i j : Nat} (hj : j < n) : (qcy n order i)[j]? = some (if j ∈ order.take i then 1 else 0) := by
  simp [qcy, hj]
theorem takenAt_set {n : Nat} {order : List Nat} {i j : Nat} (hj : order[i]? = some j) : (qcy n order i).set j 1 = qcy n order (i + 1) := by
  obtain ⟨hi, rfl⟩ := List.getElem?_eq_some_iff.1 hj
  apply List.ext_getElem
  · simp [qcy]
  · intro k h1 h2
    simp only [qcy, List.getElem_set, List.getElem_map, List.getElem_range, List.take_succ_eq_append_getElem hi, List.mem_append, List.mem_singleton]
    by_cases e : order[i] = k
    · subst e; simp
    · rw [if_neg e]
      have : ¬ k = order[i] := fun q => e q.symm
      simp [this]
theorem shared_fresh (l : List Str) (p : Ptn) : (qa1 l p).length + (fresh l p).length = (qbu [p]).length := by
  unfold qa1 fresh
  induction qbu [p] with
  | nil => rfl
  | cons s r ih =>
    by_cases q : s ∈ l
    · simp [q] at ih ⊢; omega
    · simp [q] at ih ⊢; omega

attribute [local irreducible] ACo AK AT qa3 ARs Fin Cal KLp KFun
theorem fine_w (S : S27' pol sums) {n : Nat} {W : List Ck} {ov qv pv : AV} {order : List Nat} {ops : List Int} {pats : List Ptn} [HasRows [] W ov qbd 1 (zs order)] [HasRows [] W qv qbd 1 ops] [HasRows [] W pv qcd 15 pats]
    (hn : 8 * pats.length + 80 ≤ n) (hb : pats.length < 2 ^ 28) (hor : ∀ i ∈ order, i < pats.length) (hol : order.length = pats.length) (hop : ops.length = pats.length) (hr : qbf pats (zs order) ops = true) (hnd : order.Nodup) (hall : ∀ j, j < pats.length → j ∈ order)
    (hks : ∀ i j p, order[i]? = some j → pats[j]? = some p → qaq pats order (i + 1) = qaq pats order i ++ fresh (qaq pats order i) p)
    (hkl : (qaq pats order order.length).length = (qbu pats).length) :
    Cal [] W (qat Try.prog pol sums n (.func (.func 15) [] []) [.agg [ov, qv], pv]) (fun r N => r = .bool true ∧ N = []) := by
  have hz : (zs order).length = order.length := qa7 order
  refine qbh (f := 15) (nt := 130) (rs := [.cell 4 4]) (by omega) (by first | assumption | exact S.rest _ (by decide)) Try.func15 rfl rfl rfl rfl fun m h0 T hm aT => ?_
  (repeat first|refine Wk.go ?_|refine qal ?_|intro _)
  refine qad (right_w S (order := zs order) (ops := ops) (pats := pats) (by omega) (by omega) (by omega) (by omega) hr) ?_
  rintro _ _ ⟨rfl, rfl⟩
  have : Is ((0 : Int) != 0) false := ⟨rfl⟩
  (repeat first|refine Wk.go ?_|refine qal ?_|intro _)
  refine qad (steps_w S (order := zs order) (ops := ops) (pats := pats) (by omega) (by omega) (by omega) (by omega) hr) ?_
  rintro _ _ ⟨ip, iq, rfl, rfl⟩
  (repeat first|refine Wk.go ?_|refine qal ?_|intro _)
  rename_i i2 i3 i4 it i5 i6 i7
  refine qc2 strC 1 (.sl .nil 0 []) ?_
  refine A_rangeL (C := [.row i7 0 1 [.int .i64 0] true, .row i6 0 1 [.sl .nil 0 []] true, .rows strC 1 (.sl .nil 0 []) [], .arr qbd 1 (.own it 0 0 pats.length) (List.replicate pats.length 0)]) rfl
    (fun N => ∃ nv, N = [.row i7 0 1 [.int .i64 (order.length : Nat)] true, .row i6 0 1 [nv] true, .rows strC 1 nv (qaq pats order order.length), .arr qbd 1 (.own it 0 0 pats.length) (qcy pats.length order order.length)])
    (fun _ => False) (fun _ _ => False) ?_ ?_ (fun _ q => q.elim) (fun _ _ q => q.elim)
  · intro lid lp hlp
    refine (each1_w S (order := order) (ops := ops) (pats := pats) (by omega) (by omega) hor (by omega)
      (fun i C' => ∃ nv, C' = lp .ready none :: [.row i7 0 1 [.int .i64 (i : Nat)] true, .row i6 0 1 [nv] true, .rows strC 1 nv (qaq pats order i), .arr qbd 1 (.own it 0 0 pats.length) (qcy pats.length order i)])
      (fun _ => False) ⟨_, by rw [takenAt_zero]; rfl⟩ ?_).mono ?_
    · rintro i j op p E C' m' sv fv hj hp ho hm ⟨nv, rfl⟩ _ _
      simp only [hlp]
      refine Cal_yield (by omega) rfl ?_
      intro m2 h1 e2
      have hjl : j < pats.length := (List.getElem?_eq_some_iff.1 hp).1
      have hjt : j ∉ order.take i := fun q => by
        obtain ⟨x, hx, e⟩ := List.getElem_of_mem q
        obtain ⟨hi, hij⟩ := List.getElem?_eq_some_iff.1 hj
        simp only [List.length_take] at hx
        rw [List.getElem_take, ← hij] at e
        have := (List.getElem_inj hnd).1 e
        omega
      have hsf := shared_fresh (qaq pats order i) p
      have hvl := qbe [p]
      simp only [List.length_singleton] at hvl
      have := ElAt.mk hp
      have : Is ((i : Int) != (i : Int)) false := ⟨by simp⟩
      have : Is (decide ((j : Int) < 0)) false := ⟨by simp⟩
      have : Is (decide ((j : Int) ≥ (pats.length : Int))) false := ⟨by simp; omega⟩
      have : Is (decide (p = p)) true := ⟨by simp⟩
      have : Is ((((qa1 (qaq pats order i) p).length + (fresh (qaq pats order i) p).length : Nat) : Int) != ((qbu [p]).length : Int)) false := ⟨by rw [hsf]; simp⟩
      (repeat first|refine Wk.go ?_|refine qal ?_|intro _)
      refine qbo [0, 1, 2, 3, 4, 5, 6, 7, 8, 9, 10, 11, 12, 13, 14, 15, 16, 17, 18, 19, 20, 21, 22, 23, 24, 25, 26, 27, 28, 29, 30, 31, 32, 33, 34, 35, 36, 37, 38, 39] [0, 0, 3, 7, 15, 31, 63, 127, 255, 511, 1023, 511, 2559, 8191, 16383, 32767, 65535, 131071, 65535, 65535, 589823, 1900543, 3997695, 8388607, 16777215, 33554431, 67108863, 134217727, 268435455, 67108863, 603979775, 1677721599, 4294967295, 67108863, 8657043455, 25836912639, 60196651007, 128916127743, 274877906943, 549755813887] (by kernel_rfl) (by kernel_rfl) (by rfl) ?_
      (repeat first|refine Wk.go ?_|refine qal ?_|intro _)
      refine qad (vars_w S (l := [p]) (by simp; omega) (by simp)) ?_
      rintro _ _ rfl
      (repeat first|refine Wk.go ?_|refine qal ?_|intro _)
      have e0 : ElAt (qcy pats.length order i) j 0 := ⟨by rw [takenAt_get hjl, if_neg hjt]⟩
      have hlt := takenAt_length pats.length order i
      have hkl := knownAt_length pats order i
      have hio : i < order.length := (List.getElem?_eq_some_iff.1 hj).1
      (repeat first|refine Wk.go ?_|refine qal ?_|intro _)
      refine A_loopR (fun d T => ∃ x, d = (qa1 (qaq pats order i) p).length - x ∧ x ≤ (qa1 (qaq pats order i) p).length ∧ Lk T 10 (.int .i64 (x : Nat))) [3, 4, 5, 6, 7, 9] (qa1 (qaq pats order i) p).length (by omega) ⟨0, rfl, Nat.zero_le _, lkz (by rfl)⟩ (by rfl) ?_
      · rintro d T2 ⟨x, rfl, hx, h10⟩ hA
        (repeat first|refine Wk.go ?_|refine qal ?_|intro _)
        refine ⟨fun c => ?_, fun c => ?_⟩
        · have c : x < (qa1 (qaq pats order i) p).length := by simpa using c
          generalize hs : (qa1 (qaq pats order i) p)[x] = s
          have hs' : (qa1 (qaq pats order i) p)[x]? = some s := by rw [List.getElem?_eq_getElem c, hs]
          have := ElAt.mk hs'
          have hin : s ∈ qaq pats order i := by simpa using (List.mem_filter.1 (List.mem_of_getElem? hs')).2
          (repeat first|refine Wk.go ?_|refine qal ?_|intro _)
          refine qbo [0, 1, 2, 3, 4, 5, 6, 7] [0, 0, 2, 0, 14, 30, 63, 127] (by kernel_rfl) (by kernel_rfl) (by rfl) ?_
          (repeat first|refine Wk.go ?_|refine qal ?_|intro _)
          refine qad (has_w (S.rest _ (by decide)) s (l := qaq pats order i) (by omega) (by omega)) ?_
          rintro _ _ ⟨rfl, rfl⟩
          have : Is (decide (s ∈ qaq pats order i)) true := ⟨by simp [hin]⟩
          (repeat first|refine Wk.go ?_|refine qal ?_|intro _)
          exact lend ((qa1 (qaq pats order i) p).length - (x + 1)) _ (by omega) ⟨rfl, x + 1, rfl, c, inferInstance⟩
        · (repeat first|refine Wk.go ?_|refine qal ?_|intro _)
          refine A_loopR (fun d T => ∃ x, d = (fresh (qaq pats order i) p).length - x ∧ x ≤ (fresh (qaq pats order i) p).length ∧ Lk T 11 (.int .i64 (x : Nat))) [3, 4, 5, 6, 7, 9] (fresh (qaq pats order i) p).length (by omega) ⟨0, rfl, Nat.zero_le _, lkz (by rfl)⟩ (by rfl) ?_
          rintro d T3 ⟨y, rfl, hy, h11⟩ hA3
          (repeat first|refine Wk.go ?_|refine qal ?_|intro _)
          refine ⟨fun c => ?_, fun c => ?_⟩
          · have c : y < (fresh (qaq pats order i) p).length := by simpa using c
            generalize hs : (fresh (qaq pats order i) p)[y] = s
            have hs' : (fresh (qaq pats order i) p)[y]? = some s := by rw [List.getElem?_eq_getElem c, hs]
            have := ElAt.mk hs'
            have hin : s ∉ qaq pats order i := by simpa using (List.mem_filter.1 (List.mem_of_getElem? hs')).2
            (repeat first|refine Wk.go ?_|refine qal ?_|intro _)
            refine qbo [0, 1, 2, 3, 4, 5, 6] [0, 0, 2, 0, 14, 30, 63] (by kernel_rfl) (by kernel_rfl) (by rfl) ?_
            (repeat first|refine Wk.go ?_|refine qal ?_|intro _)
            refine qad (has_w (S.rest _ (by decide)) s (l := qaq pats order i) (by omega) (by omega)) ?_
            rintro _ _ ⟨rfl, rfl⟩
            have : Is (decide (s ∈ qaq pats order i)) false := ⟨by simp [hin]⟩
            (repeat first|refine Wk.go ?_|refine qal ?_|intro _)
            exact lend ((fresh (qaq pats order i) p).length - (y + 1)) _ (by omega) ⟨rfl, y + 1, rfl, c, inferInstance⟩
          · (repeat first|refine Wk.go ?_|refine qal ?_|intro _)
            rename_i nv2
            have ht : (qcy pats.length order i).set j (0 + 1) = qcy pats.length order (i + 1) := takenAt_set hj
            rw [ht, ← hks i j p hj hp]
            exact fin ⟨true, rfl, fun _ => ⟨nv2, rfl⟩, fun e => by cases e⟩
    · rintro v N (⟨nv, rfl⟩ | q)
      · exact ⟨_, .inl ⟨rfl, nv, rfl⟩⟩
      · exact q.elim
  · rintro N ⟨nv, rfl⟩
    (repeat first|refine Wk.go ?_|refine qal ?_|intro _)
    refine A_loopR (fun d T => ∃ x, d = pats.length - x ∧ x ≤ pats.length ∧ Lk T 12 (.int .i64 (x : Nat))) [3, 4, 5, 6, 7] pats.length (by omega) ⟨0, rfl, Nat.zero_le _, lkz (by rfl)⟩ (by rfl) ?_
    rintro d T2 ⟨x, rfl, hx, h12⟩ hA
    have hlt := takenAt_length pats.length order order.length
    (repeat first|refine Wk.go ?_|refine qal ?_|intro _)
    refine ⟨fun c => ?_, fun c => ?_⟩
    · have c : x < pats.length := by rw [hlt] at c; simpa using c
      have e0 : ElAt (qcy pats.length order order.length) x 1 := ⟨by rw [takenAt_get c, List.take_length, if_pos (hall x c)]⟩
      have : Is ((1 : Int) != 1) false := ⟨rfl⟩
      (repeat first|refine Wk.go ?_|refine qal ?_|intro _)
      exact lend (pats.length - (x + 1)) _ (by omega) ⟨rfl, x + 1, rfl, c, inferInstance⟩
    · have : Is ((order.length : Int) == (pats.length : Int)) true := ⟨by simp [hol]⟩
      (repeat first|refine Wk.go ?_|refine qal ?_|intro _)
      refine qbo [0, 1, 2, 3, 4, 5, 6, 7, 8, 9, 10, 11, 12] [0, 0, 2, 7, 15, 31, 63, 31, 159, 415, 1023, 2047, 4095] (by kernel_rfl) (by kernel_rfl) (by rfl) ?_
      (repeat first|refine Wk.go ?_|refine qal ?_|intro _)
      refine qad (vars_w S (l := pats) (by omega) (by omega)) ?_
      rintro r _ rfl
      (repeat first|refine Wk.go ?_|refine qal ?_|intro _)
      refine fin ⟨?_, rfl⟩
      simp [hkl]
end Go.Am
namespace Go.Am
open Go Go.Proofs AM
set_option linter.unusedVariables false

theorem meet1_nodup {cur : List Str} (h : cur.Nodup) (s : Str) : (qcj cur s).Nodup := by
  unfold qcj
  split
  · exact h
  · rename_i q
    exact List.nodup_append.2 ⟨h, by simp, fun a ha b hb e => by simp at hb; subst hb e; exact q ha⟩
theorem mem_meet1 {cur : List Str} {s t : Str} : t ∈ qcj cur s ↔ t ∈ cur ∨ t = s := by
  unfold qcj
  split
  · rename_i q; exact ⟨.inl, fun h => by rcases h with h | rfl; exact h; exact q⟩
  · simp
theorem slotMeet_nodup {cur : List Str} (h : cur.Nodup) (x : Slt) : (qbj cur x).Nodup := by
  unfold qbj; split; exact h; exact meet1_nodup h _
theorem mem_slotMeet {cur : List Str} {x : Slt} {t : Str} : t ∈ qbj cur x ↔ t ∈ cur ∨ (x.var ≠ [] ∧ t = x.var) := by
  unfold qbj
  split
  · rename_i q; simp [q]
  · rename_i q; rw [mem_meet1]; simp [q]
def occ (t : Str) (p : Ptn) : Prop := (p.s.var ≠ [] ∧ t = p.s.var) ∨ (p.p.var ≠ [] ∧ t = p.p.var) ∨ (p.o.var ≠ [] ∧ t = p.o.var)
theorem ptnMeet_nodup {cur : List Str} (h : cur.Nodup) (p : Ptn) : (qc0 cur p).Nodup := slotMeet_nodup (slotMeet_nodup (slotMeet_nodup h _) _) _
theorem mem_ptnMeet {cur : List Str} {p : Ptn} {t : Str} : t ∈ qc0 cur p ↔ t ∈ cur ∨ occ t p := by
  unfold qc0 occ
  rw [mem_slotMeet, mem_slotMeet, mem_slotMeet]
  simp only [or_assoc]
theorem foldl_meet_nodup : ∀ (l : List Ptn) {cur : List Str}, cur.Nodup → (l.foldl qc0 cur).Nodup
  | [], _, h => h
  | p :: l, _, h => foldl_meet_nodup l (ptnMeet_nodup h p)
theorem mem_foldl_meet {t : Str} : ∀ (l : List Ptn) {cur : List Str}, t ∈ l.foldl qc0 cur ↔ t ∈ cur ∨ ∃ p ∈ l, occ t p
  | [], cur => by simp
  | p :: l, cur => by rw [List.foldl_cons, mem_foldl_meet l, mem_ptnMeet]; simp [or_assoc]
theorem vars_nodup (l : List Ptn) : (qbu l).Nodup := foldl_meet_nodup l List.nodup_nil
theorem mem_vars {t : Str} {l : List Ptn} : t ∈ qbu l ↔ ∃ p ∈ l, occ t p := by unfold qbu; rw [mem_foldl_meet]; simp
theorem mem_vars1 {t : Str} {p : Ptn} : t ∈ qbu [p] ↔ occ t p := by rw [mem_vars]; simp

theorem foldl_meet1 : ∀ (vs : List Str), vs.Nodup → ∀ known : List Str, vs.foldl qcj known = known ++ vs.filter (· ∉ known)
  | [], _, known => by simp
  | s :: r, h, known => by
    obtain ⟨h1, h2⟩ := List.nodup_cons.1 h
    rw [List.foldl_cons, foldl_meet1 r h2]
    unfold qcj
    by_cases q : s ∈ known
    · rw [if_pos q]; simp [q]
    · rw [if_neg q, List.filter_cons, if_pos (by simpa using q), List.append_assoc, List.singleton_append]
      congr 2
      refine List.filter_congr fun x hx => ?_
      have : x ≠ s := fun e => h1 (e ▸ hx)
      simp [this]
theorem learnZ_eq (known : List Str) (p : Ptn) : learnZ known p = known ++ fresh known p := foldl_meet1 _ (vars_nodup _) _
theorem known_step {pats : List Ptn} {order : List Nat} {i j : Nat} {p : Ptn} (hj : order[i]? = some j) (hp : pats[j]? = some p) : qaq pats order (i + 1) = qaq pats order i ++ fresh (qaq pats order i) p := by
  obtain ⟨hi, rfl⟩ := List.getElem?_eq_some_iff.1 hj
  obtain ⟨hk, rfl⟩ := List.getElem?_eq_some_iff.1 hp
  rw [knownAt_succ pats order hi hk, learnZ_eq]
theorem known_all (pats : List Ptn) (order : List Nat) : ∀ i, i ≤ order.length → (∀ j ∈ order, j < pats.length) → (qaq pats order i).Nodup ∧ ∀ t, t ∈ qaq pats order i ↔ ∃ p ∈ qbk pats order i, occ t p
  | 0, _, _ => ⟨by simp [qaq], fun t => by simp [qaq, qbk]⟩
  | i + 1, hi, hor => by
    obtain ⟨h1, h2⟩ := known_all pats order i (by omega) hor
    have hj : order[i]? = some order[i] := List.getElem?_eq_getElem _
    have hp : pats[order[i]]? = some (pats[order[i]]'(hor _ (List.getElem_mem _))) := List.getElem?_eq_getElem _
    rw [known_step hj hp, aheadL_succ hj hp]
    refine ⟨List.nodup_append.2 ⟨h1, (vars_nodup _).filter _, fun a ha b hb e => ?_⟩, fun t => ?_⟩
    · subst e
      have := (List.mem_filter.1 hb).2
      simp at this
      exact this ha
    · rw [List.mem_append, h2]
      unfold fresh
      rw [List.mem_filter, mem_vars1]
      by_cases q : t ∈ qaq pats order i
      · have := (h2 t).1 q
        simp [q]
        exact fun _ => this
      · simp only [q, not_false_eq_true, decide_true, and_true]
        simp [or_and_right, exists_or]
theorem shared_congr {l m : List Str} (h : ∀ t, t ∈ l ↔ t ∈ m) (p : Ptn) : qa1 l p = qa1 m p := List.filter_congr fun t _ => by simp [h t]
theorem vars_ahead (pats : List Ptn) (order : List Nat) {i : Nat} (hi : i ≤ order.length) (hor : ∀ j ∈ order, j < pats.length) (p : Ptn) : qa1 (qbu (qbk pats order i)) p = qa1 (qaq pats order i) p :=
  shared_congr (fun t => by rw [mem_vars, (known_all pats order i hi hor).2]) p
theorem aheadL_perm {pats : List Ptn} {order : List Nat} (h : order.Perm (List.range pats.length)) : (qbk pats order order.length).Perm pats := by
  unfold qbk
  rw [List.take_length]
  refine (h.filterMap _).trans ?_
  have key : ∀ l : List Ptn, (List.range l.length).filterMap (fun j => l[j]?) = l := by
    intro l
    induction l with
    | nil => rfl
    | cons p l ih =>
      rw [List.length_cons, List.range_succ_eq_map, List.filterMap_cons, List.filterMap_map]
      simp only [List.getElem?_cons_zero]
      congr 1
  have this := key pats
  rw [this]
theorem known_length {pats : List Ptn} {order : List Nat} (h : order.Perm (List.range pats.length)) : (qaq pats order order.length).length = (qbu pats).length := by
  obtain ⟨h1, h2⟩ := known_all pats order order.length (Nat.le_refl _) (fun j hj => List.mem_range.1 (h.mem_iff.1 hj))
  refine ((List.perm_ext_iff_of_nodup h1 (vars_nodup pats)).2 fun t => ?_).length_eq
  rw [h2, mem_vars]
  constructor
  · rintro ⟨p, hp, ho⟩; exact ⟨p, (aheadL_perm h).mem_iff.1 hp, ho⟩
  · rintro ⟨p, hp, ho⟩; exact ⟨p, (aheadL_perm h).mem_iff.2 hp, ho⟩

theorem pickZ_near {x : Sts} {pats : List Ptn} {known : List Str} {left : List Nat} (h : left ≠ []) : ∃ i ∈ nearZ known pats left, pickZ x pats known left = (i : Int) := by
  unfold pickZ
  have h2 := nearZ_ne (known := known) (pats := pats) h
  generalize nearZ known pats left = nl at *
  cases nl with
  | nil => exact absurd rfl h2
  | cons a l =>
    dsimp only
    rcases minZ_mem (cmpZ x pats known) (zs l) (a : Int) with e | e
    · exact ⟨a, List.mem_cons_self, e⟩
    · obtain ⟨i, hi, e'⟩ := List.mem_map.1 e
      exact ⟨i, List.mem_cons_of_mem _ hi, e'.symm⟩
theorem ofLoop_near (x : Sts) (pats : List Ptn) : ∀ (n : Nat) (known : List Str) (left : List Nat), left.length = n → left.Nodup → (∀ i ∈ left, i < pats.length) →
    ∀ k j, (qcm x pats n known left).1[k]? = some j → ∃ L, L.Perm ((qcm x pats n known left).1.drop k) ∧ j ∈ nearZ (((qcm x pats n known left).1.take k).foldl (fun k j => match pats[j]? with | some p => learnZ k p | none => k) known) pats L
  | 0, known, left, h, _, _ => fun k j h1 => by
    have : left = [] := List.length_eq_zero_iff.1 h
    subst this
    simp [qcm] at h1
  | n + 1, known, left, h, hn, hp => by
    have hne : left ≠ [] := by rintro rfl; cases h
    obtain ⟨i, hi', hpk⟩ := pickZ_near (x := x) (pats := pats) (known := known) hne
    have hi := nearZ_mem hi'
    have hip := hp i hi
    have hst := ofLoop_step x pats hi hip hpk hp
    rw [h] at hst
    have hpm := filter_nodup hn hi
    have hfl : (left.filter (· ≠ i)).length = n := by have := hpm.length_eq; simp at this ⊢; omega
    rw [hfl] at hst
    have hall := (ofLoop_ok x pats n (learnZ known pats[i]) (left.filter (· ≠ i)) hfl (hn.filter _) (fun j hj => hp j (List.mem_filter.1 hj).1)).1
    have ih := ofLoop_near x pats n (learnZ known pats[i]) (left.filter (· ≠ i)) hfl (hn.filter _) (fun j hj => hp j (List.mem_filter.1 hj).1)
    rw [hst]
    intro k j h1
    cases k with
    | zero =>
      simp only [List.getElem?_cons_zero, Option.some.injEq] at h1
      subst h1
      exact ⟨left, hpm.symm.trans (hall.cons i).symm, hi'⟩
    | succ k =>
      simp only [List.getElem?_cons_succ] at h1
      obtain ⟨L, b1, b2⟩ := ih k j h1
      refine ⟨L, b1, ?_⟩
      simp only [List.take_succ_cons, List.foldl_cons, List.getElem?_eq_getElem hip]
      exact b2
/-- a pattern that shares something is never left for one that shares nothing -/
theorem planZ_near (x : Sts) (pats : List Ptn) : ∀ k j p, 1 ≤ k → (qb4 x pats).1[k]? = some j → pats[j]? = some p →
    0 < (qa1 (qbu (qbk pats (qb4 x pats).1 k)) p).length ∨ (qbu [p]).length = 0 ∨ ∀ i j' p', k < i → (qb4 x pats).1[i]? = some j' → pats[j']? = some p' → ¬ 0 < (qa1 (qbu (qbk pats (qb4 x pats).1 k)) p').length := by
  intro k j p hk hj hp
  obtain ⟨L, h1, h2⟩ := ofLoop_near x pats pats.length [] (List.range pats.length) (by simp) List.nodup_range (fun i hi => List.mem_range.1 hi) k j hj
  obtain ⟨hperm, _, _⟩ := planZ_ok x pats
  change L.Perm ((qb4 x pats).1.drop k) at h1
  change j ∈ nearZ (qaq pats (qb4 x pats).1 k) pats L at h2
  generalize (qb4 x pats).1 = o at *
  have hor : ∀ j ∈ o, j < pats.length := fun j hj => List.mem_range.1 (hperm.mem_iff.1 hj)
  have hol : o.length = pats.length := by have := hperm.length_eq; simpa using this
  have hko : k < o.length := (List.getElem?_eq_some_iff.1 hj).1
  have hsv := vars_ahead pats o (Nat.le_of_lt hko) hor
  have hLl : L.length = o.length - k := by rw [h1.length_eq, List.length_drop]
  have hfar : ∀ (j : Nat) p, pats[j]? = some p → farI (qaq pats o k) pats (j : Int) = (((qa1 (qaq pats o k) p).length == 0) && decide (0 < (fresh (qaq pats o k) p).length)) := fun j p h => by
    unfold farI farZ
    simp [h]
  unfold nearZ at h2
  dsimp only at h2
  split at h2
  · rename_i c
    have c : (L.filter fun i : Nat => !(farI (qaq pats o k) pats (i : Int))).length = 0 := c.resolve_right (by omega)
    refine .inr (.inr fun i j' p' hi hj' hp' => ?_)
    have hm : j' ∈ L := h1.mem_iff.2 (by
      obtain ⟨hio, rfl⟩ := List.getElem?_eq_some_iff.1 hj'
      exact List.mem_drop_iff_getElem.2 ⟨i - k, by omega, by congr 1; omega⟩)
    have := List.filter_eq_nil_iff.1 (List.length_eq_zero_iff.1 c) j' hm
    rw [hfar j' p' hp'] at this
    simp at this
    rw [hsv, this.1]
    simp
  · have := (List.mem_filter.1 h2).2
    rw [hfar j p hp] at this
    simp only [Bool.not_and, Bool.or_eq_true, Bool.not_eq_true', beq_eq_false_iff_ne, decide_eq_false_iff_not] at this
    rcases this with q | q
    · left; rw [hsv]; omega
    · by_cases q2 : (qa1 (qaq pats o k) p).length = 0
      · right; left
        have := shared_fresh (qaq pats o k) p
        omega
      · left; rw [hsv]; omega
end Go.Am
namespace Go.Am
open Go Go.Proofs AM RowKit
set_option maxRecDepth 10000
set_option synthInstance.maxHeartbeats 400000
set_option synthInstance.maxSize 4000
set_option linter.unusedVariables false
variable {pol : Pol} {sums : Sums}

/-- the machine with awake as it was run once -/
def awakeSum : List AV → AM AV
  | [] => pure (.bool true)
  | _ => AM.fail
def sums28 : Sums := fun f => match Nat.beq f 6 with
  | true => some awakeSum
  | false => sums27 f
theorem s28 : S27' pol27 sums28 where
  lit := fun _ _ => rfl
  has := rfl
  rest := fun f h => by
    have e : Nat.beq f 6 = false := by
      cases hq : Nat.beq f 6 with
      | false => rfl
      | true => exact absurd (List.mem_cons.2 (.inl (Nat.eq_of_beq_eq_true hq))) h
    have := s27.rest f h
    simp only [sums28, e]; exact this
  list := rfl
  sort := rfl
  grow := rfl
/-- the way in, from a heap that holds nothing -/
theorem entryL {P : Program} {pol : Pol} {sums : Sums} (hP : ProgOk P) (hs : SumsOk P sums) {n k : Nat} {f : FuncId} {args : List AV} {v : AV} {h' : Hp} {w : World} {xs : List Value}
    (e : (qat P pol sums (n + 1) (.func (.func f) [] []) args).run ⟨.leaf, k⟩ = some (v, h')) (r : VRs ⟨.leaf, k⟩ id w args xs) :
    Calls P f xs.toArray w fun en w' => ∃ x μ', en = .returned x ∧ VR h' μ' w' v x ∧ Below w.heap.size w w' := by
  have hleaf : ∀ id, (⟨.leaf, k⟩ : Hp).get id = none := fun id => Tm.get_leaf id
  simp only [qat, List.nil_append, List.append_nil] at e
  have hc := acall_sound (pol := pol) hP hs n
  obtain ⟨_, hk⟩ := afunc_calls hc (region_ok hP hc) hs n f e ⟨fun i o h => (by rw [hleaf] at h; cases h), fun i j o o' h => (by rw [hleaf] at h; cases h)⟩ r (fun id _ _ => hleaf id)
  refine callsIn_wide.1 (CallsIn.mono hk fun en w' hg => ?_)
  cases en with
  | returned x =>
    obtain ⟨μ', _, st, hv⟩ := hg
    exact ⟨x, μ', rfl, hv, st.os, st.tape, st.output, st.size, fun k hk => st.old k hk (fun ⟨id, o, ho, _⟩ => by rw [hleaf] at ho; cases ho)⟩
  | panicked _ => exact hg.elim
  | outgrown => exact hg.elim
/-- a run that ended in true, in the kernel -/
theorem true_calls {P : Program} {pol : Pol} {sums : Sums} (hP : ProgOk P) (hs : SumsOk P sums) {n k : Nat} {f : FuncId} (hr : isTrueR ((qat P pol sums (n + 1) (.func (.func f) [] []) []).run ⟨.leaf, k⟩) = true) (w : World) :
    Calls P f #[] w fun en w' => en = .returned (.bool true) ∧ Below w.heap.size w w' := by
  cases hq : (qat P pol sums (n + 1) (.func (.func f) [] []) []).run ⟨.leaf, k⟩ with
  | none => rw [hq] at hr; cases hr
  | some p =>
    obtain ⟨v, h'⟩ := p
    rw [hq] at hr
    have hv : v = .bool true := by
      cases v <;> first | cases hr | skip
      rename_i b
      cases b
      · cases hr
      · rfl
    subst hv
    refine (entryL hP hs hq (xs := []) VRs.nil).mono ?_
    rintro en w' ⟨x, μ', rfl, hv, hb⟩
    cases hv
    exact ⟨rfl, hb⟩
theorem awake_calls (w : World) : Calls Try.prog 6 #[] w fun en w' => en = .returned (.bool true) ∧ Below w.heap.size w w' := true_calls (n := 2999) (k := 1) progOk sums27_ok awake_run w
theorem sums28_ok : SumsOk Try.prog sums28 := fun f sm h => by
  unfold sums28 at h
  cases h1 : Nat.beq f 6 with
  | true =>
    rw [h1] at h; cases h
    obtain rfl := Nat.eq_of_beq_eq_true h1
    refine ⟨⟨_, _, Try.func6, rfl⟩, fun args h h' v μ w xs e s r _ => ?_⟩
    match args, e with
    | [], e =>
      obtain ⟨rfl, rfl⟩ := qab e
      have hx : xs = [] := by have := r.1; simpa using this.symm
      subst hx
      refine callsIn_wide.2 ((awake_calls w).mono ?_)
      rintro en w' ⟨rfl, hb⟩
      obtain ⟨a, b⟩ := SR.below s hb
      exact ⟨μ, a, b, .bool _⟩
    | _ :: _, e => cases e
  | false =>
    rw [h1] at h
    exact sums27_ok f sm h
end Go.Am
namespace Go.Am
open Go Go.Proofs AM
set_option maxRecDepth 10000
set_option synthInstance.maxHeartbeats 400000
set_option synthInstance.maxSize 4000
set_option linter.unusedVariables false
variable {pol : Pol} {sums : Sums}
instance : FL linC 7 := ⟨fun _ => rfl⟩
theorem ro_nd2 {α β : Type} {f : α → List AV} {g : β → List AV} {sz sz' : Nat} {v u : AV} {l : List α} {m : List β} (h : ∀ k ∈ qa4 v, k ∉ qa4 u) : (cids [.ro f sz v l, .ro g sz' u m]).Nodup := by
  simp only [cids, List.flatMap_cons, List.flatMap_nil, List.append_nil]
  exact List.nodup_append.2 ⟨vids_nodup v, vids_nodup u, fun a ha b hb e => h a ha (e ▸ hb)⟩
attribute [local irreducible] ACo AK AT qa3 ARs Fin Cal KLp KFun
theorem of_w (S : S27' pol sums) {n : Nat} {W : List Ck} {x : Sts} {lv pv : AV} {pats : List Ptn} [a : HasRows [] W lv linC 7 x.lines] [b : HasRows [] W pv qcd 15 pats] (hn : pats.length + x.lines.length + 40 ≤ n) (hb : pats.length < 2 ^ 30) (hbx : x.lines.length < 2 ^ 40) :
    Cal [] W (qat Try.prog pol sums n (.func (.func 8) [] []) [.agg (stsC x lv), pv]) (fun r N => ∃ ov qv, r = .agg [ov, qv] ∧ N = [.ro qbd 1 ov (zs (qb4 x pats).1), .ro qbd 1 qv (qb4 x pats).2]) :=
  Cal.of fun h w k => (of_plan_spec S.toS27 S.list hn hb hbx (a.has h k) (b.has h k)).mono fun r h' ⟨k1, ov, qv, e, so, sq, io, iq⟩ =>
    ⟨k1, _, ⟨ov, qv, e, rfl⟩, fun c hc => by
      rcases List.mem_cons.1 hc with rfl | hc
      · exact so.rows
      · rcases List.mem_singleton.1 hc with rfl; exact sq.rows, ro_nd2 fun k hk => (io k hk).2, fun i hi => by
      simp only [cids, List.flatMap_cons, List.flatMap_nil, List.append_nil, List.mem_append] at hi
      rcases hi with q | q
      · exact (io i q).1
      · exact iq i q⟩
theorem turned_w (S : S27' pol sums) {n : Nat} {W : List Ck} {ov qv pv : AV} {order : List Nat} {ops : List Int} {pats : List Ptn} (turn : Int) [a : HasRows [] W ov qbd 1 (zs order)] [b : HasRows [] W qv qbd 1 ops] [c : HasRows [] W pv qcd 15 pats] (hn : order.length + pats.length + 60 ≤ n) (hb2 : pats.length < 2 ^ 28) (hb3 : ops.length < 2 ^ 40)
    (hr : qbf pats (zs order) ops = true) (hol : order.length = pats.length) (hor : ∀ i ∈ order, i < pats.length) (hne : 0 < pats.length) :
    Cal [] W (qat Try.prog pol sums n (.func (.func 7) [] []) [.agg [ov, qv], .int .i64 turn, pv]) (fun r N => ∃ ov' qv', r = .agg [ov', qv'] ∧ N = [.ro qbd 1 ov' (zs (rot order (qct turn pats.length))), .ro qbd 1 qv' (qb1 pats turn (rot order (qct turn pats.length)) pats.length)]) :=
  Cal.of fun h w k => (turned_spec S turn hn hb2 hb3 (a.ints k) (b.ints k) (c.has h k) hr hol hor hne).mono fun r h' ⟨k1, ov', qid, e, so, _, _, io, iq, rq⟩ => by
    have hk := turnK_lt turn hne
    have hrot := rot_length order (qct turn pats.length) (by omega)
    have htl := qbi pats turn (rot order (qct turn pats.length)) pats.length
    have sq : Ints h' (.own qid 0 0 pats.length) (qb1 pats turn (rot order (qct turn pats.length)) pats.length) := by
      have := rq.slv
      rw [htl, hrot, hol] at this
      exact this
    refine ⟨k1, _, ⟨ov', _, e, rfl⟩, fun c hc => ?_, ro_nd2 fun k hk => by simp only [qa4, List.mem_singleton]; exact (io k hk).2, fun i hi => ?_⟩
    · rcases List.mem_cons.1 hc with rfl | hc
      · exact so.rows
      · rcases List.mem_singleton.1 hc with rfl; exact sq.rows
    · simp only [cids, List.flatMap_cons, List.flatMap_nil, List.append_nil, List.mem_append] at hi
      rcases hi with q | q
      · exact (io i q).1
      · have q : i ∈ qa4 (.own qid 0 0 pats.length) := q
        simp only [qa4, List.mem_singleton] at q; subst q; exact iq
/-- of no patterns -/
theorem turned0_w (S : S27' pol sums) {n : Nat} {W : List Ck} {ov qv pv : AV} (turn : Int) [a : HasRows [] W ov qbd 1 (zs [])] [b : HasRows [] W qv qbd 1 ([] : List Int)] [c : HasRows [] W pv qcd 15 ([] : List Ptn)] (hn : 60 ≤ n) :
    Cal [] W (qat Try.prog pol sums n (.func (.func 7) [] []) [.agg [ov, qv], .int .i64 turn, pv]) (fun r N => r = .agg [.sl .nil 0 [], .sl .nil 0 []] ∧ N = []) := by
  refine qbh (f := 7) (nt := 64) (rs := [.cell 6 30]) (by omega) (by first | assumption | exact S.rest _ (by decide)) Try.func7 rfl rfl rfl rfl fun m h0 T hm aT => ?_
  (repeat first|refine Wk.go ?_|refine qal ?_|intro _)
  refine qad (right_w S (order := zs []) (ops := []) (pats := []) (by simp; omega) (by simp) (by simp) (by simp) (by rfl)) ?_
  rintro _ _ ⟨rfl, rfl⟩
  have : Is ((0 : Int) != 0) false := ⟨rfl⟩
  have : Is (((([] : List Ptn).length : Nat) : Int) == 0) true := ⟨rfl⟩
  (repeat first|refine Wk.go ?_|refine qal ?_|intro _)
  exact fin ⟨rfl, rfl⟩
theorem awake_w {n : Nat} {W : List Ck} (hn : 1 ≤ n) : Cal [] W (qat Try.prog pol27 sums28 n (.func (.func 6) [] []) []) (fun r N => r = .bool true ∧ N = []) :=
  Cal_sum (by omega) (s := awakeSum) rfl (Cal.of0 fun h w k => Runs.pure ⟨Keep.refl h, rfl⟩)

theorem fine_perm (S : S27' pol sums) {n : Nat} {W : List Ck} {ov qv pv : AV} {order : List Nat} {ops : List Int} {pats : List Ptn} [HasRows [] W ov qbd 1 (zs order)] [HasRows [] W qv qbd 1 ops] [HasRows [] W pv qcd 15 pats]
    (hn : 8 * pats.length + 80 ≤ n) (hb : pats.length < 2 ^ 28) (hp : order.Perm (List.range pats.length)) (hop : ops.length = pats.length) (hr : qbf pats (zs order) ops = true) :
    Cal [] W (qat Try.prog pol sums n (.func (.func 15) [] []) [.agg [ov, qv], pv]) (fun r N => r = .bool true ∧ N = []) :=
  fine_w S hn hb (fun i hi => List.mem_range.1 (hp.mem_iff.1 hi)) (by have := hp.length_eq; simpa using this) hop hr (hp.nodup_iff.2 List.nodup_range) (fun j hj => hp.mem_iff.2 (List.mem_range.2 hj)) (fun i j p => known_step) (known_length hp)

theorem planMay_w {W : List Ck} {x : Sts} {lv pv : AV} {pats : List Ptn} (turn : Int) [HasRows [] W lv linC 7 x.lines] [HasRows [] W pv qcd 15 pats] :
    Cal [] W (qat Try.prog pol27 sums28 3001 (.func (.func 5) [] []) [.agg (stsC x lv), pv, .int .i64 turn]) (fun r N => r = .bool true ∧ N = []) := by
  have S := s28
  refine qbh (f := 5) (nt := 38) (rs := [.tmp 6]) (by omega) (by first | assumption | exact S.rest _ (by decide)) Try.func5 rfl rfl rfl rfl fun m h0 T hm aT => ?_
  (repeat first|refine Wk.go ?_|refine qal ?_|intro _)
  refine qad (awake_w (by omega)) ?_
  rintro _ _ ⟨rfl, rfl⟩
  (repeat first|refine Wk.go ?_|refine qal ?_|intro _)
  by_cases h1 : x.lines.length > 30
  · have : Is (decide ((x.lines.length : Int) > 30)) true := ⟨by simp; omega⟩
    (repeat first|refine Wk.go ?_|refine qal ?_|intro _)
    exact fin ⟨rfl, rfl⟩
  have : Is (decide ((x.lines.length : Int) > 30)) false := ⟨by simp; omega⟩
  by_cases h2 : pats.length > 30
  · have : Is (decide ((pats.length : Int) > 30)) true := ⟨by simp; omega⟩
    (repeat first|refine Wk.go ?_|refine qal ?_|intro _)
    exact fin ⟨rfl, rfl⟩
  have : Is (decide ((pats.length : Int) > 30)) false := ⟨by simp; omega⟩
  (repeat first|refine Wk.go ?_|refine qal ?_|intro _)
  refine qad (of_w S (x := x) (pats := pats) (by omega) (by omega) (by omega)) ?_
  rintro _ _ ⟨ov, qv, rfl, rfl⟩
  obtain ⟨hperm, hops, hright⟩ := planZ_ok x pats
  have hnear := planZ_near x pats
  generalize (qb4 x pats).1 = o at *
  generalize (qb4 x pats).2 = q at *
  have hol : o.length = pats.length := by have := hperm.length_eq; simpa using this
  have hor : ∀ i ∈ o, i < pats.length := fun i hi => List.mem_range.1 (hperm.mem_iff.1 hi)
  (repeat first|refine Wk.go ?_|refine qal ?_|intro _)
  refine qad (fine_perm S (order := o) (ops := q) (pats := pats) (by omega) (by omega) hperm hops hright) ?_
  rintro _ _ ⟨rfl, rfl⟩
  (repeat first|refine Wk.go ?_|refine qal ?_|intro _)
  refine qad (near_w S (order := o) (pats := pats) (by omega) (by omega) hor hnear) ?_
  rintro _ _ ⟨rfl, rfl⟩
  (repeat first|refine Wk.go ?_|refine qal ?_|intro _)
  by_cases hz : pats = []
  · subst hz
    have : o = [] := List.length_eq_zero_iff.1 hol
    subst this
    have : q = [] := List.length_eq_zero_iff.1 hops
    subst this
    refine qad (turned0_w S turn (by omega)) ?_
    rintro _ _ ⟨rfl, rfl⟩
    (repeat first|refine Wk.go ?_|refine qal ?_|intro _)
    have hnil : ∀ L W : List Ck, HasRows L W (.sl .nil 0 []) qbd 1 (zs []) := fun L W => ⟨fun h k => .imm _ 0 [] (by simp)⟩
    refine qad (fine_perm S (order := []) (ops := zs []) (pats := []) (by simp; omega) (by simp) (by simp) (by rfl) (by rfl)) ?_
    rintro _ _ ⟨rfl, rfl⟩
    (repeat first|refine Wk.go ?_|refine qal ?_|intro _)
    exact fin ⟨rfl, rfl⟩
  · have hne : 0 < pats.length := List.length_pos_iff.2 hz
    refine qad (turned_w S turn (order := o) (ops := q) (pats := pats) (by omega) (by omega) (by omega) hright hol hor hne) ?_
    rintro _ _ ⟨ov', qv', rfl, rfl⟩
    have hk := turnK_lt turn hne
    have hrot := rot_length o (qct turn pats.length) (by omega)
    have hp2 := (rot_perm o (qct turn pats.length)).trans hperm
    (repeat first|refine Wk.go ?_|refine qal ?_|intro _)
    refine qad (fine_perm S (order := rot o (qct turn pats.length)) (ops := qb1 pats turn (rot o (qct turn pats.length)) pats.length) (pats := pats) (by omega) (by omega) hp2 (by rw [qbi]; omega) (turn_ok pats turn hp2)) ?_
    rintro _ _ ⟨rfl, rfl⟩
    (repeat first|refine Wk.go ?_|refine qal ?_|intro _)
    exact fin ⟨rfl, rfl⟩
end Go.Am
namespace Go.Am
open Go AM
set_option linter.unusedVariables false
set_option synthInstance.maxHeartbeats 200000

/-- bounds of a part -/
class Bnd (lo hi n : Nat) : Prop where
  le : lo ≤ hi
  top : hi ≤ n
/-- a part of a slice -/
def subV (v : AV) (lo hi sz : Nat) : AV := match v with
  | .own id ver off _ => .own id ver (off + lo * sz) (hi - lo)
  | .sl k n cells => .sl (match k with | .nil => .nil | .full => cond (Nat.beq hi n) .full .any | .tight => cond (Nat.beq hi n) .tight .any | .any => .any) (hi - lo) ((cells.drop (lo * sz)).take ((hi - lo) * sz))
  | v => v
section
variable {h : Hp} {v : AV} {α : Type} {f : α → List AV} {sz : Nat} {l : List α} {lo hi : Nat}
theorem sub_rows (hf : ∀ x, (f x).length = sz) (r : Rows f sz h v l) (h1 : lo ≤ hi) (h2 : hi ≤ l.length) : Rows f sz h (subV v lo hi sz) ((l.drop lo).take (hi - lo)) := by
  have hlen := qbt hf l
  have hn : ((l.drop lo).take (hi - lo)).length = hi - lo := by rw [List.length_take, List.length_drop]; omega
  have e : qca f ((l.drop lo).take (hi - lo)) = ((qca f l).drop (lo * sz)).take ((hi - lo) * sz) := by rw [flat_drop hf, flat_take hf]
  have hm : (lo * sz + (hi - lo) * sz) ≤ l.length * sz := by rw [← Nat.add_mul]; exact Nat.mul_le_mul_right _ (by omega)
  show SlV h sz _ ((l.drop lo).take (hi - lo)).length _
  rw [hn, e]
  have r : SlV h sz v l.length (qca f l) := r
  generalize hN : l.length = N at *
  generalize hF : qca f l = F at *
  cases r with
  | imm k n _ e => exact .imm _ _ _ (by rw [List.length_take, List.length_drop]; omega)
  | own id ver off n row fix r0 e0 =>
    have := SlV.own (sz := sz) id ver (off + lo * sz) (hi - lo) row fix r0 (by omega)
    rw [List.drop_take, List.take_take, Nat.min_eq_left (by omega), List.drop_drop]
    exact this
end
instance (priority := 900) hasrows_sub {L W : List Ck} {v : AV} {α : Type} {f : α → List AV} {sz lo hi : Nat} {l : List α} [r : HasRows L W v f sz l] [fl : FL f sz] [b : Bnd lo hi l.length] : HasRows L W (subV v lo hi sz) f sz ((l.drop lo).take (hi - lo)) := ⟨fun h k => sub_rows fl.len (r.has h k) b.le b.top⟩
/-- the first part of what a chunk holds, told apart -/
instance hasrows_pre {L W : List Ck} {v : AV} {α : Type} {f : α → List AV} {sz : Nat} {l m : List α} [fl : FL f sz] [r : HasRows L W v f sz (l ++ m)] : HasRows L W (subV v 0 l.length sz) f sz l := ⟨fun h k => by
  have := sub_rows (lo := 0) (hi := l.length) fl.len (r.has h k) (Nat.zero_le _) (by simp)
  simpa using this⟩
theorem subV_avIds (v : AV) (lo hi sz : Nat) : qa4 (subV v lo hi sz) = qa4 v := by cases v <;> rfl

section
variable {h0 : Hp} {X : List Nat} {W L : List Ck} {P : Program} {pol : Pol} {call : qa6} {fn nt : Nat} {R : Rg} {rest : List (Nat × Oper)} {ds : List (Nat × Option Tmp)} {seen : Seen} {T : qag} {Q : qag → Hp → Prop} {i : Nat} {d : Option Tmp} {ty : TypeId} {pos : String} {after : Array Edge}
variable {α : Type} {f : α → List AV} {sz : Nat} {l : List α}
/-- a bound, if there is one -/
class Bd (T : qag) (x : Option Operand) (other : Nat) (j : outParam Nat) : Prop where eq : (x = none ∧ j = other) ∨ ∃ y k, x = some y ∧ qaj T y = .int k (j : Int)
instance {n : Nat} : Bd T none n n := ⟨.inl ⟨rfl, rfl⟩⟩
instance {y : Operand} {k : IntKind} {z : Int} {n j : Nat} [a : Ev T y (.int k z)] [b : NatOf z j] : Bd T (some y) n j := ⟨.inr ⟨y, k, rfl, by rw [a.eq, b.eq]⟩⟩
theorem Bd.pair {lo hi : Option Operand} {n l u : Nat} (a : Bd T lo 0 l) (b : Bd T hi n u) (h1 : l ≤ u) (h2 : u ≤ n) : qcb n n (lo.map (qaj T)) (hi.map (qaj T)) = Pure.pure (l, u) := by
  rcases a.eq with ⟨rfl, rfl⟩ | ⟨y, k, rfl, hy⟩ <;> rcases b.eq with ⟨rfl, rfl⟩ | ⟨z, k', rfl, hz⟩
  · rfl
  · exact bounds_hi (by rw [Option.map_some, hz]) h2
  · exact bounds_lo (by rw [Option.map_some, hy]) h1
  · exact bounds_both (by rw [Option.map_some, hy]) (by rw [Option.map_some, hz]) h1 h2
theorem aops_slice {t e : TypeId} {x : Operand} {lo hi : Option Operand} {v : AV} {j u : Nat} [ht : TSl P t e] [hs : TSz P e sz] [hx : Ev T x v] [hr : HasRows L W v f sz l] [fl : FL f sz] (hb : qcb l.length l.length (lo.map (qaj T)) (hi.map (qaj T)) = Pure.pure (j, u)) (h1 : j ≤ u) (h2 : u ≤ l.length)
    (g : qa3 ⟨h0, X, W⟩ L P pol call fn nt R rest ((i, d) :: ds) ((i, (qa4 v).map fun id => (false, id)) :: seen) (qa2? nt T d (subV v j u sz)) Q) : qa3 ⟨h0, X, W⟩ L P pol call fn nt R ((i, ⟨d, .slice t x lo hi none, ty, pos, after, none⟩) :: rest) ds seen T Q := fun h s e' => by
  have g := g h s e'.step
  have r : SlV h sz v l.length (qca f l) := hr.has h s.all
  have hlen := qbt fl.len l
  have hxe := hx.eq
  generalize hN : l.length = N at *
  generalize hF : qca f l = F at *
  have key : (aop P pol call fn ⟨d, .slice t x lo hi none, ty, pos, after, none⟩ (qaj T)).run h = some (subV v j u sz, h) := by
    simp only [aop, hxe, Option.map_none]
    cases r with
    | imm k n _ e =>
      simp only [aslice, elem_of ht.un]
      rw [qaa, hs.sz, qaa, show Nat.beq (N * sz) F.length = true by simpa using e, qar, qaa, hb, qaa]
      rfl
    | own id ver off n row fix r0 e0 =>
      obtain ⟨st, ho⟩ := r0
      simp only [aslice, elem_of ht.un]
      rw [qaa, hs.sz, qaa, run_bind, qcz ho]
      dsimp only
      rw [show (Nat.beq sz sz && Nat.ble (off + N * sz) row.length) = true by simpa using e0, qar, qaa, abounds_more hb room_le, qaa]
      rfl
  obtain ⟨n1, n2⟩ := bound_noids hb
  refine O_read _ rfl rfl ((slice_ids hxe n1 n2).trans (by rw [r.ids.1])) (fun y hy => ?_) key g
  obtain ⟨z, hz, rfl⟩ := List.mem_map.1 hy
  exact r.ids.2 z hz
instance wk_slice {t e : TypeId} {x : Operand} {lo hi : Option Operand} {v : AV} {j u : Nat} [ht : TSl P t e] [hs : TSz P e sz] [hx : Ev T x v] [hr : HasRows L W v f sz l] [fl : FL f sz] [b1 : Bd T lo 0 j] [b2 : Bd T hi l.length u] :
    Wk (qa3 ⟨h0, X, W⟩ L P pol call fn nt R ((i, ⟨d, .slice t x lo hi none, ty, pos, after, none⟩) :: rest) ds seen T Q) (j ≤ u ∧ u ≤ l.length ∧ (Bnd j u l.length → qa3 ⟨h0, X, W⟩ L P pol call fn nt R rest ((i, d) :: ds) ((i, (qa4 v).map fun id => (false, id)) :: seen) (qa2? nt T d (subV v j u sz)) Q)) :=
  ⟨fun ⟨h1, h2, g⟩ => aops_slice (hx := hx) (Bd.pair b1 b2 h1 h2) h1 h2 (g ⟨h1, h2⟩)⟩
/-- of a text -/
instance wk_sliceS {t : TypeId} {x : Operand} {lo hi : Option Operand} {s : List UInt8} {j u : Nat} [ht : TStr P t] [hx : Ev T x (.str s)] [b1 : Bd T lo 0 j] [b2 : Bd T hi s.length u] :
    Wk (qa3 ⟨h0, X, W⟩ L P pol call fn nt R ((i, ⟨d, .slice t x lo hi none, ty, pos, after, none⟩) :: rest) ds seen T Q) (j ≤ u ∧ u ≤ s.length ∧ qa3 ⟨h0, X, W⟩ L P pol call fn nt R rest ((i, d) :: ds) ((i, []) :: seen) (qa2? nt T d (.str ((s.drop j).take (u - j)))) Q) :=
  ⟨fun ⟨h1, h2, g⟩ h st e => by
    have hb := Bd.pair b1 b2 h1 h2
    obtain ⟨n1, n2⟩ := bound_noids hb
    refine O_val rfl rfl (slice_ids hx.eq n1 n2) ?_ (g h st e.step)
    simp only [aop, hx.eq, Option.map_none, aslice]
    rw [hb, qaa]
    simp only [ht.un]⟩
/-- past a slice's end, as far as its chunk's cells go -/
theorem aops_reslice {t e : TypeId} {x hi : Operand} {V : AV} {n u : Nat} {k : IntKind} [ht : TSl P t e] [hs : TSz P e sz] (hx : Ev T x (subV V 0 n sz)) [hr : HasRows L W V f sz l] [fl : FL f sz] (hv : qa4 V ≠ []) (hg : qcr V = true) (hy : qaj T hi = .int k (u : Int)) (h0' : 0 < sz) (h1 : n ≤ l.length) (h2 : u ≤ l.length)
    (g : qa3 ⟨h0, X, W⟩ L P pol call fn nt R rest ((i, d) :: ds) ((i, (qa4 V).map fun id => (false, id)) :: seen) (qa2? nt T d (subV V 0 u sz)) Q) : qa3 ⟨h0, X, W⟩ L P pol call fn nt R ((i, ⟨d, .slice t x none (some hi) none, ty, pos, after, none⟩) :: rest) ds seen T Q := fun h s e' => by
  have g := g h s e'.step
  have r : SlV h sz V l.length (qca f l) := hr.has h s.all
  have hxe := hx.eq
  generalize hN : l.length = N at *
  generalize hF : qca f l = F at *
  cases r with
  | imm => exact absurd rfl hv
  | own id ver off N row fix r0 e0 =>
    have hoff : off = 0 := by simpa [qcr] using hg
    subst hoff
    obtain ⟨st, ho⟩ := r0
    have hxe : qaj T x = .own id ver 0 n := by rw [hxe]; simp [subV]
    have hroom : u ≤ roomIn n 0 sz row.length := by
      unfold roomIn
      have : N ≤ row.length / sz := (Nat.le_div_iff_mul_le h0').2 (by omega)
      simp
      omega
    have key : (aop P pol call fn ⟨d, .slice t x none (some hi) none, ty, pos, after, none⟩ (qaj T)).run h = some (subV (.own id ver 0 N) 0 u sz, h) := by
      have hns : n * sz ≤ N * sz := Nat.mul_le_mul_right _ h1
      simp only [aop, hxe, Option.map_none, Option.map_some, hy, aslice, elem_of ht.un]
      rw [qaa, hs.sz, qaa, run_bind, qcz ho]
      dsimp only
      rw [show (Nat.beq sz sz && Nat.ble (0 + n * sz) row.length) = true by simp; omega, qar, qaa]
      have hb : qcb n (roomIn n 0 sz row.length) none (some (.int k (u : Int))) = Pure.pure (0, u) := by
        simp only [qcb, abound]
        rw [show decide (0 ≤ (u : Int) ∧ (u : Int) ≤ (roomIn n 0 sz row.length : Nat)) = true by simp; omega, qar, qaa, qaa]
        rfl
      rw [hb, qaa]
      rfl
    refine O_read _ rfl rfl (slice_ids hxe (fun y hy => by cases hy) (fun y hy' => by cases hy'; rw [hy]; rfl)) (fun y hy => ?_) key g
    simp [qb2] at hy
    subst hy
    simp [ho]
class Pos (n : Nat) : Prop where pos : 0 < n
instance {n : Nat} [a : Same (Nat.ble 1 n) true] : Pos n := ⟨Nat.le_of_ble_eq_true a.eq⟩
/-- a chunk that may be written, wherever it is -/
class HasArrW (L W : List Ck) (v : AV) {α : outParam Type} (f : outParam (α → List AV)) (sz : outParam Nat) (l : outParam (List α)) : Prop where mem : Ck.arr f sz v l ∈ L ++ W
instance hasarrw_0 {L W : List Ck} {v : AV} : HasArrW (.arr f sz v l :: L) W v f sz l := ⟨List.mem_cons_self⟩
instance (priority := 900) hasarrw_s {L W : List Ck} {v : AV} {c : Ck} [a : HasArrW L W v f sz l] : HasArrW (c :: L) W v f sz l := ⟨List.mem_cons_of_mem _ a.mem⟩
instance (priority := 900) hasarrw_w {W : List Ck} {v : AV} {c : Ck} [a : HasArrW (c :: W) [] v f sz l] : HasArrW [] (c :: W) v f sz l := ⟨by have := a.mem; simpa using this⟩
instance (priority := 900) hasarrw_a {R W : List Ck} {v : AV} [a : HasArrW R W v f sz l] : HasArrW [] (R ++ W) v f sz l := ⟨by have := a.mem; simpa using this⟩
instance (priority := 50) hasarrw_any {L W : List Ck} {v : AV} [a : HasArrW [] W v f sz l] : HasArrW L W v f sz l := ⟨by have := a.mem; simp at this ⊢; exact .inr this⟩
theorem HasArrW.rows {L W : List Ck} {v : AV} (a : HasArrW L W v f sz l) : HasRows L W v f sz l := ⟨fun h k => (k _ a.mem).1⟩
instance (priority := 1100) wk_reslice {t e : TypeId} {x y : Operand} {V : AV} {n u : Nat} {k : IntKind} {z : Int} [ht : TSl P t e] [hs : TSz P e sz] [hx : Ev T x (subV V 0 n sz)] [hr : HasArrW L W V f sz l] [fl : FL f sz] [hy : Ev T y (.int k z)] [hz : NatOf z u] [hp : Pos sz] :
    Wk (qa3 ⟨h0, X, W⟩ L P pol call fn nt R ((i, ⟨d, .slice t x none (some y) none, ty, pos, after, none⟩) :: rest) ds seen T Q) (n ≤ l.length ∧ u ≤ l.length ∧ (Bnd 0 u l.length → qa3 ⟨h0, X, W⟩ L P pol call fn nt R rest ((i, d) :: ds) ((i, (qa4 V).map fun id => (false, id)) :: seen) (qa2? nt T d (subV V 0 u sz)) Q)) :=
  ⟨fun ⟨h1, h2, g⟩ h s e => by
    have hc := s.all _ hr.mem
    have hr' := hr.rows
    exact aops_reslice hx hc.2.2 hc.2.1 (by rw [hy.eq, hz.eq]) hp.pos h1 h2 (g ⟨Nat.zero_le _, h2⟩) h s e⟩
/-- made with room -/
instance (priority := 900) wk_makeRoom {x0 : α} {t e : TypeId} {l c : Operand} {n m sz bytes : Nat} {z : AV} {cs : List AV} {zl zc : Int} [ht : TSl P t e] [hs : TSz P e sz] [hb' : qae P e bytes] [hz' : qam P e z] [hl : Ev T l (.int .i64 zl)] [hn : NatOf zl n] [hc : Ev T c (.int .i64 zc)] [hm : NatOf zc m] [ac : Ac L W z cs] [en : Enc cs f x0] [fl : FL f sz] :
    Wk (qa3 ⟨h0, X, W⟩ L P pol call fn nt R ((i, ⟨d, .makeSlice t l c, ty, pos, after, none⟩) :: rest) ds seen T Q)
      ((!(Nat.beq sz 0) && Nat.beq (acells z).length sz) = true ∧ n ≤ m ∧ m < 140737488355328 ∧ m * bytes ≤ 140737488355328 ∧ ∀ id, qa3 ⟨h0, X, W⟩ (.arr f sz (.own id 0 0 n) (List.replicate n x0) :: L) P pol call fn nt R rest ((i, d) :: ds) seen (qa2? nt T d (.own id 0 0 n)) Q) :=
  ⟨fun g h s e' => O_wf fun w => by
    obtain ⟨h1, hnm, h2, h3, g⟩ := g
    have hcs := (ac.ac h s.all).1
    refine O_makeSliceC (by rw [hl.eq, hn.eq]) (by rw [hc.eq, hm.eq]) h1 hnm h2 h3 fun h1 id k r l1 l2 => g id h1 ?_ e'.step
    rw [hcs, repeat_flat en.eq] at r
    have hlen : (qca f (List.replicate m x0)).length = m * sz := by rw [qbt fl.len, List.length_replicate]
    have hsl : Rows f sz h1 (.own id 0 0 n) (List.replicate n x0) := by
      have := SlV.own (sz := sz) id 0 0 n _ true r (by rw [hlen, Nat.zero_add]; exact Nat.mul_le_mul_right _ hnm)
      rw [List.drop_zero, flat_take fl.len, List.take_replicate, Nat.min_eq_left hnm] at this
      show SlV h1 sz _ (List.replicate n x0).length _
      rw [List.length_replicate]; exact this
    have := s.new w k (N := [.arr f sz (.own id 0 0 n) (List.replicate n x0)]) (fun c hc => by rcases List.mem_singleton.1 hc with rfl; exact ⟨hsl, rfl, by simp [qa4]⟩) (by simp [cids, Ck.arr, qa4]) (by simp [cids, Ck.arr, qa4]; exact l1)
    exact this⟩
end
end Go.Am
namespace Go.Am
open Go Go.Proofs AM
set_option maxRecDepth 10000
set_option synthInstance.maxHeartbeats 400000
set_option synthInstance.maxSize 4000
set_option linter.unusedVariables false
variable {pol : Pol} {sums : Sums}
attribute [local irreducible] ACo AK AT qa3 ARs Fin Cal KLp KFun
def markZ (k i : Int) : Int := 1000003 * (k + 7) + i
theorem mark_w (hs : sums 59 = none) {n : Nat} {W : List Ck} {k i : Int} (hn : 1 ≤ n) (hk : 0 ≤ k ∧ k < 1000) (hi : 0 ≤ i ∧ i < 1000000000000) :
    Cal [] W (qat Try.prog pol sums n (.func (.func 59) [] []) [.int .i64 k, .int .i64 i]) (fun r N => r = .int .i64 (markZ k i) ∧ N = []) := by
  refine qbh (f := 59) (nt := 10) (rs := [.tmp 4]) (by omega) (by first | assumption | exact S.rest _ (by decide)) Try.func59 rfl rfl rfl rfl fun m h0 T hm aT => ?_
  (repeat first|refine Wk.go ?_|refine qal ?_|intro _)
  exact fin ⟨rfl, rfl⟩
def qcw (l : List Int) (i : Nat) : List Int := l ++ (List.range i).map fun j => markZ 1 (j : Nat)
theorem marksI_succ (l : List Int) (i : Nat) : qcw l (i + 1) = qcw l i ++ [markZ 1 (i : Nat)] := by
  simp [qcw, List.range_succ]
theorem marksI_length (l : List Int) (i : Nat) : (qcw l i).length = l.length + i := by simp [qcw]
theorem lentInts_w (S : S27' pol sums) {n : Nat} {W : List Ck} {v : AV} {l : List Int} [a : HasRows [] W v qbd 1 l] (hn : 40 ≤ n) (hb : l.length < 2 ^ 40) :
    Cal [] W (qat Try.prog pol sums n (.func (.func 31) [] []) [v]) (fun r N => ∃ V, r = subV V 0 l.length 1 ∧ N = [.arr qbd 1 V (qcw l 12)]) := by
  refine qbh (f := 31) (nt := 25) (rs := [.tmp 2]) (by omega) (by first | assumption | exact S.rest _ (by decide)) Try.func31 rfl rfl rfl rfl fun m h0 T hm aT => ?_
  (repeat first|refine Wk.go ?_|refine qal ?_|intro _)
  have e0 : List.replicate 0 (0 : Int) ++ l = qcw l 0 := by simp [qcw]
  rw [e0]
  rename_i v1
  refine A_loop (fun d L T => ∃ i v c xs, d = 12 - i ∧ i ≤ 12 ∧ Lk T 4 (.int .i64 (i : Nat)) ∧ Lk T 3 v ∧ L = [c] ∧ xs = qcw l i ∧ ((i = 0 ∧ c = .rows qbd 1 v xs) ∨ c = .arr qbd 1 v xs))
    [0, 2] 12 (by omega) ⟨0, v1, _, _, rfl, by omega, lkz (by rfl), inferInstance, rfl, rfl, .inl ⟨rfl, rfl⟩⟩ (by rfl) ?_
  rintro d L T1 ⟨i, v, c, xs, rfl, hi, h4, h3, rfl, hx, hc⟩ hA
  have hxl : xs.length = l.length + i := by rw [hx, marksI_length]
  by_cases ci : i < 12
  · have : Is (decide ((i : Int) < 12)) true := ⟨by simp; omega⟩
    rcases hc with ⟨hi0, rfl⟩ | rfl
    all_goals
      (repeat first|refine Wk.go ?_|refine qal ?_|intro _)
      refine qad (mark_w (S.rest _ (by decide)) (by omega) (by omega) (by omega)) ?_
      rintro _ _ ⟨rfl, rfl⟩
      (repeat first|refine Wk.go ?_|refine qal ?_|intro _)
      rename_i v2
      refine lend (12 - (i + 1)) _ (by omega) ⟨i + 1, v2, _, xs ++ [markZ 1 (i : Nat)], rfl, ci, inferInstance, inferInstance, rfl, by rw [marksI_succ, hx], .inr rfl⟩
  · have : Is (decide ((i : Int) < 12)) false := ⟨by simp; omega⟩
    have hi12 : i = 12 := by omega
    subst hi12
    rcases hc with ⟨hi0, rfl⟩ | rfl
    · omega
    · rw [hx]
      have hml := marksI_length l 12
      (repeat first|refine Wk.go ?_|refine qal ?_|intro _)
      exact fin ⟨v, rfl, rfl⟩
theorem keptInts_w (S : S27' pol sums) {n : Nat} {W : List Ck} {V lv : AV} {l : List Int} [a : HasArrW [] W V qbd 1 (qcw l 12)] [b : HasRows [] W lv qbd 1 l] (hn : l.length + 40 ≤ n) (hb : l.length < 2 ^ 39) :
    Cal [] W (qat Try.prog pol sums n (.func (.func 43) [] []) [subV V 0 l.length 1, lv]) (fun r N => r = .bool true ∧ N = []) := by
  have a1 : HasRows [] W V qbd 1 (l ++ (List.range 12).map fun j => markZ 1 (j : Nat)) := a.rows
  have a2 : HasRows [] W (subV V 0 l.length 1) qbd 1 l := hasrows_pre (r := a1)
  have a3 : HasRows [] W V qbd 1 (qcw l 12) := a.rows
  have hml := marksI_length l 12
  have bn : Bnd 0 (l.length + 12) (qcw l 12).length := ⟨by omega, by omega⟩
  have a4 : HasRows [] W (subV V 0 (l.length + 12) 1) qbd 1 (qcw l 12) := by
    have := hasrows_sub (r := a3) (b := bn)
    rw [List.drop_zero, List.take_of_length_le (by omega)] at this
    exact this
  refine qbh (f := 43) (nt := 58) (rs := [.tmp 4]) (by omega) (by first | assumption | exact S.rest _ (by decide)) Try.func43 rfl rfl rfl rfl fun m h0 T hm aT => ?_
  have : Is ((l.length : Int) != (l.length : Int)) false := ⟨by simp⟩
  (repeat first|refine Wk.go ?_|refine qal ?_|intro _)
  refine A_loopR (fun d T => ∃ i, d = l.length + 12 - i ∧ i ≤ l.length + 12 ∧ Lk T 6 (.int .i64 (i : Nat))) [1, 5] (l.length + 12) (by omega) ⟨0, by omega, by omega, lkz (by rfl)⟩ (by rfl) ?_
  rintro d T1 ⟨i, rfl, hi, h6⟩ hA
  by_cases c : i < l.length + 12
  · have : Is (decide ((i : Int) < ((qcw l 12).length : Int))) true := ⟨by simp; omega⟩
    have e1 : ElAt (qcw l 12) i ((qcw l 12)[i]'(by omega)) := ⟨List.getElem?_eq_getElem _⟩
    by_cases q : i < l.length
    · have e2 : ElAt l i l[i] := ⟨List.getElem?_eq_getElem q⟩
      have e3 : (qcw l 12)[i]'(by omega) = l[i] := by simp [qcw, List.getElem_append, q]
      rw [e3] at e1
      have : Is (decide ((i : Int) < (l.length : Int))) true := ⟨by simpa using q⟩
      have : Is (decide ((i : Int) ≥ (l.length : Int))) false := ⟨by simp; omega⟩
      have : Is (l[i] == l[i]) true := ⟨by simp⟩
      (repeat first|refine Wk.go ?_|refine qal ?_|intro _)
      refine qbo [0, 1, 2, 3, 4, 5, 6, 7, 8, 9, 10, 11, 12, 13, 14, 15, 16, 17, 18, 19, 20, 21, 22, 23, 24, 25, 26, 27, 28, 29, 30, 31, 32, 33, 34] [0, 0, 2, 7, 15, 31, 31, 127, 255, 31, 31, 1567, 3615, 8191, 16383, 32767, 65535, 131071, 131071, 393215, 1048575, 2097151, 4194303, 4194303, 16777215, 33554431, 4194303, 4194303, 138412031, 473956351, 1010827263, 2147483647, 4294967295, 8589934591, 17179869183] (by kernel_rfl) (by kernel_rfl) (by rfl) ?_
      (repeat first|refine Wk.go ?_|refine qal ?_|intro _)
      exact lend (l.length + 12 - (i + 1)) _ (by omega) ⟨rfl, i + 1, rfl, c, inferInstance⟩
    · have e3 : (qcw l 12)[i]'(by omega) = markZ 1 ((i : Int) - (l.length : Int)) := by
        simp only [qcw, List.getElem_append, q, dite_false, List.getElem_map, List.getElem_range]
        congr 1
        omega
      rw [e3] at e1
      have : Is (decide ((i : Int) < (l.length : Int))) false := ⟨by simp; omega⟩
      have : Is (decide ((i : Int) ≥ (l.length : Int))) true := ⟨by simp; omega⟩
      have : Is (markZ 1 ((i : Int) - (l.length : Int)) == markZ 1 ((i : Int) - (l.length : Int))) true := ⟨by simp⟩
      (repeat first|refine Wk.go ?_|refine qal ?_|intro _)
      refine qbo [0, 1, 2, 3, 4, 5, 6, 7, 8, 9, 10, 11, 12, 13, 14, 15, 16, 17, 18, 19, 20, 21, 22, 23, 24, 25, 26, 27, 28, 29, 30, 31, 32, 33, 34] [0, 0, 2, 7, 15, 31, 31, 127, 255, 31, 31, 1567, 3615, 8191, 16383, 32767, 65535, 131071, 131071, 393215, 1048575, 2097151, 4194303, 4194303, 16777215, 33554431, 4194303, 4194303, 138412031, 473956351, 1010827263, 2147483647, 4294967295, 8589934591, 17179869183] (by kernel_rfl) (by kernel_rfl) (by rfl) ?_
      (repeat first|refine Wk.go ?_|refine qal ?_|intro _)
      refine qad (mark_w (S.rest _ (by decide)) (by omega) (by omega) (by omega)) ?_
      rintro _ _ ⟨rfl, rfl⟩
      (repeat first|refine Wk.go ?_|refine qal ?_|intro _)
      exact lend (l.length + 12 - (i + 1)) _ (by omega) ⟨rfl, i + 1, rfl, c, inferInstance⟩
  · have : Is (decide ((i : Int) < ((qcw l 12).length : Int))) false := ⟨by simp; omega⟩
    (repeat first|refine Wk.go ?_|refine qal ?_|intro _)
    exact fin ⟨rfl, rfl⟩
end Go.Am
namespace Go.Am
open Go Go.Proofs AM
set_option maxRecDepth 10000
set_option synthInstance.maxHeartbeats 400000
set_option synthInstance.maxSize 4000
set_option linter.unusedVariables false
variable {pol : Pol} {sums : Sums}
attribute [local irreducible] ACo AK AT qa3 ARs Fin Cal KLp KFun
def noSlt : Slt := ⟨[], noTrm⟩
def noPtn : Ptn := ⟨noSlt, noSlt, noSlt⟩
def markPt (k i : Int) : Ptn := ⟨⟨[], ⟨markZ k i, [], [], []⟩⟩, noSlt, noSlt⟩
instance enc_noPtn : Enc [.str [], .int .i64 0, .str [], .str [], .str [], .str [], .int .i64 0, .str [], .str [], .str [], .str [], .int .i64 0, .str [], .str [], .str []] qcd noPtn := ⟨rfl⟩
instance enc_markPt {k i : Int} : Enc [.str [], .int .i64 (markZ k i), .str [], .str [], .str [], .str [], .int .i64 0, .str [], .str [], .str [], .str [], .int .i64 0, .str [], .str [], .str []] qcd (markPt k i) := ⟨rfl⟩
theorem markPt_w (S : S27' pol sums) {n : Nat} {W : List Ck} {k i : Int} (hn : 2 ≤ n) (hk : 0 ≤ k ∧ k < 1000) (hi : 0 ≤ i ∧ i < 1000000000000) :
    Cal [] W (qat Try.prog pol sums n (.func (.func 58) [] []) [.int .i64 k, .int .i64 i]) (fun r N => r = .agg [.str [], .int .i64 (markZ k i), .str [], .str [], .str [], .str [], .int .i64 0, .str [], .str [], .str [], .str [], .int .i64 0, .str [], .str [], .str []] ∧ N = []) := by
  refine qbh (f := 58) (nt := 11) (rs := [.cell 4 48]) (by omega) (by first | assumption | exact S.rest _ (by decide)) Try.func58 rfl rfl rfl rfl fun m h0 T hm aT => ?_
  (repeat first|refine Wk.go ?_|refine qal ?_|intro _)
  refine qad (mark_w (S.rest _ (by decide)) (by omega) hk hi) ?_
  rintro _ _ ⟨rfl, rfl⟩
  (repeat first|refine Wk.go ?_|refine qal ?_|intro _)
  exact fin ⟨rfl, rfl⟩
def marksP (l : List Ptn) (i : Nat) : List Ptn := l ++ (List.range i).map fun j => markPt 1 (j : Nat)
theorem marksP_succ (l : List Ptn) (i : Nat) : marksP l (i + 1) = marksP l i ++ [markPt 1 (i : Nat)] := by
  simp [marksP, List.range_succ]
theorem marksP_length (l : List Ptn) (i : Nat) : (marksP l i).length = l.length + i := by simp [marksP]
theorem lentPats_w (S : S27' pol sums) {n : Nat} {W : List Ck} {v : AV} {l : List Ptn} [a : HasRows [] W v qcd 15 l] (hn : 40 ≤ n) (hb : l.length < 2 ^ 30) :
    Cal [] W (qat Try.prog pol sums n (.func (.func 30) [] []) [v]) (fun r N => ∃ V, r = subV V 0 l.length 15 ∧ N = [.arr qcd 15 V (marksP l 12)]) := by
  refine qbh (f := 30) (nt := 25) (rs := [.tmp 2]) (by omega) (by first | assumption | exact S.rest _ (by decide)) Try.func30 rfl rfl rfl rfl fun m h0 T hm aT => ?_
  (repeat first|refine Wk.go ?_|refine qal ?_|intro _)
  have e0 : List.replicate 0 noPtn ++ l = marksP l 0 := by simp [marksP]
  rw [e0]
  rename_i v1
  refine A_loop (fun d L T => ∃ i v c xs, d = 12 - i ∧ i ≤ 12 ∧ Lk T 4 (.int .i64 (i : Nat)) ∧ Lk T 3 v ∧ L = [c] ∧ xs = marksP l i ∧ ((i = 0 ∧ c = .rows qcd 15 v xs) ∨ c = .arr qcd 15 v xs))
    [0, 2] 12 (by omega) ⟨0, v1, _, _, rfl, by omega, lkz (by rfl), inferInstance, rfl, rfl, .inl ⟨rfl, rfl⟩⟩ (by rfl) ?_
  rintro d L T1 ⟨i, v, c, xs, rfl, hi, h4, h3, rfl, hx, hc⟩ hA
  have hxl : xs.length = l.length + i := by rw [hx, marksP_length]
  by_cases ci : i < 12
  · have : Is (decide ((i : Int) < 12)) true := ⟨by simp; omega⟩
    rcases hc with ⟨hi0, rfl⟩ | rfl
    all_goals
      (repeat first|refine Wk.go ?_|refine qal ?_|intro _)
      refine qad (markPt_w S (by omega) (by omega) (by omega)) ?_
      rintro _ _ ⟨rfl, rfl⟩
      (repeat first|refine Wk.go ?_|refine qal ?_|intro _)
      rename_i v2
      refine lend (12 - (i + 1)) _ (by omega) ⟨i + 1, v2, _, xs ++ [markPt 1 (i : Nat)], rfl, ci, inferInstance, inferInstance, rfl, by rw [marksP_succ, hx], .inr rfl⟩
  · have : Is (decide ((i : Int) < 12)) false := ⟨by simp; omega⟩
    have hi12 : i = 12 := by omega
    subst hi12
    rcases hc with ⟨hi0, rfl⟩ | rfl
    · omega
    · rw [hx]
      have hml := marksP_length l 12
      (repeat first|refine Wk.go ?_|refine qal ?_|intro _)
      exact fin ⟨v, rfl, rfl⟩
theorem keptPats_w (S : S27' pol sums) {n : Nat} {W : List Ck} {V lv : AV} {l : List Ptn} [a : HasArrW [] W V qcd 15 (marksP l 12)] [b : HasRows [] W lv qcd 15 l] (hn : l.length + 40 ≤ n) (hb : l.length < 2 ^ 30) :
    Cal [] W (qat Try.prog pol sums n (.func (.func 42) [] []) [subV V 0 l.length 15, lv]) (fun r N => r = .bool true ∧ N = []) := by
  have a1 : HasRows [] W V qcd 15 (l ++ (List.range 12).map fun j => markPt 1 (j : Nat)) := a.rows
  have a2 : HasRows [] W (subV V 0 l.length 15) qcd 15 l := hasrows_pre (r := a1)
  have a3 : HasRows [] W V qcd 15 (marksP l 12) := a.rows
  have hml := marksP_length l 12
  have bn : Bnd 0 (l.length + 12) (marksP l 12).length := ⟨by omega, by omega⟩
  have a4 : HasRows [] W (subV V 0 (l.length + 12) 15) qcd 15 (marksP l 12) := by
    have := hasrows_sub (r := a3) (b := bn)
    rw [List.drop_zero, List.take_of_length_le (by omega)] at this
    exact this
  refine qbh (f := 42) (nt := 58) (rs := [.tmp 4]) (by omega) (by first | assumption | exact S.rest _ (by decide)) Try.func42 rfl rfl rfl rfl fun m h0 T hm aT => ?_
  have : Is ((l.length : Int) != (l.length : Int)) false := ⟨by simp⟩
  (repeat first|refine Wk.go ?_|refine qal ?_|intro _)
  refine A_loopR (fun d T => ∃ i, d = l.length + 12 - i ∧ i ≤ l.length + 12 ∧ Lk T 6 (.int .i64 (i : Nat))) [1, 5] (l.length + 12) (by omega) ⟨0, by omega, by omega, lkz (by rfl)⟩ (by rfl) ?_
  rintro d T1 ⟨i, rfl, hi, h6⟩ hA
  by_cases c : i < l.length + 12
  · have : Is (decide ((i : Int) < ((marksP l 12).length : Int))) true := ⟨by simp; omega⟩
    have e1 : ElAt (marksP l 12) i ((marksP l 12)[i]'(by omega)) := ⟨List.getElem?_eq_getElem _⟩
    by_cases q : i < l.length
    · have e2 : ElAt l i l[i] := ⟨List.getElem?_eq_getElem q⟩
      have e3 : (marksP l 12)[i]'(by omega) = l[i] := by simp [marksP, List.getElem_append, q]
      rw [e3] at e1
      have : Is (decide ((i : Int) < (l.length : Int))) true := ⟨by simpa using q⟩
      have : Is (decide ((i : Int) ≥ (l.length : Int))) false := ⟨by simp; omega⟩
      have : Is (decide (l[i] = l[i])) true := ⟨by simp⟩
      (repeat first|refine Wk.go ?_|refine qal ?_|intro _)
      refine qbo [0, 1, 2, 3, 4, 5, 6, 7, 8, 9, 10, 11, 12, 13, 14, 15, 16, 17, 18, 19, 20, 21, 22, 23, 24, 25, 26, 27, 28, 29, 30, 31, 32, 33, 34] [0, 0, 2, 7, 15, 31, 31, 127, 255, 31, 31, 1567, 3615, 8191, 16383, 32767, 65535, 131071, 131071, 393215, 1048575, 2097151, 4194303, 4194303, 16777215, 33554431, 4194303, 4194303, 138412031, 473956351, 1010827263, 2147483647, 4294967295, 8589934591, 17179869183] (by kernel_rfl) (by kernel_rfl) (by rfl) ?_
      (repeat first|refine Wk.go ?_|refine qal ?_|intro _)
      exact lend (l.length + 12 - (i + 1)) _ (by omega) ⟨rfl, i + 1, rfl, c, inferInstance⟩
    · have e3 : (marksP l 12)[i]'(by omega) = markPt 1 ((i : Int) - (l.length : Int)) := by
        simp only [marksP, List.getElem_append, q, dite_false, List.getElem_map, List.getElem_range]
        congr 1
        omega
      rw [e3] at e1
      have : Is (decide ((i : Int) < (l.length : Int))) false := ⟨by simp; omega⟩
      have : Is (decide ((i : Int) ≥ (l.length : Int))) true := ⟨by simp; omega⟩
      have : Is (decide (markPt 1 ((i : Int) - (l.length : Int)) = markPt 1 ((i : Int) - (l.length : Int)))) true := ⟨by simp⟩
      (repeat first|refine Wk.go ?_|refine qal ?_|intro _)
      refine qbo [0, 1, 2, 3, 4, 5, 6, 7, 8, 9, 10, 11, 12, 13, 14, 15, 16, 17, 18, 19, 20, 21, 22, 23, 24, 25, 26, 27, 28, 29, 30, 31, 32, 33, 34] [0, 0, 2, 7, 15, 31, 31, 127, 255, 31, 31, 1567, 3615, 8191, 16383, 32767, 65535, 131071, 131071, 393215, 1048575, 2097151, 4194303, 4194303, 16777215, 33554431, 4194303, 4194303, 138412031, 473956351, 1010827263, 2147483647, 4294967295, 8589934591, 17179869183] (by kernel_rfl) (by kernel_rfl) (by rfl) ?_
      (repeat first|refine Wk.go ?_|refine qal ?_|intro _)
      refine qad (markPt_w S (by omega) (by omega) (by omega)) ?_
      rintro _ _ ⟨rfl, rfl⟩
      (repeat first|refine Wk.go ?_|refine qal ?_|intro _)
      exact lend (l.length + 12 - (i + 1)) _ (by omega) ⟨rfl, i + 1, rfl, c, inferInstance⟩
  · have : Is (decide ((i : Int) < ((marksP l 12).length : Int))) false := ⟨by simp; omega⟩
    (repeat first|refine Wk.go ?_|refine qal ?_|intro _)
    exact fin ⟨rfl, rfl⟩
end Go.Am
namespace Go.Am
open Go AM
set_option linter.unusedVariables false
set_option synthInstance.maxHeartbeats 200000

/-- parts, one for each place from k on -/
def BLp {α : Type} (f : α → List AV) : Nat → List (Nat × AV) → List α → Prop
  | k, (j, v) :: l, x :: xs => j = k ∧ acells v = f x ∧ known v = true ∧ BLp f (k + 1) l xs
  | _, [], [] => True
  | _, _, _ => False
theorem fill_all {α : Type} {f : α → List AV} {sz n : Nat} (hf : ∀ x, (f x).length = sz) : ∀ (xs : List α) (l : List (Nat × AV)) (k : Nat) (A B : List AV), BLp f k l xs → A.length = k * sz → B.length = xs.length * sz → k + xs.length ≤ n →
    afillL ((List.range n).map fun i => (i * sz, sz)) (A ++ B) l = some (A ++ qca f xs)
  | [], [], k, A, B, p, ha, hb, hn => by
    have : B = [] := List.eq_nil_of_length_eq_zero (by simpa using hb)
    rw [this]; rfl
  | [], _ :: _, k, A, B, p, ha, hb, hn => p.elim
  | x :: xs, [], k, A, B, p, ha, hb, hn => p.elim
  | x :: xs, (j, v) :: l, k, A, B, p, ha, hb, hn => by
    obtain ⟨rfl, hc, hk, p⟩ := p
    have hx : (f x).length = sz := hf x
    have hb' : B.length = xs.length * sz + sz := by rw [hb, List.length_cons, Nat.succ_mul]
    have hj : j < n := by simp only [List.length_cons] at hn; omega
    have hget : ((List.range n).map fun i => (i * sz, sz))[j]? = some (j * sz, sz) := by rw [List.getElem?_map, List.getElem?_range hj]; rfl
    have hs : splice (A ++ B) (j * sz) (f x) = (A ++ f x) ++ B.drop sz := by
      unfold splice
      rw [← ha, List.take_left' rfl, List.drop_append, List.drop_eq_nil_of_le (by omega), List.nil_append, show A.length + (f x).length - A.length = sz by omega, List.append_assoc]
    have ih := fill_all hf xs l (j + 1) (A ++ f x) (B.drop sz) p (by rw [List.length_append, ha, hx, Nat.succ_mul]) (by rw [List.length_drop]; omega) (n := n) (by simp only [List.length_cons] at hn; omega)
    simp only [afillL, hget, hc, hk, hx, hs]
    rw [show (Nat.beq sz sz && Nat.ble (j * sz + sz) (A ++ B).length && true) = true by simp [ha, hb']]
    rw [ih, qch, List.append_assoc]
    rfl
theorem repeat_length (z : List AV) : ∀ n, (qan z n).length = n * z.length
  | 0 => by simp [qan]
  | n + 1 => by rw [qan, List.length_append, repeat_length z n, Nat.succ_mul, Nat.add_comm]
class LenL {α : Type} (l : List α) (n : outParam Nat) : Prop where eq : l.length = n
instance {α : Type} : LenL ([] : List α) 0 := ⟨rfl⟩
instance {α : Type} {x : α} {l : List α} {n : Nat} [a : LenL l n] : LenL (x :: l) (n + 1) := ⟨by rw [List.length_cons, a.eq]⟩
class BL (L W : List Ck) (k : Nat) (l : List (Nat × AV)) {α : outParam Type} (f : outParam (α → List AV)) (xs : outParam (List α)) : Prop where p : ∀ h, (∀ c ∈ L ++ W, c.p h) → BLp f k l xs
section
variable {L W : List Ck} {α : Type} {f : α → List AV} {sz : Nat}
instance bl_one {k j : Nat} {v : AV} {cs : List AV} {x : α} [a : Ac L W v cs] [e : Enc cs f x] [b : Same (Nat.beq j k) true] : BL L W k [(j, v)] f [x] := ⟨fun h q => ⟨Nat.eq_of_beq_eq_true b.eq, (a.ac h q).1.trans e.eq, (a.ac h q).2, trivial⟩⟩
instance (priority := 900) bl_cons {k j : Nat} {v : AV} {cs : List AV} {l : List (Nat × AV)} {x : α} {xs : List α} [b : Same (Nat.beq j k) true] [a : Ac L W v cs] [e : Enc cs f x] [r : BL L W (k + 1) l f xs] : BL L W k ((j, v) :: l) f (x :: xs) := ⟨fun h q => ⟨Nat.eq_of_beq_eq_true b.eq, (a.ac h q).1.trans e.eq, (a.ac h q).2, r.p h q⟩⟩
/-- a slice of what a list encodes -/
def fullV (f : α → List AV) (xs : List α) : AV := .sl .full xs.length (qca f xs)
instance qcc {xs : List α} [fl : FL f sz] : HasRows L W (fullV f xs) f sz xs := ⟨fun h _ => .imm _ _ _ (qbt fl.len xs).symm⟩
end
section
variable {h0 : Hp} {X : List Nat} {W L : List Ck} {P : Program} {pol : Pol} {call : qa6} {fn nt : Nat} {R : Rg} {rest : List (Nat × Oper)} {ds : List (Nat × Option Tmp)} {seen : Seen} {T : qag} {Q : qag → Hp → Prop} {i : Nat} {d : Option Tmp} {ty : TypeId} {pos : String} {after : Array Edge}
variable {α : Type} {f : α → List AV} {sz : Nat}
instance (priority := 900) wk_buildN {t e : TypeId} {len n : Nat} {parts : List (Nat × Operand)} {l : List (Nat × AV)} {xs : List α} {z : AV} [ht : TSl P t e] [hs : TSz P e sz] [hz' : qam P e z] [hl : Evp T parts l] [hb : BL L W 0 l f xs] [fl : FL f sz] [hn : LenL xs n] [he : Same (Nat.beq n len) true] :
    Wk (qa3 ⟨h0, X, W⟩ L P pol call fn nt R ((i, ⟨d, .buildSlice t len parts.toArray, ty, pos, after, none⟩) :: rest) ds seen T Q) ((Nat.ble (len * sz) 16777216 && Nat.beq (acells z).length sz) = true ∧ pol.lit fn (d.getD 0) = false ∧ qa3 ⟨h0, X, W⟩ L P pol call fn nt R rest ((i, d) :: ds) seen (qa2? nt T d (fullV f xs)) Q) :=
  ⟨fun g h s e' => by
    obtain ⟨h1, h2, g⟩ := g
    have hzl : (acells z).length = sz := by simp only [Bool.and_eq_true] at h1; simpa using h1.2
    have hlen : xs.length = len := by rw [hn.eq]; exact Nat.eq_of_beq_eq_true he.eq
    refine qbl (c' := qca f xs) hl.eq h1 ?_ h2 fun _ => by have g := g h s e'.step; unfold fullV at g; rw [hlen] at g; exact g
    have := fill_all (n := len) fl.len xs l 0 [] (qan (acells z) len) (hb.p h s.all) (by simp) (by rw [repeat_length, hzl, hlen]) (by omega)
    simpa using this⟩
/-- a guard that was not reached itself -/
instance wk_skip {B : Bs} {j t : Nat} {want : Bool} {op : Op} [a : Dl ds j t] [hb : Lk T t (.tuple [])] : Wk (qa3 B L P pol call fn nt R ((i, ⟨d, op, ty, pos, after, some (j, want)⟩) :: rest) ds seen T Q) (qa3 B L P pol call fn nt R rest ((i, d) :: ds) seen (qa2? nt T d (.tuple [])) Q) :=
  ⟨fun g h s e hk => by
    have hw : wantedM R T ⟨d, op, ty, pos, after, some (j, want)⟩ = pure false := by
      unfold wantedM
      simp only [e.1 _ a.mem, Option.bind_some, id_eq, hb.eq]
    simp only [aopsM, hw]
    exact Runs.bind (Runs.pure (g h s e.step hk))⟩
/-- of nothing -/
instance wk_build0 {t e : TypeId} {z : AV} {sz : Nat} [ht : TSl P t e] [hs : TSz P e sz] [hz' : qam P e z] :
    Wk (qa3 ⟨h0, X, W⟩ L P pol call fn nt R ((i, ⟨d, .buildSlice t 0 [].toArray, ty, pos, after, none⟩) :: rest) ds seen T Q) ((Nat.ble (0 * sz) 16777216 && Nat.beq (acells z).length sz) = true ∧ pol.lit fn (d.getD 0) = false ∧ qa3 ⟨h0, X, W⟩ L P pol call fn nt R rest ((i, d) :: ds) seen (qa2? nt T d (.sl .full 0 [])) Q) :=
  ⟨fun g h s e' => qbl (c' := []) (l := []) rfl g.1 rfl g.2.1 fun _ => g.2.2 h s e'.step⟩
/-- to nothing: a new object, nothing is turned -/
theorem aops_appnil {m : List α} {args : List Operand} {t u e e' : TypeId} {bytes : Nat} {z s0 x : AV} [ht : TSl P t e] [hu : TSl P u e'] [hs : TSz P e sz] [hb' : qae P e bytes] [hz' : qam P e z]
    (ha : Evs T args [s0, x]) [n0 : Nil0 s0] [hx : HasRows L W x f sz m] [h1 : FOne f] [hf : FL f sz]
    (hz : (!(Nat.beq sz 0) && !(Nat.beq bytes 0) && Nat.beq (acells z).length sz) = true) (hb : m.length * bytes ≤ 140737488355328) (K : AV → Ck)
    (hK : ∀ v h1, Rows f sz h1 v m → qcr v = true → (m ≠ [] → qa4 v ≠ []) → (K v).p h1) (hi : ∀ v, (K v).ids = qa4 v)
    (g : ∀ v, qa3 ⟨h0, X, W⟩ (K v :: L) P pol call fn nt R rest ((i, d) :: ds) seen (qa2? nt T d v) Q) :
    qa3 ⟨h0, X, W⟩ L P pol call fn nt R ((i, ⟨d, .call ⟨.builtin .append, args.toArray, [t, u].toArray⟩, ty, pos, after, none⟩) :: rest) ds seen T Q := fun h s e => O_wf fun w => by
  have hvs : qa4 s0 = [] := by rcases n0.eq with rfl | rfl | rfl <;> rfl
  obtain ⟨r1, r2⟩ := n0.rows (f := f) (sz := sz) (h := h)
  refine O_append ha.eq r1 r2 (hx.has h s.all) (flat_ones m) hz (by show (0 + m.length) * bytes ≤ _; rw [Nat.zero_add]; exact hb) fun v h1 k sl gb hv hne => ?_
  have kk : Keep h h1 := k.none fun i q => by rw [hvs] at q; cases q
  have sl : Rows f sz h1 v m := by
    show SlV h1 sz v m.length _
    have := sl
    simpa [flat_nil] using this
  exact ⟨Keep.undis kk, g v h1 (app_new s w k (hK v h1 sl gb fun c => hne (by cases m <;> simp_all)) (hi v) fun k hk => (hv k hk).imp id fun q => q.1) e.step⟩
instance (priority := 1100) wk_appnil1' {x0 : α} {args : List Operand} {t u e e' : TypeId} {bytes : Nat} {z s x : AV} [ht : TSl P t e] [hu : TSl P u e'] [hs : TSz P e sz] [hb' : qae P e bytes] [hz' : qam P e z]
    [ha : Evs T args [s, x]] [n0 : Nil0 s] [hx : HasRows L W x f sz [x0]] [h1 : FOne f] [hf : FL f sz] :
    Wk (qa3 ⟨h0, X, W⟩ L P pol call fn nt R ((i, ⟨d, .call ⟨.builtin .append, args.toArray, [t, u].toArray⟩, ty, pos, after, none⟩) :: rest) ds seen T Q)
      ((!(Nat.beq sz 0) && !(Nat.beq bytes 0) && Nat.beq (acells z).length sz) = true ∧ 1 * bytes ≤ 140737488355328 ∧ ∀ v, qa3 ⟨h0, X, W⟩ (.arr f sz v [x0] :: L) P pol call fn nt R rest ((i, d) :: ds) seen (qa2? nt T d v) Q) :=
  ⟨fun g => aops_appnil ha g.1 (by simpa using g.2.1) (fun v => .arr f sz v [x0]) (fun v h1 a b c => ⟨a, b, c (by simp)⟩) (fun v => rfl) g.2.2⟩
instance (priority := 1050) wk_appnil' {m : List α} {args : List Operand} {t u e e' : TypeId} {bytes : Nat} {z s x : AV} [ht : TSl P t e] [hu : TSl P u e'] [hs : TSz P e sz] [hb' : qae P e bytes] [hz' : qam P e z]
    [ha : Evs T args [s, x]] [n0 : Nil0 s] [hx : HasRows L W x f sz m] [h1 : FOne f] [hf : FL f sz] :
    Wk (qa3 ⟨h0, X, W⟩ L P pol call fn nt R ((i, ⟨d, .call ⟨.builtin .append, args.toArray, [t, u].toArray⟩, ty, pos, after, none⟩) :: rest) ds seen T Q)
      ((!(Nat.beq sz 0) && !(Nat.beq bytes 0) && Nat.beq (acells z).length sz) = true ∧ m.length * bytes ≤ 140737488355328 ∧ ∀ v, qa3 ⟨h0, X, W⟩ (.rows f sz v m :: L) P pol call fn nt R rest ((i, d) :: ds) seen (qa2? nt T d v) Q) :=
  ⟨fun g => aops_appnil ha g.1 g.2.1 (fun v => .rows f sz v m) (fun v h1 a b c => ⟨a, b⟩) (fun v => rfl) g.2.2⟩
/-- nothing is added to nothing -/
instance (priority := 1200) wk_append0 {args : List Operand} {t u e e' : TypeId} {bytes : Nat} {z s0 x : AV} [ht : TSl P t e] [hu : TSl P u e'] [hs : TSz P e sz] [hb' : qae P e bytes] [hz' : qam P e z]
    [ha : Evs T args [s0, x]] [n0 : Nil0 s0] [hx : HasRows L W x f sz []] :
    Wk (qa3 ⟨h0, X, W⟩ L P pol call fn nt R ((i, ⟨d, .call ⟨.builtin .append, args.toArray, [t, u].toArray⟩, ty, pos, after, none⟩) :: rest) ds seen T Q)
      ((!(Nat.beq sz 0) && !(Nat.beq bytes 0) && Nat.beq (acells z).length sz) = true ∧ qa3 ⟨h0, X, W⟩ L P pol call fn nt R rest ((i, d) :: ds) seen (qa2? nt T d s0) Q) :=
  ⟨fun g h s es => by
    obtain ⟨hz, g⟩ := g
    refine O_do rfl rfl ?_
    simp only [Bool.and_eq_true] at hz
    have hae := ha.eq
    simp only [aop, hae, qck, aappendOp, elem_of ht.un, hs.sz, hb'.bytes, hz'.zero, hu.un, qaa]
    rw [hz.1.1, hz.1.2, Bool.and_self, qar, qaa, qaa, hz.2, qar, qaa]
    have gx : SlV h sz x 0 [] := hx.has h s.all
    have hsrc : (qco P e sz x).run h = some ((0, []), h) := by
      have hc : ∀ {n : Nat} {cs : List AV}, SlV h sz x n cs → qco P e sz x = qb7 sz x := fun g => by cases g <;> rfl
      rw [hc gx]
      exact gx.cells_run
    refine Runs.bind (Runs.of hsrc ?_)
    have : aappend sz bytes s0 0 [] = pure s0 := by rcases n0.eq with rfl | rfl | rfl <;> rfl
    rw [this]
    exact Runs.pure ⟨Keep.undis (Keep.refl h), g h s es.step⟩⟩
end
/-- a slice that may be written over, if it holds something -/
def Ck.gw {α : Type} (f : α → List AV) (sz : Nat) (v : AV) (l : List α) : Ck where
  ids := qa4 v
  p h := Rows f sz h v l ∧ qcr v = true ∧ (l ≠ [] → qa4 v ≠ [])
  loc h h' k r := ⟨r.1.loc k, r.2⟩
  dom h r := r.1.ids.2
section
variable {α : Type} {f : α → List AV} {sz : Nat} {v : AV} {l : List α} {L W : List Ck}
instance tkw_gw : Tkw (.arr f sz v l :: L) (.gw f sz v l) L := tkw_imp rfl fun h r => ⟨r.1, r.2.1, fun _ => r.2.2⟩
instance tkw_gw2 : Tkw (.gw f sz v l :: L) (.ro f sz v l) L := tkw_imp rfl fun h r => r.1
instance hasrows_gw : HasRows (.gw f sz v l :: L) W v f sz l := ⟨fun h k => (k _ List.mem_cons_self).1⟩
class NeL (l : List α) : Prop where ne : l ≠ []
theorem St.nilg {B : Bs} {h : Hp} {v : AV} [n0 : Nil0 v] (s : St B L h) (f : α → List AV) (sz : Nat) : St B (.gw f sz v [] :: L) h := by
  have := s.nil (v := v) f sz
  have q : Tkw (.rows f sz v [] :: L) (.gw f sz v []) L := tkw_imp rfl fun h r => ⟨r.1, r.2, fun c => absurd rfl c⟩
  exact q.st B h [] this
end
section
variable {h0 : Hp} {X : List Nat} {W L : List Ck} {P : Program} {pol : Pol} {call : qa6} {fn nt fuel : Nat} {R : Rg} {rest : List (Nat × Oper)} {ds : List (Nat × Option Tmp)} {seen : Seen} {T : qag} {Q : qag → Hp → Prop} {i : Nat} {d : Option Tmp} {ty : TypeId} {pos : String} {after : Array Edge}
variable {α : Type} {f : α → List AV} {sz : Nat}
theorem aco_gw {B : Bs} {Q : Exit × qag → Hp → Prop} {c : Code} (f : α → List AV) (sz : Nat) (v : AV) [n0 : Nil0 v] (g : ACo B (.gw f sz v [] :: L) P pol call fn nt fuel c T Q) : ACo B L P pol call fn nt fuel c T Q := fun h s => g h (s.nilg f sz)
instance (priority := 1150) wk_appnilA {m : List α} {args : List Operand} {t u e e' : TypeId} {bytes : Nat} {z s x : AV} [ht : TSl P t e] [hu : TSl P u e'] [hs : TSz P e sz] [hb' : qae P e bytes] [hz' : qam P e z]
    [ha : Evs T args [s, x]] [n0 : Nil0 s] [hx : HasRows L W x f sz m] [h1 : FOne f] [hf : FL f sz] [ne : NeL m] :
    Wk (qa3 ⟨h0, X, W⟩ L P pol call fn nt R ((i, ⟨d, .call ⟨.builtin .append, args.toArray, [t, u].toArray⟩, ty, pos, after, none⟩) :: rest) ds seen T Q)
      ((!(Nat.beq sz 0) && !(Nat.beq bytes 0) && Nat.beq (acells z).length sz) = true ∧ m.length * bytes ≤ 140737488355328 ∧ ∀ v, qa3 ⟨h0, X, W⟩ (.arr f sz v m :: L) P pol call fn nt R rest ((i, d) :: ds) seen (qa2? nt T d v) Q) :=
  ⟨fun g => aops_appnil ha g.1 g.2.1 (fun v => .arr f sz v m) (fun v h1 a b c => ⟨a, b, c ne.ne⟩) (fun v => rfl) g.2.2⟩
/-! against nil -/
instance wk_eqnilN {t t' e : TypeId} {x y : Operand} [hu : TSl P t e] [hx : Ev T x (.sl .nil 0 [])] [hy : Ev T y (.sl .nil 0 [])] :
    Wk (qa3 ⟨h0, X, W⟩ L P pol call fn nt R ((i, ⟨d, .binOp .eql t x y t', ty, pos, after, none⟩) :: rest) ds seen T Q) (qa3 ⟨h0, X, W⟩ L P pol call fn nt R rest ((i, d) :: ds) ((i, []) :: seen) (qa2? nt T d (.bool true)) Q) :=
  ⟨fun g h s e' => O_eqNil hx.eq hy.eq (.inl ⟨rfl, rfl⟩) (.inr ⟨_, _, _, rfl, .inl ⟨rfl, rfl⟩⟩) (g h s e'.step)⟩
instance wk_eqnilF {t t' e : TypeId} {x y : Operand} {n : Nat} {c : List AV} [hu : TSl P t e] [hx : Ev T x (.sl .full n c)] [hy : Ev T y (.sl .nil 0 [])] :
    Wk (qa3 ⟨h0, X, W⟩ L P pol call fn nt R ((i, ⟨d, .binOp .eql t x y t', ty, pos, after, none⟩) :: rest) ds seen T Q) (qa3 ⟨h0, X, W⟩ L P pol call fn nt R rest ((i, d) :: ds) ((i, []) :: seen) (qa2? nt T d (.bool false)) Q) :=
  ⟨fun g h s e' => O_eqNil hx.eq hy.eq (.inl ⟨rfl, rfl⟩) (.inr ⟨_, _, _, rfl, .inr ⟨rfl, rfl⟩⟩) (g h s e'.step)⟩
theorem aops_eqnil {t t' e : TypeId} {x y : Operand} {v : AV} {l : List α} [hu : TSl P t e] (hx : Ev T x v) [hy : Ev T y (.sl .nil 0 [])] (hr : ∀ h, (∀ c ∈ L ++ W, c.p h) → Rows f sz h v l) (hv : qa4 v ≠ [])
    (g : qa3 ⟨h0, X, W⟩ L P pol call fn nt R rest ((i, d) :: ds) ((i, (qa4 v).map fun id => (false, id)) :: seen) (qa2? nt T d (.bool false)) Q) : qa3 ⟨h0, X, W⟩ L P pol call fn nt R ((i, ⟨d, .binOp .eql t x y t', ty, pos, after, none⟩) :: rest) ds seen T Q := fun h s e' => by
  have g := g h s e'.step
  have r : SlV h sz v l.length (qca f l) := hr h s.all
  have hxe := hx.eq
  generalize l.length = N at *
  generalize qca f l = F at *
  cases r with
  | imm => exact absurd rfl hv
  | own id ver off n row fix r0 e0 => exact O_eqNil hxe hy.eq (.inl ⟨rfl, rfl⟩) (.inl ⟨_, _, _, _, _, _, _, rfl, r0, rfl⟩) g
instance (priority := 1100) wk_eqnilS {t t' e : TypeId} {x y : Operand} {V : AV} {n : Nat} {l m : List α} [hu : TSl P t e] [hx : Ev T x (subV V 0 n sz)] [hy : Ev T y (.sl .nil 0 [])] [hr : HasArrW L W V f sz l] [hs : HasRows L W (subV V 0 n sz) f sz m] :
    Wk (qa3 ⟨h0, X, W⟩ L P pol call fn nt R ((i, ⟨d, .binOp .eql t x y t', ty, pos, after, none⟩) :: rest) ds seen T Q) (qa3 ⟨h0, X, W⟩ L P pol call fn nt R rest ((i, d) :: ds) ((i, (qa4 V).map fun id => (false, id)) :: seen) (qa2? nt T d (.bool false)) Q) :=
  ⟨fun g h s e => by
    have hc := s.all _ hr.mem
    exact aops_eqnil hx (fun h k => hs.has h k) (by rw [subV_avIds]; exact hc.2.2) (by rw [subV_avIds]; exact g) h s e⟩
instance wk_eqnilA {t t' e : TypeId} {x y : Operand} {v : AV} {l : List α} [hu : TSl P t e] [hx : Ev T x v] [hy : Ev T y (.sl .nil 0 [])] [hr : HasArrW L W v f sz l] :
    Wk (qa3 ⟨h0, X, W⟩ L P pol call fn nt R ((i, ⟨d, .binOp .eql t x y t', ty, pos, after, none⟩) :: rest) ds seen T Q) (qa3 ⟨h0, X, W⟩ L P pol call fn nt R rest ((i, d) :: ds) ((i, (qa4 v).map fun id => (false, id)) :: seen) (qa2? nt T d (.bool false)) Q) :=
  ⟨fun g h s e => by
    have hc := s.all _ hr.mem
    exact aops_eqnil hx (fun h k => hr.rows.has h k) hc.2.2 g h s e⟩
end
end Go.Am
namespace Go.Am
open Go Go.Proofs AM
set_option maxRecDepth 10000
set_option synthInstance.maxHeartbeats 400000
set_option synthInstance.maxSize 4000
set_option linter.unusedVariables false
variable {pol : Pol} {sums : Sums}
attribute [local irreducible] ACo AK AT qa3 ARs Fin Cal KLp KFun
instance : FL sltC 5 := ⟨fun _ => rfl⟩
instance : FOne sltC := ⟨fun _ => rfl⟩
instance enc_slt {x : Slt} : Enc (sltC x) sltC x := ⟨rfl⟩
theorem with_w (S : S27' pol sums) {n : Nat} {W : List Ck} {v : AV} {l : List Str} (s : Str) (hn : l.length + 1 < n) (hb : l.length < 2 ^ 40) :
    Cal [.rows strC 1 v l] W (qat Try.prog pol sums n (.func (.func 83) [] []) [v, .str s]) (fun r N => N = [.rows strC 1 r (qcj l s)]) := by
  refine qbh (f := 83) (nt := 23) (rs := [.tmp 4]) (by omega) (by first | assumption | exact S.rest _ (by decide)) Try.func83 rfl rfl rfl rfl fun m h0 T hm aT => ?_
  (repeat first|refine Wk.go ?_|refine qal ?_|intro _)
  refine A_loopR (fun k T => ∃ i, k = l.length - i ∧ i ≤ l.length ∧ Lk T 5 (.int .i64 (i : Nat)) ∧ ∀ j, j < i → l[j]? ≠ some s) [0, 1] l.length (by omega) ⟨0, rfl, Nat.zero_le _, lkz (by rfl), fun j hj => by omega⟩ (by rfl) ?_
  rintro k T1 ⟨i, rfl, hi, h5, hall⟩ hA
  (repeat first|refine Wk.go ?_|refine qal ?_|intro _)
  refine ⟨fun c => ?_, fun c => ?_⟩
  · have c : i < l.length := by simpa using c
    have : ElAt l i l[i] := ⟨List.getElem?_eq_getElem c⟩
    (repeat first|refine Wk.go ?_|refine qal ?_|intro _)
    refine ⟨fun e => ?_, fun e => ?_⟩
    · have e : l[i] = s := by simpa using e
      have hm : qcj l s = l := by unfold qcj; rw [if_pos (by simp [← e])]
      (repeat first|refine Wk.go ?_|refine qal ?_|intro _)
      exact fin (by rw [hm])
    · have e : l[i] ≠ s := by simpa using e
      (repeat first|refine Wk.go ?_|refine qal ?_|intro _)
      refine lend (l.length - (i + 1)) _ (by omega) ⟨rfl, i + 1, rfl, c, inferInstance, fun j hj => ?_⟩
      by_cases q : j = i
      · subst q; simp [c, e]
      · exact hall j (by omega)
  · have c : ¬ i < l.length := by simpa using c
    have hm : qcj l s = l ++ [s] := by
      unfold qcj
      rw [if_neg fun q => ?_]
      obtain ⟨j, hj, e⟩ := List.getElem_of_mem q
      exact hall j (by omega) (by rw [List.getElem?_eq_getElem hj, e])
    (repeat first|refine Wk.go ?_|refine qal ?_|intro _)
    exact fin (by rw [hm])
theorem varsR_w (S : S27' pol sums) {n : Nat} {W : List Ck} {v : AV} {l : List Ptn} [a : HasRows [] W v qcd 15 l] (hn : 3 * l.length + 10 ≤ n) (hb : l.length < 2 ^ 30) :
    Cal [] W (qat Try.prog pol sums n (.func (.func 75) [] []) [v]) (fun r N => N = [.rows strC 1 r (qbu l)]) := by
  refine qbh (f := 75) (nt := 47) (rs := [.tmp 2]) (by omega) (by first | assumption | exact S.rest _ (by decide)) Try.func75 rfl rfl rfl rfl fun m h0 T hm aT => ?_
  (repeat first|refine Wk.go ?_|refine qal ?_|intro _)
  refine qc2 strC 1 (.sl .nil 0 []) ?_
  refine A_loop (fun k L T => ∃ i v, k = l.length - i ∧ i ≤ l.length ∧ Lk T 4 (.int .i64 (i : Nat)) ∧ Lk T 3 v ∧ L = [.rows strC 1 v (qbu (l.take i))]) [0, 2] l.length (by omega) ⟨0, _, rfl, Nat.zero_le _, lkz (by rfl), inferInstance, rfl⟩ (by rfl) ?_
  rintro k L T1 ⟨i, u, rfl, hi, h4, h3, rfl⟩ hA
  (repeat first|refine Wk.go ?_|refine qal ?_|intro _)
  refine ⟨fun c => ?_, fun c => ?_⟩
  · have c : i < l.length := by simpa using c
    generalize hp : l[i] = p
    have e1 : ElAt l i p := ⟨by rw [List.getElem?_eq_getElem c, hp]⟩
    have ht : qbu (l.take (i + 1)) = qc0 (qbu (l.take i)) p := by rw [List.take_succ_eq_append_getElem c, hp]; unfold qbu; rw [List.foldl_append]; rfl
    have hvl := qbe (l.take i)
    have htl : (l.take i).length ≤ i := List.length_take_le _ _
    (repeat first|refine Wk.go ?_|refine qal ?_|intro _)
    refine qbo [0, 1, 2, 3, 4, 5, 6, 7, 8, 9, 10, 11, 12, 13, 14, 15, 16] [0, 0, 3, 7, 15, 0, 0, 96, 224, 480, 0, 0, 3072, 7168, 15360, 32767, 65535] (by kernel_rfl) (by kernel_rfl) (by rfl) ?_
    (repeat first|refine Wk.go ?_|refine qal ?_|intro _)
    refine A_loopS (fun k L T => ∃ j u cur, k = 3 - j ∧ j ≤ 3 ∧ Lk T 6 (.int .i64 (j : Nat)) ∧ Lk T 3 u ∧ L = [.rows strC 1 u cur] ∧ cur = (([p.s, p.p, p.o].take j).foldl qbj (qbu (l.take i))) ∧ cur.length ≤ 3 * i + j) [0, 2, 4, 7, 8, 9, 10, 13, 14, 15, 16, 17, 18, 19, 20, 21, 22, 23, 24, 25, 26, 27, 28, 5] 3 (by omega) ⟨0, u, qbu (l.take i), rfl, by omega, lkz (by rfl), inferInstance, rfl, rfl, by omega⟩ (by rfl) ?_
    rintro k L T2 ⟨j, u2, cur, rfl, hj, h6, h3', rfl, hcur, hcl⟩ hA2
    by_cases cj : j < 3
    · have : Is (decide ((j : Int) < 3)) true := ⟨by simp; omega⟩
      have hjl : j < [p.s, p.p, p.o].length := by simpa using cj
      generalize hx : [p.s, p.p, p.o][j] = x
      have e2 : ElAt [p.s, p.p, p.o] j x := ⟨by rw [List.getElem?_eq_getElem hjl, hx]⟩
      have hf : ([p.s, p.p, p.o].take (j + 1)).foldl qbj (qbu (l.take i)) = qbj cur x := by rw [List.take_succ_eq_append_getElem hjl, hx, List.foldl_append, ← hcur]; rfl
      (repeat first|refine Wk.go ?_|refine qal ?_|intro _)
      refine ⟨fun e => ?_, fun e => ?_⟩
      · have e : x.var ≠ [] := by simpa using e
        have hm : qbj cur x = qcj cur x.var := by unfold qbj; rw [if_neg e]
        have hml := meet1_length cur x.var
        (repeat first|refine Wk.go ?_|refine qal ?_|intro _)
        refine A_call (C := [.rows strC 1 u2 cur]) trivial (with_w S x.var (by omega) (by omega)) ?_
        rintro r _ rfl
        (repeat first|refine Wk.go ?_|refine qal ?_|intro _)
        exact lend (3 - (j + 1)) _ (by omega) ⟨j + 1, r, _, rfl, cj, inferInstance, inferInstance, rfl, by rw [hf, hm], by omega⟩
      · have e : x.var = [] := by simpa using e
        have hm : qbj cur x = cur := by unfold qbj; rw [if_pos e]
        (repeat first|refine Wk.go ?_|refine qal ?_|intro _)
        exact lend (3 - (j + 1)) _ (by omega) ⟨j + 1, u2, _, rfl, cj, inferInstance, inferInstance, rfl, by rw [hf, hm], by omega⟩
    · have : Is (decide ((j : Int) < 3)) false := ⟨by simp; omega⟩
      have : j = 3 := by omega
      subst this
      (repeat first|refine Wk.go ?_|refine qal ?_|intro _)
      exact lend (l.length - (i + 1)) [.rows strC 1 u2 cur] (by omega) ⟨i + 1, u2, rfl, c, inferInstance, inferInstance, by rw [ht, hcur]; rfl⟩
  · have c : i = l.length := by
      have : ¬ i < l.length := by simpa using c
      omega
    subst c
    rw [List.take_length]
    (repeat first|refine Wk.go ?_|refine qal ?_|intro _)
    exact fin rfl
end Go.Am
namespace Go.Am
open Go Go.Proofs AM
set_option maxRecDepth 10000
set_option synthInstance.maxHeartbeats 400000
set_option synthInstance.maxSize 4000
set_option linter.unusedVariables false
variable {pol : Pol} {sums : Sums}
attribute [local irreducible] ACo AK AT qa3 ARs Fin Cal KLp KFun
theorem hasR_w (S : S27' pol sums) {n : Nat} {W : List Ck} {v : AV} {l : List Str} (s : Str) [HasRows [] W v strC 1 l] (hn : l.length + 1 < n) (hb : l.length < 2 ^ 60) :
    Cal [] W (qat Try.prog pol sums n (.func (.func 76) [] []) [v, .str s]) (fun r N => r = .bool (decide (s ∈ l)) ∧ N = []) := by
  refine qbh (f := 76) (nt := 18) (rs := [.tmp 4]) (by omega) (by first | assumption | exact S.rest _ (by decide)) Try.func76 rfl rfl rfl rfl fun m h0 T hm aT => ?_
  (repeat first|refine Wk.go ?_|refine qal ?_|intro _)
  refine A_loopR (fun k T => ∃ i, k = l.length - i ∧ i ≤ l.length ∧ Lk T 5 (.int .i64 (i : Nat)) ∧ ∀ j, j < i → l[j]? ≠ some s) [0, 1] l.length (by omega) ⟨0, rfl, Nat.zero_le _, lkz (by rfl), fun j hj => by omega⟩ (by rfl) ?_
  rintro k T1 ⟨i, rfl, hi, h5, hall⟩ hA
  (repeat first|refine Wk.go ?_|refine qal ?_|intro _)
  refine ⟨fun c => ?_, fun c => ?_⟩
  · have c : i < l.length := by simpa using c
    have : ElAt l i l[i] := ⟨List.getElem?_eq_getElem c⟩
    (repeat first|refine Wk.go ?_|refine qal ?_|intro _)
    refine ⟨fun e => ?_, fun e => ?_⟩
    · have e : l[i] = s := by simpa using e
      (repeat first|refine Wk.go ?_|refine qal ?_|intro _)
      exact fin ⟨by simp [← e], rfl⟩
    · have e : l[i] ≠ s := by simpa using e
      (repeat first|refine Wk.go ?_|refine qal ?_|intro _)
      refine lend (l.length - (i + 1)) _ (by omega) ⟨rfl, i + 1, rfl, c, inferInstance, fun j hj => ?_⟩
      by_cases q : j = i
      · subst q; simp [c, e]
      · exact hall j (by omega)
  · have c : ¬ i < l.length := by simpa using c
    (repeat first|refine Wk.go ?_|refine qal ?_|intro _)
    refine fin ⟨?_, rfl⟩
    rw [decide_eq_false]
    intro q
    obtain ⟨j, hj, e⟩ := List.getElem_of_mem q
    exact hall j (by omega) (by rw [List.getElem?_eq_getElem hj, e])
theorem inR_w (S : S27' pol sums) {n : Nat} {W : List Ck} {v : AV} {l : List Int} (s : Int) [HasRows [] W v qbd 1 l] (hn : l.length + 1 < n) (hb : l.length < 2 ^ 60) :
    Cal [] W (qat Try.prog pol sums n (.func (.func 61) [] []) [v, .int .i64 s]) (fun r N => r = .bool (decide (s ∈ l)) ∧ N = []) := by
  refine qbh (f := 61) (nt := 18) (rs := [.tmp 4]) (by omega) (by first | assumption | exact S.rest _ (by decide)) Try.func61 rfl rfl rfl rfl fun m h0 T hm aT => ?_
  (repeat first|refine Wk.go ?_|refine qal ?_|intro _)
  refine A_loopR (fun k T => ∃ i, k = l.length - i ∧ i ≤ l.length ∧ Lk T 5 (.int .i64 (i : Nat)) ∧ ∀ j, j < i → l[j]? ≠ some s) [0, 1] l.length (by omega) ⟨0, rfl, Nat.zero_le _, lkz (by rfl), fun j hj => by omega⟩ (by rfl) ?_
  rintro k T1 ⟨i, rfl, hi, h5, hall⟩ hA
  (repeat first|refine Wk.go ?_|refine qal ?_|intro _)
  refine ⟨fun c => ?_, fun c => ?_⟩
  · have c : i < l.length := by simpa using c
    have : ElAt l i l[i] := ⟨List.getElem?_eq_getElem c⟩
    (repeat first|refine Wk.go ?_|refine qal ?_|intro _)
    refine ⟨fun e => ?_, fun e => ?_⟩
    · have e : l[i] = s := by simpa using e
      (repeat first|refine Wk.go ?_|refine qal ?_|intro _)
      exact fin ⟨by simp [← e], rfl⟩
    · have e : l[i] ≠ s := by simpa using e
      (repeat first|refine Wk.go ?_|refine qal ?_|intro _)
      refine lend (l.length - (i + 1)) _ (by omega) ⟨rfl, i + 1, rfl, c, inferInstance, fun j hj => ?_⟩
      by_cases q : j = i
      · subst q; simp [c, e]
      · exact hall j (by omega)
  · have c : ¬ i < l.length := by simpa using c
    (repeat first|refine Wk.go ?_|refine qal ?_|intro _)
    refine fin ⟨?_, rfl⟩
    rw [decide_eq_false]
    intro q
    obtain ⟨j, hj, e⟩ := List.getElem_of_mem q
    exact hall j (by omega) (by rw [List.getElem?_eq_getElem hj, e])
theorem knownR_w (S : S27' pol sums) {n : Nat} {W : List Ck} {ov pv : AV} {order : List Nat} {pats : List Ptn} [HasRows [] W pv qcd 15 pats] [hr : HasRows [] W ov qbd 1 (zs order)] (hn : 4 * order.length + 20 ≤ n) (hb : order.length < 2 ^ 28) (hor : ∀ i ∈ order, i < pats.length) :
    Cal [] W (qat Try.prog pol sums n (.func (.func 60) [] []) [pv, ov]) (fun r N => N = [.rows strC 1 r (qbu (qbk pats order order.length))]) := by
  have hz : (zs order).length = order.length := qa7 order
  refine qbh (f := 60) (nt := 25) (rs := [.tmp 4]) (by omega) (by first | assumption | exact S.rest _ (by decide)) Try.func60 rfl rfl rfl rfl fun m h0 T hm aT => ?_
  (repeat first|refine Wk.go ?_|refine qal ?_|intro _)
  refine qc2 qcd 15 (.sl .nil 0 []) ?_
  refine A_loop (fun k L T => ∃ i v, k = order.length - i ∧ i ≤ order.length ∧ Lk T 6 (.int .i64 (i : Nat)) ∧ Lk T 5 v ∧ L = [.rows qcd 15 v (qbk pats order i)]) [0, 1, 4] order.length (by omega) ⟨0, _, rfl, Nat.zero_le _, lkz (by rfl), inferInstance, rfl⟩ (by rfl) ?_
  rintro k L T1 ⟨i, u, rfl, hi, h6, h5, rfl⟩ hA
  have hal := qcs pats order i
  (repeat first|refine Wk.go ?_|refine qal ?_|intro _)
  refine ⟨fun c => ?_, fun c => ?_⟩
  · have c : i < order.length := by rw [hz] at c; simpa using c
    have hj : order[i]? = some order[i] := List.getElem?_eq_getElem c
    have hjl : order[i] < pats.length := hor _ (List.getElem_mem c)
    have hp : pats[order[i]]? = some pats[order[i]] := List.getElem?_eq_getElem hjl
    generalize order[i] = j at *
    have := zs_at hj
    have := ElAt.mk hp
    (repeat first|refine Wk.go ?_|refine qal ?_|intro _)
    exact lend (order.length - (i + 1)) _ (by omega) ⟨i + 1, _, rfl, c, inferInstance, inferInstance, by rw [aheadL_succ hj hp]⟩
  · have c : i = order.length := by
      have : ¬ i < order.length := by rw [hz] at c; simpa using c
      omega
    subst c
    (repeat first|refine Wk.go ?_|refine qal ?_|intro _)
    refine qad (varsR_w S (l := qbk pats order order.length) (by omega) (by omega)) ?_
    rintro r _ rfl
    (repeat first|refine Wk.go ?_|refine qal ?_|intro _)
    exact fin rfl
theorem partsR_w (S : S27' pol sums) {n : Nat} {W : List Ck} {v : AV} {l : List Str} [HasRows [] W v strC 1 l] (p : Ptn) (hn : l.length + 20 ≤ n) (hb : l.length < 2 ^ 60) :
    Cal [] W (qat Try.prog pol sums n (.func (.func 62) [] []) [.agg (qcd p), v]) (fun r N => ∃ a b, r = .tuple [a, b] ∧ N = [.rows strC 1 a (qa1 l p), .rows strC 1 b (fresh l p)]) := by
  refine qbh (f := 62) (nt := 41) (rs := [.tmp 4, .tmp 5]) (by omega) (by first | assumption | exact S.rest _ (by decide)) Try.func62 rfl rfl rfl rfl fun m h0 T hm aT => ?_
  (repeat first|refine Wk.go ?_|refine qal ?_|intro _)
  rename_i i2
  refine qad (varsR_w S (l := [p]) (by simp; omega) (by simp)) ?_
  rintro r _ rfl
  (repeat first|refine Wk.go ?_|refine qal ?_|intro _)
  have hl := qbe [p]
  simp only [List.length_singleton] at hl
  refine qc2 strC 1 (.sl .nil 0 []) (qc2 strC 1 (.sl .nil 0 []) ?_)
  refine A_loop (fun k L T => ∃ i a b xs ys, k = (qbu [p]).length - i ∧ i ≤ (qbu [p]).length ∧ Lk T 9 (.int .i64 (i : Nat)) ∧ Lk T 7 a ∧ Lk T 8 b ∧ L = [.rows strC 1 a xs, .rows strC 1 b ys, .rows strC 1 r (qbu [p]), .row i2 0 15 (qcd p) true] ∧ xs = ((qbu [p]).take i).filter (· ∈ l) ∧ ys = ((qbu [p]).take i).filter (· ∉ l))
    [1, 4, 5, 6] (qbu [p]).length (by omega) ⟨0, _, _, _, _, rfl, Nat.zero_le _, lkz (by rfl), inferInstance, inferInstance, rfl, rfl, rfl⟩ (by rfl) ?_
  rintro k L T1 ⟨i, a, b, xs, ys, rfl, hi, h9, h7, h8, rfl, hx, hy⟩ hA
  (repeat first|refine Wk.go ?_|refine qal ?_|intro _)
  refine ⟨fun c => ?_, fun c => ?_⟩
  · have c : i < (qbu [p]).length := by simpa using c
    generalize hs : (qbu [p])[i] = s
    have hs' : (qbu [p])[i]? = some s := by rw [List.getElem?_eq_getElem c, hs]
    have e1 : ElAt (qbu [p]) i s := ⟨hs'⟩
    have ht : (qbu [p]).take (i + 1) = (qbu [p]).take i ++ [s] := by rw [List.take_succ_eq_append_getElem c, hs]
    have l1 := List.length_filter_le (· ∈ l) ((qbu [p]).take i)
    have l2 := List.length_filter_le (· ∉ l) ((qbu [p]).take i)
    rw [List.length_take] at l1 l2
    rw [← hx] at l1
    rw [← hy] at l2
    (repeat first|refine Wk.go ?_|refine qal ?_|intro _)
    refine qad (hasR_w S (l := l) s (by omega) hb) ?_
    rintro _ _ ⟨rfl, rfl⟩
    by_cases q : s ∈ l
    · have : Is (decide (s ∈ l)) true := ⟨by simpa using q⟩
      (repeat first|refine Wk.go ?_|refine qal ?_|intro _)
      refine lend ((qbu [p]).length - (i + 1)) _ (by omega) ⟨i + 1, _, _, xs ++ [s], ys, rfl, c, inferInstance, inferInstance, inferInstance, rfl, ?_, ?_⟩ <;> simp [ht, q, hx, hy]
    · have : Is (decide (s ∈ l)) false := ⟨by simpa using q⟩
      (repeat first|refine Wk.go ?_|refine qal ?_|intro _)
      refine lend ((qbu [p]).length - (i + 1)) _ (by omega) ⟨i + 1, _, _, xs, ys ++ [s], rfl, c, inferInstance, inferInstance, inferInstance, rfl, ?_, ?_⟩ <;> simp [ht, q, hx, hy]
  · have c : i = (qbu [p]).length := by
      have : ¬ i < (qbu [p]).length := by simpa using c
      omega
    subst c
    rw [List.take_length] at hx hy
    rw [hx, hy, show (qbu [p]).filter (· ∈ l) = qa1 l p from rfl, show (qbu [p]).filter (· ∉ l) = fresh l p from rfl]
    (repeat first|refine Wk.go ?_|refine qal ?_|intro _)
    exact fin ⟨_, _, rfl, rfl⟩
theorem mayR_w (S : S27' pol sums) {n : Nat} {W : List Ck} (op : Int) (k : Nat) (hn : 2 ≤ n) :
    Cal [] W (qat Try.prog pol sums n (.func (.func 64) [] []) [.int .i64 op, .int .i64 (k : Nat)]) (fun r N => r = .bool (mayZ op k) ∧ N = []) := by
  refine qbh (f := 64) (nt := 23) (rs := [.tmp 4]) (by omega) (by first | assumption | exact S.rest _ (by decide)) Try.func64 rfl rfl rfl rfl fun m h0 T hm aT => ?_
  by_cases c1 : op = 1
  · have : Is (op == 1) true := ⟨by simp [c1]⟩
    (repeat first|refine Wk.go ?_|refine qal ?_|intro _)
    exact fin ⟨by simp [mayZ, c1], rfl⟩
  have : Is (op == 1) false := ⟨by simp [c1]⟩
  by_cases c2 : op = 2
  · have : Is (op == 2) true := ⟨by simp [c2]⟩
    have : Is (op == 3) false := ⟨by simp [c2]⟩
    by_cases c3 : 0 < k
    · have : Is (decide ((k : Int) > 0)) true := ⟨by simp; omega⟩
      (repeat first|refine Wk.go ?_|refine qal ?_|intro _)
      exact fin ⟨by simp [mayZ, c2, c3], rfl⟩
    · have : Is (decide ((k : Int) > 0)) false := ⟨by simp; omega⟩
      (repeat first|refine Wk.go ?_|refine qal ?_|intro _)
      exact fin ⟨by simp [mayZ, c2, c3], rfl⟩
  have : Is (op == 2) false := ⟨by simp [c2]⟩
  by_cases c3 : op = 3
  · have : Is (op == 3) true := ⟨by simp [c3]⟩
    (repeat first|refine Wk.go ?_|refine qal ?_|intro _)
    exact fin ⟨by simp [mayZ, c3]; rw [Bool.eq_iff_iff]; simp; omega, rfl⟩
  have : Is (op == 3) false := ⟨by simp [c3]⟩
  (repeat first|refine Wk.go ?_|refine qal ?_|intro _)
  exact fin ⟨by simp [mayZ, c1, c2, c3], rfl⟩
end Go.Am
