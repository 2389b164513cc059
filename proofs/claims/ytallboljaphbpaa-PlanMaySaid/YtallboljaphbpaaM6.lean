/- PlanMay: for every input the law returns true, and each argument reads behind the call as it read before. No condition. -/
import Derived.Test.YtallboljaphbpaaM5
set_option linter.unusedVariables false
set_option linter.unusedSimpArgs false
namespace Go.Am
open Go Go.Proofs AM
set_option maxRecDepth 10000
set_option synthInstance.maxHeartbeats 200000
set_option synthInstance.maxSize 2000
set_option linter.unusedVariables false
variable {pol : Pol} {sums : Sums}

attribute [local irreducible] ACo AK AT qb8 ARs Fin Cal KLp KFun
abbrev strC (s : Str) : List AV := [.str s]
instance : FL strC 1 := ⟨fun _ => rfl⟩
instance : FOne strC := ⟨fun _ => rfl⟩
instance {s : Str} : Enc [.str s] strC s := ⟨rfl⟩

theorem has_w (hs : sums 44 = none) {n : Nat} {W : List Ck} {v : AV} {l : List Str} (s : Str) [HasRows [] W v strC 1 l] (hn : l.length + 1 < n) (hb : l.length < 2 ^ 60) :
    Cal [] W (qbt Try.prog pol sums n (.func (.func 44) [] []) [v, .str s]) (fun r N => r = .bool (decide (s ∈ l)) ∧ N = []) := by
  refine Cal_fn (f := 44) (nt := 18) (rs := [.tmp 4]) (by omega) (by first | assumption | exact S.rest _ (by decide)) Try.func44 rfl rfl rfl rfl fun m h0 T hm aT => ?_
  (repeat first | refine Wk.go ?_ | refine And.intro (by first | omega | exact rfl | trivial | exact S.lit _ _ | kernel_rfl) ?_ | intro _)
  refine A_loop (fun k L T => ∃ i, k = l.length - i ∧ i ≤ l.length ∧ L = [] ∧ Lk T 5 (.int .i64 (i : Nat)) ∧ ∀ j, j < i → l[j]? ≠ some s) [0, 1] l.length (by omega) ⟨0, rfl, Nat.zero_le _, rfl, lkz (by rfl), fun j hj => by omega⟩ (by rfl) ?_
  rintro k L T1 ⟨i, rfl, hi, rfl, h5, hall⟩ hA
  (repeat first | refine Wk.go ?_ | refine And.intro (by first | omega | exact rfl | trivial | exact S.lit _ _ | kernel_rfl) ?_ | intro _)
  refine ⟨fun c => ?_, fun c => ?_⟩
  · have c : i < l.length := by simpa using c
    have : ElAt l i l[i] := ⟨List.getElem?_eq_getElem c⟩
    (repeat first | refine Wk.go ?_ | refine And.intro (by first | omega | exact rfl | trivial | exact S.lit _ _ | kernel_rfl) ?_ | intro _)
    refine ⟨fun e => ?_, fun e => ?_⟩
    · have e : l[i] = s := by simpa using e
      (repeat first | refine Wk.go ?_ | refine And.intro (by first | omega | exact rfl | trivial | exact S.lit _ _ | kernel_rfl) ?_ | intro _)
      exact fin ⟨by simp [← e], rfl⟩
    · have e : l[i] ≠ s := by simpa using e
      (repeat first | refine Wk.go ?_ | refine And.intro (by first | omega | exact rfl | trivial | exact S.lit _ _ | kernel_rfl) ?_ | intro _)
      refine lend (l.length - (i + 1)) _ (by omega) ⟨i + 1, rfl, c, rfl, inferInstance, fun j hj => ?_⟩
      by_cases q : j = i
      · subst q; simp [c, e]
      · exact hall j (by omega)
  · have c : ¬ i < l.length := by simpa using c
    (repeat first | refine Wk.go ?_ | refine And.intro (by first | omega | exact rfl | trivial | exact S.lit _ _ | kernel_rfl) ?_ | intro _)
    refine fin ⟨?_, rfl⟩
    rw [decide_eq_false]
    intro q
    obtain ⟨j, hj, e⟩ := List.getElem_of_mem q
    exact hall j (by omega) (by rw [List.getElem?_eq_getElem hj, e])
end Go.Am
namespace Go.Am
open Go Go.Proofs AM
set_option maxRecDepth 10000
set_option synthInstance.maxHeartbeats 200000
set_option synthInstance.maxSize 2000
set_option linter.unusedVariables false
variable {pol : Pol} {sums : Sums}
attribute [local irreducible] ACo AK AT qb8 ARs Fin Cal KLp KFun

abbrev intC (i : Int) : List AV := [.int .i64 i]
instance : FL intC 1 := ⟨fun _ => rfl⟩
instance : FOne intC := ⟨fun _ => rfl⟩
instance {i : Int} : Enc [.int .i64 i] intC i := ⟨rfl⟩
instance : FL ptnC 15 := ⟨fun _ => rfl⟩
instance : FOne ptnC := ⟨fun _ => rfl⟩
instance enc_ptn {p : Ptn} : Enc (ptnC p) ptnC p := ⟨rfl⟩
theorem flat_str : ∀ l : List Str, qc3 strC l = strs l
  | [] => rfl
  | s :: l => by rw [qc6, flat_str l]; rfl
theorem flat_int : ∀ l : List Int, qc3 intC l = ints l
  | [] => rfl
  | s :: l => by rw [qc6, flat_int l]; rfl
theorem Strs.rows {h : Hp} {v : AV} {l : List Str} (s : Strs h v l) : Rows strC 1 h v l := by show SlV _ _ _ _ _; rw [flat_str]; exact s
theorem Ints.rows {h : Hp} {v : AV} {l : List Int} (s : Ints h v l) : Rows intC 1 h v l := by show SlV _ _ _ _ _; rw [flat_int]; exact s
theorem HasRows.strs {W : List Ck} {v : AV} {l : List Str} (a : HasRows [] W v strC 1 l) {h : Hp} (k : ∀ c ∈ W, c.p h) : Strs h v l := by show SlV _ _ _ _ _; rw [← flat_str]; exact a.has h k
theorem HasRows.ints {W : List Ck} {v : AV} {l : List Int} (a : HasRows [] W v intC 1 l) {h : Hp} (k : ∀ c ∈ W, c.p h) : Ints h v l := by show SlV _ _ _ _ _; rw [← flat_int]; exact a.has h k

theorem vars_w (S : S27' pol sums) {n : Nat} {W : List Ck} {v : AV} {l : List Ptn} [a : HasRows [] W v ptnC 15 l] (hn : l.length + 7 ≤ n) (hb : l.length < 2 ^ 30) :
    Cal [] W (qbt Try.prog pol sums n (.func (.func 27) [] []) [v]) (fun r N => N = [.rows strC 1 r (qcz l)]) :=
  Cal.of fun h w k => (vars_spec S.lit (S.rest _ (by decide)) (S.rest _ (by decide)) (S.rest _ (by decide)) S.has hn (a.has h k) hb).mono fun r h' ⟨k1, s, g, f⟩ =>
    ⟨k1, _, rfl, fun c hc => by rcases List.mem_singleton.1 hc with rfl; exact ⟨s.rows, g⟩, by simp [cids, Ck.rows, vids_nodup], by simpa [cids, Ck.rows] using f⟩

theorem parts_w (S : S27' pol sums) {n : Nat} {W : List Ck} {mid c : Nat} {es : List (AV × AV)} {l : List Str} [a : HasMap [] W mid es] (hc : Counts c es l) (p : Ptn) (hn : 10 ≤ n) :
    Cal [] W (qbt Try.prog pol sums n (.func (.func 48) [] []) [.agg [.mapv mid], .agg (ptnC p)]) (fun r N => ∃ a b, r = .tuple [a, b] ∧ N = [.rows strC 1 a (qb4 l p), .rows strC 1 b (fresh l p)]) := by
  refine Cal_fn (f := 48) (nt := 32) (rs := [.tmp 4, .tmp 5]) (by omega) (by first | assumption | exact S.rest _ (by decide)) Try.func48 rfl rfl rfl rfl fun m h0 T hm aT => ?_
  (repeat first | refine Wk.go ?_ | refine And.intro (by first | omega | exact rfl | trivial | exact S.lit _ _ | kernel_rfl) ?_ | intro _)
  refine qcr (vars_w S (l := [p]) (by simp; omega) (by simp)) ?_
  rintro r _ rfl
  (repeat first | refine Wk.go ?_ | refine And.intro (by first | omega | exact rfl | trivial | exact S.lit _ _ | kernel_rfl) ?_ | intro _)
  rename_i i2 i3
  have hl := qct [p]
  simp only [List.length_singleton] at hl
  refine aco_nil strC 1 (.sl .nil 0 []) (aco_nil strC 1 (.sl .nil 0 []) ?_)
  refine A_loop (fun k L T => ∃ i a b xs ys, k = (qcz [p]).length - i ∧ i ≤ (qcz [p]).length ∧ Lk T 12 (.int .i64 (i : Nat)) ∧ Lk T 4 a ∧ Lk T 5 b ∧ L = [.rows strC 1 a xs, .rows strC 1 b ys, .rows strC 1 r (qcz [p]), .row i3 0 15 (ptnC p) true, .row i2 0 1 [.mapv mid] true] ∧ xs = ((qcz [p]).take i).filter (· ∈ l) ∧ ys = ((qcz [p]).take i).filter (· ∉ l))
    [2, 10, 11] (qcz [p]).length (by omega) ⟨0, _, _, _, _, rfl, Nat.zero_le _, lkz (by rfl), inferInstance, inferInstance, rfl, rfl, rfl⟩ (by rfl) ?_
  rintro k L T1 ⟨i, a, b, xs, ys, rfl, hi, h12, h4, h5, rfl, hx, hy⟩ hA
  (repeat first | refine Wk.go ?_ | refine And.intro (by first | omega | exact rfl | trivial | exact S.lit _ _ | kernel_rfl) ?_ | intro _)
  refine ⟨fun c => ?_, fun c => ?_⟩
  · have c : i < (qcz [p]).length := by simpa using c
    generalize hs : (qcz [p])[i] = s
    have hs' : (qcz [p])[i]? = some s := by rw [List.getElem?_eq_getElem c, hs]
    have e1 : ElAt (qcz [p]) i s := ⟨hs'⟩
    have ht : (qcz [p]).take (i + 1) = (qcz [p]).take i ++ [s] := by rw [List.take_succ_eq_append_getElem c, hs]
    have l1 := List.length_filter_le (· ∈ l) ((qcz [p]).take i)
    have l2 := List.length_filter_le (· ∉ l) ((qcz [p]).take i)
    rw [List.length_take] at l1 l2
    rw [← hx] at l1
    rw [← hy] at l2
    (repeat first | refine Wk.go ?_ | refine And.intro (by first | omega | exact rfl | trivial | exact S.lit _ _ | kernel_rfl) ?_ | intro _)
    by_cases q : s ∈ l
    · obtain ⟨z, hz, z0, z1⟩ := (hc.find s).1 q
      have := FindS.mk hz
      (repeat first | refine Wk.go ?_ | refine And.intro (by first | omega | exact rfl | trivial | exact S.lit _ _ | kernel_rfl) ?_ | intro _)
      refine condT (by simp; omega) ?_
      (repeat first | refine Wk.go ?_ | refine And.intro (by first | omega | exact rfl | trivial | exact S.lit _ _ | kernel_rfl) ?_ | intro _)
      refine lend ((qcz [p]).length - (i + 1)) _ (by omega) ⟨i + 1, _, _, xs ++ [s], ys, rfl, c, inferInstance, inferInstance, inferInstance, rfl, ?_, ?_⟩ <;> simp [ht, q, hx, hy]
    · have := FindN.mk ((hc.find s).2 q)
      (repeat first | refine Wk.go ?_ | refine And.intro (by first | omega | exact rfl | trivial | exact S.lit _ _ | kernel_rfl) ?_ | intro _)
      refine condF (by rfl) ?_
      (repeat first | refine Wk.go ?_ | refine And.intro (by first | omega | exact rfl | trivial | exact S.lit _ _ | kernel_rfl) ?_ | intro _)
      refine lend ((qcz [p]).length - (i + 1)) _ (by omega) ⟨i + 1, _, _, xs, ys ++ [s], rfl, c, inferInstance, inferInstance, inferInstance, rfl, ?_, ?_⟩ <;> simp [ht, q, hx, hy]
  · have c : i = (qcz [p]).length := by
      have : ¬ i < (qcz [p]).length := by simpa using c
      omega
    subst c
    rw [List.take_length] at hx hy
    rw [hx, hy, show (qcz [p]).filter (· ∈ l) = qb4 l p from rfl, show (qcz [p]).filter (· ∉ l) = fresh l p from rfl]
    (repeat first | refine Wk.go ?_ | refine And.intro (by first | omega | exact rfl | trivial | exact S.lit _ _ | kernel_rfl) ?_ | intro _)
    exact fin ⟨_, _, rfl, rfl⟩

theorem learn_w (S : S27' pol sums) {n : Nat} {W : List Ck} {mid c : Nat} {es : List (AV × AV)} {l names : List Str} {v : AV} [a : HasRows [] W v strC 1 names] (hc : Counts c es l) (hn : names.length + 2 ≤ n) (hb : c + names.length < 2 ^ 62) :
    Cal [.map mid es] W (qbt Try.prog pol sums n (.func (.func 26) [] []) [.agg [.mapv mid], v]) (fun _ N => ∃ es', N = [.map mid es'] ∧ Counts (c + names.length) es' (names.foldl qdb l)) := by
  refine Cal_fn (f := 26) (nt := 18) (rs := []) (by omega) (by first | assumption | exact S.rest _ (by decide)) Try.func26 rfl rfl rfl rfl fun m h0 T hm aT => ?_
  (repeat first | refine Wk.go ?_ | refine And.intro (by first | omega | exact rfl | trivial | exact S.lit _ _ | kernel_rfl) ?_ | intro _)
  rename_i i2
  refine A_loop (fun k L T => ∃ i es', k = names.length - i ∧ i ≤ names.length ∧ Lk T 8 (.int .i64 (i : Nat)) ∧ L = [.row i2 0 1 [.mapv mid] true, .map mid es'] ∧ Counts (c + i) es' ((names.take i).foldl qdb l))
    [2, 6, 7] names.length (by omega) ⟨0, _, rfl, Nat.zero_le _, lkz (by rfl), rfl, hc⟩ (by rfl) ?_
  rintro k L T1 ⟨i, es', rfl, hi, h8, rfl, hc'⟩ hA
  (repeat first | refine Wk.go ?_ | refine And.intro (by first | omega | exact rfl | trivial | exact S.lit _ _ | kernel_rfl) ?_ | intro _)
  refine ⟨fun e => ?_, fun e => ?_⟩
  · have e : i < names.length := by simpa using e
    generalize hs : names[i] = s
    have e1 : ElAt names i s := ⟨by rw [List.getElem?_eq_getElem e, hs]⟩
    have ht : names.take (i + 1) = names.take i ++ [s] := by rw [List.take_succ_eq_append_getElem e, hs]
    have hf : (names.take (i + 1)).foldl qdb l = qdb ((names.take i).foldl qdb l) s := by rw [ht, List.foldl_append]; rfl
    (repeat first | refine Wk.go ?_ | refine And.intro (by first | omega | exact rfl | trivial | exact S.lit _ _ | kernel_rfl) ?_ | intro _)
    by_cases q : s ∈ (names.take i).foldl qdb l
    · obtain ⟨z, hz, z0, z1⟩ := (hc'.find s).1 q
      have := FindS.mk hz
      (repeat first | refine Wk.go ?_ | refine And.intro (by first | omega | exact rfl | trivial | exact S.lit _ _ | kernel_rfl) ?_ | intro _)
      have hq := hc'.upd s (z + 1) (by omega)
      rw [← hf] at hq
      exact lend (names.length - (i + 1)) _ (by omega) ⟨i + 1, _, rfl, e, inferInstance, rfl, hq⟩
    · have := FindN.mk ((hc'.find s).2 q)
      (repeat first | refine Wk.go ?_ | refine And.intro (by first | omega | exact rfl | trivial | exact S.lit _ _ | kernel_rfl) ?_ | intro _)
      have hq := hc'.upd s 1 (by omega)
      rw [← hf, show ((1 : Nat) : Int) = 0 + 1 from rfl] at hq
      exact lend (names.length - (i + 1)) _ (by omega) ⟨i + 1, _, rfl, e, inferInstance, rfl, hq⟩
  · have e : i = names.length := by
      have : ¬ i < names.length := by simpa using e
      omega
    subst e
    rw [List.take_length] at hc'
    (repeat first | refine Wk.go ?_ | refine And.intro (by first | omega | exact rfl | trivial | exact S.lit _ _ | kernel_rfl) ?_ | intro _)
    exact fin ⟨_, rfl, hc'⟩

theorem each_w (S : S27' pol sums) {n : Nat} {W : List Ck} {ov qv pv : AV} {α : Type} {f : α → List AV} {sz : Nat} {l : List α} [a : HasRows [] W pv f sz l] (hn : 1 ≤ n) :
    Cal [] W (qbt Try.prog pol sums n (.func (.func 21) [] []) [.agg [ov, qv], pv]) (fun r N => ∃ ip iq, r = .func (.func 47) [] [.ptr ip 0 0, .ptr iq 0 0] ∧ N = [.row iq 0 1 [pv] true, .row ip 0 2 [ov, qv] true]) := by
  refine Cal_fn (f := 21) (nt := 6) (rs := [.tmp 4]) (by omega) (by first | assumption | exact S.rest _ (by decide)) Try.func21 rfl rfl rfl rfl fun m h0 T hm aT => ?_
  (repeat first | refine Wk.go ?_ | refine And.intro (by first | omega | exact rfl | trivial | exact S.lit _ _ | kernel_rfl) ?_ | intro _)
  exact fin ⟨_, _, rfl, rfl⟩

abbrev stepL (place op : Int) (p : Ptn) (sv fv : AV) : List AV := [.int .i64 place, .int .i64 op, .str p.s.var, .int .i64 p.s.term.kind, .str p.s.term.a, .str p.s.term.b, .str p.s.term.c, .str p.p.var, .int .i64 p.p.term.kind, .str p.p.term.a, .str p.p.term.b, .str p.p.term.c, .str p.o.var, .int .i64 p.o.term.kind, .str p.o.term.a, .str p.o.term.b, .str p.o.term.c, sv, fv]
theorem each1_w (S : S27' pol sums) {n : Nat} {W C : List Ck} {ip iq : Nat} {ov qv pv Y : AV} {order : List Nat} {ops : List Int} {pats : List Ptn} [qdu [] W ip 0 2 [ov, qv] true] [qdu [] W iq 0 1 [pv] true] [HasRows [] W ov intC 1 (zs order)] [HasRows [] W qv intC 1 ops] [HasRows [] W pv ptnC 15 pats]
    (hn : order.length + pats.length + 20 ≤ n) (hb : order.length < 2 ^ 30) (hor : ∀ i ∈ order, i < pats.length) (hol : ops.length = order.length)
    (J : Nat → List Ck → Prop) (Stop : List Ck → Prop) (hJ : J 0 C)
    (hY : ∀ i j op p (E C' : List Ck) m sv fv, order[i]? = some j → pats[j]? = some p → ops[i]? = some op → n ≤ m + 3 → J i C' → HasRows [] E sv strC 1 (qb4 (qbo pats order i) p) → HasRows [] E fv strC 1 (fresh (qbo pats order i) p) →
      Cal C' (E ++ W) (qbt Try.prog pol sums m Y [.int .i64 (i : Nat), .agg (stepL (j : Nat) op p sv fv)]) fun v N => ∃ b, v = .bool b ∧ (b = true → J (i + 1) N) ∧ (b = false → Stop N)) :
    Cal C W (qbt Try.prog pol sums n (.func (.func 47) [] [.ptr ip 0 0, .ptr iq 0 0]) [Y]) (fun _ N => J order.length N ∨ Stop N) := by
  refine Cal_fn (f := 47) (nt := 50) (rs := []) (by omega) (by first | assumption | exact S.rest _ (by decide)) Try.func47 rfl rfl rfl rfl fun m h0 T hm aT => ?_
  (repeat first | refine Wk.go ?_ | refine And.intro (by first | omega | exact rfl | trivial | exact S.lit _ _ | kernel_rfl) ?_ | intro _)
  rename_i mid i4
  have hz : (zs order).length = order.length := qcp order
  refine A_loop (fun k L T => ∃ i es C', k = order.length - i ∧ i ≤ order.length ∧ Lk T 15 (.int .i64 (i : Nat)) ∧ L = .row i4 0 1 [.mapv mid] true :: .map mid es :: C' ∧ Counts (3 * i) es (qbo pats order i) ∧ J i C')
    [0, 1, 2, 4, 13, 14] order.length (by omega) ⟨0, [], _, rfl, Nat.zero_le _, lkz (by rfl), rfl, ⟨rfl, fun e h => by cases h⟩, hJ⟩ (by rfl) ?_
  rintro k L T1 ⟨i, es, C', rfl, hi, h15, rfl, hc, hJi⟩ hA
  (repeat first | refine Wk.go ?_ | refine And.intro (by first | omega | exact rfl | trivial | exact S.lit _ _ | kernel_rfl) ?_ | intro _)
  refine ⟨fun e => ?_, fun e => ?_⟩
  · have e : i < order.length := by simpa using e
    generalize hj : order[i] = j
    have hj' : order[i]? = some j := by rw [List.getElem?_eq_getElem e, hj]
    have hjp : j < pats.length := hor j (List.mem_of_getElem? hj')
    generalize hp : pats[j] = p
    have hp' : pats[j]? = some p := by rw [List.getElem?_eq_getElem hjp, hp]
    generalize ho : ops[i]'(by omega) = op
    have ho' : ops[i]? = some op := by rw [List.getElem?_eq_getElem (by omega), ho]
    have e1 : ElAt (zs order) i (j : Int) := ⟨by simp [zs, hj']⟩
    have e2 : ElAt pats j p := ⟨hp'⟩
    have e3 : ElAt ops i op := ⟨ho'⟩
    (repeat first | refine Wk.go ?_ | refine And.intro (by first | omega | exact rfl | trivial | exact S.lit _ _ | kernel_rfl) ?_ | intro _)
    refine qcr (parts_w S hc p (by omega)) ?_
    rintro r _ ⟨sv, fv, rfl, rfl⟩
    (repeat first | refine Wk.go ?_ | refine And.intro (by first | omega | exact rfl | trivial | exact S.lit _ _ | kernel_rfl) ?_ | intro _)
    refine A_drawn [0, 1, 2, 3, 4, 5, 6, 7, 8, 9, 10, 11, 12, 13] [0, 0, 0, 0, 8, 0, 56, 120, 0, 0, 0, 2044, 4095, 8191] (by kernel_rfl) (by kernel_rfl) (by rfl) ?_
    (repeat first | refine Wk.go ?_ | refine And.intro (by first | omega | exact rfl | trivial | exact S.lit _ _ | kernel_rfl) ?_ | intro _)
    refine A_callT (C := C') (by kernel_rfl) (hY i j op p _ C' m sv fv hj' hp' ho' (by omega) hJi (by infer_instance) (by infer_instance)) ?_
    rintro v N ⟨b, rfl, hb1, hb2⟩
    (repeat first | refine Wk.go ?_ | refine And.intro (by first | omega | exact rfl | trivial | exact S.lit _ _ | kernel_rfl) ?_ | intro _)
    refine ⟨fun eb => ?_, fun eb => ?_⟩
    · have eb : b = false := by simpa using eb
      (repeat first | refine Wk.go ?_ | refine And.intro (by first | omega | exact rfl | trivial | exact S.lit _ _ | kernel_rfl) ?_ | intro _)
      exact fin (.inr (hb2 eb))
    · have eb : b = true := by simpa using eb
      (repeat first | refine Wk.go ?_ | refine And.intro (by first | omega | exact rfl | trivial | exact S.lit _ _ | kernel_rfl) ?_ | intro _)
      refine A_drawn [0, 1, 2, 3, 4] [0, 0, 2, 6, 15] (by kernel_rfl) (by kernel_rfl) (by rfl) ?_
      (repeat first | refine Wk.go ?_ | refine And.intro (by first | omega | exact rfl | trivial | exact S.lit _ _ | kernel_rfl) ?_ | intro _)
      refine qcr (vars_w S (l := [p]) (by simp; omega) (by simp)) ?_
      rintro r _ rfl
      (repeat first | refine Wk.go ?_ | refine And.intro (by first | omega | exact rfl | trivial | exact S.lit _ _ | kernel_rfl) ?_ | intro _)
      refine A_call (C := [.map mid es]) (by kernel_rfl) (learn_w S hc (by have := qct [p]; simp at this; omega) (by have := qct [p]; simp at this; omega)) ?_
      rintro r' _ ⟨es', rfl, hc'⟩
      (repeat first | refine Wk.go ?_ | refine And.intro (by first | omega | exact rfl | trivial | exact S.lit _ _ | kernel_rfl) ?_ | intro _)
      have hk := knownAt_succ pats order e (by rw [hj]; exact hjp)
      have hc2 : Counts (3 * (i + 1)) es' (qbo pats order (i + 1)) := by
        rw [hk]
        simp only [hj, hp]
        have := qct [p]
        simp at this
        exact ⟨hc'.1, fun e he => by obtain ⟨z, h1, h2, h3⟩ := hc'.2 e he; exact ⟨z, h1, h2, by omega⟩⟩
      exact lend (order.length - (i + 1)) _ (by omega) ⟨i + 1, es', N, rfl, e, inferInstance, rfl, hc2, hb1 eb⟩
  · have e : i = order.length := by
      have : ¬ i < order.length := by simpa using e
      omega
    subst e
    (repeat first | refine Wk.go ?_ | refine And.intro (by first | omega | exact rfl | trivial | exact S.lit _ _ | kernel_rfl) ?_ | intro _)
    exact fin (.inl hJi)
end Go.Am
namespace Go.Am
open Go Go.Proofs AM
set_option maxRecDepth 10000
set_option synthInstance.maxHeartbeats 200000
set_option synthInstance.maxSize 2000
set_option linter.unusedVariables false
variable {pol : Pol} {sums : Sums}
attribute [local irreducible] ACo AK AT qb8 ARs Fin Cal KLp KFun

theorem right_w (S : S27' pol sums) {n : Nat} {W : List Ck} {ov qv pv : AV} {order ops : List Int} {pats : List Ptn} [a : HasRows [] W ov intC 1 order] [b : HasRows [] W qv intC 1 ops] [c : HasRows [] W pv ptnC 15 pats]
    (hn : order.length + pats.length + 40 ≤ n) (hb : order.length < 2 ^ 30) (hb2 : pats.length < 2 ^ 30) (hb3 : ops.length < 2 ^ 40) (hr : qcw pats order ops = true) :
    Cal [] W (qbt Try.prog pol sums n (.func (.func 9) [] []) [.agg [ov, qv], pv]) (fun r N => r = .int .i64 0 ∧ N = []) :=
  Cal.of0 fun h w k => (right_spec S hn hb hb2 hb3 (a.ints k) (b.ints k) (c.has h k)).mono fun r h' ⟨k1, e⟩ => ⟨k1, by rw [e, hr]; rfl⟩

theorem steps_w (S : S27' pol sums) {n : Nat} {W : List Ck} {ov qv pv : AV} {order ops : List Int} {pats : List Ptn} [HasRows [] W ov intC 1 order] [HasRows [] W qv intC 1 ops] [HasRows [] W pv ptnC 15 pats]
    (hn : order.length + pats.length + 41 ≤ n) (hb : order.length < 2 ^ 30) (hb2 : pats.length < 2 ^ 30) (hb3 : ops.length < 2 ^ 40) (hr : qcw pats order ops = true) :
    Cal [] W (qbt Try.prog pol sums n (.func (.func 39) [] []) [.agg [ov, qv], pv]) (fun r N => ∃ ip iq, r = .func (.func 47) [] [.ptr ip 0 0, .ptr iq 0 0] ∧ N = [.row iq 0 1 [pv] true, .row ip 0 2 [ov, qv] true]) := by
  refine Cal_fn (f := 39) (nt := 12) (rs := [.tmp 4]) (by omega) (by first | assumption | exact S.rest _ (by decide)) Try.func39 rfl rfl rfl rfl fun m h0 T hm aT => ?_
  (repeat first | refine Wk.go ?_ | refine And.intro (by first | omega | exact rfl | trivial | exact S.lit _ _ | kernel_rfl) ?_ | intro _)
  refine qcr (right_w S (order := order) (ops := ops) (pats := pats) (by omega) hb hb2 hb3 hr) ?_
  rintro r _ ⟨rfl, rfl⟩
  (repeat first | refine Wk.go ?_ | refine And.intro (by first | omega | exact rfl | trivial | exact S.lit _ _ | kernel_rfl) ?_ | intro _)
  refine condF (by rfl) ?_
  (repeat first | refine Wk.go ?_ | refine And.intro (by first | omega | exact rfl | trivial | exact S.lit _ _ | kernel_rfl) ?_ | intro _)
  refine qcr (each_w S (by omega)) ?_
  rintro r _ ⟨ip, iq, rfl, rfl⟩
  (repeat first | refine Wk.go ?_ | refine And.intro (by first | omega | exact rfl | trivial | exact S.lit _ _ | kernel_rfl) ?_ | intro _)
  exact fin ⟨_, _, rfl, rfl⟩

theorem shares_w (S : S27' pol sums) {n : Nat} {W : List Ck} {v : AV} {names : List Str} [HasRows [] W v strC 1 names] (p : Ptn) (hn : names.length + 20 ≤ n) (hb : names.length < 2 ^ 40) :
    Cal [] W (qbt Try.prog pol sums n (.func (.func 45) [] []) [.agg (ptnC p), v]) (fun r N => r = .bool (decide (0 < (qb4 names p).length)) ∧ N = []) := by
  refine Cal_fn (f := 45) (nt := 22) (rs := [.tmp 4]) (by omega) (by first | assumption | exact S.rest _ (by decide)) Try.func45 rfl rfl rfl rfl fun m h0 T hm aT => ?_
  (repeat first | refine Wk.go ?_ | refine And.intro (by first | omega | exact rfl | trivial | exact S.lit _ _ | kernel_rfl) ?_ | intro _)
  refine qcr (vars_w S (l := [p]) (by simp; omega) (by simp)) ?_
  rintro r _ rfl
  (repeat first | refine Wk.go ?_ | refine And.intro (by first | omega | exact rfl | trivial | exact S.lit _ _ | kernel_rfl) ?_ | intro _)
  rename_i i2
  have hl := qct [p]
  simp only [List.length_singleton] at hl
  refine A_loop (fun k L T => ∃ i, k = (qcz [p]).length - i ∧ i ≤ (qcz [p]).length ∧ Lk T 6 (.int .i64 (i : Nat)) ∧ L = [.rows strC 1 r (qcz [p]), .row i2 0 15 (ptnC p) true] ∧ ∀ s ∈ (qcz [p]).take i, s ∉ names)
    [1, 5] (qcz [p]).length (by omega) ⟨0, rfl, Nat.zero_le _, lkz (by rfl), rfl, fun s hs => by cases hs⟩ (by rfl) ?_
  rintro k L T1 ⟨i, rfl, hi, h6, rfl, hall⟩ hA
  (repeat first | refine Wk.go ?_ | refine And.intro (by first | omega | exact rfl | trivial | exact S.lit _ _ | kernel_rfl) ?_ | intro _)
  refine ⟨fun c => ?_, fun c => ?_⟩
  · have c : i < (qcz [p]).length := by simpa using c
    generalize hs : (qcz [p])[i] = s
    have hs' : (qcz [p])[i]? = some s := by rw [List.getElem?_eq_getElem c, hs]
    have e1 : ElAt (qcz [p]) i s := ⟨hs'⟩
    (repeat first | refine Wk.go ?_ | refine And.intro (by first | omega | exact rfl | trivial | exact S.lit _ _ | kernel_rfl) ?_ | intro _)
    refine qcr (has_w (S.rest _ (by decide)) s (by omega) (by omega)) ?_
    rintro _ _ ⟨rfl, rfl⟩
    by_cases q : s ∈ names
    · have : Is (decide (s ∈ names)) true := ⟨by simp [q]⟩
      (repeat first | refine Wk.go ?_ | refine And.intro (by first | omega | exact rfl | trivial | exact S.lit _ _ | kernel_rfl) ?_ | intro _)
      refine fin ⟨?_, rfl⟩
      have : s ∈ qb4 names p := List.mem_filter.2 ⟨List.mem_of_getElem? hs', by simpa using q⟩
      rw [decide_eq_true (List.length_pos_of_mem this)]
    · have : Is (decide (s ∈ names)) false := ⟨by simp [q]⟩
      (repeat first | refine Wk.go ?_ | refine And.intro (by first | omega | exact rfl | trivial | exact S.lit _ _ | kernel_rfl) ?_ | intro _)
      refine lend ((qcz [p]).length - (i + 1)) _ (by omega) ⟨i + 1, rfl, c, inferInstance, rfl, fun x hx => ?_⟩
      rw [List.take_succ_eq_append_getElem c, hs, List.mem_append, List.mem_singleton] at hx
      rcases hx with hx | rfl
      · exact hall x hx
      · exact q
  · have c : i = (qcz [p]).length := by
      have : ¬ i < (qcz [p]).length := by simpa using c
      omega
    subst c
    rw [List.take_length] at hall
    (repeat first | refine Wk.go ?_ | refine And.intro (by first | omega | exact rfl | trivial | exact S.lit _ _ | kernel_rfl) ?_ | intro _)
    refine fin ⟨?_, rfl⟩
    have : qb4 names p = [] := List.filter_eq_nil_iff.2 fun s hs => by simpa using hall s hs
    rw [this]; rfl
end Go.Am
namespace Go.Am
open Go Go.Proofs AM
set_option maxRecDepth 10000
set_option synthInstance.maxHeartbeats 200000
set_option synthInstance.maxSize 2000
set_option linter.unusedVariables false
variable {pol : Pol} {sums : Sums}
attribute [local irreducible] ACo AK AT qb8 ARs Fin Cal KLp KFun

/-- the patterns ahead of a step -/
def qc9 (pats : List Ptn) (order : List Nat) (k : Nat) : List Ptn := (order.take k).filterMap fun j => pats[j]?
theorem aheadL_length (pats : List Ptn) (order : List Nat) (k : Nat) : (qc9 pats order k).length ≤ k := by
  have h1 : (qc9 pats order k).length ≤ (order.take k).length := List.length_filterMap_le _ _
  have h2 : (order.take k).length ≤ k := List.length_take_le _ _
  omega
theorem aheadL_succ {pats : List Ptn} {order : List Nat} {k j : Nat} {p : Ptn} (h1 : order[k]? = some j) (h2 : pats[j]? = some p) : qc9 pats order (k + 1) = qc9 pats order k ++ [p] := by
  obtain ⟨hk, rfl⟩ := List.getElem?_eq_some_iff.1 h1
  unfold qc9
  rw [List.take_succ_eq_append_getElem hk, List.filterMap_append]
  simp [h2]

theorem zs_at {order : List Nat} {k j : Nat} (h : order[k]? = some j) : ElAt (zs order) k (j : Int) := ⟨by simp [zs, h]⟩
theorem near_w (S : S27' pol sums) {n : Nat} {W : List Ck} {ov qv pv : AV} {order : List Nat} {pats : List Ptn} [HasRows [] W ov intC 1 (zs order)] [HasRows [] W pv ptnC 15 pats]
    (hn : 4 * order.length + 50 ≤ n) (hb : order.length < 2 ^ 28) (hor : ∀ i ∈ order, i < pats.length)
    (hnear : ∀ k j p, 1 ≤ k → order[k]? = some j → pats[j]? = some p → 0 < (qb4 (qcz (qc9 pats order k)) p).length ∨ (qcz [p]).length = 0 ∨ ∀ i j' p', k < i → order[i]? = some j' → pats[j']? = some p' → ¬ 0 < (qb4 (qcz (qc9 pats order k)) p').length) :
    Cal [] W (qbt Try.prog pol sums n (.func (.func 16) [] []) [.agg [ov, qv], pv]) (fun r N => r = .bool true ∧ N = []) := by
  have hz : (zs order).length = order.length := qcp order
  have get : ∀ k, k < order.length → ∃ j p, order[k]? = some j ∧ pats[j]? = some p := fun k hk =>
    ⟨order[k], pats[order[k]]'(hor _ (List.getElem_mem hk)), List.getElem?_eq_getElem hk, List.getElem?_eq_getElem _⟩
  refine Cal_fn (f := 16) (nt := 78) (rs := [.tmp 4]) (by omega) (by first | assumption | exact S.rest _ (by decide)) Try.func16 rfl rfl rfl rfl fun m h0 T hm aT => ?_
  (repeat first | refine Wk.go ?_ | refine And.intro (by first | omega | exact rfl | trivial | exact S.lit _ _ | kernel_rfl) ?_ | intro _)
  rename_i i2
  refine A_loop (fun d L T => ∃ k, d = order.length + 1 - k ∧ 1 ≤ k ∧ k ≤ order.length + 1 ∧ Lk T 5 (.int .i64 (k : Nat)) ∧ L = [.row i2 0 2 [ov, qv] true])
    [1, 2] (order.length) (by omega) ⟨1, by omega, by omega, by omega, lkz (by rfl), rfl⟩ (by rfl) ?_
  rintro d L T1 ⟨k, rfl, hk1, hk2, h5, rfl⟩ hA
  (repeat first | refine Wk.go ?_ | refine And.intro (by first | omega | exact rfl | trivial | exact S.lit _ _ | kernel_rfl) ?_ | intro _)
  refine ⟨fun c => ?_, fun c => ?_⟩
  rotate_left
  · (repeat first | refine Wk.go ?_ | refine And.intro (by first | omega | exact rfl | trivial | exact S.lit _ _ | kernel_rfl) ?_ | intro _)
    exact fin ⟨rfl, rfl⟩
  have c : k < order.length := by rw [hz] at c; simpa using c
  (repeat first | refine Wk.go ?_ | refine And.intro (by first | omega | exact rfl | trivial | exact S.lit _ _ | kernel_rfl) ?_ | intro _)
  refine aco_nil ptnC 15 (.sl .nil 0 []) ?_
  refine A_loop (fun d L T => ∃ i av, d = k - i ∧ i ≤ k ∧ Lk T 7 (.int .i64 (i : Nat)) ∧ Lk T 6 av ∧ L = [.rows ptnC 15 av (qc9 pats order i), .row i2 0 2 [ov, qv] true])
    [1, 2, 4, 5, 10, 11, 12, 13, 14] k (by omega) ⟨0, _, rfl, Nat.zero_le _, lkz (by rfl), inferInstance, rfl⟩ (by rfl) ?_
  rintro d L T2 ⟨i, av, rfl, hi, h7, h6, rfl⟩ hA2
  (repeat first | refine Wk.go ?_ | refine And.intro (by first | omega | exact rfl | trivial | exact S.lit _ _ | kernel_rfl) ?_ | intro _)
  refine ⟨fun c2 => ?_, fun c2 => ?_⟩
  · have c2 : i < k := by simpa using c2
    obtain ⟨j, p, hj, hp⟩ := get i (by omega)
    have := zs_at hj
    have := ElAt.mk hp
    have hjl : j < pats.length := (List.getElem?_eq_some_iff.1 hp).1
    have hal := aheadL_length pats order i
    (repeat first | refine Wk.go ?_ | refine And.intro (by first | omega | exact rfl | trivial | exact S.lit _ _ | kernel_rfl) ?_ | intro _)
    refine lend (k - (i + 1)) _ (by omega) ⟨i + 1, _, rfl, c2, inferInstance, inferInstance, by rw [aheadL_succ hj hp]⟩
  have c2 : i = k := by
    have : ¬ i < k := by simpa using c2
    omega
  subst c2
  obtain ⟨j, p, hj, hp⟩ := get i c
  have := zs_at hj
  have := ElAt.mk hp
  have hjl : j < pats.length := (List.getElem?_eq_some_iff.1 hp).1
  have hal := aheadL_length pats order i
  have hvl := qct (qc9 pats order i)
  (repeat first | refine Wk.go ?_ | refine And.intro (by first | omega | exact rfl | trivial | exact S.lit _ _ | kernel_rfl) ?_ | intro _)
  refine qcr (vars_w S (l := qc9 pats order i) (by omega) (by omega)) ?_
  rintro nv _ rfl
  (repeat first | refine Wk.go ?_ | refine And.intro (by first | omega | exact rfl | trivial | exact S.lit _ _ | kernel_rfl) ?_ | intro _)
  refine qcr (shares_w S (names := qcz (qc9 pats order i)) p (by omega) (by omega)) ?_
  rintro _ _ ⟨rfl, rfl⟩
  by_cases q1 : 0 < (qb4 (qcz (qc9 pats order i)) p).length
  · have : Is (decide (0 < (qb4 (qcz (qc9 pats order i)) p).length)) true := ⟨by simpa using q1⟩
    (repeat first | refine Wk.go ?_ | refine And.intro (by first | omega | exact rfl | trivial | exact S.lit _ _ | kernel_rfl) ?_ | intro _)
    exact lend (order.length + 1 - (i + 1)) _ (by omega) ⟨i + 1, rfl, by omega, by omega, inferInstance, rfl⟩
  have : Is (decide (0 < (qb4 (qcz (qc9 pats order i)) p).length)) false := ⟨by simpa using q1⟩
  (repeat first | refine Wk.go ?_ | refine And.intro (by first | omega | exact rfl | trivial | exact S.lit _ _ | kernel_rfl) ?_ | intro _)
  refine qcr (vars_w S (l := [p]) (by simp; omega) (by simp)) ?_
  rintro nv1 _ rfl
  by_cases q2 : (qcz [p]).length = 0
  · have : Is (((qcz [p]).length : Int) == 0) true := ⟨by simp [q2]⟩
    (repeat first | refine Wk.go ?_ | refine And.intro (by first | omega | exact rfl | trivial | exact S.lit _ _ | kernel_rfl) ?_ | intro _)
    exact lend (order.length + 1 - (i + 1)) _ (by omega) ⟨i + 1, rfl, by omega, by omega, inferInstance, rfl⟩
  have : Is (((qcz [p]).length : Int) == 0) false := ⟨by simp; intro e; exact q2 (by rw [e]; rfl)⟩
  have hlast := ((hnear i j p hk1 hj hp).resolve_left q1).resolve_left q2
  (repeat first | refine Wk.go ?_ | refine And.intro (by first | omega | exact rfl | trivial | exact S.lit _ _ | kernel_rfl) ?_ | intro _)
  refine A_loopS (fun d L T => ∃ x, d = order.length - x ∧ i < x ∧ x ≤ order.length ∧ Lk T 9 (.int .i64 (x : Nat)) ∧ L = [.rows strC 1 nv (qcz (qc9 pats order i)), .row i2 0 2 [ov, qv] true])
    [1, 2, 5, 10, 11, 12, 13, 14, 6, 7, 17, 18, 19, 22, 23, 24, 25, 26, 27, 28, 29, 30, 31, 32, 20, 21, 33, 34, 8, 35, 36, 37, 38, 39, 40, 41, 42, 43, 44, 45, 46, 47, 48, 49, 50, 51, 52, 53, 54, 55, 56, 57, 58, 59, 60] (order.length - (i + 1)) (by omega) ⟨i + 1, rfl, by omega, by omega, inferInstance, rfl⟩ (by rfl) ?_
  rintro d L T3 ⟨x, rfl, hx1, hx2, h9, rfl⟩ hA3
  (repeat first | refine Wk.go ?_ | refine And.intro (by first | omega | exact rfl | trivial | exact S.lit _ _ | kernel_rfl) ?_ | intro _)
  refine ⟨fun c3 => ?_, fun c3 => ?_⟩
  · have c3 : x < order.length := by rw [hz] at c3; simpa using c3
    obtain ⟨j', p', hj', hp'⟩ := get x c3
    have := zs_at hj'
    have := ElAt.mk hp'
    have hjl' : j' < pats.length := (List.getElem?_eq_some_iff.1 hp').1
    have hno := hlast x j' p' hx1 hj' hp'
    (repeat first | refine Wk.go ?_ | refine And.intro (by first | omega | exact rfl | trivial | exact S.lit _ _ | kernel_rfl) ?_ | intro _)
    refine qcr (shares_w S (names := qcz (qc9 pats order i)) p' (by omega) (by omega)) ?_
    rintro _ _ ⟨rfl, rfl⟩
    have : Is (decide (0 < (qb4 (qcz (qc9 pats order i)) p').length)) false := ⟨by simpa using hno⟩
    (repeat first | refine Wk.go ?_ | refine And.intro (by first | omega | exact rfl | trivial | exact S.lit _ _ | kernel_rfl) ?_ | intro _)
    exact lend (order.length - (x + 1)) _ (by omega) ⟨x + 1, rfl, by omega, c3, inferInstance, rfl⟩
  · (repeat first | refine Wk.go ?_ | refine And.intro (by first | omega | exact rfl | trivial | exact S.lit _ _ | kernel_rfl) ?_ | intro _)
    exact lend (order.length + 1 - (i + 1)) _ (by omega) ⟨i + 1, rfl, by omega, by omega, inferInstance, rfl⟩
end Go.Am
namespace Go.Am
open Go Go.Proofs AM
set_option maxRecDepth 10000
set_option synthInstance.maxHeartbeats 400000
set_option synthInstance.maxSize 4000
set_option linter.unusedVariables false
variable {pol : Pol} {sums : Sums}

def andO (o k : Option Bool) : Option Bool := match o with
  | some true => k
  | some false => some false
  | none => none
theorem andO_some (a b : Bool) : andO (some a) (some b) = some (a && b) := by cases a <;> rfl
def trmO (a b : Trm) : Option Bool := andO (some (a.kind == b.kind)) (andO (some (a.a == b.a)) (andO (some (a.b == b.b)) (andO (some (a.c == b.c)) (some true))))
def sltO (a b : Slt) : Option Bool := andO (some (a.var == b.var)) (andO (trmO a.term b.term) (some true))
theorem trmO_eq (a b : Trm) : trmO a b = some (decide (a = b)) := by
  obtain ⟨k, x, y, z⟩ := a
  obtain ⟨k', x', y', z'⟩ := b
  simp only [trmO, andO_some]
  congr 1
  rw [Bool.eq_iff_iff]
  simp
theorem sltO_eq (a b : Slt) : sltO a b = some (decide (a = b)) := by
  obtain ⟨v, t⟩ := a
  obtain ⟨v', t'⟩ := b
  simp only [sltO, trmO_eq, andO_some]
  congr 1
  rw [Bool.eq_iff_iff]
  simp
theorem ptn_eqIn (a b : Ptn) : aeqIn Try.prog 9 48 (.agg (ptnC a)) (.agg (ptnC b)) = some (decide (a = b)) := by
  obtain ⟨⟨v1, ⟨k1, x1, y1, z1⟩⟩, ⟨v2, ⟨k2, x2, y2, z2⟩⟩, ⟨v3, ⟨k3, x3, y3, z3⟩⟩⟩ := a
  obtain ⟨⟨w1, ⟨l1, p1, q1, r1⟩⟩, ⟨w2, ⟨l2, p2, q2, r2⟩⟩, ⟨w3, ⟨l3, p3, q3, r3⟩⟩⟩ := b
  have e : ∀ a b : Ptn, andO (sltO a.s b.s) (andO (sltO a.p b.p) (andO (sltO a.o b.o) (some true))) = some (decide (a = b)) := by
    intro a b
    obtain ⟨s, p, o⟩ := a
    obtain ⟨s', p', o'⟩ := b
    simp only [sltO_eq, andO_some]
    congr 1
    rw [Bool.eq_iff_iff]
    simp
  refine Eq.trans ?_ (e _ _)
  kernel_rfl
instance : SEq Try.prog 48 ptnC where
  eql a b := (abin_struct (by kernel_rfl) (by kernel_rfl) (ptn_eqIn a b)).1
  neq a b := (abin_struct (by kernel_rfl) (by kernel_rfl) (ptn_eqIn a b)).2

def qdd (n : Nat) (order : List Nat) (i : Nat) : List Int := (List.range n).map fun j => if j ∈ order.take i then 1 else 0
theorem takenAt_length (n : Nat) (order : List Nat) (i : Nat) : (qdd n order i).length = n := by simp [qdd]
theorem takenAt_zero (n : Nat) (order : List Nat) : List.replicate n 0 = qdd n order 0 := by
  apply List.ext_getElem
  · simp [qdd]
  · intro j h1 h2; simp [qdd]
theorem takenAt_get {n : Nat} {order : List Nat} {i j : Nat} (hj : j < n) : (qdd n order i)[j]? = some (if j ∈ order.take i then 1 else 0) := by
  simp [qdd, hj]
theorem takenAt_set {n : Nat} {order : List Nat} {i j : Nat} (hj : order[i]? = some j) : (qdd n order i).set j 1 = qdd n order (i + 1) := by
  obtain ⟨hi, rfl⟩ := List.getElem?_eq_some_iff.1 hj
  apply List.ext_getElem
  · simp [qdd]
  · intro k h1 h2
    simp only [qdd, List.getElem_set, List.getElem_map, List.getElem_range, List.take_succ_eq_append_getElem hi, List.mem_append, List.mem_singleton]
    by_cases e : order[i] = k
    · subst e; simp
    · rw [if_neg e]
      have : ¬ k = order[i] := fun q => e q.symm
      simp [this]
theorem shared_fresh (l : List Str) (p : Ptn) : (qb4 l p).length + (fresh l p).length = (qcz [p]).length := by
  unfold qb4 fresh
  induction qcz [p] with
  | nil => rfl
  | cons s r ih =>
    by_cases q : s ∈ l
    · simp [q] at ih ⊢; omega
    · simp [q] at ih ⊢; omega

attribute [local irreducible] ACo AK AT qb8 ARs Fin Cal KLp KFun
theorem fine_w (S : S27' pol sums) {n : Nat} {W : List Ck} {ov qv pv : AV} {order : List Nat} {ops : List Int} {pats : List Ptn} [HasRows [] W ov intC 1 (zs order)] [HasRows [] W qv intC 1 ops] [HasRows [] W pv ptnC 15 pats]
    (hn : 8 * pats.length + 80 ≤ n) (hb : pats.length < 2 ^ 28) (hor : ∀ i ∈ order, i < pats.length) (hol : order.length = pats.length) (hop : ops.length = pats.length) (hr : qcw pats (zs order) ops = true) (hnd : order.Nodup) (hall : ∀ j, j < pats.length → j ∈ order)
    (hks : ∀ i j p, order[i]? = some j → pats[j]? = some p → qbo pats order (i + 1) = qbo pats order i ++ fresh (qbo pats order i) p)
    (hkl : (qbo pats order order.length).length = (qcz pats).length) :
    Cal [] W (qbt Try.prog pol sums n (.func (.func 15) [] []) [.agg [ov, qv], pv]) (fun r N => r = .bool true ∧ N = []) := by
  have hz : (zs order).length = order.length := qcp order
  refine Cal_fn (f := 15) (nt := 130) (rs := [.cell 4 4]) (by omega) (by first | assumption | exact S.rest _ (by decide)) Try.func15 rfl rfl rfl rfl fun m h0 T hm aT => ?_
  (repeat first | refine Wk.go ?_ | refine And.intro (by first | omega | exact rfl | trivial | exact S.lit _ _ | kernel_rfl) ?_ | intro _)
  refine qcr (right_w S (order := zs order) (ops := ops) (pats := pats) (by omega) (by omega) (by omega) (by omega) hr) ?_
  rintro _ _ ⟨rfl, rfl⟩
  have : Is ((0 : Int) != 0) false := ⟨rfl⟩
  (repeat first | refine Wk.go ?_ | refine And.intro (by first | omega | exact rfl | trivial | exact S.lit _ _ | kernel_rfl) ?_ | intro _)
  refine qcr (steps_w S (order := zs order) (ops := ops) (pats := pats) (by omega) (by omega) (by omega) (by omega) hr) ?_
  rintro _ _ ⟨ip, iq, rfl, rfl⟩
  (repeat first | refine Wk.go ?_ | refine And.intro (by first | omega | exact rfl | trivial | exact S.lit _ _ | kernel_rfl) ?_ | intro _)
  rename_i i2 i3 i4 it i5 i6 i7
  refine aco_nil strC 1 (.sl .nil 0 []) ?_
  refine A_rangeL (C := [.row i7 0 1 [.int .i64 0] true, .row i6 0 1 [.sl .nil 0 []] true, .rows strC 1 (.sl .nil 0 []) [], .arr intC 1 (.own it 0 0 pats.length) (List.replicate pats.length 0)]) rfl
    (fun N => ∃ nv, N = [.row i7 0 1 [.int .i64 (order.length : Nat)] true, .row i6 0 1 [nv] true, .rows strC 1 nv (qbo pats order order.length), .arr intC 1 (.own it 0 0 pats.length) (qdd pats.length order order.length)])
    (fun _ => False) (fun _ _ => False) ?_ ?_ (fun _ q => q.elim) (fun _ _ q => q.elim)
  · intro lid lp hlp
    refine (each1_w S (order := order) (ops := ops) (pats := pats) (by omega) (by omega) hor (by omega)
      (fun i C' => ∃ nv, C' = lp .ready none :: [.row i7 0 1 [.int .i64 (i : Nat)] true, .row i6 0 1 [nv] true, .rows strC 1 nv (qbo pats order i), .arr intC 1 (.own it 0 0 pats.length) (qdd pats.length order i)])
      (fun _ => False) ⟨_, by rw [takenAt_zero]; rfl⟩ ?_).mono ?_
    · rintro i j op p E C' m' sv fv hj hp ho hm ⟨nv, rfl⟩ _ _
      simp only [hlp]
      refine Cal_yield (by omega) rfl ?_
      intro m2 h1 e2
      have hjl : j < pats.length := (List.getElem?_eq_some_iff.1 hp).1
      have hjt : j ∉ order.take i := fun q => by
        obtain ⟨x, hx, e⟩ := List.getElem_of_mem q
        obtain ⟨hi, hij⟩ := List.getElem?_eq_some_iff.1 hj
        simp only [List.length_take] at hx
        rw [List.getElem_take, ← hij] at e
        have := (List.getElem_inj hnd).1 e
        omega
      have hsf := shared_fresh (qbo pats order i) p
      have hvl := qct [p]
      simp only [List.length_singleton] at hvl
      have := ElAt.mk hp
      have : Is ((i : Int) != (i : Int)) false := ⟨by simp⟩
      have : Is (decide ((j : Int) < 0)) false := ⟨by simp⟩
      have : Is (decide ((j : Int) ≥ (pats.length : Int))) false := ⟨by simp; omega⟩
      have : Is (decide (p = p)) true := ⟨by simp⟩
      have : Is ((((qb4 (qbo pats order i) p).length + (fresh (qbo pats order i) p).length : Nat) : Int) != ((qcz [p]).length : Int)) false := ⟨by rw [hsf]; simp⟩
      (repeat first | refine Wk.go ?_ | refine And.intro (by first | omega | exact rfl | trivial | exact S.lit _ _ | kernel_rfl) ?_ | intro _)
      refine A_drawn [0, 1, 2, 3, 4, 5, 6, 7, 8, 9, 10, 11, 12, 13, 14, 15, 16, 17, 18, 19, 20, 21, 22, 23, 24, 25, 26, 27, 28, 29, 30, 31, 32, 33, 34, 35, 36, 37, 38, 39] [0, 0, 3, 7, 15, 31, 63, 127, 255, 511, 1023, 511, 2559, 8191, 16383, 32767, 65535, 131071, 65535, 65535, 589823, 1900543, 3997695, 8388607, 16777215, 33554431, 67108863, 134217727, 268435455, 67108863, 603979775, 1677721599, 4294967295, 67108863, 8657043455, 25836912639, 60196651007, 128916127743, 274877906943, 549755813887] (by kernel_rfl) (by kernel_rfl) (by rfl) ?_
      (repeat first | refine Wk.go ?_ | refine And.intro (by first | omega | exact rfl | trivial | exact S.lit _ _ | kernel_rfl) ?_ | intro _)
      refine qcr (vars_w S (l := [p]) (by simp; omega) (by simp)) ?_
      rintro _ _ rfl
      (repeat first | refine Wk.go ?_ | refine And.intro (by first | omega | exact rfl | trivial | exact S.lit _ _ | kernel_rfl) ?_ | intro _)
      have e0 : ElAt (qdd pats.length order i) j 0 := ⟨by rw [takenAt_get hjl, if_neg hjt]⟩
      have hlt := takenAt_length pats.length order i
      have hkl := knownAt_length pats order i
      have hio : i < order.length := (List.getElem?_eq_some_iff.1 hj).1
      (repeat first | refine Wk.go ?_ | refine And.intro (by first | omega | exact rfl | trivial | exact S.lit _ _ | kernel_rfl) ?_ | intro _)
      refine A_loopR (fun d T => ∃ x, d = (qb4 (qbo pats order i) p).length - x ∧ x ≤ (qb4 (qbo pats order i) p).length ∧ Lk T 10 (.int .i64 (x : Nat))) [3, 4, 5, 6, 7, 9] (qb4 (qbo pats order i) p).length (by omega) ⟨0, rfl, Nat.zero_le _, lkz (by rfl)⟩ (by rfl) ?_
      · rintro d T2 ⟨x, rfl, hx, h10⟩ hA
        (repeat first | refine Wk.go ?_ | refine And.intro (by first | omega | exact rfl | trivial | exact S.lit _ _ | kernel_rfl) ?_ | intro _)
        refine ⟨fun c => ?_, fun c => ?_⟩
        · have c : x < (qb4 (qbo pats order i) p).length := by simpa using c
          generalize hs : (qb4 (qbo pats order i) p)[x] = s
          have hs' : (qb4 (qbo pats order i) p)[x]? = some s := by rw [List.getElem?_eq_getElem c, hs]
          have := ElAt.mk hs'
          have hin : s ∈ qbo pats order i := by simpa using (List.mem_filter.1 (List.mem_of_getElem? hs')).2
          (repeat first | refine Wk.go ?_ | refine And.intro (by first | omega | exact rfl | trivial | exact S.lit _ _ | kernel_rfl) ?_ | intro _)
          refine A_drawn [0, 1, 2, 3, 4, 5, 6, 7] [0, 0, 2, 0, 14, 30, 63, 127] (by kernel_rfl) (by kernel_rfl) (by rfl) ?_
          (repeat first | refine Wk.go ?_ | refine And.intro (by first | omega | exact rfl | trivial | exact S.lit _ _ | kernel_rfl) ?_ | intro _)
          refine qcr (has_w (S.rest _ (by decide)) s (l := qbo pats order i) (by omega) (by omega)) ?_
          rintro _ _ ⟨rfl, rfl⟩
          have : Is (decide (s ∈ qbo pats order i)) true := ⟨by simp [hin]⟩
          (repeat first | refine Wk.go ?_ | refine And.intro (by first | omega | exact rfl | trivial | exact S.lit _ _ | kernel_rfl) ?_ | intro _)
          exact lend ((qb4 (qbo pats order i) p).length - (x + 1)) _ (by omega) ⟨rfl, x + 1, rfl, c, inferInstance⟩
        · (repeat first | refine Wk.go ?_ | refine And.intro (by first | omega | exact rfl | trivial | exact S.lit _ _ | kernel_rfl) ?_ | intro _)
          refine A_loopR (fun d T => ∃ x, d = (fresh (qbo pats order i) p).length - x ∧ x ≤ (fresh (qbo pats order i) p).length ∧ Lk T 11 (.int .i64 (x : Nat))) [3, 4, 5, 6, 7, 9] (fresh (qbo pats order i) p).length (by omega) ⟨0, rfl, Nat.zero_le _, lkz (by rfl)⟩ (by rfl) ?_
          rintro d T3 ⟨y, rfl, hy, h11⟩ hA3
          (repeat first | refine Wk.go ?_ | refine And.intro (by first | omega | exact rfl | trivial | exact S.lit _ _ | kernel_rfl) ?_ | intro _)
          refine ⟨fun c => ?_, fun c => ?_⟩
          · have c : y < (fresh (qbo pats order i) p).length := by simpa using c
            generalize hs : (fresh (qbo pats order i) p)[y] = s
            have hs' : (fresh (qbo pats order i) p)[y]? = some s := by rw [List.getElem?_eq_getElem c, hs]
            have := ElAt.mk hs'
            have hin : s ∉ qbo pats order i := by simpa using (List.mem_filter.1 (List.mem_of_getElem? hs')).2
            (repeat first | refine Wk.go ?_ | refine And.intro (by first | omega | exact rfl | trivial | exact S.lit _ _ | kernel_rfl) ?_ | intro _)
            refine A_drawn [0, 1, 2, 3, 4, 5, 6] [0, 0, 2, 0, 14, 30, 63] (by kernel_rfl) (by kernel_rfl) (by rfl) ?_
            (repeat first | refine Wk.go ?_ | refine And.intro (by first | omega | exact rfl | trivial | exact S.lit _ _ | kernel_rfl) ?_ | intro _)
            refine qcr (has_w (S.rest _ (by decide)) s (l := qbo pats order i) (by omega) (by omega)) ?_
            rintro _ _ ⟨rfl, rfl⟩
            have : Is (decide (s ∈ qbo pats order i)) false := ⟨by simp [hin]⟩
            (repeat first | refine Wk.go ?_ | refine And.intro (by first | omega | exact rfl | trivial | exact S.lit _ _ | kernel_rfl) ?_ | intro _)
            exact lend ((fresh (qbo pats order i) p).length - (y + 1)) _ (by omega) ⟨rfl, y + 1, rfl, c, inferInstance⟩
          · (repeat first | refine Wk.go ?_ | refine And.intro (by first | omega | exact rfl | trivial | exact S.lit _ _ | kernel_rfl) ?_ | intro _)
            rename_i nv2
            have ht : (qdd pats.length order i).set j (0 + 1) = qdd pats.length order (i + 1) := takenAt_set hj
            rw [ht, ← hks i j p hj hp]
            exact fin ⟨true, rfl, fun _ => ⟨nv2, rfl⟩, fun e => by cases e⟩
    · rintro v N (⟨nv, rfl⟩ | q)
      · exact ⟨_, .inl ⟨rfl, nv, rfl⟩⟩
      · exact q.elim
  · rintro N ⟨nv, rfl⟩
    (repeat first | refine Wk.go ?_ | refine And.intro (by first | omega | exact rfl | trivial | exact S.lit _ _ | kernel_rfl) ?_ | intro _)
    refine A_loopR (fun d T => ∃ x, d = pats.length - x ∧ x ≤ pats.length ∧ Lk T 12 (.int .i64 (x : Nat))) [3, 4, 5, 6, 7] pats.length (by omega) ⟨0, rfl, Nat.zero_le _, lkz (by rfl)⟩ (by rfl) ?_
    rintro d T2 ⟨x, rfl, hx, h12⟩ hA
    have hlt := takenAt_length pats.length order order.length
    (repeat first | refine Wk.go ?_ | refine And.intro (by first | omega | exact rfl | trivial | exact S.lit _ _ | kernel_rfl) ?_ | intro _)
    refine ⟨fun c => ?_, fun c => ?_⟩
    · have c : x < pats.length := by rw [hlt] at c; simpa using c
      have e0 : ElAt (qdd pats.length order order.length) x 1 := ⟨by rw [takenAt_get c, List.take_length, if_pos (hall x c)]⟩
      have : Is ((1 : Int) != 1) false := ⟨rfl⟩
      (repeat first | refine Wk.go ?_ | refine And.intro (by first | omega | exact rfl | trivial | exact S.lit _ _ | kernel_rfl) ?_ | intro _)
      exact lend (pats.length - (x + 1)) _ (by omega) ⟨rfl, x + 1, rfl, c, inferInstance⟩
    · have : Is ((order.length : Int) == (pats.length : Int)) true := ⟨by simp [hol]⟩
      (repeat first | refine Wk.go ?_ | refine And.intro (by first | omega | exact rfl | trivial | exact S.lit _ _ | kernel_rfl) ?_ | intro _)
      refine A_drawn [0, 1, 2, 3, 4, 5, 6, 7, 8, 9, 10, 11, 12] [0, 0, 2, 7, 15, 31, 63, 31, 159, 415, 1023, 2047, 4095] (by kernel_rfl) (by kernel_rfl) (by rfl) ?_
      (repeat first | refine Wk.go ?_ | refine And.intro (by first | omega | exact rfl | trivial | exact S.lit _ _ | kernel_rfl) ?_ | intro _)
      refine qcr (vars_w S (l := pats) (by omega) (by omega)) ?_
      rintro r _ rfl
      (repeat first | refine Wk.go ?_ | refine And.intro (by first | omega | exact rfl | trivial | exact S.lit _ _ | kernel_rfl) ?_ | intro _)
      refine fin ⟨?_, rfl⟩
      simp [hkl]
end Go.Am
namespace Go.Am
open Go Go.Proofs AM
set_option linter.unusedVariables false

theorem meet1_nodup {cur : List Str} (h : cur.Nodup) (s : Str) : (qdb cur s).Nodup := by
  unfold qdb
  split
  · exact h
  · rename_i q
    exact List.nodup_append.2 ⟨h, by simp, fun a ha b hb e => by simp at hb; subst hb e; exact q ha⟩
theorem mem_meet1 {cur : List Str} {s t : Str} : t ∈ qdb cur s ↔ t ∈ cur ∨ t = s := by
  unfold qdb
  split
  · rename_i q; exact ⟨.inl, fun h => by rcases h with h | rfl; exact h; exact q⟩
  · simp
theorem slotMeet_nodup {cur : List Str} (h : cur.Nodup) (x : Slt) : (qcg cur x).Nodup := by
  unfold qcg; split; exact h; exact meet1_nodup h _
theorem mem_slotMeet {cur : List Str} {x : Slt} {t : Str} : t ∈ qcg cur x ↔ t ∈ cur ∨ (x.var ≠ [] ∧ t = x.var) := by
  unfold qcg
  split
  · rename_i q; simp [q]
  · rename_i q; rw [mem_meet1]; simp [q]
def occ (t : Str) (p : Ptn) : Prop := (p.s.var ≠ [] ∧ t = p.s.var) ∨ (p.p.var ≠ [] ∧ t = p.p.var) ∨ (p.o.var ≠ [] ∧ t = p.o.var)
theorem ptnMeet_nodup {cur : List Str} (h : cur.Nodup) (p : Ptn) : (qdj cur p).Nodup := slotMeet_nodup (slotMeet_nodup (slotMeet_nodup h _) _) _
theorem mem_ptnMeet {cur : List Str} {p : Ptn} {t : Str} : t ∈ qdj cur p ↔ t ∈ cur ∨ occ t p := by
  unfold qdj occ
  rw [mem_slotMeet, mem_slotMeet, mem_slotMeet]
  simp only [or_assoc]
theorem foldl_meet_nodup : ∀ (l : List Ptn) {cur : List Str}, cur.Nodup → (l.foldl qdj cur).Nodup
  | [], _, h => h
  | p :: l, _, h => foldl_meet_nodup l (ptnMeet_nodup h p)
theorem mem_foldl_meet {t : Str} : ∀ (l : List Ptn) {cur : List Str}, t ∈ l.foldl qdj cur ↔ t ∈ cur ∨ ∃ p ∈ l, occ t p
  | [], cur => by simp
  | p :: l, cur => by rw [List.foldl_cons, mem_foldl_meet l, mem_ptnMeet]; simp [or_assoc]
theorem vars_nodup (l : List Ptn) : (qcz l).Nodup := foldl_meet_nodup l List.nodup_nil
theorem mem_vars {t : Str} {l : List Ptn} : t ∈ qcz l ↔ ∃ p ∈ l, occ t p := by unfold qcz; rw [mem_foldl_meet]; simp
theorem mem_vars1 {t : Str} {p : Ptn} : t ∈ qcz [p] ↔ occ t p := by rw [mem_vars]; simp

theorem foldl_meet1 : ∀ (vs : List Str), vs.Nodup → ∀ known : List Str, vs.foldl qdb known = known ++ vs.filter (· ∉ known)
  | [], _, known => by simp
  | s :: r, h, known => by
    obtain ⟨h1, h2⟩ := List.nodup_cons.1 h
    rw [List.foldl_cons, foldl_meet1 r h2]
    unfold qdb
    by_cases q : s ∈ known
    · rw [if_pos q]; simp [q]
    · rw [if_neg q, List.filter_cons, if_pos (by simpa using q), List.append_assoc, List.singleton_append]
      congr 2
      refine List.filter_congr fun x hx => ?_
      have : x ≠ s := fun e => h1 (e ▸ hx)
      simp [this]
theorem learnZ_eq (known : List Str) (p : Ptn) : learnZ known p = known ++ fresh known p := foldl_meet1 _ (vars_nodup _) _
theorem known_step {pats : List Ptn} {order : List Nat} {i j : Nat} {p : Ptn} (hj : order[i]? = some j) (hp : pats[j]? = some p) : qbo pats order (i + 1) = qbo pats order i ++ fresh (qbo pats order i) p := by
  obtain ⟨hi, rfl⟩ := List.getElem?_eq_some_iff.1 hj
  obtain ⟨hk, rfl⟩ := List.getElem?_eq_some_iff.1 hp
  rw [knownAt_succ pats order hi hk, learnZ_eq]
theorem known_all (pats : List Ptn) (order : List Nat) : ∀ i, i ≤ order.length → (∀ j ∈ order, j < pats.length) → (qbo pats order i).Nodup ∧ ∀ t, t ∈ qbo pats order i ↔ ∃ p ∈ qc9 pats order i, occ t p
  | 0, _, _ => ⟨by simp [qbo], fun t => by simp [qbo, qc9]⟩
  | i + 1, hi, hor => by
    obtain ⟨h1, h2⟩ := known_all pats order i (by omega) hor
    have hj : order[i]? = some order[i] := List.getElem?_eq_getElem _
    have hp : pats[order[i]]? = some (pats[order[i]]'(hor _ (List.getElem_mem _))) := List.getElem?_eq_getElem _
    rw [known_step hj hp, aheadL_succ hj hp]
    refine ⟨List.nodup_append.2 ⟨h1, (vars_nodup _).filter _, fun a ha b hb e => ?_⟩, fun t => ?_⟩
    · subst e
      have := (List.mem_filter.1 hb).2
      simp at this
      exact this ha
    · rw [List.mem_append, h2]
      unfold fresh
      rw [List.mem_filter, mem_vars1]
      by_cases q : t ∈ qbo pats order i
      · have := (h2 t).1 q
        simp [q]
        exact fun _ => this
      · simp only [q, not_false_eq_true, decide_true, and_true]
        simp [or_and_right, exists_or]
theorem shared_congr {l m : List Str} (h : ∀ t, t ∈ l ↔ t ∈ m) (p : Ptn) : qb4 l p = qb4 m p := List.filter_congr fun t _ => by simp [h t]
theorem vars_ahead (pats : List Ptn) (order : List Nat) {i : Nat} (hi : i ≤ order.length) (hor : ∀ j ∈ order, j < pats.length) (p : Ptn) : qb4 (qcz (qc9 pats order i)) p = qb4 (qbo pats order i) p :=
  shared_congr (fun t => by rw [mem_vars, (known_all pats order i hi hor).2]) p
theorem aheadL_perm {pats : List Ptn} {order : List Nat} (h : order.Perm (List.range pats.length)) : (qc9 pats order order.length).Perm pats := by
  unfold qc9
  rw [List.take_length]
  refine (h.filterMap _).trans ?_
  have key : ∀ l : List Ptn, (List.range l.length).filterMap (fun j => l[j]?) = l := by
    intro l
    induction l with
    | nil => rfl
    | cons p l ih =>
      rw [List.length_cons, List.range_succ_eq_map, List.filterMap_cons, List.filterMap_map]
      simp only [List.getElem?_cons_zero]
      congr 1
  have this := key pats
  rw [this]
theorem known_length {pats : List Ptn} {order : List Nat} (h : order.Perm (List.range pats.length)) : (qbo pats order order.length).length = (qcz pats).length := by
  obtain ⟨h1, h2⟩ := known_all pats order order.length (Nat.le_refl _) (fun j hj => List.mem_range.1 (h.mem_iff.1 hj))
  refine ((List.perm_ext_iff_of_nodup h1 (vars_nodup pats)).2 fun t => ?_).length_eq
  rw [h2, mem_vars]
  constructor
  · rintro ⟨p, hp, ho⟩; exact ⟨p, (aheadL_perm h).mem_iff.1 hp, ho⟩
  · rintro ⟨p, hp, ho⟩; exact ⟨p, (aheadL_perm h).mem_iff.2 hp, ho⟩

theorem pickZ_near {x : Sts} {pats : List Ptn} {known : List Str} {left : List Nat} (h : left ≠ []) : ∃ i ∈ nearZ known pats left, pickZ x pats known left = (i : Int) := by
  unfold pickZ
  have h2 := nearZ_ne (known := known) (pats := pats) h
  generalize nearZ known pats left = nl at *
  cases nl with
  | nil => exact absurd rfl h2
  | cons a l =>
    dsimp only
    rcases minZ_mem (cmpZ x pats known) (zs l) (a : Int) with e | e
    · exact ⟨a, List.mem_cons_self, e⟩
    · obtain ⟨i, hi, e'⟩ := List.mem_map.1 e
      exact ⟨i, List.mem_cons_of_mem _ hi, e'.symm⟩
theorem ofLoop_near (x : Sts) (pats : List Ptn) : ∀ (n : Nat) (known : List Str) (left : List Nat), left.length = n → left.Nodup → (∀ i ∈ left, i < pats.length) →
    ∀ k j, (qde x pats n known left).1[k]? = some j → ∃ L, L.Perm ((qde x pats n known left).1.drop k) ∧ j ∈ nearZ (((qde x pats n known left).1.take k).foldl (fun k j => match pats[j]? with | some p => learnZ k p | none => k) known) pats L
  | 0, known, left, h, _, _ => fun k j h1 => by
    have : left = [] := List.length_eq_zero_iff.1 h
    subst this
    simp [qde] at h1
  | n + 1, known, left, h, hn, hp => by
    have hne : left ≠ [] := by rintro rfl; cases h
    obtain ⟨i, hi', hpk⟩ := pickZ_near (x := x) (pats := pats) (known := known) hne
    have hi := nearZ_mem hi'
    have hip := hp i hi
    have hst := ofLoop_step x pats hi hip hpk hp
    rw [h] at hst
    have hpm := filter_nodup hn hi
    have hfl : (left.filter (· ≠ i)).length = n := by have := hpm.length_eq; simp at this ⊢; omega
    rw [hfl] at hst
    have hall := (ofLoop_ok x pats n (learnZ known pats[i]) (left.filter (· ≠ i)) hfl (hn.filter _) (fun j hj => hp j (List.mem_filter.1 hj).1)).1
    have ih := ofLoop_near x pats n (learnZ known pats[i]) (left.filter (· ≠ i)) hfl (hn.filter _) (fun j hj => hp j (List.mem_filter.1 hj).1)
    rw [hst]
    intro k j h1
    cases k with
    | zero =>
      simp only [List.getElem?_cons_zero, Option.some.injEq] at h1
      subst h1
      exact ⟨left, hpm.symm.trans (hall.cons i).symm, hi'⟩
    | succ k =>
      simp only [List.getElem?_cons_succ] at h1
      obtain ⟨L, b1, b2⟩ := ih k j h1
      refine ⟨L, b1, ?_⟩
      simp only [List.take_succ_cons, List.foldl_cons, List.getElem?_eq_getElem hip]
      exact b2
/-- a pattern that shares something is never left for one that shares nothing -/
theorem planZ_near (x : Sts) (pats : List Ptn) : ∀ k j p, 1 ≤ k → (qdv x pats).1[k]? = some j → pats[j]? = some p →
    0 < (qb4 (qcz (qc9 pats (qdv x pats).1 k)) p).length ∨ (qcz [p]).length = 0 ∨ ∀ i j' p', k < i → (qdv x pats).1[i]? = some j' → pats[j']? = some p' → ¬ 0 < (qb4 (qcz (qc9 pats (qdv x pats).1 k)) p').length := by
  intro k j p hk hj hp
  obtain ⟨L, h1, h2⟩ := ofLoop_near x pats pats.length [] (List.range pats.length) (by simp) List.nodup_range (fun i hi => List.mem_range.1 hi) k j hj
  obtain ⟨hperm, _, _⟩ := planZ_ok x pats
  change L.Perm ((qdv x pats).1.drop k) at h1
  change j ∈ nearZ (qbo pats (qdv x pats).1 k) pats L at h2
  generalize (qdv x pats).1 = o at *
  have hor : ∀ j ∈ o, j < pats.length := fun j hj => List.mem_range.1 (hperm.mem_iff.1 hj)
  have hol : o.length = pats.length := by have := hperm.length_eq; simpa using this
  have hko : k < o.length := (List.getElem?_eq_some_iff.1 hj).1
  have hsv := vars_ahead pats o (Nat.le_of_lt hko) hor
  have hLl : L.length = o.length - k := by rw [h1.length_eq, List.length_drop]
  have hfar : ∀ (j : Nat) p, pats[j]? = some p → farI (qbo pats o k) pats (j : Int) = (((qb4 (qbo pats o k) p).length == 0) && decide (0 < (fresh (qbo pats o k) p).length)) := fun j p h => by
    unfold farI farZ
    simp [h]
  unfold nearZ at h2
  dsimp only at h2
  split at h2
  · rename_i c
    have c : (L.filter fun i : Nat => !(farI (qbo pats o k) pats (i : Int))).length = 0 := c.resolve_right (by omega)
    refine .inr (.inr fun i j' p' hi hj' hp' => ?_)
    have hm : j' ∈ L := h1.mem_iff.2 (by
      obtain ⟨hio, rfl⟩ := List.getElem?_eq_some_iff.1 hj'
      exact List.mem_drop_iff_getElem.2 ⟨i - k, by omega, by congr 1; omega⟩)
    have := List.filter_eq_nil_iff.1 (List.length_eq_zero_iff.1 c) j' hm
    rw [hfar j' p' hp'] at this
    simp at this
    rw [hsv, this.1]
    simp
  · have := (List.mem_filter.1 h2).2
    rw [hfar j p hp] at this
    simp only [Bool.not_and, Bool.or_eq_true, Bool.not_eq_true', beq_eq_false_iff_ne, decide_eq_false_iff_not] at this
    rcases this with q | q
    · left; rw [hsv]; omega
    · by_cases q2 : (qb4 (qbo pats o k) p).length = 0
      · right; left
        have := shared_fresh (qbo pats o k) p
        omega
      · left; rw [hsv]; omega
end Go.Am
namespace Go.Am
open Go Go.Proofs AM RowKit
set_option maxRecDepth 10000
set_option synthInstance.maxHeartbeats 400000
set_option synthInstance.maxSize 4000
set_option linter.unusedVariables false
variable {pol : Pol} {sums : Sums}

/-- the machine with awake as it was run once -/
def awakeSum : List AV → AM AV
  | [] => pure (.bool true)
  | _ => AM.fail
def sums28 : Sums := fun f => match Nat.beq f 6 with
  | true => some awakeSum
  | false => sums27 f
theorem s28 : S27' pol27 sums28 where
  lit := fun _ _ => rfl
  has := rfl
  rest := fun f h => by
    have e : Nat.beq f 6 = false := by
      cases hq : Nat.beq f 6 with
      | false => rfl
      | true => exact absurd (List.mem_cons.2 (.inl (Nat.eq_of_beq_eq_true hq))) h
    have := s27.rest f h
    simp only [sums28, e]; exact this
  list := rfl
  sort := rfl
  grow := rfl
/-- the way in, from a heap that holds nothing -/
theorem entryL {P : Program} {pol : Pol} {sums : Sums} (hP : ProgOk P) (hs : SumsOk P sums) {n k : Nat} {f : FuncId} {args : List AV} {v : AV} {h' : Hp} {w : World} {xs : List Value}
    (e : (qbt P pol sums (n + 1) (.func (.func f) [] []) args).run ⟨.leaf, k⟩ = some (v, h')) (r : VRs ⟨.leaf, k⟩ id w args xs) :
    Calls P f xs.toArray w fun en w' => ∃ x μ', en = .returned x ∧ VR h' μ' w' v x ∧ Below w.heap.size w w' := by
  have hleaf : ∀ id, (⟨.leaf, k⟩ : Hp).get id = none := fun id => Tm.get_leaf id
  simp only [qbt, List.nil_append, List.append_nil] at e
  have hc := acall_sound (pol := pol) hP hs n
  obtain ⟨_, hk⟩ := afunc_calls hc (region_ok hP hc) hs n f e ⟨fun i o h => (by rw [hleaf] at h; cases h), fun i j o o' h => (by rw [hleaf] at h; cases h)⟩ r (fun id _ _ => hleaf id)
  refine callsIn_wide.1 (CallsIn.mono hk fun en w' hg => ?_)
  cases en with
  | returned x =>
    obtain ⟨μ', _, st, hv⟩ := hg
    exact ⟨x, μ', rfl, hv, st.os, st.tape, st.output, st.size, fun k hk => st.old k hk (fun ⟨id, o, ho, _⟩ => by rw [hleaf] at ho; cases ho)⟩
  | panicked _ => exact hg.elim
  | outgrown => exact hg.elim
/-- a run that ended in true, in the kernel -/
theorem true_calls {P : Program} {pol : Pol} {sums : Sums} (hP : ProgOk P) (hs : SumsOk P sums) {n k : Nat} {f : FuncId} (hr : isTrueR ((qbt P pol sums (n + 1) (.func (.func f) [] []) []).run ⟨.leaf, k⟩) = true) (w : World) :
    Calls P f #[] w fun en w' => en = .returned (.bool true) ∧ Below w.heap.size w w' := by
  cases hq : (qbt P pol sums (n + 1) (.func (.func f) [] []) []).run ⟨.leaf, k⟩ with
  | none => rw [hq] at hr; cases hr
  | some p =>
    obtain ⟨v, h'⟩ := p
    rw [hq] at hr
    have hv : v = .bool true := by
      cases v <;> first | cases hr | skip
      rename_i b
      cases b
      · cases hr
      · rfl
    subst hv
    refine (entryL hP hs hq (xs := []) VRs.nil).mono ?_
    rintro en w' ⟨x, μ', rfl, hv, hb⟩
    cases hv
    exact ⟨rfl, hb⟩
theorem awake_calls (w : World) : Calls Try.prog 6 #[] w fun en w' => en = .returned (.bool true) ∧ Below w.heap.size w w' := true_calls (n := 2999) (k := 1) progOk sums27_ok awake_run w
theorem sums28_ok : SumsOk Try.prog sums28 := fun f sm h => by
  unfold sums28 at h
  cases h1 : Nat.beq f 6 with
  | true =>
    rw [h1] at h; cases h
    obtain rfl := Nat.eq_of_beq_eq_true h1
    refine ⟨⟨_, _, Try.func6, rfl⟩, fun args h h' v μ w xs e s r _ => ?_⟩
    match args, e with
    | [], e =>
      obtain ⟨rfl, rfl⟩ := qa0 e
      have hx : xs = [] := by have := r.1; simpa using this.symm
      subst hx
      refine callsIn_wide.2 ((awake_calls w).mono ?_)
      rintro en w' ⟨rfl, hb⟩
      obtain ⟨a, b⟩ := SR.below s hb
      exact ⟨μ, a, b, .bool _⟩
    | _ :: _, e => cases e
  | false =>
    rw [h1] at h
    exact sums27_ok f sm h
end Go.Am
namespace Go.Am
open Go Go.Proofs AM
set_option maxRecDepth 10000
set_option synthInstance.maxHeartbeats 400000
set_option synthInstance.maxSize 4000
set_option linter.unusedVariables false
variable {pol : Pol} {sums : Sums}
instance : FL linC 7 := ⟨fun _ => rfl⟩
theorem ro_nd2 {α β : Type} {f : α → List AV} {g : β → List AV} {sz sz' : Nat} {v u : AV} {l : List α} {m : List β} (h : ∀ k ∈ qb1 v, k ∉ qb1 u) : (cids [.ro f sz v l, .ro g sz' u m]).Nodup := by
  simp only [cids, List.flatMap_cons, List.flatMap_nil, List.append_nil]
  exact List.nodup_append.2 ⟨vids_nodup v, vids_nodup u, fun a ha b hb e => h a ha (e ▸ hb)⟩
attribute [local irreducible] ACo AK AT qb8 ARs Fin Cal KLp KFun
theorem of_w (S : S27' pol sums) {n : Nat} {W : List Ck} {x : Sts} {lv pv : AV} {pats : List Ptn} [a : HasRows [] W lv linC 7 x.lines] [b : HasRows [] W pv ptnC 15 pats] (hn : pats.length + x.lines.length + 40 ≤ n) (hb : pats.length < 2 ^ 30) (hbx : x.lines.length < 2 ^ 40) :
    Cal [] W (qbt Try.prog pol sums n (.func (.func 8) [] []) [.agg (stsC x lv), pv]) (fun r N => ∃ ov qv, r = .agg [ov, qv] ∧ N = [.ro intC 1 ov (zs (qdv x pats).1), .ro intC 1 qv (qdv x pats).2]) :=
  Cal.of fun h w k => (of_plan_spec S.toS27 S.list hn hb hbx (a.has h k) (b.has h k)).mono fun r h' ⟨k1, ov, qv, e, so, sq, io, iq⟩ =>
    ⟨k1, _, ⟨ov, qv, e, rfl⟩, fun c hc => by
      rcases List.mem_cons.1 hc with rfl | hc
      · exact so.rows
      · rcases List.mem_singleton.1 hc with rfl; exact sq.rows, ro_nd2 fun k hk => (io k hk).2, fun i hi => by
      simp only [cids, List.flatMap_cons, List.flatMap_nil, List.append_nil, List.mem_append] at hi
      rcases hi with q | q
      · exact (io i q).1
      · exact iq i q⟩
theorem turned_w (S : S27' pol sums) {n : Nat} {W : List Ck} {ov qv pv : AV} {order : List Nat} {ops : List Int} {pats : List Ptn} (turn : Int) [a : HasRows [] W ov intC 1 (zs order)] [b : HasRows [] W qv intC 1 ops] [c : HasRows [] W pv ptnC 15 pats] (hn : order.length + pats.length + 60 ≤ n) (hb2 : pats.length < 2 ^ 28) (hb3 : ops.length < 2 ^ 40)
    (hr : qcw pats (zs order) ops = true) (hol : order.length = pats.length) (hor : ∀ i ∈ order, i < pats.length) (hne : 0 < pats.length) :
    Cal [] W (qbt Try.prog pol sums n (.func (.func 7) [] []) [.agg [ov, qv], .int .i64 turn, pv]) (fun r N => ∃ ov' qv', r = .agg [ov', qv'] ∧ N = [.ro intC 1 ov' (zs (rot order (turnK turn pats.length))), .ro intC 1 qv' (qcx pats turn (rot order (turnK turn pats.length)) pats.length)]) :=
  Cal.of fun h w k => (turned_spec S turn hn hb2 hb3 (a.ints k) (b.ints k) (c.has h k) hr hol hor hne).mono fun r h' ⟨k1, ov', qid, e, so, _, _, io, iq, rq⟩ => by
    have hk := turnK_lt turn hne
    have hrot := rot_length order (turnK turn pats.length) (by omega)
    have htl := qcf pats turn (rot order (turnK turn pats.length)) pats.length
    have sq : Ints h' (.own qid 0 0 pats.length) (qcx pats turn (rot order (turnK turn pats.length)) pats.length) := by
      have := rq.slv
      rw [htl, hrot, hol] at this
      exact this
    refine ⟨k1, _, ⟨ov', _, e, rfl⟩, fun c hc => ?_, ro_nd2 fun k hk => by simp only [qb1, List.mem_singleton]; exact (io k hk).2, fun i hi => ?_⟩
    · rcases List.mem_cons.1 hc with rfl | hc
      · exact so.rows
      · rcases List.mem_singleton.1 hc with rfl; exact sq.rows
    · simp only [cids, List.flatMap_cons, List.flatMap_nil, List.append_nil, List.mem_append] at hi
      rcases hi with q | q
      · exact (io i q).1
      · have q : i ∈ qb1 (.own qid 0 0 pats.length) := q
        simp only [qb1, List.mem_singleton] at q; subst q; exact iq
/-- of no patterns -/
theorem turned0_w (S : S27' pol sums) {n : Nat} {W : List Ck} {ov qv pv : AV} (turn : Int) [a : HasRows [] W ov intC 1 (zs [])] [b : HasRows [] W qv intC 1 ([] : List Int)] [c : HasRows [] W pv ptnC 15 ([] : List Ptn)] (hn : 60 ≤ n) :
    Cal [] W (qbt Try.prog pol sums n (.func (.func 7) [] []) [.agg [ov, qv], .int .i64 turn, pv]) (fun r N => r = .agg [.sl .nil 0 [], .sl .nil 0 []] ∧ N = []) := by
  refine Cal_fn (f := 7) (nt := 64) (rs := [.cell 6 30]) (by omega) (by first | assumption | exact S.rest _ (by decide)) Try.func7 rfl rfl rfl rfl fun m h0 T hm aT => ?_
  (repeat first | refine Wk.go ?_ | refine And.intro (by first | omega | exact rfl | trivial | exact S.lit _ _ | kernel_rfl) ?_ | intro _)
  refine qcr (right_w S (order := zs []) (ops := []) (pats := []) (by simp; omega) (by simp) (by simp) (by simp) (by rfl)) ?_
  rintro _ _ ⟨rfl, rfl⟩
  have : Is ((0 : Int) != 0) false := ⟨rfl⟩
  have : Is (((([] : List Ptn).length : Nat) : Int) == 0) true := ⟨rfl⟩
  (repeat first | refine Wk.go ?_ | refine And.intro (by first | omega | exact rfl | trivial | exact S.lit _ _ | kernel_rfl) ?_ | intro _)
  exact fin ⟨rfl, rfl⟩
theorem awake_w {n : Nat} {W : List Ck} (hn : 1 ≤ n) : Cal [] W (qbt Try.prog pol27 sums28 n (.func (.func 6) [] []) []) (fun r N => r = .bool true ∧ N = []) :=
  Cal_sum (by omega) (s := awakeSum) rfl (Cal.of0 fun h w k => Runs.pure ⟨Keep.refl h, rfl⟩)

theorem fine_perm (S : S27' pol sums) {n : Nat} {W : List Ck} {ov qv pv : AV} {order : List Nat} {ops : List Int} {pats : List Ptn} [HasRows [] W ov intC 1 (zs order)] [HasRows [] W qv intC 1 ops] [HasRows [] W pv ptnC 15 pats]
    (hn : 8 * pats.length + 80 ≤ n) (hb : pats.length < 2 ^ 28) (hp : order.Perm (List.range pats.length)) (hop : ops.length = pats.length) (hr : qcw pats (zs order) ops = true) :
    Cal [] W (qbt Try.prog pol sums n (.func (.func 15) [] []) [.agg [ov, qv], pv]) (fun r N => r = .bool true ∧ N = []) :=
  fine_w S hn hb (fun i hi => List.mem_range.1 (hp.mem_iff.1 hi)) (by have := hp.length_eq; simpa using this) hop hr (hp.nodup_iff.2 List.nodup_range) (fun j hj => hp.mem_iff.2 (List.mem_range.2 hj)) (fun i j p => known_step) (known_length hp)

theorem planMay_w {W : List Ck} {x : Sts} {lv pv : AV} {pats : List Ptn} (turn : Int) [HasRows [] W lv linC 7 x.lines] [HasRows [] W pv ptnC 15 pats] :
    Cal [] W (qbt Try.prog pol27 sums28 3001 (.func (.func 5) [] []) [.agg (stsC x lv), pv, .int .i64 turn]) (fun r N => r = .bool true ∧ N = []) := by
  have S := s28
  refine Cal_fn (f := 5) (nt := 38) (rs := [.tmp 6]) (by omega) (by first | assumption | exact S.rest _ (by decide)) Try.func5 rfl rfl rfl rfl fun m h0 T hm aT => ?_
  (repeat first | refine Wk.go ?_ | refine And.intro (by first | omega | exact rfl | trivial | exact S.lit _ _ | kernel_rfl) ?_ | intro _)
  refine qcr (awake_w (by omega)) ?_
  rintro _ _ ⟨rfl, rfl⟩
  (repeat first | refine Wk.go ?_ | refine And.intro (by first | omega | exact rfl | trivial | exact S.lit _ _ | kernel_rfl) ?_ | intro _)
  by_cases h1 : x.lines.length > 30
  · have : Is (decide ((x.lines.length : Int) > 30)) true := ⟨by simp; omega⟩
    (repeat first | refine Wk.go ?_ | refine And.intro (by first | omega | exact rfl | trivial | exact S.lit _ _ | kernel_rfl) ?_ | intro _)
    exact fin ⟨rfl, rfl⟩
  have : Is (decide ((x.lines.length : Int) > 30)) false := ⟨by simp; omega⟩
  by_cases h2 : pats.length > 30
  · have : Is (decide ((pats.length : Int) > 30)) true := ⟨by simp; omega⟩
    (repeat first | refine Wk.go ?_ | refine And.intro (by first | omega | exact rfl | trivial | exact S.lit _ _ | kernel_rfl) ?_ | intro _)
    exact fin ⟨rfl, rfl⟩
  have : Is (decide ((pats.length : Int) > 30)) false := ⟨by simp; omega⟩
  (repeat first | refine Wk.go ?_ | refine And.intro (by first | omega | exact rfl | trivial | exact S.lit _ _ | kernel_rfl) ?_ | intro _)
  refine qcr (of_w S (x := x) (pats := pats) (by omega) (by omega) (by omega)) ?_
  rintro _ _ ⟨ov, qv, rfl, rfl⟩
  obtain ⟨hperm, hops, hright⟩ := planZ_ok x pats
  have hnear := planZ_near x pats
  generalize (qdv x pats).1 = o at *
  generalize (qdv x pats).2 = q at *
  have hol : o.length = pats.length := by have := hperm.length_eq; simpa using this
  have hor : ∀ i ∈ o, i < pats.length := fun i hi => List.mem_range.1 (hperm.mem_iff.1 hi)
  (repeat first | refine Wk.go ?_ | refine And.intro (by first | omega | exact rfl | trivial | exact S.lit _ _ | kernel_rfl) ?_ | intro _)
  refine qcr (fine_perm S (order := o) (ops := q) (pats := pats) (by omega) (by omega) hperm hops hright) ?_
  rintro _ _ ⟨rfl, rfl⟩
  (repeat first | refine Wk.go ?_ | refine And.intro (by first | omega | exact rfl | trivial | exact S.lit _ _ | kernel_rfl) ?_ | intro _)
  refine qcr (near_w S (order := o) (pats := pats) (by omega) (by omega) hor hnear) ?_
  rintro _ _ ⟨rfl, rfl⟩
  (repeat first | refine Wk.go ?_ | refine And.intro (by first | omega | exact rfl | trivial | exact S.lit _ _ | kernel_rfl) ?_ | intro _)
  by_cases hz : pats = []
  · subst hz
    have : o = [] := List.length_eq_zero_iff.1 hol
    subst this
    have : q = [] := List.length_eq_zero_iff.1 hops
    subst this
    refine qcr (turned0_w S turn (by omega)) ?_
    rintro _ _ ⟨rfl, rfl⟩
    (repeat first | refine Wk.go ?_ | refine And.intro (by first | omega | exact rfl | trivial | exact S.lit _ _ | kernel_rfl) ?_ | intro _)
    have hnil : ∀ L W : List Ck, HasRows L W (.sl .nil 0 []) intC 1 (zs []) := fun L W => ⟨fun h k => .imm _ 0 [] (by simp)⟩
    refine qcr (fine_perm S (order := []) (ops := zs []) (pats := []) (by simp; omega) (by simp) (by simp) (by rfl) (by rfl)) ?_
    rintro _ _ ⟨rfl, rfl⟩
    (repeat first | refine Wk.go ?_ | refine And.intro (by first | omega | exact rfl | trivial | exact S.lit _ _ | kernel_rfl) ?_ | intro _)
    exact fin ⟨rfl, rfl⟩
  · have hne : 0 < pats.length := List.length_pos_iff.2 hz
    refine qcr (turned_w S turn (order := o) (ops := q) (pats := pats) (by omega) (by omega) (by omega) hright hol hor hne) ?_
    rintro _ _ ⟨ov', qv', rfl, rfl⟩
    have hk := turnK_lt turn hne
    have hrot := rot_length o (turnK turn pats.length) (by omega)
    have hp2 := (rot_perm o (turnK turn pats.length)).trans hperm
    (repeat first | refine Wk.go ?_ | refine And.intro (by first | omega | exact rfl | trivial | exact S.lit _ _ | kernel_rfl) ?_ | intro _)
    refine qcr (fine_perm S (order := rot o (turnK turn pats.length)) (ops := qcx pats turn (rot o (turnK turn pats.length)) pats.length) (pats := pats) (by omega) (by omega) hp2 (by rw [qcf]; omega) (turn_ok pats turn hp2)) ?_
    rintro _ _ ⟨rfl, rfl⟩
    (repeat first | refine Wk.go ?_ | refine And.intro (by first | omega | exact rfl | trivial | exact S.lit _ _ | kernel_rfl) ?_ | intro _)
    exact fin ⟨rfl, rfl⟩
end Go.Am
namespace Go.Proofs.Ytallboljaphbpaa
open Go Go.Am Go.ChangeShapes Go.WideShapes Go.ChangeAt Go.RowKit
set_option maxRecDepth 100000

theorem imm_none {sz n : Nat} {v : AV} {c : List AV} (s : SlV Hp.none sz v n c) : qb1 v = [] := by
  cases s with
  | imm => rfl
  | own id ver off n row fix r e => obtain ⟨st, ho⟩ := r; rw [Hp.none_get] at ho; cases ho
theorem planMay_calls {x : Sts} {lv : AV} {pats : List Ptn} {pv : AV} {turn : Int} {v0 v1 : Value} {w : World} (ox : Go.Am.Rows linC 7 Hp.none lv x.lines) (o : Go.Am.Rows ptnC 15 Hp.none pv pats) (r0 : VR Hp.none id w (.agg (stsC x lv)) v0) (r1 : VR Hp.none id w pv v1) :
    Calls Try.prog 5 #[v0, v1, .int .i64 turn] w fun e w' => e = .returned (.bool true) ∧ Below w.heap.size w w' := by
  have st : St ⟨Hp.none, cids [], [.ro linC 7 lv x.lines, .ro ptnC 15 pv pats]⟩ [] Hp.none := ⟨Hp.WF.none, KeepBut.refl _, fun c hc => by
    rcases List.mem_cons.1 hc with rfl | hc
    · exact ox
    · rcases List.mem_singleton.1 hc with rfl; exact o, by simp [cids, Ck.ro, imm_none ox, imm_none o], fun i hi => by cases hi⟩
  obtain ⟨v, h', e, N, ⟨rfl, rfl⟩, _⟩ := planMay_w (x := x) (lv := lv) (pv := pv) (pats := pats) turn _ st Hp.WF.none
  have r : VRs Hp.none id w [.agg (stsC x lv), pv, .int .i64 turn] [v0, v1, .int .i64 turn] := VRs.cons r0 (VRs.cons r1 (VRs.cons (.int _ _) VRs.nil))
  refine (entry (pol := pol27) progOk sums28_ok (n := 3000) e r).mono ?_
  rintro en w' ⟨y, μ', rfl, hy, hb⟩
  cases hy
  exact ⟨rfl, hb⟩

theorem planMay_lifted (os : Os) (started : os.Started) (H : Type) (enc : TypeId × Value → H) :
    ReturnsInHanded {} Try.checked os 5 .any (Rows.planMaySpec.pre6 enc Try.prog Try.f5 Rows.planMayRow.domain false) (Rows.planMaySpec.post enc Try.prog Try.f5 false true false false) := by
  refine returnsInHanded_of_change (C := Try.checked) Try.own started (by kernel_rfl) Try.func5
    (ChangeSpec.witness6 (enc := enc) (C := Try.checked) false ⟨#[], #[.agg #[.int .i64 0, .int .i64 0, .int .i64 0, .int .i64 0, .slice none 0 0], .slice none 0 0, .int .i64 0], []⟩ 8 (by kernel_rfl) (by kernel_rfl) (by kernel_rfl) (by kernel_rfl)) ?_
  intro W base args ds gs before hval0 hW hcnd _
  have hval : ∀ (j : Nat) t v, Try.f5.params[j]? = some t → args[j]? = some v → Value.okWide Try.prog W .any base t v := hval0
  have hW' := hW
  obtain ⟨p, q, hA0, hV, rfl, hfz, hnd⟩ := hW
  have hA : DataW.TrodAll enc Try.prog W 0 (fun _ => true) true Try.f5.params.toList args.toList ds p := hA0
  rw [Try.params5] at hA hval
  obtain ⟨v0, v1, v2, d0, d1, d2, p0, p1, p2, rfl, rfl, rfl, h0, h1, h2⟩ := trodAll_three hA
  obtain ⟨rfl, rfl⟩ := trodVars_none hV
  obtain ⟨x, lv, r0, ox⟩ := open_stats (hval 0 24 v0 rfl rfl) h0
  obtain ⟨l, pv, r1, o⟩ := open_patterns (hval 1 25 v1 rfl rfl) h1
  obtain ⟨turn, rfl, rfl, rfl, wt⟩ := open_int Try.underlying3 (hval 2 3 v2 rfl rfl) h2
  refine (planMay_calls ox o r0 r1).mono fun e W' ⟨he, hb⟩ => ?_
  subst he
  refine ⟨_, rfl, ?_⟩
  have hlt : ∀ z ∈ (p0 ++ p1 ++ ([] : List MemPlace)) ++ [], z.block < W.heap.size := fun z hz => hW'.lt z hz
  have t0 := Below.trod Try.laidOut (by kernel_rfl) (of_decide_eq_true (by kernel_rfl)) h0 hb (fun z hz => hlt z (by simp [hz]))
  have t1 := Below.trod Try.laidOut (by kernel_rfl) (of_decide_eq_true (by kernel_rfl)) h1 hb (fun z hz => hlt z (by simp [hz]))
  have t2 := Below.trod Try.laidOut (by kernel_rfl) (of_decide_eq_true (by kernel_rfl)) h2 hb (fun z hz => by cases hz)
  refine ⟨_, _, _, [], p0 ++ p1 ++ [], [], hW', ?_, ?_, ?_, hb.frame _, fun c => by cases c⟩
  · exact trodAll_mk1 (t := 4) (v := .bool true) (d := .lit (.bool true)) ⟨1, by kernel_rfl⟩
  · exact ⟨p0, p1 ++ [], t0, ⟨p1, [], t1, ⟨[], [], t2, rfl, rfl⟩, rfl⟩, by simp⟩
  · exact rfl

theorem planMay_holds : Rows.PlanMaySaid :=
  OpenClaim.holds_of_wide 5 Try.f5 rfl rfl rfl rfl rfl rfl rfl ⟨rfl, rfl, rfl, rfl, rfl⟩ rfl rfl rfl rfl rfl (by kernel_rfl) Try.func5 (by kernel_rfl)
    (of_decide_eq_true (by kernel_rfl)) (by unfold Func.isWrapper; first | (rw [if_pos (by decide +kernel)]; kernel_rfl) | (rw [if_neg (by decide +kernel)]; exact ⟨rfl, rfl⟩))
    (fun os started H enc _ => planMay_lifted os started H enc)
end Go.Proofs.Ytallboljaphbpaa
