/- StatsGuess: for every input the law returns true, and each argument reads behind the call as it read before. No condition beyond the row's own: the listed tables hold what the program's text lays (tied by the card). -/
import Derived.Test.YtjkbdgglljpllabGreatDoorQ7
import Derived.Maps.RangeWalk
set_option linter.unusedVariables false
set_option linter.unusedSimpArgs false
namespace Go.Am
open Go Go.Proofs Go.RowKit Go.ChangeMaps
set_option maxRecDepth 10000
structure Rng (w : World) (b r clock : Nat) (ms : Array MapEntry) (seen : Array Nat) : Prop where
  map : w.heap[b]? = some (.map ms clock)
  it : ∃ c0, w.heap[r]? = some (.mapIter (some b) clock seen c0) ∧ clock ≤ c0
theorem Rng.grown {w w' : World} {b r clock : Nat} {ms : Array MapEntry} {seen : Array Nat} {row : Option Nat} (h : Rng w b r clock ms seen) (g : w.grownBy w' row) (h1 : some b ≠ row) (h2 : some r ≠ row) : Rng w' b r clock ms seen := by
  obtain ⟨hm, c0, hi, hc⟩ := h
  have hbl := (Array.getElem?_eq_some_iff.1 hm).1
  have hrl := (Array.getElem?_eq_some_iff.1 hi).1
  exact ⟨by rw [g.block b hbl h1]; exact hm, c0, by rw [g.block r hrl h2]; exact hi, hc⟩
theorem Rng.alloc {w : World} {b r clock : Nat} {ms : Array MapEntry} {seen : Array Nat} (h : Rng w b r clock ms seen) (o : Obj) : Rng (w.alloc o) b r clock ms seen := by
  obtain ⟨hm, c0, hi, hc⟩ := h
  have hbl := (Array.getElem?_eq_some_iff.1 hm).1
  have hrl := (Array.getElem?_eq_some_iff.1 hi).1
  exact ⟨by rw [heap_alloc_lt w o b hbl]; exact hm, c0, by rw [heap_alloc_lt w o r hrl]; exact hi, hc⟩

theorem left_perm {ms : Array MapEntry} {seen : Array Nat} (hn : (ms.toList.map (·.born)).Nodup) {e : MapEntry} (he : e ∈ (leftOf ms seen).toList) : (leftOf ms seen).toList.Perm (e :: (leftOf ms (seen.push e.born)).toList) := by
  unfold leftOf at he ⊢
  simp only [Array.toList_filter] at he ⊢
  obtain ⟨l⟩ := ms
  simp only at he hn ⊢
  induction l with
  | nil => cases he
  | cons x l ih =>
    simp only [List.map_cons, List.nodup_cons] at hn
    by_cases hx : x = e
    · subst hx
      have hs : seen.contains x.born = false := by
        have := (List.mem_filter.1 he).2
        simpa using this
      have h1 : ∀ y ∈ l, (!(seen.push x.born).contains y.born) = !(seen.contains y.born) := fun y hy => by
        have hne : y.born ≠ x.born := fun q => hn.1 (List.mem_map.2 ⟨y, hy, q⟩)
        simp [Array.contains_push, hne]
      simp only [List.filter_cons, hs, Bool.not_false, if_true]
      rw [List.filter_congr h1]
      have h2 : (!(seen.push x.born).contains x.born) = false := by simp [Array.contains_push]
      rw [h2]
      exact .refl _
    · have he' : e ∈ l.filter fun e => !(seen.contains e.born) := by
        rw [List.filter_cons] at he
        split at he
        · rcases List.mem_cons.1 he with q | q
          · exact absurd q.symm hx
          · exact q
        · exact he
      have hel : e ∈ l := (List.mem_filter.1 he').1
      have hne : x.born ≠ e.born := fun q => hn.1 (List.mem_map.2 ⟨e, hel, q.symm⟩)
      have h2 : (!(seen.push e.born).contains x.born) = !(seen.contains x.born) := by simp [Array.contains_push, hne]
      have := ih hn.2 he'
      simp only [List.filter_cons, h2]
      split
      · exact (this.cons x).trans (.swap _ _ _)
      · exact this

section
variable {P : Program} {w : World} {ops : Array Oper} {rest : List Oper} {o : Oper} {a : Act} {Q : Exit → Act → World → Prop}
theorem wpList_range_raw (hg : o.guard = none) (m : Operand) (t : TypeId) (hop : o.op = Op.range t m) (k e : TypeId) (ht : P.underlying t = some (.map k e)) (b clock : Nat) (ms : Array MapEntry)
    (hm : a.eval m = .map (some b)) (hown : w.heap[b]? = some (.map ms clock))
    (hK : ∀ w', Rng w' b w.heap.size clock ms #[] → w.grownBy w' none → w'.heap.size = w.heap.size + 1 → wpList P ops Q rest (a.put o.dst (.pointer (some ⟨w.heap.size, 0, none⟩))) w') :
    wpList P ops Q (o :: rest) a w := by
  refine wpList_plain hg fun K' hK' => ?_
  have hrun : (Instr.range t (.map (some b))).run P w = .ok (.pointer (some ⟨w.heap.size, 0, none⟩)) (w.alloc (.mapIter (some b) clock #[] clock)) := by
    simp [Instr.range, run_underlying ht, getObj, Sem.run, hown, newObj]
  unfold Oper.wp
  simp [execOp, hop, hm, hrun, Result.andThen]
  have hbl := (Array.getElem?_eq_some_iff.1 hown).1
  refine hK' _ _ (hK _ ⟨?_, clock, ?_, Nat.le_refl _⟩ ?_ ?_)
  · rw [heap_alloc_lt w _ b hbl]; exact hown
  · exact World.alloc_heap_new w _
  · exact World.grownBy_alloc w _ none
  · simp
theorem wpList_next_raw (hg : o.guard = none) (it : Operand) (hop : o.op = Op.next it false) (b r clock : Nat) (ms : Array MapEntry) (seen : Array Nat)
    (hit : a.eval it = .pointer (some ⟨r, 0, none⟩)) (h : Rng w b r clock ms seen) (hb : Born ms clock) (hbr : b ≠ r)
    (hDone : (leftOf ms seen).toList = [] → wpList P ops Q rest (a.put o.dst (.tuple #[.bool false])) w)
    (hMore : ∀ (e : MapEntry) (w' : World), e ∈ (leftOf ms seen).toList → Rng w' b r clock ms (seen.push e.born) → w.grownBy w' (some r) → w'.heap.size = w.heap.size → (Instr.entry (.pointer (some ⟨r, 0, none⟩))).run P w' = .ok (.tuple #[e.key, e.val]) w' →
      wpList P ops Q rest (a.put o.dst (.tuple #[.bool true, e.key, e.val])) w') :
    wpList P ops Q (o :: rest) a w := by
  refine wpList_plain hg fun K' hK' => ?_
  unfold Oper.wp
  obtain ⟨hm, c0, hi, hc⟩ := h
  have hbl := (Array.getElem?_eq_some_iff.1 hm).1
  have hrl := (Array.getElem?_eq_some_iff.1 hi).1
  rcases run_next_at (P := P) w o.type r b clock c0 seen ms clock hi hm hb.2 hc with ⟨h0, hrun⟩ | ⟨e, he, w1, hw1, hrun⟩
  · simp [execOp, hop, hit, hrun, Result.andThen]
    exact hK' _ _ (hDone (by simpa using h0))
  · simp [execOp, hop, hit, hrun, Result.andThen]
    have hw1h : w1.heap = w.heap := by rcases hw1 with rfl | rfl <;> rfl
    have hs1 : (setBlock w1 r (.mapIter (some b) clock (seen.push e.born) clock)).heap[b]? = some (.map ms clock) := by
      simp only [setBlock, Array.getElem?_setIfInBounds, hw1h]
      rw [if_neg (fun q => hbr q.symm)]; exact hm
    have hs2 : (setBlock w1 r (.mapIter (some b) clock (seen.push e.born) clock)).heap[r]? = some (.mapIter (some b) clock (seen.push e.born) clock) := by
      simp only [setBlock, Array.getElem?_setIfInBounds, hw1h]
      simp [hrl]
    refine hK' _ _ (hMore e _ he ⟨hs1, clock, hs2, Nat.le_refl _⟩ ?_ ?_ ?_)
    · refine ⟨?_, ?_, ?_, ?_, fun i hi hr => ?_⟩
      · rcases hw1 with rfl | rfl <;> rfl
      · rcases hw1 with rfl | rfl <;> rfl
      · rcases hw1 with rfl | rfl <;> rfl
      · simp [setBlock, hw1h]
      · simp only [setBlock, Array.getElem?_setIfInBounds, hw1h]
        rw [if_neg (fun q => hr (by rw [q]))]
    · simp [setBlock, hw1h]
    · refine run_entry_at _ r b clock seen ms clock e hs2 hs1 ?_ hb.1
      have := he
      unfold leftOf at this
      simp only [Array.toList_filter] at this
      exact (List.mem_filter.1 this).1
end


noncomputable def tailOf : Code → Code
  | .seq _ (.seq _ t) => t
  | c => c
noncomputable def putTail : Code := match Tryz.f41.body with
  | some c => tailOf c
  | none => .skip
set_option maxHeartbeats 1000000 in
theorem put_tail (x : Nat → Value) (ds : List Deferred) (w : World) (nb b clock : Nat) (ms : Array MapEntry) (Q : Exit → Act → World → Prop) (Inv : Array Nat → World → Prop) (hc : w.cell? ⟨nb, 1, none⟩ = some (.map (some b)))
    (hm : w.heap[b]? = some (.map ms clock)) (hb : Born ms clock)
    (h0 : Inv #[] w) (hmap : ∀ seen W, Inv seen W → W.heap[b]? = some (.map ms clock) ∧ w.heap.size ≤ W.heap.size)
    (hk : ∀ seen W W', Inv seen W → (∀ c, c < w.heap.size → W'.heap[c]? = W.heap[c]?) → W.heap.size ≤ W'.heap.size → W'.os = W.os → W'.tape = W.tape → W'.output = W.output → Inv seen W')
    (hs : ∀ seen W e, Inv seen W → e ∈ (leftOf ms seen).toList → Calls Tryz.prog 74 #[e.val, .func (.func 75) #[] #[]] W fun en W' => (∃ x, en = .returned x) ∧ Inv (seen.push e.born) W' ∧ ∀ c, w.heap.size ≤ c → c < W.heap.size → W'.heap[c]? = W.heap[c]?)
    (hQ : ∀ a' w' seen, a'.defers = ds → (leftOf ms seen).toList = [] → Inv seen w' → Q .normal a' w') :
    putTail.wp Tryz.prog Q ⟨#[x 0, x 1, .pointer (some ⟨nb, 0, none⟩), x 3, x 4, x 5, x 6, x 7, x 8, x 9, x 10, x 11, x 12, x 13, x 14, x 15, x 16, x 17, x 18, x 19, x 20, x 21, x 22, x 23, x 24, x 25, x 26, x 27, x 28, x 29, x 30, x 31, x 32, x 33, x 34, x 35, x 36, x 37, x 38, x 39, x 40, x 41, x 42, x 43, x 44, x 45, x 46, x 47, x 48], ds⟩ w := by
  have hbl := (Array.getElem?_eq_some_iff.1 hm).1
  unfold putTail Tryz.f41
  simp only [tailOf]
  go_wp2_with (first
    | (at_range; refine wpList_range_raw rfl _ 97 rfl 3 113 Tryz.underlying97 b clock ms rfl hm ?_; intro w0 hrg0 hg0 hs0)
    | go_in)
  go_frame
  go_loopw [] (fun wr => ∃ (seen : Array Nat), Rng wr b w.heap.size clock ms seen ∧ Inv seen wr ∧ w.heap.size < wr.heap.size)
    (fun wr => wr.rangeLeft b w.heap.size)
  case atStart =>
    exact ⟨#[], hrg0, hk _ _ _ h0 (fun c hc => hg0.block c hc (by simp)) (by omega) hg0.os hg0.tape hg0.output, by omega⟩
  case round =>
    obtain ⟨seen, hrg, hnx, hsz⟩ := hrel
    go_wp2_with (first
      | (at_next; refine wpList_next_raw rfl _ rfl b w.heap.size clock ms seen rfl hrg hb (by omega) ?_ ?_)
      | go_in)
    · intro h0
      go_wp2
      exact hQ _ _ seen rfl (by rw [h0]) hnx
    · intro e w2 hel hrg2 hg2 hs2 hen
      have hel' : e ∈ (leftOf ms seen).toList := by simpa using hel
      have hin2 : Inv seen w2 := hk _ _ _ hnx (fun c hc => hg2.block c (by omega) (by simp; omega)) (by omega) hg2.os hg2.tape hg2.output
      have hc74 := hs seen w2 e hin2 hel'
      go_wp2_with (first
        | (go_at_call 74; refine hc74.mono ?_; rintro en w3 ⟨⟨y, rfl⟩, hin3, hb3⟩)
        | go_in)
      have hrg3 : Rng w3 b w.heap.size clock ms (seen.push e.born) := by
        obtain ⟨r1, c0, r2, r3⟩ := hrg2
        exact ⟨(hmap _ _ hin3).1, c0, by rw [hb3 _ (Nat.le_refl _) (by omega)]; exact r2, r3⟩
      have hperm := left_perm hb.1 hel'
      have hsz3 : w.heap.size < w3.heap.size := by
        obtain ⟨r1, c0, r2, r3⟩ := hrg3
        exact (Array.getElem?_eq_some_iff.1 r2).1
      go_roundw
      case rel => exact ⟨seen.push e.born, hrg3, hin3, hsz3⟩
      case measure =>
        have h1 : wr.rangeLeft b w.heap.size = (leftOf ms seen).size := by
          obtain ⟨hm1, c0, hi1, _⟩ := hrg
          simp only [World.rangeLeft, hm1, hi1]
        have h2 : w3.rangeLeft b w.heap.size = (leftOf ms (seen.push e.born)).size := by
          obtain ⟨hm1, c0, hi1, _⟩ := hrg3
          simp only [World.rangeLeft, hm1, hi1]
        rw [h1, h2]
        have := hperm.length_eq
        simp at this
        omega
end Go.Am
namespace Go.Am
open Go Go.Proofs AM Go.RowKit
set_option maxRecDepth 10000
theorem lit49 (a : Array Value) (h : a.size = 49) : a = #[a.getD 0 undef, a.getD 1 undef, a.getD 2 undef, a.getD 3 undef, a.getD 4 undef, a.getD 5 undef, a.getD 6 undef, a.getD 7 undef, a.getD 8 undef, a.getD 9 undef, a.getD 10 undef, a.getD 11 undef, a.getD 12 undef, a.getD 13 undef, a.getD 14 undef, a.getD 15 undef, a.getD 16 undef, a.getD 17 undef, a.getD 18 undef, a.getD 19 undef, a.getD 20 undef, a.getD 21 undef, a.getD 22 undef, a.getD 23 undef, a.getD 24 undef, a.getD 25 undef, a.getD 26 undef, a.getD 27 undef, a.getD 28 undef, a.getD 29 undef, a.getD 30 undef, a.getD 31 undef, a.getD 32 undef, a.getD 33 undef, a.getD 34 undef, a.getD 35 undef, a.getD 36 undef, a.getD 37 undef, a.getD 38 undef, a.getD 39 undef, a.getD 40 undef, a.getD 41 undef, a.getD 42 undef, a.getD 43 undef, a.getD 44 undef, a.getD 45 undef, a.getD 46 undef, a.getD 47 undef, a.getD 48 undef] := by
  have : a = ((List.range 49).map fun k => a.getD k undef).toArray := by
    apply Array.ext
    · simp [h]
    · intro i h1 h2
      simp [h1]
  exact this
def headsOf : Code → Code × Code
  | .seq a (.seq b _) => (a, b)
  | c => (c, .skip)
noncomputable def put0 : Code := match Tryz.f41.body with
  | some c => (headsOf c).1
  | none => .skip
noncomputable def put1 : Code := match Tryz.f41.body with
  | some c => (headsOf c).2
  | none => .skip
theorem put_body : Tryz.f41.body = some (.seq put0 (.seq put1 putTail)) := rfl
theorem put_ntmps : Tryz.f41.ntmps = 49 := rfl
/-! ### a sort of pairs -/
def isInt : AV → Bool
  | .int _ _ => true
  | _ => false
theorem VRs.ints {h h2 : Hp} {μ μ2 : Nat → Nat} {w w2 : World} {l : List AV} {xs : List Value} (r : VRs h μ w l xs) (hi : l.all isInt = true) : VRs h2 μ2 w2 l xs := by
  have key : ∀ a y, VR h μ w a y → isInt a = true → VR h2 μ2 w2 a y := by
    intro a y q hk
    cases q <;> first | exact .int _ _ | cases hk
  exact ⟨r.1, fun i h1 h3 => key _ _ (r.2 i h1 h3) (List.all_eq_true.1 hi _ (List.getElem_mem h1))⟩
/-- a heap that holds one row of pairs -/
def tiny (cells : List AV) : Hp := ⟨Tm.leaf.set 0 (some ⟨0, 0, .row 2 cells false, Option.none⟩), 1⟩
/-- the cells of its row behind a run -/
def rowBehind : Option (AV × Hp) → Option (List AV)
  | some (_, h) => match h.get 0 with
    | some o => match o.body with
      | .row _ c _ => cond (Nat.beq o.ver 0) (some c) Option.none
      | _ => Option.none
    | Option.none => Option.none
  | Option.none => Option.none
def sortRun (P : Program) (pol : Pol) (sums : Sums) (n k : Nat) (cells : List AV) : Option (List AV) :=
  rowBehind ((acall P pol sums (n + 1) (.func (.func 74) [] []) [.own 0 0 0 k, .func (.func 75) [] []]).run (tiny cells))
/-- each entry's rows, sorted: what is to be written -/
def allSort (P : Program) (pol : Pol) (sums : Sums) (n : Nat) : List (AV × AV) → AM (List (Nat × AObj))
  | [] => pure []
  | e :: l => match e.2 with
    | .own id ver off k => do
      let o ← AM.hget id
      match o.body with
      | .row esz cells fix => do
        AM.guard (Nat.beq o.ver ver && Nat.beq off 0 && Nat.beq esz 2 && Nat.beq cells.length (k * 2) && Nat.ble 1 k && cells.all isInt)
        let c ← AM.ofOption (sortRun P pol sums n k cells)
        AM.guard (c.all isInt && Nat.beq c.length cells.length)
        let r ← allSort P pol sums n l
        AM.guard (r.all fun p => !(Nat.beq p.1 id))
        pure ((id, ⟨o.ver, o.stamp + 1, .row 2 c fix, o.ty⟩) :: r)
      | _ => AM.fail
    | _ => AM.fail
def putAll : List (Nat × AObj) → AM Unit
  | [] => pure ()
  | p :: l => do
    AM.hput p.1 p.2.ver p.2.body
    putAll l
noncomputable def putSum (pol : Pol) (sums : Sums) (n : Nat) (args : List AV) : AM AV := do
  AM.guard (Nat.beq args.length 2)
  let (e0, T0) ← acode Tryz.prog pol (acall Tryz.prog pol sums n) 41 49 n put0 (tempsOf 49 args)
  AM.guard (match e0 with | .normal => true | _ => false)
  let (e1, T1) ← acode Tryz.prog pol (acall Tryz.prog pol sums n) 41 49 n put1 T0
  AM.guard (match e1 with | .normal => true | _ => false)
  match tget T1 2 with
  | .ptr id ver 0 => do
    let (_, cells, _) ← rowOf id ver
    match cells with
    | [_, .mapv m] => do
      let es ← mapOf m
      let r ← allSort Tryz.prog pol sums n es
      putAll r
      pure (.tuple [])
    | _ => AM.fail
  | _ => AM.fail
section
variable {pol : Pol} {sums : Sums} {n : Nat} {h h' : Hp} {μ : Nat → Nat} {w : World}
theorem sort_one (hs : SumsOk Tryz.prog sums) {k : Nat} {cells c : List AV} (hr : sortRun Tryz.prog pol sums n k cells = some c) (hk : 1 ≤ k) (hci : c.all isInt = true) (hcl : c.length = cells.length)
    {W : World} {b cap : Nat} {cs : Array Value} {ty : TypeId} (hb : W.heap[b]? = some (.cells cs ty (0, 0))) (hle : cells.length ≤ cs.size) (hkc : k ≤ cap) (hcap : cap * 2 = cs.size)
    (hv : VRs Hp.none id W cells (cs.toList.take cells.length)) (hci0 : cells.all isInt = true) (hg : ∀ g l, gtab g = some l → b ≠ g) (hgl : Gl Hp.none id W) :
    Calls Tryz.prog 74 #[.slice (some ⟨b, 0, Option.none⟩) k cap, .func (.func 75) #[] #[]] W fun en W' => (∃ y, en = .returned y) ∧ W.heap.size ≤ W'.heap.size ∧ W'.os = W.os ∧ W'.tape = W.tape ∧ W'.output = W.output ∧
      (∀ j, j < W.heap.size → j ≠ b → W'.heap[j]? = W.heap[j]?) ∧ ∃ cs' : Array Value, W'.heap[b]? = some (.cells cs' ty (0, 0)) ∧ cs'.size = cs.size ∧ VRs Hp.none id W' c (cs'.toList.take c.length) := by
  unfold sortRun rowBehind at hr
  split at hr
  · rename_i v h1 he
    split at hr
    · rename_i o ho
      split at hr
      · rename_i e0 c0 f0 hbody
        cases hver : Nat.beq o.ver 0 with
        | false => rw [hver] at hr; cases hr
        | true =>
          rw [hver] at hr
          cases hr
          have hver' : o.ver = 0 := by simpa using hver
          have hget : ∀ i, (tiny cells).get i = if i = 0 then some ⟨0, 0, .row 2 cells false, Option.none⟩ else Option.none := fun i => by
            show (Tm.set _ _ _).get i = _
            rw [Tm.get_set, Tm.get_leaf]
          have hheld : ∀ x, Held (tiny cells) (fun _ => b) x → x = b := fun x ⟨i, o, hi, hm⟩ => hm.symm
          have S : SR (tiny cells) (fun _ => b) W := by
            refine ⟨fun i o hi => ?_, fun i j o1 o2 hi hj _ => ?_, fun g l hgt => ⟨fun hh => hg g l hgt (hheld _ hh).symm, (hgl g l hgt).2⟩, fun i o t hi ht _ => ?_⟩
            · rw [hget] at hi
              split at hi
              · cases hi
                exact ⟨_, hb, cs, ty, rfl, hle, (fun q => by cases q), hv.ints hci0⟩
              · cases hi
            · rw [hget] at hi hj
              split at hi
              · split at hj
                · omega
                · cases hj
              · cases hi
            · rw [hget] at hi
              split at hi
              · cases hi; cases ht
              · cases hi
          simp only [acall, List.nil_append, List.append_nil] at he
          have hc := acall_sound (pol := pol) progOk hs n
          have r : VRs (tiny cells) (fun _ => b) W [.own 0 0 0 k, .func (.func 75) [] []] [.slice (some ⟨b, 0, Option.none⟩) k cap, .func (.func 75) #[] #[]] :=
            VRs.cons (.own 0 0 0 k _ (by rw [hget]; rfl) rfl 2 (fun _ _ _ q => by cases q; rfl) ⟨b, 0, Option.none⟩ cap hkc (fun _ => ⟨rfl, cs, ty, hb, by omega⟩)) (VRs.cons (.func 75 [] [] [] [] rfl rfl (fun i h1 => absurd h1 (Nat.not_lt_zero _)) (fun i h1 => absurd h1 (Nat.not_lt_zero _))) .nil)
          obtain ⟨_, hk'⟩ := afunc_calls hc (region_ok progOk hc) hs n 74 he S r (fun i h2 _ => by
            rw [hget, if_neg]
            rintro rfl
            exact absurd h2 (by show ¬ (1 ≤ 0); omega))
          refine (callsIn_wide.1 hk').mono fun en W' hgot => ?_
          cases en with
          | returned y =>
            obtain ⟨μ', s', st, _⟩ := hgot
            refine ⟨⟨y, rfl⟩, st.size, st.os, st.tape, st.output, fun j hj hne => st.old j hj (fun hh => hne (hheld _ hh)), ?_⟩
            obtain ⟨o', q1, q2, q3, q4⟩ := st.live 0 _ (by rw [hget]; rfl)
            rw [ho] at q1; cases q1
            obtain ⟨q5, q6⟩ := q4 (.inl hver'.symm)
            obtain ⟨cs', q7, q8⟩ := q6 cs ty hb
            obtain ⟨cs2, ty2, q9, q10, _, q12⟩ := s'.row ho hbody
            rw [q5, q7] at q9
            cases q9
            exact ⟨cs', q7, q8, q12.ints hci⟩
          | panicked _ => exact hgot.elim
          | outgrown => exact hgot.elim
      · cases hr
    · cases hr
  · cases hr
/-- what is told of an entry -/
structure Srt (pol : Pol) (sums : Sums) (n : Nat) (h : Hp) (e : AV × AV) (p : Nat × AObj) : Prop where
  ex : ∃ ver k o cells c fix, e.2 = .own p.1 ver 0 k ∧ h.get p.1 = some o ∧ o.ver = ver ∧ o.body = .row 2 cells fix ∧ cells.length = k * 2 ∧ 1 ≤ k ∧ cells.all isInt = true ∧ sortRun Tryz.prog pol sums n k cells = some c ∧ c.all isInt = true ∧ c.length = cells.length ∧ p.2 = ⟨o.ver, o.stamp + 1, .row 2 c fix, o.ty⟩
theorem allSort_s : ∀ (es : List (AV × AV)) (r : List (Nat × AObj)) (h' : Hp), (allSort Tryz.prog pol sums n es).run h = some (r, h') →
    h' = h ∧ r.length = es.length ∧ (r.map (·.1)).Nodup ∧ ∀ i (h1 : i < es.length) (h2 : i < r.length), Srt pol sums n h es[i] r[i]
  | [], r, h', e => by
    obtain ⟨rfl, rfl⟩ := pure_some e
    exact ⟨rfl, rfl, List.nodup_nil, fun i h1 => absurd h1 (Nat.not_lt_zero _)⟩
  | e0 :: es, r, h', e => by
    have ih := allSort_s es
    unfold allSort at e
    split at e
    · rename_i id ver off k hown
      obtain ⟨o, h1, e1, e2⟩ := bind_some e
      obtain ⟨ho, rfl⟩ := hget_some e1
      split at e2
      · rename_i esz cells fix hb
        obtain ⟨_, h2, e3, e4⟩ := bind_some e2
        obtain ⟨hg, rfl⟩ := guard_some e3
        obtain ⟨c, h3, e5, e6⟩ := bind_some e4
        obtain ⟨hc, rfl⟩ := ofOption_some e5
        obtain ⟨_, h4, e7, e8⟩ := bind_some e6
        obtain ⟨hg2, rfl⟩ := guard_some e7
        obtain ⟨r', h5, e9, e10⟩ := bind_some e8
        obtain ⟨rfl, hl, hn, hall⟩ := ih r' h5 e9
        obtain ⟨_, h6, e11, e12⟩ := bind_some e10
        obtain ⟨hg3, rfl⟩ := guard_some e11
        obtain ⟨rfl, rfl⟩ := pure_some e12
        simp only [Bool.and_eq_true, Nat.beq_eq, Nat.ble_eq] at hg hg2
        obtain ⟨⟨⟨⟨⟨g1, g2⟩, g3⟩, g4⟩, g5⟩, g6⟩ := hg
        subst g2 g3
        refine ⟨rfl, by simp [hl], ?_, fun i h1 h2 => ?_⟩
        · rw [List.map_cons, List.nodup_cons]
          refine ⟨fun hm => ?_, hn⟩
          obtain ⟨p, hp, hpe⟩ := List.mem_map.1 hm
          have := List.all_eq_true.1 hg3 p hp
          simp [hpe] at this
        · cases i with
          | zero => exact ⟨ver, k, o, cells, c, fix, hown, ho, g1, hb, g4, g5, g6, hc, hg2.1, hg2.2, rfl⟩
          | succ i => exact hall i (by simpa using h1) (by simpa using h2)
      · cases e2
    · cases e
theorem putAll_s : ∀ (r : List (Nat × AObj)) (u : Unit) (h h' : Hp), (r.map (·.1)).Nodup → (∀ p ∈ r, ∃ o, h.get p.1 = some o ∧ p.2.ver = o.ver ∧ p.2.stamp = o.stamp + 1 ∧ p.2.ty = o.ty) → (putAll r).run h = some (u, h') →
    h'.next = h.next ∧ (∀ p ∈ r, h'.get p.1 = some p.2) ∧ ∀ id, (∀ p ∈ r, p.1 ≠ id) → h'.get id = h.get id
  | [], u, h, h', _, _, e => by
    obtain ⟨_, rfl⟩ := pure_some e
    exact ⟨rfl, (fun p hp => by cases hp), fun _ _ => rfl⟩
  | p :: r, u, h, h', hn, hp, e => by
    obtain ⟨_, h1, e1, e2⟩ := bind_some e
    obtain ⟨o, ho, _, rfl⟩ := hput_some e1
    obtain ⟨o', ho', hv, hst, hty⟩ := hp p (by simp)
    rw [ho] at ho'; cases ho'
    rw [List.map_cons, List.nodup_cons] at hn
    have hne : ∀ q ∈ r, q.1 ≠ p.1 := fun q hq e => hn.1 (List.mem_map.2 ⟨q, hq, e⟩)
    have hget : ∀ i, (⟨h.obj.set p.1 (some ⟨p.2.ver, o.stamp + 1, p.2.body, o.ty⟩), h.next⟩ : Hp).get i = if i = p.1 then some ⟨p.2.ver, o.stamp + 1, p.2.body, o.ty⟩ else h.get i := fun i => Tm.get_set _ _ _ _
    have hpe : (⟨p.2.ver, o.stamp + 1, p.2.body, o.ty⟩ : AObj) = p.2 := by
      obtain ⟨i, ⟨a, b, c, d⟩⟩ := p
      simp only at hst hty ⊢
      rw [hst, hty]
    obtain ⟨k1, k2, k3⟩ := putAll_s r u _ h' hn.2 (fun q hq => by
      obtain ⟨o2, ho2, x⟩ := hp q (List.mem_cons_of_mem _ hq)
      exact ⟨o2, by rw [hget, if_neg (hne q hq)]; exact ho2, x⟩) e2
    refine ⟨k1, fun q hq => ?_, fun id hid => ?_⟩
    · rcases List.mem_cons.1 hq with rfl | hq
      · rw [k3 _ (fun q' hq' => hne q' hq'), hget, if_pos rfl, hpe]
      · exact k2 q hq
    · rw [k3 id (fun q hq => hid q (List.mem_cons_of_mem _ hq)), hget, if_neg (fun e => hid p (by simp) e.symm)]
end
end Go.Am
namespace Go.Am
open Go Go.Proofs AM Go.RowKit
set_option maxRecDepth 10000
set_option linter.unusedVariables false
theorem nodup_inj {α β : Type} {l : List α} {f : α → β} (h : (l.map f).Nodup) {i j : Nat} (hi : i < l.length) (hj : j < l.length) (e : f l[i] = f l[j]) : i = j := by
  have q := List.pairwise_iff_getElem.1 h
  rcases Nat.lt_trichotomy i j with k | k | k
  · exact absurd (by rw [List.getElem_map, List.getElem_map]; exact e) (q i j (by simpa using hi) (by simpa using hj) k)
  · exact k
  · exact absurd (by rw [List.getElem_map, List.getElem_map]; exact e.symm) (q j i (by simpa using hj) (by simpa using hi) k)
/-- what lies between: which rows are written already -/
structure PInv (h : Hp) (μ : Nat → Nat) (w : World) (ms : Array MapEntry) (r : List (Nat × AObj)) (seen : Array Nat) (W : World) : Prop where
  ex : ∃ ws g, ws.heap.size = w.heap.size ∧ Below w.heap.size ws W ∧ SR g μ ws ∧ Stp h μ w g μ ws ∧ g.next = h.next ∧
    (∀ i (hi : i < r.length) (hm : i < ms.toList.length), g.get r[i].1 = if ms.toList[i].born ∈ seen then some r[i].2 else h.get r[i].1) ∧ (∀ id, (∀ p ∈ r, p.1 ≠ id) → g.get id = h.get id) ∧ ∀ c, (∀ p ∈ r, μ p.1 ≠ c) → ws.heap[c]? = w.heap[c]?
section
variable {pol : Pol} {sums : Sums} {n : Nat} {h h' : Hp} {μ : Nat → Nat} {w : World}
theorem pinv_step (hs : SumsOk Tryz.prog sums) {es : List (AV × AV)} {r : List (Nat × AObj)} {ms : Array MapEntry} {clock m : Nat} (hb : Born ms clock) (s : SR h μ w) (hmm : ∀ p ∈ r, μ p.1 ≠ m) (hlen : r.length = es.length) (hnd : (r.map (·.1)).Nodup) (hsr : ∀ i (h1 : i < es.length) (h2 : i < r.length), Srt pol sums n h es[i] r[i])
    (hv : VRs h μ w (es.map (·.2)) (ms.toList.map (·.val))) {seen : Array Nat} {W : World} {e : MapEntry} (I : PInv h μ w ms r seen W) (he : e ∈ (leftOf ms seen).toList) :
    Calls Tryz.prog 74 #[e.val, .func (.func 75) #[] #[]] W fun en W' => (∃ x, en = .returned x) ∧ PInv h μ w ms r (seen.push e.born) W' ∧ ∀ c, w.heap.size ≤ c → c < W.heap.size → W'.heap[c]? = W.heap[c]? := by
  obtain ⟨ws, g, hsz, hbel, sg, stg, hgn, hgr, hgo, hoth⟩ := I.ex
  unfold leftOf at he
  simp only [Array.toList_filter] at he
  obtain ⟨hem, hns⟩ := List.mem_filter.1 he
  obtain ⟨i, hi, rfl⟩ := List.getElem_of_mem hem
  have hlm : es.length = ms.toList.length := by have := hv.1; simpa using this
  have hir : i < r.length := by omega
  obtain ⟨ver, k, o, cells, c, fix, x1, x2, x3, x4, x5, x6, x7, x8, x9, x10, x11⟩ := (hsr i (by omega) hir).ex
  have hnotin : ms.toList[i].born ∉ seen := by simpa using hns
  have hgi : g.get r[i].1 = some o := by rw [hgr i hir hi, if_neg hnotin, x2]
  have hvi := hv.2 i (by simp; omega) (by simpa using hi)
  simp only [List.getElem_map] at hvi
  rw [x1] at hvi
  obtain ⟨ad, cap, hval, hkc, hex⟩ := hvi.own_live x2 x3 x4
  obtain ⟨rfl, cs0, ty0, hw0, hcap0⟩ := hex (.inr rfl)
  -- the row in the world as it stands
  obtain ⟨cs, ty, hws, hle, hfix, hvr⟩ := sg.row hgi x4
  have hbl : μ r[i].1 < w.heap.size := (Array.getElem?_eq_some_iff.1 hw0).1
  have hWb : W.heap[μ r[i].1]? = some (.cells cs ty (0, 0)) := by rw [hbel.block _ hbl]; exact hws
  have hcs : cs.size = cs0.size := by
    obtain ⟨o', q1, q2, q3, q4⟩ := stg.live r[i].1 o x2
    rw [hgi] at q1; cases q1
    obtain ⟨_, q5⟩ := q4 (.inl rfl)
    obtain ⟨cs', q6, q7⟩ := q5 cs0 ty0 hw0
    rw [hws] at q6; cases q6
    exact q7
  have sW : SR g μ W ∧ Stp g μ ws g μ W := sg.below ⟨hbel.os, hbel.tape, hbel.output, hbel.size, fun j hj => hbel.block j (by rw [← hsz]; exact hj)⟩
  rw [hval]
  refine (sort_one hs x8 x6 x9 x10 hWb hle hkc (by omega) (hvr.ints x7) x7 (fun gg l hgt he' => ?_) (fun gg l hgt => ⟨fun ⟨id, o, ho, _⟩ => (by rw [Hp.none_get] at ho; cases ho), (sW.1.gl gg l hgt).2⟩)).mono ?_
  · exact (sW.1.gl gg l hgt).1 ⟨_, _, hgi, he'⟩
  rintro en W' ⟨hy, k1, k2, k3, k4, k5, cs', k6, k7, k8⟩
  refine ⟨hy, ⟨{ ws with heap := ws.heap.setIfInBounds (μ r[i].1) (.cells cs' ty (0, 0)) }, ⟨g.obj.set r[i].1 (some r[i].2), g.next⟩, by simpa using hsz, ⟨k2.trans hbel.os, k3.trans hbel.tape, k4.trans hbel.output, ?_, fun j hj => ?_⟩, ?_⟩, fun j h1 h2 => k5 j h2 (by omega)⟩
  · have := hbel.size; simp; omega
  · by_cases hj' : j = μ r[i].1
    · subst hj'
      rw [k6]
      simp [Array.getElem?_setIfInBounds]
      omega
    · rw [k5 j (by have := hbel.size; omega) hj', hbel.block j hj]
      simp only [Array.getElem?_setIfInBounds]
      rw [if_neg (fun q => hj' q.symm)]
  · have hput := sg.put (w' := { ws with heap := ws.heap.setIfInBounds (μ r[i].1) (.cells cs' ty (0, 0)) }) (ver := o.ver) (b := .row 2 c fix) (obj := .cells cs' ty (0, 0)) hgi (Nat.le_refl _) (by rw [x4]; rfl) (by simp)
      (fun j hj => by simp only [Array.getElem?_setIfInBounds]; rw [if_neg (fun q => hj q.symm)]) (by simp [Array.getElem?_setIfInBounds]; omega)
      ⟨cs', ty, rfl, by omega, fun hf => by have := hfix hf; omega, k8.ints x9⟩ (fun cs2 e2 hc2 => by rw [hws] at hc2; cases hc2; exact ⟨cs', rfl, k7⟩) rfl rfl rfl
    rw [← x11] at hput
    refine ⟨hput.1, stg.trans hput.2, hgn, fun j hj hm => ?_, fun id hid => ?_, fun j hj => ?_⟩
    · have hget : (⟨g.obj.set r[i].1 (some r[i].2), g.next⟩ : Hp).get r[j].1 = if r[j].1 = r[i].1 then some r[i].2 else g.get r[j].1 := Tm.get_set _ _ _ _
      rw [hget]
      by_cases hji : j = i
      · subst hji
        rw [if_pos rfl, if_pos (by simp)]
      · have hne : r[j].1 ≠ r[i].1 := fun q => hji (nodup_inj hnd hj hir q)
        have hbn : ms.toList[j].born ≠ ms.toList[i].born := fun q => hji (nodup_inj (f := (·.born)) hb.1 hm hi q)
        rw [if_neg hne, hgr j hj hm]
        simp only [Array.mem_push, hbn, or_false]
    · have hget : (⟨g.obj.set r[i].1 (some r[i].2), g.next⟩ : Hp).get id = if id = r[i].1 then some r[i].2 else g.get id := Tm.get_set _ _ _ _
      rw [hget, if_neg (fun q => hid r[i] (List.getElem_mem hir) q.symm), hgo id hid]
    · simp only [Array.getElem?_setIfInBounds]
      rw [if_neg (fun q => hj r[i] (List.getElem_mem hir) q), hoth j hj]
theorem put_ok (hs : SumsOk Tryz.prog sums) {args : List AV} {xs : List Value} {v : AV} (e : (putSum pol sums n args).run h = some (v, h')) (s : SR h μ w) (r : VRs h μ w args xs) (F : Fresh h h') : CallsIn Fence.wide 0 Tryz.prog 41 xs.toArray w (Got h μ w v h') := by
  have hc := acall_sound (pol := pol) progOk hs n
  have hreg := region_ok progOk hc (pol := pol)
  unfold putSum at e
  obtain ⟨_, h1, e1, e2, F1, F2⟩ := bind_fresh e F
  obtain ⟨hg, rfl⟩ := guard_some e1
  obtain ⟨⟨ex0, T0⟩, h2, e3, e4, F3, F4⟩ := bind_fresh e2 F2
  obtain ⟨_, h3, e5, e6, F5, F6⟩ := bind_fresh e4 F4
  obtain ⟨hg0, rfl⟩ := guard_some e5
  obtain ⟨⟨ex1, T1⟩, h4, e7, e8, F7, F8⟩ := bind_fresh e6 F6
  obtain ⟨_, h5, e9, e10, F9, F10⟩ := bind_fresh e8 F8
  obtain ⟨hg1, rfl⟩ := guard_some e9
  obtain rfl : ex0 = .normal := by cases ex0 <;> first | rfl | cases hg0
  obtain rfl : ex1 = .normal := by cases ex1 <;> first | rfl | cases hg1
  have hal : args.length ≤ 49 := by have := Nat.eq_of_beq_eq_true hg; omega
  refine callsIn_of_wp_marks Tryz.func41 put_body trivial ?_
  have tr := TR_entry r (nt := 49) hal
  refine wpIn_seq (wpIn_mono (acode_wp hc hreg 49 n put0 w.heap.size none _ T0 .normal h1 h3 { tmps := xs.toArray ++ Array.replicate (49 - xs.toArray.size) undef, defers := [] } w μ e3 s tr F3 trivial (fun l hl => by cases hl) (Nat.le_refl _)) (fun x1 a1 w1 hp => ?_))
  obtain ⟨rfl, μ1, s1, st1, tr1, m1⟩ := hp
  refine wpIn_seq (wpIn_mono (acode_wp hc hreg 49 n put1 w.heap.size none T0 T1 .normal h3 h5 a1 w1 μ1 e7 s1 tr1 F7 m1 (fun l hl => by cases hl) st1.size) (fun x2 a2 w2 hp => ?_))
  obtain ⟨rfl, μ2, s2, st2, tr2, m2⟩ := hp
  show putTail.wpIn Fence.wide 0 Tryz.prog _ a2 w2
  refine wpIn_wide.2 ?_
  split at e10
  · rename_i id ver htg
    obtain ⟨⟨esz, cells, fix⟩, h6, e11, e12⟩ := bind_some e10
    obtain ⟨rfl, o, ho, hv, hbody⟩ := rowOf_some e11
    dsimp only at e12
    split at e12
    · rename_i d m
      obtain ⟨es, h7, e13, e14⟩ := bind_some e12
      obtain ⟨rfl, om, hom, hmb⟩ := mapOf_some e13
      obtain ⟨rr, h8, e15, e16⟩ := bind_some e14
      obtain ⟨z, hlen, hnd, hsr⟩ := allSort_s es rr h8 e15
      rw [z] at e16
      obtain ⟨_, h9, e17, e18⟩ := bind_some e16
      obtain ⟨rfl, rfl⟩ := pure_some e18
      obtain ⟨ms, clock, hmw, hkk, hvv, hborn⟩ := s2.mapBorn hom hmb
      have hlm : es.length = ms.toList.length := by have := hvv.1; simpa using this
      obtain ⟨pn, pg, po⟩ := putAll_s rr _ _ _ hnd (fun p hp => by
        obtain ⟨i, hi, rfl⟩ := List.getElem_of_mem hp
        obtain ⟨ver, k, o, cells, c, fix, x1, x2, x3, x4, x5, x6, x7, x8, x9, x10, x11⟩ := (hsr i (by omega) hi).ex
        exact ⟨o, x2, by rw [x11], by rw [x11], by rw [x11]⟩) e17
      have hmm : ∀ p ∈ rr, μ2 p.1 ≠ μ2 m := fun p hp q => by
        obtain ⟨i, hi, rfl⟩ := List.getElem_of_mem hp
        obtain ⟨ver, k, o2, cells, c, fix, x1, x2, x3, x4, x5, x6, x7, x8, x9, x10, x11⟩ := (hsr i (by omega) hi).ex
        have := s2.inj _ _ _ _ x2 hom q
        rw [this] at x2
        rw [hom] at x2; cases x2
        rw [hmb] at x4; cases x4
      have hp2 := tr2.2 2
      rw [htg] at hp2
      have hp2 := hp2.ptr_live ho hv
      obtain ⟨cs, ty', hw, hcs, _, hr⟩ := s2.row ho hbody
      obtain ⟨y0, y1, ys, hcl⟩ : ∃ y0 y1 ys, cs.toList = y0 :: y1 :: ys := by
        match hq : cs.toList with
        | [] =>
          have h0 : cs.size = 0 := by rw [← Array.length_toList, hq]; rfl
          simp at hcs; omega
        | [a] =>
          have h0 : cs.size = 1 := by rw [← Array.length_toList, hq]; rfl
          simp at hcs; omega
        | a :: b :: l => exact ⟨a, b, l, rfl⟩
      rw [hcl] at hr
      obtain rfl := VR.map_live (VRs.head (VRs.tail hr))
      have hc1 : w2.cell? ⟨μ2 id, 1, none⟩ = some (.map (some (μ2 m))) := by
        simp only [World.cell?, hw]
        have : cs[1]? = some (.map (some (μ2 m))) := by rw [← Array.getElem?_toList, hcl]; rfl
        simpa using this
      have hlit := lit49 a2.tmps tr2.1
      rw [hp2] at hlit
      obtain ⟨tm, ds⟩ := a2
      dsimp only at hlit tr2 m2
      rw [hlit]
      refine put_tail (fun k => tm.getD k undef) ds w2 (μ2 id) (μ2 m) clock ms _ (PInv _ μ2 w2 ms rr) hc1 hmw hborn ?_ ?_ ?_ (fun seen W e I he => pinv_step hs hborn s2 hmm hlen hnd hsr hvv I he) ?_
      · exact ⟨w2, _, rfl, Below.refl _ _, s2, Stp.refl _ _ _, rfl, fun i hi hm => by simp, fun _ _ => rfl, fun _ _ => rfl⟩
      · rintro seen W ⟨ws, g, hsz, hbel, sg, stg, hgn, hgr, hgo, hoth⟩
        exact ⟨by rw [hbel.block _ (Array.getElem?_eq_some_iff.1 hmw).1, hoth _ hmm, hmw], by have := hbel.size; omega⟩
      · rintro seen W W' ⟨ws, g, hsz, hbel, sg, stg, hgn, hgr, hgo, hoth⟩ k1 k2 k3 k4 k5
        exact ⟨ws, g, hsz, ⟨k3.trans hbel.os, k4.trans hbel.tape, k5.trans hbel.output, by have := hbel.size; omega, fun j hj => by rw [k1 j hj, hbel.block j hj]⟩, sg, stg, hgn, hgr, hgo, hoth⟩
      · rintro a' w' seen hd hleft ⟨ws, g, hsz, hbel, sg, stg, hgn, hgr, hgo, hoth⟩
        obtain ⟨s2a, st2a⟩ := sg.below (w' := w') ⟨hbel.os, hbel.tape, hbel.output, hbel.size, fun j hj => hbel.block j (by rw [← hsz]; exact hj)⟩
        obtain ⟨s3, st3a⟩ := s2a.ext (h' := h') (fun id => by
          by_cases hid : ∃ p ∈ rr, p.1 = id
          · obtain ⟨p, hp, rfl⟩ := hid
            rw [pg p hp]
            obtain ⟨i, hi, rfl⟩ := List.getElem_of_mem hp
            rw [hgr i hi (by omega), if_pos]
            have hmem : ms.toList[i]'(by omega) ∈ ms.toList := List.getElem_mem _
            by_cases hsn : (ms.toList[i]'(by omega)).born ∈ seen
            · exact hsn
            · exfalso
              have : (ms.toList[i]'(by omega)) ∈ (leftOf ms seen).toList := by
                unfold leftOf
                simp only [Array.toList_filter]
                exact List.mem_filter.2 ⟨hmem, by simpa using hsn⟩
              rw [hleft] at this
              cases this
          · have hid' : ∀ p ∈ rr, p.1 ≠ id := fun p hp q => hid ⟨p, hp, q⟩
            rw [po id hid', hgo id hid'])
        have st3 := stg.trans (st2a.trans st3a)
        have st := st1.trans (st2.trans st3)
        show LeavesInM Fence.wide 0 Tryz.prog Tryz.f41 a'.tmps _ a'.defers .returning w'
        refine leaves a'.defers w' s3 (by rw [hd]; exact m2.mono st3) (fun w4 s4 vr hz hB ho4 ht4 hp4 => ?_)
        refine ⟨.tuple #[], (by simp [results, show Tryz.f41.results = #[] from rfl]), μ2, s4, ⟨by rw [hz]; exact st.size, fun id o ho' => ?_, fun c hc hh => by rw [hB c hc]; exact st.old c hc hh, st.held, by rw [ho4]; exact st.os, by rw [ht4]; exact st.tape, by rw [hp4]; exact st.output⟩, .tuple [] [] rfl (fun i h1 => absurd h1 (Nat.not_lt_zero _))⟩
        obtain ⟨o', g1, g2, g3, g4⟩ := st.live id o ho'
        refine ⟨o', g1, g2, g3, fun hc => ?_⟩
        obtain ⟨g5, g6⟩ := g4 hc
        have hlt : μ id < w.heap.size := by
          obtain ⟨obj, hb, _⟩ := s.blk id o ho'; exact (Array.getElem?_eq_some_iff.1 hb).1
        exact ⟨g5, fun cs e hcs => by rw [hB _ hlt]; exact g6 cs e hcs⟩
    · cases e12
  · cases e10
end
end Go.Am
namespace Go.Am
open Go Go.Proofs AM
set_option maxRecDepth 100000
def tab37 : List Cut := [C1, C2]
noncomputable def sums37 : Sums := addSum 37 (cutSum tab37 (fun args => acall Tryz.prog polB sumsD 3001 (.func (.func 37) [] []) args)) sumsD
theorem sums37_ok : SumsOk Tryz.prog sums37 :=
  addSum_ok sumsD_ok ⟨_, _, Tryz.func37, rfl⟩ (cutSum_is progOk sumsD_ok ⟨_, _, Tryz.func37, rfl⟩ fun c hc => by
    simp only [tab37, List.mem_cons, List.mem_nil_iff, or_false] at hc
    rcases hc with rfl | rfl
    · exact C1run
    · exact C2run)
def tab70 : List Cut := [C3, C4, C5]
noncomputable def sums70 : Sums := addSum 70 (cutSum tab70 (fun args => acall Tryz.prog polB sumsD 3001 (.func (.func 70) [] []) args)) sums37
theorem sums70_ok : SumsOk Tryz.prog sums70 :=
  addSum_ok sums37_ok ⟨_, _, Tryz.func70, rfl⟩ (cutSum_is progOk sumsD_ok ⟨_, _, Tryz.func70, rfl⟩ fun c hc => by
    simp only [tab70, List.mem_cons, List.mem_nil_iff, or_false] at hc
    rcases hc with rfl | rfl | rfl
    · exact C3run
    · exact C4run
    · exact C5run)
def tab72 : List Cut := [C6, C7, C8, C9]
noncomputable def sums72 : Sums := addSum 72 (cutSum tab72 (fun args => acall Tryz.prog polB sumsD 3001 (.func (.func 72) [] []) args)) sums70
theorem sums72_ok : SumsOk Tryz.prog sums72 :=
  addSum_ok sums70_ok ⟨_, _, Tryz.func72, rfl⟩ (cutSum_is progOk sumsD_ok ⟨_, _, Tryz.func72, rfl⟩ fun c hc => by
    simp only [tab72, List.mem_cons, List.mem_nil_iff, or_false] at hc
    rcases hc with rfl | rfl | rfl | rfl
    · exact C6run
    · exact C7run
    · exact C8run
    · exact C9run)
def tab112 : List Cut := [C10, C11, C12, C13, C14, C15, C16, C17, C18]
noncomputable def sums112 : Sums := addSum 112 (cutSum tab112 (fun args => acall Tryz.prog polB sumsD 3001 (.func (.func 112) [] []) args)) sums72
theorem sums112_ok : SumsOk Tryz.prog sums112 :=
  addSum_ok sums72_ok ⟨_, _, Tryz.func112, rfl⟩ (cutSum_is progOk sumsD_ok ⟨_, _, Tryz.func112, rfl⟩ fun c hc => by
    simp only [tab112, List.mem_cons, List.mem_nil_iff, or_false] at hc
    rcases hc with rfl | rfl | rfl | rfl | rfl | rfl | rfl | rfl | rfl
    · exact C10run
    · exact C11run
    · exact C12run
    · exact C13run
    · exact C14run
    · exact C15run
    · exact C16run
    · exact C17run
    · exact C18run)
def tab27 : List Cut := [C19]
noncomputable def sums27 : Sums := addSum 27 (cutSum tab27 (fun args => acall Tryz.prog polB sumsD 3001 (.func (.func 27) [] []) args)) sums112
theorem sums27_ok : SumsOk Tryz.prog sums27 :=
  addSum_ok sums112_ok ⟨_, _, Tryz.func27, rfl⟩ (cutSum_is progOk sumsD_ok ⟨_, _, Tryz.func27, rfl⟩ fun c hc => by
    simp only [tab27, List.mem_cons, List.mem_nil_iff, or_false] at hc
    rcases hc with rfl
    exact C19run)
def tab31 : List Cut := [C20, C21]
noncomputable def sums31 : Sums := addSum 31 (cutSum tab31 (fun args => acall Tryz.prog polB sumsD 3001 (.func (.func 31) [] []) args)) sums27
theorem sums31_ok : SumsOk Tryz.prog sums31 :=
  addSum_ok sums27_ok ⟨_, _, Tryz.func31, rfl⟩ (cutSum_is progOk sumsD_ok ⟨_, _, Tryz.func31, rfl⟩ fun c hc => by
    simp only [tab31, List.mem_cons, List.mem_nil_iff, or_false] at hc
    rcases hc with rfl | rfl
    · exact C20run
    · exact C21run)
noncomputable def sumsE : Sums := addSum 38 (toldSum [(T1a, T1r)]) sums31
theorem sumsE_ok : SumsOk Tryz.prog sumsE := addTold_ok sums31_ok (by simp) fun p hp => by
  rcases List.mem_singleton.1 hp with rfl
  exact T1told
noncomputable def sumsF : Sums := addSum 41 (putSum polB sumsE 2999) sumsE
theorem sumsF_ok : SumsOk Tryz.prog sumsF := addSum_ok sumsE_ok ⟨_, _, Tryz.func41, rfl⟩ fun args h h' v μ w xs e s r F => put_ok sumsE_ok e s r F
end Go.Am
namespace Go.Am
open Go Go.Proofs AM
set_option maxRecDepth 100000
theorem awake_run : runTold Tryz.prog polB sumsF 3000 4 [] (.bool true) = true := by kernel_rfl
theorem awake_told : Told Tryz.prog 4 [] (.bool true) := told_of_run progOk sumsF_ok awake_run
end Go.Am
namespace Go.Proofs.YtjkbdgglljpllabGreatDoor
open Go
theorem statsGuess_holds : Rows.StatsGuessCardSaid := statsGuess_card Go.Am.awake_told
end Go.Proofs.YtjkbdgglljpllabGreatDoor
