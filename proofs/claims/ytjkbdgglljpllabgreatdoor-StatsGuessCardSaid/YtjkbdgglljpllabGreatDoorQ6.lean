/- The A-machine: a closed run on a small heap that is told once, and taken on any heap that holds it. It holds no program. -/
import Derived.Test.YtjkbdgglljpllabGreatDoorQ5
import Derived.Test.YtjkbdgglljpllabGreatDoorChecked
import Derived.Deep.Slices
import Derived.Deep.Fields
import Derived.ChangeSame
import Derived.ProofKit
import Derived.SizedLaws
import Derived.Test.YtjkbdgglljpllabGreatDoorProg
import Derived.KernelRfl
import Derived.Test.YtjkbdgglljpllabGreatDoorTie
import Derived.Test.YtjkbdgglljpllabGreatDoorCards
import Derived.OpenShut
import Derived.LaidMore
import Derived.Lay
import Derived.SevenTiedAt
import Derived.Stop.Joined
import Derived.Test.YtjkbdgglljpllabGreatDoorRows
import Derived.Lib.Builder
import Derived.WalkKit
import Derived.WalkSpells
import Derived.Shelf.Strings.Builder1
import Derived.Shelf.Strings.Builder2
import Derived.Shelf.Strings.OnBuilder
import Derived.Shelf.Strings.Search1
import Derived.Shelf.Strings.Search2
import Derived.Shelf.Strings.Search3
import Derived.Shelf.Small.Strs
import Derived.Shelf.SlIter.Nil
import Derived.Shelf.SortM.Plain
import Derived.Shelf.SortM.SortNone
import Derived.Ground.GgzProg
import Derived.Maps.AppendAt
import Derived.OwnWalk
import Derived.Tactics
import Derived.Tactics2
import Derived.Defers
import Derived.Laws.Pointers
import Derived.Laws.LoneSync
import Derived.RegionTactic
import Derived.RegionCalls
set_option linter.unusedVariables false
set_option linter.unusedSimpArgs false
namespace Go.Am
open Go Go.Proofs AM
set_option maxRecDepth 10000
set_option synthInstance.maxHeartbeats 400000
set_option synthInstance.maxSize 4000
set_option linter.unusedVariables false
variable {pol : Pol} {sums : Sums}
/-- the texts that are laid behind -/
def mkT (i : Nat) : Str := [35, 1, 0, 0, 47, UInt8.ofNat i, 0, 0]
theorem mark_run (S : S19 pol sums) {n : Nat} (hn : 1 ≤ n) (i : Nat) (hi : i < 12) (h : Hp) : (acall Tryz.prog pol sums n (.func (.func 17) [] []) [.int .i64 1, .int .i64 (i : Nat)]).run h = some (.str (mkT i), h) := by
  obtain ⟨m, rfl⟩ : ∃ m, n = m + 1 := ⟨n - 1, by omega⟩
  simp only [acall, afunc, S.rest 17 (by decide), List.nil_append, List.append_nil]
  obtain ⟨lit⟩ := pol
  have hl : lit = fun _ _ => false := by funext f d; exact S.lit f d
  subst hl
  have : i = 0 ∨ i = 1 ∨ i = 2 ∨ i = 3 ∨ i = 4 ∨ i = 5 ∨ i = 6 ∨ i = 7 ∨ i = 8 ∨ i = 9 ∨ i = 10 ∨ i = 11 := by omega
  rcases this with rfl | rfl | rfl | rfl | rfl | rfl | rfl | rfl | rfl | rfl | rfl | rfl <;> (show _ = _; kernel_rfl)
section
attribute [local irreducible] ACo AK AT AOps ARs Fin Cal KLp KFun
theorem theirs_w (S : S19 pol sums) {n : Nat} {W : List Ck} {lv : AV} {x : Sts} [a : HasRows [] W lv linC 7 x.lines] (hn : x.lines.length + 2 ≤ n) (hb : x.lines.length < 2 ^ 30) :
    Cal [] W (acall Tryz.prog pol sums n (.func (.func 8) [] []) [.agg (stsC x lv)]) (fun r N => ∃ lv', r = .agg (stsC x lv') ∧ N = [.rows linC 7 lv' x.lines]) := by
  refine Cal_fn (f := 8) (nt := 42) (rs := [.cell 2 39]) (by omega) (by first | assumption | exact S.rest _ (by decide)) Tryz.func8 rfl rfl rfl rfl fun m h0 T hm aT => ?_
  (repeat first|refine Wk.go ?_|refine andP ?_|intro _)
  rename_i i1 i2 i3
  refine aco_nil linC 7 (.sl .nil 0 []) ?_
  refine A_loop (fun d L T => ∃ i lv' ls, d = x.lines.length - i ∧ i ≤ x.lines.length ∧ Lk T 4 (.int .i64 (i : Nat)) ∧ L = [.rows linC 7 lv' ls, .row i3 0 5 (stsC x lv') true, .row i2 0 5 [.int .i64 0, .int .i64 0, .int .i64 0, .int .i64 0, .sl .nil 0 []] true, .row i1 0 5 (stsC x lv) true] ∧ ls = x.lines.take i)
    [1, 2, 3] x.lines.length (by omega) ⟨0, _, _, rfl, Nat.zero_le _, lkz (by rfl), rfl, rfl⟩ (by rfl) ?_
  rintro d L T1 ⟨i, lv', ls, rfl, hi, h4, rfl, hls⟩ hA
  by_cases c : i < x.lines.length
  · have : Is (decide ((i : Int) < (x.lines.length : Int))) true := ⟨by simpa using c⟩
    generalize hy : x.lines[i] = y
    have hy' : x.lines[i]? = some y := by rw [List.getElem?_eq_getElem c, hy]
    have e1 : ElAt x.lines i y := ⟨hy'⟩
    have hl : ls.length = i := by rw [hls, List.length_take]; omega
    (repeat first|refine Wk.go ?_|refine andP ?_|intro _)
    rename_i lv2
    refine lend (x.lines.length - (i + 1)) _ (by omega) ⟨i + 1, lv2, ls ++ [y], rfl, c, inferInstance, rfl, ?_⟩
    rw [List.take_succ_eq_append_getElem c, hy, hls]
  · have : Is (decide ((i : Int) < (x.lines.length : Int))) false := ⟨by simpa using c⟩
    have hl : ls = x.lines := by rw [hls, List.take_of_length_le (by omega)]
    rw [hl]
    (repeat first|refine Wk.go ?_|refine andP ?_|intro _)
    exact fin ⟨lv', rfl, rfl⟩
theorem mark_w (S : S19 pol sums) {n : Nat} {W : List Ck} {i : Nat} (hn : 1 ≤ n) (hi : i < 12) :
    Cal [] W (acall Tryz.prog pol sums n (.func (.func 17) [] []) [.int .i64 1, .int .i64 (i : Nat)]) (fun r N => r = .str (mkT i) ∧ N = []) :=
  Cal.of0 fun h w k => Runs.of (mark_run S hn i hi h) ⟨Keep.refl h, rfl⟩
def marksT (l : List Str) (i : Nat) : List Str := l ++ (List.range i).map mkT
theorem marksT_succ (l : List Str) (i : Nat) : marksT l (i + 1) = marksT l i ++ [mkT i] := by
  simp [marksT, List.range_succ]
theorem marksT_length (l : List Str) (i : Nat) : (marksT l i).length = l.length + i := by simp [marksT]
theorem lentTexts_w (S : S19 pol sums) {n : Nat} {W : List Ck} {v : AV} {l : List Str} [a : HasRows [] W v strC 1 l] (hn : 40 ≤ n) (hb : l.length < 2 ^ 40) :
    Cal [] W (acall Tryz.prog pol sums n (.func (.func 5) [] []) [v]) (fun r N => ∃ V, r = subV V 0 l.length 1 ∧ N = [.arr strC 1 V (marksT l 12)]) := by
  refine Cal_fn (f := 5) (nt := 25) (rs := [.tmp 2]) (by omega) (by first | assumption | exact S.rest _ (by decide)) Tryz.func5 rfl rfl rfl rfl fun m h0 T hm aT => ?_
  (repeat first|refine Wk.go ?_|refine andP ?_|intro _)
  have e0 : List.replicate 0 ([] : Str) ++ l = marksT l 0 := by simp [marksT]
  rw [e0]
  rename_i v1
  refine A_loop (fun d L T => ∃ i v c xs, d = 12 - i ∧ i ≤ 12 ∧ Lk T 4 (.int .i64 (i : Nat)) ∧ Lk T 3 v ∧ L = [c] ∧ xs = marksT l i ∧ ((i = 0 ∧ c = .rows strC 1 v xs) ∨ c = .arr strC 1 v xs))
    [0, 2] 12 (by omega) ⟨0, v1, _, _, rfl, by omega, lkz (by rfl), inferInstance, rfl, rfl, .inl ⟨rfl, rfl⟩⟩ (by rfl) ?_
  rintro d L T1 ⟨i, v, c, xs, rfl, hi, h4, h3, rfl, hx, hc⟩ hA
  have hxl : xs.length = l.length + i := by rw [hx, marksT_length]
  by_cases ci : i < 12
  · have : Is (decide ((i : Int) < 12)) true := ⟨by simp; omega⟩
    rcases hc with ⟨hi0, rfl⟩ | rfl
    all_goals
      (repeat first|refine Wk.go ?_|refine andP ?_|intro _)
      refine A_call0 (mark_w S (by omega) ci) ?_
      rintro _ _ ⟨rfl, rfl⟩
      (repeat first|refine Wk.go ?_|refine andP ?_|intro _)
      rename_i v2
      refine lend (12 - (i + 1)) _ (by omega) ⟨i + 1, v2, _, xs ++ [mkT i], rfl, ci, inferInstance, inferInstance, rfl, by rw [marksT_succ, hx], .inr rfl⟩
  · have : Is (decide ((i : Int) < 12)) false := ⟨by simp; omega⟩
    have hi12 : i = 12 := by omega
    subst hi12
    rcases hc with ⟨hi0, rfl⟩ | rfl
    · omega
    · rw [hx]
      have hml := marksT_length l 12
      (repeat first|refine Wk.go ?_|refine andP ?_|intro _)
      exact fin ⟨v, rfl, rfl⟩
theorem keptTexts_w (S : S19 pol sums) {n : Nat} {W : List Ck} {V lv : AV} {l : List Str} [a : HasArrW [] W V strC 1 (marksT l 12)] [b : HasRows [] W lv strC 1 l] (hn : l.length + 40 ≤ n) (hb : l.length < 2 ^ 39) :
    Cal [] W (acall Tryz.prog pol sums n (.func (.func 11) [] []) [subV V 0 l.length 1, lv]) (fun r N => r = .bool true ∧ N = []) := by
  have a1 : HasRows [] W V strC 1 (l ++ (List.range 12).map mkT) := a.rows
  have a2 : HasRows [] W (subV V 0 l.length 1) strC 1 l := hasrows_pre (r := a1)
  have a3 : HasRows [] W V strC 1 (marksT l 12) := a.rows
  have hml := marksT_length l 12
  have bn : Bnd 0 (l.length + 12) (marksT l 12).length := ⟨by omega, by omega⟩
  have a4 : HasRows [] W (subV V 0 (l.length + 12) 1) strC 1 (marksT l 12) := by
    have := hasrows_sub (r := a3) (b := bn)
    rw [List.drop_zero, List.take_of_length_le (by omega)] at this
    exact this
  refine Cal_fn (f := 11) (nt := 58) (rs := [.tmp 4]) (by omega) (by first | assumption | exact S.rest _ (by decide)) Tryz.func11 rfl rfl rfl rfl fun m h0 T hm aT => ?_
  have : Is ((l.length : Int) != (l.length : Int)) false := ⟨by simp⟩
  (repeat first|refine Wk.go ?_|refine andP ?_|intro _)
  refine A_loopR (fun d T => ∃ i, d = l.length + 12 - i ∧ i ≤ l.length + 12 ∧ Lk T 6 (.int .i64 (i : Nat))) [1, 5] (l.length + 12) (by omega) ⟨0, by omega, by omega, lkz (by rfl)⟩ (by rfl) ?_
  rintro d T1 ⟨i, rfl, hi, h6⟩ hA
  by_cases c : i < l.length + 12
  · have : Is (decide ((i : Int) < ((marksT l 12).length : Int))) true := ⟨by simp; omega⟩
    have e1 : ElAt (marksT l 12) i ((marksT l 12)[i]'(by omega)) := ⟨List.getElem?_eq_getElem _⟩
    by_cases q : i < l.length
    · have e2 : ElAt l i l[i] := ⟨List.getElem?_eq_getElem q⟩
      have e3 : (marksT l 12)[i]'(by omega) = l[i] := by simp [marksT, List.getElem_append, q]
      rw [e3] at e1
      have : Is (decide ((i : Int) < (l.length : Int))) true := ⟨by simpa using q⟩
      have : Is (decide ((i : Int) ≥ (l.length : Int))) false := ⟨by simp; omega⟩
      have : Is (l[i] == l[i]) true := ⟨by simp⟩
      (repeat first|refine Wk.go ?_|refine andP ?_|intro _)
      refine A_drawn [0, 1, 2, 3, 4, 5, 6, 7, 8, 9, 10, 11, 12, 13, 14, 15, 16, 17, 18, 19, 20, 21, 22, 23, 24, 25, 26, 27, 28, 29, 30, 31, 32, 33, 34] [0, 0, 2, 7, 15, 31, 31, 127, 255, 31, 31, 1567, 3615, 8191, 16383, 32767, 65535, 131071, 131071, 393215, 1048575, 2097151, 4194303, 4194303, 16777215, 33554431, 4194303, 4194303, 138412031, 473956351, 1010827263, 2147483647, 4294967295, 8589934591, 17179869183] (by kernel_rfl) (by kernel_rfl) (by rfl) ?_
      (repeat first|refine Wk.go ?_|refine andP ?_|intro _)
      exact lend (l.length + 12 - (i + 1)) _ (by omega) ⟨rfl, i + 1, rfl, c, inferInstance⟩
    · have e3 : (marksT l 12)[i]'(by omega) = mkT (i - l.length) := by
        simp only [marksT, List.getElem_append, q, dite_false, List.getElem_map, List.getElem_range]
      rw [e3] at e1
      have ez : ((i : Int) - (l.length : Int)) = ((i - l.length : Nat) : Int) := by omega
      have : Is (decide ((i : Int) < (l.length : Int))) false := ⟨by simp; omega⟩
      have : Is (decide ((i : Int) ≥ (l.length : Int))) true := ⟨by simp; omega⟩
      have : Is (mkT (i - l.length) == mkT (i - l.length)) true := ⟨by simp⟩
      (repeat first|refine Wk.go ?_|refine andP ?_|intro _)
      refine A_drawn [0, 1, 2, 3, 4, 5, 6, 7, 8, 9, 10, 11, 12, 13, 14, 15, 16, 17, 18, 19, 20, 21, 22, 23, 24, 25, 26, 27, 28, 29, 30, 31, 32, 33, 34] [0, 0, 2, 7, 15, 31, 31, 127, 255, 31, 31, 1567, 3615, 8191, 16383, 32767, 65535, 131071, 131071, 393215, 1048575, 2097151, 4194303, 4194303, 16777215, 33554431, 4194303, 4194303, 138412031, 473956351, 1010827263, 2147483647, 4294967295, 8589934591, 17179869183] (by kernel_rfl) (by kernel_rfl) (by rfl) ?_
      (repeat first|refine Wk.go ?_|refine andP ?_|intro _)
      rw [ez]
      refine A_call0 (mark_w S (by omega) (by omega)) ?_
      rintro _ _ ⟨rfl, rfl⟩
      (repeat first|refine Wk.go ?_|refine andP ?_|intro _)
      exact lend (l.length + 12 - (i + 1)) _ (by omega) ⟨rfl, i + 1, rfl, c, inferInstance⟩
  · have : Is (decide ((i : Int) < ((marksT l 12).length : Int))) false := ⟨by simp; omega⟩
    (repeat first|refine Wk.go ?_|refine andP ?_|intro _)
    exact fin ⟨rfl, rfl⟩
end
end Go.Am
namespace Go.Am
open Go Go.Proofs AM
set_option maxRecDepth 10000
set_option synthInstance.maxHeartbeats 400000
set_option synthInstance.maxSize 4000
set_option linter.unusedVariables false
variable {pol : Pol} {sums : Sums}
def awakeSum : List AV → AM AV
  | [] => pure (.bool true)
  | _ => AM.fail
theorem awake_w (ha : sums 4 = some awakeSum) {n : Nat} {W : List Ck} (hn : 1 ≤ n) :
    Cal [] W (acall Tryz.prog pol sums n (.func (.func 4) [] []) []) (fun r N => r = .bool true ∧ N = []) := by
  obtain ⟨m, rfl⟩ : ∃ m, n = m + 1 := ⟨n - 1, by omega⟩
  refine Cal.of0 fun h w k => Runs.of (a := .bool true) (h' := h) ?_ ⟨Keep.refl h, rfl⟩
  simp only [acall, afunc, ha]
  rfl
section
attribute [local irreducible] ACo AK AT AOps ARs Fin Cal KLp KFun
instance : FL ptnC 15 := ⟨fun _ => rfl⟩
instance : FOne ptnC := ⟨fun _ => rfl⟩
instance enc_ptn {p : Ptn} : Enc (ptnC p) ptnC p := ⟨rfl⟩
instance hasrows_marksT {L W : List Ck} {V : AV} {l : List Str} {i : Nat} [a : HasRows L W V strC 1 (marksT l i)] : HasRows L W (subV V 0 l.length 1) strC 1 l :=
  have a' : HasRows L W V strC 1 (l ++ (List.range i).map mkT) := a
  hasrows_pre (r := a')
theorem statsGuess_w (S : S19 pol sums) (ha : sums 4 = some awakeSum) {n : Nat} {W : List Ck} {x : Sts} {lv nv : AV} {known : List Str} (p : Ptn) (a b : Int) [hlv : HasRows [] W lv linC 7 x.lines] [hnv : HasRows [] W nv strC 1 known] (hx : StsOk x) (h64 : I64 a) (hn : 2000 ≤ n) (hb : x.lines.length < 2 ^ 60) (hb2 : known.length < 2 ^ 60) :
    Cal [] W (acall Tryz.prog pol sums n (.func (.func 3) [] []) [.agg (stsC x lv), .agg (ptnC p), nv, .int .i64 a, .int .i64 b]) (fun r N => r = .bool true ∧ N = []) := by
  refine Cal_fn (f := 3) (nt := 49) (rs := [.tmp 10]) (by omega) (by first | assumption | exact S.rest _ (by decide)) Tryz.func3 rfl rfl rfl rfl fun m h0 T hm aT => ?_
  by_cases big : 50 < x.lines.length + known.length
  · have : Is (decide (((x.lines.length + known.length : Nat) : Int) > 50)) true := ⟨by simp; omega⟩
    (repeat first|refine Wk.go ?_|refine andP ?_|intro _)
    refine A_call0 (awake_w ha (by omega)) ?_
    rintro _ _ ⟨rfl, rfl⟩
    (repeat first|refine Wk.go ?_|refine andP ?_|intro _)
    exact fin ⟨rfl, rfl⟩
  have : Is (decide (((x.lines.length + known.length : Nat) : Int) > 50)) false := ⟨by simp; omega⟩
  (repeat first|refine Wk.go ?_|refine andP ?_|intro _)
  refine A_call0 (lentTexts_w S (l := known) (by omega) (by omega)) ?_
  rintro _ _ ⟨V, rfl, rfl⟩
  (repeat first|refine Wk.go ?_|refine andP ?_|intro _)
  refine A_drawn [0, 1, 2, 4, 6, 7, 3, 5, 8, 9, 10, 11, 12, 14, 15, 13, 16, 17, 18, 19, 20, 21, 22, 23, 24, 25, 26, 27] [0, 0, 0, 7, 0, 31, 0, 0, 255, 511, 1023, 2047, 2047, 8191, 2047, 2047, 65535, 131071, 262143, 524287, 1048575, 1048575, 4194303, 8388607, 16777215, 33554431, 67108863, 134217727] (by kernel_rfl) (by kernel_rfl) (by rfl) ?_
  (repeat first|refine Wk.go ?_|refine andP ?_|intro _)
  refine A_call0 (guess_w S (x := x) (known := known) p hx (by omega) (by omega) (by omega)) ?_
  rintro _ _ ⟨rfl, rfl⟩
  (repeat first|refine Wk.go ?_|refine andP ?_|intro _)
  refine A_call0 (theirs_w S (x := x) (by omega) (by omega)) ?_
  rintro _ _ ⟨lv', rfl, rfl⟩
  (repeat first|refine Wk.go ?_|refine andP ?_|intro _)
  refine A_call0 (guessR_w S (x := x) (known := known) p hx (by omega) (by omega) (by omega)) ?_
  rintro _ _ ⟨rfl, rfl⟩
  have : Is (guessZ x p known == guessZ x p known) true := ⟨by simp⟩
  (repeat first|refine Wk.go ?_|refine andP ?_|intro _)
  refine A_call0 (part_w S (by omega) h64) ?_
  rintro _ _ ⟨rfl, rfl⟩
  (repeat first|refine Wk.go ?_|refine andP ?_|intro _)
  refine A_call0 (partR_w S (by omega) h64) ?_
  rintro _ _ ⟨rfl, rfl⟩
  have : Is (partZ a b == partZ a b) true := ⟨by simp⟩
  (repeat first|refine Wk.go ?_|refine andP ?_|intro _)
  refine A_call0 (keptTexts_w S (l := known) (by omega) (by omega)) ?_
  rintro _ _ ⟨rfl, rfl⟩
  (repeat first|refine Wk.go ?_|refine andP ?_|intro _)
  refine A_call0 (awake_w ha (by omega)) ?_
  rintro _ _ ⟨rfl, rfl⟩
  (repeat first|refine Wk.go ?_|refine andP ?_|intro _)
  exact fin ⟨rfl, rfl⟩
end
end Go.Am
namespace Go.Am
open Go Go.Proofs AM RowKit ChangeShapes WideShapes Deep
set_option maxRecDepth 10000

theorem linC_len (x : Lin) : (linC x).length = 7 := rfl
theorem ptnC_len (x : Ptn) : (ptnC x).length = 15 := rfl
theorem strC_len (x : Str) : (strC x).length = 1 := rfl
theorem wf64 {n : Int} (h : (Lit.int .i64 n).wf = true) : I64 n := by
  simp only [Lit.wf] at h
  have h' : -9223372036854775808 ≤ n ∧ n ≤ 9223372036854775807 := by simpa [IntKind.min, IntKind.max, IntKind.bits, IntKind.signed] using h
  exact ⟨h'.1, by omega⟩
inductive Leaf where
  | int (k : IntKind)
  | str
/-- what kind of cell stands at a place of a type's values -/
def leafAt (P : Program) : Nat → TypeId → Nat → Option Leaf
  | 0, _, _ => none
  | n + 1, t, i => match P.underlying t with
    | some (.int k) => cond (Nat.beq i 0) (some (.int k)) none
    | some .string => cond (Nat.beq i 0) (some .str) none
    | some (.struct fs) => match fs.toList.find? (fun f => Nat.ble f.offset i && Nat.blt i (f.offset + P.cellsOf f.type)) with
      | some f => leafAt P n f.type (i - f.offset)
      | none => none
    | _ => none
def fits : Leaf → Value → Prop
  | .int k, v => ∃ n, v = .int k n ∧ (Lit.int k n).wf = true
  | .str, v => ∃ s, v = .string s
section
variable {H : Type} {enc : TypeId × Value → H} {P : Program} {w : World} {base : Nat} {spare : Nat → Bool} {held : Bool}
theorem leaf_ok : ∀ (n : Nat) {fuel : Nat} {t : TypeId} {cs : List Value} {x : DataW H × List MemPlace} {i : Nat} {κ : Leaf}, DataW.trod enc P w base spare held fuel t cs = some x → leafAt P n t i = some κ → ∃ c, cs[i]? = some c ∧ fits κ c := by
  intro n
  induction n with
  | zero => intro fuel t cs x i κ _ h; cases h
  | succ n ih =>
    intro fuel t cs x i κ h hl
    simp only [leafAt] at hl
    cases hu : P.underlying t with
    | none => rw [hu] at hl; cases hl
    | some d =>
      rw [hu] at hl
      cases d <;> first | cases hl | skip
      · rename_i k
        cases hi : Nat.beq i 0 with
        | false => rw [hi] at hl; cases hl
        | true =>
          obtain rfl := Nat.eq_of_beq_eq_true hi
          rw [hi] at hl; cases hl
          obtain ⟨m, rfl, _, hm⟩ := DataW.trod_int hu h
          exact ⟨_, rfl, m, rfl, hm⟩
      · cases hi : Nat.beq i 0 with
        | false => rw [hi] at hl; cases hl
        | true =>
          obtain rfl := Nat.eq_of_beq_eq_true hi
          rw [hi] at hl; cases hl
          obtain ⟨m, rfl, _⟩ := DataW.trod_string hu h
          exact ⟨_, rfl, m, rfl⟩
      · rename_i fs
        dsimp only at hl
        cases hf : fs.toList.find? (fun f => Nat.ble f.offset i && Nat.blt i (f.offset + P.cellsOf f.type)) with
        | none => rw [hf] at hl; cases hl
        | some f =>
          rw [hf] at hl
          have hfm := List.mem_of_find?_eq_some hf
          have hfp := List.find?_some hf
          simp only [Bool.and_eq_true, Nat.blt_eq, Nat.ble_eq] at hfp
          obtain ⟨xs, m, _, _, hlen, hxl, hg⟩ := DataW.trod_struct hu h
          obtain ⟨j, hj, hjf⟩ := List.getElem_of_mem hfm
          have hja : fs[j]? = some f := by rw [← hjf]; simp
          have h1 := hg j f hja
          have hjx : j < xs.length := by rw [hxl]; simpa using hj
          rw [List.getElem?_eq_getElem hjx] at h1
          obtain ⟨c, hc, hfit⟩ := ih h1 hl
          refine ⟨c, ?_, hfit⟩
          rw [List.getElem?_take, if_pos (by omega), List.getElem?_drop] at hc
          rw [← hc]
          congr 1; omega
end

theorem leaf_int {H : Type} {enc : TypeId × Value → H} {P : Program} {w : World} {base : Nat} {spare : Nat → Bool} {held : Bool} (n : Nat) {fuel : Nat} {t : TypeId} {cs : List Value} {x : DataW H × List MemPlace} {k : IntKind} (i : Nat) (h : DataW.trod enc P w base spare held fuel t cs = some x) (hl : leafAt P n t i = some (.int k)) : ∃ m, cs[i]? = some (.int k m) ∧ (Lit.int k m).wf = true := by
  obtain ⟨c, h1, m, rfl, h2⟩ := leaf_ok n h hl; exact ⟨m, h1, h2⟩
theorem leaf_str {H : Type} {enc : TypeId × Value → H} {P : Program} {w : World} {base : Nat} {spare : Nat → Bool} {held : Bool} (n : Nat) {fuel : Nat} {t : TypeId} {cs : List Value} {x : DataW H × List MemPlace} (i : Nat) (h : DataW.trod enc P w base spare held fuel t cs = some x) (hl : leafAt P n t i = some .str) : ∃ m, cs[i]? = some (.string m) := by
  obtain ⟨c, h1, m, rfl⟩ := leaf_ok n h hl; exact ⟨m, h1⟩

/-- cells that are as those of an abstract value -/
def Cells (av : List AV) (cs : List Value) : Prop := ∀ (h : Hp) (μ : Nat → Nat) (w : World), VRs h μ w av cs
theorem Cells.nil : Cells [] [] := fun _ _ _ => VRs.nil
theorem Cells.int {k : IntKind} {n : Int} {av : List AV} {cs : List Value} (c : Cells av cs) : Cells (.int k n :: av) (.int k n :: cs) := fun h μ w => VRs.cons (.int _ _) (c h μ w)
theorem Cells.str {s : ByteArray} {av : List AV} {cs : List Value} (c : Cells av cs) : Cells (.str s.data.toList :: av) (.string s :: cs) := fun h μ w => VRs.cons (.str _ _ rfl) (c h μ w)
theorem Cells.append {av av' : List AV} {cs cs' : List Value} (c : Cells av cs) (d : Cells av' cs') : Cells (av ++ av') (cs ++ cs') := fun h μ w => (c h μ w).append (d h μ w)

section
variable {H : Type} {enc : TypeId × Value → H} {w : World} {base : Nat} {spare : Nat → Bool} {held : Bool} {fuel : Nat} {cs : List Value} {x : DataW H × List MemPlace}
theorem open_ptn (h : DataW.trod enc Tryz.prog w base spare held fuel 31 cs = some x) (hl : cs.length = 15) : ∃ p : Ptn, Cells (ptnC p) cs := by
  obtain ⟨c0, e0⟩ := leaf_str 9 0 h (by kernel_rfl)
  obtain ⟨c1, e1, _⟩ := leaf_int (k := .i64) 9 1 h (by kernel_rfl)
  obtain ⟨c2, e2⟩ := leaf_str 9 2 h (by kernel_rfl)
  obtain ⟨c3, e3⟩ := leaf_str 9 3 h (by kernel_rfl)
  obtain ⟨c4, e4⟩ := leaf_str 9 4 h (by kernel_rfl)
  obtain ⟨c5, e5⟩ := leaf_str 9 5 h (by kernel_rfl)
  obtain ⟨c6, e6, _⟩ := leaf_int (k := .i64) 9 6 h (by kernel_rfl)
  obtain ⟨c7, e7⟩ := leaf_str 9 7 h (by kernel_rfl)
  obtain ⟨c8, e8⟩ := leaf_str 9 8 h (by kernel_rfl)
  obtain ⟨c9, e9⟩ := leaf_str 9 9 h (by kernel_rfl)
  obtain ⟨c10, e10⟩ := leaf_str 9 10 h (by kernel_rfl)
  obtain ⟨c11, e11, _⟩ := leaf_int (k := .i64) 9 11 h (by kernel_rfl)
  obtain ⟨c12, e12⟩ := leaf_str 9 12 h (by kernel_rfl)
  obtain ⟨c13, e13⟩ := leaf_str 9 13 h (by kernel_rfl)
  obtain ⟨c14, e14⟩ := leaf_str 9 14 h (by kernel_rfl)
  match cs, hl with
  | [d0, d1, d2, d3, d4, d5, d6, d7, d8, d9, d10, d11, d12, d13, d14], _ =>
    simp only [List.getElem?_cons_zero, List.getElem?_cons_succ, Option.some.injEq] at *
    subst e0 e1 e2 e3 e4 e5 e6 e7 e8 e9 e10 e11 e12 e13 e14
    exact ⟨⟨⟨c0.data.toList, ⟨c1, c2.data.toList, c3.data.toList, c4.data.toList⟩⟩, ⟨c5.data.toList, ⟨c6, c7.data.toList, c8.data.toList, c9.data.toList⟩⟩, ⟨c10.data.toList, ⟨c11, c12.data.toList, c13.data.toList, c14.data.toList⟩⟩⟩,
      .str (.int (.str (.str (.str (.str (.int (.str (.str (.str (.str (.int (.str (.str (.str .nil))))))))))))))⟩
theorem open_lin (h : DataW.trod enc Tryz.prog w base spare held fuel 53 cs = some x) (hl : cs.length = 7) : ∃ p : Lin, I64 p.tri ∧ Cells (linC p) cs := by
  obtain ⟨c0, e0, _⟩ := leaf_int (k := .i64) 9 0 h (by kernel_rfl)
  obtain ⟨c1, e1⟩ := leaf_str 9 1 h (by kernel_rfl)
  obtain ⟨c2, e2⟩ := leaf_str 9 2 h (by kernel_rfl)
  obtain ⟨c3, e3⟩ := leaf_str 9 3 h (by kernel_rfl)
  obtain ⟨c4, e4, w4⟩ := leaf_int (k := .i64) 9 4 h (by kernel_rfl)
  obtain ⟨c5, e5, _⟩ := leaf_int (k := .i64) 9 5 h (by kernel_rfl)
  obtain ⟨c6, e6, _⟩ := leaf_int (k := .i64) 9 6 h (by kernel_rfl)
  match cs, hl with
  | [d0, d1, d2, d3, d4, d5, d6], _ =>
    simp only [List.getElem?_cons_zero, List.getElem?_cons_succ, Option.some.injEq] at *
    subst e0 e1 e2 e3 e4 e5 e6
    exact ⟨⟨⟨c0, c1.data.toList, c2.data.toList, c3.data.toList⟩, c4, c5, c6⟩, wf64 w4, .int (.str (.str (.str (.int (.int (.int .nil))))))⟩

theorem open_str1 (h : DataW.trod enc Tryz.prog w base spare held fuel 9 cs = some x) (hl : cs.length = 1) : ∃ p : Str, True ∧ Cells (strC p) cs := by
  obtain ⟨c0, e0⟩ := leaf_str 9 0 h (by kernel_rfl)
  match cs, hl with
  | [d0], _ =>
    simp only [List.getElem?_cons_zero, Option.some.injEq] at *
    subst e0
    exact ⟨c0.data.toList, trivial, .str .nil⟩

/-- a slice of structs, as it comes in -/
theorem open_rows {α : Type} {Q : α → Prop} {f : α → List AV} {sz : Nat} {t e : TypeId} (hf : ∀ a, (f a).length = sz) (ht : Tryz.prog.underlying t = some (.slice e)) (hc : Tryz.prog.cellsOf e = sz)
    (hopen : ∀ {fuel : Nat} {cs : List Value} {x : DataW H × List MemPlace}, DataW.trod enc Tryz.prog w base spare held fuel e cs = some x → cs.length = sz → ∃ a, Q a ∧ Cells (f a) cs)
    (h : DataW.trod enc Tryz.prog w base spare held fuel t cs = some x) : ∃ (v : Value) (l : List α), cs = [v] ∧ (∀ a ∈ l, Q a) ∧ ((∀ n ∈ x.1.weights Tryz.prog t, n ≤ reachBytes) → l.length * Tryz.prog.bytesOf e ≤ reachBytes) ∧ VR Hp.none id w (.sl .any l.length (flat f l)) v := by
  rcases open_slice ht h with ⟨rfl, _⟩ | ⟨a, len, cap, m, n, D, Pl, rfl, hb, hl, hm, hmm, hx, hi⟩
  · exact ⟨_, [], rfl, fun a h => (by cases h), fun _ => (by simp), .sl .any 0 [] none 0 [] (Nat.le_refl _) (by simp) (by simp) (by simp) (by simp) (by simp) rfl (by simp) (by simp) (by simp)⟩
  · have hlm : len ≤ m := by rw [hmm]; split <;> omega
    rw [hc] at hi
    have key : ∀ k, k ≤ len → ∃ (l : List α) (cs : List Value), l.length = k ∧ (∀ a ∈ l, Q a) ∧ Cells (flat f l) cs ∧ cs.length = k * sz ∧ ∀ i (hi : i < cs.length), w.cell? (a.add i) = some cs[i] := by
      intro k
      induction k with
      | zero => intro _; exact ⟨[], [], rfl, fun a h => (by cases h), .nil, by simp, fun i hi => by cases hi⟩
      | succ k ih =>
        intro hk
        obtain ⟨l, cs, h1, hq, h2, h3, h4⟩ := ih (by omega)
        obtain ⟨cs', h5, h6⟩ := hi k (by omega)
        obtain ⟨_, h7, h8⟩ := World.cells?_some h5
        obtain ⟨p, hp, h9⟩ := hopen h6 h7
        refine ⟨l ++ [p], cs ++ cs', by simp [h1], fun a ha => ?_, ?_, by simp [h3, h7, Nat.succ_mul], fun i hi => ?_⟩
        · rcases List.mem_append.1 ha with ha | ha
          · exact hq a ha
          · rcases List.mem_singleton.1 ha with rfl; exact hp
        · have : flat f (l ++ [p]) = flat f l ++ f p := by simp [flat]
          rw [this]; exact h2.append h9
        · by_cases hlt : i < cs.length
          · rw [List.getElem_append_left hlt]; exact h4 i hlt
          · have hi' : i - cs.length < cs'.length := by simp at hi; omega
            rw [List.getElem_append_right (by omega)]
            have := h8 (i - cs.length) (by omega)
            rw [List.getElem?_eq_getElem hi', add_of_add] at this
            rw [← this]
            congr 2; omega
    obtain ⟨l, cs, h1, hq, h2, h3, h4⟩ := key len (Nat.le_refl _)
    have hvr := h2 Hp.none id w
    refine ⟨_, l, rfl, hq, fun k => ?_, ?_⟩
    · have := k ((len + (m - len)) * Tryz.prog.bytesOf e) (by rw [hx]; simp [DataW.weights, ht])
      rw [h1]
      exact Nat.le_trans (Nat.mul_le_mul_right _ (Nat.le_add_right _ _)) this
    rw [h1]
    refine .sl .any len (flat f l) (some a) cap cs hl (by simp) (by simp) (by simp) (by simp) (fun ad e hne => ?_) hvr.1 (by simp) (fun ad e i hi => by cases e; exact h4 i hi) hvr.2
    cases e
    refine ⟨fun ⟨i, o, ho, _⟩ => (by rw [Hp.none_get] at ho; cases ho), ?_⟩
    have hcl : 0 < cs.length := by rw [← hvr.1]; exact List.length_pos_iff.2 hne
    have := h4 0 hcl
    unfold World.cell? at this
    cases hq : w.heap[(a.add 0).block]? with
    | none => simp only [hq] at this; cases this
    | some o => rw [add_block] at hq; exact (Array.getElem?_eq_some_iff.1 hq).1
end
end Go.Am
namespace Go.Proofs.YtjkbdgglljpllabGreatDoor
open Go Go.Am Go.ChangeShapes Go.WideShapes Go.ChangeAt Go.RowKit
set_option maxRecDepth 100000
theorem Tryz.own : ownKnob Tryz.prog.godebug = none := by kernel_rfl
theorem Tryz.laidOut : laidOutB Tryz.prog = true := by kernel_rfl

section
variable {H : Type} {enc : TypeId × Value → H} {w : World}
theorem trodAll_five {P : Program} {base : Nat} {spare : Nat → Bool} {held : Bool} {t t' t'' t3 t4 : TypeId} {args : Array Value} {ds : List (DataW H)} {ps : List MemPlace} (h : DataW.TrodAll enc P w base spare held [t, t', t'', t3, t4] args.toList ds ps) :
    ∃ v v' v'' v3 v4 d d' d'' d3 d4 p p' p'' p3 p4, args = #[v, v', v'', v3, v4] ∧ ds = [d, d', d'', d3, d4] ∧ ps = p ++ (p' ++ (p'' ++ (p3 ++ (p4 ++ [])))) ∧ DataW.Trod enc P w base spare held t v d p ∧ DataW.Trod enc P w base spare held t' v' d' p' ∧ DataW.Trod enc P w base spare held t'' v'' d'' p'' ∧ DataW.Trod enc P w base spare held t3 v3 d3 p3 ∧ DataW.Trod enc P w base spare held t4 v4 d4 p4 := by
  obtain ⟨v, vs, d, ds', p, q, hargs, rfl, rfl, hd, hrest⟩ := trodAll_cons h
  obtain ⟨v', vs', d', ds'', p', q', rfl, rfl, rfl, hd', hrest'⟩ := trodAll_cons hrest
  obtain ⟨v'', vs'', d'', ds''', p'', q'', rfl, rfl, rfl, hd'', hrest''⟩ := trodAll_cons hrest'
  obtain ⟨v3, vs3, d3, ds3, p3, q3, rfl, rfl, rfl, hd3, hrest3⟩ := trodAll_cons hrest''
  obtain ⟨v4, vs4, d4, ds4, p4, q4, rfl, rfl, rfl, hd4, hrest4⟩ := trodAll_cons hrest3
  obtain ⟨rfl, rfl, rfl⟩ := trodAll_nil hrest4
  exact ⟨v, v', v'', v3, v4, d, d', d'', d3, d4, p, p', p'', p3, p4, by cases args; simp_all, rfl, rfl, hd, hd', hd'', hd3, hd4⟩
/-- stats, as they come in -/
theorem open_stats {b0 : Nat} {v : Value} {d : DataW H} {p : List MemPlace} (hv : Value.okWide Tryz.prog w .any b0 24 v) (h : DataW.Trod enc Tryz.prog w 0 (fun _ => true) true 24 v d p) :
    ∃ (x : Sts) (lv : AV), StsOk x ∧ ((∀ n ∈ d.weights Tryz.prog 24, n ≤ reachBytes) → x.lines.length < 2 ^ 60) ∧ VR Hp.none id w (.agg (stsC x lv)) v ∧ Go.Am.Rows linC 7 Hp.none lv x.lines := by
  obtain ⟨cs, rfl, hsz⟩ := okWide_struct Tryz.underlying24 hv
  obtain ⟨fuel, hf⟩ := h
  obtain ⟨c0, e0, w0⟩ := leaf_int (k := .i64) 9 0 hf (by kernel_rfl)
  obtain ⟨c1, e1, _⟩ := leaf_int (k := .i64) 9 1 hf (by kernel_rfl)
  obtain ⟨c2, e2, _⟩ := leaf_int (k := .i64) 9 2 hf (by kernel_rfl)
  obtain ⟨c3, e3, _⟩ := leaf_int (k := .i64) 9 3 hf (by kernel_rfl)
  obtain ⟨xs, m, _, hdx, hlen, hxl, hg⟩ := DataW.trod_struct Tryz.underlying24 hf
  have h4 := hg 4 _ rfl
  obtain ⟨l⟩ := cs
  have hc5 : Tryz.prog.cellsOf 24 = 5 := by kernel_rfl
  match l, hsz.trans hc5 with
  | [b0, b1, b2, b3, b4], _ =>
    simp only [Value.cells, List.getElem?_cons_zero, List.getElem?_cons_succ, Option.some.injEq] at e0 e1 e2 e3
    subst e0 e1 e2 e3
    have hx4 : xs[4]? = some (xs[4]'(by rw [hxl]; decide)) := List.getElem?_eq_getElem _
    rw [hx4] at h4
    have h5 : DataW.trod enc Tryz.prog w 0 (fun _ => true) true m 22 [b4] = some (xs[4]'(by rw [hxl]; decide)) := h4
    obtain ⟨v', l, hv', hq, hw, hr⟩ := open_rows (Q := fun l : Lin => I64 l.tri) (f := linC) (sz := 7) (α := Lin) linC_len Tryz.underlying22 (by kernel_rfl) (fun h hl => open_lin h hl) h5
    cases hv'
    refine ⟨⟨c0, c1, c2, c3, l⟩, .sl .any l.length (flat linC l), ⟨wf64 w0, hq⟩, fun k => ?_, ?_, .imm _ _ _ (flat_length linC_len l).symm⟩
    · have h6 : ∀ n ∈ (xs[4]'(by rw [hxl]; decide)).1.weights Tryz.prog 22, n ≤ reachBytes := fun n hn => k n (by
        obtain ⟨rfl, _⟩ := Prod.mk.inj hdx
        simp only [DataW.weights, Tryz.underlying24]
        exact DataW.weights_mem_each (j := 4) (t := 22) (by rfl) (by rw [List.getElem?_map, hx4]; rfl) n hn)
      have := hw h6
      have hb : Tryz.prog.bytesOf 53 = 80 := by kernel_rfl
      rw [hb] at this
      have := reachBytes_lt
      simp only; omega
    have hcell : VRs Hp.none id w (stsC ⟨c0, c1, c2, c3, l⟩ (.sl .any l.length (flat linC l))) [.int .i64 c0, .int .i64 c1, .int .i64 c2, .int .i64 c3, b4] :=
      VRs.cons (.int _ _) (VRs.cons (.int _ _) (VRs.cons (.int _ _) (VRs.cons (.int _ _) (VRs.cons hr VRs.nil))))
    exact .agg _ _ hcell.1 hcell.2
/-- a pattern, as it comes in -/
theorem open_pattern {b0 : Nat} {v : Value} {d : DataW H} {p : List MemPlace} (hv : Value.okWide Tryz.prog w .any b0 31 v) (h : DataW.Trod enc Tryz.prog w 0 (fun _ => true) true 31 v d p) :
    ∃ p : Ptn, VR Hp.none id w (.agg (ptnC p)) v := by
  obtain ⟨cs, rfl, hsz⟩ := okWide_struct Tryz.underlying31 hv
  obtain ⟨fuel, hf⟩ := h
  have hc : Tryz.prog.cellsOf 31 = 15 := by kernel_rfl
  obtain ⟨p, hp⟩ := open_ptn hf (by simpa [Value.cells] using hsz.trans hc)
  have h1 := hp Hp.none id w
  exact ⟨p, .agg _ _ h1.1 h1.2⟩
/-- names, as they come in -/
theorem open_names {b0 : Nat} {v : Value} {d : DataW H} {p : List MemPlace} (hv : Value.okWide Tryz.prog w .any b0 32 v) (h : DataW.Trod enc Tryz.prog w 0 (fun _ => true) true 32 v d p) :
    ∃ (l : List Str) (nv : AV), ((∀ n ∈ d.weights Tryz.prog 32, n ≤ reachBytes) → l.length < 2 ^ 60) ∧ VR Hp.none id w nv v ∧ Go.Am.Rows strC 1 Hp.none nv l := by
  obtain ⟨a, len, cap, rfl⟩ := okWide_slice Tryz.underlying32 hv
  obtain ⟨fuel, hf⟩ := h
  obtain ⟨v', l, hv', _, hw, hr⟩ := open_rows (Q := fun _ : Str => True) (f := strC) (sz := 1) (α := Str) strC_len Tryz.underlying32 (by kernel_rfl) (fun h hl => open_str1 h hl) hf
  cases hv'
  refine ⟨l, _, fun k => ?_, hr, .imm _ _ _ (flat_length strC_len l).symm⟩
  have := hw k
  have hb : Tryz.prog.bytesOf 9 = 16 := by kernel_rfl
  rw [hb] at this
  have := reachBytes_lt
  omega
end

end Go.Proofs.YtjkbdgglljpllabGreatDoor
namespace Go.Am
open Go AM RowKit
def fnEq : Fn → Fn → Bool
  | .func a, .func b => Nat.beq a b
  | .yield a, .yield b => Nat.beq a b
  | _, _ => false
def skEq : SK → SK → Bool
  | .nil, .nil => true
  | .full, .full => true
  | .tight, .tight => true
  | .any, .any => true
  | _, _ => false
def aeqL (eq : AV → AV → Bool) : List AV → List AV → Bool
  | [], l => match l with
    | [] => true
    | _ => false
  | a :: l, k => match k with
    | [] => false
    | b :: k => match eq a b with
      | true => aeqL eq l k
      | false => false
def bytesEq : List UInt8 → List UInt8 → Bool
  | [], l => match l with
    | [] => true
    | _ => false
  | a :: l, k => match k with
    | [] => false
    | b :: k => match Nat.beq a.toNat b.toNat with
      | true => bytesEq l k
      | false => false
/-- the same value -/
def aeq : Nat → AV → AV → Bool
  | 0, _, _ => false
  | f + 1, a, b => match a with
    | .undef => match b with
      | .undef => true
      | _ => false
    | .bool x => match b with
      | .bool y => x == y
      | _ => false
    | .int k n => match b with
      | .int k' n' => decide (k = k') && decide (n = n')
      | _ => false
    | .str s => match b with
      | .str s' => bytesEq s s'
      | _ => false
    | .nilptr => match b with
      | .nilptr => true
      | _ => false
    | .iptr l => match b with
      | .iptr l' => aeqL (aeq f) l l'
      | _ => false
    | .sl k n l => match b with
      | .sl k' n' l' => skEq k k' && Nat.beq n n' && aeqL (aeq f) l l'
      | _ => false
    | .nilmap => match b with
      | .nilmap => true
      | _ => false
    | .nilfunc => match b with
      | .nilfunc => true
      | _ => false
    | .func g x y => match b with
      | .func g' x' y' => fnEq g g' && aeqL (aeq f) x x' && aeqL (aeq f) y y'
      | _ => false
    | .niliface => match b with
      | .niliface => true
      | _ => false
    | .iface t v => match b with
      | .iface t' v' => Nat.beq t t' && aeq f v v'
      | _ => false
    | .agg l => match b with
      | .agg l' => aeqL (aeq f) l l'
      | _ => false
    | .tuple l => match b with
      | .tuple l' => aeqL (aeq f) l l'
      | _ => false
    | _ => false
theorem fnEq_s {a b : Fn} (h : fnEq a b = true) : a = b := by
  cases a <;> cases b <;> simp [fnEq] at h <;> rw [h]
theorem skEq_s {a b : SK} (h : skEq a b = true) : a = b := by
  cases a <;> cases b <;> first | rfl | cases h
theorem aeqL_s {eq : AV → AV → Bool} (he : ∀ a b, eq a b = true → a = b) : ∀ {l k : List AV}, aeqL eq l k = true → l = k
  | [], k, h => by
    cases k with
    | nil => rfl
    | cons _ _ => cases h
  | a :: l, k, h => by
    cases k with
    | nil => cases h
    | cons b k =>
      simp only [aeqL] at h
      cases hq : eq a b with
      | false => rw [hq] at h; cases h
      | true => rw [hq] at h; rw [he a b hq, aeqL_s he h]
theorem bytesEq_s : ∀ {l k : List UInt8}, bytesEq l k = true → l = k
  | [], k, h => by
    cases k with
    | nil => rfl
    | cons _ _ => cases h
  | a :: l, k, h => by
    cases k with
    | nil => cases h
    | cons b k =>
      simp only [bytesEq] at h
      cases hq : Nat.beq a.toNat b.toNat with
      | false => rw [hq] at h; cases h
      | true =>
        rw [hq] at h
        have := Nat.eq_of_beq_eq_true hq
        rw [UInt8.toNat_inj.1 this, bytesEq_s h]
theorem aeq_s : ∀ (f : Nat) (a b : AV), aeq f a b = true → a = b
  | 0, _, _, h => by cases h
  | f + 1, a, b, h => by
    have ih := aeq_s f
    cases a <;> cases b <;> simp only [aeq] at h <;> first
      | rfl
      | (cases h; done)
      | (try simp only [Bool.and_eq_true, decide_eq_true_eq, beq_iff_eq] at h
         first
         | (rw [h]; done)
         | (rw [h.1, h.2]; done)
         | (rw [bytesEq_s h]; done)
         | (rw [aeqL_s ih h]; done)
         | (rw [skEq_s h.1.1, Nat.eq_of_beq_eq_true h.1.2, aeqL_s ih h.2]; done)
         | (rw [fnEq_s h.1.1, aeqL_s ih h.1.2, aeqL_s ih h.2]; done)
         | (rw [Nat.eq_of_beq_eq_true h.1, ih _ _ h.2]; done))

def afzL (g : AV → AM AV) : List AV → AM (List AV)
  | [] => pure []
  | a :: l => do
    let b ← g a
    let k ← afzL g l
    pure (b :: k)
/-- what is reached from a value, as what nobody writes; strict: nothing of it was so before -/
def afz (strict : Bool) : Nat → AV → AM AV
  | 0, _ => pure .undef
  | f + 1, v => match v with
    | .ptr id ver off => do
      let (_, cells, _) ← rowOf id ver
      let l ← afzL (afz strict f) (cells.drop off)
      pure (.iptr l)
    | .own id ver off n => do
      let (esz, cells, _) ← rowOf id ver
      let l ← afzL (afz strict f) ((cells.drop off).take (n * esz))
      pure (.sl .any n l)
    | .iptr l => do
      AM.guard (!strict)
      let l ← afzL (afz strict f) l
      pure (.iptr l)
    | .sl k n l => match l with
      | [] => pure (.sl k n [])
      | _ => do
        AM.guard (!strict)
        let l ← afzL (afz strict f) l
        pure (.sl k n l)
    | .agg l => do
      let l ← afzL (afz strict f) l
      pure (.agg l)
    | .tuple l => do
      let l ← afzL (afz strict f) l
      pure (.tuple l)
    | .iface t v => do
      let v ← afz strict f v
      pure (.iface t v)
    | .func (.func g) x y => do
      let x ← afzL (afz strict f) x
      let y ← afzL (afz strict f) y
      pure (.func (.func g) x y)
    | .bool b => pure (.bool b)
    | .int k n => pure (.int k n)
    | .str s => pure (.str s)
    | .nilptr => pure .nilptr
    | .nilmap => pure .nilmap
    | .nilfunc => pure .nilfunc
    | .niliface => pure .niliface
    | _ => pure .undef

section
variable {h h2 hh : Hp} {μ μ2 : Nat → Nat} {w : World} {strict : Bool}
theorem afzL_sim {g : AV → AM AV} (hg : ∀ v v' x hh, (g v).run h = some (v', hh) → VR h μ w v x → hh = h ∧ VR h2 μ2 w v' x) :
    ∀ (l l' : List AV) (xs : List Value) (hh : Hp), (afzL g l).run h = some (l', hh) → VRs h μ w l xs → hh = h ∧ VRs h2 μ2 w l' xs
  | [], l', xs, hh, e, r => by
    obtain ⟨rfl, rfl⟩ := pure_some e
    cases xs with
    | nil => exact ⟨rfl, VRs.nil⟩
    | cons _ _ => have := r.1; simp at this
  | a :: l, l', xs, hh, e, r => by
    cases xs with
    | nil => have := r.1; simp at this
    | cons x xs =>
      obtain ⟨b, h1, e1, e2⟩ := bind_some e
      obtain ⟨z1, q1⟩ := hg _ _ _ _ e1 r.head
      rw [z1] at e2
      obtain ⟨k, h3, e3, e4⟩ := bind_some e2
      obtain ⟨z2, q2⟩ := afzL_sim hg l k xs h3 e3 r.tail
      obtain ⟨rfl, z3⟩ := pure_some e4
      exact ⟨z3.trans z2, VRs.cons q1 q2⟩
theorem afz_sim (hs : strict = false → ∀ c, ¬ Held h2 μ2 c) (ht : ∀ id o, h.get id = some o → ¬ Held h2 μ2 (μ id)) (s : SR h μ w) :
    ∀ (f : Nat) (v v' : AV) (x : Value) (hh : Hp), (afz strict f v).run h = some (v', hh) → VR h μ w v x → hh = h ∧ VR h2 μ2 w v' x
  | 0, v, v', x, hh, e, r => by
    obtain ⟨rfl, rfl⟩ := pure_some e
    exact ⟨rfl, .undef x⟩
  | f + 1, v, v', x, hh, e, r => by
    have ih := afz_sim hs ht s f
    have il := afzL_sim ih
    have lt : ∀ id o, h.get id = some o → μ id < w.heap.size := fun id o ho => by
      obtain ⟨obj, h1, _⟩ := s.blk id o ho; exact (Array.getElem?_eq_some_iff.1 h1).1
    cases r with
    | undef => obtain ⟨rfl, rfl⟩ := pure_some e; exact ⟨rfl, .undef _⟩
    | bool => obtain ⟨rfl, rfl⟩ := pure_some e; exact ⟨rfl, .bool _⟩
    | int => obtain ⟨rfl, rfl⟩ := pure_some e; exact ⟨rfl, .int _ _⟩
    | str a l el => obtain ⟨rfl, rfl⟩ := pure_some e; exact ⟨rfl, .str _ _ el⟩
    | nilptr => obtain ⟨rfl, rfl⟩ := pure_some e; exact ⟨rfl, .nilptr⟩
    | nilmap => obtain ⟨rfl, rfl⟩ := pure_some e; exact ⟨rfl, .nilmap⟩
    | nilfunc => obtain ⟨rfl, rfl⟩ := pure_some e; exact ⟨rfl, .nilfunc⟩
    | niliface => obtain ⟨rfl, rfl⟩ := pure_some e; exact ⟨rfl, .niliface⟩
    | mapv => obtain ⟨rfl, rfl⟩ := pure_some e; exact ⟨rfl, .undef _⟩
    | bag => obtain ⟨rfl, rfl⟩ := pure_some e; exact ⟨rfl, .undef _⟩
    | yield => obtain ⟨rfl, rfl⟩ := pure_some e; exact ⟨rfl, .undef _⟩
    | ptr id ver off o ho hv =>
      obtain ⟨⟨esz, cells, fix⟩, h1, e1, e2⟩ := bind_some e
      obtain ⟨rfl, o', ho', hv', hb⟩ := rowOf_some e1
      obtain ⟨l, h3, e3, e4⟩ := bind_some e2
      obtain ⟨rfl, rfl⟩ : v' = .iptr l ∧ hh = h3 := pure_some e4
      obtain ⟨obj, hw, hor⟩ := s.blk id o' ho'
      rw [hb] at hor
      obtain ⟨cs, ee, rfl, hle, _, hvr⟩ := hor
      obtain ⟨rfl, q⟩ := il _ _ _ _ e3 (hvr.drop off)
      exact ⟨rfl, .iptr l _ _ (ht id o' ho') (lt id o' ho') q.1 (At.row hw _) q.2⟩
    | ptrOld id ver off a o ho hv =>
      obtain ⟨⟨esz, cells, fix⟩, h1, e1, e2⟩ := bind_some e
      obtain ⟨rfl, o', ho', hv', hb⟩ := rowOf_some e1
      rw [ho] at ho'; cases ho'; omega
    | iptr cells ad vals hh1 hb hl hc hr =>
      obtain ⟨_, h1, e1, e2⟩ := bind_some e
      obtain ⟨hg, rfl⟩ := guard_some e1
      obtain ⟨l, h3, e3, e4⟩ := bind_some e2
      obtain ⟨rfl, rfl⟩ := pure_some e4
      obtain ⟨rfl, q⟩ := il _ _ _ _ e3 ⟨hl, hr⟩
      exact ⟨rfl, .iptr l _ _ (hs (by simpa using hg) _) hb q.1 hc q.2⟩
    | sl k n cells A cap vals hn hnil hfull htight hpos hh1 hl hsm hc hr =>
      cases cells with
      | nil =>
        obtain ⟨rfl, rfl⟩ := pure_some e
        refine ⟨rfl, .sl k n [] A cap vals hn hnil hfull htight hpos (fun _ _ q => absurd rfl q) hl (fun q => absurd rfl q) hc (fun i h1 => absurd h1 (Nat.not_lt_zero _))⟩
      | cons c cells =>
        obtain ⟨_, h1, e1, e2⟩ := bind_some e
        obtain ⟨hg, rfl⟩ := guard_some e1
        obtain ⟨l, h3, e3, e4⟩ := bind_some e2
        obtain ⟨rfl, rfl⟩ := pure_some e4
        obtain ⟨rfl, q⟩ := il _ _ _ _ e3 ⟨hl, hr⟩
        refine ⟨rfl, .sl k n l A cap vals hn hnil hfull htight hpos (fun ad ha _ => ⟨hs (by simpa using hg) _, (hh1 ad ha (by simp)).2⟩) q.1 (fun _ => hsm (by simp)) hc q.2⟩
    | own id ver off n o ho hv esz0 hbody ad cap hn hex =>
      obtain ⟨⟨esz, cells, fix⟩, h1, e1, e2⟩ := bind_some e
      obtain ⟨rfl, o', ho', hv', hb⟩ := rowOf_some e1
      obtain ⟨l, h3, e3, e4⟩ := bind_some e2
      obtain ⟨rfl, rfl⟩ : v' = .sl .any n l ∧ hh = h3 := pure_some e4
      obtain ⟨obj, hw, hor⟩ := s.blk id o' ho'
      rw [hb] at hor
      obtain ⟨cs, ee, rfl, hle, _, hvr⟩ := hor
      obtain ⟨rfl, q⟩ := il _ _ _ _ e3 ((hvr.drop off).take (n * esz))
      have hne : l ≠ [] → 0 < n := fun hl => by
        cases n with
        | zero =>
          have := q.1
          simp at this
          exact absurd this hl
        | succ n => exact Nat.succ_pos n
      refine ⟨rfl, .sl .any n l (some ad) cap _ hn (fun q => by cases q) (fun q => by cases q) (fun q => by cases q) (fun _ => rfl) (fun a ha hl => ?_) q.1 (fun _ => rfl) (fun a ha => ?_) q.2⟩
      · cases ha
        obtain ⟨rfl, _⟩ := hex (.inl (hne hl))
        exact ⟨ht id o' ho', lt id o' ho'⟩
      · cases ha
        intro i hi
        have hl : l ≠ [] := by
          rintro rfl
          have := q.1
          simp only [List.length_nil] at this
          omega
        obtain ⟨rfl, _⟩ := hex (.inl (hne hl))
        exact (At.row hw _).take _ i hi
    | ownOld id ver off n a m cap o ho hv =>
      obtain ⟨⟨esz, cells, fix⟩, h1, e1, e2⟩ := bind_some e
      obtain ⟨rfl, o', ho', hv', hb⟩ := rowOf_some e1
      rw [ho] at ho'; cases ho'; omega
    | func g first captured vf vc hl1 hl2 hr1 hr2 =>
      obtain ⟨l, h1, e1, e2⟩ := bind_some e
      obtain ⟨rfl, q1⟩ := il _ _ _ _ e1 ⟨hl1, hr1⟩
      obtain ⟨k, h3, e3, e4⟩ := bind_some e2
      obtain ⟨rfl, q2⟩ := il _ _ _ _ e3 ⟨hl2, hr2⟩
      obtain ⟨rfl, rfl⟩ := pure_some e4
      exact ⟨rfl, .func g l k vf vc q1.1 q2.1 q1.2 q2.2⟩
    | iface t v v1 hr =>
      obtain ⟨l, h1, e1, e2⟩ := bind_some e
      obtain ⟨rfl, q1⟩ := ih _ _ _ _ e1 hr
      obtain ⟨rfl, rfl⟩ := pure_some e2
      exact ⟨rfl, .iface t l v1 q1⟩
    | agg cells vals hl hr =>
      obtain ⟨l, h1, e1, e2⟩ := bind_some e
      obtain ⟨rfl, q1⟩ := il _ _ _ _ e1 ⟨hl, hr⟩
      obtain ⟨rfl, rfl⟩ := pure_some e2
      exact ⟨rfl, .agg l vals q1.1 q1.2⟩
    | tuple cells vals hl hr =>
      obtain ⟨l, h1, e1, e2⟩ := bind_some e
      obtain ⟨rfl, q1⟩ := il _ _ _ _ e1 ⟨hl, hr⟩
      obtain ⟨rfl, rfl⟩ := pure_some e2
      exact ⟨rfl, .tuple l vals q1.1 q1.2⟩
end

/-! ### a run that is told -/
/-- what a function answers to frozen arguments, frozen -/
def Told (P : Program) (f : FuncId) (args : List AV) (res : AV) : Prop :=
  (∃ fn c, P.funcs[f]? = some fn ∧ fn.body = some c) ∧
  ∀ (μ : Nat → Nat) (w : World) (xs : List Value), Gl Hp.none μ w → VRs Hp.none μ w args xs →
    CallsIn Fence.wide 0 P f xs.toArray w fun en w' => ∃ x, en = .returned x ∧ Below w.heap.size w w' ∧
      ∀ (h2 : Hp) (μ2 : Nat → Nat), (∀ id o, h2.get id = some o → μ2 id < w.heap.size) → VR h2 μ2 w' res x

section
variable {P : Program} {pol : Pol} {sums : Sums}
/-- a run, and what it gives, frozen -/
def runTold (P : Program) (pol : Pol) (sums : Sums) (n : Nat) (f : FuncId) (args : List AV) (res : AV) : Bool :=
  match (do let v ← acall P pol sums (n + 1) (.func (.func f) [] []) args; afz true 40 v : AM AV).run Hp.none with
  | some (v, _) => aeq 60 v res
  | none => false
theorem told_of_run (hP : ProgOk P) (hs : SumsOk P sums) {n : Nat} {f : FuncId} {args : List AV} {res : AV} (e : runTold P pol sums n f args res = true) : Told P f args res := by
  unfold runTold at e
  split at e
  · rename_i v hh he
    obtain rfl := aeq_s _ _ _ e
    obtain ⟨u, h1, e1, e2⟩ := bind_some he
    simp only [acall, List.nil_append, List.append_nil] at e1
    have hc := acall_sound (pol := pol) hP hs n
    refine ⟨?_, fun μ w xs k r => ?_⟩
    · unfold afunc at e1
      split at e1
      · rename_i sm hsm
        exact (hs f sm hsm).1
      · split at e1
        · cases e1
        · rename_i fn hfn
          split at e1
          · cases e1
          · rename_i c hc; exact ⟨fn, c, hfn, hc⟩
    · obtain ⟨_, hk⟩ := afunc_calls hc (region_ok hP hc) hs n f e1 (SR.none μ w k) r (fun id _ _ => Hp.none_get id)
      refine CallsIn.mono hk fun en w' hg => ?_
      cases en with
      | returned x =>
        obtain ⟨μ', s', st, hv⟩ := hg
        refine ⟨x, rfl, ⟨st.os, st.tape, st.output, st.size, fun k hk => st.old k hk (fun ⟨id, o, ho, _⟩ => by rw [Hp.none_get] at ho; cases ho)⟩, fun h2 μ2 hlt => ?_⟩
        refine (afz_sim (h2 := h2) (μ2 := μ2) (fun q => by cases q) (fun id o ho => ?_) s' _ _ _ _ _ e2 hv).2
        rintro ⟨i, o2, hi, hm⟩
        have := hlt i o2 hi
        obtain ⟨j, o3, hj, _⟩ := st.held (μ' id) (by omega) ⟨id, o, ho, rfl⟩
        rw [Hp.none_get] at hj; cases hj
      | panicked _ => exact hg.elim
      | outgrown => exact hg.elim
  · cases e
/-- what was told, as a summary -/
def toldSum (tab : List (List AV × AV)) (args : List AV) : AM AV := do
  let a ← afzL (afz false 40) args
  match tab.find? (fun p => aeqL (aeq 60) p.1 a) with
  | some p => pure p.2
  | none => AM.fail
theorem toldSum_ok {f : FuncId} {tab : List (List AV × AV)} (k : ∀ p ∈ tab, Told P f p.1 p.2) {args : List AV} {h h' : Hp} {v : AV} {μ : Nat → Nat} {w : World} {xs : List Value}
    (e : (toldSum tab args).run h = some (v, h')) (s : SR h μ w) (r : VRs h μ w args xs) : CallsIn Fence.wide 0 P f xs.toArray w (Got h μ w v h') := by
  obtain ⟨a, h1, e1, e2⟩ := bind_some e
  have hn : ∀ c, ¬ Held Hp.none μ c := fun c ⟨id, o, ho, _⟩ => by rw [Hp.none_get] at ho; cases ho
  obtain ⟨rfl, q⟩ := afzL_sim (afz_sim (h2 := Hp.none) (μ2 := μ) (fun _ => hn) (fun id o _ => hn _) s 40) _ _ _ _ e1 r
  split at e2
  · rename_i p hp
    obtain ⟨rfl, rfl⟩ := pure_some e2
    have h1 := List.find?_some hp
    obtain rfl := aeqL_s (aeq_s 60) h1
    refine CallsIn.mono ((k p (List.mem_of_find?_eq_some hp)).2 μ w xs (fun g l hg => ⟨hn g, (s.gl g l hg).2⟩) q) fun en w' hg => ?_
    obtain ⟨x, rfl, hb, hv⟩ := hg
    obtain ⟨s', st⟩ := s.below hb
    refine ⟨μ, s', st, hv _ _ fun id o ho => ?_⟩
    obtain ⟨obj, h1, _⟩ := s.blk id o ho; exact (Array.getElem?_eq_some_iff.1 h1).1
  · cases e2
theorem toldSum_is {f : FuncId} {tab : List (List AV × AV)} (hne : tab ≠ []) (k : ∀ p ∈ tab, Told P f p.1 p.2) :
    (∃ fn c, P.funcs[f]? = some fn ∧ fn.body = some c) ∧ ∀ (args : List AV) (h h' : Hp) (v : AV) (μ : Nat → Nat) (w : World) (xs : List Value), (toldSum tab args).run h = some (v, h') → SR h μ w → VRs h μ w args xs → Fresh h h' →
      CallsIn Fence.wide 0 P f xs.toArray w (Got h μ w v h') := by
  cases tab with
  | nil => exact absurd rfl hne
  | cons p l => exact ⟨(k p (by simp)).1, fun args h h' v μ w xs e s r _ => toldSum_ok k e s r⟩
end
end Go.Am
namespace Go.Am
open Go Go.Proofs AM
set_option maxRecDepth 10000
/-- one summary more -/
def addSum (g : FuncId) (sm : List AV → AM AV) (rest : Sums) : Sums := fun f => match Nat.beq f g with
  | true => some sm
  | false => rest f
theorem addSum_ok {P : Program} {g : FuncId} {sm : List AV → AM AV} {rest : Sums} (hr : SumsOk P rest) (hb : ∃ fn c, P.funcs[g]? = some fn ∧ fn.body = some c)
    (hs : ∀ (args : List AV) (h h' : Hp) (v : AV) (μ : Nat → Nat) (w : World) (xs : List Value), (sm args).run h = some (v, h') → SR h μ w → VRs h μ w args xs → Fresh h h' → CallsIn Fence.wide 0 P g xs.toArray w (Got h μ w v h')) : SumsOk P (addSum g sm rest) := fun f s h => by
  unfold addSum at h
  cases h1 : Nat.beq f g with
  | true =>
    rw [h1] at h; cases h
    obtain rfl := Nat.eq_of_beq_eq_true h1
    exact ⟨hb, hs⟩
  | false => rw [h1] at h; exact hr f s h
theorem addTold_ok {P : Program} {g : FuncId} {tab : List (List AV × AV)} {rest : Sums} (hr : SumsOk P rest) (hne : tab ≠ []) (k : ∀ p ∈ tab, Told P g p.1 p.2) : SumsOk P (addSum g (toldSum tab) rest) :=
  addSum_ok hr (toldSum_is hne k).1 (toldSum_is hne k).2
theorem name_of (l : List Func) (f : FuncId) (fn : Func) (h : (l.all fun fn => !(fn.name == "runtime.NumGoroutine")) = true) (e : l[f]? = some fn) : (fn.name == "runtime.NumGoroutine") = false := by
  have := List.all_eq_true.1 h fn (List.mem_of_getElem? e)
  simpa using this
theorem progOk : ProgOk Tryz.prog := ⟨by kernel_rfl, fun f fn e => name_of Tryz.prog.funcs.toList f fn (by kernel_rfl) (by simpa using e)⟩
def sums0 : Sums := fun _ => none
theorem sums0_ok : SumsOk Tryz.prog sums0 := fun _ _ h => by cases h
end Go.Am
namespace Go.Proofs.YtjkbdgglljpllabGreatDoor
open Go Go.Am Go.ChangeShapes Go.WideShapes Go.ChangeAt Go.RowKit
set_option maxRecDepth 100000

def tabZ : List Int := [0,1,56,2,57,49,28,3,61,58,42,50,38,29,17,4,62,47,59,36,45,43,51,22,53,39,33,30,24,18,12,5,63,55,48,27,60,41,37,16,46,35,44,21,52,32,23,11,54,26,40,15,34,20,31,10,25,14,19,9,13,8,7,6]
/-- what the laid table gives the A-machine -/
theorem gl_of_laid {W : World} (h : laidMetH Tryz.prog Rows.statsGuessRow.laid W) : Gl Hp.none id W := by
  rw [MakeChecks.laidMetH_plain _ _ _ (by kernel_rfl)] at h
  obtain ⟨ps, ⟨_, _, _, _, _, _, _, _, _, _, ⟨g, t, cs, fuel, p, q, hg, ht, hv, hd, _, _⟩, _⟩, _, _⟩ := h
  obtain rfl := Option.some.inj ((show Tryz.prog.globalNamed "math/bits.deBruijn64tab" = some 7 by kernel_rfl).symm.trans hg)
  obtain rfl := Option.some.inj ((show (Tryz.prog.globals[7]?).map (·.type) = some 521 by kernel_rfl).symm.trans ht)
  obtain ⟨xs, m, _, ex, _, hl, hel⟩ := DataW.trod_array Tryz.underlying521 hd
  have c5 : Tryz.prog.cellsOf 5 = 1 := by kernel_rfl
  have key : ∀ r, r < 64 → W.cell? ⟨7, r, none⟩ = some (.int .u8 (tabZ.getD r 0)) := by
    intro r hr
    have hE := hel r hr
    rw [c5, Nat.mul_one, List.getElem?_eq_getElem (by omega)] at hE
    obtain ⟨z, e1, e2, _⟩ := DataW.trod_int Tryz.underlying5 hE
    have hlen : tabZ.length = 64 := by kernel_rfl
    have e3 : (xs.map (·.1)) = tabZ.map fun n => .lit (.int .u8 n) := (DataW.agg.inj (Prod.mk.inj ex).1).symm
    have e4 : (xs.map (·.1))[r]? = (tabZ.map fun n => (DataW.lit (.int .u8 n) : DataW Unit))[r]? := by rw [e3]
    rw [List.getElem?_map, List.getElem?_map, List.getElem?_eq_getElem (by omega : r < xs.length), List.getElem?_eq_getElem (by omega : r < tabZ.length), e2] at e4
    have hz : z = tabZ.getD r 0 := by
      simp only [Option.map_some, Option.some.injEq, DataW.lit.injEq, Lit.int.injEq, true_and] at e4
      rw [e4, List.getD, List.getElem?_eq_getElem (by omega : r < tabZ.length)]; rfl
    rw [World.var?_cell hg hv r, ← hz]
    have : cs.toList[r]? = some (.int .u8 z) := by
      have h0 : ((cs.toList.drop r).take 1)[0]? = some (.int .u8 z) := by rw [e1]; rfl
      simpa using h0
    simpa using this
  intro g l hgl
  have hgl' : g = 7 ∧ l = tabZ.map fun k => (IntKind.u8, k) := by
    unfold gtab at hgl
    split at hgl
    · cases hgl; exact ⟨rfl, rfl⟩
    · cases hgl
  obtain ⟨rfl, rfl⟩ := hgl'
  refine ⟨fun ⟨id, o, ho, _⟩ => (by rw [Hp.none_get] at ho; cases ho), ?_, fun i hi => ?_⟩
  · have := key 0 (by omega)
    unfold World.cell? at this
    cases hq : W.heap[7]? with
    | none => simp only [hq] at this; cases this
    | some o => exact (Array.getElem?_eq_some_iff.1 hq).1
  · have h64 : i < 64 := by simpa [tabZ] using hi
    have hi' : i < tabZ.length := by simpa using hi
    have := key i h64
    have ha : (⟨7, 0, none⟩ : Addr).add i = ⟨7, i, none⟩ := by
      unfold Addr.add
      split
      · rename_i h0; rw [h0]
      · simp
    rw [ha, this, List.getD, List.getElem?_eq_getElem hi', List.getElem_map]
    rfl
theorem awakeSum_ok (aw : Go.Am.Told Tryz.prog 4 [] (.bool true)) : SumsOk Tryz.prog (addSum 4 awakeSum sums0) :=
  addSum_ok sums0_ok ⟨_, _, Tryz.func4, rfl⟩ fun args h h' v μ w xs e s r F => by
    cases args with
    | cons a l => cases e
    | nil =>
      obtain ⟨rfl, rfl⟩ := AM.pure_some e
      cases xs with
      | cons x xs => have := r.1; simp at this
      | nil =>
        refine CallsIn.mono (aw.2 μ w [] (fun g l hg => ⟨fun ⟨id, o, ho, _⟩ => (by rw [Hp.none_get] at ho; cases ho), (s.gl g l hg).2⟩) VRs.nil) fun en w' hg => ?_
        obtain ⟨x, rfl, hb, hv⟩ := hg
        obtain ⟨s', st⟩ := s.below hb
        refine ⟨μ, s', st, hv _ _ fun id o ho => ?_⟩
        obtain ⟨obj, h1, _⟩ := s.blk id o ho
        exact (Array.getElem?_eq_some_iff.1 h1).1
theorem imm_none {sz n : Nat} {v : AV} {c : List AV} (s : SlV Hp.none sz v n c) : vids v = [] := by
  cases s with
  | imm => rfl
  | own id ver off n row fix r e => obtain ⟨st, ty, ho⟩ := r; rw [Hp.none_get] at ho; cases ho
def polG : Pol := ⟨fun _ _ => false⟩
theorem statsGuess_calls (aw : Go.Am.Told Tryz.prog 4 [] (.bool true)) {x : Sts} {lv nv : AV} {known : List Str} (p : Ptn) {a b : Int} {v0 v1 v2 : Value} {w : World} (k : Gl Hp.none id w) (hx : StsOk x) (h64 : I64 a) (hb : x.lines.length < 2 ^ 60) (hb2 : known.length < 2 ^ 60)
    (ox : Go.Am.Rows linC 7 Hp.none lv x.lines) (on : Go.Am.Rows strC 1 Hp.none nv known) (r0 : VR Hp.none id w (.agg (stsC x lv)) v0) (r1 : VR Hp.none id w (.agg (ptnC p)) v1) (r2 : VR Hp.none id w nv v2) :
    Calls Tryz.prog 3 #[v0, v1, v2, .int .i64 a, .int .i64 b] w fun e w' => e = .returned (.bool true) ∧ Below w.heap.size w w' := by
  have st : St ⟨Hp.none, cids [], [.ro linC 7 lv x.lines, .ro strC 1 nv known]⟩ [] Hp.none := ⟨Hp.WF.none, KeepBut.refl _, fun c hc => by
    rcases List.mem_cons.1 hc with rfl | hc
    · exact ox
    · rcases List.mem_singleton.1 hc with rfl; exact on, by simp [cids, Ck.ro, imm_none ox, imm_none on], fun i hi => by cases hi⟩
  have S : S19 polG (addSum 4 awakeSum sums0) := ⟨fun _ _ => rfl, fun f hf => by
    simp only [List.mem_cons, List.mem_nil_iff, or_false] at hf
    rcases hf with rfl | rfl | rfl | rfl | rfl | rfl | rfl | rfl | rfl | rfl | rfl | rfl | rfl | rfl <;> rfl⟩
  obtain ⟨v, h', e, N, ⟨rfl, rfl⟩, _⟩ := statsGuess_w (n := 2001) (W := [.ro linC 7 lv x.lines, .ro strC 1 nv known]) (x := x) (lv := lv) (nv := nv) (known := known) S rfl p a b hx h64 (by omega) hb hb2 _ st Hp.WF.none
  have r : VRs Hp.none id w [.agg (stsC x lv), .agg (ptnC p), nv, .int .i64 a, .int .i64 b] [v0, v1, v2, .int .i64 a, .int .i64 b] := VRs.cons r0 (VRs.cons r1 (VRs.cons r2 (VRs.cons (.int _ _) (VRs.cons (.int _ _) VRs.nil))))
  refine (entry (pol := polG) progOk (awakeSum_ok aw) (n := 2000) e r k).mono ?_
  rintro en w' ⟨y, μ', rfl, hy, hb⟩
  cases hy
  exact ⟨rfl, hb⟩

end Go.Proofs.YtjkbdgglljpllabGreatDoor
namespace Go.Proofs.YtjkbdgglljpllabGreatDoor
open Go Go.Am Go.ChangeShapes Go.WideShapes Go.ChangeAt Go.RowKit
set_option maxRecDepth 100000
theorem statsGuess_lifted (aw : Go.Am.Told Tryz.prog 4 [] (.bool true)) (os : Os) (started : os.Started) (H : Type) (enc : TypeId × Value → H) :
    ReturnsInHanded {} Tryz.checked os 3 .any (fun w args => (Rows.statsGuessSpec.pre enc Tryz.prog Tryz.f3 Rows.statsGuessRow.domain false w args ∧ laidMetH Tryz.prog Rows.statsGuessRow.laid w) ∧ sizedMet enc Tryz.prog Tryz.f3 (OpenSpec.ofChange Rows.statsGuessSpec) false w args)
      (Rows.statsGuessSpec.post enc Tryz.prog Tryz.f3 false true false false) := by
  refine returnsInHanded_of_change_and (C := Tryz.checked) (X := fun w _ => laidMetH Tryz.prog Rows.statsGuessRow.laid w) (fun _ _ _ hh h => h.of_heap hh) Tryz.own started (by kernel_rfl) Tryz.func3
    (ChangeSpec.witness_shaped (enc := enc) (C := Tryz.checked) (os := os) (X := fun w _ => laidMetH Tryz.prog Rows.statsGuessRow.laid w) false (World.laidAll Tryz.prog os Rows.statsGuessRow.laid) #[.agg #[.int .i64 0, .int .i64 0, .int .i64 0, .int .i64 0, .slice none 0 0], .agg #[.string ⟨#[]⟩, .int .i64 0, .string ⟨#[]⟩, .string ⟨#[]⟩, .string ⟨#[]⟩, .string ⟨#[]⟩, .int .i64 0, .string ⟨#[]⟩, .string ⟨#[]⟩, .string ⟨#[]⟩, .string ⟨#[]⟩, .int .i64 0, .string ⟨#[]⟩, .string ⟨#[]⟩, .string ⟨#[]⟩], .slice none 0 0, .int .i64 0, .int .i64 0] 8 (World.laidAll_os _ _ _)
      (World.shaped_of_ZipB (by kernel_rfl) (by kernel_rfl)) (by kernel_rfl) (by kernel_rfl) (by kernel_rfl)
      (by rw [MakeChecks.laidMetH_plain _ _ _ (by kernel_rfl)]; exact laidMet_laidAll _ (by kernel_rfl) (by kernel_rfl))) ?_
  intro W base args ds gs before hval0 hW hcnd hsz0 hL _
  have hval : ∀ (j : Nat) t v, Tryz.f3.params[j]? = some t → args[j]? = some v → Value.okWide Tryz.prog W .any base t v := hval0
  have hsz : (DataW.weightsEach Tryz.prog (Tryz.f3.params.toList ++ Rows.statsGuessSpec.plain.varTypes Tryz.prog) (ds ++ gs)).all (· ≤ reachBytes) = true := hsz0
  clear hsz0
  have hW' := hW
  obtain ⟨p, q, hA0, hV, rfl, hfz, hnd⟩ := hW
  have hA : DataW.TrodAll enc Tryz.prog W 0 (fun _ => true) true Tryz.f3.params.toList args.toList ds p := hA0
  rw [Tryz.params3] at hA hval hsz
  obtain ⟨v0, v1, v2, v3, v4, d0, d1, d2, d3, d4, p0, p1, p2, p3, p4, rfl, rfl, rfl, h0, h1, h2, h3, h4⟩ := trodAll_five hA
  obtain ⟨rfl, rfl⟩ := trodVars_none hV
  obtain ⟨x, lv, hx, hxl, r0, ox⟩ := open_stats (hval 0 24 v0 rfl rfl) h0
  obtain ⟨pt, r1⟩ := open_pattern (hval 1 31 v1 rfl rfl) h1
  obtain ⟨known, nv, hnl, r2, on⟩ := open_names (hval 2 32 v2 rfl rfl) h2
  obtain ⟨a, rfl, rfl, rfl, wa⟩ := open_int Tryz.underlying3 (hval 3 3 v3 rfl rfl) h3
  obtain ⟨b, rfl, rfl, rfl, wb⟩ := open_int Tryz.underlying3 (hval 4 3 v4 rfl rfl) h4
  have all : ∀ n ∈ DataW.weightsEach Tryz.prog _ _, n ≤ reachBytes := fun n hn => by simpa using List.all_eq_true.1 hsz n hn
  have b0 := hxl fun n hn => all n (DataW.weights_mem_each (j := 0) (t := 24) rfl rfl n hn)
  have b2 := hnl fun n hn => all n (DataW.weights_mem_each (j := 2) (t := 32) rfl rfl n hn)
  refine (statsGuess_calls aw pt (b := b) (gl_of_laid hL) hx (wf64 wa) b0 b2 ox on r0 r1 r2).mono fun e W' ⟨he, hb⟩ => ?_
  subst he
  refine ⟨_, rfl, ?_⟩
  have hlt : ∀ z ∈ (p0 ++ (p1 ++ (p2 ++ ([] ++ ([] ++ []))))) ++ [], z.block < W.heap.size := fun z hz => hW'.lt z hz
  have t0 := Below.trod Tryz.laidOut (by kernel_rfl) (of_decide_eq_true (by kernel_rfl)) h0 hb (fun z hz => hlt z (by simp [hz]))
  have t1 := Below.trod Tryz.laidOut (by kernel_rfl) (of_decide_eq_true (by kernel_rfl)) h1 hb (fun z hz => hlt z (by simp [hz]))
  have t2 := Below.trod Tryz.laidOut (by kernel_rfl) (of_decide_eq_true (by kernel_rfl)) h2 hb (fun z hz => hlt z (by simp [hz]))
  have t3 := Below.trod Tryz.laidOut (by kernel_rfl) (of_decide_eq_true (by kernel_rfl)) h3 hb (fun z hz => by cases hz)
  have t4 := Below.trod Tryz.laidOut (by kernel_rfl) (of_decide_eq_true (by kernel_rfl)) h4 hb (fun z hz => by cases hz)
  refine ⟨_, _, _, [], p0 ++ (p1 ++ (p2 ++ ([] ++ ([] ++ [])))), [], hW', ?_, ?_, ?_, hb.frame _, fun c => by cases c⟩
  · exact trodAll_mk1 (t := 4) (v := .bool true) (d := .lit (.bool true)) ⟨1, by kernel_rfl⟩
  · exact ⟨p0, _, t0, ⟨p1, _, t1, ⟨p2, _, t2, ⟨[], _, t3, ⟨[], [], t4, rfl, rfl⟩, rfl⟩, rfl⟩, rfl⟩, rfl⟩
  · exact rfl

end Go.Proofs.YtjkbdgglljpllabGreatDoor
namespace Go.Proofs.YtjkbdgglljpllabGreatDoor
open Go
set_option maxRecDepth 100000
theorem and_i {a b : Bool} (h : a = true) (k : b = true) : (a && b) = true := by rw [h, k]; rfl
theorem gf1 : Rows.statsGuessRow.wf (OpenSpec.ofChange Rows.statsGuessSpec) = true := by kernel_rfl
theorem gf2 : laidOutB Tryz.pinned.checked.prog = true := by kernel_rfl
theorem gf3 : mapsRowed Tryz.pinned.checked.prog = true := by kernel_rfl
theorem gf4 : Tryz.f3.params.all (Tryz.pinned.checked.prog.readableRec ·) = true := by kernel_rfl
theorem gf5 : namedTie Tryz.pinned.checked.prog Rows.statsGuessRow.named Rows.statsGuessSpec.vars = true := by kernel_rfl
theorem gf6 : (Rows.statsGuessRow.stops == []) = true := by kernel_rfl
theorem gf7 : (Tryz.pinned.checked.prog.stops == []) = true := by kernel_rfl
theorem gf8 : (Rows.statsGuessRow.knobs == []) = true := by kernel_rfl
theorem gf9 : (Tryz.pinned.checked.prog.stopKnobs == []) = true := by kernel_rfl
theorem gf10 : (Rows.statsGuessRow.inPlace == Tryz.pinned.checked.prog.inPlace 3) = true := by kernel_rfl
theorem gf11 : (Rows.statsGuessRow.unfollowed == Tryz.pinned.checked.prog.unfollowed 3) = true := by kernel_rfl
theorem gf12 : (Rows.statsGuessRow.recurses == Tryz.pinned.checked.prog.recurses 3) = true := by kernel_rfl
theorem gf13 : (Rows.statsGuessRow.named == Tryz.pinned.checked.prog.varsNamed 3) = true := by kernel_rfl
theorem gf14 : (Rows.statsGuessRow.maps == (Tryz.f3.params.toList ++ Rows.statsGuessSpec.plain.varTypes Tryz.pinned.checked.prog).any (Tryz.pinned.checked.prog.mapsRec ·)) = true := by kernel_rfl
theorem gf15 : (Rows.statsGuessRow.ifaces == (Tryz.f3.params.toList ++ Rows.statsGuessSpec.plain.varTypes Tryz.pinned.checked.prog).any (Tryz.pinned.checked.prog.ifacesRec ·)) = true := by kernel_rfl
theorem gf16 : (Rows.statsGuessRow.mapsOut == Tryz.pinned.checked.prog.mapsAmong Tryz.f3.resultTypes.toList) = true := by kernel_rfl
theorem gf17 : (Rows.statsGuessRow.loops == (Tryz.f3.params.toList ++ Rows.statsGuessSpec.plain.varTypes Tryz.pinned.checked.prog).any (Tryz.pinned.checked.prog.loopsFrom ·)) = true := by kernel_rfl
theorem gf18 : (Rows.statsGuessRow.wideKeys == (Tryz.f3.params.toList ++ Rows.statsGuessSpec.plain.varTypes Tryz.pinned.checked.prog ++ Tryz.f3.resultTypes.toList).any (Tryz.pinned.checked.prog.wideKeysFrom ·)) = true := by kernel_rfl
theorem gf19 : Rows.statsGuessSpec.vars.all (Tryz.pinned.checked.prog.varReadable ·) = true := by kernel_rfl
theorem gf20 : Tryz.f3.resultTypes.all (fun t => Tryz.pinned.checked.prog.readableRec t && decide (t < Tryz.pinned.checked.prog.types.size)) = true := by kernel_rfl
theorem gf21 : (Rows.statsGuessRow.ifacesOut == Tryz.f3.resultTypes.toList.any (Tryz.pinned.checked.prog.ifacesRec ·)) = true := by kernel_rfl
theorem gf22 : (Rows.statsGuessRow.loopsOut == Tryz.f3.resultTypes.toList.any (Tryz.pinned.checked.prog.loopsFrom ·)) = true := by kernel_rfl
theorem gf23 : (Rows.statsGuessRow.plainKeys == Tryz.pinned.checked.prog.plainKeys) = true := by kernel_rfl
theorem gf24 : Rows.statsGuessRow.shortTexts.isNone = true := by kernel_rfl
theorem gf25 : Tryz.pinned.checked.prog.stopsHeard = true := by kernel_rfl
theorem gf26 : Tryz.pinned.checked.prog.mayEnter = true := by kernel_rfl
theorem gf27 : (Rows.statsGuessRow.lifted == Tryz.pinned.checked.prog.liftsFinal) = true := by kernel_rfl
theorem gf28 : (Tryz.pinned.checked.prog.make == some Rows.statsGuessRow.make) = true := by kernel_rfl
theorem gf29 : (Rows.statsGuessRow.kinds == (if Rows.statsGuessRow.domain.isEmpty then [] else Tryz.f3.params.toList.map fun t => match Tryz.pinned.checked.prog.underlying t with | some (.int k) => some k | _ => none)) = true := by kernel_rfl
theorem gf30 : (Rows.statsGuessRow.pinned == Rows.statsGuessRow.pinnedBy) = true := by kernel_rfl
theorem gf31 : (Rows.statsGuessRow.veiled == (Tryz.f3.params.toList ++ Rows.statsGuessSpec.plain.varTypes Tryz.pinned.checked.prog ++ Tryz.f3.resultTypes.toList).any (Tryz.pinned.checked.prog.veiledRec ·)) = true := by kernel_rfl
theorem gf32 : Rows.statsGuessRow.veiledFits Tryz.pinned.checked.prog Tryz.f3.params.toList (Tryz.f3.params.toList ++ Rows.statsGuessSpec.plain.varTypes Tryz.pinned.checked.prog ++ Tryz.f3.resultTypes.toList) = true := by kernel_rfl
end Go.Proofs.YtjkbdgglljpllabGreatDoor
namespace Go.Proofs.YtjkbdgglljpllabGreatDoor
open Go Go.Am Go.ChangeShapes Go.WideShapes Go.ChangeAt Go.RowKit
set_option maxRecDepth 100000
theorem gfn : Tryz.pinned.checked.prog.funcNamed Rows.statsGuessRow.func = some 3 := by kernel_rfl
theorem ginst : Tryz.f3.isInstance Tryz.pinned.checked.prog Rows.statsGuessRow.origin Rows.statsGuessRow.targs := of_decide_eq_true (by kernel_rfl)
theorem gwrap : Tryz.f3.isWrapper Tryz.pinned.checked.prog Rows.statsGuessRow.wrapper Rows.statsGuessRow.mainSum := by
  unfold Func.isWrapper; first | (rw [if_pos (by decide +kernel)]; kernel_rfl) | (rw [if_neg (by decide +kernel)]; exact ⟨rfl, rfl⟩)
theorem gjoined : joinedFacts Tryz.pinned.checked.prog 3 Tryz.f3 Rows.statsGuessSpec Rows.statsGuessRow = true := by
  unfold joinedFacts
  exact and_i (and_i (and_i (and_i (and_i (and_i (and_i (and_i (and_i (and_i (and_i (and_i (and_i (and_i (and_i (and_i (and_i (and_i (and_i (and_i (and_i (and_i (and_i (and_i (and_i (and_i (and_i (and_i (and_i (and_i (and_i gf1 gf2) gf3) gf4) gf5) gf6) gf7) gf8) gf9) gf10) gf11) gf12) gf13) gf14) gf15) gf16) gf17) gf18) gf19) gf20) gf21) gf22) gf23) gf24) gf25) gf26) gf27) gf28) gf29) gf30) gf31) gf32
theorem statsGuess_said (aw : Go.Am.Told Tryz.prog 4 [] (.bool true)) : Rows.StatsGuessSaid :=
  OpenClaim.holds_of_wide 3 Tryz.f3 rfl rfl rfl rfl rfl rfl rfl ⟨rfl, rfl, rfl, rfl, rfl⟩ rfl rfl rfl rfl rfl gfn Tryz.func3 gjoined ginst gwrap
    (fun os started H enc _ => statsGuess_lifted aw os started H enc)
theorem gby : Rows.statsGuessRow.wfByText (OpenSpec.ofChange Rows.statsGuessSpec) = true := by kernel_rfl
theorem gmain : Tryz.pinned.checked.prog.mainIs = some (true, "f8e6dc2ee6608228af1952e76b49b5da5a24edd132e3e751573abcdd2afa154e".toList) := by kernel_rfl
theorem goes_none {P : Program} (h : (P.funcs.toList.all fun f => !(Func.goes f)) = true) (f : FuncId) : P.goes f = false := by
  have hg : ∀ (g : Nat) (fn : Func), P.funcs[g]? = some fn → Func.goes fn = false := fun g fn e => by
    have := List.all_eq_true.1 h fn (List.mem_of_getElem? (by simpa using e))
    simpa using this
  have h1 : ((P.closure f).any fun g => (P.funcs[g]?).any Func.goes) = false := by
    rw [List.any_eq_false]
    intro g _
    cases e : P.funcs[g]? with
    | none => simp
    | some fn => simp [hg g fn e]
  have h2 : P.funcs.any Func.goes = false := by
    rw [Array.any_eq_false]
    intro i hi
    have := hg i _ (Array.getElem?_eq_getElem hi)
    simp [this]
  unfold Program.goes
  rw [h1, h2]
  cases P.unfollowed f <;> rfl
theorem goesBy_none {P : Program} {c : OpenClaim} (h : (P.funcs.toList.all fun f => !(Func.goes f)) = true) (hs : c.start = .entering) : false = c.goesBy P := by
  unfold OpenClaim.goesBy Program.goesAt
  rw [hs]
  unfold Program.goesFrom
  cases e : P.funcNamed c.func with
  | none => rfl
  | some f => simp [goes_none h f]
theorem gnogo : (Tryz.pinned.checked.prog.funcs.toList.all fun f => !(Func.goes f)) = true := by kernel_rfl
theorem ggoes : false = Rows.statsGuessRow.goesBy Tryz.pinned.checked.prog := goesBy_none gnogo rfl
theorem glooks : true = Tryz.pinned.checked.prog.looks [] := by kernel_rfl
theorem gwants : ([24, 31, 32, 3, 3].all fun u => !Tryz.pinned.checked.prog.wantsStandIn u) = true := by kernel_rfl
theorem ghl : ∀ f fn, Tryz.pinned.checked.prog.funcNamed Rows.statsGuessRow.func = some f → Tryz.pinned.checked.prog.funcs[f]? = some fn → true = Tryz.pinned.checked.prog.looks [] ∧ ∀ (j : Nat) t, fn.params[j]? = some t → Tryz.pinned.checked.prog.wantsStandIn t = false := by
  intro f fn hf hfn
  obtain rfl : f = 3 := Option.some.inj (gfn.symm.trans hf) |>.symm
  obtain rfl : fn = Tryz.f3 := (Option.some.inj (Tryz.func3.symm.trans hfn)).symm
  refine ⟨glooks, fun j t ht => ?_⟩
  rw [Tryz.params3] at ht
  have hm : t ∈ [24, 31, 32, 3, 3] := by simpa using Array.mem_of_getElem? ht
  have := List.all_eq_true.1 gwants t hm
  rwa [Bool.not_eq_true'] at this
theorem statsGuess_card (aw : Go.Am.Told Tryz.prog 4 [] (.bool true)) : Rows.StatsGuessCardSaid :=
  Claim7.holds_tied_plain_at (p := Tryz.pinned) (s := OpenSpec.ofChange Rows.statsGuessSpec) (c := Rows.statsGuessRow) .later [] [.data, .data, .data, .data, .sentinel, .sentinel, .pinned, .pinned] true (true, "f8e6dc2ee6608228af1952e76b49b5da5a24edd132e3e751573abcdd2afa154e") true
    (statsGuess_said aw) (fun _ h => by cases h) gby (fun _ h => by cases h) statsGuess_row_tie rfl ⟨rfl, rfl⟩ gmain rfl ghl ggoes
end Go.Proofs.YtjkbdgglljpllabGreatDoor
namespace Go.Am
open Go Go.Proofs Go.RowKit
set_option maxHeartbeats 1000000 in
set_option maxRecDepth 100000 in
theorem cc_used (b : Nat) (w : World) (h0 : w.cell? ⟨b, 0, none⟩ = some (.pointer (some ⟨b, 0, none⟩))) :
    Calls Tryz.prog 287 #[.pointer (some ⟨b, 0, none⟩)] w fun e w' => e = .returned (.tuple #[]) ∧ w' = w := by
  obtain ⟨j, hj, _⟩ := Option.map_eq_some_iff.1 (show (Tryz.prog.info? 238).map (·.size) = some 2 by kernel_rfl)
  go_enter Tryz.func287, Tryz.ntmps287
  go_wp2
  rw [Lib.run_neq_ptr_same w _ Tryz.underlying236 hj]
  go_wp2
  go_end0
  exact ⟨rfl, rfl⟩
set_option maxHeartbeats 1000000 in
set_option maxRecDepth 100000 in
theorem cc_fresh (b e : Nat) (w : World) (h0 : w.cell? ⟨b, 0, none⟩ = some (.pointer none)) (hsh : w.shape? b = some (e, 2)) (hlies : liesAt Tryz.prog Tryz.prog.depth e (2 / Tryz.prog.cellsOf e) 0 238 1 = true) (hfz : w.frozen? ⟨b, 0, none⟩ = false) :
    Calls Tryz.prog 287 #[.pointer (some ⟨b, 0, none⟩)] w fun en w' => en = .returned (.tuple #[]) ∧ w' = w.setCell ⟨b, 0, none⟩ (.pointer (some ⟨b, 0, none⟩)) := by
  obtain ⟨j, hj, hjs⟩ := Option.map_eq_some_iff.1 (show (Tryz.prog.info? 238).map (·.size) = some 2 by kernel_rfl)
  go_enter Tryz.func287, Tryz.ntmps287
  go_wp2
  rw [Lib.run_to_unsafe w ⟨b, 0, none⟩ Tryz.underlying236 Tryz.underlying452 hj (by rw [hjs]; decide) hsh (Nat.zero_lt_succ 1)]
  simp only [Result.andThen]
  rw [Oper.upon_value]
  go_wp2
  rw [run_callFunc_extern Tryz.func340 (by kernel_rfl) (by kernel_rfl) (by kernel_rfl) (e := Extern.AbiNoEscape.same) (by kernel_rfl)]
  rw [Lib.run_noEscape]
  simp only [Result.andThen]
  rw [Oper.upon_value]
  go_wp2
  rw [Lib.run_from_unsafe w ⟨b, 0, none⟩ Tryz.underlying452 Tryz.underlying236 hj hsh hlies]
  simp only [Result.andThen]
  rw [Oper.upon_value]
  go_wp2
  go_end0
  exact ⟨rfl, rfl⟩
end Go.Am
namespace Go.Proofs
open Go.Shelf
def Tryz.lays156_ren : Go.Shelf.Ren := ⟨fun | 156 => 244 | 165 => 235 | 166 => 211 | 169 => 145 | 240 => 287 | 241 => 307 | 276 => 340 | 277 => 363 | n => n, fun | 31 => 32 | 9 => 9 | 3 => 3 | 4 => 4 | 0 => 0 | 20 => 20 | 72 => 238 | 76 => 306 | 70 => 236 | 37 => 67 | 75 => 305 | 127 => 330 | 164 => 452 | 5 => 5 | 80 => 245 | n => n, fun | n => n⟩
theorem Tryz.lays156 : Go.Proofs.Lays.n156 Tryz.prog Tryz.lays156_ren := {
  mixed := by kernel_rfl
  f156 := Tryz.func244.trans (congrArg some (by kernel_rfl))
  f165 := Tryz.func235.trans (congrArg some (by kernel_rfl))
  f166 := Tryz.func211.trans (congrArg some (by kernel_rfl))
  f169 := Tryz.func145.trans (congrArg some (by kernel_rfl))
  f240 := Tryz.func287.trans (congrArg some (by kernel_rfl))
  f241 := Tryz.func307.trans (congrArg some (by kernel_rfl))
  f276 := Tryz.func340.trans (congrArg some (by kernel_rfl))
  f277 := Tryz.func363.trans (congrArg some (by kernel_rfl))
  t0 := Tryz.underlying0
  a0 := Tryz.isAgg0
  z0 := Tryz.sizeOf0
  v0 := Tryz.zeroValue0
  t3 := Tryz.underlying3
  a3 := Tryz.isAgg3
  z3 := Tryz.sizeOf3
  v3 := Tryz.zeroValue3
  t4 := Tryz.underlying4
  a4 := Tryz.isAgg4
  z4 := Tryz.sizeOf4
  v4 := Tryz.zeroValue4
  t9 := Tryz.underlying9
  a9 := Tryz.isAgg9
  z9 := Tryz.sizeOf9
  v9 := Tryz.zeroValue9
  t20 := Tryz.underlying20
  a20 := Tryz.isAgg20
  z20 := Tryz.sizeOf20
  v20 := Tryz.zeroValue20
  t31 := Tryz.underlying32
  a31 := Tryz.isAgg32
  z31 := Tryz.sizeOf32
  v31 := Tryz.zeroValue32
  t37 := Tryz.underlying67
  a37 := Tryz.isAgg67
  z37 := Tryz.sizeOf67
  v37 := Tryz.zeroValue67
  t70 := Tryz.underlying236
  a70 := Tryz.isAgg236
  z70 := Tryz.sizeOf236
  v70 := Tryz.zeroValue236
  t72 := Tryz.underlying238
  a72 := Tryz.isAgg238
  z72 := Tryz.sizeOf238
  v72 := Tryz.zeroValue238
  t75 := Tryz.underlying305
  a75 := Tryz.isAgg305
  z75 := Tryz.sizeOf305
  v75 := Tryz.zeroValue305
  t76 := Tryz.underlying306
  a76 := Tryz.isAgg306
  z76 := Tryz.sizeOf306
  v76 := Tryz.zeroValue306
  t127 := Tryz.underlying330
  a127 := Tryz.isAgg330
  z127 := Tryz.sizeOf330
  v127 := Tryz.zeroValue330
  t164 := Tryz.underlying452
  a164 := Tryz.isAgg452
  z164 := Tryz.sizeOf452
  v164 := Tryz.zeroValue452 }
theorem Tryz.Builder_Extra_156 : Builder.Extra Tryz.prog Tryz.lays156_ren := {
  sizeBuilder := by kernel_rfl
  liesBuilder := by kernel_rfl
  t5 := Tryz.underlying5
  a5 := Tryz.isAgg5
  z5 := Tryz.sizeOf5
  v5 := Tryz.zeroValue5
  infoByte := by kernel_rfl
  cellsByte := by kernel_rfl
  sizeByte := by kernel_rfl
  neB5 := by decide }
open Go.RowKit in
/-- strings.Join: "Join concatenates the elements of its first argument to create a single string. The separator string sep is placed between elements in the resulting string.": HOWEVER MANY ELEMENTS. Below the heap's end the world is as it was. (LAID: no walk: one application.) -/
theorem Tryz.strings_Join (bk o c : Nat) (xs : List ByteArray) (sep : ByteArray) (w : World) (hcells : ∀ (j : Nat) x, xs[j]? = some x → w.cell? ⟨bk, o + j, none⟩ = some (.string x)) (hbk : bk < w.heap.size) (hN : xs.length ≤ 140737488355328) (hcap : xs.length ≤ c) (hlen : (Lib.join (xs.map (·.data.toList)) sep.data.toList).length ≤ 140737488355328) :
    Calls Tryz.prog 244 #[.slice (some ⟨bk, o, none⟩) xs.length c, .string sep] w fun e w' => e = .returned (.string ⟨(Lib.join (xs.map (·.data.toList)) sep.data.toList).toArray⟩) ∧ Below w.heap.size w w' := Any.strings_Join Tryz.lays156 Tryz.Builder_Extra_156 bk o c xs sep w hcells hbk hN hcap hlen
def Tryz.lays137_ren : Go.Shelf.Ren := ⟨fun | 137 => 210 | 217 => 286 | 266 => 339 | n => n, fun | 9 => 9 | 5 => 5 | 3 => 3 | n => n, fun | n => n⟩
theorem Tryz.lays137 : Go.Proofs.Lays.n137 Tryz.prog Tryz.lays137_ren := {
  mixed := by kernel_rfl
  f137 := Tryz.func210.trans (congrArg some (by kernel_rfl))
  f217 := Tryz.func286.trans (congrArg some (by kernel_rfl))
  f266 := Tryz.func339.trans (congrArg some (by kernel_rfl))
  t3 := Tryz.underlying3
  a3 := Tryz.isAgg3
  z3 := Tryz.sizeOf3
  v3 := Tryz.zeroValue3
  t5 := Tryz.underlying5
  a5 := Tryz.isAgg5
  z5 := Tryz.sizeOf5
  v5 := Tryz.zeroValue5
  t9 := Tryz.underlying9
  a9 := Tryz.isAgg9
  z9 := Tryz.sizeOf9
  v9 := Tryz.zeroValue9 }
open Go.RowKit in
/-- strings.IndexByte: "IndexByte returns the index of the first instance of c in s, or -1 if c is not present in s.": IT RETURNS 'Lib.indexByte s c'; the world is as it was. (LAID: no walk: one application.) -/
theorem Tryz.strings_IndexByte (s : ByteArray) (c : Int) (w : World) :
    Calls Tryz.prog 210 #[.string s, .int .u8 c] w fun e w' => e = .returned (.int .i64 (Lib.indexByte s.data.toList c.toNat.toUInt8)) ∧ w' = w := Any.strings_IndexByte Tryz.lays137 s c w
def Tryz.lays144_ren : Go.Shelf.Ren := ⟨fun | 144 => 292 | 143 => 348 | 219 => 373 | 217 => 286 | 225 => 389 | 224 => 390 | 267 => 391 | 266 => 339 | 314 => 404 | n => n, fun | 9 => 9 | 4 => 4 | 3 => 3 | 5 => 5 | 46 => 66 | 146 => 522 | 51 => 256 | n => n, fun | 1 => 2 | n => n⟩
theorem Tryz.lays144 : Go.Proofs.Lays.n144 Tryz.prog Tryz.lays144_ren := {
  mixed := by kernel_rfl
  f143 := Tryz.func348.trans (congrArg some (by kernel_rfl))
  f144 := Tryz.func292.trans (congrArg some (by kernel_rfl))
  f217 := Tryz.func286.trans (congrArg some (by kernel_rfl))
  f219 := Tryz.func373.trans (congrArg some (by kernel_rfl))
  f224 := Tryz.func390.trans (congrArg some (by kernel_rfl))
  f225 := Tryz.func389.trans (congrArg some (by kernel_rfl))
  f266 := Tryz.func339.trans (congrArg some (by kernel_rfl))
  f267 := Tryz.func391.trans (congrArg some (by kernel_rfl))
  f314 := Tryz.func404.trans (congrArg some (by kernel_rfl))
  t3 := Tryz.underlying3
  a3 := Tryz.isAgg3
  z3 := Tryz.sizeOf3
  v3 := Tryz.zeroValue3
  t4 := Tryz.underlying4
  a4 := Tryz.isAgg4
  z4 := Tryz.sizeOf4
  v4 := Tryz.zeroValue4
  t5 := Tryz.underlying5
  a5 := Tryz.isAgg5
  z5 := Tryz.sizeOf5
  v5 := Tryz.zeroValue5
  t9 := Tryz.underlying9
  a9 := Tryz.isAgg9
  z9 := Tryz.sizeOf9
  v9 := Tryz.zeroValue9
  t46 := Tryz.underlying66
  a46 := Tryz.isAgg66
  z46 := Tryz.sizeOf66
  v46 := Tryz.zeroValue66
  t51 := Tryz.underlying256
  a51 := Tryz.isAgg256
  z51 := Tryz.sizeOf256
  v51 := Tryz.zeroValue256
  t146 := Tryz.underlying522
  a146 := Tryz.isAgg522
  z146 := Tryz.sizeOf522
  v146 := Tryz.zeroValue522
  g1 := by kernel_rfl }
open Go.RowKit Go.Lib in
/-- strings.Contains: "Contains reports whether substr is within s.": AT A substr OF ONE BYTE c: IT RETURNS 'decide (0 ≤ Lib.indexByte s c)'; the world is as it was. (LAID: no walk: one application.) -/
theorem Tryz.strings_Contains_one (s : ByteArray) (c : UInt8) (w : World) :
    Calls Tryz.prog 292 #[.string s, .string ⟨#[c]⟩] w fun e w' => e = .returned (.bool (decide (0 ≤ Lib.indexByte s.data.toList c))) ∧ w' = w := Any.strings_Contains_one Tryz.lays144 s c w
def Tryz.keys105_ren : Go.Shelf.Ren := ⟨fun | 7 => 105 | 10 => 166 | n => n, fun | 23 => 142 | 26 => 9 | 3 => 3 | 28 => 188 | 0 => 0 | 27 => 187 | 33 => 179 | 4 => 4 | n => n, fun | n => n⟩
theorem Tryz.keys105 : Go.Proofs.SlLaysZ.n7 Tryz.prog Tryz.keys105_ren := {
  mixed := by kernel_rfl
  f7 := ⟨Tryz.f105.name, by decide, Tryz.func105.trans (congrArg some (by kernel_rfl))⟩
  f10 := ⟨Tryz.f166.name, by decide, Tryz.func166.trans (congrArg some (by kernel_rfl))⟩
  t0 := Tryz.underlying0
  a0 := Tryz.isAgg0
  z0 := Tryz.sizeOf0
  v0 := Tryz.zeroValue0
  t4 := Tryz.underlying4
  a4 := Tryz.isAgg4
  z4 := Tryz.sizeOf4
  v4 := Tryz.zeroValue4
  t23 := Tryz.underlying142
  a23 := Tryz.isAgg142
  z23 := Tryz.sizeOf142
  v23 := Tryz.zeroValue142
  t26 := Tryz.underlying9
  a26 := Tryz.isAgg9
  z26 := Tryz.sizeOf9
  v26 := Tryz.zeroValue9
  t27 := Tryz.underlying187
  a27 := Tryz.isAgg187
  z27 := Tryz.sizeOf187
  v27 := Tryz.zeroValue187
  t28 := Tryz.underlying188
  a28 := Tryz.isAgg188
  z28 := Tryz.sizeOf188
  v28 := Tryz.zeroValue188
  t33 := Tryz.underlying179
  a33 := Tryz.isAgg179
  z33 := Tryz.sizeOf179
  v33 := Tryz.zeroValue179 }
def Tryz.sorted104_ren : Go.Shelf.Ren := ⟨fun | 6 => 104 | 8 => 164 | 9 => 165 | 11 => 245 | 13 => 101 | 12 => 246 | 23 => 159 | 24 => 160 | 14 => 309 | 15 => 310 | 16 => 311 | 17 => 312 | 18 => 313 | 19 => 314 | 20 => 315 | 21 => 316 | 22 => 317 | 25 => 364 | 26 => 238 | 27 => 239 | 28 => 365 | 29 => 366 | 30 => 242 | 31 => 385 | n => n, fun | 26 => 9 | 28 => 188 | 24 => 32 | 0 => 0 | 3 => 3 | 37 => 66 | 48 => 256 | 50 => 204 | 4 => 4 | 40 => 250 | 39 => 249 | 45 => 198 | 5 => 5 | 9 => 9 | 51 => 352 | 55 => 356 | 57 => 422 | 58 => 129 | 33 => 179 | n => n, fun | n => n⟩
theorem Tryz.sorted104 : Go.Proofs.SlLaysZ.n6 Tryz.prog Tryz.sorted104_ren := {
  mixed := by kernel_rfl
  f6 := ⟨Tryz.f104.name, by decide, Tryz.func104.trans (congrArg some (by kernel_rfl))⟩
  f8 := ⟨Tryz.f164.name, by decide, Tryz.func164.trans (congrArg some (by kernel_rfl))⟩
  f11 := ⟨Tryz.f245.name, by decide, Tryz.func245.trans (congrArg some (by kernel_rfl))⟩
  t0 := Tryz.underlying0
  a0 := Tryz.isAgg0
  z0 := Tryz.sizeOf0
  v0 := Tryz.zeroValue0
  t24 := Tryz.underlying32
  a24 := Tryz.isAgg32
  z24 := Tryz.sizeOf32
  v24 := Tryz.zeroValue32
  t26 := Tryz.underlying9
  a26 := Tryz.isAgg9
  z26 := Tryz.sizeOf9
  v26 := Tryz.zeroValue9
  t28 := Tryz.underlying188
  a28 := Tryz.isAgg188
  z28 := Tryz.sizeOf188
  v28 := Tryz.zeroValue188
  i26 := by kernel_rfl }
def Tryz.sort165_ren : Go.Shelf.Ren := ⟨fun | 6 => 165 | 8 => 101 | 9 => 246 | 19 => 159 | 20 => 160 | 21 => 309 | 22 => 310 | 23 => 311 | 24 => 312 | 25 => 313 | 26 => 314 | 27 => 315 | 28 => 316 | 29 => 317 | 36 => 364 | 31 => 238 | 32 => 239 | 37 => 365 | 38 => 366 | 39 => 242 | 41 => 385 | n => n, fun | 27 => 32 | 29 => 9 | 3 => 3 | 32 => 66 | 26 => 32 | 0 => 0 | 44 => 256 | 46 => 204 | 4 => 4 | 36 => 250 | 35 => 249 | 41 => 198 | 5 => 5 | 9 => 9 | 53 => 352 | 57 => 356 | 63 => 422 | 64 => 129 | n => n, fun | n => n⟩
theorem Tryz.sort165 : Go.Proofs.SlLaysM.n6 Tryz.prog Tryz.sort165_ren := {
  mixed := by kernel_rfl
  f6 := ⟨Tryz.f165.name, by decide, Tryz.func165.trans (congrArg some (by kernel_rfl))⟩
  f8 := Tryz.func101.trans (congrArg some (by kernel_rfl))
  f9 := ⟨Tryz.f246.name, by decide, Tryz.func246.trans (congrArg some (by kernel_rfl))⟩
  f19 := Tryz.func159.trans (congrArg some (by kernel_rfl))
  f20 := Tryz.func160.trans (congrArg some (by kernel_rfl))
  f21 := ⟨Tryz.f309.name, by decide, Tryz.func309.trans (congrArg some (by kernel_rfl))⟩
  f22 := ⟨Tryz.f310.name, by decide, Tryz.func310.trans (congrArg some (by kernel_rfl))⟩
  f23 := ⟨Tryz.f311.name, by decide, Tryz.func311.trans (congrArg some (by kernel_rfl))⟩
  f24 := ⟨Tryz.f312.name, by decide, Tryz.func312.trans (congrArg some (by kernel_rfl))⟩
  f25 := ⟨Tryz.f313.name, by decide, Tryz.func313.trans (congrArg some (by kernel_rfl))⟩
  f26 := ⟨Tryz.f314.name, by decide, Tryz.func314.trans (congrArg some (by kernel_rfl))⟩
  f27 := ⟨Tryz.f315.name, by decide, Tryz.func315.trans (congrArg some (by kernel_rfl))⟩
  f28 := ⟨Tryz.f316.name, by decide, Tryz.func316.trans (congrArg some (by kernel_rfl))⟩
  f29 := ⟨Tryz.f317.name, by decide, Tryz.func317.trans (congrArg some (by kernel_rfl))⟩
  f31 := Tryz.func238.trans (congrArg some (by kernel_rfl))
  f32 := Tryz.func239.trans (congrArg some (by kernel_rfl))
  f36 := ⟨Tryz.f364.name, by decide, Tryz.func364.trans (congrArg some (by kernel_rfl))⟩
  f37 := ⟨Tryz.f365.name, by decide, Tryz.func365.trans (congrArg some (by kernel_rfl))⟩
  f38 := ⟨Tryz.f366.name, by decide, Tryz.func366.trans (congrArg some (by kernel_rfl))⟩
  f39 := ⟨Tryz.f242.name, by decide, Tryz.func242.trans (congrArg some (by kernel_rfl))⟩
  f41 := ⟨Tryz.f385.name, by decide, Tryz.func385.trans (congrArg some (by kernel_rfl))⟩
  t0 := Tryz.underlying0
  a0 := Tryz.isAgg0
  z0 := Tryz.sizeOf0
  v0 := Tryz.zeroValue0
  t3 := Tryz.underlying3
  a3 := Tryz.isAgg3
  z3 := Tryz.sizeOf3
  v3 := Tryz.zeroValue3
  t4 := Tryz.underlying4
  a4 := Tryz.isAgg4
  z4 := Tryz.sizeOf4
  v4 := Tryz.zeroValue4
  t5 := Tryz.underlying5
  a5 := Tryz.isAgg5
  z5 := Tryz.sizeOf5
  v5 := Tryz.zeroValue5
  t9 := Tryz.underlying9
  a9 := Tryz.isAgg9
  z9 := Tryz.sizeOf9
  v9 := Tryz.zeroValue9
  t26 := Tryz.underlying32
  a26 := Tryz.isAgg32
  z26 := Tryz.sizeOf32
  v26 := Tryz.zeroValue32
  t27 := Tryz.underlying32
  a27 := Tryz.isAgg32
  z27 := Tryz.sizeOf32
  v27 := Tryz.zeroValue32
  t29 := Tryz.underlying9
  a29 := Tryz.isAgg9
  z29 := Tryz.sizeOf9
  v29 := Tryz.zeroValue9
  t32 := Tryz.underlying66
  a32 := Tryz.isAgg66
  z32 := Tryz.sizeOf66
  v32 := Tryz.zeroValue66
  t35 := Tryz.underlying249
  a35 := Tryz.isAgg249
  z35 := Tryz.sizeOf249
  v35 := Tryz.zeroValue249
  t36 := Tryz.underlying250
  a36 := Tryz.isAgg250
  z36 := Tryz.sizeOf250
  v36 := Tryz.zeroValue250
  t41 := Tryz.underlying198
  a41 := Tryz.isAgg198
  z41 := Tryz.sizeOf198
  v41 := Tryz.zeroValue198
  t44 := Tryz.underlying256
  a44 := Tryz.isAgg256
  z44 := Tryz.sizeOf256
  v44 := Tryz.zeroValue256
  t46 := Tryz.underlying204
  a46 := Tryz.isAgg204
  z46 := Tryz.sizeOf204
  v46 := Tryz.zeroValue204
  t53 := Tryz.underlying352
  a53 := Tryz.isAgg352
  z53 := Tryz.sizeOf352
  v53 := Tryz.zeroValue352
  t57 := Tryz.underlying356
  a57 := Tryz.isAgg356
  z57 := Tryz.sizeOf356
  v57 := Tryz.zeroValue356
  t63 := Tryz.underlying422
  a63 := Tryz.isAgg422
  z63 := Tryz.sizeOf422
  v63 := Tryz.zeroValue422
  t64 := Tryz.underlying129
  a64 := Tryz.isAgg129
  z64 := Tryz.sizeOf129
  v64 := Tryz.zeroValue129 }
end Go.Proofs
namespace Go.Am
open Go Go.Proofs AM RowKit
set_option maxRecDepth 10000
theorem callsTo {P : Program} {f : FuncId} {xs : Array Value} {w : World} {h h' : Hp} {μ : Nat → Nat} {v : AV} {Q : Ending → World → Prop} (k : Calls P f xs w Q) (g : ∀ e w', Q e w' → Got h μ w v h' e w') : CallsIn Fence.wide 0 P f xs w (Got h μ w v h') :=
  callsIn_wide.2 (k.mono g)
theorem arg1 {h : Hp} {μ : Nat → Nat} {w : World} {a : AV} {xs : List Value} (r : VRs h μ w [a] xs) : ∃ x, xs = [x] ∧ VR h μ w a x := by
  match xs, r, r.1 with
  | [x], r, _ => exact ⟨x, rfl, r.head⟩
theorem arg2 {h : Hp} {μ : Nat → Nat} {w : World} {a b : AV} {xs : List Value} (r : VRs h μ w [a, b] xs) : ∃ x y, xs = [x, y] ∧ VR h μ w a x ∧ VR h μ w b y := by
  match xs, r, r.1 with
  | [x, y], r, _ => exact ⟨x, y, rfl, r.head, r.tail.head⟩
section
variable {h h' : Hp} {μ : Nat → Nat} {w : World} {args : List AV} {xs : List Value} {v : AV}

/-! ### copyCheck -/
def ccSum : List AV → AM AV
  | [.ptr id ver off] => do
    let o ← AM.hget id
    AM.guard (Nat.beq o.ver ver && Nat.beq off 0)
    match o.body, o.ty with
    | .row esz [c, d] true, some t => do
      AM.guard (Nat.beq t 238 || Nat.beq t 240)
      match c with
      | .nilptr => do
        AM.hput id ver (.row esz [.ptr id ver 0, d] true)
        pure (.tuple [])
      | .ptr id2 ver2 off2 => do
        AM.guard (Nat.beq id2 id && Nat.beq ver2 ver && Nat.beq off2 0)
        pure (.tuple [])
      | _ => AM.fail
    | _, _ => AM.fail
  | _ => AM.fail
theorem cc_lies {t : Nat} (h : (Nat.beq t 238 || Nat.beq t 240) = true) : liesAt Tryz.prog Tryz.prog.depth t (2 / Tryz.prog.cellsOf t) 0 238 1 = true := by
  simp only [Bool.or_eq_true, Nat.beq_eq] at h
  rcases h with rfl | rfl <;> kernel_rfl
theorem cc_ok (e : (ccSum args).run h = some (v, h')) (s : SR h μ w) (r : VRs h μ w args xs) : CallsIn Fence.wide 0 Tryz.prog 287 xs.toArray w (Got h μ w v h') := by
  unfold ccSum at e
  split at e
  · rename_i id ver off
    obtain ⟨x, rfl, hx⟩ := arg1 r
    obtain ⟨o, h1, e1, e2⟩ := bind_some e
    obtain ⟨ho, rfl⟩ := hget_some e1
    obtain ⟨_, h3, e3, e4⟩ := bind_some e2
    obtain ⟨hg, rfl⟩ := guard_some e3
    simp only [Bool.and_eq_true, Nat.beq_eq] at hg
    obtain ⟨hv, rfl⟩ := hg
    obtain rfl := hx.ptr_live ho hv
    split at e4
    · rename_i esz c d t hbody hty
      obtain ⟨_, h5, e5, e6⟩ := bind_some e4
      obtain ⟨ht, rfl⟩ := guard_some e5
      obtain ⟨cs, ty', hw, hcs, hfix, hr⟩ := s.row ho hbody
      obtain ⟨cs2, fr, hw2⟩ := s.tys _ _ _ ho hty (by rw [hbody]; intro q; cases q)
      rw [hw] at hw2
      injection hw2 with hw2
      injection hw2 with c1 c2 c3
      subst c1 c2
      have hsz : cs.size = 2 := hfix rfl
      obtain ⟨l⟩ := cs
      obtain ⟨x0, x1, rfl⟩ : ∃ x0 x1, l = [x0, x1] := by
        match l, hsz with
        | [a, b], _ => exact ⟨a, b, rfl⟩
      have hr0 : VRs h5 μ w [c, d] [x0, x1] := hr
      have hsh : w.shape? (μ id) = some (ty', 2) := by simp [World.shape?, hw]
      have hcell : w.cell? ⟨μ id, 0, none⟩ = some x0 := by simp [World.cell?, hw]
      split at e6
      · obtain ⟨_, h7, e7, e8⟩ := bind_some e6
        obtain ⟨o2, ho2, hle, rfl⟩ := hput_some e7
        rw [ho] at ho2; cases ho2
        obtain ⟨rfl, rfl⟩ := pure_some e8
        have hx0 := hr0.head
        cases hx0
        have hh : ∀ c, c ≠ μ id → (w.setCell ⟨μ id, 0, none⟩ (.pointer (some ⟨μ id, 0, none⟩))).heap[c]? = w.heap[c]? := fun c hc => by
          show (w.heap.modify (μ id) _)[c]? = _
          rw [Array.getElem?_modify, if_neg (Ne.symm hc)]
        have hn : (w.setCell ⟨μ id, 0, none⟩ (.pointer (some ⟨μ id, 0, none⟩))).heap[μ id]? = some (.cells #[.pointer (some ⟨μ id, 0, none⟩), x1] ty' (0, 0)) := by
          show (w.heap.modify (μ id) _)[μ id]? = _
          rw [Array.getElem?_modify, if_pos rfl, hw]
          rfl
        have hz : (w.setCell ⟨μ id, 0, none⟩ (.pointer (some ⟨μ id, 0, none⟩))).heap.size = w.heap.size := by
          show (w.heap.modify (μ id) _).size = _
          simp
        obtain ⟨s1, st⟩ := s.put (w' := w.setCell ⟨μ id, 0, none⟩ (.pointer (some ⟨μ id, 0, none⟩))) (b := .row esz [.ptr id ver 0, d] true) ho hle (by rw [hbody]; rfl) hz hh hn
          ⟨_, ty', rfl, Nat.le_refl _, fun _ => rfl, VRs.cons (.ptr id ver 0 o ho hv) (VRs.cons hr0.tail.head .nil)⟩ (fun cs e hc => by rw [hw] at hc; cases hc; exact ⟨_, rfl, rfl⟩) rfl rfl rfl
        refine callsTo (cc_fresh (μ id) ty' w hcell hsh (cc_lies ht) (by simp [World.frozen?, hw])) fun e w' hq => ?_
        obtain ⟨rfl, rfl⟩ := hq
        exact ⟨μ, s1, st, .tuple [] [] rfl fun i h1 => absurd h1 (Nat.not_lt_zero _)⟩
      · obtain ⟨_, h7, e7, e8⟩ := bind_some e6
        obtain ⟨hg2, rfl⟩ := guard_some e7
        obtain ⟨rfl, rfl⟩ := pure_some e8
        simp only [Bool.and_eq_true, Nat.beq_eq] at hg2
        obtain ⟨⟨rfl, rfl⟩, rfl⟩ := hg2
        have hx0 := hr0.head.ptr_live ho hv
        subst hx0
        refine callsTo (cc_used _ w hcell) fun e w' hq => ?_
        obtain ⟨rfl, rfl⟩ := hq
        exact ⟨μ, s, Stp.refl _ _ _, .tuple [] [] rfl fun i h1 => absurd h1 (Nat.not_lt_zero _)⟩
      · cases e6
    · cases e4
  · cases e

/-! ### strings.Contains of one byte, strings.IndexByte -/
def containsSum19 : List AV → AM AV
  | [.str s, .str [c]] => pure (.bool (decide (0 ≤ Lib.indexByte s c)))
  | _ => AM.fail
def indexByteSum : List AV → AM AV
  | [.str s, .int .u8 n] => pure (.int .i64 (Lib.indexByte s n.toNat.toUInt8))
  | _ => AM.fail
theorem contains19_ok (e : (containsSum19 args).run h = some (v, h')) (s : SR h μ w) (r : VRs h μ w args xs) : CallsIn Fence.wide 0 Tryz.prog 292 xs.toArray w (Got h μ w v h') := by
  unfold containsSum19 at e
  split at e
  · obtain ⟨rfl, rfl⟩ := pure_some e
    obtain ⟨x, y, rfl, hx, hy⟩ := arg2 r
    cases hx with
    | str a _ ha =>
      cases hy with
      | str b _ hb =>
        obtain ⟨⟨l⟩⟩ := b
        simp only at hb
        subst hb
        refine callsTo (Tryz.strings_Contains_one a _ w) fun e w' hq => ?_
        obtain ⟨rfl, rfl⟩ := hq
        rw [ha]
        exact ⟨μ, s, Stp.refl _ _ _, .bool _⟩
  · cases e
theorem indexByte_ok (e : (indexByteSum args).run h = some (v, h')) (s : SR h μ w) (r : VRs h μ w args xs) : CallsIn Fence.wide 0 Tryz.prog 210 xs.toArray w (Got h μ w v h') := by
  unfold indexByteSum at e
  split at e
  · obtain ⟨rfl, rfl⟩ := pure_some e
    obtain ⟨x, y, rfl, hx, hy⟩ := arg2 r
    cases hx with
    | str a _ ha =>
      cases hy
      refine callsTo (Tryz.strings_IndexByte a _ w) fun e w' hq => ?_
      obtain ⟨rfl, rfl⟩ := hq
      rw [ha]
      exact ⟨μ, s, Stp.refl _ _ _, .int _ _⟩
  · cases e
end
end Go.Am
namespace Go.Am
open Go Go.Proofs Go.RowKit AM
set_option maxRecDepth 10000
theorem run_append_zeros {P : Program} {w : World} {t u ty el n : Nat} {i : TypeInfo} {z : Value} (ht : P.underlying t = some (.slice el)) (hu : P.underlying u = some (.int .i64)) (hi : P.info? el = some i) (hz : i.zero = some z)
    (hn : 0 < n) (hb0 : i.bytes ≠ 0) (hs0 : i.size ≠ 0) (hbytes : n * i.bytes ≤ 140737488355328) (h63 : n < 9223372036854775808) :
    (Builtin.append_ #[t, u] ty #[.slice none 0 0, .int .i64 (n : Int)]).run P w =
      .ok (.slice (some ⟨w.heap.size, 0, none⟩) n (grownCap w n 0 el)) (w.drew.alloc (.cells (Builtin.zeroCells z.cells n ++ Builtin.zeroCells z.cells (grownCap w n 0 el - n)) el)) := by
  have hfit := growslice_fits (old := 0) (need := n) (by omega) hbytes
  have hno : ¬ n ≤ 0 := by omega
  have hfit' : ¬ (Builtin.nextslicecap n 0 * i.bytes > 2 ^ 48) := by omega
  have hw : IntKind.wrap .i64 (n : Int) = (n : Int) := by rw [IntKind.wrap_i64]; omega
  have hnn : ¬ ((n : Int) < 0) := by omega
  have hb : ¬ ((n : Int) * (i.bytes : Int) > 2 ^ 48) := by
    rw [← Int.natCast_mul, show (2 : Int) ^ 48 = 281474976710656 from rfl]
    omega
  simp [Builtin.append_, run_underlying ht, run_underlying hu, run_sizeOf' hi, run_typeInfo' hi, asInt, hw, hnn, hb, hno, hb0, hfit', run_zeroValue' hi hz, newRow, Builtin.firstCells, hs0, asIntOf]
  have hb' : ¬ ((281474976710656 : Int) < (n : Int) * (i.bytes : Int)) := hb
  have hn0 : n ≠ 0 := by omega
  have h63' : ¬ ((9223372036854775807 : Int) < (n : Int)) := by omega
  simp [hb', hn0, h63', Question.forced, grownCap]
  intro hc
  exact absurd hc (Nat.mul_ne_zero hn0 hs0)

theorem wpList_append_zeros {P : Program} {w : World} {ops : Array Oper} {rest : List Oper} {o : Oper} {a : Act} {Q : Exit → Act → World → Prop} (hgd : o.guard = none) (s x : Operand) (t u : TypeId)
    (ho : o.op = .call { callee := .builtin .append, args := #[s, x], argTypes := #[t, u] }) (el : TypeId) (i : TypeInfo) (z : Value) (ht : P.underlying t = some (.slice el)) (hu : P.underlying u = some (.int .i64)) (hi : P.info? el = some i) (hz : i.zero = some z)
    (n : Nat) (hs : a.eval s = .slice none 0 0) (hx : a.eval x = .int .i64 (n : Int)) (hn : 0 < n) (hb0 : i.bytes ≠ 0) (hs0 : i.size ≠ 0) (hbytes : n * i.bytes ≤ 140737488355328) (h63 : n < 9223372036854775808)
    (h : wpList P ops Q rest (a.put o.dst (.slice (some ⟨w.heap.size, 0, none⟩) n (grownCap w n 0 el))) (w.drew.alloc (.cells (Builtin.zeroCells z.cells n ++ Builtin.zeroCells z.cells (grownCap w n 0 el - n)) el))) :
    wpList P ops Q (o :: rest) a w := by
  refine wpList_plain hgd fun K hK => ?_
  have hr := run_append_zeros (P := P) (w := w) (ty := o.type) ht hu hi hz hn hb0 hs0 hbytes h63
  unfold Oper.wp execOp
  simp only [ho, resolve, invoke, builtin, Sem.run_bind, Sem.run_pure, Result.andThen_ok, List.map_toArray, List.map_cons, List.map_nil, hs, hx, hr]
  exact hK _ _ h


set_option maxRecDepth 100000 in
theorem growB_any (n : Nat) (hn : 0 < n) (hb : n < 1099511627776) (w : World) :
    Calls Tryz.prog 269 #[.slice none 0 0, .int .i64 (n : Int)] w fun e w' => ∃ C, e = .returned (.slice (some ⟨w.heap.size, 0, none⟩) 0 C) ∧ n ≤ C ∧ w' = w.drew.alloc (.cells (Builtin.zeroCells #[.int .u8 0] n ++ Builtin.zeroCells #[.int .u8 0] (C - n)) 5) := by
  obtain ⟨i0, hi, hz0, hz1, hz2⟩ := info_parts (P := Tryz.prog) (e := 5) (z := .int .u8 0) (size := 1) (bytes := 1) (by kernel_rfl)
  have hge := grownCap_ge w n 0 5
  go_enter Tryz.func269, Tryz.ntmps269
  go_wp2_with (first
    | (at_builtin; refine wpList_append_zeros rfl _ _ 67 3 rfl 5 i0 (.int .u8 0) Tryz.underlying67 Tryz.underlying3 hi hz0 n rfl (by rfl) hn (by rw [hz2]; decide) (by rw [hz1]; decide) (by rw [hz2]; omega) (by omega) ?_)
    | go_in)
  go_ret
  exact ⟨_, rfl, hge, rfl⟩
def growBSum : List AV → AM AV
  | [.sl .nil 0 [], .int .i64 n] => do
    AM.guard (decide (0 < n) && decide (n < 1099511627776))
    let id ← AM.halloc (.row 1 (repeatCells [.int .u8 0] n.toNat) false)
    pure (.own id 0 0 0)
  | _ => AM.fail
theorem repeat_one (v : AV) : ∀ n, repeatCells [v] n = List.replicate n v
  | 0 => rfl
  | n + 1 => by simp only [repeatCells, repeat_one v n, List.replicate_succ]; rfl
theorem zeroCells_one (a : Value) (n : Nat) : Builtin.zeroCells #[a] n = Array.replicate n a := by
  apply Array.ext
  · simp [Builtin.zeroCells]
  · intro i h1 h2
    simp [Builtin.zeroCells, Nat.mod_one]
section
variable {h h' : Hp} {μ : Nat → Nat} {w : World} {args : List AV} {xs : List Value} {v : AV}
theorem growB_ok (e : (growBSum args).run h = some (v, h')) (s : SR h μ w) (r : VRs h μ w args xs) (F : Fresh h h') : CallsIn Fence.wide 0 Tryz.prog 269 xs.toArray w (Got h μ w v h') := by
  unfold growBSum at e
  split at e
  · rename_i n
    obtain ⟨_, h1, e1, e2⟩ := bind_some e
    obtain ⟨hg, rfl⟩ := guard_some e1
    obtain ⟨id, h2, e3, e4⟩ := bind_some e2
    obtain ⟨rfl, rfl⟩ := halloc_some e3
    obtain ⟨rfl, rfl⟩ := pure_some e4
    simp only [Bool.and_eq_true, decide_eq_true_eq] at hg
    obtain ⟨x, y, rfl, hx, hy⟩ := arg2 r
    cases hy
    cases hx with
    | sl _ _ _ A cap vals hn hnil =>
      obtain ⟨rfl, rfl⟩ := hnil rfl
      obtain ⟨m, rfl⟩ : ∃ m : Nat, n = (m : Int) := ⟨n.toNat, by omega⟩
      refine callsTo (growB_any m (by omega) (by omega) w) ?_
      rintro en w' ⟨C, rfl, hC, rfl⟩
      have hfr : h1.get h1.next = none := F _ (Nat.le_refl _) (Nat.lt_succ_self _)
      obtain ⟨s1, t1⟩ := s.drawn (w' := w.drew) rfl rfl rfl rfl
      have hz : Builtin.zeroCells #[Value.int .u8 0] m ++ Builtin.zeroCells #[Value.int .u8 0] (C - m) = (Array.replicate C (Value.int .u8 0)) := by
        rw [zeroCells_one, zeroCells_one, Array.replicate_append_replicate]
        congr 1; omega
      rw [hz]
      obtain ⟨s2, t2⟩ := s1.alloc hfr (.cells (Array.replicate C (Value.int .u8 0)) 5) (.row 1 (repeatCells [.int .u8 0] (m : Int).toNat) false) (by
        refine ⟨_, 5, rfl, ?_, fun c => (by cases c), ?_⟩
        · rw [repeat_one]; simp; omega
        · rw [repeat_one]
          simp only [List.length_replicate, Array.toList_replicate, List.take_replicate]
          refine ⟨by simp; omega, fun i h1 h2 => ?_⟩
          simp only [List.getElem_replicate]
          exact .int _ _)
      have hmu : upd μ h1.next w.drew.heap.size h1.next = w.heap.size := by simp [upd]
      refine ⟨_, s2, t1.trans t2, ?_⟩
      refine .own _ _ _ _ _ (get_set_eq _ _ _ _) rfl 1 (fun _ _ _ q => by cases q; rfl) _ C (Nat.zero_le _) fun _ => ⟨?_, Array.replicate C (.int .u8 0), 5, ?_, ?_⟩
      · rw [hmu]
      · rw [hmu]; exact World.alloc_heap_new _ _
      · simp
  · cases e

/-! ### strings.Join -/
def strsOf : List AV → Option (List (List UInt8))
  | [] => some []
  | c :: l => match c with
    | .str s => match strsOf l with
      | some k => some (s :: k)
      | none => none
    | _ => none
theorem strsOf_sim : ∀ {cells : List AV} {l : List (List UInt8)} {vals : List Value}, strsOf cells = some l → VRs h μ w cells vals → ∃ bs : List ByteArray, vals = bs.map Value.string ∧ bs.map (·.data.toList) = l
  | [], l, vals, e, r => by
    cases e
    exact ⟨[], List.eq_nil_of_length_eq_zero r.1.symm, rfl⟩
  | c :: cells, l, vals, e, r => by
    cases vals with
    | nil => have := r.1; simp at this
    | cons x vals =>
      simp only [strsOf] at e
      split at e
      · rename_i s
        cases h2 : strsOf cells with
        | none => rw [h2] at e; cases e
        | some k =>
          rw [h2] at e; cases e
          obtain ⟨bs, rfl, rfl⟩ := strsOf_sim h2 r.tail
          cases r.head with
          | str a _ ha => exact ⟨a :: bs, rfl, by rw [List.map_cons, ha]⟩
      · cases e
def joinSum : List AV → AM AV
  | [.own id ver off n, .str sep] => do
    let (esz, cells, _) ← rowOf id ver
    AM.guard (Nat.ble 1 n && Nat.ble (off + n) cells.length && Nat.ble n 140737488355328)
    let l ← AM.ofOption (strsOf ((cells.drop off).take n))
    AM.guard (Nat.ble (Lib.join l sep).length 140737488355328)
    pure (.str (Lib.join l sep))
  | _ => AM.fail
theorem join_ok (e : (joinSum args).run h = some (v, h')) (s : SR h μ w) (r : VRs h μ w args xs) : CallsIn Fence.wide 0 Tryz.prog 244 xs.toArray w (Got h μ w v h') := by
  unfold joinSum at e
  split at e
  · rename_i id ver off n sep
    obtain ⟨⟨esz, cells, fix⟩, h1, e1, e2⟩ := bind_some e
    obtain ⟨rfl, o, ho, hv, hbody⟩ := rowOf_some e1
    obtain ⟨_, h3, e3, e4⟩ := bind_some e2
    obtain ⟨hg, rfl⟩ := guard_some e3
    obtain ⟨l, h5, e5, e6⟩ := bind_some e4
    obtain ⟨hl, rfl⟩ := ofOption_some e5
    obtain ⟨_, h7, e7, e8⟩ := bind_some e6
    obtain ⟨hg2, rfl⟩ := guard_some e7
    obtain ⟨rfl, rfl⟩ := pure_some e8
    simp only [Bool.and_eq_true, Nat.ble_eq] at hg hg2
    obtain ⟨x, y, rfl, hx, hy⟩ := arg2 r
    obtain ⟨ad, cap, rfl, hcap, hex⟩ := hx.own_live ho hv hbody
    obtain ⟨rfl, _⟩ := hex (by omega)
    obtain ⟨cs, ty', hw, hcs, hfix, hr⟩ := s.row ho hbody
    obtain ⟨bs, hb1, hb2⟩ := strsOf_sim hl ((hr.drop off).take n)
    have hbl : bs.length = n := by
      have h1 := congrArg List.length hb1
      simp only [List.length_take, List.length_drop, List.length_map, Array.length_toList] at h1
      omega
    cases hy with
    | str a _ ha =>
      subst hbl
      have hat := (At.row (off := off) hw cells.length).take bs.length
      rw [hb1] at hat
      refine callsTo (Tryz.strings_Join (μ id) off cap bs a w (fun j x hj => ?_) ((Array.getElem?_eq_some_iff.1 hw).1) (by omega) hcap (by rw [hb2, ha]; exact hg2)) fun e w' hq => ?_
      · obtain ⟨hjl, rfl⟩ := List.getElem?_eq_some_iff.1 hj
        have := hat j (by simpa using hjl)
        rw [add_plain] at this
        rw [this]; simp
      · obtain ⟨rfl, hbw⟩ := hq
        obtain ⟨s1, st⟩ := s.below hbw
        rw [hb2, ha]
        exact ⟨μ, s1, st, .str _ _ rfl⟩
  · cases e
end
end Go.Am
namespace Go.Am
open Go Go.Proofs AM RowKit
set_option maxRecDepth 10000
def sumsB : Sums := addSum 269 growBSum (addSum 287 ccSum (addSum 292 containsSum19 (addSum 210 indexByteSum (addSum 244 joinSum sums0))))
theorem sumsB_ok : SumsOk Tryz.prog sumsB :=
  addSum_ok (addSum_ok (addSum_ok (addSum_ok (addSum_ok sums0_ok
    ⟨_, _, Tryz.func244, rfl⟩ fun args h h' v μ w xs e s r _ => join_ok e s r)
    ⟨_, _, Tryz.func210, rfl⟩ fun args h h' v μ w xs e s r _ => indexByte_ok e s r)
    ⟨_, _, Tryz.func292, rfl⟩ fun args h h' v μ w xs e s r _ => contains19_ok e s r)
    ⟨_, _, Tryz.func287, rfl⟩ fun args h h' v μ w xs e s r _ => cc_ok e s r)
    ⟨_, _, Tryz.func269, rfl⟩ fun args h h' v μ w xs e s r F => growB_ok e s r F
def polB : Pol := ⟨fun _ _ => false⟩
abbrev i (n : Int) : AV := .int .i64 n
abbrev b (n : Int) : AV := .int .u8 n
abbrev u (n : Int) : AV := .int .u64 n
abbrev w (n : Int) : AV := .int .u32 n
abbrev r (n : Int) : AV := .int .i32 n
abbrev tt : AV := .bool true
abbrev ff : AV := .bool false
abbrev un : AV := .undef
def bl (l : List Nat) : List UInt8 := l.map UInt8.ofNat
def st (l : List Nat) : AV := .str (l.map UInt8.ofNat)
end Go.Am
namespace Go.Am
open Go Go.Proofs Go.RowKit AM Go.Maps Go.Sort Go.Shelf
set_option maxRecDepth 10000
theorem _root_.Go.Proofs.Tryz.sorts104 (m : Nat) : AnyZ.SortsIn Tryz.prog Tryz.sorted104_ren Fence.wide m :=
  ⟨fun blk off cap ss W hH hblk hsz => callsIn_wide.2 (AnyM.slices_Sort_string Tryz.sort165 blk off cap ss W hH hblk hsz),
   fun p cap W => callsIn_wide.2 (AnyM.slices_Sort_string_none Tryz.sort165 p cap W)⟩
abbrev RU : Value → Option (DataW Unit × List MemPlace) := fun _ => some (.lit (.bool true), [])
set_option maxHeartbeats 1000000 in
theorem sorted_W (Bm b nn : Nat) (D0 : DataW Unit) (w : World) (hBm : Bm < w.heap.size) (hm : w.cell? ⟨Bm, 0, none⟩ = some (.map (some b))) (hown : w.ownsMap Tryz.prog 9 RU b nn D0) (hmax : Maps.size D0 ≤ maxLen) (hbytes : Maps.size D0 * 16 ≤ 140737488355328) :
    CallsIn Fence.wide 5 Tryz.prog 104 #[.func (.func 166) #[] #[.pointer (some ⟨Bm, 0, none⟩)]] w fun e w' => ∃ (v : Value) (ss : List (List UInt8)), e = .returned v ∧ ss.Perm (strKeys D0) ∧
      w'.ownsRow w.heap.size 9 1 v ss.length ((ss.mergeSort (fun x y => decide (x ≤ y))).map encStr) ∧ (v = .slice none 0 0 ↔ ss = []) ∧ Below w.heap.size w w' := by
  have hseq : SeqGives Fence.wide 2 Tryz.prog 166 #[.pointer (some ⟨Bm, 0, none⟩)] encStr (fun ss => ss.Perm (strKeys D0)) (Maps.size D0) w :=
    AnyZ.keys_gives (ρ := Tryz.keys105_ren) { Tryz.keys105 with } Fence.wide _ trivial rfl (by omega) Bm b nn D0 w hBm hm hown
  exact AnyZ.sorted_in Tryz.sorted104 Fence.wide 5 trivial trivial trivial trivial rfl (by omega) (Tryz.sorts104 _) (enters_of Tryz.func165 (by kernel_rfl) rfl) 166 #[.pointer (some ⟨Bm, 0, none⟩)] trivial (enters_of Tryz.func166 (by kernel_rfl) rfl) _ _ hmax hbytes _ hseq
/-! ### sorting, as the kernel likes it -/
def bleq : List UInt8 → List UInt8 → Bool
  | [], _ => true
  | a :: x, l => match l with
    | [] => false
    | b :: y => match Nat.blt a.toNat b.toNat with
      | true => true
      | false => match Nat.blt b.toNat a.toNat with
        | true => false
        | false => bleq x y
theorem bleq_is : ∀ x y : List UInt8, bleq x y = decide (x ≤ y)
  | [], y => by simp [bleq]
  | a :: x, [] => by simp [bleq]
  | a :: x, b :: y => by
    have ih := bleq_is x y
    have e : ((a :: x ≤ b :: y) ↔ (a < b ∨ a = b ∧ x ≤ y)) := List.cons_le_cons_iff
    simp only [bleq]
    cases h1 : Nat.blt a.toNat b.toNat with
    | true =>
      rw [Nat.blt_eq] at h1
      symm; simp only [decide_eq_true_eq]
      exact e.2 (.inl (UInt8.lt_iff_toNat_lt.2 h1))
    | false =>
      have h1' : ¬ a.toNat < b.toNat := by rw [← Nat.blt_eq, h1]; simp
      cases h2 : Nat.blt b.toNat a.toNat with
      | true =>
        rw [Nat.blt_eq] at h2
        symm; simp only [decide_eq_false_iff_not]
        intro q
        rcases e.1 q with q | q
        · exact h1' (UInt8.lt_iff_toNat_lt.1 q)
        · rw [q.1] at h2; omega
      | false =>
        have h2' : ¬ b.toNat < a.toNat := by rw [← Nat.blt_eq, h2]; simp
        have hab : a = b := UInt8.toNat_inj.1 (by omega)
        subst hab
        simp only [ih]
        congr 1
        exact propext ⟨fun q => e.2 (.inr ⟨rfl, q⟩), fun q => by
          rcases e.1 q with q | q
          · exact absurd (UInt8.lt_iff_toNat_lt.1 q) (Nat.lt_irrefl _)
          · exact q.2⟩
def insB (s : List UInt8) : List (List UInt8) → List (List UInt8)
  | [] => [s]
  | t :: l => match bleq s t with
    | true => s :: t :: l
    | false => t :: insB s l
def isortB : List (List UInt8) → List (List UInt8)
  | [] => []
  | s :: l => insB s (isortB l)
theorem insB_perm (s : List UInt8) : ∀ l, (insB s l).Perm (s :: l)
  | [] => List.Perm.refl _
  | t :: l => by
    simp only [insB]
    cases bleq s t with
    | true => exact List.Perm.refl _
    | false => exact ((insB_perm s l).cons t).trans (List.Perm.swap _ _ _)
theorem isortB_perm : ∀ l, (isortB l).Perm l
  | [] => List.Perm.refl _
  | s :: l => (insB_perm s _).trans ((isortB_perm l).cons s)
theorem insB_sorted (s : List UInt8) : ∀ l, l.Pairwise (fun a b => leB a b = true) → (insB s l).Pairwise (fun a b => leB a b = true)
  | [], _ => by simp [insB]
  | t :: l, h => by
    obtain ⟨h1, h2⟩ := List.pairwise_cons.1 h
    simp only [insB]
    cases hq : bleq s t with
    | true =>
      rw [bleq_is] at hq
      simp only [decide_eq_true_eq] at hq
      refine List.pairwise_cons.2 ⟨fun x hx => ?_, h⟩
      rcases List.mem_cons.1 hx with rfl | hx
      · simpa [leB] using hq
      · have := h1 x hx
        simp only [leB, decide_eq_true_eq] at this ⊢
        exact List.le_trans hq this
    | false =>
      rw [bleq_is] at hq
      simp only [decide_eq_false_iff_not] at hq
      refine List.pairwise_cons.2 ⟨fun x hx => ?_, insB_sorted s l h2⟩
      rcases List.mem_cons.1 ((insB_perm s l).mem_iff.1 hx) with rfl | hx
      · simp only [leB, decide_eq_true_eq]
        exact (List.le_total x t).resolve_left hq
      · exact h1 x hx
theorem isortB_sorted : ∀ l, (isortB l).Pairwise (fun a b => leB a b = true)
  | [] => List.Pairwise.nil
  | s :: l => insB_sorted s _ (isortB_sorted l)
theorem isortB_is (l : List (List UInt8)) : isortB l = l.mergeSort leB := by
  rw [← mergeSort_of_perm (isortB_perm l)]
  exact (List.mergeSort_of_pairwise (isortB_sorted l)).symm
theorem bytesEq_refl : ∀ l : List UInt8, bytesEq l l = true
  | [] => rfl
  | a :: l => by simp [bytesEq, bytesEq_refl l]
def nodupB : List (List UInt8) → Bool
  | [] => true
  | x :: r => match r.all fun y => !(bytesEq x y) with
    | true => nodupB r
    | false => false
theorem nodupB_s : ∀ {l : List (List UInt8)}, nodupB l = true → l.Nodup
  | [], _ => List.nodup_nil
  | x :: r, h => by
    simp only [nodupB] at h
    cases hq : r.all fun y => !(bytesEq x y) with
    | false => rw [hq] at h; cases h
    | true =>
      rw [hq] at h
      refine List.nodup_cons.2 ⟨fun hx => ?_, nodupB_s h⟩
      have := List.all_eq_true.1 hq x hx
      simp [bytesEq_refl] at this
def sortedSum : List AV → AM AV
  | [.func (.func g) [] [.ptr id ver off]] => do
    let (_, cells, _) ← rowOf id ver
    AM.guard (Nat.beq off 0 && Nat.beq g 166)
    match cells with
    | [.mapv m] => do
      let es ← mapOf m
      let l ← AM.ofOption (strsOf (es.map (·.1)))
      AM.guard (nodupB l && Nat.ble l.length 1000 && l.all (fun s => Nat.ble s.length 1000))
      match l with
      | [] => pure (.sl .nil 0 [])
      | _ => pure (.sl .any l.length ((isortB l).map .str))
    | _ => AM.fail
  | _ => AM.fail
section
variable {h h' : Hp} {μ : Nat → Nat} {w : World} {args : List AV} {xs : List Value} {v : AV}
theorem sorted_ok (e : (sortedSum args).run h = some (v, h')) (s : SR h μ w) (r : VRs h μ w args xs) : CallsIn Fence.wide 0 Tryz.prog 104 xs.toArray w (Got h μ w v h') := by
  unfold sortedSum at e
  split at e
  · rename_i g id ver off
    obtain ⟨⟨esz, cells, fix⟩, h1, e1, e2⟩ := bind_some e
    obtain ⟨rfl, o, ho, hv, hbody⟩ := rowOf_some e1
    obtain ⟨_, h3, e3, e4⟩ := bind_some e2
    obtain ⟨hg, rfl⟩ := guard_some e3
    simp only [Bool.and_eq_true, Nat.beq_eq] at hg
    obtain ⟨rfl, rfl⟩ := hg
    split at e4
    · rename_i m
      obtain ⟨es, h5, e5, e6⟩ := bind_some e4
      obtain ⟨rfl, om, hom, hmb⟩ := mapOf_some e5
      obtain ⟨l, h7, e7, e8⟩ := bind_some e6
      obtain ⟨hl, rfl⟩ := ofOption_some e7
      obtain ⟨_, h9, e9, e10⟩ := bind_some e8
      obtain ⟨hg2, rfl⟩ := guard_some e9
      simp only [Bool.and_eq_true, decide_eq_true_eq, Nat.ble_eq, List.all_eq_true] at hg2
      obtain ⟨⟨hnd0, hlen⟩, hsz⟩ := hg2
      have hnd := nodupB_s hnd0
      rw [isortB_is] at e10
      obtain ⟨x, rfl, hx⟩ := arg1 r
      cases hx with
      | func _ _ _ vf vc hl1 hl2 hr1 hr2 =>
      obtain rfl : vf = [] := List.eq_nil_of_length_eq_zero hl1.symm
      obtain ⟨p, rfl⟩ : ∃ p, vc = [p] := List.length_eq_one_iff.1 hl2.symm
      obtain rfl := (hr2 0 (by simp) (by simp)).ptr_live ho hv
      obtain ⟨cs, ty', hw, hcs, hfix, hr⟩ := s.row ho hbody
      obtain ⟨y, ys, hcl⟩ : ∃ y ys, cs.toList = y :: ys := by
        cases hq : cs.toList with
        | nil =>
          have h0 : cs.size = 0 := by rw [← Array.length_toList, hq]; rfl
          simp at hcs
          omega
        | cons y ys => exact ⟨y, ys, rfl⟩
      rw [hcl] at hr
      obtain rfl := VR.map_live (VRs.head hr)
      have hcell : w.cell? ⟨μ id, 0, none⟩ = some (.map (some (μ m))) := by
        simp only [World.cell?, hw]
        have : cs[0]? = some (.map (some (μ m))) := by rw [← Array.getElem?_toList, hcl]; rfl
        simpa using this
      obtain ⟨obj, hmw, hor⟩ := s.blk m om hom
      rw [hmb] at hor
      obtain ⟨ms, clock, rfl, hk, _, hborn⟩ := hor
      obtain ⟨bs, hb1, hb2⟩ := strsOf_sim hl hk
      have hkey : ∀ x ∈ ms.toList, ∃ b : ByteArray, x.key = .string b ∧ b ∈ bs := fun x hx => by
        have : x.key ∈ ms.toList.map (·.key) := List.mem_map_of_mem hx
        rw [hb1] at this
        obtain ⟨b, hb, he⟩ := List.mem_map.1 this
        exact ⟨b, he.symm, hb⟩
      have hbsz : ∀ b ∈ bs, b.size ≤ 1000 := fun b hb => by
        have := hsz b.data.toList (by rw [← hb2]; exact List.mem_map_of_mem hb)
        simpa using this
      have hrd : ∀ x ∈ ms.toList, ∃ b : ByteArray, x.key = .string b ∧ Go.WideElems.rd Tryz.prog 9 RU x = some (.string b.data.toList, .lit (.bool true)) := fun x hx => by
        obtain ⟨b, hb, hbm⟩ := hkey x hx
        refine ⟨b, hb, ?_⟩
        have hm1 : b.size ≤ maxLen := by have := hbsz b hbm; unfold maxLen; omega
        simp [Go.WideElems.rd, keyOf, Tryz.underlying9, mapKey, hb, hm1]
      have hbnd : bs.Nodup := List.Pairwise.of_map (S := fun x y : List UInt8 => x ≠ y) (fun b : ByteArray => b.data.toList) (fun a b q e => q (by rw [e])) (by rw [hb2]; exact hnd)
      have hms : ms.size = l.length := by
        have h1 := congrArg List.length hb1
        have h2 := congrArg List.length hb2
        simp at h1 h2
        omega
      have hfit : Go.WideElems.Fit Tryz.prog 9 RU ms clock := by
        refine ⟨by rw [hms]; unfold maxLen; omega, ⟨hborn.2, hborn.1, ?_⟩, fun x hx => ?_⟩
        · rw [hb1]
          exact List.Pairwise.map _ (fun a b hne q => hne (by injection q)) hbnd
        · obtain ⟨b, _, h2⟩ := hrd x hx; exact ⟨_, h2⟩
      have hown : w.ownsMap Tryz.prog 9 RU (μ m) ms.size (.map ((ms.toList.map (Go.WideElems.rg Tryz.prog 9 RU)).foldr DataW.insert [])) := ⟨ms, clock, hmw, hfit, Nat.le_refl _, rfl⟩
      have hperm : (strKeys (.map ((ms.toList.map (Go.WideElems.rg Tryz.prog 9 RU)).foldr DataW.insert []) : DataW Unit)).Perm l := by
        show (((ms.toList.map (Go.WideElems.rg Tryz.prog 9 RU)).foldr DataW.insert []).map fun p => strOf p.1).Perm l
        refine ((Go.WideShapes.sorted_perm _).map _).trans ?_
        rw [List.map_map, ← hb2]
        have : ms.toList.map ((fun p => strOf p.1) ∘ Go.WideElems.rg Tryz.prog 9 RU) = (ms.toList.map (·.key)).map (fun k => match k with | .string b => b.data.toList | _ => []) := by
          rw [List.map_map]
          refine List.map_congr_left fun x hx => ?_
          obtain ⟨b, h1, h2⟩ := hrd x hx
          simp only [Function.comp, Go.WideElems.rg_of h2, h1, strOf]
        rw [this, hb1, List.map_map]
        exact List.Perm.refl _
      have hsize : Maps.size (.map ((ms.toList.map (Go.WideElems.rg Tryz.prog 9 RU)).foldr DataW.insert []) : DataW Unit) = l.length := by
        have := hperm.length_eq
        simpa [strKeys, Maps.size] using this
      refine CallsIn.mono (callsIn_wide.2 ((callsIn_wide (n := 5)).1 (sorted_W (μ id) (μ m) _ _ w ((Array.getElem?_eq_some_iff.1 hw).1) hcell hown (by rw [hsize]; unfold maxLen; omega) (by rw [hsize]; omega)))) fun en w' hq => ?_
      obtain ⟨vv, ss, rfl, hss, hrow, hnil, hbw⟩ := hq
      obtain ⟨s1, st⟩ := s.below hbw
      have hp2 := hss.trans hperm
      have hms2 : ss.mergeSort (fun x y => decide (x ≤ y)) = l.mergeSort leB := mergeSort_of_perm hp2
      have hsl : ss.length = l.length := hp2.length_eq
      rw [hms2] at hrow
      refine ⟨μ, ?_⟩
      split at e10
      · obtain ⟨rfl, rfl⟩ := pure_some e10
        have : ss = [] := List.eq_nil_of_length_eq_zero hsl
        obtain rfl := hnil.2 this
        refine ⟨s1, st, .sl .nil 0 [] none 0 [] (Nat.le_refl _) (fun _ => ⟨rfl, rfl⟩) (fun q => by cases q) (fun q => by cases q) (fun q => absurd q (Nat.lt_irrefl 0)) (fun _ q => by cases q) rfl (fun q => absurd rfl q) (fun _ q => by cases q) (fun i h1 => absurd h1 (Nat.not_lt_zero _))⟩
      · rename_i hne
        obtain ⟨rfl, rfl⟩ := pure_some e10
        refine ⟨s1, st, ?_⟩
        have hln : l ≠ [] := hne
        rcases hrow.2 with ⟨hvv, h0⟩ | ⟨gg, cap, cur, rfl, hge, hgw, hnc, hcm, hcz, htake⟩
        · exact absurd (List.eq_nil_of_length_eq_zero (by omega)) hln
        · have hlm : (l.mergeSort leB).length = l.length := (List.mergeSort_perm l leB).length_eq
          rw [hsl] at hnc htake ⊢
          refine .sl .any l.length _ (some ⟨gg, 0, none⟩) cap ((l.mergeSort leB).map encStr) hnc (fun q => by cases q) (fun q => by cases q) (fun q => by cases q) (fun _ => rfl) (fun ad ha _ => ?_) (by simp) (fun _ => rfl) (fun ad ha i hi => ?_) (fun i h1 h2 => ?_)
          · cases ha
            refine ⟨fun ⟨i, o2, hi, hm⟩ => ?_, (Array.getElem?_eq_some_iff.1 hgw).1⟩
            obtain ⟨x, hx1, _⟩ := s.blk i o2 hi
            have := (Array.getElem?_eq_some_iff.1 hx1).1
            have hm' : μ i = gg := hm
            omega
          · cases ha
            rw [add_plain]
            simp only [World.cell?, hgw]
            have hi' : i < l.length := by simpa [hlm] using hi
            have h1 : (cur.toList.take (l.length * 1))[i]? = some ((l.mergeSort leB).map encStr)[i] := by rw [htake]; exact List.getElem?_eq_getElem hi
            rw [List.getElem?_take] at h1
            split at h1
            · simpa using h1
            · cases h1
          · rw [List.getElem_map, List.getElem_map]
            exact .str _ _ rfl
    · cases e4
  · cases e
end
end Go.Am
namespace Go.Proofs.Once
set_option maxRecDepth 100000
open Go
theorem disable (w : World) : (callFunc 395 #[]).run Tryz.prog w = .ok (.value (.tuple #[])) w := run_call_mark0 Tryz.func395 (by kernel_rfl) (by kernel_rfl) (by kernel_rfl) .disable (by kernel_rfl) w
theorem enable (w : World) : (callFunc 397 #[]).run Tryz.prog w = .ok (.value (.tuple #[])) w := run_call_mark0 Tryz.func397 (by kernel_rfl) (by kernel_rfl) (by kernel_rfl) .enable (by kernel_rfl) w
theorem acquire (a : Addr) (w : World) : (callFunc 398 #[.pointer (some a)]).run Tryz.prog w = .ok (.value (.tuple #[])) w := run_call_marked Tryz.func398 (by kernel_rfl) (by kernel_rfl) (by kernel_rfl) .acquire (by kernel_rfl) a w
theorem releaseMerge (a : Addr) (w : World) : (callFunc 400 #[.pointer (some a)]).run Tryz.prog w = .ok (.value (.tuple #[])) w := run_call_marked Tryz.func400 (by kernel_rfl) (by kernel_rfl) (by kernel_rfl) .releaseMerge (by kernel_rfl) a w
theorem store_deferred (a : Addr) (x : Value) (u : FrameMode) (w : World) (hc : w.cell? a = some x) (hz : w.frozen? a = false) :
    CallsD Tryz.prog 358 #[.pointer (some a), .bool true] u w fun e u' w' => u' = u ∧ (e = .returned (.tuple #[]) ∧ w' = w.drew.setCell a (.int .u32 1)) := by
  have hc' : w.drew.cell? a = some x := by go_simp
  have hz' : w.drew.frozen? a = false := by go_simp
  have hst := run_call_store (P := Tryz.prog) Tryz.func381 (by kernel_rfl) (by kernel_rfl) (by kernel_rfl) (by kernel_rfl) (k := .u32) (y := 1) hc' hz'
  go_enter_d Tryz.func358, Tryz.ntmps358
  go_wp2
  go_region_calls
  all_goals (go_end0; exact ⟨rfl, rfl⟩)
theorem unlock_deferred (a : Addr) (u : FrameMode) (w : World) (hc : w.cell? a = some (.int .i32 1)) (hz : w.frozen? a = false) :
    CallsD Tryz.prog 357 #[.pointer (some a)] u w fun e u' w' => u' = u ∧ (e = .returned (.tuple #[]) ∧ w' = w.setCell a (.int .i32 0)) := by
  have hd := disable
  have he := enable
  have hr := releaseMerge
  have hadd := run_call_add (P := Tryz.prog) Tryz.func401 (by kernel_rfl) (by kernel_rfl) (by kernel_rfl) .i32 (by kernel_rfl) (y := -1) (s := 0) hc hz (by simp [go_sem]; rfl)
  have hcv := run_convert_to_unsafe (P := Tryz.prog) (src := 512) (dst := 452) Tryz.underlying512 Tryz.underlying452 (by kernel_rfl) hc
  go_enter_d Tryz.func357, Tryz.ntmps357
  go_wp2
  go_end0
  go_wp2
  go_end0
  exact ⟨rfl, rfl⟩
theorem lock_free (a : Addr) (w : World) (hc : w.cell? a = some (.int .i32 0)) (hz : w.frozen? a = false) :
    Calls Tryz.prog 356 #[.pointer (some a)] w fun e w' => e = .returned (.tuple #[]) ∧ w' = w.setCell a (.int .i32 1) := by
  have hd := disable
  have he := enable
  have ha := acquire
  have hcas := run_call_cas_hit (P := Tryz.prog) Tryz.func396 (by kernel_rfl) (by kernel_rfl) (by kernel_rfl) .i32 (by kernel_rfl) (y := 1) hc hz
  have hc' : (w.setCell a (.int .i32 1)).cell? a = some (.int .i32 1) := World.cell?_setCell_same w a _ hc
  have hcv := run_convert_to_unsafe (P := Tryz.prog) (src := 512) (dst := 452) Tryz.underlying512 Tryz.underlying452 (by kernel_rfl) hc'
  go_enter Tryz.func356, Tryz.ntmps356
  go_wp2
  first | go_end0 | (simp only [Exit.inBlock, Exit.then]; refine bodyPost_ret (results_none rfl _ _ _) rfl ?_) | refine bodyPost_ret (results_none rfl _ _ _) rfl ?_
  go_wp2
  go_end0
  exact ⟨rfl, rfl⟩
set_option maxRecDepth 100000 in
set_option maxHeartbeats 1600000 in
theorem slow_any (b off : Nat) (g : FuncId) (vf vc : Array Value) (w : World) (R : World → Prop)
    (h0 : w.cell? ⟨b, off, none⟩ = some (.int .u32 0)) (h1 : w.cell? ⟨b, off + 1, none⟩ = some (.int .i32 0))
    (f0 : w.frozen? ⟨b, off, none⟩ = false) (f1 : w.frozen? ⟨b, off + 1, none⟩ = false)
    (hg : Calls Tryz.prog g (vf ++ vc) (w.setCell ⟨b, off + 1, none⟩ (.int .i32 1)) fun e w' => e = .returned (.tuple #[]) ∧ R w')
    (hcf : ∀ w, (callFunc g (vf ++ vc)).run Tryz.prog w = .ok (.enter g (vf ++ vc)) w)
    (hR : ∀ w', R w' → w'.cell? ⟨b, off, none⟩ = some (.int .u32 0) ∧ w'.cell? ⟨b, off + 1, none⟩ = some (.int .i32 1) ∧ w'.frozen? ⟨b, off, none⟩ = false ∧ w'.frozen? ⟨b, off + 1, none⟩ = false) :
    Calls Tryz.prog 297 #[.pointer (some ⟨b, off, none⟩), .func (.func g) vf vc] w fun e w' => e = .returned (.tuple #[]) ∧
      ∃ w1, R w1 ∧ w' = (w1.drew.setCell ⟨b, off, none⟩ (.int .u32 1)).setCell ⟨b, off + 1, none⟩ (.int .i32 0) := by
  have hl := run_call_load (P := Tryz.prog) Tryz.func355 (by kernel_rfl) (by kernel_rfl) (by kernel_rfl) .u32 (by kernel_rfl) (w := w.setCell ⟨b, off + 1, none⟩ (.int .i32 1)) (a := ⟨b, off, none⟩) (x := 0) ((World.cell?_setCell_other _ ⟨b, off + 1, none⟩ ⟨b, off, none⟩ _ (by simp)).trans h0)
  have hnot : ∀ (x : Bool) (w : World), (Op.unary .not (.bool x)).run Tryz.prog w = .ok (.bool (!x)) w := fun _ _ => rfl
  go_enter_defers Tryz.func297, Tryz.ntmps297
  go_wp2_with (go_at_call 356; refine (lock_free ⟨b, off + 1, none⟩ _ (by go_simp) (by go_simp)).mono ?_; rintro e w' ⟨rfl, rfl⟩)
  go_wp2
  refine hg.mono ?_
  rintro e w1 ⟨rfl, hw1⟩
  obtain ⟨r0, r1, z0, z1⟩ := hR w1 hw1
  go_wp2
  -- the door
  refine leaves_cons (f := 358) (args := #[.pointer (some ⟨b, off, none⟩), .bool true]) (by simp) (by simp [go_sem]) ?_
  refine (store_deferred ⟨b, off, none⟩ (.int .u32 0) .returning _ r0 z0).mono ?_
  rintro e u' w'' ⟨rfl, rfl, rfl⟩
  refine leaves_cons (f := 357) (args := #[.pointer (some ⟨b, off + 1, none⟩)]) (by simp [settle]) (by simp [go_sem]) ?_
  refine (unlock_deferred ⟨b, off + 1, none⟩ _ _ ?_ (by simp [z1])).mono ?_
  · refine (World.cell?_setCell_other _ ⟨b, off, none⟩ ⟨b, off + 1, none⟩ _ (by simp)).trans ?_
    rw [World.cell?_drew]
    exact r1
  rintro e u' w'' ⟨rfl, rfl, rfl⟩
  simp [Leaves, settle, results, Tryz.results297]
  exact ⟨w1, hw1, rfl⟩
set_option maxHeartbeats 1600000 in
theorem do_first (b off : Nat) (g : FuncId) (vf vc : Array Value) (w : World) (R : World → Prop)
    (h0 : w.cell? ⟨b, off, none⟩ = some (.int .u32 0)) (h1 : w.cell? ⟨b, off + 1, none⟩ = some (.int .i32 0))
    (f0 : w.frozen? ⟨b, off, none⟩ = false) (f1 : w.frozen? ⟨b, off + 1, none⟩ = false)
    (hg : Calls Tryz.prog g (vf ++ vc) (w.setCell ⟨b, off + 1, none⟩ (.int .i32 1)) fun e w' => e = .returned (.tuple #[]) ∧ R w')
    (hcf : ∀ w, (callFunc g (vf ++ vc)).run Tryz.prog w = .ok (.enter g (vf ++ vc)) w)
    (hR : ∀ w', R w' → w'.cell? ⟨b, off, none⟩ = some (.int .u32 0) ∧ w'.cell? ⟨b, off + 1, none⟩ = some (.int .i32 1) ∧ w'.frozen? ⟨b, off, none⟩ = false ∧ w'.frozen? ⟨b, off + 1, none⟩ = false) :
    Calls Tryz.prog 221 #[.pointer (some ⟨b, off, none⟩), .func (.func g) vf vc] w fun e w' => e = .returned (.tuple #[]) ∧
      ∃ w1, R w1 ∧ w' = (w1.drew.setCell ⟨b, off, none⟩ (.int .u32 1)).setCell ⟨b, off + 1, none⟩ (.int .i32 0) := by
  have hl := run_call_load (P := Tryz.prog) Tryz.func355 (by kernel_rfl) (by kernel_rfl) (by kernel_rfl) .u32 (by kernel_rfl) h0
  have hnot : ∀ (x : Bool) (w : World), (Op.unary .not (.bool x)).run Tryz.prog w = .ok (.bool (!x)) w := fun _ _ => rfl
  go_enter Tryz.func221, Tryz.ntmps221
  go_wp2_with (first | (go_at_call 297; refine (slow_any b off g vf vc _ R h0 h1 f0 f1 hg hcf hR).mono ?_; rintro e w' ⟨rfl, w1, hw1, rfl⟩) | (go_at_call 296; go_in))
  go_end0
  exact ⟨rfl, w1, hw1, rfl⟩
end Go.Proofs.Once
namespace Go.Am
open Go Go.Proofs AM Go.RowKit
set_option maxRecDepth 10000
theorem VRs.set {h : Hp} {μ : Nat → Nat} {w : World} {l : List AV} {xs : List Value} (r : VRs h μ w l xs) {v : AV} {x : Value} (hv : VR h μ w v x) (k : Nat) : VRs h μ w (l.set k v) (xs.set k x) := by
  refine ⟨by simp [r.1], fun i h1 h2 => ?_⟩
  rw [List.getElem_set, List.getElem_set]
  split
  · exact hv
  · exact r.2 i _ _
theorem sr_set1 {h : Hp} {μ : Nat → Nat} {w : World} (s : SR h μ w) {id : Nat} {o : AObj} {esz : Nat} {cells : List AV} {fix : Bool} (ho : h.get id = some o) (hb : o.body = .row esz cells fix) {k : Nat} {v : AV} {x : Value} (r : VR h μ w v x) :
    SR ⟨h.obj.set id (some ⟨o.ver, o.stamp + 1, .row esz (cells.set k v) fix, o.ty⟩), h.next⟩ μ (w.setCell ⟨μ id, k, none⟩ x) ∧
    Stp h μ w ⟨h.obj.set id (some ⟨o.ver, o.stamp + 1, .row esz (cells.set k v) fix, o.ty⟩), h.next⟩ μ (w.setCell ⟨μ id, k, none⟩ x) := by
  obtain ⟨cs, ty, hw, hle, hfix, hr⟩ := s.row ho hb
  have hobj : (w.setCell ⟨μ id, k, none⟩ x).heap[μ id]? = some (.cells (cs.setIfInBounds k x) ty (0, 0)) := by
    simp [World.setCell, Array.getElem?_modify, hw]
  refine s.put ho (Nat.le_refl _) (by rw [hb]; rfl) (by simp [World.setCell]) (fun c hc => ?_) hobj ?_ (fun cs2 e2 hc => ?_) rfl rfl rfl
  · simp only [World.setCell, Array.getElem?_modify]
    rw [if_neg (fun e => hc e.symm)]
  · refine ⟨_, ty, rfl, by simpa using hle, fun hf => by simpa using hfix hf, ?_⟩
    have := hr.set r k
    rw [List.length_set]
    rw [Array.toList_setIfInBounds, List.take_set]
    exact this
  · rw [hw] at hc
    injection hc with hc
    injection hc with c1 c2
    subst c1 c2
    exact ⟨_, rfl, by simp⟩
/-- a cell that is told, in the world -/
theorem sr_cellAt {h : Hp} {μ : Nat → Nat} {w : World} (s : SR h μ w) {id : Nat} {o : AObj} {esz : Nat} {cells : List AV} {fix : Bool} (ho : h.get id = some o) (hb : o.body = .row esz cells fix) {k : Nat} {v : AV} (hk : cells[k]? = some v) :
    ∃ x, w.cell? ⟨μ id, k, none⟩ = some x ∧ VR h μ w v x ∧ w.frozen? ⟨μ id, k, none⟩ = false := by
  obtain ⟨cs, ty, hw, hle, hfix, hr⟩ := s.row ho hb
  obtain ⟨hlt, rfl⟩ := List.getElem?_eq_some_iff.1 hk
  have h2 : k < (cs.toList.take cells.length).length := by rw [← hr.1]; exact hlt
  refine ⟨(cs.toList.take cells.length)[k], ?_, hr.2 k hlt h2, ?_⟩
  · simp only [World.cell?, hw]
    have h3 : k < cs.size := by omega
    simp [h3]
  · simp only [World.frozen?, hw]
    simp
theorem args2 {h : Hp} {μ : Nat → Nat} {w : World} {a b : AV} {xs : List Value} (r : VRs h μ w [a, b] xs) : ∃ x y, xs = [x, y] ∧ VR h μ w a x ∧ VR h μ w b y := by
  match xs, r with
  | [x, y], r => exact ⟨x, y, rfl, r.2 0 (by simp) (by simp), r.2 1 (by simp) (by simp)⟩
  | [], r => have := r.1; simp at this
  | [_], r => have := r.1; simp at this
  | _ :: _ :: _ :: _, r => have := r.1; simp at this
def cellIs (k : IntKind) (n : Int) : Option AV → Bool
  | some (.int k' m) => decide (k = k') && decide (n = m)
  | _ => false
theorem cellIs_s {k : IntKind} {n : Int} {v : Option AV} (h : cellIs k n v = true) : v = some (.int k n) := by
  unfold cellIs at h
  split at h
  · simp only [Bool.and_eq_true, decide_eq_true_eq] at h
    rw [h.1, h.2]
  · cases h
def onceSum (P : Program) (pol : Pol) (sums : Sums) (n : Nat) (args : List AV) : AM AV :=
  match args with
  | [.ptr id ver off, .func (.func g) vf vc] => do
    let (esz, cells, fix) ← rowOf id ver
    AM.guard (cellIs .u32 0 cells[off]? && cellIs .i32 0 cells[off + 1]?)
    AM.hput id ver (.row esz (cells.set (off + 1) (.int .i32 1)) fix)
    let r ← acall P pol sums (n + 1) (.func (.func g) vf vc) []
    AM.guard (match r with | .tuple [] => true | _ => false)
    let (esz, cells, fix) ← rowOf id ver
    AM.guard (cellIs .u32 0 cells[off]? && cellIs .i32 1 cells[off + 1]?)
    AM.hput id ver (.row esz (cells.set off (.int .u32 1)) fix)
    AM.hput id ver (.row esz ((cells.set off (.int .u32 1)).set (off + 1) (.int .i32 0)) fix)
    pure (.tuple [])
  | _ => AM.fail
section
variable {pol : Pol} {sums : Sums} {n : Nat} {h h' : Hp} {μ : Nat → Nat} {w : World}
theorem once_ok (hs : SumsOk Tryz.prog sums) {args : List AV} {xs : List Value} {v : AV} (e : (onceSum Tryz.prog pol sums n args).run h = some (v, h')) (s : SR h μ w) (r : VRs h μ w args xs) (F : Fresh h h') : CallsIn Fence.wide 0 Tryz.prog 221 xs.toArray w (Got h μ w v h') := by
  have hc := acall_sound (pol := pol) progOk hs n
  have hreg := region_ok progOk hc (pol := pol)
  unfold onceSum at e
  split at e
  · rename_i id ver off g vf vc
    obtain ⟨⟨esz, cells, fix⟩, h1, e1, e2, F1, F2⟩ := bind_fresh e F
    obtain ⟨rfl, o, ho, hv, hb⟩ := rowOf_some e1
    obtain ⟨_, h2, e3, e4, F3, F4⟩ := bind_fresh e2 F2
    obtain ⟨hg, rfl⟩ := guard_some e3
    simp only [Bool.and_eq_true] at hg
    have c0 := cellIs_s hg.1
    have c1 := cellIs_s hg.2
    obtain ⟨_, h3, e5, e6, F5, F6⟩ := bind_fresh e4 F4
    obtain ⟨o2, ho2, hle, rfl⟩ := hput_some e5
    rw [ho] at ho2; cases ho2
    obtain ⟨rv, h4, e7, e8, F7, F8⟩ := bind_fresh e6 F6
    obtain ⟨_, h5, e9, e10, F9, F10⟩ := bind_fresh e8 F8
    obtain ⟨hgr, rfl⟩ := guard_some e9
    obtain ⟨⟨esz2, cells2, fix2⟩, h6, e11, e12, F11, F12⟩ := bind_fresh e10 F10
    obtain ⟨rfl, o3, ho3, hv3, hb3⟩ := rowOf_some e11
    obtain ⟨_, h7, e13, e14, F13, F14⟩ := bind_fresh e12 F12
    obtain ⟨hg2, rfl⟩ := guard_some e13
    simp only [Bool.and_eq_true] at hg2
    have c2 := cellIs_s hg2.1
    have c3 := cellIs_s hg2.2
    obtain ⟨_, h8, e15, e16, F15, F16⟩ := bind_fresh e14 F14
    obtain ⟨o4, ho4, hle4, rfl⟩ := hput_some e15
    rw [ho3] at ho4; cases ho4
    obtain ⟨_, h9, e17, e18⟩ := bind_some e16
    obtain ⟨o5, ho5, hle5, rfl⟩ := hput_some e17
    obtain ⟨rfl, rfl⟩ := pure_some e18
    obtain rfl : rv = .tuple [] := by
      split at hgr
      · rfl
      · cases hgr
    obtain ⟨x, y, rfl, hx, hy⟩ := args2 r
    obtain rfl := hx.ptr_live ho hv
    obtain ⟨x0, w0, v0, z0⟩ := sr_cellAt s ho hb c0
    obtain ⟨x1, w1, v1, z1⟩ := sr_cellAt s ho hb c1
    cases v0; cases v1
    subst hv
    obtain ⟨sA, stA⟩ := sr_set1 s ho hb (k := off + 1) (.int .i32 1)
    cases hy with
    | func _ _ _ yf yc hl1 hl2 hr1 hr2 =>
      simp only [acall] at e7
      have r1 : VRs _ μ w vf yf := ⟨hl1, hr1⟩
      have r2 : VRs _ μ w vc yc := ⟨hl2, hr2⟩
      have r1' := r1.mono stA
      have r2' := r2.mono stA
      obtain ⟨⟨fn, c, hfn, hcb⟩, hk⟩ := afunc_calls hc hreg hs n g e7 sA ((r1'.append VRs.nil).append r2') F7
      have hcf : ∀ w, (callFunc g (yf.toArray ++ yc.toArray)).run Tryz.prog w = .ok (.enter g (yf.toArray ++ yc.toArray)) w := fun w => by
        have hn : fn.name ≠ "runtime.NumGoroutine" := by simpa using progOk.name g fn hfn
        simp [callFunc, hfn, hn, hcb]
      refine callsIn_wide.2 ?_
      refine (Once.do_first (μ id) off g yf.toArray yc.toArray w (fun w' => ∃ μ', SR h7 μ' w' ∧ Stp ⟨h2.obj.set id (some ⟨o.ver, o.stamp + 1, .row esz (cells.set (off + 1) (.int .i32 1)) fix, o.ty⟩), h2.next⟩ μ (w.setCell ⟨μ id, off + 1, Option.none⟩ (.int .i32 1)) h7 μ' w') w0 w1 z0 z1 ?_ hcf ?_).mono ?_
      · have hk' := callsIn_wide.1 hk
        have : (yf ++ [] ++ yc).toArray = yf.toArray ++ yc.toArray := by simp
        rw [this] at hk'
        refine hk'.mono fun en w' hg => ?_
        cases en with
        | returned x =>
          obtain ⟨μ', g1, g2, g3⟩ := hg
          refine ⟨?_, μ', g1, g2⟩
          cases g3 with
          | tuple _ vals hl hr =>
            obtain rfl : vals = [] := List.eq_nil_of_length_eq_zero hl.symm
            rfl
        | panicked _ => exact hg.elim
        | outgrown => exact hg.elim
      · rintro w' ⟨μ', g1, g2⟩
        have hid : μ' id = μ id := by
          obtain ⟨o', q1, q2, q3, q4⟩ := g2.live id _ (Tm.get_set _ _ _ _ |>.trans (if_pos rfl))
          rw [ho3] at q1; cases q1
          exact (q4 (.inl hv3.symm)).1
        obtain ⟨y0, a0, b0, d0⟩ := sr_cellAt g1 ho3 hb3 c2
        obtain ⟨y1, a1, b1, d1⟩ := sr_cellAt g1 ho3 hb3 c3
        cases b0; cases b1
        rw [hid] at a0 a1 d0 d1
        exact ⟨a0, a1, d0, d1⟩
      · rintro en w' ⟨rfl, wm, ⟨μ', g1, g2⟩, rfl⟩
        have hid : μ' id = μ id := by
          obtain ⟨o', q1, q2, q3, q4⟩ := g2.live id _ (Tm.get_set _ _ _ _ |>.trans (if_pos rfl))
          rw [ho3] at q1; cases q1
          exact (q4 (.inl hv3.symm)).1
        obtain ⟨sB, stB⟩ := g1.drawn (w' := wm.drew) rfl rfl rfl rfl
        have l0 := (List.getElem?_eq_some_iff.1 c2).1
        have l1 := (List.getElem?_eq_some_iff.1 c3).1
        obtain ⟨sC, stC⟩ := sr_set1 sB ho3 hb3 (k := off) (.int .u32 1)
        rw [hv3] at sC stC
        have hoC : (⟨h7.obj.set id (some ⟨o.ver, o3.stamp + 1, .row esz2 (cells2.set off (.int .u32 1)) fix2, o3.ty⟩), h7.next⟩ : Hp).get id = some ⟨o.ver, o3.stamp + 1, .row esz2 (cells2.set off (.int .u32 1)) fix2, o3.ty⟩ := Tm.get_set _ _ _ _ |>.trans (if_pos rfl)
        obtain ⟨sD, stD⟩ := sr_set1 sC (k := off + 1) hoC rfl (.int .i32 0)
        rw [hid] at sD stD stC
        have h5e := hoC.symm.trans ho5
        cases h5e
        exact ⟨μ', sD, stA.trans (g2.trans (stB.trans (stC.trans stD))), .tuple [] [] rfl (fun i h1 => absurd h1 (Nat.not_lt_zero _))⟩
  · cases e
end
end Go.Am
namespace Go.Am
open Go Go.Proofs AM
set_option linter.unusedVariables false
set_option maxRecDepth 100000
def sumsC : Sums := addSum 104 sortedSum sumsB
theorem sumsC_ok : SumsOk Tryz.prog sumsC := addSum_ok sumsB_ok ⟨_, _, Tryz.func104, rfl⟩ fun args h h' v μ w xs e s r _ => sorted_ok e s r
noncomputable def sumsD : Sums := addSum 221 (onceSum Tryz.prog polB sumsC 2998) sumsC
theorem sumsD_ok : SumsOk Tryz.prog sumsD := addSum_ok sumsC_ok ⟨_, _, Tryz.func221, rfl⟩ fun args h h' v μ w xs e s r F => once_ok sumsC_ok e s r F
end Go.Am
namespace Go.Am
open Go AM RowKit
/-! ### bodies, objects, compared -/
def aeqF : Nat → AV → AV → Bool
  | 0, _, _ => false
  | f + 1, a, b => match a with
    | .ptr i v o => match b with
      | .ptr i' v' o' => Nat.beq i i' && Nat.beq v v' && Nat.beq o o'
      | _ => false
    | .own i v o n => match b with
      | .own i' v' o' n' => Nat.beq i i' && Nat.beq v v' && Nat.beq o o' && Nat.beq n n'
      | _ => false
    | .mapv i => match b with
      | .mapv i' => Nat.beq i i'
      | _ => false
    | .iptr l => match b with
      | .iptr l' => aeqL (aeqF f) l l'
      | _ => false
    | .sl k n l => match b with
      | .sl k' n' l' => skEq k k' && Nat.beq n n' && aeqL (aeqF f) l l'
      | _ => false
    | .func g x y => match b with
      | .func g' x' y' => fnEq g g' && aeqL (aeqF f) x x' && aeqL (aeqF f) y y'
      | _ => false
    | .iface t v => match b with
      | .iface t' v' => Nat.beq t t' && aeqF f v v'
      | _ => false
    | .agg l => match b with
      | .agg l' => aeqL (aeqF f) l l'
      | _ => false
    | .tuple l => match b with
      | .tuple l' => aeqL (aeqF f) l l'
      | _ => false
    | _ => aeq 1 a b
theorem aeqF_s : ∀ (f : Nat) (a b : AV), aeqF f a b = true → a = b
  | 0, _, _, h => by cases h
  | f + 1, a, b, h => by
    have ih := aeqF_s f
    cases a <;> first
      | exact aeq_s _ _ _ h
      | (cases b <;> simp only [aeqF] at h <;> first
        | (cases h; done)
        | (try simp only [Bool.and_eq_true] at h
           first
           | (rw [aeqL_s ih h]; done)
           | (rw [Nat.eq_of_beq_eq_true h]; done)
           | (rw [Nat.eq_of_beq_eq_true h.1.1, Nat.eq_of_beq_eq_true h.1.2, Nat.eq_of_beq_eq_true h.2]; done)
           | (rw [Nat.eq_of_beq_eq_true h.1.1.1, Nat.eq_of_beq_eq_true h.1.1.2, Nat.eq_of_beq_eq_true h.1.2, Nat.eq_of_beq_eq_true h.2]; done)
           | (rw [skEq_s h.1.1, Nat.eq_of_beq_eq_true h.1.2, aeqL_s ih h.2]; done)
           | (rw [fnEq_s h.1.1, aeqL_s ih h.1.2, aeqL_s ih h.2]; done)
           | (rw [Nat.eq_of_beq_eq_true h.1, ih _ _ h.2]; done)))
def entEq (x y : AV × AV) : Bool := match aeqF 30 x.1 y.1 with
  | true => aeqF 30 x.2 y.2
  | false => false
def entsEq : List (AV × AV) → List (AV × AV) → Bool
  | [], l => match l with
    | [] => true
    | _ => false
  | a :: l, k => match k with
    | [] => false
    | b :: k => match entEq a b with
      | true => entsEq l k
      | false => false
theorem entsEq_s : ∀ {l k : List (AV × AV)}, entsEq l k = true → l = k
  | [], k, h => by
    cases k with
    | nil => rfl
    | cons _ _ => cases h
  | a :: l, k, h => by
    cases k with
    | nil => cases h
    | cons b k =>
      simp only [entsEq] at h
      cases hq : entEq a b with
      | false => rw [hq] at h; cases h
      | true =>
        rw [hq] at h
        obtain ⟨a1, a2⟩ := a
        obtain ⟨b1, b2⟩ := b
        simp only [entEq] at hq
        cases h1 : aeqF 30 a1 b1 with
        | false => rw [h1] at hq; cases hq
        | true =>
          rw [h1] at hq
          rw [aeqF_s _ _ _ h1, aeqF_s _ _ _ hq, entsEq_s h]
def bodyEq : Body → Body → Bool
  | .row e c f, .row e' c' f' => Nat.beq e e' && (f == f') && aeqL (aeqF 30) c c'
  | .map es, .map es' => entsEq es es'
  | .dead, .dead => true
  | .siter s p, .siter s' p' => bytesEq s s' && Nat.beq p p'
  | _, _ => false
theorem bodyEq_s {a b : Body} (h : bodyEq a b = true) : a = b := by
  cases a <;> cases b <;> first
    | rfl
    | (cases h; done)
    | (simp only [bodyEq, Bool.and_eq_true, beq_iff_eq] at h; rw [Nat.eq_of_beq_eq_true h.1.1, h.1.2, aeqL_s (aeqF_s 30) h.2]; done)
    | (rw [entsEq_s h]; done)
    | (simp only [bodyEq, Bool.and_eq_true] at h; rw [bytesEq_s h.1, Nat.eq_of_beq_eq_true h.2]; done)
def objEq (a b : AObj) : Bool := Nat.beq a.ver b.ver && Nat.beq a.stamp b.stamp && (a.ty == b.ty) && bodyEq a.body b.body
theorem objEq_s {a b : AObj} (h : objEq a b = true) : a = b := by
  obtain ⟨v, s, bd, t⟩ := a
  obtain ⟨v', s', bd', t'⟩ := b
  simp only [objEq, Bool.and_eq_true, beq_iff_eq] at h
  rw [Nat.eq_of_beq_eq_true h.1.1.1, Nat.eq_of_beq_eq_true h.1.1.2, h.1.2, bodyEq_s h.2]

/-! ### heaps out of lists -/
abbrev Objs := List (Nat × AObj)
def hpOf (n : Nat) (l : Objs) : Hp := ⟨l.foldl (fun t p => t.set p.1 (some p.2)) .leaf, n⟩
/-- every object of the list lies in a heap -/
def liesIn (l : Objs) (g : Hp) : Bool := l.all fun p => match g.get p.1 with
  | some o => objEq o p.2
  | none => false
/-- a heap with the objects of a list put in -/
def overlay (g : Hp) (l : Objs) (n : Nat) : Hp := ⟨l.foldl (fun t p => t.set p.1 (some p.2)) g.obj, n⟩
theorem fold_get (l : Objs) : ∀ (t : Tm AObj) (id : Nat), (l.foldl (fun t p => t.set p.1 (some p.2)) t).get id = match (l.reverse.find? fun p => Nat.beq p.1 id) with
    | some p => some p.2
    | none => t.get id := by
  induction l with
  | nil => intro t id; rfl
  | cons p l ih =>
    intro t id
    rw [List.foldl_cons, ih, List.reverse_cons, List.find?_append]
    cases hq : l.reverse.find? fun p => Nat.beq p.1 id with
    | some q => rfl
    | none =>
      simp only [Option.none_or, List.find?_cons, List.find?_nil]
      rw [Tm.get_set]
      cases hb : Nat.beq p.1 id with
      | true => rw [if_pos (Nat.eq_of_beq_eq_true hb).symm]
      | false =>
        rw [if_neg]
        rintro rfl
        simp at hb
def lookIn (l : Objs) (id : Nat) : Option AObj := match (l.reverse.find? fun p => Nat.beq p.1 id) with
  | some p => some p.2
  | none => none
theorem overlay_get (g : Hp) (l : Objs) (n id : Nat) : (overlay g l n).get id = match lookIn l id with
    | some o => some o
    | none => g.get id := by
  show (l.foldl (fun t p => t.set p.1 (some p.2)) g.obj).get id = _
  rw [fold_get]
  unfold lookIn
  cases l.reverse.find? fun p => Nat.beq p.1 id <;> rfl
theorem lookIn_mem {l : Objs} {id : Nat} {o : AObj} (h : lookIn l id = some o) : (id, o) ∈ l := by
  unfold lookIn at h
  cases hq : l.reverse.find? fun p => Nat.beq p.1 id with
  | none => rw [hq] at h; cases h
  | some p =>
    rw [hq] at h; cases h
    have h1 := List.mem_of_find?_eq_some hq
    have h2 := List.find?_some hq
    obtain ⟨a, b⟩ := p
    obtain rfl := Nat.eq_of_beq_eq_true h2
    exact List.mem_reverse.1 h1
theorem lookIn_some {l : Objs} {p : Nat × AObj} (h : p ∈ l) : ∃ o, lookIn l p.1 = some o := by
  unfold lookIn
  cases hq : l.reverse.find? fun q => Nat.beq q.1 p.1 with
  | some q => exact ⟨q.2, rfl⟩
  | none =>
    have := List.find?_eq_none.1 hq p (List.mem_reverse.2 h)
    simp at this
theorem liesIn_get {l : Objs} {g : Hp} (h : liesIn l g = true) {p : Nat × AObj} (hp : p ∈ l) : g.get p.1 = some p.2 := by
  have := List.all_eq_true.1 h p hp
  cases hq : g.get p.1 with
  | none => rw [hq] at this; cases this
  | some o => rw [hq] at this; rw [objEq_s this]
theorem liesIn_of {l : Objs} {g : Hp} (h : ∀ p ∈ l, g.get p.1 = some p.2) (hr : ∀ p ∈ l, objEq p.2 p.2 = true) : liesIn l g = true :=
  List.all_eq_true.2 fun p hp => by rw [h p hp]; exact hr p hp

/-- what is asked of the lists of a cut -/
def cutChk (lk : Objs) (nk : Nat) (lf : Objs) (nf : Nat) : Bool :=
  Nat.ble nk nf && (lk.all fun p => Nat.blt p.1 nk && objEq p.2 p.2) &&
  (lf.all fun p => (Nat.ble nk p.1 && Nat.blt p.1 nf) || (match lookIn lk p.1 with
    | some o => Nat.ble o.stamp p.2.stamp && Nat.ble o.ver p.2.ver && (!(Nat.beq o.stamp p.2.stamp) || objEq o p.2)
    | none => false)) &&
  ((List.range (nf - nk)).all fun k => (lookIn lf (nk + k)).isSome)
structure Cut where
  args : List AV
  lk : Objs
  nk : Nat
  v : AV
  lf : Objs
  nf : Nat
  ok : cutChk lk nk lf nf = true
def Cut.takes (c : Cut) (args : List AV) (g : Hp) : Bool := match Nat.beq c.nk g.next with
  | true => match aeqL (aeqF 60) args c.args with
    | true => liesIn c.lk g
    | false => false
  | false => false
section
variable {c : Cut} {args : List AV} {g : Hp}
theorem Cut.takes_s (h : c.takes args g = true) : c.nk = g.next ∧ args = c.args ∧ liesIn c.lk g = true := by
  unfold Cut.takes at h
  cases h1 : Nat.beq c.nk g.next with
  | false => rw [h1] at h; cases h
  | true =>
    cases h2 : aeqL (aeqF 60) args c.args with
    | false => rw [h1, h2] at h; cases h
    | true => rw [h1, h2] at h; exact ⟨Nat.eq_of_beq_eq_true h1, aeqL_s (aeqF_s 60) h2, h⟩
theorem Cut.parts (c : Cut) : c.nk ≤ c.nf ∧ (∀ p ∈ c.lk, p.1 < c.nk ∧ objEq p.2 p.2 = true) ∧
    (∀ p ∈ c.lf, (c.nk ≤ p.1 ∧ p.1 < c.nf) ∨ ∃ o, lookIn c.lk p.1 = some o ∧ o.stamp ≤ p.2.stamp ∧ o.ver ≤ p.2.ver ∧ (o.stamp = p.2.stamp → o = p.2)) ∧
    (∀ id, c.nk ≤ id → id < c.nf → ∃ o, lookIn c.lf id = some o) := by
  have h := c.ok
  simp only [cutChk, Bool.and_eq_true, List.all_eq_true, Nat.ble_eq, Nat.blt_eq, Bool.or_eq_true] at h
  obtain ⟨⟨⟨h1, h2⟩, h3⟩, h4⟩ := h
  refine ⟨h1, h2, fun p hp => ?_, fun id a b => ?_⟩
  · rcases h3 p hp with h | h
    · exact .inl h
    · cases hq : lookIn c.lk p.1 with
      | none => rw [hq] at h; cases h
      | some o =>
        rw [hq] at h
        simp only [Bool.and_eq_true, Nat.ble_eq, Bool.or_eq_true, Bool.not_eq_true'] at h
        refine .inr ⟨o, rfl, h.1.1, h.1.2, fun e => ?_⟩
        rcases h.2 with h | h
        · rw [e] at h; simp at h
        · exact objEq_s h
  · have := h4 (id - c.nk) (List.mem_range.2 (by omega))
    rw [show c.nk + (id - c.nk) = id by omega] at this
    exact Option.isSome_iff_exists.1 this
theorem Cut.good (c : Cut) (args : List AV) : Good fun g => match c.takes args g with
    | true => some (c.v, overlay g c.lf c.nf)
    | false => none := by
  obtain ⟨q1, q2, q3, q4⟩ := c.parts
  have key : ∀ g a g', (match c.takes args g with
    | true => some (c.v, overlay g c.lf c.nf)
    | false => none) = some (a, g') → c.takes args g = true ∧ a = c.v ∧ g' = overlay g c.lf c.nf := fun g a g' e => by
    cases ht : c.takes args g with
    | false => rw [ht] at e; cases e
    | true => rw [ht] at e; cases e; exact ⟨rfl, rfl, rfl⟩
  -- where an object of the end comes from
  have from' : ∀ g, c.takes args g = true → ∀ id o', (overlay g c.lf c.nf).get id = some o' → (∃ o, g.get id = some o ∧ o.stamp ≤ o'.stamp ∧ o.ver ≤ o'.ver ∧ (o.stamp = o'.stamp → o = o')) ∨ (g.next ≤ id ∧ id < c.nf) := fun g ht id o' h => by
    obtain ⟨t1, _, t3⟩ := c.takes_s ht
    rw [overlay_get] at h
    cases hq : lookIn c.lf id with
    | none => rw [hq] at h; exact .inl ⟨o', h, Nat.le_refl _, Nat.le_refl _, fun _ => rfl⟩
    | some o =>
      rw [hq] at h; cases h
      rcases q3 _ (lookIn_mem hq) with h | ⟨o2, h2, h3⟩
      · exact .inr ⟨by rw [← t1]; exact h.1, h.2⟩
      · exact .inl ⟨o2, liesIn_get t3 (lookIn_mem h2), h3⟩
  refine ⟨fun g a g' e => ?_, fun g a g' e hF => ?_⟩
  · obtain ⟨ht, rfl, rfl⟩ := key g a g' e
    obtain ⟨t1, _, t3⟩ := c.takes_s ht
    refine ⟨by rw [← t1]; exact q1, fun id o' h => ?_, fun id o h => ?_⟩
    · rcases from' g ht id o' h with ⟨o, h1, _⟩ | h
      · exact .inl ⟨o, h1⟩
      · exact .inr h
    · rw [overlay_get]
      cases lookIn c.lf id with
      | none => exact ⟨o, h⟩
      | some o' => exact ⟨o', rfl⟩
  · obtain ⟨ht, rfl, rfl⟩ := key g a g' e
    obtain ⟨t1, t2, t3⟩ := c.takes_s ht
    refine ⟨fun id o o' h h' => ?_, fun g2 hn hs => ?_⟩
    · rcases from' g ht id o' h' with ⟨o2, h1, h2⟩ | h2
      · rw [h] at h1; cases h1; exact h2
      · have := hF id h2.1 h2.2
        rw [h] at this; cases this
    · have ht2 : c.takes args g2 = true := by
        unfold Cut.takes at ht ⊢
        rw [hn]
        cases h1 : Nat.beq c.nk g.next with
        | false => rw [h1] at ht; cases ht
        | true =>
          cases h2 : aeqL (aeqF 60) args c.args with
          | false => rw [h1, h2] at ht; cases ht
          | true => exact liesIn_of (fun p hp => hs _ _ (liesIn_get t3 hp)) (fun p hp => (q2 p hp).2)
      refine ⟨overlay g2 c.lf c.nf, by dsimp only; rw [ht2], rfl, fun id => ?_⟩
      rw [overlay_get, overlay_get]
      cases hq : lookIn c.lf id with
      | some o =>
        dsimp only
        rw [if_pos]
        rcases q3 _ (lookIn_mem hq) with h | ⟨o2, h2, _⟩
        · exact .inr ⟨by rw [← t1]; exact h.1, h.2⟩
        · exact .inl (by rw [liesIn_get t3 (lookIn_mem h2)]; rfl)
      | none =>
        dsimp only
        split
        · rename_i hc
          rcases hc with hc | hc
          · obtain ⟨o, ho⟩ := Option.isSome_iff_exists.1 hc
            rw [ho, hs id o ho]
          · obtain ⟨o, ho⟩ := q4 id (by rw [t1]; exact hc.1) hc.2
            rw [hq] at ho; cases ho
        · rfl
def Cut.am (c : Cut) (args : List AV) : AM AV := ⟨_, c.good args⟩
end
end Go.Am
