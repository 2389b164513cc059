/- law27: PlanWrong on the A-machine. -/
import Derived.Test.YtallboljaphbpaaJ4
set_option linter.unusedVariables false
set_option linter.unusedSimpArgs false
namespace Go.Am
open Go Go.Proofs AM
set_option maxRecDepth 10000
variable {pol : Pol} {sums : Sums}
attribute [local irreducible] KSeq KMid KBlock KLoop KOps KFunc Runs qcs qcd aopsM aop qci qcc qcx qcx? qbz qck qbw
attribute [local irreducible] KRound KAssign

structure S27' (pol : Pol) (sums : Sums) : Prop extends S27 pol sums where
  list : sums 49 = some listSum
  sort : sums 73 = some sortSum
  grow : sums 46 = some growSum

theorem values1_spec (S : S27' pol sums) {n : Nat} {h : Hp} {i1 : Nat} {s Y : AV} {l : List Int} (hn : l.length + 4 ≤ n) (r1 : Row h i1 0 1 [s] true) (hb : l.length < 2 ^ 62) (I : Nat → Hp → Prop) (h0 : I 0 h) (hI : ∀ i g, I i g → Ints g s l)
    (hY : ∀ i (hi : i < l.length) g m, n ≤ m + 2 → I i g → Runs (qci Try.prog pol sums m Y [.int .i64 l[i]]) g fun v g' => v = .bool true ∧ I (i + 1) g') :
    Runs (qci Try.prog pol sums n (.func (.func 74) [] [.ptr i1 0 0]) [Y]) h (fun _ g => I l.length g) := by
  have s74 : sums 74 = none := S.rest _ (by decide)
  obtain ⟨n, rfl⟩ : ∃ m, n = m + 1 := ⟨n - 1, by omega⟩
  refine qc7 (by assumption) Try.func74 rfl (by simp [Try.f74]) ?_
  have a0 : qcc (qbw Try.f74.ntmps (([] ++ [Y] ++ [.ptr i1 0 0]) : List AV)) 0 = Y := qbu rfl
  have a1 : qcc (qbw Try.f74.ntmps (([] ++ [Y] ++ [.ptr i1 0 0]) : List AV)) 1 = .ptr i1 0 0 := qbu rfl
  generalize qbw Try.f74.ntmps (([] ++ [Y] ++ [.ptr i1 0 0]) : List AV) = T at *
  show Runs (qcd _ _ _ _ 16 _ _ _) _ _
  have o := hI 0 h h0
  (repeat (first|apply qbi|apply qa9|(apply qa7;dsimp only[qbc,List.map,Nat.reduceAdd])|apply qbj|apply qbd|apply qbe|apply qbn|apply qbp|apply qbo|apply qa1|apply qau|apply qbb|apply qas|apply qaq|apply qam rfl|apply qaw|apply qar|apply qax|apply qay|apply qa2|apply qav|((first|apply qa8|apply qbg|apply qbh|apply qbm|apply qbf|apply qba|apply qa0|apply qal|apply qak|apply qat)<;>first|(apply qao;(repeat' first|assumption|exact qaa rfl|apply qaf rfl|apply qab);done)|exact qan _ _|exact qai _|exact qap _|exact qad|exact qag|exact qae|exact qac|exact qah _|exact qa4 _ (by omega)|exact qa3 (by omega)|exact qa5 (by omega)|exact rfl|assumption|apply qa6)|((first|apply qbl|apply qaz|apply qaj)<;>first|(apply qao;(repeat' first|assumption|exact qaa rfl|apply qaf rfl|apply qab);done)|exact qan _ _|exact qai _|exact qap _|exact qad|exact qag|exact qae|exact qac|exact qah _|exact qa4 _ (by omega)|exact qa3 (by omega)|exact qa5 (by omega)|exact rfl|assumption|apply qa6)|(apply qbk rfl rfl;(focus (repeat' first|assumption|exact qaa rfl|apply qaf rfl|apply qab);done))|(apply qb1 rfl rfl;(focus (repeat' first|assumption|exact qaa rfl|apply qaf rfl|apply qab);done);exact rfl)))
  apply R_loop (k := l.length) (I := fun k T g => ∃ i, k = l.length - i ∧ i ≤ l.length ∧ qcc T 0 = Y ∧ qcc T 5 = s ∧ qcc T 6 = .int .i64 (l.length : Nat) ∧ qcc T 7 = .int .i64 (i : Nat) ∧ I i g)
  · omega
  · exact ⟨0, by omega, by omega, by (repeat' first|assumption|exact qaa rfl|apply qaf rfl|apply qab), by (repeat' first|assumption|exact qaa rfl|apply qaf rfl|apply qab), by (repeat' first|assumption|exact qaa rfl|apply qaf rfl|apply qab), by (repeat' first|assumption|exact qaa rfl|apply qaf rfl|apply qab), h0⟩
  · rintro k T g ⟨i, rfl, hi, t0, t5, t6, t7, hI'⟩
    (repeat (first|apply qbi|apply qa9|(apply qa7;dsimp only[qbc,List.map,Nat.reduceAdd])|apply qbj|apply qbd|apply qbe|apply qbn|apply qbp|apply qbo|apply qa1|apply qau|apply qbb|apply qas|apply qaq|apply qam rfl|apply qaw|apply qar|apply qax|apply qay|apply qa2|apply qav|((first|apply qa8|apply qbg|apply qbh|apply qbm|apply qbf|apply qba|apply qa0|apply qal|apply qak|apply qat)<;>first|(apply qao;(repeat' first|assumption|exact qaa rfl|apply qaf rfl|apply qab);done)|exact qan _ _|exact qai _|exact qap _|exact qad|exact qag|exact qae|exact qac|exact qah _|exact qa4 _ (by omega)|exact qa3 (by omega)|exact qa5 (by omega)|exact rfl|assumption|apply qa6)|((first|apply qbl|apply qaz|apply qaj)<;>first|(apply qao;(repeat' first|assumption|exact qaa rfl|apply qaf rfl|apply qab);done)|exact qan _ _|exact qai _|exact qap _|exact qad|exact qag|exact qae|exact qac|exact qah _|exact qa4 _ (by omega)|exact qa3 (by omega)|exact qa5 (by omega)|exact rfl|assumption|apply qa6)|(apply qbk rfl rfl;(focus (repeat' first|assumption|exact qaa rfl|apply qaf rfl|apply qab);done))|(apply qb1 rfl rfl;(focus (repeat' first|assumption|exact qaa rfl|apply qaf rfl|apply qab);done);exact rfl)))
    apply qcg (decide ((i : Int) < (l.length : Int)))
    · (focus first|(apply qao;(repeat' first|assumption|exact qaa rfl|apply qaf rfl|apply qab);done)|exact qan _ _|exact qai _|exact qap _|exact qad|exact qag|exact qae|exact qac|exact qah _)
    · intro c
      have hlt : i < l.length := by simpa using c
      (repeat (first|apply qbi|apply qa9|(apply qa7;dsimp only[qbc,List.map,Nat.reduceAdd])|apply qbj|apply qbd|apply qbe|apply qbn|apply qbp|apply qbo|apply qa1|apply qau|apply qbb|apply qas|apply qaq|apply qam rfl|apply qaw|apply qar|apply qax|apply qay|apply qa2|apply qav|((first|apply qa8|apply qbg|apply qbh|apply qbm|apply qbf|apply qba|apply qa0|apply qal|apply qak|apply qat)<;>first|(apply qao;(repeat' first|assumption|exact qaa rfl|apply qaf rfl|apply qab);done)|exact qan _ _|exact qai _|exact qap _|exact qad|exact qag|exact qae|exact qac|exact qah _|exact qa4 _ (by omega)|exact qa3 (by omega)|exact qa5 (by omega)|exact rfl|assumption|apply qa6)|((first|apply qbl|apply qaz|apply qaj)<;>first|(apply qao;(repeat' first|assumption|exact qaa rfl|apply qaf rfl|apply qab);done)|exact qan _ _|exact qai _|exact qap _|exact qad|exact qag|exact qae|exact qac|exact qah _|exact qa4 _ (by omega)|exact qa3 (by omega)|exact qa5 (by omega)|exact rfl|assumption|apply qa6)|(apply qbk rfl rfl;(focus (repeat' first|assumption|exact qaa rfl|apply qaf rfl|apply qab);done))|(apply qb1 rfl rfl;(focus (repeat' first|assumption|exact qaa rfl|apply qaf rfl|apply qab);done);exact rfl)))
      apply qca
      · (focus first|(apply qao;(repeat' first|assumption|exact qaa rfl|apply qaf rfl|apply qab);done)|exact qan _ _|exact qai _|exact qap _|exact qad|exact qag|exact qae|exact qac|exact qah _)
      · exact hI i g hI'
      · (focus first|(apply qao;(repeat' first|assumption|exact qaa rfl|apply qaf rfl|apply qab);done)|exact qan _ _|exact qai _|exact qap _|exact qad|exact qag|exact qae|exact qac|exact qah _)
      · omega
      · rfl
      intro a ha _
      rw [ints_at hlt] at ha
      apply qc0
      · (focus first|(apply qao;(repeat' first|assumption|exact qaa rfl|apply qaf rfl|apply qab);done)|exact qan _ _|exact qai _|exact qap _|exact qad|exact qag|exact qae|exact qac|exact qah _)
      · exact ha
      (repeat (first|apply qbi|apply qa9|(apply qa7;dsimp only[qbc,List.map,Nat.reduceAdd])|apply qbj|apply qbd|apply qbe|apply qbn|apply qbp|apply qbo|apply qa1|apply qau|apply qbb|apply qas|apply qaq|apply qam rfl|apply qaw|apply qar|apply qax|apply qay|apply qa2|apply qav|((first|apply qa8|apply qbg|apply qbh|apply qbm|apply qbf|apply qba|apply qa0|apply qal|apply qak|apply qat)<;>first|(apply qao;(repeat' first|assumption|exact qaa rfl|apply qaf rfl|apply qab);done)|exact qan _ _|exact qai _|exact qap _|exact qad|exact qag|exact qae|exact qac|exact qah _|exact qa4 _ (by omega)|exact qa3 (by omega)|exact qa5 (by omega)|exact rfl|assumption|apply qa6)|((first|apply qbl|apply qaz|apply qaj)<;>first|(apply qao;(repeat' first|assumption|exact qaa rfl|apply qaf rfl|apply qab);done)|exact qan _ _|exact qai _|exact qap _|exact qad|exact qag|exact qae|exact qac|exact qah _|exact qa4 _ (by omega)|exact qa3 (by omega)|exact qa5 (by omega)|exact rfl|assumption|apply qa6)|(apply qbk rfl rfl;(focus (repeat' first|assumption|exact qaa rfl|apply qaf rfl|apply qab);done))|(apply qb1 rfl rfl;(focus (repeat' first|assumption|exact qaa rfl|apply qaf rfl|apply qab);done);exact rfl)))
      (apply qcl; (focus first|(apply qao;(repeat' first|assumption|exact qaa rfl|apply qaf rfl|apply qab);done)|exact qan _ _|exact qai _|exact qap _|exact qad|exact qag|exact qae|exact qac|exact qah _); (repeat (apply qbt; (focus first|(apply qao;(repeat' first|assumption|exact qaa rfl|apply qaf rfl|apply qab);done)|exact qan _ _|exact qai _|exact qap _|exact qad|exact qag|exact qae|exact qac|exact qah _))); exact qby)
      refine (hY i hlt g n (by omega) hI').mono ?_
      rintro v g' ⟨rfl, hI2⟩
      refine ⟨Undis.off rfl, ?_⟩
      (repeat (first|apply qbi|apply qa9|(apply qa7;dsimp only[qbc,List.map,Nat.reduceAdd])|apply qbj|apply qbd|apply qbe|apply qbn|apply qbp|apply qbo|apply qa1|apply qau|apply qbb|apply qas|apply qaq|apply qam rfl|apply qaw|apply qar|apply qax|apply qay|apply qa2|apply qav|((first|apply qa8|apply qbg|apply qbh|apply qbm|apply qbf|apply qba|apply qa0|apply qal|apply qak|apply qat)<;>first|(apply qao;(repeat' first|assumption|exact qaa rfl|apply qaf rfl|apply qab);done)|exact qan _ _|exact qai _|exact qap _|exact qad|exact qag|exact qae|exact qac|exact qah _|exact qa4 _ (by omega)|exact qa3 (by omega)|exact qa5 (by omega)|exact rfl|assumption|apply qa6)|((first|apply qbl|apply qaz|apply qaj)<;>first|(apply qao;(repeat' first|assumption|exact qaa rfl|apply qaf rfl|apply qab);done)|exact qan _ _|exact qai _|exact qap _|exact qad|exact qag|exact qae|exact qac|exact qah _|exact qa4 _ (by omega)|exact qa3 (by omega)|exact qa5 (by omega)|exact rfl|assumption|apply qa6)|(apply qbk rfl rfl;(focus (repeat' first|assumption|exact qaa rfl|apply qaf rfl|apply qab);done))|(apply qb1 rfl rfl;(focus (repeat' first|assumption|exact qaa rfl|apply qaf rfl|apply qab);done);exact rfl)))
      apply qcg (!true)
      · (focus first|(apply qao;(repeat' first|assumption|exact qaa rfl|apply qaf rfl|apply qab);done)|exact qan _ _|exact qai _|exact qap _|exact qad|exact qag|exact qae|exact qac|exact qah _)
      · intro c; cases c
      intro _
      (repeat (first|apply qbi|apply qa9|(apply qa7;dsimp only[qbc,List.map,Nat.reduceAdd])|apply qbj|apply qbd|apply qbe|apply qbn|apply qbp|apply qbo|apply qa1|apply qau|apply qbb|apply qas|apply qaq|apply qam rfl|apply qaw|apply qar|apply qax|apply qay|apply qa2|apply qav|((first|apply qa8|apply qbg|apply qbh|apply qbm|apply qbf|apply qba|apply qa0|apply qal|apply qak|apply qat)<;>first|(apply qao;(repeat' first|assumption|exact qaa rfl|apply qaf rfl|apply qab);done)|exact qan _ _|exact qai _|exact qap _|exact qad|exact qag|exact qae|exact qac|exact qah _|exact qa4 _ (by omega)|exact qa3 (by omega)|exact qa5 (by omega)|exact rfl|assumption|apply qa6)|((first|apply qbl|apply qaz|apply qaj)<;>first|(apply qao;(repeat' first|assumption|exact qaa rfl|apply qaf rfl|apply qab);done)|exact qan _ _|exact qai _|exact qap _|exact qad|exact qag|exact qae|exact qac|exact qah _|exact qa4 _ (by omega)|exact qa3 (by omega)|exact qa5 (by omega)|exact rfl|assumption|apply qa6)|(apply qbk rfl rfl;(focus (repeat' first|assumption|exact qaa rfl|apply qaf rfl|apply qab);done))|(apply qb1 rfl rfl;(focus (repeat' first|assumption|exact qaa rfl|apply qaf rfl|apply qab);done);exact rfl)))
      apply K_loop (l.length - (i + 1)) (by omega)
      exact ⟨i + 1, rfl, by omega, by (repeat' first|assumption|exact qaa rfl|apply qaf rfl|apply qab), by (repeat' first|assumption|exact qaa rfl|apply qaf rfl|apply qab), by (repeat' first|assumption|exact qaa rfl|apply qaf rfl|apply qab), by (repeat' first|assumption|exact qaa rfl|apply qaf rfl|apply qab), hI2⟩
    · intro c
      have : i = l.length := by have : ¬ i < l.length := by simpa using c
                                omega
      subst this
      (repeat (first|apply qbi|apply qa9|(apply qa7;dsimp only[qbc,List.map,Nat.reduceAdd])|apply qbj|apply qbd|apply qbe|apply qbn|apply qbp|apply qbo|apply qa1|apply qau|apply qbb|apply qas|apply qaq|apply qam rfl|apply qaw|apply qar|apply qax|apply qay|apply qa2|apply qav|((first|apply qa8|apply qbg|apply qbh|apply qbm|apply qbf|apply qba|apply qa0|apply qal|apply qak|apply qat)<;>first|(apply qao;(repeat' first|assumption|exact qaa rfl|apply qaf rfl|apply qab);done)|exact qan _ _|exact qai _|exact qap _|exact qad|exact qag|exact qae|exact qac|exact qah _|exact qa4 _ (by omega)|exact qa3 (by omega)|exact qa5 (by omega)|exact rfl|assumption|apply qa6)|((first|apply qbl|apply qaz|apply qaj)<;>first|(apply qao;(repeat' first|assumption|exact qaa rfl|apply qaf rfl|apply qab);done)|exact qan _ _|exact qai _|exact qap _|exact qad|exact qag|exact qae|exact qac|exact qah _|exact qa4 _ (by omega)|exact qa3 (by omega)|exact qa5 (by omega)|exact rfl|assumption|apply qa6)|(apply qbk rfl rfl;(focus (repeat' first|assumption|exact qaa rfl|apply qaf rfl|apply qab);done))|(apply qb1 rfl rfl;(focus (repeat' first|assumption|exact qaa rfl|apply qaf rfl|apply qab);done);exact rfl)))
      apply R_results0 rfl
      exact hI'

theorem appendSeq_spec (S : S27' pol sums) {n : Nat} {h : Hp} {i1 : Nat} {s : AV} {l : List Int} (hn : l.length + 8 ≤ n) (r1 : Row h i1 0 1 [s] true) (o : Ints h s l) (hb : l.length < 2 ^ 40) :
    Runs (qci Try.prog pol sums n (.func (.func 80) [] []) [.sl .nil 0 [], .func (.func 74) [] [.ptr i1 0 0]]) h (fun v h' => Keep h h' ∧ Ints h' v l ∧ growB v = true ∧ (l ≠ [] → qcv v ≠ []) ∧ (l = [] → v = .sl .nil 0 []) ∧ ∀ k ∈ qcv v, h.next ≤ k) := by
  apply Runs.wf
  intro w
  have s80 : sums 80 = none := S.rest _ (by decide)
  obtain ⟨n, rfl⟩ : ∃ m, n = m + 1 := ⟨n - 1, by omega⟩
  refine qc7 (by assumption) Try.func80 rfl (by simp [Try.f80]) ?_
  have a0 : qcc (qbw Try.f80.ntmps (([] ++ [.sl .nil 0 [], .func (.func 74) [] [.ptr i1 0 0]] ++ []) : List AV)) 0 = .sl .nil 0 [] := qbu rfl
  have a1 : qcc (qbw Try.f80.ntmps (([] ++ [.sl .nil 0 [], .func (.func 74) [] [.ptr i1 0 0]] ++ []) : List AV)) 1 = .func (.func 74) [] [.ptr i1 0 0] := qbu rfl
  generalize qbw Try.f80.ntmps (([] ++ [.sl .nil 0 [], .func (.func 74) [] [.ptr i1 0 0]] ++ []) : List AV) = T at *
  show Runs (qcd _ _ _ _ 13 _ _ _) _ _
  (repeat (first|apply qbi|apply qa9|(apply qa7;dsimp only[qbc,List.map,Nat.reduceAdd])|apply qbj|apply qbd|apply qbe|apply qbn|apply qbp|apply qbo|apply qa1|apply qau|apply qbb|apply qas|apply qaq|apply qam rfl|apply qaw|apply qar|apply qax|apply qay|apply qa2|apply qav|((first|apply qa8|apply qbg|apply qbh|apply qbm|apply qbf|apply qba|apply qa0|apply qal|apply qak|apply qat)<;>first|(apply qao;(repeat' first|assumption|exact qaa rfl|apply qaf rfl|apply qab);done)|exact qan _ _|exact qai _|exact qap _|exact qad|exact qag|exact qae|exact qac|exact qah _|exact qa4 _ (by omega)|exact qa3 (by omega)|exact qa5 (by omega)|exact rfl|assumption|apply qa6)|((first|apply qbl|apply qaz|apply qaj)<;>first|(apply qao;(repeat' first|assumption|exact qaa rfl|apply qaf rfl|apply qab);done)|exact qan _ _|exact qai _|exact qap _|exact qad|exact qag|exact qae|exact qac|exact qah _|exact qa4 _ (by omega)|exact qa3 (by omega)|exact qa5 (by omega)|exact rfl|assumption|apply qa6)|(apply qbk rfl rfl;(focus (repeat' first|assumption|exact qaa rfl|apply qaf rfl|apply qab);done))|(apply qb1 rfl rfl;(focus (repeat' first|assumption|exact qaa rfl|apply qaf rfl|apply qab);done);exact rfl)))
  apply O_box
  · (focus first|(apply qao;(repeat' first|assumption|exact qaa rfl|apply qaf rfl|apply qab);done)|exact qan _ _|exact qai _|exact qap _|exact qad|exact qag|exact qae|exact qac|exact qah _)
  · rfl
  intro g1 i2 k1 r2 l1 l2
  change Row g1 i2 0 1 [.sl .nil 0 []] true at r2
  (repeat (first|apply qbi|apply qa9|(apply qa7;dsimp only[qbc,List.map,Nat.reduceAdd])|apply qbj|apply qbd|apply qbe|apply qbn|apply qbp|apply qbo|apply qa1|apply qau|apply qbb|apply qas|apply qaq|apply qam rfl|apply qaw|apply qar|apply qax|apply qay|apply qa2|apply qav|((first|apply qa8|apply qbg|apply qbh|apply qbm|apply qbf|apply qba|apply qa0|apply qal|apply qak|apply qat)<;>first|(apply qao;(repeat' first|assumption|exact qaa rfl|apply qaf rfl|apply qab);done)|exact qan _ _|exact qai _|exact qap _|exact qad|exact qag|exact qae|exact qac|exact qah _|exact qa4 _ (by omega)|exact qa3 (by omega)|exact qa5 (by omega)|exact rfl|assumption|apply qa6)|((first|apply qbl|apply qaz|apply qaj)<;>first|(apply qao;(repeat' first|assumption|exact qaa rfl|apply qaf rfl|apply qab);done)|exact qan _ _|exact qai _|exact qap _|exact qad|exact qag|exact qae|exact qac|exact qah _|exact qa4 _ (by omega)|exact qa3 (by omega)|exact qa5 (by omega)|exact rfl|assumption|apply qa6)|(apply qbk rfl rfl;(focus (repeat' first|assumption|exact qaa rfl|apply qaf rfl|apply qab);done))|(apply qb1 rfl rfl;(focus (repeat' first|assumption|exact qaa rfl|apply qaf rfl|apply qab);done);exact rfl)))
  apply R_midB (fun T g => qcc T 2 = .ptr i2 0 0 ∧ KeepBut (h.next ≤ ·) h g ∧ ∃ v, Row g i2 0 1 [v] true ∧ Ints g v l ∧ growB v = true ∧ (l ≠ [] → qcv v ≠ []) ∧ (l = [] → v = .sl .nil 0 []) ∧ ∀ k ∈ qcv v, h.next ≤ k)
  · refine R_gen (fun T => qcc T 2 = .ptr i2 0 0 ∧ qcc T 6 = .func (.func 74) [] [.ptr i1 0 0]) ⟨by (repeat' first|assumption|exact qaa rfl|apply qaf rfl|apply qab), by (repeat' first|assumption|exact qaa rfl|apply qaf rfl|apply qab)⟩ ?_
    rintro T0 ⟨t2, t6⟩
    apply R_rangeFunc (F := .func (.func 74) [] [.ptr i1 0 0])
    · (focus first|(apply qao;(repeat' first|assumption|exact qaa rfl|apply qaf rfl|apply qab);done)|exact qan _ _|exact qai _|exact qap _|exact qad|exact qag|exact qae|exact qac|exact qah _)
    · rfl
    intro g2 lid k2 hl l3 l4
    have r2' := r2.keep k2
    have o1 := o.keep (k1.trans k2)
    refine (values1_spec S (l := l) (n := n) (by omega) (r1.keep (k1.trans k2)) (by omega) (fun i g => KeepBut (h.next ≤ ·) h g ∧ LoopAt g lid 80 13 T0 [7] (.region 2 #[⟨some 5, .assign (.tmp 7), 3, "iter.go:51", #[], none⟩] false) _ .ready none ∧ ∃ v, Row g i2 0 1 [v] true ∧ Ints g v (l.take i) ∧ growB v = true ∧ (0 < i → qcv v ≠ []) ∧ (i = 0 → v = .sl .nil 0 []) ∧ ∀ k ∈ qcv v, h.next ≤ k ∧ k ≠ i2 ∧ k ≠ lid) ⟨(k1.trans k2).but _, hl, _, r2', SlV.nil, rfl, fun c => absurd c (by omega), fun _ => rfl, by simp [qcv]⟩ (fun i g hg => o.old w hg.1) ?_).mono ?_
    · rintro i hi g m hm ⟨kp, hl, v, rv, sv, gv, nv, zv, iv⟩
      obtain ⟨m, rfl⟩ : ∃ q, m = q + 1 := ⟨m - 1, by omega⟩
      refine R_yield hl rfl ?_
      rw [aparams_cons, aparams_nil]
      (repeat (first|apply qbi|apply qa9|(apply qa7;dsimp only[qbc,List.map,Nat.reduceAdd])|apply qbj|apply qbd|apply qbe|apply qbn|apply qbp|apply qbo|apply qa1|apply qau|apply qbb|apply qas|apply qaq|apply qam rfl|apply qaw|apply qar|apply qax|apply qay|apply qa2|apply qav|((first|apply qa8|apply qbg|apply qbh|apply qbm|apply qbf|apply qba|apply qa0|apply qal|apply qak|apply qat)<;>first|(apply qao;(repeat' first|assumption|exact qaa rfl|apply qaf rfl|apply qab);done)|exact qan _ _|exact qai _|exact qap _|exact qad|exact qag|exact qae|exact qac|exact qah _|exact qa4 _ (by omega)|exact qa3 (by omega)|exact qa5 (by omega)|exact rfl|assumption|apply qa6)|((first|apply qbl|apply qaz|apply qaj)<;>first|(apply qao;(repeat' first|assumption|exact qaa rfl|apply qaf rfl|apply qab);done)|exact qan _ _|exact qai _|exact qap _|exact qad|exact qag|exact qae|exact qac|exact qah _|exact qa4 _ (by omega)|exact qa3 (by omega)|exact qa5 (by omega)|exact rfl|assumption|apply qa6)|(apply qbk rfl rfl;(focus (repeat' first|assumption|exact qaa rfl|apply qaf rfl|apply qab);done))|(apply qb1 rfl rfl;(focus (repeat' first|assumption|exact qaa rfl|apply qaf rfl|apply qab);done);exact rfl)))
      refine K_assign hl fun g3 kb3 hl3 => ?_
      have hne : i2 ≠ lid := by omega
      have rv3 := rv.keepBut kb3 hne
      have sv3 := sv.keepBut kb3 fun k hk => (iv k hk).2.2
      (repeat (first|apply qbi|apply qa9|(apply qa7;dsimp only[qbc,List.map,Nat.reduceAdd])|apply qbj|apply qbd|apply qbe|apply qbn|apply qbp|apply qbo|apply qa1|apply qau|apply qbb|apply qas|apply qaq|apply qam rfl|apply qaw|apply qar|apply qax|apply qay|apply qa2|apply qav|((first|apply qa8|apply qbg|apply qbh|apply qbm|apply qbf|apply qba|apply qa0|apply qal|apply qak|apply qat)<;>first|(apply qao;(repeat' first|assumption|exact qaa rfl|apply qaf rfl|apply qab);done)|exact qan _ _|exact qai _|exact qap _|exact qad|exact qag|exact qae|exact qac|exact qah _|exact qa4 _ (by omega)|exact qa3 (by omega)|exact qa5 (by omega)|exact rfl|assumption|apply qa6)|((first|apply qbl|apply qaz|apply qaj)<;>first|(apply qao;(repeat' first|assumption|exact qaa rfl|apply qaf rfl|apply qab);done)|exact qan _ _|exact qai _|exact qap _|exact qad|exact qag|exact qae|exact qac|exact qah _|exact qa4 _ (by omega)|exact qa3 (by omega)|exact qa5 (by omega)|exact rfl|assumption|apply qa6)|(apply qbk rfl rfl;(focus (repeat' first|assumption|exact qaa rfl|apply qaf rfl|apply qab);done))|(apply qb1 rfl rfl;(focus (repeat' first|assumption|exact qaa rfl|apply qaf rfl|apply qab);done);exact rfl)))
      apply qcp
      · exact qb8 (by (focus first|(apply qao;(repeat' first|assumption|exact qaa rfl|apply qaf rfl|apply qab);done)|exact qan _ _|exact qai _|exact qap _|exact qad|exact qag|exact qae|exact qac|exact qah _)) qcn
      · rfl
      · rfl
      · exact S.lit _ _
      intro _
      apply O_wf
      intro w3
      apply O_append (new := [.int .i64 l[i]]) (m := 1) (bytes := 8)
      · exact qbt (by (focus first|(apply qao;(repeat' first|assumption|exact qaa rfl|apply qaf rfl|apply qab);done)|exact qan _ _|exact qai _|exact qap _|exact qad|exact qag|exact qae|exact qac|exact qah _)) (qbt (by (focus first|(apply qao;(repeat' first|assumption|exact qaa rfl|apply qaf rfl|apply qab);done)|exact qan _ _|exact qai _|exact qap _|exact qad|exact qag|exact qae|exact qac|exact qah _)) qby)
      · exact sv3
      · exact gv
      · exact SlV.imm _ _ _ rfl
      · rfl
      · rfl
      · simp only [room, List.length_take]; omega
      intro v' g4 kb4 s4 gr4 iv4 ne4
      refine ⟨Undis.off rfl, ?_⟩
      have rv4 := rv3.keepBut kb4 fun q => (iv _ q).2.1 rfl
      (repeat (first|apply qbi|apply qa9|(apply qa7;dsimp only[qbc,List.map,Nat.reduceAdd])|apply qbj|apply qbd|apply qbe|apply qbn|apply qbp|apply qbo|apply qa1|apply qau|apply qbb|apply qas|apply qaq|apply qam rfl|apply qaw|apply qar|apply qax|apply qay|apply qa2|apply qav|((first|apply qa8|apply qbg|apply qbh|apply qbm|apply qbf|apply qba|apply qa0|apply qal|apply qak|apply qat)<;>first|(apply qao;(repeat' first|assumption|exact qaa rfl|apply qaf rfl|apply qab);done)|exact qan _ _|exact qai _|exact qap _|exact qad|exact qag|exact qae|exact qac|exact qah _|exact qa4 _ (by omega)|exact qa3 (by omega)|exact qa5 (by omega)|exact rfl|assumption|apply qa6)|((first|apply qbl|apply qaz|apply qaj)<;>first|(apply qao;(repeat' first|assumption|exact qaa rfl|apply qaf rfl|apply qab);done)|exact qan _ _|exact qai _|exact qap _|exact qad|exact qag|exact qae|exact qac|exact qah _|exact qa4 _ (by omega)|exact qa3 (by omega)|exact qa5 (by omega)|exact rfl|assumption|apply qa6)|(apply qbk rfl rfl;(focus (repeat' first|assumption|exact qaa rfl|apply qaf rfl|apply qab);done))|(apply qb1 rfl rfl;(focus (repeat' first|assumption|exact qaa rfl|apply qaf rfl|apply qab);done);exact rfl)))
      apply qcr
      · (focus first|(apply qao;(repeat' first|assumption|exact qaa rfl|apply qaf rfl|apply qab);done)|exact qan _ _|exact qai _|exact qap _|exact qad|exact qag|exact qae|exact qac|exact qah _)
      · (focus first|(apply qao;(repeat' first|assumption|exact qaa rfl|apply qaf rfl|apply qab);done)|exact qan _ _|exact qai _|exact qap _|exact qad|exact qag|exact qae|exact qac|exact qah _)
      · exact rv4
      · simp [s4.acells, s4.one, ones]
      intro g5 kb5 r5
      refine ⟨Undis.off rfl, ?_⟩
      rw [s4.acells] at r5
      change Row g5 i2 0 1 [v'] true at r5
      have hl4 := (hl3.keepBut kb4 fun q => (iv _ q).2.2 rfl).keepBut kb5 (fun q => hne q.symm)
      have hlid := hl3.lt w3
      have hi2 := rv3.lt w3
      have iv' : ∀ k ∈ qcv v', h.next ≤ k ∧ k ≠ i2 ∧ k ≠ lid := fun k hk => by
        rcases iv4 k hk with q | q
        · exact iv k q
        · refine ⟨?_, by omega, by omega⟩
          have := kp.next; have := kb3.next; omega
      have s5 := s4.keepBut kb5 fun k hk e => (iv' k hk).2.1 e
      (repeat (first|apply qbi|apply qa9|(apply qa7;dsimp only[qbc,List.map,Nat.reduceAdd])|apply qbj|apply qbd|apply qbe|apply qbn|apply qbp|apply qbo|apply qa1|apply qau|apply qbb|apply qas|apply qaq|apply qam rfl|apply qaw|apply qar|apply qax|apply qay|apply qa2|apply qav|((first|apply qa8|apply qbg|apply qbh|apply qbm|apply qbf|apply qba|apply qa0|apply qal|apply qak|apply qat)<;>first|(apply qao;(repeat' first|assumption|exact qaa rfl|apply qaf rfl|apply qab);done)|exact qan _ _|exact qai _|exact qap _|exact qad|exact qag|exact qae|exact qac|exact qah _|exact qa4 _ (by omega)|exact qa3 (by omega)|exact qa5 (by omega)|exact rfl|assumption|apply qa6)|((first|apply qbl|apply qaz|apply qaj)<;>first|(apply qao;(repeat' first|assumption|exact qaa rfl|apply qaf rfl|apply qab);done)|exact qan _ _|exact qai _|exact qap _|exact qad|exact qag|exact qae|exact qac|exact qah _|exact qa4 _ (by omega)|exact qa3 (by omega)|exact qa5 (by omega)|exact rfl|assumption|apply qa6)|(apply qbk rfl rfl;(focus (repeat' first|assumption|exact qaa rfl|apply qaf rfl|apply qab);done))|(apply qb1 rfl rfl;(focus (repeat' first|assumption|exact qaa rfl|apply qaf rfl|apply qab);done);exact rfl)))
      refine K_round_end hl4 fun g6 kb6 hl6 => ⟨rfl, ?_, hl6, v', r5.keepBut kb6 hne, ?_, gr4, fun _ => ne4 (by omega), fun c => (by omega), iv'⟩
      · exact (((kp.trans (kb3.weaken fun k hk => by subst hk; have := k1.next; omega)).trans (kb4.weaken fun k hk => (iv k hk).1)).trans (kb5.weaken fun k hk => by subst hk; exact l1)).trans (kb6.weaken fun k hk => by subst hk; have := k1.next; omega)
      · have s6 := s5.keepBut kb6 fun k hk e => (iv' k hk).2.2 e
        have e1 : ints (l.take (i + 1)) = ints (l.take i) ++ [.int .i64 l[i]] := by rw [List.take_succ_eq_append_getElem hi, ints_append]; rfl
        have e2 : (l.take (i + 1)).length = (l.take i).length + 1 := by simp; omega
        show SlV g6 1 v' (l.take (i + 1)).length (ints (l.take (i + 1)))
        rw [e1, e2]
        exact s6
    · rintro _ g ⟨kp, hl, v, rv, sv, gv, nv, zv, iv⟩
      rw [List.take_length] at sv
      refine ⟨.ready, none, hl, rfl, fun g3 kb3 => after_none ?_⟩
      (repeat (first|apply qbi|apply qa9|(apply qa7;dsimp only[qbc,List.map,Nat.reduceAdd])|apply qbj|apply qbd|apply qbe|apply qbn|apply qbp|apply qbo|apply qa1|apply qau|apply qbb|apply qas|apply qaq|apply qam rfl|apply qaw|apply qar|apply qax|apply qay|apply qa2|apply qav|((first|apply qa8|apply qbg|apply qbh|apply qbm|apply qbf|apply qba|apply qa0|apply qal|apply qak|apply qat)<;>first|(apply qao;(repeat' first|assumption|exact qaa rfl|apply qaf rfl|apply qab);done)|exact qan _ _|exact qai _|exact qap _|exact qad|exact qag|exact qae|exact qac|exact qah _|exact qa4 _ (by omega)|exact qa3 (by omega)|exact qa5 (by omega)|exact rfl|assumption|apply qa6)|((first|apply qbl|apply qaz|apply qaj)<;>first|(apply qao;(repeat' first|assumption|exact qaa rfl|apply qaf rfl|apply qab);done)|exact qan _ _|exact qai _|exact qap _|exact qad|exact qag|exact qae|exact qac|exact qah _|exact qa4 _ (by omega)|exact qa3 (by omega)|exact qa5 (by omega)|exact rfl|assumption|apply qa6)|(apply qbk rfl rfl;(focus (repeat' first|assumption|exact qaa rfl|apply qaf rfl|apply qab);done))|(apply qb1 rfl rfl;(focus (repeat' first|assumption|exact qaa rfl|apply qaf rfl|apply qab);done);exact rfl)))
      apply K_mid
      have hne : i2 ≠ lid := by omega
      refine ⟨t2, kp.trans (kb3.weaken fun k hk => by subst hk; have := k1.next; omega), v, rv.keepBut kb3 hne, sv.keepBut kb3 (fun k hk e => (iv k hk).2.2 e), gv, fun c => nv (List.length_pos_iff.2 c), fun c => zv (by rw [c]; rfl), fun k hk => (iv k hk).1⟩
  rintro T g ⟨t2, kp, v, r, q1, q2, q3, q4, q5⟩
  (repeat (first|apply qbi|apply qa9|(apply qa7;dsimp only[qbc,List.map,Nat.reduceAdd])|apply qbj|apply qbd|apply qbe|apply qbn|apply qbp|apply qbo|apply qa1|apply qau|apply qbb|apply qas|apply qaq|apply qam rfl|apply qaw|apply qar|apply qax|apply qay|apply qa2|apply qav|((first|apply qa8|apply qbg|apply qbh|apply qbm|apply qbf|apply qba|apply qa0|apply qal|apply qak|apply qat)<;>first|(apply qao;(repeat' first|assumption|exact qaa rfl|apply qaf rfl|apply qab);done)|exact qan _ _|exact qai _|exact qap _|exact qad|exact qag|exact qae|exact qac|exact qah _|exact qa4 _ (by omega)|exact qa3 (by omega)|exact qa5 (by omega)|exact rfl|assumption|apply qa6)|((first|apply qbl|apply qaz|apply qaj)<;>first|(apply qao;(repeat' first|assumption|exact qaa rfl|apply qaf rfl|apply qab);done)|exact qan _ _|exact qai _|exact qap _|exact qad|exact qag|exact qae|exact qac|exact qah _|exact qa4 _ (by omega)|exact qa3 (by omega)|exact qa5 (by omega)|exact rfl|assumption|apply qa6)|(apply qbk rfl rfl;(focus (repeat' first|assumption|exact qaa rfl|apply qaf rfl|apply qab);done))|(apply qb1 rfl rfl;(focus (repeat' first|assumption|exact qaa rfl|apply qaf rfl|apply qab);done);exact rfl)))
  (apply qb5 rfl; (repeat' first|assumption|exact qaa rfl|apply qaf rfl|apply qab))
  exact ⟨kp.toKeep w, q1, q2, q3, q4, q5⟩

theorem sort_spec (hs : sums 73 = some sortSum) {n : Nat} (hn : 1 ≤ n) {h : Hp} {v : AV} {l : List Int} (o : Ints h v l) (hg : growB v = true) (h1 : l ≠ [] → qcv v ≠ []) (h2 : l = [] → v = .sl .nil 0 []) (hb : l.length < 2 ^ 61) :
    Runs (qci Try.prog pol sums n (.func (.func 73) [] []) [v]) h (fun r h' => r = .tuple [] ∧ KeepBut (· ∈ qcv v) h h' ∧ Ints h' v (sortZ l)) := by
  obtain ⟨n, rfl⟩ : ∃ m, n = m + 1 := ⟨n - 1, by omega⟩
  refine R_sum hs ?_
  simp only [List.nil_append, List.append_nil]
  by_cases he : l = []
  · obtain rfl := h2 he
    subst he
    exact Runs.pure ⟨rfl, KeepBut.refl _, o⟩
  · obtain ⟨id, ver, fix, len, rfl, row, r, hlen, h3, h4⟩ := o.rowInts (h1 he) hg
    obtain ⟨k, hk⟩ : ∃ k, l.length = k + 1 := ⟨l.length - 1, by have := List.length_pos_iff.2 he; omega⟩
    rw [hk] at h3 h4 ⊢
    simp only [sortSum]
    obtain ⟨st, ho⟩ := r
    refine Runs.bind (Runs.row ho ?_)
    dsimp only
    rw [show (Nat.ble (0 + (k + 1)) row.length && Nat.blt (k + 1) 4611686018427387904) = true by simp [Nat.blt_eq]; omega, qb9, qbs, h4, intsOf_ints, ofOption_some', qbs]
    have hsl : (sortZ l).length = k + 1 := by rw [(sortZ_perm l).length_eq, hk]
    refine Runs.bind (Runs.hput ho (Nat.le_refl _) (Runs.pure ⟨rfl, (KeepBut.put _).weaken (by rintro i rfl; simp [qcv]), ?_⟩))
    have hfit : 0 + (ints (sortZ l)).length ≤ row.length := by simp; omega
    have := SlV.own (h := ⟨h.obj.set id (some ⟨ver, st + 1, .row 1 (splice row 0 (ints (sortZ l))) fix⟩), h.next⟩) (sz := 1) id ver 0 (k + 1) _ fix ⟨_, qct _ _ _ _⟩ (by rw [qda hfit]; omega)
    show SlV _ 1 _ (sortZ l).length (ints (sortZ l))
    rw [hsl]
    have e : ((splice row 0 (ints (sortZ l))).drop 0).take ((k + 1) * 1) = ints (sortZ l) := by
      have := splice_end hfit
      simp only [Nat.zero_add, ints_length, hsl, List.take_zero, List.nil_append] at this
      simpa using this
    rw [e] at this
    exact this

def wholeZ (order : List Int) (many : Nat) : Bool := decide (sortZ order = zs (List.range order.length)) && order.length == many
theorem whole_spec (S : S27' pol sums) {n : Nat} {h : Hp} {s : AV} {l : List Int} (hn : l.length + 12 ≤ n) (o : Ints h s l) (hb : l.length < 2 ^ 40) (many : Nat) :
    Runs (qci Try.prog pol sums n (.func (.func 28) [] []) [s, .int .i64 (many : Nat)]) h (fun v h' => Keep h h' ∧ v = .bool (wholeZ l many)) := by
  apply Runs.wf
  intro w
  have S' := S.rest
  have s28 : sums 28 = none := S' _ (by decide)
  obtain ⟨n, rfl⟩ : ∃ m, n = m + 1 := ⟨n - 1, by omega⟩
  refine qc7 (by assumption) Try.func28 rfl (by simp [Try.f28]) ?_
  have a0 : qcc (qbw Try.f28.ntmps (([] ++ [s, .int .i64 (many : Nat)] ++ []) : List AV)) 0 = s := qbu rfl
  have a1 : qcc (qbw Try.f28.ntmps (([] ++ [s, .int .i64 (many : Nat)] ++ []) : List AV)) 1 = .int .i64 (many : Nat) := qbu rfl
  generalize qbw Try.f28.ntmps (([] ++ [s, .int .i64 (many : Nat)] ++ []) : List AV) = T at *
  show Runs (qcd _ _ _ _ 26 _ _ _) _ _
  (repeat (first|apply qbi|apply qa9|(apply qa7;dsimp only[qbc,List.map,Nat.reduceAdd])|apply qbj|apply qbd|apply qbe|apply qbn|apply qbp|apply qbo|apply qa1|apply qau|apply qbb|apply qas|apply qaq|apply qam rfl|apply qaw|apply qar|apply qax|apply qay|apply qa2|apply qav|((first|apply qa8|apply qbg|apply qbh|apply qbm|apply qbf|apply qba|apply qa0|apply qal|apply qak|apply qat)<;>first|(apply qao;(repeat' first|assumption|exact qaa rfl|apply qaf rfl|apply qab);done)|exact qan _ _|exact qai _|exact qap _|exact qad|exact qag|exact qae|exact qac|exact qah _|exact qa4 _ (by omega)|exact qa3 (by omega)|exact qa5 (by omega)|exact rfl|assumption|apply qa6)|((first|apply qbl|apply qaz|apply qaj)<;>first|(apply qao;(repeat' first|assumption|exact qaa rfl|apply qaf rfl|apply qab);done)|exact qan _ _|exact qai _|exact qap _|exact qad|exact qag|exact qae|exact qac|exact qah _|exact qa4 _ (by omega)|exact qa3 (by omega)|exact qa5 (by omega)|exact rfl|assumption|apply qa6)|(apply qbk rfl rfl;(focus (repeat' first|assumption|exact qaa rfl|apply qaf rfl|apply qab);done))|(apply qb1 rfl rfl;(focus (repeat' first|assumption|exact qaa rfl|apply qaf rfl|apply qab);done);exact rfl)))
  (apply qcl; (focus first|(apply qao;(repeat' first|assumption|exact qaa rfl|apply qaf rfl|apply qab);done)|exact qan _ _|exact qai _|exact qap _|exact qad|exact qag|exact qae|exact qac|exact qah _); (repeat (apply qbt; (focus first|(apply qao;(repeat' first|assumption|exact qaa rfl|apply qaf rfl|apply qab);done)|exact qan _ _|exact qai _|exact qap _|exact qad|exact qag|exact qae|exact qac|exact qah _))); exact qby)
  have vals : ∀ g, Ints g s l → ∀ n, 1 ≤ n → Runs (qci Try.prog pol sums n (.func (.func 57) [] []) [s]) g (fun v g' => Keep g g' ∧ ∃ i1, v = .func (.func 74) [] [.ptr i1 0 0] ∧ Row g' i1 0 1 [s] true) := by
    intro g og n hn
    have s57 : sums 57 = none := S' _ (by decide)
    clear a0 a1
    obtain ⟨n, rfl⟩ : ∃ m, n = m + 1 := ⟨n - 1, by omega⟩
    refine qc7 (by assumption) Try.func57 rfl (by simp [Try.f57]) ?_
    have a0 : qcc (qbw Try.f57.ntmps (([] ++ [s] ++ []) : List AV)) 0 = s := qbu rfl
    generalize qbw Try.f57.ntmps (([] ++ [s] ++ []) : List AV) = T at *
    show Runs (qcd _ _ _ _ 4 _ _ _) _ _
    (repeat (first|apply qbi|apply qa9|(apply qa7;dsimp only[qbc,List.map,Nat.reduceAdd])|apply qbj|apply qbd|apply qbe|apply qbn|apply qbp|apply qbo|apply qa1|apply qau|apply qbb|apply qas|apply qaq|apply qam rfl|apply qaw|apply qar|apply qax|apply qay|apply qa2|apply qav|((first|apply qa8|apply qbg|apply qbh|apply qbm|apply qbf|apply qba|apply qa0|apply qal|apply qak|apply qat)<;>first|(apply qao;(repeat' first|assumption|exact qaa rfl|apply qaf rfl|apply qab);done)|exact qan _ _|exact qai _|exact qap _|exact qad|exact qag|exact qae|exact qac|exact qah _|exact qa4 _ (by omega)|exact qa3 (by omega)|exact qa5 (by omega)|exact rfl|assumption|apply qa6)|((first|apply qbl|apply qaz|apply qaj)<;>first|(apply qao;(repeat' first|assumption|exact qaa rfl|apply qaf rfl|apply qab);done)|exact qan _ _|exact qai _|exact qap _|exact qad|exact qag|exact qae|exact qac|exact qah _|exact qa4 _ (by omega)|exact qa3 (by omega)|exact qa5 (by omega)|exact rfl|assumption|apply qa6)|(apply qbk rfl rfl;(focus (repeat' first|assumption|exact qaa rfl|apply qaf rfl|apply qab);done))|(apply qb1 rfl rfl;(focus (repeat' first|assumption|exact qaa rfl|apply qaf rfl|apply qab);done);exact rfl)))
    apply O_box
    · (focus first|(apply qao;(repeat' first|assumption|exact qaa rfl|apply qaf rfl|apply qab);done)|exact qan _ _|exact qai _|exact qap _|exact qad|exact qag|exact qae|exact qac|exact qah _)
    · exact og.known
    intro g1 i1 k1 r1 l1 l2
    rw [og.acells] at r1
    (repeat (first|apply qbi|apply qa9|(apply qa7;dsimp only[qbc,List.map,Nat.reduceAdd])|apply qbj|apply qbd|apply qbe|apply qbn|apply qbp|apply qbo|apply qa1|apply qau|apply qbb|apply qas|apply qaq|apply qam rfl|apply qaw|apply qar|apply qax|apply qay|apply qa2|apply qav|((first|apply qa8|apply qbg|apply qbh|apply qbm|apply qbf|apply qba|apply qa0|apply qal|apply qak|apply qat)<;>first|(apply qao;(repeat' first|assumption|exact qaa rfl|apply qaf rfl|apply qab);done)|exact qan _ _|exact qai _|exact qap _|exact qad|exact qag|exact qae|exact qac|exact qah _|exact qa4 _ (by omega)|exact qa3 (by omega)|exact qa5 (by omega)|exact rfl|assumption|apply qa6)|((first|apply qbl|apply qaz|apply qaj)<;>first|(apply qao;(repeat' first|assumption|exact qaa rfl|apply qaf rfl|apply qab);done)|exact qan _ _|exact qai _|exact qap _|exact qad|exact qag|exact qae|exact qac|exact qah _|exact qa4 _ (by omega)|exact qa3 (by omega)|exact qa5 (by omega)|exact rfl|assumption|apply qa6)|(apply qbk rfl rfl;(focus (repeat' first|assumption|exact qaa rfl|apply qaf rfl|apply qab);done))|(apply qb1 rfl rfl;(focus (repeat' first|assumption|exact qaa rfl|apply qaf rfl|apply qab);done);exact rfl)))
    apply O_makeFunc (l1 := []) (l2 := [.ptr i1 0 0])
    · exact qby
    · exact qbt (by (focus first|(apply qao;(repeat' first|assumption|exact qaa rfl|apply qaf rfl|apply qab);done)|exact qan _ _|exact qai _|exact qap _|exact qad|exact qag|exact qae|exact qac|exact qah _)) qby
    (repeat (first|apply qbi|apply qa9|(apply qa7;dsimp only[qbc,List.map,Nat.reduceAdd])|apply qbj|apply qbd|apply qbe|apply qbn|apply qbp|apply qbo|apply qa1|apply qau|apply qbb|apply qas|apply qaq|apply qam rfl|apply qaw|apply qar|apply qax|apply qay|apply qa2|apply qav|((first|apply qa8|apply qbg|apply qbh|apply qbm|apply qbf|apply qba|apply qa0|apply qal|apply qak|apply qat)<;>first|(apply qao;(repeat' first|assumption|exact qaa rfl|apply qaf rfl|apply qab);done)|exact qan _ _|exact qai _|exact qap _|exact qad|exact qag|exact qae|exact qac|exact qah _|exact qa4 _ (by omega)|exact qa3 (by omega)|exact qa5 (by omega)|exact rfl|assumption|apply qa6)|((first|apply qbl|apply qaz|apply qaj)<;>first|(apply qao;(repeat' first|assumption|exact qaa rfl|apply qaf rfl|apply qab);done)|exact qan _ _|exact qai _|exact qap _|exact qad|exact qag|exact qae|exact qac|exact qah _|exact qa4 _ (by omega)|exact qa3 (by omega)|exact qa5 (by omega)|exact rfl|assumption|apply qa6)|(apply qbk rfl rfl;(focus (repeat' first|assumption|exact qaa rfl|apply qaf rfl|apply qab);done))|(apply qb1 rfl rfl;(focus (repeat' first|assumption|exact qaa rfl|apply qaf rfl|apply qab);done);exact rfl)))
    (apply qb5 rfl; (repeat' first|assumption|exact qaa rfl|apply qaf rfl|apply qab))
    exact ⟨k1, i1, rfl, r1⟩
  refine (vals h o n (by omega)).mono ?_
  rintro v g1 ⟨k1, i1, rfl, r1⟩
  refine ⟨Undis.off rfl, ?_⟩
  have o1 := o.keep k1
  have sorted : ∀ n, l.length + 11 ≤ n → Runs (qci Try.prog pol sums n (.func (.func 56) [] []) [.func (.func 74) [] [.ptr i1 0 0]]) g1 (fun v g' => Keep g1 g' ∧ Ints g' v (sortZ l)) := by
    intro n hn
    apply Runs.wf
    intro w1
    have s56 : sums 56 = none := S' _ (by decide)
    clear a0 a1
    obtain ⟨n, rfl⟩ : ∃ m, n = m + 1 := ⟨n - 1, by omega⟩
    refine qc7 (by assumption) Try.func56 rfl (by simp [Try.f56]) ?_
    have a0 : qcc (qbw Try.f56.ntmps (([] ++ [.func (.func 74) [] [.ptr i1 0 0]] ++ []) : List AV)) 0 = .func (.func 74) [] [.ptr i1 0 0] := qbu rfl
    generalize qbw Try.f56.ntmps (([] ++ [.func (.func 74) [] [.ptr i1 0 0]] ++ []) : List AV) = T at *
    show Runs (qcd _ _ _ _ 9 _ _ _) _ _
    (repeat (first|apply qbi|apply qa9|(apply qa7;dsimp only[qbc,List.map,Nat.reduceAdd])|apply qbj|apply qbd|apply qbe|apply qbn|apply qbp|apply qbo|apply qa1|apply qau|apply qbb|apply qas|apply qaq|apply qam rfl|apply qaw|apply qar|apply qax|apply qay|apply qa2|apply qav|((first|apply qa8|apply qbg|apply qbh|apply qbm|apply qbf|apply qba|apply qa0|apply qal|apply qak|apply qat)<;>first|(apply qao;(repeat' first|assumption|exact qaa rfl|apply qaf rfl|apply qab);done)|exact qan _ _|exact qai _|exact qap _|exact qad|exact qag|exact qae|exact qac|exact qah _|exact qa4 _ (by omega)|exact qa3 (by omega)|exact qa5 (by omega)|exact rfl|assumption|apply qa6)|((first|apply qbl|apply qaz|apply qaj)<;>first|(apply qao;(repeat' first|assumption|exact qaa rfl|apply qaf rfl|apply qab);done)|exact qan _ _|exact qai _|exact qap _|exact qad|exact qag|exact qae|exact qac|exact qah _|exact qa4 _ (by omega)|exact qa3 (by omega)|exact qa5 (by omega)|exact rfl|assumption|apply qa6)|(apply qbk rfl rfl;(focus (repeat' first|assumption|exact qaa rfl|apply qaf rfl|apply qab);done))|(apply qb1 rfl rfl;(focus (repeat' first|assumption|exact qaa rfl|apply qaf rfl|apply qab);done);exact rfl)))
    (apply qcl; (focus first|(apply qao;(repeat' first|assumption|exact qaa rfl|apply qaf rfl|apply qab);done)|exact qan _ _|exact qai _|exact qap _|exact qad|exact qag|exact qae|exact qac|exact qah _); (repeat (apply qbt; (focus first|(apply qao;(repeat' first|assumption|exact qaa rfl|apply qaf rfl|apply qab);done)|exact qan _ _|exact qai _|exact qap _|exact qad|exact qag|exact qae|exact qac|exact qah _))); exact qby)
    have coll : ∀ n, l.length + 10 ≤ n → Runs (qci Try.prog pol sums n (.func (.func 72) [] []) [.func (.func 74) [] [.ptr i1 0 0]]) g1 (fun v h' => Keep g1 h' ∧ Ints h' v l ∧ growB v = true ∧ (l ≠ [] → qcv v ≠ []) ∧ (l = [] → v = .sl .nil 0 []) ∧ ∀ k ∈ qcv v, g1.next ≤ k) := by
      intro n hn
      have s72 : sums 72 = none := S' _ (by decide)
      clear a0
      obtain ⟨n, rfl⟩ : ∃ m, n = m + 1 := ⟨n - 1, by omega⟩
      refine qc7 (by assumption) Try.func72 rfl (by simp [Try.f72]) ?_
      have a0 : qcc (qbw Try.f72.ntmps (([] ++ [.func (.func 74) [] [.ptr i1 0 0]] ++ []) : List AV)) 0 = .func (.func 74) [] [.ptr i1 0 0] := qbu rfl
      generalize qbw Try.f72.ntmps (([] ++ [.func (.func 74) [] [.ptr i1 0 0]] ++ []) : List AV) = T at *
      show Runs (qcd _ _ _ _ 5 _ _ _) _ _
      (repeat (first|apply qbi|apply qa9|(apply qa7;dsimp only[qbc,List.map,Nat.reduceAdd])|apply qbj|apply qbd|apply qbe|apply qbn|apply qbp|apply qbo|apply qa1|apply qau|apply qbb|apply qas|apply qaq|apply qam rfl|apply qaw|apply qar|apply qax|apply qay|apply qa2|apply qav|((first|apply qa8|apply qbg|apply qbh|apply qbm|apply qbf|apply qba|apply qa0|apply qal|apply qak|apply qat)<;>first|(apply qao;(repeat' first|assumption|exact qaa rfl|apply qaf rfl|apply qab);done)|exact qan _ _|exact qai _|exact qap _|exact qad|exact qag|exact qae|exact qac|exact qah _|exact qa4 _ (by omega)|exact qa3 (by omega)|exact qa5 (by omega)|exact rfl|assumption|apply qa6)|((first|apply qbl|apply qaz|apply qaj)<;>first|(apply qao;(repeat' first|assumption|exact qaa rfl|apply qaf rfl|apply qab);done)|exact qan _ _|exact qai _|exact qap _|exact qad|exact qag|exact qae|exact qac|exact qah _|exact qa4 _ (by omega)|exact qa3 (by omega)|exact qa5 (by omega)|exact rfl|assumption|apply qa6)|(apply qbk rfl rfl;(focus (repeat' first|assumption|exact qaa rfl|apply qaf rfl|apply qab);done))|(apply qb1 rfl rfl;(focus (repeat' first|assumption|exact qaa rfl|apply qaf rfl|apply qab);done);exact rfl)))
      (apply qcl; (focus first|(apply qao;(repeat' first|assumption|exact qaa rfl|apply qaf rfl|apply qab);done)|exact qan _ _|exact qai _|exact qap _|exact qad|exact qag|exact qae|exact qac|exact qah _); (repeat (apply qbt; (focus first|(apply qao;(repeat' first|assumption|exact qaa rfl|apply qaf rfl|apply qab);done)|exact qan _ _|exact qai _|exact qap _|exact qad|exact qag|exact qae|exact qac|exact qah _))); exact qby)
      refine (appendSeq_spec S (by omega) r1 o1 hb).mono ?_
      rintro v g2 ⟨k2, q⟩
      refine ⟨Undis.off rfl, ?_⟩
      (repeat (first|apply qbi|apply qa9|(apply qa7;dsimp only[qbc,List.map,Nat.reduceAdd])|apply qbj|apply qbd|apply qbe|apply qbn|apply qbp|apply qbo|apply qa1|apply qau|apply qbb|apply qas|apply qaq|apply qam rfl|apply qaw|apply qar|apply qax|apply qay|apply qa2|apply qav|((first|apply qa8|apply qbg|apply qbh|apply qbm|apply qbf|apply qba|apply qa0|apply qal|apply qak|apply qat)<;>first|(apply qao;(repeat' first|assumption|exact qaa rfl|apply qaf rfl|apply qab);done)|exact qan _ _|exact qai _|exact qap _|exact qad|exact qag|exact qae|exact qac|exact qah _|exact qa4 _ (by omega)|exact qa3 (by omega)|exact qa5 (by omega)|exact rfl|assumption|apply qa6)|((first|apply qbl|apply qaz|apply qaj)<;>first|(apply qao;(repeat' first|assumption|exact qaa rfl|apply qaf rfl|apply qab);done)|exact qan _ _|exact qai _|exact qap _|exact qad|exact qag|exact qae|exact qac|exact qah _|exact qa4 _ (by omega)|exact qa3 (by omega)|exact qa5 (by omega)|exact rfl|assumption|apply qa6)|(apply qbk rfl rfl;(focus (repeat' first|assumption|exact qaa rfl|apply qaf rfl|apply qab);done))|(apply qb1 rfl rfl;(focus (repeat' first|assumption|exact qaa rfl|apply qaf rfl|apply qab);done);exact rfl)))
      (apply qb5 rfl; (repeat' first|assumption|exact qaa rfl|apply qaf rfl|apply qab))
      exact ⟨k2, q⟩
    refine (coll n (by omega)).mono ?_
    rintro v g2 ⟨k2, q1, q2, q3, q4, q5⟩
    refine ⟨Undis.off rfl, ?_⟩
    (repeat (first|apply qbi|apply qa9|(apply qa7;dsimp only[qbc,List.map,Nat.reduceAdd])|apply qbj|apply qbd|apply qbe|apply qbn|apply qbp|apply qbo|apply qa1|apply qau|apply qbb|apply qas|apply qaq|apply qam rfl|apply qaw|apply qar|apply qax|apply qay|apply qa2|apply qav|((first|apply qa8|apply qbg|apply qbh|apply qbm|apply qbf|apply qba|apply qa0|apply qal|apply qak|apply qat)<;>first|(apply qao;(repeat' first|assumption|exact qaa rfl|apply qaf rfl|apply qab);done)|exact qan _ _|exact qai _|exact qap _|exact qad|exact qag|exact qae|exact qac|exact qah _|exact qa4 _ (by omega)|exact qa3 (by omega)|exact qa5 (by omega)|exact rfl|assumption|apply qa6)|((first|apply qbl|apply qaz|apply qaj)<;>first|(apply qao;(repeat' first|assumption|exact qaa rfl|apply qaf rfl|apply qab);done)|exact qan _ _|exact qai _|exact qap _|exact qad|exact qag|exact qae|exact qac|exact qah _|exact qa4 _ (by omega)|exact qa3 (by omega)|exact qa5 (by omega)|exact rfl|assumption|apply qa6)|(apply qbk rfl rfl;(focus (repeat' first|assumption|exact qaa rfl|apply qaf rfl|apply qab);done))|(apply qb1 rfl rfl;(focus (repeat' first|assumption|exact qaa rfl|apply qaf rfl|apply qab);done);exact rfl)))
    (apply qcl; (focus first|(apply qao;(repeat' first|assumption|exact qaa rfl|apply qaf rfl|apply qab);done)|exact qan _ _|exact qai _|exact qap _|exact qad|exact qag|exact qae|exact qac|exact qah _); (repeat (apply qbt; (focus first|(apply qao;(repeat' first|assumption|exact qaa rfl|apply qaf rfl|apply qab);done)|exact qan _ _|exact qai _|exact qap _|exact qad|exact qag|exact qae|exact qac|exact qah _))); exact qby)
    refine (sort_spec S.sort (by omega) q1 q2 q3 q4 (by omega)).mono ?_
    rintro r g3 ⟨rfl, kb3, s3⟩
    refine ⟨Undis.off rfl, ?_⟩
    (repeat (first|apply qbi|apply qa9|(apply qa7;dsimp only[qbc,List.map,Nat.reduceAdd])|apply qbj|apply qbd|apply qbe|apply qbn|apply qbp|apply qbo|apply qa1|apply qau|apply qbb|apply qas|apply qaq|apply qam rfl|apply qaw|apply qar|apply qax|apply qay|apply qa2|apply qav|((first|apply qa8|apply qbg|apply qbh|apply qbm|apply qbf|apply qba|apply qa0|apply qal|apply qak|apply qat)<;>first|(apply qao;(repeat' first|assumption|exact qaa rfl|apply qaf rfl|apply qab);done)|exact qan _ _|exact qai _|exact qap _|exact qad|exact qag|exact qae|exact qac|exact qah _|exact qa4 _ (by omega)|exact qa3 (by omega)|exact qa5 (by omega)|exact rfl|assumption|apply qa6)|((first|apply qbl|apply qaz|apply qaj)<;>first|(apply qao;(repeat' first|assumption|exact qaa rfl|apply qaf rfl|apply qab);done)|exact qan _ _|exact qai _|exact qap _|exact qad|exact qag|exact qae|exact qac|exact qah _|exact qa4 _ (by omega)|exact qa3 (by omega)|exact qa5 (by omega)|exact rfl|assumption|apply qa6)|(apply qbk rfl rfl;(focus (repeat' first|assumption|exact qaa rfl|apply qaf rfl|apply qab);done))|(apply qb1 rfl rfl;(focus (repeat' first|assumption|exact qaa rfl|apply qaf rfl|apply qab);done);exact rfl)))
    (apply qb5 rfl; (repeat' first|assumption|exact qaa rfl|apply qaf rfl|apply qab))
    exact ⟨KeepBut.keep k2 kb3 fun i hi => w1.get (q5 i hi), s3⟩
  (apply qcl; (focus first|(apply qao;(repeat' first|assumption|exact qaa rfl|apply qaf rfl|apply qab);done)|exact qan _ _|exact qai _|exact qap _|exact qad|exact qag|exact qae|exact qac|exact qah _); (repeat (apply qbt; (focus first|(apply qao;(repeat' first|assumption|exact qaa rfl|apply qaf rfl|apply qab);done)|exact qan _ _|exact qai _|exact qap _|exact qad|exact qag|exact qae|exact qac|exact qah _))); exact qby)
  refine (sorted n (by omega)).mono ?_
  rintro v g2 ⟨k2, s2⟩
  refine ⟨Undis.off rfl, ?_⟩
  have kk := k1.trans k2
  have hsl : (sortZ l).length = l.length := (sortZ_perm l).length_eq
  have s2' : SlV g2 1 v l.length (ints (sortZ l)) := by rw [← hsl]; exact s2
  (repeat (first|apply qbi|apply qa9|(apply qa7;dsimp only[qbc,List.map,Nat.reduceAdd])|apply qbj|apply qbd|apply qbe|apply qbn|apply qbp|apply qbo|apply qa1|apply qau|apply qbb|apply qas|apply qaq|apply qam rfl|apply qaw|apply qar|apply qax|apply qay|apply qa2|apply qav|((first|apply qa8|apply qbg|apply qbh|apply qbm|apply qbf|apply qba|apply qa0|apply qal|apply qak|apply qat)<;>first|(apply qao;(repeat' first|assumption|exact qaa rfl|apply qaf rfl|apply qab);done)|exact qan _ _|exact qai _|exact qap _|exact qad|exact qag|exact qae|exact qac|exact qah _|exact qa4 _ (by omega)|exact qa3 (by omega)|exact qa5 (by omega)|exact rfl|assumption|apply qa6)|((first|apply qbl|apply qaz|apply qaj)<;>first|(apply qao;(repeat' first|assumption|exact qaa rfl|apply qaf rfl|apply qab);done)|exact qan _ _|exact qai _|exact qap _|exact qad|exact qag|exact qae|exact qac|exact qah _|exact qa4 _ (by omega)|exact qa3 (by omega)|exact qa5 (by omega)|exact rfl|assumption|apply qa6)|(apply qbk rfl rfl;(focus (repeat' first|assumption|exact qaa rfl|apply qaf rfl|apply qab);done))|(apply qb1 rfl rfl;(focus (repeat' first|assumption|exact qaa rfl|apply qaf rfl|apply qab);done);exact rfl)))
  apply R_loop (k := l.length) (I := fun k T g => ∃ i, k = l.length - i ∧ i ≤ l.length ∧ qcc T 1 = .int .i64 (many : Nat) ∧ qcc T 5 = v ∧ qcc T 11 = v ∧ qcc T 12 = .int .i64 (l.length : Nat) ∧ qcc T 13 = .int .i64 (i : Nat) ∧ g = g2 ∧ (sortZ l).take i = (zs (List.range l.length)).take i)
  · omega
  · exact ⟨0, by omega, by omega, by (repeat' first|assumption|exact qaa rfl|apply qaf rfl|apply qab), by (repeat' first|assumption|exact qaa rfl|apply qaf rfl|apply qab), by (repeat' first|assumption|exact qaa rfl|apply qaf rfl|apply qab), by (repeat' first|assumption|exact qaa rfl|apply qaf rfl|apply qab), by (repeat' first|assumption|exact qaa rfl|apply qaf rfl|apply qab), rfl, by simp⟩
  · rintro k T g ⟨i, rfl, hi, t1, t5, t11, t12, t13, rfl, hp⟩
    (repeat (first|apply qbi|apply qa9|(apply qa7;dsimp only[qbc,List.map,Nat.reduceAdd])|apply qbj|apply qbd|apply qbe|apply qbn|apply qbp|apply qbo|apply qa1|apply qau|apply qbb|apply qas|apply qaq|apply qam rfl|apply qaw|apply qar|apply qax|apply qay|apply qa2|apply qav|((first|apply qa8|apply qbg|apply qbh|apply qbm|apply qbf|apply qba|apply qa0|apply qal|apply qak|apply qat)<;>first|(apply qao;(repeat' first|assumption|exact qaa rfl|apply qaf rfl|apply qab);done)|exact qan _ _|exact qai _|exact qap _|exact qad|exact qag|exact qae|exact qac|exact qah _|exact qa4 _ (by omega)|exact qa3 (by omega)|exact qa5 (by omega)|exact rfl|assumption|apply qa6)|((first|apply qbl|apply qaz|apply qaj)<;>first|(apply qao;(repeat' first|assumption|exact qaa rfl|apply qaf rfl|apply qab);done)|exact qan _ _|exact qai _|exact qap _|exact qad|exact qag|exact qae|exact qac|exact qah _|exact qa4 _ (by omega)|exact qa3 (by omega)|exact qa5 (by omega)|exact rfl|assumption|apply qa6)|(apply qbk rfl rfl;(focus (repeat' first|assumption|exact qaa rfl|apply qaf rfl|apply qab);done))|(apply qb1 rfl rfl;(focus (repeat' first|assumption|exact qaa rfl|apply qaf rfl|apply qab);done);exact rfl)))
    apply qcg (decide ((i : Int) < (l.length : Int)))
    · (focus first|(apply qao;(repeat' first|assumption|exact qaa rfl|apply qaf rfl|apply qab);done)|exact qan _ _|exact qai _|exact qap _|exact qad|exact qag|exact qae|exact qac|exact qah _)
    · intro c
      have hlt : i < l.length := by simpa using c
      have hlt' : i < (sortZ l).length := by omega
      (repeat (first|apply qbi|apply qa9|(apply qa7;dsimp only[qbc,List.map,Nat.reduceAdd])|apply qbj|apply qbd|apply qbe|apply qbn|apply qbp|apply qbo|apply qa1|apply qau|apply qbb|apply qas|apply qaq|apply qam rfl|apply qaw|apply qar|apply qax|apply qay|apply qa2|apply qav|((first|apply qa8|apply qbg|apply qbh|apply qbm|apply qbf|apply qba|apply qa0|apply qal|apply qak|apply qat)<;>first|(apply qao;(repeat' first|assumption|exact qaa rfl|apply qaf rfl|apply qab);done)|exact qan _ _|exact qai _|exact qap _|exact qad|exact qag|exact qae|exact qac|exact qah _|exact qa4 _ (by omega)|exact qa3 (by omega)|exact qa5 (by omega)|exact rfl|assumption|apply qa6)|((first|apply qbl|apply qaz|apply qaj)<;>first|(apply qao;(repeat' first|assumption|exact qaa rfl|apply qaf rfl|apply qab);done)|exact qan _ _|exact qai _|exact qap _|exact qad|exact qag|exact qae|exact qac|exact qah _|exact qa4 _ (by omega)|exact qa3 (by omega)|exact qa5 (by omega)|exact rfl|assumption|apply qa6)|(apply qbk rfl rfl;(focus (repeat' first|assumption|exact qaa rfl|apply qaf rfl|apply qab);done))|(apply qb1 rfl rfl;(focus (repeat' first|assumption|exact qaa rfl|apply qaf rfl|apply qab);done);exact rfl)))
      apply qca
      · (focus first|(apply qao;(repeat' first|assumption|exact qaa rfl|apply qaf rfl|apply qab);done)|exact qan _ _|exact qai _|exact qap _|exact qad|exact qag|exact qae|exact qac|exact qah _)
      · exact s2'
      · (focus first|(apply qao;(repeat' first|assumption|exact qaa rfl|apply qaf rfl|apply qab);done)|exact qan _ _|exact qai _|exact qap _|exact qad|exact qag|exact qae|exact qac|exact qah _)
      · omega
      · rfl
      intro a ha _
      rw [ints_at hlt'] at ha
      apply qc0
      · (focus first|(apply qao;(repeat' first|assumption|exact qaa rfl|apply qaf rfl|apply qab);done)|exact qan _ _|exact qai _|exact qap _|exact qad|exact qag|exact qae|exact qac|exact qah _)
      · exact ha
      (repeat (first|apply qbi|apply qa9|(apply qa7;dsimp only[qbc,List.map,Nat.reduceAdd])|apply qbj|apply qbd|apply qbe|apply qbn|apply qbp|apply qbo|apply qa1|apply qau|apply qbb|apply qas|apply qaq|apply qam rfl|apply qaw|apply qar|apply qax|apply qay|apply qa2|apply qav|((first|apply qa8|apply qbg|apply qbh|apply qbm|apply qbf|apply qba|apply qa0|apply qal|apply qak|apply qat)<;>first|(apply qao;(repeat' first|assumption|exact qaa rfl|apply qaf rfl|apply qab);done)|exact qan _ _|exact qai _|exact qap _|exact qad|exact qag|exact qae|exact qac|exact qah _|exact qa4 _ (by omega)|exact qa3 (by omega)|exact qa5 (by omega)|exact rfl|assumption|apply qa6)|((first|apply qbl|apply qaz|apply qaj)<;>first|(apply qao;(repeat' first|assumption|exact qaa rfl|apply qaf rfl|apply qab);done)|exact qan _ _|exact qai _|exact qap _|exact qad|exact qag|exact qae|exact qac|exact qah _|exact qa4 _ (by omega)|exact qa3 (by omega)|exact qa5 (by omega)|exact rfl|assumption|apply qa6)|(apply qbk rfl rfl;(focus (repeat' first|assumption|exact qaa rfl|apply qaf rfl|apply qab);done))|(apply qb1 rfl rfl;(focus (repeat' first|assumption|exact qaa rfl|apply qaf rfl|apply qab);done);exact rfl)))
      apply qcg ((i : Int) != (sortZ l)[i])
      · (focus first|(apply qao;(repeat' first|assumption|exact qaa rfl|apply qaf rfl|apply qab);done)|exact qan _ _|exact qai _|exact qap _|exact qad|exact qag|exact qae|exact qac|exact qah _)
      · intro c
        have c : (i : Int) ≠ (sortZ l)[i] := by simpa using c
        (repeat (first|apply qbi|apply qa9|(apply qa7;dsimp only[qbc,List.map,Nat.reduceAdd])|apply qbj|apply qbd|apply qbe|apply qbn|apply qbp|apply qbo|apply qa1|apply qau|apply qbb|apply qas|apply qaq|apply qam rfl|apply qaw|apply qar|apply qax|apply qay|apply qa2|apply qav|((first|apply qa8|apply qbg|apply qbh|apply qbm|apply qbf|apply qba|apply qa0|apply qal|apply qak|apply qat)<;>first|(apply qao;(repeat' first|assumption|exact qaa rfl|apply qaf rfl|apply qab);done)|exact qan _ _|exact qai _|exact qap _|exact qad|exact qag|exact qae|exact qac|exact qah _|exact qa4 _ (by omega)|exact qa3 (by omega)|exact qa5 (by omega)|exact rfl|assumption|apply qa6)|((first|apply qbl|apply qaz|apply qaj)<;>first|(apply qao;(repeat' first|assumption|exact qaa rfl|apply qaf rfl|apply qab);done)|exact qan _ _|exact qai _|exact qap _|exact qad|exact qag|exact qae|exact qac|exact qah _|exact qa4 _ (by omega)|exact qa3 (by omega)|exact qa5 (by omega)|exact rfl|assumption|apply qa6)|(apply qbk rfl rfl;(focus (repeat' first|assumption|exact qaa rfl|apply qaf rfl|apply qab);done))|(apply qb1 rfl rfl;(focus (repeat' first|assumption|exact qaa rfl|apply qaf rfl|apply qab);done);exact rfl)))
        (apply qb5 rfl; (repeat' first|assumption|exact qaa rfl|apply qaf rfl|apply qab))
        refine ⟨kk, ?_⟩
        have : sortZ l ≠ zs (List.range l.length) := fun e => by
          have h1 : (sortZ l)[i]? = (zs (List.range l.length))[i]? := by rw [e]
          rw [List.getElem?_eq_getElem hlt'] at h1
          simp [zs, hlt] at h1
          exact c h1.symm
        simp [wholeZ, this]
      · intro c
        have c : (i : Int) = (sortZ l)[i] := by simpa using c
        (repeat (first|apply qbi|apply qa9|(apply qa7;dsimp only[qbc,List.map,Nat.reduceAdd])|apply qbj|apply qbd|apply qbe|apply qbn|apply qbp|apply qbo|apply qa1|apply qau|apply qbb|apply qas|apply qaq|apply qam rfl|apply qaw|apply qar|apply qax|apply qay|apply qa2|apply qav|((first|apply qa8|apply qbg|apply qbh|apply qbm|apply qbf|apply qba|apply qa0|apply qal|apply qak|apply qat)<;>first|(apply qao;(repeat' first|assumption|exact qaa rfl|apply qaf rfl|apply qab);done)|exact qan _ _|exact qai _|exact qap _|exact qad|exact qag|exact qae|exact qac|exact qah _|exact qa4 _ (by omega)|exact qa3 (by omega)|exact qa5 (by omega)|exact rfl|assumption|apply qa6)|((first|apply qbl|apply qaz|apply qaj)<;>first|(apply qao;(repeat' first|assumption|exact qaa rfl|apply qaf rfl|apply qab);done)|exact qan _ _|exact qai _|exact qap _|exact qad|exact qag|exact qae|exact qac|exact qah _|exact qa4 _ (by omega)|exact qa3 (by omega)|exact qa5 (by omega)|exact rfl|assumption|apply qa6)|(apply qbk rfl rfl;(focus (repeat' first|assumption|exact qaa rfl|apply qaf rfl|apply qab);done))|(apply qb1 rfl rfl;(focus (repeat' first|assumption|exact qaa rfl|apply qaf rfl|apply qab);done);exact rfl)))
        apply K_loop (l.length - (i + 1)) (by omega)
        refine ⟨i + 1, rfl, by omega, by (repeat' first|assumption|exact qaa rfl|apply qaf rfl|apply qab), by (repeat' first|assumption|exact qaa rfl|apply qaf rfl|apply qab), by (repeat' first|assumption|exact qaa rfl|apply qaf rfl|apply qab), by (repeat' first|assumption|exact qaa rfl|apply qaf rfl|apply qab), by (repeat' first|assumption|exact qaa rfl|apply qaf rfl|apply qab), rfl, ?_⟩
        rw [List.take_succ_eq_append_getElem hlt', List.take_succ_eq_append_getElem (by simpa using hlt), hp, ← c]
        simp [zs]
    · intro c
      have : i = l.length := by have : ¬ i < l.length := by simpa using c
                                omega
      subst this
      have hp' : sortZ l = zs (List.range l.length) := by
        rw [List.take_of_length_le (by omega), List.take_of_length_le (by simp)] at hp
        exact hp
      (repeat (first|apply qbi|apply qa9|(apply qa7;dsimp only[qbc,List.map,Nat.reduceAdd])|apply qbj|apply qbd|apply qbe|apply qbn|apply qbp|apply qbo|apply qa1|apply qau|apply qbb|apply qas|apply qaq|apply qam rfl|apply qaw|apply qar|apply qax|apply qay|apply qa2|apply qav|((first|apply qa8|apply qbg|apply qbh|apply qbm|apply qbf|apply qba|apply qa0|apply qal|apply qak|apply qat)<;>first|(apply qao;(repeat' first|assumption|exact qaa rfl|apply qaf rfl|apply qab);done)|exact qan _ _|exact qai _|exact qap _|exact qad|exact qag|exact qae|exact qac|exact qah _|exact qa4 _ (by omega)|exact qa3 (by omega)|exact qa5 (by omega)|exact rfl|assumption|apply qa6)|((first|apply qbl|apply qaz|apply qaj)<;>first|(apply qao;(repeat' first|assumption|exact qaa rfl|apply qaf rfl|apply qab);done)|exact qan _ _|exact qai _|exact qap _|exact qad|exact qag|exact qae|exact qac|exact qah _|exact qa4 _ (by omega)|exact qa3 (by omega)|exact qa5 (by omega)|exact rfl|assumption|apply qa6)|(apply qbk rfl rfl;(focus (repeat' first|assumption|exact qaa rfl|apply qaf rfl|apply qab);done))|(apply qb1 rfl rfl;(focus (repeat' first|assumption|exact qaa rfl|apply qaf rfl|apply qab);done);exact rfl)))
      (apply qb5 rfl; (repeat' first|assumption|exact qaa rfl|apply qaf rfl|apply qab))
      refine ⟨kk, ?_⟩
      simp only [wholeZ, hp', decide_true, Bool.true_and]
      congr 1
      rw [Bool.eq_iff_iff]
      simp
      omega
end Go.Am
namespace Go.Am
open Go Go.Proofs AM
set_option maxRecDepth 10000
variable {pol : Pol} {sums : Sums}
attribute [local irreducible] KSeq KMid KBlock KLoop KOps KFunc Runs qcs qcd aopsM aop qci qcc qcx qcx? qbz qck qbw
attribute [local irreducible] KRound KAssign

abbrev stepC (place op : Int) (p : Ptn) (sv fv : AV) : List AV := [.int .i64 place, .int .i64 op] ++ ptnC p ++ [sv, fv]
theorem stepC_ones {place op : Int} {p : Ptn} {sv fv : AV} (h1 : one sv = true) (h2 : one fv = true) : ones (stepC place op p sv fv) = true := by
  simp [ones, h1, h2, show ∀ k c, one (.int k c) = true from fun _ _ => rfl, show ∀ s, one (.str s) = true from fun _ => rfl]
/-- the names that are known ahead of a step -/
def knownAt (pats : List Ptn) (order : List Nat) (i : Nat) : List Str := (order.take i).foldl (fun k j => match pats[j]? with | some p => learnZ k p | none => k) []
theorem knownAt_succ (pats : List Ptn) (order : List Nat) {i : Nat} (hi : i < order.length) (hp : order[i] < pats.length) : knownAt pats order (i + 1) = learnZ (knownAt pats order i) pats[order[i]] := by
  unfold knownAt
  rw [List.take_succ_eq_append_getElem hi, List.foldl_append]
  simp [hp]
theorem knownAt_length (pats : List Ptn) (order : List Nat) : ∀ i, (knownAt pats order i).length ≤ 3 * i := by
  intro i
  unfold knownAt
  have h : ∀ (l : List Nat) (k : List Str), (l.foldl (fun k j => match pats[j]? with | some p => learnZ k p | none => k) k).length ≤ k.length + 3 * l.length := by
    intro l
    induction l with
    | nil => intro k; simp
    | cons j l ih =>
      intro k
      simp only [List.foldl_cons, List.length_cons]
      cases pats[j]? with
      | none => have := ih k; simp only; omega
      | some p => have := ih (learnZ k p); have := learnZ_length k p; simp only; omega
  have := h (order.take i) []
  simp only [List.length_nil, List.length_take] at this
  omega

theorem each1_spec (S : S27' pol sums) {n : Nat} {h : Hp} {ip iq : Nat} {ov qv pv Y : AV} {order : List Nat} {pats : List Ptn} (hn : order.length + pats.length + 20 ≤ n) (hb : order.length < 2 ^ 30) (hb2 : pats.length < 2 ^ 30)
    (rp : Row h ip 0 2 [ov, qv] true) (rq : Row h iq 0 1 [pv] true) (oo : Ints h ov (zs order)) (po : Rows ptnC 15 h pv pats) (hor : ∀ i ∈ order, i < pats.length)
    (X : Nat → Prop) (hX : ∀ j, X j → j < h.next) (hXp : ¬ X ip) (hXq : ¬ X iq) (hXo : ∀ k ∈ qcv ov, ¬ X k) (hXpv : ∀ k ∈ qcv pv, ¬ X k)
    (opsF : Nat → List Int) (I : Nat → Hp → Prop) (Stop : Hp → Prop) (h0 : I 0 h) (hI : ∀ i g g', I i g → KeepBut (h.next ≤ ·) g g' → I i g') (hQ : ∀ i g, I i g → Ints g qv (opsF i)) (hQl : ∀ i, (opsF i).length = order.length)
    (hY : ∀ i (hi : i < order.length) (hp : order[i] < pats.length) g m sv fv, n ≤ m + 3 → I i g → Strs g sv (shared (knownAt pats order i) pats[order[i]]) → Strs g fv (fresh (knownAt pats order i) pats[order[i]]) →
      Runs (qci Try.prog pol sums m Y [.int .i64 (i : Nat), .agg (stepC (order[i] : Nat) ((opsF i)[i]'(by rw [hQl]; exact hi)) pats[order[i]] sv fv)]) g fun v g' => ∃ b, v = .bool b ∧ KeepBut X g g' ∧ (b = true → I (i + 1) g') ∧ (b = false → Stop g')) :
    Runs (qci Try.prog pol sums n (.func (.func 47) [] [.ptr ip 0 0, .ptr iq 0 0]) [Y]) h (fun _ g => KeepBut (fun j => X j ∨ h.next ≤ j) h g ∧ (I order.length g ∨ Stop g)) := by
  apply Runs.wf
  intro w
  have S' := S.rest
  have s47 : sums 47 = none := S' _ (by decide)
  obtain ⟨n, rfl⟩ : ∃ m, n = m + 1 := ⟨n - 1, by omega⟩
  refine qc7 (by assumption) Try.func47 rfl (by simp [Try.f47]) ?_
  have a0 : qcc (qbw Try.f47.ntmps (([] ++ [Y] ++ [.ptr ip 0 0, .ptr iq 0 0]) : List AV)) 0 = Y := qbu rfl
  have a1 : qcc (qbw Try.f47.ntmps (([] ++ [Y] ++ [.ptr ip 0 0, .ptr iq 0 0]) : List AV)) 1 = .ptr ip 0 0 := qbu rfl
  have a2 : qcc (qbw Try.f47.ntmps (([] ++ [Y] ++ [.ptr ip 0 0, .ptr iq 0 0]) : List AV)) 2 = .ptr iq 0 0 := qbu rfl
  generalize qbw Try.f47.ntmps (([] ++ [Y] ++ [.ptr ip 0 0, .ptr iq 0 0]) : List AV) = T at *
  show Runs (qcd _ _ _ _ 50 _ _ _) _ _
  (repeat (first|apply qbi|apply qa9|(apply qa7;dsimp only[qbc,List.map,Nat.reduceAdd])|apply qbj|apply qbd|apply qbe|apply qbn|apply qbp|apply qbo|apply qa1|apply qau|apply qbb|apply qas|apply qaq|apply qam rfl|apply qaw|apply qar|apply qax|apply qay|apply qa2|apply qav|((first|apply qa8|apply qbg|apply qbh|apply qbm|apply qbf|apply qba|apply qa0|apply qal|apply qak|apply qat)<;>first|(apply qao;(repeat' first|assumption|exact qaa rfl|apply qaf rfl|apply qab);done)|exact qan _ _|exact qai _|exact qap _|exact qad|exact qag|exact qae|exact qac|exact qah _|exact qa4 _ (by omega)|exact qa3 (by omega)|exact qa5 (by omega)|exact rfl|assumption|apply qa6)|((first|apply qbl|apply qaz|apply qaj)<;>first|(apply qao;(repeat' first|assumption|exact qaa rfl|apply qaf rfl|apply qab);done)|exact qan _ _|exact qai _|exact qap _|exact qad|exact qag|exact qae|exact qac|exact qah _|exact qa4 _ (by omega)|exact qa3 (by omega)|exact qa5 (by omega)|exact rfl|assumption|apply qa6)|(apply qbk rfl rfl;(focus (repeat' first|assumption|exact qaa rfl|apply qaf rfl|apply qab);done))|(apply qb1 rfl rfl;(focus (repeat' first|assumption|exact qaa rfl|apply qaf rfl|apply qab);done);exact rfl)))
  apply O_makeMap
  intro g1 mid k1 rm l1 l2
  apply O_build (c' := [.mapv mid])
  · exact qb8 (by (focus first|(apply qao;(repeat' first|assumption|exact qaa rfl|apply qaf rfl|apply qab);done)|exact qan _ _|exact qai _|exact qap _|exact qad|exact qag|exact qae|exact qac|exact qah _)) qcn
  · rfl
  apply O_wf
  intro w1
  apply O_alloc
  intro g2 i4 k2 r4 l3 l4
  apply qcr
  · (focus first|(apply qao;(repeat' first|assumption|exact qaa rfl|apply qaf rfl|apply qab);done)|exact qan _ _|exact qai _|exact qap _|exact qad|exact qag|exact qae|exact qac|exact qah _)
  · (focus first|(apply qao;(repeat' first|assumption|exact qaa rfl|apply qaf rfl|apply qab);done)|exact qan _ _|exact qai _|exact qap _|exact qad|exact qag|exact qae|exact qac|exact qah _)
  · exact r4
  · rfl
  intro g3 kb3 r4
  refine ⟨Undis.off rfl, ?_⟩
  change Row g3 i4 0 1 [.mapv mid] true at r4
  have k3 : Keep g1 g3 := KeepBut.keep k2 kb3 fun j hj => w1.get (by omega)
  have kk := k1.trans k3
  have rm3 := rm.keep k3
  have rp3 := rp.keep kk
  have oo3 := oo.keep kk
  (repeat (first|apply qbi|apply qa9|(apply qa7;dsimp only[qbc,List.map,Nat.reduceAdd])|apply qbj|apply qbd|apply qbe|apply qbn|apply qbp|apply qbo|apply qa1|apply qau|apply qbb|apply qas|apply qaq|apply qam rfl|apply qaw|apply qar|apply qax|apply qay|apply qa2|apply qav|((first|apply qa8|apply qbg|apply qbh|apply qbm|apply qbf|apply qba|apply qa0|apply qal|apply qak|apply qat)<;>first|(apply qao;(repeat' first|assumption|exact qaa rfl|apply qaf rfl|apply qab);done)|exact qan _ _|exact qai _|exact qap _|exact qad|exact qag|exact qae|exact qac|exact qah _|exact qa4 _ (by omega)|exact qa3 (by omega)|exact qa5 (by omega)|exact rfl|assumption|apply qa6)|((first|apply qbl|apply qaz|apply qaj)<;>first|(apply qao;(repeat' first|assumption|exact qaa rfl|apply qaf rfl|apply qab);done)|exact qan _ _|exact qai _|exact qap _|exact qad|exact qag|exact qae|exact qac|exact qah _|exact qa4 _ (by omega)|exact qa3 (by omega)|exact qa5 (by omega)|exact rfl|assumption|apply qa6)|(apply qbk rfl rfl;(focus (repeat' first|assumption|exact qaa rfl|apply qaf rfl|apply qab);done))|(apply qb1 rfl rfl;(focus (repeat' first|assumption|exact qaa rfl|apply qaf rfl|apply qab);done);exact rfl)))
  have hol : (zs order).length = order.length := qcf order
  have hip := rp.lt w
  have hiq := rq.lt w
  have hov := oo.lt w
  have hpv := po.lt w
  apply R_loop (k := order.length) (I := fun k T g => ∃ i c, k = order.length - i ∧ i ≤ order.length ∧ qcc T 0 = Y ∧ qcc T 1 = .ptr ip 0 0 ∧ qcc T 2 = .ptr iq 0 0 ∧ qcc T 4 = .ptr i4 0 0 ∧ qcc T 13 = ov ∧ qcc T 14 = .int .i64 ((zs order).length : Nat) ∧ qcc T 15 = .int .i64 (i : Nat) ∧
    KeepBut (fun j => X j ∨ h.next ≤ j) h g ∧ I i g ∧ Row g i4 0 1 [.mapv mid] true ∧ KnownAt g mid c (knownAt pats order i) ∧ c ≤ 3 * i)
  · omega
  · refine ⟨0, 0, by omega, by omega, by (repeat' first|assumption|exact qaa rfl|apply qaf rfl|apply qab), by (repeat' first|assumption|exact qaa rfl|apply qaf rfl|apply qab), by (repeat' first|assumption|exact qaa rfl|apply qaf rfl|apply qab), by (repeat' first|assumption|exact qaa rfl|apply qaf rfl|apply qab), by (repeat' first|assumption|exact qaa rfl|apply qaf rfl|apply qab), by (repeat' first|assumption|exact qaa rfl|apply qaf rfl|apply qab), by (repeat' first|assumption|exact qaa rfl|apply qaf rfl|apply qab), kk.but _, hI 0 h g3 h0 (kk.but _), r4, ⟨[], rm3, rfl, by simp⟩, by omega⟩
  · rintro k T g ⟨i, c, rfl, hi, t0, t1, t2, t4, t13, t14, t15, kp, hIi, r4, kn, hci⟩
    (repeat (first|apply qbi|apply qa9|(apply qa7;dsimp only[qbc,List.map,Nat.reduceAdd])|apply qbj|apply qbd|apply qbe|apply qbn|apply qbp|apply qbo|apply qa1|apply qau|apply qbb|apply qas|apply qaq|apply qam rfl|apply qaw|apply qar|apply qax|apply qay|apply qa2|apply qav|((first|apply qa8|apply qbg|apply qbh|apply qbm|apply qbf|apply qba|apply qa0|apply qal|apply qak|apply qat)<;>first|(apply qao;(repeat' first|assumption|exact qaa rfl|apply qaf rfl|apply qab);done)|exact qan _ _|exact qai _|exact qap _|exact qad|exact qag|exact qae|exact qac|exact qah _|exact qa4 _ (by omega)|exact qa3 (by omega)|exact qa5 (by omega)|exact rfl|assumption|apply qa6)|((first|apply qbl|apply qaz|apply qaj)<;>first|(apply qao;(repeat' first|assumption|exact qaa rfl|apply qaf rfl|apply qab);done)|exact qan _ _|exact qai _|exact qap _|exact qad|exact qag|exact qae|exact qac|exact qah _|exact qa4 _ (by omega)|exact qa3 (by omega)|exact qa5 (by omega)|exact rfl|assumption|apply qa6)|(apply qbk rfl rfl;(focus (repeat' first|assumption|exact qaa rfl|apply qaf rfl|apply qab);done))|(apply qb1 rfl rfl;(focus (repeat' first|assumption|exact qaa rfl|apply qaf rfl|apply qab);done);exact rfl)))
    apply qcg (decide ((i : Int) < ((zs order).length : Int)))
    · (focus first|(apply qao;(repeat' first|assumption|exact qaa rfl|apply qaf rfl|apply qab);done)|exact qan _ _|exact qai _|exact qap _|exact qad|exact qag|exact qae|exact qac|exact qah _)
    · intro cc
      have hlt : i < order.length := by simpa using cc
      have hpl := hor order[i] (List.getElem_mem hlt)
      have hnx : ∀ j, ¬ X j → j < h.next → ¬ (X j ∨ h.next ≤ j) := fun j h1 h2 h3 => by rcases h3 with q | q; exact h1 q; omega
      have og := oo.keepBut kp fun j hj => hnx j (hXo j hj) (hov j hj)
      have pg := po.keepBut kp fun j hj => hnx j (hXpv j hj) (hpv j hj)
      have rqg := rq.keepBut kp (hnx _ hXq hiq)
      (repeat (first|apply qbi|apply qa9|(apply qa7;dsimp only[qbc,List.map,Nat.reduceAdd])|apply qbj|apply qbd|apply qbe|apply qbn|apply qbp|apply qbo|apply qa1|apply qau|apply qbb|apply qas|apply qaq|apply qam rfl|apply qaw|apply qar|apply qax|apply qay|apply qa2|apply qav|((first|apply qa8|apply qbg|apply qbh|apply qbm|apply qbf|apply qba|apply qa0|apply qal|apply qak|apply qat)<;>first|(apply qao;(repeat' first|assumption|exact qaa rfl|apply qaf rfl|apply qab);done)|exact qan _ _|exact qai _|exact qap _|exact qad|exact qag|exact qae|exact qac|exact qah _|exact qa4 _ (by omega)|exact qa3 (by omega)|exact qa5 (by omega)|exact rfl|assumption|apply qa6)|((first|apply qbl|apply qaz|apply qaj)<;>first|(apply qao;(repeat' first|assumption|exact qaa rfl|apply qaf rfl|apply qab);done)|exact qan _ _|exact qai _|exact qap _|exact qad|exact qag|exact qae|exact qac|exact qah _|exact qa4 _ (by omega)|exact qa3 (by omega)|exact qa5 (by omega)|exact rfl|assumption|apply qa6)|(apply qbk rfl rfl;(focus (repeat' first|assumption|exact qaa rfl|apply qaf rfl|apply qab);done))|(apply qb1 rfl rfl;(focus (repeat' first|assumption|exact qaa rfl|apply qaf rfl|apply qab);done);exact rfl)))
      apply qca
      · (focus first|(apply qao;(repeat' first|assumption|exact qaa rfl|apply qaf rfl|apply qab);done)|exact qan _ _|exact qai _|exact qap _|exact qad|exact qag|exact qae|exact qac|exact qah _)
      · exact og
      · (focus first|(apply qao;(repeat' first|assumption|exact qaa rfl|apply qaf rfl|apply qab);done)|exact qan _ _|exact qai _|exact qap _|exact qad|exact qag|exact qae|exact qac|exact qah _)
      · omega
      · rfl
      intro a ha _
      rw [ints_at (l := zs order) (i := i) (by omega)] at ha
      have hzi : (zs order)[i]'(by omega) = (order[i] : Nat) := by simp [zs]
      rw [hzi] at ha
      apply qc0
      · (focus first|(apply qao;(repeat' first|assumption|exact qaa rfl|apply qaf rfl|apply qab);done)|exact qan _ _|exact qai _|exact qap _|exact qad|exact qag|exact qae|exact qac|exact qah _)
      · exact ha
      (repeat (first|apply qbi|apply qa9|(apply qa7;dsimp only[qbc,List.map,Nat.reduceAdd])|apply qbj|apply qbd|apply qbe|apply qbn|apply qbp|apply qbo|apply qa1|apply qau|apply qbb|apply qas|apply qaq|apply qam rfl|apply qaw|apply qar|apply qax|apply qay|apply qa2|apply qav|((first|apply qa8|apply qbg|apply qbh|apply qbm|apply qbf|apply qba|apply qa0|apply qal|apply qak|apply qat)<;>first|(apply qao;(repeat' first|assumption|exact qaa rfl|apply qaf rfl|apply qab);done)|exact qan _ _|exact qai _|exact qap _|exact qad|exact qag|exact qae|exact qac|exact qah _|exact qa4 _ (by omega)|exact qa3 (by omega)|exact qa5 (by omega)|exact rfl|assumption|apply qa6)|((first|apply qbl|apply qaz|apply qaj)<;>first|(apply qao;(repeat' first|assumption|exact qaa rfl|apply qaf rfl|apply qab);done)|exact qan _ _|exact qai _|exact qap _|exact qad|exact qag|exact qae|exact qac|exact qah _|exact qa4 _ (by omega)|exact qa3 (by omega)|exact qa5 (by omega)|exact rfl|assumption|apply qa6)|(apply qbk rfl rfl;(focus (repeat' first|assumption|exact qaa rfl|apply qaf rfl|apply qab);done))|(apply qb1 rfl rfl;(focus (repeat' first|assumption|exact qaa rfl|apply qaf rfl|apply qab);done);exact rfl)))
      apply qca
      · (focus first|(apply qao;(repeat' first|assumption|exact qaa rfl|apply qaf rfl|apply qab);done)|exact qan _ _|exact qai _|exact qap _|exact qad|exact qag|exact qae|exact qac|exact qah _)
      · exact pg
      · (focus first|(apply qao;(repeat' first|assumption|exact qaa rfl|apply qaf rfl|apply qab);done)|exact qan _ _|exact qai _|exact qap _|exact qad|exact qag|exact qae|exact qac|exact qah _)
      · exact hpl
      · rfl
      intro a2 ha2 _
      rw [flat_at ptnC_len hpl] at ha2
      apply O_load_agg
      · (focus first|(apply qao;(repeat' first|assumption|exact qaa rfl|apply qaf rfl|apply qab);done)|exact qan _ _|exact qai _|exact qap _|exact qad|exact qag|exact qae|exact qac|exact qah _)
      · exact ha2
      · rfl
      apply O_wf
      intro wg
      apply O_alloc
      intro g5 i7 k5 r7 l7 l8
      apply qcr
      · (focus first|(apply qao;(repeat' first|assumption|exact qaa rfl|apply qaf rfl|apply qab);done)|exact qan _ _|exact qai _|exact qap _|exact qad|exact qag|exact qae|exact qac|exact qah _)
      · (focus first|(apply qao;(repeat' first|assumption|exact qaa rfl|apply qaf rfl|apply qab);done)|exact qan _ _|exact qai _|exact qap _|exact qad|exact qag|exact qae|exact qac|exact qah _)
      · exact r7
      · rfl
      intro g6 kb6 r7
      refine ⟨Undis.off rfl, ?_⟩
      change Row g6 i7 0 15 (ptnC pats[order[i]]) true at r7
      have k6 : Keep g g6 := KeepBut.keep k5 kb6 fun j hj => wg.get (by omega)
      have r4' := r4.keep k6
      have kn' := kn.keep k6
      have hgn : h.next ≤ g.next := kp.next
      (repeat (first|apply qbi|apply qa9|(apply qa7;dsimp only[qbc,List.map,Nat.reduceAdd])|apply qbj|apply qbd|apply qbe|apply qbn|apply qbp|apply qbo|apply qa1|apply qau|apply qbb|apply qas|apply qaq|apply qam rfl|apply qaw|apply qar|apply qax|apply qay|apply qa2|apply qav|((first|apply qa8|apply qbg|apply qbh|apply qbm|apply qbf|apply qba|apply qa0|apply qal|apply qak|apply qat)<;>first|(apply qao;(repeat' first|assumption|exact qaa rfl|apply qaf rfl|apply qab);done)|exact qan _ _|exact qai _|exact qap _|exact qad|exact qag|exact qae|exact qac|exact qah _|exact qa4 _ (by omega)|exact qa3 (by omega)|exact qa5 (by omega)|exact rfl|assumption|apply qa6)|((first|apply qbl|apply qaz|apply qaj)<;>first|(apply qao;(repeat' first|assumption|exact qaa rfl|apply qaf rfl|apply qab);done)|exact qan _ _|exact qai _|exact qap _|exact qad|exact qag|exact qae|exact qac|exact qah _|exact qa4 _ (by omega)|exact qa3 (by omega)|exact qa5 (by omega)|exact rfl|assumption|apply qa6)|(apply qbk rfl rfl;(focus (repeat' first|assumption|exact qaa rfl|apply qaf rfl|apply qab);done))|(apply qb1 rfl rfl;(focus (repeat' first|assumption|exact qaa rfl|apply qaf rfl|apply qab);done);exact rfl)))
      apply qb2 (n := 1)
      · (focus first|(apply qao;(repeat' first|assumption|exact qaa rfl|apply qaf rfl|apply qab);done)|exact qan _ _|exact qai _|exact qap _|exact qad|exact qag|exact qae|exact qac|exact qah _)
      · exact r4'
      · rfl
      · exact rfl
      apply qb2 (n := 15)
      · (focus first|(apply qao;(repeat' first|assumption|exact qaa rfl|apply qaf rfl|apply qab);done)|exact qan _ _|exact qai _|exact qap _|exact qad|exact qag|exact qae|exact qac|exact qah _)
      · exact r7
      · rfl
      · exact rfl
      (apply qcl; (focus first|(apply qao;(repeat' first|assumption|exact qaa rfl|apply qaf rfl|apply qab);done)|exact qan _ _|exact qai _|exact qap _|exact qad|exact qag|exact qae|exact qac|exact qah _); (repeat (apply qbt; (focus first|(apply qao;(repeat' first|assumption|exact qaa rfl|apply qaf rfl|apply qab);done)|exact qan _ _|exact qai _|exact qap _|exact qad|exact qag|exact qae|exact qac|exact qah _))); exact qby)
      refine (parts_spec S.lit (S' _ (by decide)) (S' _ (by decide)) (S' _ (by decide)) (S' _ (by decide)) S.has (by omega) kn' pats[order[i]]).mono ?_
      rintro v g7 ⟨k7, sv, fv, rfl, ss, sf⟩
      refine ⟨Undis.off rfl, ?_⟩
      have k67 := k6.trans k7
      have I7 := hI i g g7 hIi (k67.but _)
      have q7 := hQ i g7 I7
      have r7' := r7.keep k7
      have r4'' := r4'.keep k7
      have kn'' := kn'.keep k7
      have kp7 : KeepBut (fun j => X j ∨ h.next ≤ j) h g7 := kp.trans (k67.but _)
      have rpg := rp.keepBut kp7 (hnx _ hXp hip)
      have hql := hQl i
      (repeat (first|apply qbi|apply qa9|(apply qa7;dsimp only[qbc,List.map,Nat.reduceAdd])|apply qbj|apply qbd|apply qbe|apply qbn|apply qbp|apply qbo|apply qa1|apply qau|apply qbb|apply qas|apply qaq|apply qam rfl|apply qaw|apply qar|apply qax|apply qay|apply qa2|apply qav|((first|apply qa8|apply qbg|apply qbh|apply qbm|apply qbf|apply qba|apply qa0|apply qal|apply qak|apply qat)<;>first|(apply qao;(repeat' first|assumption|exact qaa rfl|apply qaf rfl|apply qab);done)|exact qan _ _|exact qai _|exact qap _|exact qad|exact qag|exact qae|exact qac|exact qah _|exact qa4 _ (by omega)|exact qa3 (by omega)|exact qa5 (by omega)|exact rfl|assumption|apply qa6)|((first|apply qbl|apply qaz|apply qaj)<;>first|(apply qao;(repeat' first|assumption|exact qaa rfl|apply qaf rfl|apply qab);done)|exact qan _ _|exact qai _|exact qap _|exact qad|exact qag|exact qae|exact qac|exact qah _|exact qa4 _ (by omega)|exact qa3 (by omega)|exact qa5 (by omega)|exact rfl|assumption|apply qa6)|(apply qbk rfl rfl;(focus (repeat' first|assumption|exact qaa rfl|apply qaf rfl|apply qab);done))|(apply qb1 rfl rfl;(focus (repeat' first|assumption|exact qaa rfl|apply qaf rfl|apply qab);done);exact rfl)))
      (refine R_drawn [0, 1, 2, 3, 4, 5, 6, 7, 8, 9, 10, 11, 12, 13] [0, 0, 0, 0, 8, 0, 56, 120, 0, 0, 0, 2044, 4095, 8191] (by kernel_rfl) (by kernel_rfl) (by rfl) ?_; dsimp only [qc9, List.map, List.getElem?_cons_zero, List.getElem?_cons_succ])
      (repeat (first|apply qbi|apply qa9|(apply qa7;dsimp only[qbc,List.map,Nat.reduceAdd])|apply qbj|apply qbd|apply qbe|apply qbn|apply qbp|apply qbo|apply qa1|apply qau|apply qbb|apply qas|apply qaq|apply qam rfl|apply qaw|apply qar|apply qax|apply qay|apply qa2|apply qav|((first|apply qa8|apply qbg|apply qbh|apply qbm|apply qbf|apply qba|apply qa0|apply qal|apply qak|apply qat)<;>first|(apply qao;(repeat' first|assumption|exact qaa rfl|apply qaf rfl|apply qab);done)|exact qan _ _|exact qai _|exact qap _|exact qad|exact qag|exact qae|exact qac|exact qah _|exact qa4 _ (by omega)|exact qa3 (by omega)|exact qa5 (by omega)|exact rfl|assumption|apply qa6)|((first|apply qbl|apply qaz|apply qaj)<;>first|(apply qao;(repeat' first|assumption|exact qaa rfl|apply qaf rfl|apply qab);done)|exact qan _ _|exact qai _|exact qap _|exact qad|exact qag|exact qae|exact qac|exact qah _|exact qa4 _ (by omega)|exact qa3 (by omega)|exact qa5 (by omega)|exact rfl|assumption|apply qa6)|(apply qbk rfl rfl;(focus (repeat' first|assumption|exact qaa rfl|apply qaf rfl|apply qab);done))|(apply qb1 rfl rfl;(focus (repeat' first|assumption|exact qaa rfl|apply qaf rfl|apply qab);done);exact rfl)))
      apply qca
      · (focus first|(apply qao;(repeat' first|assumption|exact qaa rfl|apply qaf rfl|apply qab);done)|exact qan _ _|exact qai _|exact qap _|exact qad|exact qag|exact qae|exact qac|exact qah _)
      · exact q7
      · (focus first|(apply qao;(repeat' first|assumption|exact qaa rfl|apply qaf rfl|apply qab);done)|exact qan _ _|exact qai _|exact qap _|exact qad|exact qag|exact qae|exact qac|exact qah _)
      · omega
      · rfl
      intro a3 ha3 _
      rw [ints_at (l := opsF i) (i := i) (by omega)] at ha3
      apply qc0
      · (focus first|(apply qao;(repeat' first|assumption|exact qaa rfl|apply qaf rfl|apply qab);done)|exact qan _ _|exact qai _|exact qap _|exact qad|exact qag|exact qae|exact qac|exact qah _)
      · exact ha3
      apply qb2 (n := 15)
      · (focus first|(apply qao;(repeat' first|assumption|exact qaa rfl|apply qaf rfl|apply qab);done)|exact qan _ _|exact qai _|exact qap _|exact qad|exact qag|exact qae|exact qac|exact qah _)
      · exact r7'
      · rfl
      · exact rfl
      (repeat (first|apply qbi|apply qa9|(apply qa7;dsimp only[qbc,List.map,Nat.reduceAdd])|apply qbj|apply qbd|apply qbe|apply qbn|apply qbp|apply qbo|apply qa1|apply qau|apply qbb|apply qas|apply qaq|apply qam rfl|apply qaw|apply qar|apply qax|apply qay|apply qa2|apply qav|((first|apply qa8|apply qbg|apply qbh|apply qbm|apply qbf|apply qba|apply qa0|apply qal|apply qak|apply qat)<;>first|(apply qao;(repeat' first|assumption|exact qaa rfl|apply qaf rfl|apply qab);done)|exact qan _ _|exact qai _|exact qap _|exact qad|exact qag|exact qae|exact qac|exact qah _|exact qa4 _ (by omega)|exact qa3 (by omega)|exact qa5 (by omega)|exact rfl|assumption|apply qa6)|((first|apply qbl|apply qaz|apply qaj)<;>first|(apply qao;(repeat' first|assumption|exact qaa rfl|apply qaf rfl|apply qab);done)|exact qan _ _|exact qai _|exact qap _|exact qad|exact qag|exact qae|exact qac|exact qah _|exact qa4 _ (by omega)|exact qa3 (by omega)|exact qa5 (by omega)|exact rfl|assumption|apply qa6)|(apply qbk rfl rfl;(focus (repeat' first|assumption|exact qaa rfl|apply qaf rfl|apply qab);done))|(apply qb1 rfl rfl;(focus (repeat' first|assumption|exact qaa rfl|apply qaf rfl|apply qab);done);exact rfl)))
      apply O_build (c' := stepC (order[i] : Nat) ((opsF i)[i]'(by omega)) pats[order[i]] sv fv)
      · exact qb8 (by (focus first|(apply qao;(repeat' first|assumption|exact qaa rfl|apply qaf rfl|apply qab);done)|exact qan _ _|exact qai _|exact qap _|exact qad|exact qag|exact qae|exact qac|exact qah _)) (qb8 (by (focus first|(apply qao;(repeat' first|assumption|exact qaa rfl|apply qaf rfl|apply qab);done)|exact qan _ _|exact qai _|exact qap _|exact qad|exact qag|exact qae|exact qac|exact qah _)) (qb8 (by (focus first|(apply qao;(repeat' first|assumption|exact qaa rfl|apply qaf rfl|apply qab);done)|exact qan _ _|exact qai _|exact qap _|exact qad|exact qag|exact qae|exact qac|exact qah _)) (qb8 (by (focus first|(apply qao;(repeat' first|assumption|exact qaa rfl|apply qaf rfl|apply qab);done)|exact qan _ _|exact qai _|exact qap _|exact qad|exact qag|exact qae|exact qac|exact qah _)) (qb8 (by (focus first|(apply qao;(repeat' first|assumption|exact qaa rfl|apply qaf rfl|apply qab);done)|exact qan _ _|exact qai _|exact qap _|exact qad|exact qag|exact qae|exact qac|exact qah _)) qcn))))
      · simp [afillL, splice, ss.acells, sf.acells, ss.known, sf.known, show ∀ c, acells (.agg c) = c from fun _ => rfl, show ∀ c, Am.known (.agg c) = true from fun _ => rfl, show ∀ k c, acells (.int k c) = [.int k c] from fun _ _ => rfl, show ∀ k c, Am.known (.int k c) = true from fun _ _ => rfl]
        rfl
      (apply qcl; (focus first|(apply qao;(repeat' first|assumption|exact qaa rfl|apply qaf rfl|apply qab);done)|exact qan _ _|exact qai _|exact qap _|exact qad|exact qag|exact qae|exact qac|exact qah _); (repeat (apply qbt; (focus first|(apply qao;(repeat' first|assumption|exact qaa rfl|apply qaf rfl|apply qab);done)|exact qan _ _|exact qai _|exact qap _|exact qad|exact qag|exact qae|exact qac|exact qah _))); exact qby)
      refine (hY i hlt hpl g7 n sv fv (by omega) I7 ss sf).mono ?_
      rintro v g8 ⟨b, rfl, kb8, h1, h2⟩
      refine ⟨Undis.ahead (by kernel_rfl), ?_⟩
      have kp8 : KeepBut (fun j => X j ∨ h.next ≤ j) h g8 := kp7.trans (kb8.weaken fun j hj => .inl hj)
      (repeat (first|apply qbi|apply qa9|(apply qa7;dsimp only[qbc,List.map,Nat.reduceAdd])|apply qbj|apply qbd|apply qbe|apply qbn|apply qbp|apply qbo|apply qa1|apply qau|apply qbb|apply qas|apply qaq|apply qam rfl|apply qaw|apply qar|apply qax|apply qay|apply qa2|apply qav|((first|apply qa8|apply qbg|apply qbh|apply qbm|apply qbf|apply qba|apply qa0|apply qal|apply qak|apply qat)<;>first|(apply qao;(repeat' first|assumption|exact qaa rfl|apply qaf rfl|apply qab);done)|exact qan _ _|exact qai _|exact qap _|exact qad|exact qag|exact qae|exact qac|exact qah _|exact qa4 _ (by omega)|exact qa3 (by omega)|exact qa5 (by omega)|exact rfl|assumption|apply qa6)|((first|apply qbl|apply qaz|apply qaj)<;>first|(apply qao;(repeat' first|assumption|exact qaa rfl|apply qaf rfl|apply qab);done)|exact qan _ _|exact qai _|exact qap _|exact qad|exact qag|exact qae|exact qac|exact qah _|exact qa4 _ (by omega)|exact qa3 (by omega)|exact qa5 (by omega)|exact rfl|assumption|apply qa6)|(apply qbk rfl rfl;(focus (repeat' first|assumption|exact qaa rfl|apply qaf rfl|apply qab);done))|(apply qb1 rfl rfl;(focus (repeat' first|assumption|exact qaa rfl|apply qaf rfl|apply qab);done);exact rfl)))
      apply qcg (!b)
      · (focus first|(apply qao;(repeat' first|assumption|exact qaa rfl|apply qaf rfl|apply qab);done)|exact qan _ _|exact qai _|exact qap _|exact qad|exact qag|exact qae|exact qac|exact qah _)
      · intro cb
        have cb : b = false := by simpa using cb
        (repeat (first|apply qbi|apply qa9|(apply qa7;dsimp only[qbc,List.map,Nat.reduceAdd])|apply qbj|apply qbd|apply qbe|apply qbn|apply qbp|apply qbo|apply qa1|apply qau|apply qbb|apply qas|apply qaq|apply qam rfl|apply qaw|apply qar|apply qax|apply qay|apply qa2|apply qav|((first|apply qa8|apply qbg|apply qbh|apply qbm|apply qbf|apply qba|apply qa0|apply qal|apply qak|apply qat)<;>first|(apply qao;(repeat' first|assumption|exact qaa rfl|apply qaf rfl|apply qab);done)|exact qan _ _|exact qai _|exact qap _|exact qad|exact qag|exact qae|exact qac|exact qah _|exact qa4 _ (by omega)|exact qa3 (by omega)|exact qa5 (by omega)|exact rfl|assumption|apply qa6)|((first|apply qbl|apply qaz|apply qaj)<;>first|(apply qao;(repeat' first|assumption|exact qaa rfl|apply qaf rfl|apply qab);done)|exact qan _ _|exact qai _|exact qap _|exact qad|exact qag|exact qae|exact qac|exact qah _|exact qa4 _ (by omega)|exact qa3 (by omega)|exact qa5 (by omega)|exact rfl|assumption|apply qa6)|(apply qbk rfl rfl;(focus (repeat' first|assumption|exact qaa rfl|apply qaf rfl|apply qab);done))|(apply qb1 rfl rfl;(focus (repeat' first|assumption|exact qaa rfl|apply qaf rfl|apply qab);done);exact rfl)))
        apply R_results0 rfl
        exact ⟨kp8, .inr (h2 cb)⟩
      · intro cb
        have cb : b = true := by simpa using cb
        have I8 := h1 cb
        have nX : ∀ j, h.next ≤ j → ¬ X j := fun j hj hx => by have := hX j hx; omega
        have r4c := r4''.keepBut kb8 (nX _ (by have := k1.next; omega))
        have r7c := r7'.keepBut kb8 (nX _ (by omega))
        have knc := kn''.keepBut kb8 (nX _ l1)
        (repeat (first|apply qbi|apply qa9|(apply qa7;dsimp only[qbc,List.map,Nat.reduceAdd])|apply qbj|apply qbd|apply qbe|apply qbn|apply qbp|apply qbo|apply qa1|apply qau|apply qbb|apply qas|apply qaq|apply qam rfl|apply qaw|apply qar|apply qax|apply qay|apply qa2|apply qav|((first|apply qa8|apply qbg|apply qbh|apply qbm|apply qbf|apply qba|apply qa0|apply qal|apply qak|apply qat)<;>first|(apply qao;(repeat' first|assumption|exact qaa rfl|apply qaf rfl|apply qab);done)|exact qan _ _|exact qai _|exact qap _|exact qad|exact qag|exact qae|exact qac|exact qah _|exact qa4 _ (by omega)|exact qa3 (by omega)|exact qa5 (by omega)|exact rfl|assumption|apply qa6)|((first|apply qbl|apply qaz|apply qaj)<;>first|(apply qao;(repeat' first|assumption|exact qaa rfl|apply qaf rfl|apply qab);done)|exact qan _ _|exact qai _|exact qap _|exact qad|exact qag|exact qae|exact qac|exact qah _|exact qa4 _ (by omega)|exact qa3 (by omega)|exact qa5 (by omega)|exact rfl|assumption|apply qa6)|(apply qbk rfl rfl;(focus (repeat' first|assumption|exact qaa rfl|apply qaf rfl|apply qab);done))|(apply qb1 rfl rfl;(focus (repeat' first|assumption|exact qaa rfl|apply qaf rfl|apply qab);done);exact rfl)))
        (refine R_drawn [0, 1, 2, 3, 4] [0, 0, 2, 6, 15] (by kernel_rfl) (by kernel_rfl) (by rfl) ?_; dsimp only [qc9, List.map, List.getElem?_cons_zero, List.getElem?_cons_succ])
        (repeat (first|apply qbi|apply qa9|(apply qa7;dsimp only[qbc,List.map,Nat.reduceAdd])|apply qbj|apply qbd|apply qbe|apply qbn|apply qbp|apply qbo|apply qa1|apply qau|apply qbb|apply qas|apply qaq|apply qam rfl|apply qaw|apply qar|apply qax|apply qay|apply qa2|apply qav|((first|apply qa8|apply qbg|apply qbh|apply qbm|apply qbf|apply qba|apply qa0|apply qal|apply qak|apply qat)<;>first|(apply qao;(repeat' first|assumption|exact qaa rfl|apply qaf rfl|apply qab);done)|exact qan _ _|exact qai _|exact qap _|exact qad|exact qag|exact qae|exact qac|exact qah _|exact qa4 _ (by omega)|exact qa3 (by omega)|exact qa5 (by omega)|exact rfl|assumption|apply qa6)|((first|apply qbl|apply qaz|apply qaj)<;>first|(apply qao;(repeat' first|assumption|exact qaa rfl|apply qaf rfl|apply qab);done)|exact qan _ _|exact qai _|exact qap _|exact qad|exact qag|exact qae|exact qac|exact qah _|exact qa4 _ (by omega)|exact qa3 (by omega)|exact qa5 (by omega)|exact rfl|assumption|apply qa6)|(apply qbk rfl rfl;(focus (repeat' first|assumption|exact qaa rfl|apply qaf rfl|apply qab);done))|(apply qb1 rfl rfl;(focus (repeat' first|assumption|exact qaa rfl|apply qaf rfl|apply qab);done);exact rfl)))
        apply qb2 (n := 1)
        · (focus first|(apply qao;(repeat' first|assumption|exact qaa rfl|apply qaf rfl|apply qab);done)|exact qan _ _|exact qai _|exact qap _|exact qad|exact qag|exact qae|exact qac|exact qah _)
        · exact r4c
        · rfl
        · exact rfl
        apply qb2 (n := 15)
        · (focus first|(apply qao;(repeat' first|assumption|exact qaa rfl|apply qaf rfl|apply qab);done)|exact qan _ _|exact qai _|exact qap _|exact qad|exact qag|exact qae|exact qac|exact qah _)
        · exact r7c
        · rfl
        · exact rfl
        apply qcp
        · exact qb8 (by (focus first|(apply qao;(repeat' first|assumption|exact qaa rfl|apply qaf rfl|apply qab);done)|exact qan _ _|exact qai _|exact qap _|exact qad|exact qag|exact qae|exact qac|exact qah _)) qcn
        · rfl
        · rfl
        · exact S.lit _ _
        intro _
        (apply qcl; (focus first|(apply qao;(repeat' first|assumption|exact qaa rfl|apply qaf rfl|apply qab);done)|exact qan _ _|exact qai _|exact qap _|exact qad|exact qag|exact qae|exact qac|exact qah _); (repeat (apply qbt; (focus first|(apply qao;(repeat' first|assumption|exact qaa rfl|apply qaf rfl|apply qab);done)|exact qan _ _|exact qai _|exact qap _|exact qad|exact qag|exact qae|exact qac|exact qah _))); exact qby)
        apply Runs.wf
        intro w8
        refine (vars_spec S.lit (S' _ (by decide)) (S' _ (by decide)) (S' _ (by decide)) S.has (l := [pats[order[i]]]) (by simp; omega) (SlV.imm _ _ _ rfl) (by simp)).mono ?_
        rintro nv g9 ⟨k9, s9, -, hv9⟩
        refine ⟨k9.undis, ?_⟩
        have hvl := vars_length [pats[order[i]]]
        simp only [List.length_singleton] at hvl
        have kn9 := knc.keep k9
        have hmidlt := knc.lt w8
        (apply qcl; (focus first|(apply qao;(repeat' first|assumption|exact qaa rfl|apply qaf rfl|apply qab);done)|exact qan _ _|exact qai _|exact qap _|exact qad|exact qag|exact qae|exact qac|exact qah _); (repeat (apply qbt; (focus first|(apply qao;(repeat' first|assumption|exact qaa rfl|apply qaf rfl|apply qab);done)|exact qan _ _|exact qai _|exact qap _|exact qad|exact qag|exact qae|exact qac|exact qah _))); exact qby)
        refine (learn_spec (S' _ (by decide)) (by omega) kn9 s9 (fun q => by have := hv9 _ q; omega) (by omega)).mono ?_
        rintro _ g10 ⟨kb10, kn10⟩
        refine ⟨Undis.ahead (by kernel_rfl), ?_⟩
        have hg89 : g8.next ≤ g9.next := k9.next
        have hh8 : h.next ≤ g8.next := kp8.next
        have kb910 : KeepBut (h.next ≤ ·) g8 g10 := (k9.but _).trans (kb10.weaken fun j hj => by rcases hj with rfl | hj; exact l1; omega)
        have hi4m : i4 ≠ mid := by omega
        have r4d := (r4c.keep k9).keepBut kb10 (fun q => by rcases q with q | q; exact hi4m q; have := r4c.lt w8; omega)
        (repeat (first|apply qbi|apply qa9|(apply qa7;dsimp only[qbc,List.map,Nat.reduceAdd])|apply qbj|apply qbd|apply qbe|apply qbn|apply qbp|apply qbo|apply qa1|apply qau|apply qbb|apply qas|apply qaq|apply qam rfl|apply qaw|apply qar|apply qax|apply qay|apply qa2|apply qav|((first|apply qa8|apply qbg|apply qbh|apply qbm|apply qbf|apply qba|apply qa0|apply qal|apply qak|apply qat)<;>first|(apply qao;(repeat' first|assumption|exact qaa rfl|apply qaf rfl|apply qab);done)|exact qan _ _|exact qai _|exact qap _|exact qad|exact qag|exact qae|exact qac|exact qah _|exact qa4 _ (by omega)|exact qa3 (by omega)|exact qa5 (by omega)|exact rfl|assumption|apply qa6)|((first|apply qbl|apply qaz|apply qaj)<;>first|(apply qao;(repeat' first|assumption|exact qaa rfl|apply qaf rfl|apply qab);done)|exact qan _ _|exact qai _|exact qap _|exact qad|exact qag|exact qae|exact qac|exact qah _|exact qa4 _ (by omega)|exact qa3 (by omega)|exact qa5 (by omega)|exact rfl|assumption|apply qa6)|(apply qbk rfl rfl;(focus (repeat' first|assumption|exact qaa rfl|apply qaf rfl|apply qab);done))|(apply qb1 rfl rfl;(focus (repeat' first|assumption|exact qaa rfl|apply qaf rfl|apply qab);done);exact rfl)))
        apply K_loop (order.length - (i + 1)) (by omega)
        refine ⟨i + 1, c + (vars [pats[order[i]]]).length, rfl, by omega, by (repeat' first|assumption|exact qaa rfl|apply qaf rfl|apply qab), by (repeat' first|assumption|exact qaa rfl|apply qaf rfl|apply qab), by (repeat' first|assumption|exact qaa rfl|apply qaf rfl|apply qab), by (repeat' first|assumption|exact qaa rfl|apply qaf rfl|apply qab), by (repeat' first|assumption|exact qaa rfl|apply qaf rfl|apply qab), by (repeat' first|assumption|exact qaa rfl|apply qaf rfl|apply qab), by (repeat' first|assumption|exact qaa rfl|apply qaf rfl|apply qab), kp8.trans (kb910.weaken fun j hj => .inr hj), hI _ _ _ I8 kb910, r4d, ?_, by omega⟩
        rw [knownAt_succ pats order hlt hpl]
        exact kn10
    · intro cc
      have : i = order.length := by have : ¬ i < order.length := by simpa using cc
                                    omega
      subst this
      (repeat (first|apply qbi|apply qa9|(apply qa7;dsimp only[qbc,List.map,Nat.reduceAdd])|apply qbj|apply qbd|apply qbe|apply qbn|apply qbp|apply qbo|apply qa1|apply qau|apply qbb|apply qas|apply qaq|apply qam rfl|apply qaw|apply qar|apply qax|apply qay|apply qa2|apply qav|((first|apply qa8|apply qbg|apply qbh|apply qbm|apply qbf|apply qba|apply qa0|apply qal|apply qak|apply qat)<;>first|(apply qao;(repeat' first|assumption|exact qaa rfl|apply qaf rfl|apply qab);done)|exact qan _ _|exact qai _|exact qap _|exact qad|exact qag|exact qae|exact qac|exact qah _|exact qa4 _ (by omega)|exact qa3 (by omega)|exact qa5 (by omega)|exact rfl|assumption|apply qa6)|((first|apply qbl|apply qaz|apply qaj)<;>first|(apply qao;(repeat' first|assumption|exact qaa rfl|apply qaf rfl|apply qab);done)|exact qan _ _|exact qai _|exact qap _|exact qad|exact qag|exact qae|exact qac|exact qah _|exact qa4 _ (by omega)|exact qa3 (by omega)|exact qa5 (by omega)|exact rfl|assumption|apply qa6)|(apply qbk rfl rfl;(focus (repeat' first|assumption|exact qaa rfl|apply qaf rfl|apply qab);done))|(apply qb1 rfl rfl;(focus (repeat' first|assumption|exact qaa rfl|apply qaf rfl|apply qab);done);exact rfl)))
      apply R_results0 rfl
      exact ⟨kp, .inl hIi⟩
end Go.Am
namespace Go.Am
open Go Go.Proofs AM
set_option maxRecDepth 10000
variable {pol : Pol} {sums : Sums}

def mayZ (op : Int) (k : Nat) : Bool := if op = 1 then true else if op = 2 then decide (0 < k) else if op = 3 then k == 1 else false
def stepOk (pats : List Ptn) (o : List Nat) (ops : List Int) (i : Nat) : Bool := match o[i]?, ops[i]? with
  | some j, some op => match pats[j]? with
    | some p => mayZ op (shared (knownAt pats o i) p).length
    | none => false
  | _, _ => false
def rightZ (pats : List Ptn) (order ops : List Int) : Bool := wholeZ order pats.length && (ops.length == pats.length) && (List.range pats.length).all (stepOk pats (order.map Int.toNat) ops)

theorem zs_toNat (o : List Nat) : (zs o).map Int.toNat = o := by
  simp [zs, List.map_map, Function.comp_def]
theorem wholeZ_true {l : List Int} {m : Nat} (h : wholeZ l m = true) : ∃ o : List Nat, l = zs o ∧ (∀ i ∈ o, i < m) ∧ o.length = m ∧ o.Perm (List.range m) := by
  simp only [wholeZ, Bool.and_eq_true, decide_eq_true_eq, beq_iff_eq] at h
  obtain ⟨h1, rfl⟩ := h
  have hp : l.Perm (zs (List.range l.length)) := by rw [← h1]; exact (sortZ_perm l).symm
  have hz : ∀ x ∈ l, ∃ i : Nat, x = (i : Int) ∧ i < l.length := fun x hx => by
    obtain ⟨i, hi, rfl⟩ := List.mem_map.1 (hp.mem_iff.1 hx)
    exact ⟨i, rfl, List.mem_range.1 hi⟩
  have hl : l = zs (l.map Int.toNat) := by
    apply List.ext_getElem
    · simp
    · intro i h1 h2
      obtain ⟨j, hj, _⟩ := hz l[i] (List.getElem_mem h1)
      simp [zs, hj]
  refine ⟨l.map Int.toNat, hl, fun i hi => ?_, by simp, ?_⟩
  · obtain ⟨x, hx, rfl⟩ := List.mem_map.1 hi
    obtain ⟨j, rfl, hj⟩ := hz x hx
    simpa using hj
  · have := hp.map Int.toNat
    rw [zs_toNat] at this
    exact this

attribute [local irreducible] KSeq KMid KBlock KLoop KOps KFunc Runs qcs qcd aopsM aop qci qcc qcx qcx? qbz qck qbw
attribute [local irreducible] KRound KAssign
theorem may_spec (hs : sums 29 = none) {n : Nat} (hn : 1 ≤ n) (op : Int) (k : Nat) (h : Hp) : Runs (qci Try.prog pol sums n (.func (.func 29) [] []) [.int .i64 op, .int .i64 (k : Nat)]) h (fun v h' => h = h' ∧ v = .bool (mayZ op k)) := by
  obtain ⟨n, rfl⟩ : ∃ m, n = m + 1 := ⟨n - 1, by omega⟩
  refine qc7 (by assumption) Try.func29 rfl (by simp [Try.f29]) ?_
  have a0 : qcc (qbw Try.f29.ntmps (([] ++ [.int .i64 op, .int .i64 (k : Nat)] ++ []) : List AV)) 0 = .int .i64 op := qbu rfl
  have a1 : qcc (qbw Try.f29.ntmps (([] ++ [.int .i64 op, .int .i64 (k : Nat)] ++ []) : List AV)) 1 = .int .i64 (k : Nat) := qbu rfl
  generalize qbw Try.f29.ntmps (([] ++ [.int .i64 op, .int .i64 (k : Nat)] ++ []) : List AV) = T at *
  show Runs (qcd _ _ _ _ 16 _ _ _) _ _
  (repeat (first|apply qbi|apply qa9|(apply qa7;dsimp only[qbc,List.map,Nat.reduceAdd])|apply qbj|apply qbd|apply qbe|apply qbn|apply qbp|apply qbo|apply qa1|apply qau|apply qbb|apply qas|apply qaq|apply qam rfl|apply qaw|apply qar|apply qax|apply qay|apply qa2|apply qav|((first|apply qa8|apply qbg|apply qbh|apply qbm|apply qbf|apply qba|apply qa0|apply qal|apply qak|apply qat)<;>first|(apply qao;(repeat' first|assumption|exact qaa rfl|apply qaf rfl|apply qab);done)|exact qan _ _|exact qai _|exact qap _|exact qad|exact qag|exact qae|exact qac|exact qah _|exact qa4 _ (by omega)|exact qa3 (by omega)|exact qa5 (by omega)|exact rfl|assumption|apply qa6)|((first|apply qbl|apply qaz|apply qaj)<;>first|(apply qao;(repeat' first|assumption|exact qaa rfl|apply qaf rfl|apply qab);done)|exact qan _ _|exact qai _|exact qap _|exact qad|exact qag|exact qae|exact qac|exact qah _|exact qa4 _ (by omega)|exact qa3 (by omega)|exact qa5 (by omega)|exact rfl|assumption|apply qa6)|(apply qbk rfl rfl;(focus (repeat' first|assumption|exact qaa rfl|apply qaf rfl|apply qab);done))|(apply qb1 rfl rfl;(focus (repeat' first|assumption|exact qaa rfl|apply qaf rfl|apply qab);done);exact rfl)))
  apply qcg (op == 1)
  · (focus first|(apply qao;(repeat' first|assumption|exact qaa rfl|apply qaf rfl|apply qab);done)|exact qan _ _|exact qai _|exact qap _|exact qad|exact qag|exact qae|exact qac|exact qah _)
  · intro c
    have c : op = 1 := by simpa using c
    (repeat (first|apply qbi|apply qa9|(apply qa7;dsimp only[qbc,List.map,Nat.reduceAdd])|apply qbj|apply qbd|apply qbe|apply qbn|apply qbp|apply qbo|apply qa1|apply qau|apply qbb|apply qas|apply qaq|apply qam rfl|apply qaw|apply qar|apply qax|apply qay|apply qa2|apply qav|((first|apply qa8|apply qbg|apply qbh|apply qbm|apply qbf|apply qba|apply qa0|apply qal|apply qak|apply qat)<;>first|(apply qao;(repeat' first|assumption|exact qaa rfl|apply qaf rfl|apply qab);done)|exact qan _ _|exact qai _|exact qap _|exact qad|exact qag|exact qae|exact qac|exact qah _|exact qa4 _ (by omega)|exact qa3 (by omega)|exact qa5 (by omega)|exact rfl|assumption|apply qa6)|((first|apply qbl|apply qaz|apply qaj)<;>first|(apply qao;(repeat' first|assumption|exact qaa rfl|apply qaf rfl|apply qab);done)|exact qan _ _|exact qai _|exact qap _|exact qad|exact qag|exact qae|exact qac|exact qah _|exact qa4 _ (by omega)|exact qa3 (by omega)|exact qa5 (by omega)|exact rfl|assumption|apply qa6)|(apply qbk rfl rfl;(focus (repeat' first|assumption|exact qaa rfl|apply qaf rfl|apply qab);done))|(apply qb1 rfl rfl;(focus (repeat' first|assumption|exact qaa rfl|apply qaf rfl|apply qab);done);exact rfl)))
    (apply qb5 rfl; (repeat' first|assumption|exact qaa rfl|apply qaf rfl|apply qab))
    simp [mayZ, c]
  intro c
  have c : ¬ op = 1 := by simpa using c
  (repeat (first|apply qbi|apply qa9|(apply qa7;dsimp only[qbc,List.map,Nat.reduceAdd])|apply qbj|apply qbd|apply qbe|apply qbn|apply qbp|apply qbo|apply qa1|apply qau|apply qbb|apply qas|apply qaq|apply qam rfl|apply qaw|apply qar|apply qax|apply qay|apply qa2|apply qav|((first|apply qa8|apply qbg|apply qbh|apply qbm|apply qbf|apply qba|apply qa0|apply qal|apply qak|apply qat)<;>first|(apply qao;(repeat' first|assumption|exact qaa rfl|apply qaf rfl|apply qab);done)|exact qan _ _|exact qai _|exact qap _|exact qad|exact qag|exact qae|exact qac|exact qah _|exact qa4 _ (by omega)|exact qa3 (by omega)|exact qa5 (by omega)|exact rfl|assumption|apply qa6)|((first|apply qbl|apply qaz|apply qaj)<;>first|(apply qao;(repeat' first|assumption|exact qaa rfl|apply qaf rfl|apply qab);done)|exact qan _ _|exact qai _|exact qap _|exact qad|exact qag|exact qae|exact qac|exact qah _|exact qa4 _ (by omega)|exact qa3 (by omega)|exact qa5 (by omega)|exact rfl|assumption|apply qa6)|(apply qbk rfl rfl;(focus (repeat' first|assumption|exact qaa rfl|apply qaf rfl|apply qab);done))|(apply qb1 rfl rfl;(focus (repeat' first|assumption|exact qaa rfl|apply qaf rfl|apply qab);done);exact rfl)))
  apply qcg (op == 2)
  · (focus first|(apply qao;(repeat' first|assumption|exact qaa rfl|apply qaf rfl|apply qab);done)|exact qan _ _|exact qai _|exact qap _|exact qad|exact qag|exact qae|exact qac|exact qah _)
  · intro c2
    have c2 : op = 2 := by simpa using c2
    (repeat (first|apply qbi|apply qa9|(apply qa7;dsimp only[qbc,List.map,Nat.reduceAdd])|apply qbj|apply qbd|apply qbe|apply qbn|apply qbp|apply qbo|apply qa1|apply qau|apply qbb|apply qas|apply qaq|apply qam rfl|apply qaw|apply qar|apply qax|apply qay|apply qa2|apply qav|((first|apply qa8|apply qbg|apply qbh|apply qbm|apply qbf|apply qba|apply qa0|apply qal|apply qak|apply qat)<;>first|(apply qao;(repeat' first|assumption|exact qaa rfl|apply qaf rfl|apply qab);done)|exact qan _ _|exact qai _|exact qap _|exact qad|exact qag|exact qae|exact qac|exact qah _|exact qa4 _ (by omega)|exact qa3 (by omega)|exact qa5 (by omega)|exact rfl|assumption|apply qa6)|((first|apply qbl|apply qaz|apply qaj)<;>first|(apply qao;(repeat' first|assumption|exact qaa rfl|apply qaf rfl|apply qab);done)|exact qan _ _|exact qai _|exact qap _|exact qad|exact qag|exact qae|exact qac|exact qah _|exact qa4 _ (by omega)|exact qa3 (by omega)|exact qa5 (by omega)|exact rfl|assumption|apply qa6)|(apply qbk rfl rfl;(focus (repeat' first|assumption|exact qaa rfl|apply qaf rfl|apply qab);done))|(apply qb1 rfl rfl;(focus (repeat' first|assumption|exact qaa rfl|apply qaf rfl|apply qab);done);exact rfl)))
    (apply qb5 rfl; (repeat' first|assumption|exact qaa rfl|apply qaf rfl|apply qab))
    simp [mayZ, c2]
  intro c2
  have c2 : ¬ op = 2 := by simpa using c2
  (repeat (first|apply qbi|apply qa9|(apply qa7;dsimp only[qbc,List.map,Nat.reduceAdd])|apply qbj|apply qbd|apply qbe|apply qbn|apply qbp|apply qbo|apply qa1|apply qau|apply qbb|apply qas|apply qaq|apply qam rfl|apply qaw|apply qar|apply qax|apply qay|apply qa2|apply qav|((first|apply qa8|apply qbg|apply qbh|apply qbm|apply qbf|apply qba|apply qa0|apply qal|apply qak|apply qat)<;>first|(apply qao;(repeat' first|assumption|exact qaa rfl|apply qaf rfl|apply qab);done)|exact qan _ _|exact qai _|exact qap _|exact qad|exact qag|exact qae|exact qac|exact qah _|exact qa4 _ (by omega)|exact qa3 (by omega)|exact qa5 (by omega)|exact rfl|assumption|apply qa6)|((first|apply qbl|apply qaz|apply qaj)<;>first|(apply qao;(repeat' first|assumption|exact qaa rfl|apply qaf rfl|apply qab);done)|exact qan _ _|exact qai _|exact qap _|exact qad|exact qag|exact qae|exact qac|exact qah _|exact qa4 _ (by omega)|exact qa3 (by omega)|exact qa5 (by omega)|exact rfl|assumption|apply qa6)|(apply qbk rfl rfl;(focus (repeat' first|assumption|exact qaa rfl|apply qaf rfl|apply qab);done))|(apply qb1 rfl rfl;(focus (repeat' first|assumption|exact qaa rfl|apply qaf rfl|apply qab);done);exact rfl)))
  apply qcg (op == 3)
  · (focus first|(apply qao;(repeat' first|assumption|exact qaa rfl|apply qaf rfl|apply qab);done)|exact qan _ _|exact qai _|exact qap _|exact qad|exact qag|exact qae|exact qac|exact qah _)
  · intro c3
    have c3 : op = 3 := by simpa using c3
    (repeat (first|apply qbi|apply qa9|(apply qa7;dsimp only[qbc,List.map,Nat.reduceAdd])|apply qbj|apply qbd|apply qbe|apply qbn|apply qbp|apply qbo|apply qa1|apply qau|apply qbb|apply qas|apply qaq|apply qam rfl|apply qaw|apply qar|apply qax|apply qay|apply qa2|apply qav|((first|apply qa8|apply qbg|apply qbh|apply qbm|apply qbf|apply qba|apply qa0|apply qal|apply qak|apply qat)<;>first|(apply qao;(repeat' first|assumption|exact qaa rfl|apply qaf rfl|apply qab);done)|exact qan _ _|exact qai _|exact qap _|exact qad|exact qag|exact qae|exact qac|exact qah _|exact qa4 _ (by omega)|exact qa3 (by omega)|exact qa5 (by omega)|exact rfl|assumption|apply qa6)|((first|apply qbl|apply qaz|apply qaj)<;>first|(apply qao;(repeat' first|assumption|exact qaa rfl|apply qaf rfl|apply qab);done)|exact qan _ _|exact qai _|exact qap _|exact qad|exact qag|exact qae|exact qac|exact qah _|exact qa4 _ (by omega)|exact qa3 (by omega)|exact qa5 (by omega)|exact rfl|assumption|apply qa6)|(apply qbk rfl rfl;(focus (repeat' first|assumption|exact qaa rfl|apply qaf rfl|apply qab);done))|(apply qb1 rfl rfl;(focus (repeat' first|assumption|exact qaa rfl|apply qaf rfl|apply qab);done);exact rfl)))
    (apply qb5 rfl; (repeat' first|assumption|exact qaa rfl|apply qaf rfl|apply qab))
    simp [mayZ, c3]
    rw [Bool.eq_iff_iff]
    simp
    omega
  · intro c3
    have c3 : ¬ op = 3 := by simpa using c3
    (repeat (first|apply qbi|apply qa9|(apply qa7;dsimp only[qbc,List.map,Nat.reduceAdd])|apply qbj|apply qbd|apply qbe|apply qbn|apply qbp|apply qbo|apply qa1|apply qau|apply qbb|apply qas|apply qaq|apply qam rfl|apply qaw|apply qar|apply qax|apply qay|apply qa2|apply qav|((first|apply qa8|apply qbg|apply qbh|apply qbm|apply qbf|apply qba|apply qa0|apply qal|apply qak|apply qat)<;>first|(apply qao;(repeat' first|assumption|exact qaa rfl|apply qaf rfl|apply qab);done)|exact qan _ _|exact qai _|exact qap _|exact qad|exact qag|exact qae|exact qac|exact qah _|exact qa4 _ (by omega)|exact qa3 (by omega)|exact qa5 (by omega)|exact rfl|assumption|apply qa6)|((first|apply qbl|apply qaz|apply qaj)<;>first|(apply qao;(repeat' first|assumption|exact qaa rfl|apply qaf rfl|apply qab);done)|exact qan _ _|exact qai _|exact qap _|exact qad|exact qag|exact qae|exact qac|exact qah _|exact qa4 _ (by omega)|exact qa3 (by omega)|exact qa5 (by omega)|exact rfl|assumption|apply qa6)|(apply qbk rfl rfl;(focus (repeat' first|assumption|exact qaa rfl|apply qaf rfl|apply qab);done))|(apply qb1 rfl rfl;(focus (repeat' first|assumption|exact qaa rfl|apply qaf rfl|apply qab);done);exact rfl)))
    (apply qb5 rfl; (repeat' first|assumption|exact qaa rfl|apply qaf rfl|apply qab))
    simp [mayZ, c, c2, c3]

theorem each_spec (S : S27' pol sums) {n : Nat} (hn : 1 ≤ n) {h : Hp} {ov qv pv : AV} (ho : acells pv = [pv]) (hk : Am.known pv = true) :
    Runs (qci Try.prog pol sums n (.func (.func 21) [] []) [.agg [ov, qv], pv]) h (fun v h' => Keep h h' ∧ ∃ ip iq, v = .func (.func 47) [] [.ptr ip 0 0, .ptr iq 0 0] ∧ Row h' ip 0 2 [ov, qv] true ∧ Row h' iq 0 1 [pv] true ∧ h.next ≤ ip ∧ h.next ≤ iq) := by
  have s21 : sums 21 = none := S.rest _ (by decide)
  obtain ⟨n, rfl⟩ : ∃ m, n = m + 1 := ⟨n - 1, by omega⟩
  refine qc7 (by assumption) Try.func21 rfl (by simp [Try.f21]) ?_
  have a0 : qcc (qbw Try.f21.ntmps (([] ++ [.agg [ov, qv], pv] ++ []) : List AV)) 0 = .agg [ov, qv] := qbu rfl
  have a1 : qcc (qbw Try.f21.ntmps (([] ++ [.agg [ov, qv], pv] ++ []) : List AV)) 1 = pv := qbu rfl
  generalize qbw Try.f21.ntmps (([] ++ [.agg [ov, qv], pv] ++ []) : List AV) = T at *
  show Runs (qcd _ _ _ _ 6 _ _ _) _ _
  (repeat (first|apply qbi|apply qa9|(apply qa7;dsimp only[qbc,List.map,Nat.reduceAdd])|apply qbj|apply qbd|apply qbe|apply qbn|apply qbp|apply qbo|apply qa1|apply qau|apply qbb|apply qas|apply qaq|apply qam rfl|apply qaw|apply qar|apply qax|apply qay|apply qa2|apply qav|((first|apply qa8|apply qbg|apply qbh|apply qbm|apply qbf|apply qba|apply qa0|apply qal|apply qak|apply qat)<;>first|(apply qao;(repeat' first|assumption|exact qaa rfl|apply qaf rfl|apply qab);done)|exact qan _ _|exact qai _|exact qap _|exact qad|exact qag|exact qae|exact qac|exact qah _|exact qa4 _ (by omega)|exact qa3 (by omega)|exact qa5 (by omega)|exact rfl|assumption|apply qa6)|((first|apply qbl|apply qaz|apply qaj)<;>first|(apply qao;(repeat' first|assumption|exact qaa rfl|apply qaf rfl|apply qab);done)|exact qan _ _|exact qai _|exact qap _|exact qad|exact qag|exact qae|exact qac|exact qah _|exact qa4 _ (by omega)|exact qa3 (by omega)|exact qa5 (by omega)|exact rfl|assumption|apply qa6)|(apply qbk rfl rfl;(focus (repeat' first|assumption|exact qaa rfl|apply qaf rfl|apply qab);done))|(apply qb1 rfl rfl;(focus (repeat' first|assumption|exact qaa rfl|apply qaf rfl|apply qab);done);exact rfl)))
  apply O_box
  · (focus first|(apply qao;(repeat' first|assumption|exact qaa rfl|apply qaf rfl|apply qab);done)|exact qan _ _|exact qai _|exact qap _|exact qad|exact qag|exact qae|exact qac|exact qah _)
  · rfl
  intro g1 ip k1 r1 l1 l2
  change Row g1 ip 0 2 [ov, qv] true at r1
  apply O_box
  · (focus first|(apply qao;(repeat' first|assumption|exact qaa rfl|apply qaf rfl|apply qab);done)|exact qan _ _|exact qai _|exact qap _|exact qad|exact qag|exact qae|exact qac|exact qah _)
  · exact hk
  intro g2 iq k2 r2 l3 l4
  rw [ho] at r2
  (repeat (first|apply qbi|apply qa9|(apply qa7;dsimp only[qbc,List.map,Nat.reduceAdd])|apply qbj|apply qbd|apply qbe|apply qbn|apply qbp|apply qbo|apply qa1|apply qau|apply qbb|apply qas|apply qaq|apply qam rfl|apply qaw|apply qar|apply qax|apply qay|apply qa2|apply qav|((first|apply qa8|apply qbg|apply qbh|apply qbm|apply qbf|apply qba|apply qa0|apply qal|apply qak|apply qat)<;>first|(apply qao;(repeat' first|assumption|exact qaa rfl|apply qaf rfl|apply qab);done)|exact qan _ _|exact qai _|exact qap _|exact qad|exact qag|exact qae|exact qac|exact qah _|exact qa4 _ (by omega)|exact qa3 (by omega)|exact qa5 (by omega)|exact rfl|assumption|apply qa6)|((first|apply qbl|apply qaz|apply qaj)<;>first|(apply qao;(repeat' first|assumption|exact qaa rfl|apply qaf rfl|apply qab);done)|exact qan _ _|exact qai _|exact qap _|exact qad|exact qag|exact qae|exact qac|exact qah _|exact qa4 _ (by omega)|exact qa3 (by omega)|exact qa5 (by omega)|exact rfl|assumption|apply qa6)|(apply qbk rfl rfl;(focus (repeat' first|assumption|exact qaa rfl|apply qaf rfl|apply qab);done))|(apply qb1 rfl rfl;(focus (repeat' first|assumption|exact qaa rfl|apply qaf rfl|apply qab);done);exact rfl)))
  apply O_makeFunc (l1 := []) (l2 := [.ptr ip 0 0, .ptr iq 0 0])
  · exact qby
  · exact qbt (by (focus first|(apply qao;(repeat' first|assumption|exact qaa rfl|apply qaf rfl|apply qab);done)|exact qan _ _|exact qai _|exact qap _|exact qad|exact qag|exact qae|exact qac|exact qah _)) (qbt (by (focus first|(apply qao;(repeat' first|assumption|exact qaa rfl|apply qaf rfl|apply qab);done)|exact qan _ _|exact qai _|exact qap _|exact qad|exact qag|exact qae|exact qac|exact qah _)) qby)
  (repeat (first|apply qbi|apply qa9|(apply qa7;dsimp only[qbc,List.map,Nat.reduceAdd])|apply qbj|apply qbd|apply qbe|apply qbn|apply qbp|apply qbo|apply qa1|apply qau|apply qbb|apply qas|apply qaq|apply qam rfl|apply qaw|apply qar|apply qax|apply qay|apply qa2|apply qav|((first|apply qa8|apply qbg|apply qbh|apply qbm|apply qbf|apply qba|apply qa0|apply qal|apply qak|apply qat)<;>first|(apply qao;(repeat' first|assumption|exact qaa rfl|apply qaf rfl|apply qab);done)|exact qan _ _|exact qai _|exact qap _|exact qad|exact qag|exact qae|exact qac|exact qah _|exact qa4 _ (by omega)|exact qa3 (by omega)|exact qa5 (by omega)|exact rfl|assumption|apply qa6)|((first|apply qbl|apply qaz|apply qaj)<;>first|(apply qao;(repeat' first|assumption|exact qaa rfl|apply qaf rfl|apply qab);done)|exact qan _ _|exact qai _|exact qap _|exact qad|exact qag|exact qae|exact qac|exact qah _|exact qa4 _ (by omega)|exact qa3 (by omega)|exact qa5 (by omega)|exact rfl|assumption|apply qa6)|(apply qbk rfl rfl;(focus (repeat' first|assumption|exact qaa rfl|apply qaf rfl|apply qab);done))|(apply qb1 rfl rfl;(focus (repeat' first|assumption|exact qaa rfl|apply qaf rfl|apply qab);done);exact rfl)))
  (apply qb5 rfl; (repeat' first|assumption|exact qaa rfl|apply qaf rfl|apply qab))
  exact ⟨k1.trans k2, ip, iq, rfl, r1.keep k2, r2, l1, by have := k1.next; omega⟩

theorem right_spec (S : S27' pol sums) {n : Nat} {h : Hp} {ov qv pv : AV} {order ops : List Int} {pats : List Ptn} (hn : order.length + pats.length + 40 ≤ n) (hb : order.length < 2 ^ 30) (hb2 : pats.length < 2 ^ 30) (hb3 : ops.length < 2 ^ 40)
    (oo : Ints h ov order) (oq : Ints h qv ops) (po : Rows ptnC 15 h pv pats) :
    Runs (qci Try.prog pol sums n (.func (.func 9) [] []) [.agg [ov, qv], pv]) h (fun v h' => Keep h h' ∧ v = .int .i64 (if rightZ pats order ops then 0 else 18)) := by
  apply Runs.wf
  intro w
  have S' := S.rest
  have s9 : sums 9 = none := S' _ (by decide)
  obtain ⟨n, rfl⟩ : ∃ m, n = m + 1 := ⟨n - 1, by omega⟩
  refine qc7 (by assumption) Try.func9 rfl (by simp [Try.f9]) ?_
  have a0 : qcc (qbw Try.f9.ntmps (([] ++ [.agg [ov, qv], pv] ++ []) : List AV)) 0 = .agg [ov, qv] := qbu rfl
  have a1 : qcc (qbw Try.f9.ntmps (([] ++ [.agg [ov, qv], pv] ++ []) : List AV)) 1 = pv := qbu rfl
  generalize qbw Try.f9.ntmps (([] ++ [.agg [ov, qv], pv] ++ []) : List AV) = T at *
  show Runs (qcd _ _ _ _ 33 _ _ _) _ _
  (repeat (first|apply qbi|apply qa9|(apply qa7;dsimp only[qbc,List.map,Nat.reduceAdd])|apply qbj|apply qbd|apply qbe|apply qbn|apply qbp|apply qbo|apply qa1|apply qau|apply qbb|apply qas|apply qaq|apply qam rfl|apply qaw|apply qar|apply qax|apply qay|apply qa2|apply qav|((first|apply qa8|apply qbg|apply qbh|apply qbm|apply qbf|apply qba|apply qa0|apply qal|apply qak|apply qat)<;>first|(apply qao;(repeat' first|assumption|exact qaa rfl|apply qaf rfl|apply qab);done)|exact qan _ _|exact qai _|exact qap _|exact qad|exact qag|exact qae|exact qac|exact qah _|exact qa4 _ (by omega)|exact qa3 (by omega)|exact qa5 (by omega)|exact rfl|assumption|apply qa6)|((first|apply qbl|apply qaz|apply qaj)<;>first|(apply qao;(repeat' first|assumption|exact qaa rfl|apply qaf rfl|apply qab);done)|exact qan _ _|exact qai _|exact qap _|exact qad|exact qag|exact qae|exact qac|exact qah _|exact qa4 _ (by omega)|exact qa3 (by omega)|exact qa5 (by omega)|exact rfl|assumption|apply qa6)|(apply qbk rfl rfl;(focus (repeat' first|assumption|exact qaa rfl|apply qaf rfl|apply qab);done))|(apply qb1 rfl rfl;(focus (repeat' first|assumption|exact qaa rfl|apply qaf rfl|apply qab);done);exact rfl)))
  apply O_box
  · (focus first|(apply qao;(repeat' first|assumption|exact qaa rfl|apply qaf rfl|apply qab);done)|exact qan _ _|exact qai _|exact qap _|exact qad|exact qag|exact qae|exact qac|exact qah _)
  · rfl
  intro g1 i2 k1 r2 l1 l2
  change Row g1 i2 0 2 [ov, qv] true at r2
  apply O_alloc
  intro g2 ie k2 re l3 l4
  change Row g2 ie 0 1 [.int .i64 0] true at re
  replace r2 := r2.keep k2
  have kk := k1.trans k2
  have oo2 := oo.keep kk
  have oq2 := oq.keep kk
  have po2 := po.keep kk
  (repeat (first|apply qbi|apply qa9|(apply qa7;dsimp only[qbc,List.map,Nat.reduceAdd])|apply qbj|apply qbd|apply qbe|apply qbn|apply qbp|apply qbo|apply qa1|apply qau|apply qbb|apply qas|apply qaq|apply qam rfl|apply qaw|apply qar|apply qax|apply qay|apply qa2|apply qav|((first|apply qa8|apply qbg|apply qbh|apply qbm|apply qbf|apply qba|apply qa0|apply qal|apply qak|apply qat)<;>first|(apply qao;(repeat' first|assumption|exact qaa rfl|apply qaf rfl|apply qab);done)|exact qan _ _|exact qai _|exact qap _|exact qad|exact qag|exact qae|exact qac|exact qah _|exact qa4 _ (by omega)|exact qa3 (by omega)|exact qa5 (by omega)|exact rfl|assumption|apply qa6)|((first|apply qbl|apply qaz|apply qaj)<;>first|(apply qao;(repeat' first|assumption|exact qaa rfl|apply qaf rfl|apply qab);done)|exact qan _ _|exact qai _|exact qap _|exact qad|exact qag|exact qae|exact qac|exact qah _|exact qa4 _ (by omega)|exact qa3 (by omega)|exact qa5 (by omega)|exact rfl|assumption|apply qa6)|(apply qbk rfl rfl;(focus (repeat' first|assumption|exact qaa rfl|apply qaf rfl|apply qab);done))|(apply qb1 rfl rfl;(focus (repeat' first|assumption|exact qaa rfl|apply qaf rfl|apply qab);done);exact rfl)))
  (apply qcl; (focus first|(apply qao;(repeat' first|assumption|exact qaa rfl|apply qaf rfl|apply qab);done)|exact qan _ _|exact qai _|exact qap _|exact qad|exact qag|exact qae|exact qac|exact qah _); (repeat (apply qbt; (focus first|(apply qao;(repeat' first|assumption|exact qaa rfl|apply qaf rfl|apply qab);done)|exact qan _ _|exact qai _|exact qap _|exact qad|exact qag|exact qae|exact qac|exact qah _))); exact qby)
  refine (whole_spec S (by omega) oo2 (by omega) pats.length).mono ?_
  rintro v g3 ⟨k3, rfl⟩
  refine ⟨Undis.off rfl, ?_⟩
  replace r2 := r2.keep k3
  replace re := re.keep k3
  replace oq2 := oq2.keep k3
  replace po2 := po2.keep k3
  replace oo2 := oo2.keep k3
  replace kk := kk.trans k3
  have endBad : ∀ (T : qb7) (g4 : Hp), qcc T 4 = .ptr ie 0 0 → Keep h g4 → Row g4 ie 0 1 [.int .i64 18] true → rightZ pats order ops = false → Runs (qck Try.prog Try.f9 T) g4 (fun v h' => Keep h h' ∧ v = .int .i64 (if rightZ pats order ops then 0 else 18)) := by
    intro T g4 t4 k4 r4 hr
    apply R_res_one rfl t4 r4 rfl
    exact ⟨k4, by rw [hr]; rfl⟩
  have hie : ∀ j, j = ie → h.get j = none := fun j hj => by subst hj; exact w.get (by have := k1.next; omega)
  (repeat (first|apply qbi|apply qa9|(apply qa7;dsimp only[qbc,List.map,Nat.reduceAdd])|apply qbj|apply qbd|apply qbe|apply qbn|apply qbp|apply qbo|apply qa1|apply qau|apply qbb|apply qas|apply qaq|apply qam rfl|apply qaw|apply qar|apply qax|apply qay|apply qa2|apply qav|((first|apply qa8|apply qbg|apply qbh|apply qbm|apply qbf|apply qba|apply qa0|apply qal|apply qak|apply qat)<;>first|(apply qao;(repeat' first|assumption|exact qaa rfl|apply qaf rfl|apply qab);done)|exact qan _ _|exact qai _|exact qap _|exact qad|exact qag|exact qae|exact qac|exact qah _|exact qa4 _ (by omega)|exact qa3 (by omega)|exact qa5 (by omega)|exact rfl|assumption|apply qa6)|((first|apply qbl|apply qaz|apply qaj)<;>first|(apply qao;(repeat' first|assumption|exact qaa rfl|apply qaf rfl|apply qab);done)|exact qan _ _|exact qai _|exact qap _|exact qad|exact qag|exact qae|exact qac|exact qah _|exact qa4 _ (by omega)|exact qa3 (by omega)|exact qa5 (by omega)|exact rfl|assumption|apply qa6)|(apply qbk rfl rfl;(focus (repeat' first|assumption|exact qaa rfl|apply qaf rfl|apply qab);done))|(apply qb1 rfl rfl;(focus (repeat' first|assumption|exact qaa rfl|apply qaf rfl|apply qab);done);exact rfl)))
  cases hw : wholeZ order pats.length with
  | false =>
    (repeat (first|apply qbi|apply qa9|(apply qa7;dsimp only[qbc,List.map,Nat.reduceAdd])|apply qbj|apply qbd|apply qbe|apply qbn|apply qbp|apply qbo|apply qa1|apply qau|apply qbb|apply qas|apply qaq|apply qam rfl|apply qaw|apply qar|apply qax|apply qay|apply qa2|apply qav|((first|apply qa8|apply qbg|apply qbh|apply qbm|apply qbf|apply qba|apply qa0|apply qal|apply qak|apply qat)<;>first|(apply qao;(repeat' first|assumption|exact qaa rfl|apply qaf rfl|apply qab);done)|exact qan _ _|exact qai _|exact qap _|exact qad|exact qag|exact qae|exact qac|exact qah _|exact qa4 _ (by omega)|exact qa3 (by omega)|exact qa5 (by omega)|exact rfl|assumption|apply qa6)|((first|apply qbl|apply qaz|apply qaj)<;>first|(apply qao;(repeat' first|assumption|exact qaa rfl|apply qaf rfl|apply qab);done)|exact qan _ _|exact qai _|exact qap _|exact qad|exact qag|exact qae|exact qac|exact qah _|exact qa4 _ (by omega)|exact qa3 (by omega)|exact qa5 (by omega)|exact rfl|assumption|apply qa6)|(apply qbk rfl rfl;(focus (repeat' first|assumption|exact qaa rfl|apply qaf rfl|apply qab);done))|(apply qb1 rfl rfl;(focus (repeat' first|assumption|exact qaa rfl|apply qaf rfl|apply qab);done);exact rfl)))
    apply qcg true
    · (focus first|(apply qao;(repeat' first|assumption|exact qaa rfl|apply qaf rfl|apply qab);done)|exact qan _ _|exact qai _|exact qap _|exact qad|exact qag|exact qae|exact qac|exact qah _)
    · intro _
      (repeat (first|apply qbi|apply qa9|(apply qa7;dsimp only[qbc,List.map,Nat.reduceAdd])|apply qbj|apply qbd|apply qbe|apply qbn|apply qbp|apply qbo|apply qa1|apply qau|apply qbb|apply qas|apply qaq|apply qam rfl|apply qaw|apply qar|apply qax|apply qay|apply qa2|apply qav|((first|apply qa8|apply qbg|apply qbh|apply qbm|apply qbf|apply qba|apply qa0|apply qal|apply qak|apply qat)<;>first|(apply qao;(repeat' first|assumption|exact qaa rfl|apply qaf rfl|apply qab);done)|exact qan _ _|exact qai _|exact qap _|exact qad|exact qag|exact qae|exact qac|exact qah _|exact qa4 _ (by omega)|exact qa3 (by omega)|exact qa5 (by omega)|exact rfl|assumption|apply qa6)|((first|apply qbl|apply qaz|apply qaj)<;>first|(apply qao;(repeat' first|assumption|exact qaa rfl|apply qaf rfl|apply qab);done)|exact qan _ _|exact qai _|exact qap _|exact qad|exact qag|exact qae|exact qac|exact qah _|exact qa4 _ (by omega)|exact qa3 (by omega)|exact qa5 (by omega)|exact rfl|assumption|apply qa6)|(apply qbk rfl rfl;(focus (repeat' first|assumption|exact qaa rfl|apply qaf rfl|apply qab);done))|(apply qb1 rfl rfl;(focus (repeat' first|assumption|exact qaa rfl|apply qaf rfl|apply qab);done);exact rfl)))
      apply qcr
      · (focus first|(apply qao;(repeat' first|assumption|exact qaa rfl|apply qaf rfl|apply qab);done)|exact qan _ _|exact qai _|exact qap _|exact qad|exact qag|exact qae|exact qac|exact qah _)
      · (focus first|(apply qao;(repeat' first|assumption|exact qaa rfl|apply qaf rfl|apply qab);done)|exact qan _ _|exact qai _|exact qap _|exact qad|exact qag|exact qae|exact qac|exact qah _)
      · exact re
      · rfl
      intro g4 kb4 r4
      refine ⟨Undis.off rfl, ?_⟩
      (repeat (first|apply qbi|apply qa9|(apply qa7;dsimp only[qbc,List.map,Nat.reduceAdd])|apply qbj|apply qbd|apply qbe|apply qbn|apply qbp|apply qbo|apply qa1|apply qau|apply qbb|apply qas|apply qaq|apply qam rfl|apply qaw|apply qar|apply qax|apply qay|apply qa2|apply qav|((first|apply qa8|apply qbg|apply qbh|apply qbm|apply qbf|apply qba|apply qa0|apply qal|apply qak|apply qat)<;>first|(apply qao;(repeat' first|assumption|exact qaa rfl|apply qaf rfl|apply qab);done)|exact qan _ _|exact qai _|exact qap _|exact qad|exact qag|exact qae|exact qac|exact qah _|exact qa4 _ (by omega)|exact qa3 (by omega)|exact qa5 (by omega)|exact rfl|assumption|apply qa6)|((first|apply qbl|apply qaz|apply qaj)<;>first|(apply qao;(repeat' first|assumption|exact qaa rfl|apply qaf rfl|apply qab);done)|exact qan _ _|exact qai _|exact qap _|exact qad|exact qag|exact qae|exact qac|exact qah _|exact qa4 _ (by omega)|exact qa3 (by omega)|exact qa5 (by omega)|exact rfl|assumption|apply qa6)|(apply qbk rfl rfl;(focus (repeat' first|assumption|exact qaa rfl|apply qaf rfl|apply qab);done))|(apply qb1 rfl rfl;(focus (repeat' first|assumption|exact qaa rfl|apply qaf rfl|apply qab);done);exact rfl)))
      exact endBad _ _ (by (repeat' first|assumption|exact qaa rfl|apply qaf rfl|apply qab)) (KeepBut.keep kk kb4 hie) r4 (by simp [rightZ, hw])
    · intro c; cases c
  | true =>
    (repeat (first|apply qbi|apply qa9|(apply qa7;dsimp only[qbc,List.map,Nat.reduceAdd])|apply qbj|apply qbd|apply qbe|apply qbn|apply qbp|apply qbo|apply qa1|apply qau|apply qbb|apply qas|apply qaq|apply qam rfl|apply qaw|apply qar|apply qax|apply qay|apply qa2|apply qav|((first|apply qa8|apply qbg|apply qbh|apply qbm|apply qbf|apply qba|apply qa0|apply qal|apply qak|apply qat)<;>first|(apply qao;(repeat' first|assumption|exact qaa rfl|apply qaf rfl|apply qab);done)|exact qan _ _|exact qai _|exact qap _|exact qad|exact qag|exact qae|exact qac|exact qah _|exact qa4 _ (by omega)|exact qa3 (by omega)|exact qa5 (by omega)|exact rfl|assumption|apply qa6)|((first|apply qbl|apply qaz|apply qaj)<;>first|(apply qao;(repeat' first|assumption|exact qaa rfl|apply qaf rfl|apply qab);done)|exact qan _ _|exact qai _|exact qap _|exact qad|exact qag|exact qae|exact qac|exact qah _|exact qa4 _ (by omega)|exact qa3 (by omega)|exact qa5 (by omega)|exact rfl|assumption|apply qa6)|(apply qbk rfl rfl;(focus (repeat' first|assumption|exact qaa rfl|apply qaf rfl|apply qab);done))|(apply qb1 rfl rfl;(focus (repeat' first|assumption|exact qaa rfl|apply qaf rfl|apply qab);done);exact rfl)))
    apply qcg ((ops.length : Int) != (pats.length : Int))
    · (focus first|(apply qao;(repeat' first|assumption|exact qaa rfl|apply qaf rfl|apply qab);done)|exact qan _ _|exact qai _|exact qap _|exact qad|exact qag|exact qae|exact qac|exact qah _)
    · intro c
      have c : ops.length ≠ pats.length := by simp at c; omega
      (repeat (first|apply qbi|apply qa9|(apply qa7;dsimp only[qbc,List.map,Nat.reduceAdd])|apply qbj|apply qbd|apply qbe|apply qbn|apply qbp|apply qbo|apply qa1|apply qau|apply qbb|apply qas|apply qaq|apply qam rfl|apply qaw|apply qar|apply qax|apply qay|apply qa2|apply qav|((first|apply qa8|apply qbg|apply qbh|apply qbm|apply qbf|apply qba|apply qa0|apply qal|apply qak|apply qat)<;>first|(apply qao;(repeat' first|assumption|exact qaa rfl|apply qaf rfl|apply qab);done)|exact qan _ _|exact qai _|exact qap _|exact qad|exact qag|exact qae|exact qac|exact qah _|exact qa4 _ (by omega)|exact qa3 (by omega)|exact qa5 (by omega)|exact rfl|assumption|apply qa6)|((first|apply qbl|apply qaz|apply qaj)<;>first|(apply qao;(repeat' first|assumption|exact qaa rfl|apply qaf rfl|apply qab);done)|exact qan _ _|exact qai _|exact qap _|exact qad|exact qag|exact qae|exact qac|exact qah _|exact qa4 _ (by omega)|exact qa3 (by omega)|exact qa5 (by omega)|exact rfl|assumption|apply qa6)|(apply qbk rfl rfl;(focus (repeat' first|assumption|exact qaa rfl|apply qaf rfl|apply qab);done))|(apply qb1 rfl rfl;(focus (repeat' first|assumption|exact qaa rfl|apply qaf rfl|apply qab);done);exact rfl)))
      apply qcr
      · (focus first|(apply qao;(repeat' first|assumption|exact qaa rfl|apply qaf rfl|apply qab);done)|exact qan _ _|exact qai _|exact qap _|exact qad|exact qag|exact qae|exact qac|exact qah _)
      · (focus first|(apply qao;(repeat' first|assumption|exact qaa rfl|apply qaf rfl|apply qab);done)|exact qan _ _|exact qai _|exact qap _|exact qad|exact qag|exact qae|exact qac|exact qah _)
      · exact re
      · rfl
      intro g4 kb4 r4
      refine ⟨Undis.off rfl, ?_⟩
      (repeat (first|apply qbi|apply qa9|(apply qa7;dsimp only[qbc,List.map,Nat.reduceAdd])|apply qbj|apply qbd|apply qbe|apply qbn|apply qbp|apply qbo|apply qa1|apply qau|apply qbb|apply qas|apply qaq|apply qam rfl|apply qaw|apply qar|apply qax|apply qay|apply qa2|apply qav|((first|apply qa8|apply qbg|apply qbh|apply qbm|apply qbf|apply qba|apply qa0|apply qal|apply qak|apply qat)<;>first|(apply qao;(repeat' first|assumption|exact qaa rfl|apply qaf rfl|apply qab);done)|exact qan _ _|exact qai _|exact qap _|exact qad|exact qag|exact qae|exact qac|exact qah _|exact qa4 _ (by omega)|exact qa3 (by omega)|exact qa5 (by omega)|exact rfl|assumption|apply qa6)|((first|apply qbl|apply qaz|apply qaj)<;>first|(apply qao;(repeat' first|assumption|exact qaa rfl|apply qaf rfl|apply qab);done)|exact qan _ _|exact qai _|exact qap _|exact qad|exact qag|exact qae|exact qac|exact qah _|exact qa4 _ (by omega)|exact qa3 (by omega)|exact qa5 (by omega)|exact rfl|assumption|apply qa6)|(apply qbk rfl rfl;(focus (repeat' first|assumption|exact qaa rfl|apply qaf rfl|apply qab);done))|(apply qb1 rfl rfl;(focus (repeat' first|assumption|exact qaa rfl|apply qaf rfl|apply qab);done);exact rfl)))
      exact endBad _ _ (by (repeat' first|assumption|exact qaa rfl|apply qaf rfl|apply qab)) (KeepBut.keep kk kb4 hie) r4 (by simp [rightZ, c])
    intro c
    have c : ops.length = pats.length := by simp at c; omega
    obtain ⟨o, rfl, hol, hoL, _⟩ := wholeZ_true hw
    have hzl : (zs o).length = o.length := qcf o
    have hright : rightZ pats (zs o) ops = (List.range pats.length).all (stepOk pats o ops) := by
      simp only [rightZ, hw, c, zs_toNat]
      simp
    (repeat (first|apply qbi|apply qa9|(apply qa7;dsimp only[qbc,List.map,Nat.reduceAdd])|apply qbj|apply qbd|apply qbe|apply qbn|apply qbp|apply qbo|apply qa1|apply qau|apply qbb|apply qas|apply qaq|apply qam rfl|apply qaw|apply qar|apply qax|apply qay|apply qa2|apply qav|((first|apply qa8|apply qbg|apply qbh|apply qbm|apply qbf|apply qba|apply qa0|apply qal|apply qak|apply qat)<;>first|(apply qao;(repeat' first|assumption|exact qaa rfl|apply qaf rfl|apply qab);done)|exact qan _ _|exact qai _|exact qap _|exact qad|exact qag|exact qae|exact qac|exact qah _|exact qa4 _ (by omega)|exact qa3 (by omega)|exact qa5 (by omega)|exact rfl|assumption|apply qa6)|((first|apply qbl|apply qaz|apply qaj)<;>first|(apply qao;(repeat' first|assumption|exact qaa rfl|apply qaf rfl|apply qab);done)|exact qan _ _|exact qai _|exact qap _|exact qad|exact qag|exact qae|exact qac|exact qah _|exact qa4 _ (by omega)|exact qa3 (by omega)|exact qa5 (by omega)|exact rfl|assumption|apply qa6)|(apply qbk rfl rfl;(focus (repeat' first|assumption|exact qaa rfl|apply qaf rfl|apply qab);done))|(apply qb1 rfl rfl;(focus (repeat' first|assumption|exact qaa rfl|apply qaf rfl|apply qab);done);exact rfl)))
    apply qb2 (n := 2)
    · (focus first|(apply qao;(repeat' first|assumption|exact qaa rfl|apply qaf rfl|apply qab);done)|exact qan _ _|exact qai _|exact qap _|exact qad|exact qag|exact qae|exact qac|exact qah _)
    · exact r2
    · rfl
    · exact rfl
    (repeat (first|apply qbi|apply qa9|(apply qa7;dsimp only[qbc,List.map,Nat.reduceAdd])|apply qbj|apply qbd|apply qbe|apply qbn|apply qbp|apply qbo|apply qa1|apply qau|apply qbb|apply qas|apply qaq|apply qam rfl|apply qaw|apply qar|apply qax|apply qay|apply qa2|apply qav|((first|apply qa8|apply qbg|apply qbh|apply qbm|apply qbf|apply qba|apply qa0|apply qal|apply qak|apply qat)<;>first|(apply qao;(repeat' first|assumption|exact qaa rfl|apply qaf rfl|apply qab);done)|exact qan _ _|exact qai _|exact qap _|exact qad|exact qag|exact qae|exact qac|exact qah _|exact qa4 _ (by omega)|exact qa3 (by omega)|exact qa5 (by omega)|exact rfl|assumption|apply qa6)|((first|apply qbl|apply qaz|apply qaj)<;>first|(apply qao;(repeat' first|assumption|exact qaa rfl|apply qaf rfl|apply qab);done)|exact qan _ _|exact qai _|exact qap _|exact qad|exact qag|exact qae|exact qac|exact qah _|exact qa4 _ (by omega)|exact qa3 (by omega)|exact qa5 (by omega)|exact rfl|assumption|apply qa6)|(apply qbk rfl rfl;(focus (repeat' first|assumption|exact qaa rfl|apply qaf rfl|apply qab);done))|(apply qb1 rfl rfl;(focus (repeat' first|assumption|exact qaa rfl|apply qaf rfl|apply qab);done);exact rfl)))
    (apply qcl; (focus first|(apply qao;(repeat' first|assumption|exact qaa rfl|apply qaf rfl|apply qab);done)|exact qan _ _|exact qai _|exact qap _|exact qad|exact qag|exact qae|exact qac|exact qah _); (repeat (apply qbt; (focus first|(apply qao;(repeat' first|assumption|exact qaa rfl|apply qaf rfl|apply qab);done)|exact qan _ _|exact qai _|exact qap _|exact qad|exact qag|exact qae|exact qac|exact qah _))); exact qby)
    refine (each_spec S (by omega) po2.acells po2.known).mono ?_
    rintro v g4 ⟨k4, ip, iq, rfl, rp, rq, l5, l6⟩
    refine ⟨Undis.off rfl, ?_⟩
    replace r2 := r2.keep k4
    replace re := re.keep k4
    replace oq2 := oq2.keep k4
    replace po2 := po2.keep k4
    replace oo2 := oo2.keep k4
    replace kk := kk.trans k4
    apply O_wf
    intro w4
    (repeat (first|apply qbi|apply qa9|(apply qa7;dsimp only[qbc,List.map,Nat.reduceAdd])|apply qbj|apply qbd|apply qbe|apply qbn|apply qbp|apply qbo|apply qa1|apply qau|apply qbb|apply qas|apply qaq|apply qam rfl|apply qaw|apply qar|apply qax|apply qay|apply qa2|apply qav|((first|apply qa8|apply qbg|apply qbh|apply qbm|apply qbf|apply qba|apply qa0|apply qal|apply qak|apply qat)<;>first|(apply qao;(repeat' first|assumption|exact qaa rfl|apply qaf rfl|apply qab);done)|exact qan _ _|exact qai _|exact qap _|exact qad|exact qag|exact qae|exact qac|exact qah _|exact qa4 _ (by omega)|exact qa3 (by omega)|exact qa5 (by omega)|exact rfl|assumption|apply qa6)|((first|apply qbl|apply qaz|apply qaj)<;>first|(apply qao;(repeat' first|assumption|exact qaa rfl|apply qaf rfl|apply qab);done)|exact qan _ _|exact qai _|exact qap _|exact qad|exact qag|exact qae|exact qac|exact qah _|exact qa4 _ (by omega)|exact qa3 (by omega)|exact qa5 (by omega)|exact rfl|assumption|apply qa6)|(apply qbk rfl rfl;(focus (repeat' first|assumption|exact qaa rfl|apply qaf rfl|apply qab);done))|(apply qb1 rfl rfl;(focus (repeat' first|assumption|exact qaa rfl|apply qaf rfl|apply qab);done);exact rfl)))
    refine R_gen (fun T => qcc T 4 = .ptr ie 0 0 ∧ qcc T 23 = .func (.func 47) [] [.ptr ip 0 0, .ptr iq 0 0]) ⟨by (repeat' first|assumption|exact qaa rfl|apply qaf rfl|apply qab), by (repeat' first|assumption|exact qaa rfl|apply qaf rfl|apply qab)⟩ ?_
    rintro T0 ⟨t4, t23⟩
    apply R_rangeFunc (F := .func (.func 47) [] [.ptr ip 0 0, .ptr iq 0 0])
    · (focus first|(apply qao;(repeat' first|assumption|exact qaa rfl|apply qaf rfl|apply qab);done)|exact qan _ _|exact qai _|exact qap _|exact qad|exact qag|exact qae|exact qac|exact qah _)
    · rfl
    intro h2 lid k5 hl l7 l8
    have hrow := rp.keep k5
    have hroq := rq.keep k5
    replace re := re.keep k5
    replace oq2 := oq2.keep k5
    replace po2 := po2.keep k5
    replace oo2 := oo2.keep k5
    replace kk := kk.trans k5
    have hg4 : g1.next ≤ g4.next := by have := k2.next; have := k3.next; have := k4.next; omega
    have hieL : ie < g4.next := by have := k3.next; have := k4.next; omega
    have lqv : ∀ j ∈ qcv qv, j < h.next := oq.lt w
    have lov : ∀ j ∈ qcv ov, j < h.next := oo.lt w
    have lpv : ∀ j ∈ qcv pv, j < h.next := po.lt w
    have hhg : h.next ≤ g1.next := k1.next
    have hlen : ∀ i, i < o.length → i < ops.length := fun i hi => by omega
    have hstep : ∀ i (hi : i < o.length) (hp : o[i] < pats.length), stepOk pats o ops i = mayZ (ops[i]'(hlen i hi)) (shared (knownAt pats o i) pats[o[i]]).length := fun i hi hp => by
      simp [stepOk, hi, hlen i hi, hp]
    have hXlt : ∀ j, (j = lid ∨ j = ie) → j < h2.next := fun j hj => by rcases hj with rfl | rfl <;> omega
    have hipL : ip < g4.next := rp.lt w4
    have hiqL : iq < g4.next := rq.lt w4
    have hg3 : g1.next ≤ g3.next := by have := k2.next; have := k3.next; omega
    have hie3 : ie < g3.next := by have := k3.next; omega
    obtain ⟨L, hL⟩ := hl.fam
    refine (each1_spec S (h := h2) (X := fun j => j = lid ∨ j = ie) (n := n) (order := o) (by omega) (by omega) hb2 hrow hroq oo2 po2 hol hXlt (by rintro (q | q) <;> omega) (by rintro (q | q) <;> omega)
      (fun k hk q => by have := lov k hk; rcases q with q | q <;> omega) (fun k hk q => by have := lpv k hk; rcases q with q | q <;> omega)
      (fun _ => ops)
      (fun i g => KeepBut (fun j => j = lid ∨ h2.next ≤ j) h2 g ∧ L g .ready none ∧ ∀ j, j < i → stepOk pats o ops j = true)
      (fun g => KeepBut (fun j => j = lid ∨ j = ie ∨ h2.next ≤ j) h2 g ∧ L g .done (some .ret) ∧ Row g ie 0 1 [.int .i64 18] true ∧ ∃ j, j < o.length ∧ stepOk pats o ops j = false)
      ⟨KeepBut.refl _, (hL _ _ _).2 hl, fun j hj => by omega⟩
      (fun i g g' hi k => ⟨hi.1.trans (k.weaken fun j hj => .inr hj), (hL _ _ _).2 (((hL _ _ _).1 hi.2.1).keepBut k (by omega)), hi.2.2⟩)
      (fun i g hi => oq2.keepBut hi.1 fun j hj q => by have := lqv j hj; rcases q with q | q <;> omega)
      (fun _ => by omega) ?_).mono ?_
    · rintro i hi hp g m sv fv hm ⟨kp, hl2, hall⟩ ss sf
      obtain ⟨m, rfl⟩ : ∃ q, m = q + 1 := ⟨m - 1, by omega⟩
      replace hl2 := (hL _ _ _).1 hl2
      refine R_yield hl2 rfl ?_
      rw [aparams_cons, aparams_cons, aparams_nil]
      (repeat (first|apply qbi|apply qa9|(apply qa7;dsimp only[qbc,List.map,Nat.reduceAdd])|apply qbj|apply qbd|apply qbe|apply qbn|apply qbp|apply qbo|apply qa1|apply qau|apply qbb|apply qas|apply qaq|apply qam rfl|apply qaw|apply qar|apply qax|apply qay|apply qa2|apply qav|((first|apply qa8|apply qbg|apply qbh|apply qbm|apply qbf|apply qba|apply qa0|apply qal|apply qak|apply qat)<;>first|(apply qao;(repeat' first|assumption|exact qaa rfl|apply qaf rfl|apply qab);done)|exact qan _ _|exact qai _|exact qap _|exact qad|exact qag|exact qae|exact qac|exact qah _|exact qa4 _ (by omega)|exact qa3 (by omega)|exact qa5 (by omega)|exact rfl|assumption|apply qa6)|((first|apply qbl|apply qaz|apply qaj)<;>first|(apply qao;(repeat' first|assumption|exact qaa rfl|apply qaf rfl|apply qab);done)|exact qan _ _|exact qai _|exact qap _|exact qad|exact qag|exact qae|exact qac|exact qah _|exact qa4 _ (by omega)|exact qa3 (by omega)|exact qa5 (by omega)|exact rfl|assumption|apply qa6)|(apply qbk rfl rfl;(focus (repeat' first|assumption|exact qaa rfl|apply qaf rfl|apply qab);done))|(apply qb1 rfl rfl;(focus (repeat' first|assumption|exact qaa rfl|apply qaf rfl|apply qab);done);exact rfl)))
      apply O_wf
      intro wg
      apply O_alloc
      intro g5 i6 k6 r6 l9 l10
      apply qcr
      · (focus first|(apply qao;(repeat' first|assumption|exact qaa rfl|apply qaf rfl|apply qab);done)|exact qan _ _|exact qai _|exact qap _|exact qad|exact qag|exact qae|exact qac|exact qah _)
      · (focus first|(apply qao;(repeat' first|assumption|exact qaa rfl|apply qaf rfl|apply qab);done)|exact qan _ _|exact qai _|exact qap _|exact qad|exact qag|exact qae|exact qac|exact qah _)
      · exact r6
      · have h1 := stepC_ones (place := (o[i] : Nat)) (op := ops[i]'(hlen i hi)) (p := pats[o[i]]) ss.one sf.one
        show (_ && _ && ones (stepC _ _ _ sv fv)) = true
        rw [h1]; rfl
      intro g6 kb6 r6
      refine ⟨Undis.off rfl, ?_⟩
      change Row g6 i6 0 19 (stepC (o[i] : Nat) (ops[i]'(hlen i hi)) pats[o[i]] sv fv) true at r6
      have k6' : Keep g g6 := KeepBut.keep k6 kb6 fun j hj => wg.get (by omega)
      have hlid := hl2.lt wg
      (repeat (first|apply qbi|apply qa9|(apply qa7;dsimp only[qbc,List.map,Nat.reduceAdd])|apply qbj|apply qbd|apply qbe|apply qbn|apply qbp|apply qbo|apply qa1|apply qau|apply qbb|apply qas|apply qaq|apply qam rfl|apply qaw|apply qar|apply qax|apply qay|apply qa2|apply qav|((first|apply qa8|apply qbg|apply qbh|apply qbm|apply qbf|apply qba|apply qa0|apply qal|apply qak|apply qat)<;>first|(apply qao;(repeat' first|assumption|exact qaa rfl|apply qaf rfl|apply qab);done)|exact qan _ _|exact qai _|exact qap _|exact qad|exact qag|exact qae|exact qac|exact qah _|exact qa4 _ (by omega)|exact qa3 (by omega)|exact qa5 (by omega)|exact rfl|assumption|apply qa6)|((first|apply qbl|apply qaz|apply qaj)<;>first|(apply qao;(repeat' first|assumption|exact qaa rfl|apply qaf rfl|apply qab);done)|exact qan _ _|exact qai _|exact qap _|exact qad|exact qag|exact qae|exact qac|exact qah _|exact qa4 _ (by omega)|exact qa3 (by omega)|exact qa5 (by omega)|exact rfl|assumption|apply qa6)|(apply qbk rfl rfl;(focus (repeat' first|assumption|exact qaa rfl|apply qaf rfl|apply qab);done))|(apply qb1 rfl rfl;(focus (repeat' first|assumption|exact qaa rfl|apply qaf rfl|apply qab);done);exact rfl)))
      refine K_assign (hl2.keep k6') fun g7 kb7 hl7 => ?_
      have r7 := r6.keepBut kb7 (by omega)
      have ss7 := (ss.keep k6').keepBut kb7 ((ss.keep k6').ne_loop (hl2.keep k6'))
      (repeat (first|apply qbi|apply qa9|(apply qa7;dsimp only[qbc,List.map,Nat.reduceAdd])|apply qbj|apply qbd|apply qbe|apply qbn|apply qbp|apply qbo|apply qa1|apply qau|apply qbb|apply qas|apply qaq|apply qam rfl|apply qaw|apply qar|apply qax|apply qay|apply qa2|apply qav|((first|apply qa8|apply qbg|apply qbh|apply qbm|apply qbf|apply qba|apply qa0|apply qal|apply qak|apply qat)<;>first|(apply qao;(repeat' first|assumption|exact qaa rfl|apply qaf rfl|apply qab);done)|exact qan _ _|exact qai _|exact qap _|exact qad|exact qag|exact qae|exact qac|exact qah _|exact qa4 _ (by omega)|exact qa3 (by omega)|exact qa5 (by omega)|exact rfl|assumption|apply qa6)|((first|apply qbl|apply qaz|apply qaj)<;>first|(apply qao;(repeat' first|assumption|exact qaa rfl|apply qaf rfl|apply qab);done)|exact qan _ _|exact qai _|exact qap _|exact qad|exact qag|exact qae|exact qac|exact qah _|exact qa4 _ (by omega)|exact qa3 (by omega)|exact qa5 (by omega)|exact rfl|assumption|apply qa6)|(apply qbk rfl rfl;(focus (repeat' first|assumption|exact qaa rfl|apply qaf rfl|apply qab);done))|(apply qb1 rfl rfl;(focus (repeat' first|assumption|exact qaa rfl|apply qaf rfl|apply qab);done);exact rfl)))
      (apply qcl; (focus first|(apply qao;(repeat' first|assumption|exact qaa rfl|apply qaf rfl|apply qab);done)|exact qan _ _|exact qai _|exact qap _|exact qad|exact qag|exact qae|exact qac|exact qah _); (repeat (apply qbt; (focus first|(apply qao;(repeat' first|assumption|exact qaa rfl|apply qaf rfl|apply qab);done)|exact qan _ _|exact qai _|exact qap _|exact qad|exact qag|exact qae|exact qac|exact qah _))); exact qby)
      refine (may_spec (S' _ (by decide)) (by omega) _ _ _).mono ?_
      rintro v g8 ⟨rfl, rfl⟩
      refine ⟨Undis.off rfl, ?_⟩
      rw [← hstep i hi hp]
      have re7 : Row g7 ie 0 1 [.int .i64 0] true := ((re.keepBut kp (by omega)).keep k6').keepBut kb7 (by omega)
      have kp7 : KeepBut (fun j => j = lid ∨ h2.next ≤ j) h2 g7 := (kp.trans (k6'.but _)).trans (kb7.weaken fun j hj => .inl hj)
      have kx7 : KeepBut (fun j => j = lid ∨ j = ie) g g7 := (k6'.but _).trans (kb7.weaken fun j hj => .inl hj)
      (repeat (first|apply qbi|apply qa9|(apply qa7;dsimp only[qbc,List.map,Nat.reduceAdd])|apply qbj|apply qbd|apply qbe|apply qbn|apply qbp|apply qbo|apply qa1|apply qau|apply qbb|apply qas|apply qaq|apply qam rfl|apply qaw|apply qar|apply qax|apply qay|apply qa2|apply qav|((first|apply qa8|apply qbg|apply qbh|apply qbm|apply qbf|apply qba|apply qa0|apply qal|apply qak|apply qat)<;>first|(apply qao;(repeat' first|assumption|exact qaa rfl|apply qaf rfl|apply qab);done)|exact qan _ _|exact qai _|exact qap _|exact qad|exact qag|exact qae|exact qac|exact qah _|exact qa4 _ (by omega)|exact qa3 (by omega)|exact qa5 (by omega)|exact rfl|assumption|apply qa6)|((first|apply qbl|apply qaz|apply qaj)<;>first|(apply qao;(repeat' first|assumption|exact qaa rfl|apply qaf rfl|apply qab);done)|exact qan _ _|exact qai _|exact qap _|exact qad|exact qag|exact qae|exact qac|exact qah _|exact qa4 _ (by omega)|exact qa3 (by omega)|exact qa5 (by omega)|exact rfl|assumption|apply qa6)|(apply qbk rfl rfl;(focus (repeat' first|assumption|exact qaa rfl|apply qaf rfl|apply qab);done))|(apply qb1 rfl rfl;(focus (repeat' first|assumption|exact qaa rfl|apply qaf rfl|apply qab);done);exact rfl)))
      apply qcg (!stepOk pats o ops i)
      · (focus first|(apply qao;(repeat' first|assumption|exact qaa rfl|apply qaf rfl|apply qab);done)|exact qan _ _|exact qai _|exact qap _|exact qad|exact qag|exact qae|exact qac|exact qah _)
      · intro cs
        have cs : stepOk pats o ops i = false := by simpa using cs
        (repeat (first|apply qbi|apply qa9|(apply qa7;dsimp only[qbc,List.map,Nat.reduceAdd])|apply qbj|apply qbd|apply qbe|apply qbn|apply qbp|apply qbo|apply qa1|apply qau|apply qbb|apply qas|apply qaq|apply qam rfl|apply qaw|apply qar|apply qax|apply qay|apply qa2|apply qav|((first|apply qa8|apply qbg|apply qbh|apply qbm|apply qbf|apply qba|apply qa0|apply qal|apply qak|apply qat)<;>first|(apply qao;(repeat' first|assumption|exact qaa rfl|apply qaf rfl|apply qab);done)|exact qan _ _|exact qai _|exact qap _|exact qad|exact qag|exact qae|exact qac|exact qah _|exact qa4 _ (by omega)|exact qa3 (by omega)|exact qa5 (by omega)|exact rfl|assumption|apply qa6)|((first|apply qbl|apply qaz|apply qaj)<;>first|(apply qao;(repeat' first|assumption|exact qaa rfl|apply qaf rfl|apply qab);done)|exact qan _ _|exact qai _|exact qap _|exact qad|exact qag|exact qae|exact qac|exact qah _|exact qa4 _ (by omega)|exact qa3 (by omega)|exact qa5 (by omega)|exact rfl|assumption|apply qa6)|(apply qbk rfl rfl;(focus (repeat' first|assumption|exact qaa rfl|apply qaf rfl|apply qab);done))|(apply qb1 rfl rfl;(focus (repeat' first|assumption|exact qaa rfl|apply qaf rfl|apply qab);done);exact rfl)))
        apply qcr
        · (focus first|(apply qao;(repeat' first|assumption|exact qaa rfl|apply qaf rfl|apply qab);done)|exact qan _ _|exact qai _|exact qap _|exact qad|exact qag|exact qae|exact qac|exact qah _)
        · (focus first|(apply qao;(repeat' first|assumption|exact qaa rfl|apply qaf rfl|apply qab);done)|exact qan _ _|exact qai _|exact qap _|exact qad|exact qag|exact qae|exact qac|exact qah _)
        · exact re7
        · rfl
        intro g8 kb8 r8
        refine ⟨Undis.off rfl, ?_⟩
        (repeat (first|apply qbi|apply qa9|(apply qa7;dsimp only[qbc,List.map,Nat.reduceAdd])|apply qbj|apply qbd|apply qbe|apply qbn|apply qbp|apply qbo|apply qa1|apply qau|apply qbb|apply qas|apply qaq|apply qam rfl|apply qaw|apply qar|apply qax|apply qay|apply qa2|apply qav|((first|apply qa8|apply qbg|apply qbh|apply qbm|apply qbf|apply qba|apply qa0|apply qal|apply qak|apply qat)<;>first|(apply qao;(repeat' first|assumption|exact qaa rfl|apply qaf rfl|apply qab);done)|exact qan _ _|exact qai _|exact qap _|exact qad|exact qag|exact qae|exact qac|exact qah _|exact qa4 _ (by omega)|exact qa3 (by omega)|exact qa5 (by omega)|exact rfl|assumption|apply qa6)|((first|apply qbl|apply qaz|apply qaj)<;>first|(apply qao;(repeat' first|assumption|exact qaa rfl|apply qaf rfl|apply qab);done)|exact qan _ _|exact qai _|exact qap _|exact qad|exact qag|exact qae|exact qac|exact qah _|exact qa4 _ (by omega)|exact qa3 (by omega)|exact qa5 (by omega)|exact rfl|assumption|apply qa6)|(apply qbk rfl rfl;(focus (repeat' first|assumption|exact qaa rfl|apply qaf rfl|apply qab);done))|(apply qb1 rfl rfl;(focus (repeat' first|assumption|exact qaa rfl|apply qaf rfl|apply qab);done);exact rfl)))
        refine K_round_ret (hl7.keepBut kb8 (by omega)) fun g9 kb9 hl9 => ⟨false, rfl, ?_, fun c => (by cases c), fun _ => ⟨?_, (hL _ _ _).2 hl9, r8.keepBut kb9 (by omega), i, hi, cs⟩⟩
        · exact (kx7.trans (kb8.weaken fun j hj => .inr hj)).trans (kb9.weaken fun j hj => .inl hj)
        · exact ((kp7.weaken fun j hj => by rcases hj with q | q; exact .inl q; exact .inr (.inr q)).trans (kb8.weaken fun j hj => .inr (.inl hj))).trans (kb9.weaken fun j hj => .inl hj)
      · intro cs
        have cs : stepOk pats o ops i = true := by simpa using cs
        (repeat (first|apply qbi|apply qa9|(apply qa7;dsimp only[qbc,List.map,Nat.reduceAdd])|apply qbj|apply qbd|apply qbe|apply qbn|apply qbp|apply qbo|apply qa1|apply qau|apply qbb|apply qas|apply qaq|apply qam rfl|apply qaw|apply qar|apply qax|apply qay|apply qa2|apply qav|((first|apply qa8|apply qbg|apply qbh|apply qbm|apply qbf|apply qba|apply qa0|apply qal|apply qak|apply qat)<;>first|(apply qao;(repeat' first|assumption|exact qaa rfl|apply qaf rfl|apply qab);done)|exact qan _ _|exact qai _|exact qap _|exact qad|exact qag|exact qae|exact qac|exact qah _|exact qa4 _ (by omega)|exact qa3 (by omega)|exact qa5 (by omega)|exact rfl|assumption|apply qa6)|((first|apply qbl|apply qaz|apply qaj)<;>first|(apply qao;(repeat' first|assumption|exact qaa rfl|apply qaf rfl|apply qab);done)|exact qan _ _|exact qai _|exact qap _|exact qad|exact qag|exact qae|exact qac|exact qah _|exact qa4 _ (by omega)|exact qa3 (by omega)|exact qa5 (by omega)|exact rfl|assumption|apply qa6)|(apply qbk rfl rfl;(focus (repeat' first|assumption|exact qaa rfl|apply qaf rfl|apply qab);done))|(apply qb1 rfl rfl;(focus (repeat' first|assumption|exact qaa rfl|apply qaf rfl|apply qab);done);exact rfl)))
        refine K_round_end hl7 fun g9 kb9 hl9 => ⟨true, rfl, kx7.trans (kb9.weaken fun j hj => .inl hj), fun _ => ⟨kp7.trans (kb9.weaken fun j hj => .inl hj), (hL _ _ _).2 hl9, fun j hj => ?_⟩, fun c => (by cases c)⟩
        by_cases e : j = i
        · subst e; exact cs
        · exact hall j (by omega)
    · have hlidh : ∀ j, (j = lid ∨ h2.next ≤ j) → h.get j = none := fun j hj => w.get (by rcases hj with q | q <;> omega)
      rintro _ g ⟨kp, hI | hS⟩
      · obtain ⟨kp1, hl1, hall⟩ := hI
        refine ⟨.ready, none, (hL _ _ _).1 hl1, rfl, fun g3' kb => after_none ?_⟩
        have kf : Keep h g3' := KeepBut.keep kk (kp1.trans (kb.weaken fun j hj => .inl hj)) hlidh
        have ref : Row g3' ie 0 1 [.int .i64 0] true := (re.keepBut kp1 (by omega)).keepBut kb (by omega)
        have hr : rightZ pats (zs o) ops = true := by
          rw [hright, List.all_eq_true]
          intro j hj
          exact hall j (by have := List.mem_range.1 hj; omega)
        (repeat (first|apply qbi|apply qa9|(apply qa7;dsimp only[qbc,List.map,Nat.reduceAdd])|apply qbj|apply qbd|apply qbe|apply qbn|apply qbp|apply qbo|apply qa1|apply qau|apply qbb|apply qas|apply qaq|apply qam rfl|apply qaw|apply qar|apply qax|apply qay|apply qa2|apply qav|((first|apply qa8|apply qbg|apply qbh|apply qbm|apply qbf|apply qba|apply qa0|apply qal|apply qak|apply qat)<;>first|(apply qao;(repeat' first|assumption|exact qaa rfl|apply qaf rfl|apply qab);done)|exact qan _ _|exact qai _|exact qap _|exact qad|exact qag|exact qae|exact qac|exact qah _|exact qa4 _ (by omega)|exact qa3 (by omega)|exact qa5 (by omega)|exact rfl|assumption|apply qa6)|((first|apply qbl|apply qaz|apply qaj)<;>first|(apply qao;(repeat' first|assumption|exact qaa rfl|apply qaf rfl|apply qab);done)|exact qan _ _|exact qai _|exact qap _|exact qad|exact qag|exact qae|exact qac|exact qah _|exact qa4 _ (by omega)|exact qa3 (by omega)|exact qa5 (by omega)|exact rfl|assumption|apply qa6)|(apply qbk rfl rfl;(focus (repeat' first|assumption|exact qaa rfl|apply qaf rfl|apply qab);done))|(apply qb1 rfl rfl;(focus (repeat' first|assumption|exact qaa rfl|apply qaf rfl|apply qab);done);exact rfl)))
        apply qcr
        · (focus first|(apply qao;(repeat' first|assumption|exact qaa rfl|apply qaf rfl|apply qab);done)|exact qan _ _|exact qai _|exact qap _|exact qad|exact qag|exact qae|exact qac|exact qah _)
        · (focus first|(apply qao;(repeat' first|assumption|exact qaa rfl|apply qaf rfl|apply qab);done)|exact qan _ _|exact qai _|exact qap _|exact qad|exact qag|exact qae|exact qac|exact qah _)
        · exact ref
        · rfl
        intro g8 kb8 r8
        refine ⟨Undis.off rfl, ?_⟩
        (repeat (first|apply qbi|apply qa9|(apply qa7;dsimp only[qbc,List.map,Nat.reduceAdd])|apply qbj|apply qbd|apply qbe|apply qbn|apply qbp|apply qbo|apply qa1|apply qau|apply qbb|apply qas|apply qaq|apply qam rfl|apply qaw|apply qar|apply qax|apply qay|apply qa2|apply qav|((first|apply qa8|apply qbg|apply qbh|apply qbm|apply qbf|apply qba|apply qa0|apply qal|apply qak|apply qat)<;>first|(apply qao;(repeat' first|assumption|exact qaa rfl|apply qaf rfl|apply qab);done)|exact qan _ _|exact qai _|exact qap _|exact qad|exact qag|exact qae|exact qac|exact qah _|exact qa4 _ (by omega)|exact qa3 (by omega)|exact qa5 (by omega)|exact rfl|assumption|apply qa6)|((first|apply qbl|apply qaz|apply qaj)<;>first|(apply qao;(repeat' first|assumption|exact qaa rfl|apply qaf rfl|apply qab);done)|exact qan _ _|exact qai _|exact qap _|exact qad|exact qag|exact qae|exact qac|exact qah _|exact qa4 _ (by omega)|exact qa3 (by omega)|exact qa5 (by omega)|exact rfl|assumption|apply qa6)|(apply qbk rfl rfl;(focus (repeat' first|assumption|exact qaa rfl|apply qaf rfl|apply qab);done))|(apply qb1 rfl rfl;(focus (repeat' first|assumption|exact qaa rfl|apply qaf rfl|apply qab);done);exact rfl)))
        apply R_res_one rfl
        · (repeat' first|assumption|exact qaa rfl|apply qaf rfl|apply qab)
        · exact r8
        · rfl
        · exact ⟨KeepBut.keep kf kb8 hie, by rw [hr]; rfl⟩
      · obtain ⟨kp1, hl1, r1, j, hj, hbad⟩ := hS
        refine ⟨.done, some .ret, (hL _ _ _).1 hl1, rfl, fun g3' kb => after_ret ?_⟩
        have kf : Keep h g3' := KeepBut.keep kk (kp1.trans (kb.weaken fun j hj => .inl hj)) (fun j hj => by
          rcases hj with q | q | q
          · exact hlidh j (.inl q)
          · exact hie j q
          · exact hlidh j (.inr q))
        have hr : rightZ pats (zs o) ops = false := by
          rw [hright]
          cases hq : (List.range pats.length).all (stepOk pats o ops) with
          | false => rfl
          | true =>
            have := List.all_eq_true.1 hq j (List.mem_range.2 (by omega))
            rw [this] at hbad; cases hbad
        (repeat (first|apply qbi|apply qa9|(apply qa7;dsimp only[qbc,List.map,Nat.reduceAdd])|apply qbj|apply qbd|apply qbe|apply qbn|apply qbp|apply qbo|apply qa1|apply qau|apply qbb|apply qas|apply qaq|apply qam rfl|apply qaw|apply qar|apply qax|apply qay|apply qa2|apply qav|((first|apply qa8|apply qbg|apply qbh|apply qbm|apply qbf|apply qba|apply qa0|apply qal|apply qak|apply qat)<;>first|(apply qao;(repeat' first|assumption|exact qaa rfl|apply qaf rfl|apply qab);done)|exact qan _ _|exact qai _|exact qap _|exact qad|exact qag|exact qae|exact qac|exact qah _|exact qa4 _ (by omega)|exact qa3 (by omega)|exact qa5 (by omega)|exact rfl|assumption|apply qa6)|((first|apply qbl|apply qaz|apply qaj)<;>first|(apply qao;(repeat' first|assumption|exact qaa rfl|apply qaf rfl|apply qab);done)|exact qan _ _|exact qai _|exact qap _|exact qad|exact qag|exact qae|exact qac|exact qah _|exact qa4 _ (by omega)|exact qa3 (by omega)|exact qa5 (by omega)|exact rfl|assumption|apply qa6)|(apply qbk rfl rfl;(focus (repeat' first|assumption|exact qaa rfl|apply qaf rfl|apply qab);done))|(apply qb1 rfl rfl;(focus (repeat' first|assumption|exact qaa rfl|apply qaf rfl|apply qab);done);exact rfl)))
        exact endBad _ _ t4 kf (r1.keepBut kb (by omega)) hr
end Go.Am
namespace Go.Am
open Go Go.Proofs AM
set_option maxRecDepth 10000
variable {pol : Pol} {sums : Sums}
attribute [local irreducible] KSeq KMid KBlock KLoop KOps KFunc Runs qcs qcd aopsM aop qci qcc qcx qcx? qbz qck qbw
attribute [local irreducible] KRound KAssign

theorem SlV.source {P : Program} {e : TypeId} {h : Hp} {sz n : Nat} {x : AV} {c : List AV} (gx : SlV h sz x n c) : sourceCells P e sz x = qc8 sz x := by cases gx <;> rfl
theorem O_append0 {P : Program} {call : qcw} {fn nt : Nat} {h : Hp} {T : qb7} {R : Rg} {rest : List (Nat × Oper)} {seen : Seen} {i : Nat} {Q : qb7 → Hp → Prop} {d : Option Tmp} {ty : TypeId} {pos : String} {after : Array Edge}
    {args : Array Operand} {t u e e' : TypeId} {sz bytes n : Nat} {z s x : AV} {cells : List AV} [ht : TSl P t e] [hu : TSl P u e'] [hs : TSz P e sz] [hb' : qbv P e bytes] [hz' : qb4 P e z]
    (hl : args.toList.map (qbz T) = [s, x]) (gs : SlV h sz s n cells) (gx : SlV h sz x 0 [])
    (hz : (!(Nat.beq sz 0) && !(Nat.beq bytes 0) && Nat.beq (acells z).length sz) = true)
    (r : Undis R seen i h h ∧ qcs P pol call fn nt R rest seen (qcx? nt T d s) h Q) :
    qcs P pol call fn nt R ((i, ⟨d, .call ⟨.builtin .append, args, #[t, u]⟩, ty, pos, after, none⟩) :: rest) seen T h Q := by
  refine O_do rfl rfl ?_
  simp only [Bool.and_eq_true] at hz
  simp only [aop, hl, abuiltin, aappendOp, elem_of ht.un, hs.sz, hb'.bytes, hz'.zero, hu.un, qbs]
  rw [hz.1.1, hz.1.2, Bool.and_self, qb9, qbs, qbs, hz.2, qb9, qbs]
  have hsrc : (sourceCells P e sz x).run h = some ((0, []), h) := by
    rw [gx.source]
    exact gx.cells_run
  refine Runs.bind (Runs.of hsrc ?_)
  dsimp only
  cases gs with
  | imm => exact Runs.pure r
  | own id ver off n row fix r' e =>
    obtain ⟨st, ho⟩ := r'
    simp only [aappend]
    refine Runs.bind (Runs.row ho ?_)
    dsimp only
    rw [show Nat.beq sz sz = true by simp, qb9, qbs]
    exact Runs.pure r

theorem grow_spec (hs : sums 46 = some growSum) {n : Nat} (hn : 1 ≤ n) {h : Hp} {m : Nat} (h0 : 0 < m) (hb : m < 2 ^ 40) :
    Runs (qci Try.prog pol sums n (.func (.func 46) [] []) [.sl .nil 0 [], .int .i64 (m : Nat)]) h (fun v h' => Keep h h' ∧ ∃ id, v = .own id 0 0 0 ∧ h.next ≤ id ∧ Ints h' v []) := by
  obtain ⟨n, rfl⟩ : ∃ k, n = k + 1 := ⟨n - 1, by omega⟩
  refine R_sum hs (Runs.wf fun w => ?_)
  simp only [List.nil_append, List.append_nil, growSum]
  refine Runs.bind (Runs.guard (by simp; omega) (Runs.bind (Runs.halloc (Runs.pure ⟨Keep.alloc w _, h.next, rfl, Nat.le_refl _, ?_⟩))))
  have := SlV.own (h := ⟨h.obj.set h.next (some ⟨0, 0, .row 1 (qb6 [.int .i64 0] ((m : Nat) : Int).toNat) false⟩), h.next + 1⟩) (sz := 1) h.next 0 0 0 _ false ⟨_, qct _ _ _ _⟩ (by omega)
  exact this

theorem concat_spec (S : S27' pol sums) {n : Nat} {h : Hp} {v1 v2 : AV} {l1 l2 : List Int} (hn : 10 ≤ n) (o1 : Ints h v1 l1) (o2 : Ints h v2 l2) (hne : 0 < l1.length + l2.length) (hb : l1.length + l2.length < 2 ^ 30) :
    Runs (qci Try.prog pol sums n (.func (.func 20) [] []) [.sl .full 2 [v1, v2]]) h (fun v h' => Keep h h' ∧ Ints h' v (l1 ++ l2) ∧ growB v = true ∧ qcv v ≠ [] ∧ ∀ k ∈ qcv v, h.next ≤ k) := by
  apply Runs.wf
  intro w
  have S' := S.rest
  have s20 : sums 20 = none := S' _ (by decide)
  obtain ⟨n, rfl⟩ : ∃ m, n = m + 1 := ⟨n - 1, by omega⟩
  refine qc7 (by assumption) Try.func20 rfl (by simp [Try.f20]) ?_
  have a0 : qcc (qbw Try.f20.ntmps (([] ++ [.sl .full 2 [v1, v2]] ++ []) : List AV)) 0 = .sl .full 2 [v1, v2] := qbu rfl
  generalize qbw Try.f20.ntmps (([] ++ [.sl .full 2 [v1, v2]] ++ []) : List AV) = T at *
  show Runs (qcd _ _ _ _ 36 _ _ _) _ _
  have sv : ∀ h, SlV h 1 (.sl .full 2 [v1, v2]) 2 [v1, v2] := fun h => .imm _ _ _ rfl
  have sv0 := sv h
  have hget : ∀ i, i < 2 → ∃ v l, (([v1, v2] : List AV).drop (i * 1)).take 1 = [v] ∧ Ints h v l ∧ (([l1, l2] : List (List Int)).take (i + 1)).flatten = (([l1, l2] : List (List Int)).take i).flatten ++ l := fun i hi => by
    match i, hi with
    | 0, _ => exact ⟨v1, l1, rfl, o1, by simp⟩
    | 1, _ => exact ⟨v2, l2, rfl, o2, by simp⟩
  have hlen : ∀ i, (([l1, l2] : List (List Int)).take i).flatten.length ≤ l1.length + l2.length := fun i => by
    match i with
    | 0 => simp
    | 1 => simp
    | i + 2 => simp
  (repeat (first|apply qbi|apply qa9|(apply qa7;dsimp only[qbc,List.map,Nat.reduceAdd])|apply qbj|apply qbd|apply qbe|apply qbn|apply qbp|apply qbo|apply qa1|apply qau|apply qbb|apply qas|apply qaq|apply qam rfl|apply qaw|apply qar|apply qax|apply qay|apply qa2|apply qav|((first|apply qa8|apply qbg|apply qbh|apply qbm|apply qbf|apply qba|apply qa0|apply qal|apply qak|apply qat)<;>first|(apply qao;(repeat' first|assumption|exact qaa rfl|apply qaf rfl|apply qab);done)|exact qan _ _|exact qai _|exact qap _|exact qad|exact qag|exact qae|exact qac|exact qah _|exact qa4 _ (by omega)|exact qa3 (by omega)|exact qa5 (by omega)|exact rfl|assumption|apply qa6)|((first|apply qbl|apply qaz|apply qaj)<;>first|(apply qao;(repeat' first|assumption|exact qaa rfl|apply qaf rfl|apply qab);done)|exact qan _ _|exact qai _|exact qap _|exact qad|exact qag|exact qae|exact qac|exact qah _|exact qa4 _ (by omega)|exact qa3 (by omega)|exact qa5 (by omega)|exact rfl|assumption|apply qa6)|(apply qbk rfl rfl;(focus (repeat' first|assumption|exact qaa rfl|apply qaf rfl|apply qab);done))|(apply qb1 rfl rfl;(focus (repeat' first|assumption|exact qaa rfl|apply qaf rfl|apply qab);done);exact rfl)))
  apply R_midB (fun T g => qcc T 0 = .sl .full 2 [v1, v2] ∧ qcc T 3 = .int .i64 ((l1.length + l2.length : Nat) : Int) ∧ g = h)
  · apply R_loop (k := 2) (I := fun k T g => ∃ i, k = 2 - i ∧ i ≤ 2 ∧ qcc T 0 = .sl .full 2 [v1, v2] ∧ qcc T 9 = .sl .full 2 [v1, v2] ∧ qcc T 10 = .int .i64 (2 : Nat) ∧ qcc T 11 = .int .i64 (i : Nat) ∧ qcc T 3 = .int .i64 ((([l1, l2] : List (List Int)).take i).flatten.length : Nat) ∧ g = h)
    · omega
    · exact ⟨0, by omega, by omega, by (repeat' first|assumption|exact qaa rfl|apply qaf rfl|apply qab), by (repeat' first|assumption|exact qaa rfl|apply qaf rfl|apply qab), by (repeat' first|assumption|exact qaa rfl|apply qaf rfl|apply qab), by (repeat' first|assumption|exact qaa rfl|apply qaf rfl|apply qab), by (repeat' first|assumption|exact qaa rfl|apply qaf rfl|apply qab), rfl⟩
    · rintro k T g ⟨i, rfl, hi, t0, t9, t10, t11, t3, rfl⟩
      (repeat (first|apply qbi|apply qa9|(apply qa7;dsimp only[qbc,List.map,Nat.reduceAdd])|apply qbj|apply qbd|apply qbe|apply qbn|apply qbp|apply qbo|apply qa1|apply qau|apply qbb|apply qas|apply qaq|apply qam rfl|apply qaw|apply qar|apply qax|apply qay|apply qa2|apply qav|((first|apply qa8|apply qbg|apply qbh|apply qbm|apply qbf|apply qba|apply qa0|apply qal|apply qak|apply qat)<;>first|(apply qao;(repeat' first|assumption|exact qaa rfl|apply qaf rfl|apply qab);done)|exact qan _ _|exact qai _|exact qap _|exact qad|exact qag|exact qae|exact qac|exact qah _|exact qa4 _ (by omega)|exact qa3 (by omega)|exact qa5 (by omega)|exact rfl|assumption|apply qa6)|((first|apply qbl|apply qaz|apply qaj)<;>first|(apply qao;(repeat' first|assumption|exact qaa rfl|apply qaf rfl|apply qab);done)|exact qan _ _|exact qai _|exact qap _|exact qad|exact qag|exact qae|exact qac|exact qah _|exact qa4 _ (by omega)|exact qa3 (by omega)|exact qa5 (by omega)|exact rfl|assumption|apply qa6)|(apply qbk rfl rfl;(focus (repeat' first|assumption|exact qaa rfl|apply qaf rfl|apply qab);done))|(apply qb1 rfl rfl;(focus (repeat' first|assumption|exact qaa rfl|apply qaf rfl|apply qab);done);exact rfl)))
      apply qcg (decide ((i : Int) < ((2 : Nat) : Int)))
      · (focus first|(apply qao;(repeat' first|assumption|exact qaa rfl|apply qaf rfl|apply qab);done)|exact qan _ _|exact qai _|exact qap _|exact qad|exact qag|exact qae|exact qac|exact qah _)
      · intro c
        have hlt : i < 2 := by simp at c; omega
        obtain ⟨v, l, hv, ov, hfl⟩ := hget i hlt
        have hl1 := hlen (i + 1)
        rw [hfl, List.length_append] at hl1
        (repeat (first|apply qbi|apply qa9|(apply qa7;dsimp only[qbc,List.map,Nat.reduceAdd])|apply qbj|apply qbd|apply qbe|apply qbn|apply qbp|apply qbo|apply qa1|apply qau|apply qbb|apply qas|apply qaq|apply qam rfl|apply qaw|apply qar|apply qax|apply qay|apply qa2|apply qav|((first|apply qa8|apply qbg|apply qbh|apply qbm|apply qbf|apply qba|apply qa0|apply qal|apply qak|apply qat)<;>first|(apply qao;(repeat' first|assumption|exact qaa rfl|apply qaf rfl|apply qab);done)|exact qan _ _|exact qai _|exact qap _|exact qad|exact qag|exact qae|exact qac|exact qah _|exact qa4 _ (by omega)|exact qa3 (by omega)|exact qa5 (by omega)|exact rfl|assumption|apply qa6)|((first|apply qbl|apply qaz|apply qaj)<;>first|(apply qao;(repeat' first|assumption|exact qaa rfl|apply qaf rfl|apply qab);done)|exact qan _ _|exact qai _|exact qap _|exact qad|exact qag|exact qae|exact qac|exact qah _|exact qa4 _ (by omega)|exact qa3 (by omega)|exact qa5 (by omega)|exact rfl|assumption|apply qa6)|(apply qbk rfl rfl;(focus (repeat' first|assumption|exact qaa rfl|apply qaf rfl|apply qab);done))|(apply qb1 rfl rfl;(focus (repeat' first|assumption|exact qaa rfl|apply qaf rfl|apply qab);done);exact rfl)))
        apply qca
        · (focus first|(apply qao;(repeat' first|assumption|exact qaa rfl|apply qaf rfl|apply qab);done)|exact qan _ _|exact qai _|exact qap _|exact qad|exact qag|exact qae|exact qac|exact qah _)
        · exact sv0
        · (focus first|(apply qao;(repeat' first|assumption|exact qaa rfl|apply qaf rfl|apply qab);done)|exact qan _ _|exact qai _|exact qap _|exact qad|exact qag|exact qae|exact qac|exact qah _)
        · omega
        · rfl
        intro a ha _
        rw [hv] at ha
        apply qc0
        · (focus first|(apply qao;(repeat' first|assumption|exact qaa rfl|apply qaf rfl|apply qab);done)|exact qan _ _|exact qai _|exact qap _|exact qad|exact qag|exact qae|exact qac|exact qah _)
        · exact ha
        (repeat (first|apply qbi|apply qa9|(apply qa7;dsimp only[qbc,List.map,Nat.reduceAdd])|apply qbj|apply qbd|apply qbe|apply qbn|apply qbp|apply qbo|apply qa1|apply qau|apply qbb|apply qas|apply qaq|apply qam rfl|apply qaw|apply qar|apply qax|apply qay|apply qa2|apply qav|((first|apply qa8|apply qbg|apply qbh|apply qbm|apply qbf|apply qba|apply qa0|apply qal|apply qak|apply qat)<;>first|(apply qao;(repeat' first|assumption|exact qaa rfl|apply qaf rfl|apply qab);done)|exact qan _ _|exact qai _|exact qap _|exact qad|exact qag|exact qae|exact qac|exact qah _|exact qa4 _ (by omega)|exact qa3 (by omega)|exact qa5 (by omega)|exact rfl|assumption|apply qa6)|((first|apply qbl|apply qaz|apply qaj)<;>first|(apply qao;(repeat' first|assumption|exact qaa rfl|apply qaf rfl|apply qab);done)|exact qan _ _|exact qai _|exact qap _|exact qad|exact qag|exact qae|exact qac|exact qah _|exact qa4 _ (by omega)|exact qa3 (by omega)|exact qa5 (by omega)|exact rfl|assumption|apply qa6)|(apply qbk rfl rfl;(focus (repeat' first|assumption|exact qaa rfl|apply qaf rfl|apply qab);done))|(apply qb1 rfl rfl;(focus (repeat' first|assumption|exact qaa rfl|apply qaf rfl|apply qab);done);exact rfl)))
        apply qcg (decide (((([l1, l2] : List (List Int)).take i).flatten.length : Int) + (l.length : Int) < 0))
        · (focus first|(apply qao;(repeat' first|assumption|exact qaa rfl|apply qaf rfl|apply qab);done)|exact qan _ _|exact qai _|exact qap _|exact qad|exact qag|exact qae|exact qac|exact qah _)
        · intro c; simp at c; omega
        intro _
        (repeat (first|apply qbi|apply qa9|(apply qa7;dsimp only[qbc,List.map,Nat.reduceAdd])|apply qbj|apply qbd|apply qbe|apply qbn|apply qbp|apply qbo|apply qa1|apply qau|apply qbb|apply qas|apply qaq|apply qam rfl|apply qaw|apply qar|apply qax|apply qay|apply qa2|apply qav|((first|apply qa8|apply qbg|apply qbh|apply qbm|apply qbf|apply qba|apply qa0|apply qal|apply qak|apply qat)<;>first|(apply qao;(repeat' first|assumption|exact qaa rfl|apply qaf rfl|apply qab);done)|exact qan _ _|exact qai _|exact qap _|exact qad|exact qag|exact qae|exact qac|exact qah _|exact qa4 _ (by omega)|exact qa3 (by omega)|exact qa5 (by omega)|exact rfl|assumption|apply qa6)|((first|apply qbl|apply qaz|apply qaj)<;>first|(apply qao;(repeat' first|assumption|exact qaa rfl|apply qaf rfl|apply qab);done)|exact qan _ _|exact qai _|exact qap _|exact qad|exact qag|exact qae|exact qac|exact qah _|exact qa4 _ (by omega)|exact qa3 (by omega)|exact qa5 (by omega)|exact rfl|assumption|apply qa6)|(apply qbk rfl rfl;(focus (repeat' first|assumption|exact qaa rfl|apply qaf rfl|apply qab);done))|(apply qb1 rfl rfl;(focus (repeat' first|assumption|exact qaa rfl|apply qaf rfl|apply qab);done);exact rfl)))
        apply K_loop (2 - (i + 1)) (by omega)
        refine ⟨i + 1, rfl, by omega, by (repeat' first|assumption|exact qaa rfl|apply qaf rfl|apply qab), by (repeat' first|assumption|exact qaa rfl|apply qaf rfl|apply qab), by (repeat' first|assumption|exact qaa rfl|apply qaf rfl|apply qab), by (repeat' first|assumption|exact qaa rfl|apply qaf rfl|apply qab), ?_, rfl⟩
        rw [hfl, List.length_append, Int.natCast_add]
        (repeat' first|assumption|exact qaa rfl|apply qaf rfl|apply qab)
      · intro c
        have : i = 2 := by simp at c; omega
        subst this
        (repeat (first|apply qbi|apply qa9|(apply qa7;dsimp only[qbc,List.map,Nat.reduceAdd])|apply qbj|apply qbd|apply qbe|apply qbn|apply qbp|apply qbo|apply qa1|apply qau|apply qbb|apply qas|apply qaq|apply qam rfl|apply qaw|apply qar|apply qax|apply qay|apply qa2|apply qav|((first|apply qa8|apply qbg|apply qbh|apply qbm|apply qbf|apply qba|apply qa0|apply qal|apply qak|apply qat)<;>first|(apply qao;(repeat' first|assumption|exact qaa rfl|apply qaf rfl|apply qab);done)|exact qan _ _|exact qai _|exact qap _|exact qad|exact qag|exact qae|exact qac|exact qah _|exact qa4 _ (by omega)|exact qa3 (by omega)|exact qa5 (by omega)|exact rfl|assumption|apply qa6)|((first|apply qbl|apply qaz|apply qaj)<;>first|(apply qao;(repeat' first|assumption|exact qaa rfl|apply qaf rfl|apply qab);done)|exact qan _ _|exact qai _|exact qap _|exact qad|exact qag|exact qae|exact qac|exact qah _|exact qa4 _ (by omega)|exact qa3 (by omega)|exact qa5 (by omega)|exact rfl|assumption|apply qa6)|(apply qbk rfl rfl;(focus (repeat' first|assumption|exact qaa rfl|apply qaf rfl|apply qab);done))|(apply qb1 rfl rfl;(focus (repeat' first|assumption|exact qaa rfl|apply qaf rfl|apply qab);done);exact rfl)))
        apply K_mid
        have t3' : qcc T 3 = .int .i64 ((l1.length + l2.length : Nat) : Int) := by
          rw [t3]; simp
        exact ⟨by (repeat' first|assumption|exact qaa rfl|apply qaf rfl|apply qab), by (repeat' first|assumption|exact qaa rfl|apply qaf rfl|apply qab), rfl⟩
  rintro T g ⟨t0, t3, rfl⟩
  (repeat (first|apply qbi|apply qa9|(apply qa7;dsimp only[qbc,List.map,Nat.reduceAdd])|apply qbj|apply qbd|apply qbe|apply qbn|apply qbp|apply qbo|apply qa1|apply qau|apply qbb|apply qas|apply qaq|apply qam rfl|apply qaw|apply qar|apply qax|apply qay|apply qa2|apply qav|((first|apply qa8|apply qbg|apply qbh|apply qbm|apply qbf|apply qba|apply qa0|apply qal|apply qak|apply qat)<;>first|(apply qao;(repeat' first|assumption|exact qaa rfl|apply qaf rfl|apply qab);done)|exact qan _ _|exact qai _|exact qap _|exact qad|exact qag|exact qae|exact qac|exact qah _|exact qa4 _ (by omega)|exact qa3 (by omega)|exact qa5 (by omega)|exact rfl|assumption|apply qa6)|((first|apply qbl|apply qaz|apply qaj)<;>first|(apply qao;(repeat' first|assumption|exact qaa rfl|apply qaf rfl|apply qab);done)|exact qan _ _|exact qai _|exact qap _|exact qad|exact qag|exact qae|exact qac|exact qah _|exact qa4 _ (by omega)|exact qa3 (by omega)|exact qa5 (by omega)|exact rfl|assumption|apply qa6)|(apply qbk rfl rfl;(focus (repeat' first|assumption|exact qaa rfl|apply qaf rfl|apply qab);done))|(apply qb1 rfl rfl;(focus (repeat' first|assumption|exact qaa rfl|apply qaf rfl|apply qab);done);exact rfl)))
  (apply qcl; (focus first|(apply qao;(repeat' first|assumption|exact qaa rfl|apply qaf rfl|apply qab);done)|exact qan _ _|exact qai _|exact qap _|exact qad|exact qag|exact qae|exact qac|exact qah _); (repeat (apply qbt; (focus first|(apply qao;(repeat' first|assumption|exact qaa rfl|apply qaf rfl|apply qab);done)|exact qan _ _|exact qai _|exact qap _|exact qad|exact qag|exact qae|exact qac|exact qah _))); exact qby)
  refine (grow_spec S.grow (by omega) hne (by omega)).mono ?_
  rintro v6 g1 ⟨k1, id, rfl, hid, s6⟩
  refine ⟨Undis.off rfl, ?_⟩
  have sv1 := sv g1
  (repeat (first|apply qbi|apply qa9|(apply qa7;dsimp only[qbc,List.map,Nat.reduceAdd])|apply qbj|apply qbd|apply qbe|apply qbn|apply qbp|apply qbo|apply qa1|apply qau|apply qbb|apply qas|apply qaq|apply qam rfl|apply qaw|apply qar|apply qax|apply qay|apply qa2|apply qav|((first|apply qa8|apply qbg|apply qbh|apply qbm|apply qbf|apply qba|apply qa0|apply qal|apply qak|apply qat)<;>first|(apply qao;(repeat' first|assumption|exact qaa rfl|apply qaf rfl|apply qab);done)|exact qan _ _|exact qai _|exact qap _|exact qad|exact qag|exact qae|exact qac|exact qah _|exact qa4 _ (by omega)|exact qa3 (by omega)|exact qa5 (by omega)|exact rfl|assumption|apply qa6)|((first|apply qbl|apply qaz|apply qaj)<;>first|(apply qao;(repeat' first|assumption|exact qaa rfl|apply qaf rfl|apply qab);done)|exact qan _ _|exact qai _|exact qap _|exact qad|exact qag|exact qae|exact qac|exact qah _|exact qa4 _ (by omega)|exact qa3 (by omega)|exact qa5 (by omega)|exact rfl|assumption|apply qa6)|(apply qbk rfl rfl;(focus (repeat' first|assumption|exact qaa rfl|apply qaf rfl|apply qab);done))|(apply qb1 rfl rfl;(focus (repeat' first|assumption|exact qaa rfl|apply qaf rfl|apply qab);done);exact rfl)))
  apply R_midB (fun T g2 => Keep g g2 ∧ ∃ v, qcc T 6 = v ∧ Ints g2 v (l1 ++ l2) ∧ growB v = true ∧ qcv v ≠ [] ∧ ∀ k ∈ qcv v, g.next ≤ k)
  · apply R_loop (k := 2) (I := fun k T g2 => ∃ i v, k = 2 - i ∧ i ≤ 2 ∧ qcc T 25 = .sl .full 2 [v1, v2] ∧ qcc T 26 = .int .i64 (2 : Nat) ∧ qcc T 27 = .int .i64 (i : Nat) ∧ qcc T 6 = v ∧ KeepBut (g.next ≤ ·) g g2 ∧ Ints g2 v (([l1, l2] : List (List Int)).take i).flatten ∧ growB v = true ∧ qcv v ≠ [] ∧ ∀ k ∈ qcv v, g.next ≤ k)
    · omega
    · exact ⟨0, _, by omega, by omega, by (repeat' first|assumption|exact qaa rfl|apply qaf rfl|apply qab), by (repeat' first|assumption|exact qaa rfl|apply qaf rfl|apply qab), by (repeat' first|assumption|exact qaa rfl|apply qaf rfl|apply qab), by (repeat' first|assumption|exact qaa rfl|apply qaf rfl|apply qab), k1.but _, by simpa using s6, rfl, by simp [qcv], by simp [qcv]; exact hid⟩
    · rintro k T g2 ⟨i, v, rfl, hi, t25, t26, t27, t6, kp, sv', gv, nv, iv⟩
      (repeat (first|apply qbi|apply qa9|(apply qa7;dsimp only[qbc,List.map,Nat.reduceAdd])|apply qbj|apply qbd|apply qbe|apply qbn|apply qbp|apply qbo|apply qa1|apply qau|apply qbb|apply qas|apply qaq|apply qam rfl|apply qaw|apply qar|apply qax|apply qay|apply qa2|apply qav|((first|apply qa8|apply qbg|apply qbh|apply qbm|apply qbf|apply qba|apply qa0|apply qal|apply qak|apply qat)<;>first|(apply qao;(repeat' first|assumption|exact qaa rfl|apply qaf rfl|apply qab);done)|exact qan _ _|exact qai _|exact qap _|exact qad|exact qag|exact qae|exact qac|exact qah _|exact qa4 _ (by omega)|exact qa3 (by omega)|exact qa5 (by omega)|exact rfl|assumption|apply qa6)|((first|apply qbl|apply qaz|apply qaj)<;>first|(apply qao;(repeat' first|assumption|exact qaa rfl|apply qaf rfl|apply qab);done)|exact qan _ _|exact qai _|exact qap _|exact qad|exact qag|exact qae|exact qac|exact qah _|exact qa4 _ (by omega)|exact qa3 (by omega)|exact qa5 (by omega)|exact rfl|assumption|apply qa6)|(apply qbk rfl rfl;(focus (repeat' first|assumption|exact qaa rfl|apply qaf rfl|apply qab);done))|(apply qb1 rfl rfl;(focus (repeat' first|assumption|exact qaa rfl|apply qaf rfl|apply qab);done);exact rfl)))
      apply qcg (decide ((i : Int) < ((2 : Nat) : Int)))
      · (focus first|(apply qao;(repeat' first|assumption|exact qaa rfl|apply qaf rfl|apply qab);done)|exact qan _ _|exact qai _|exact qap _|exact qad|exact qag|exact qae|exact qac|exact qah _)
      · intro c
        have hlt : i < 2 := by simp at c; omega
        obtain ⟨u, l, hv, ou, hfl⟩ := hget i hlt
        have hl1 := hlen (i + 1)
        rw [hfl, List.length_append] at hl1
        have sv2 := sv g2
        have ou2 := ou.old w kp
        (repeat (first|apply qbi|apply qa9|(apply qa7;dsimp only[qbc,List.map,Nat.reduceAdd])|apply qbj|apply qbd|apply qbe|apply qbn|apply qbp|apply qbo|apply qa1|apply qau|apply qbb|apply qas|apply qaq|apply qam rfl|apply qaw|apply qar|apply qax|apply qay|apply qa2|apply qav|((first|apply qa8|apply qbg|apply qbh|apply qbm|apply qbf|apply qba|apply qa0|apply qal|apply qak|apply qat)<;>first|(apply qao;(repeat' first|assumption|exact qaa rfl|apply qaf rfl|apply qab);done)|exact qan _ _|exact qai _|exact qap _|exact qad|exact qag|exact qae|exact qac|exact qah _|exact qa4 _ (by omega)|exact qa3 (by omega)|exact qa5 (by omega)|exact rfl|assumption|apply qa6)|((first|apply qbl|apply qaz|apply qaj)<;>first|(apply qao;(repeat' first|assumption|exact qaa rfl|apply qaf rfl|apply qab);done)|exact qan _ _|exact qai _|exact qap _|exact qad|exact qag|exact qae|exact qac|exact qah _|exact qa4 _ (by omega)|exact qa3 (by omega)|exact qa5 (by omega)|exact rfl|assumption|apply qa6)|(apply qbk rfl rfl;(focus (repeat' first|assumption|exact qaa rfl|apply qaf rfl|apply qab);done))|(apply qb1 rfl rfl;(focus (repeat' first|assumption|exact qaa rfl|apply qaf rfl|apply qab);done);exact rfl)))
        apply qca
        · (focus first|(apply qao;(repeat' first|assumption|exact qaa rfl|apply qaf rfl|apply qab);done)|exact qan _ _|exact qai _|exact qap _|exact qad|exact qag|exact qae|exact qac|exact qah _)
        · exact sv2
        · (focus first|(apply qao;(repeat' first|assumption|exact qaa rfl|apply qaf rfl|apply qab);done)|exact qan _ _|exact qai _|exact qap _|exact qad|exact qag|exact qae|exact qac|exact qah _)
        · omega
        · rfl
        intro a ha _
        rw [hv] at ha
        apply qc0
        · (focus first|(apply qao;(repeat' first|assumption|exact qaa rfl|apply qaf rfl|apply qab);done)|exact qan _ _|exact qai _|exact qap _|exact qad|exact qag|exact qae|exact qac|exact qah _)
        · exact ha
        (repeat (first|apply qbi|apply qa9|(apply qa7;dsimp only[qbc,List.map,Nat.reduceAdd])|apply qbj|apply qbd|apply qbe|apply qbn|apply qbp|apply qbo|apply qa1|apply qau|apply qbb|apply qas|apply qaq|apply qam rfl|apply qaw|apply qar|apply qax|apply qay|apply qa2|apply qav|((first|apply qa8|apply qbg|apply qbh|apply qbm|apply qbf|apply qba|apply qa0|apply qal|apply qak|apply qat)<;>first|(apply qao;(repeat' first|assumption|exact qaa rfl|apply qaf rfl|apply qab);done)|exact qan _ _|exact qai _|exact qap _|exact qad|exact qag|exact qae|exact qac|exact qah _|exact qa4 _ (by omega)|exact qa3 (by omega)|exact qa5 (by omega)|exact rfl|assumption|apply qa6)|((first|apply qbl|apply qaz|apply qaj)<;>first|(apply qao;(repeat' first|assumption|exact qaa rfl|apply qaf rfl|apply qab);done)|exact qan _ _|exact qai _|exact qap _|exact qad|exact qag|exact qae|exact qac|exact qah _|exact qa4 _ (by omega)|exact qa3 (by omega)|exact qa5 (by omega)|exact rfl|assumption|apply qa6)|(apply qbk rfl rfl;(focus (repeat' first|assumption|exact qaa rfl|apply qaf rfl|apply qab);done))|(apply qb1 rfl rfl;(focus (repeat' first|assumption|exact qaa rfl|apply qaf rfl|apply qab);done);exact rfl)))
        by_cases hl0 : l = []
        · subst hl0
          apply O_append0
          · exact qbt (by (focus first|(apply qao;(repeat' first|assumption|exact qaa rfl|apply qaf rfl|apply qab);done)|exact qan _ _|exact qai _|exact qap _|exact qad|exact qag|exact qae|exact qac|exact qah _)) (qbt (by (focus first|(apply qao;(repeat' first|assumption|exact qaa rfl|apply qaf rfl|apply qab);done)|exact qan _ _|exact qai _|exact qap _|exact qad|exact qag|exact qae|exact qac|exact qah _)) qby)
          · exact sv'
          · exact ou2
          · rfl
          refine ⟨Undis.off rfl, ?_⟩
          (repeat (first|apply qbi|apply qa9|(apply qa7;dsimp only[qbc,List.map,Nat.reduceAdd])|apply qbj|apply qbd|apply qbe|apply qbn|apply qbp|apply qbo|apply qa1|apply qau|apply qbb|apply qas|apply qaq|apply qam rfl|apply qaw|apply qar|apply qax|apply qay|apply qa2|apply qav|((first|apply qa8|apply qbg|apply qbh|apply qbm|apply qbf|apply qba|apply qa0|apply qal|apply qak|apply qat)<;>first|(apply qao;(repeat' first|assumption|exact qaa rfl|apply qaf rfl|apply qab);done)|exact qan _ _|exact qai _|exact qap _|exact qad|exact qag|exact qae|exact qac|exact qah _|exact qa4 _ (by omega)|exact qa3 (by omega)|exact qa5 (by omega)|exact rfl|assumption|apply qa6)|((first|apply qbl|apply qaz|apply qaj)<;>first|(apply qao;(repeat' first|assumption|exact qaa rfl|apply qaf rfl|apply qab);done)|exact qan _ _|exact qai _|exact qap _|exact qad|exact qag|exact qae|exact qac|exact qah _|exact qa4 _ (by omega)|exact qa3 (by omega)|exact qa5 (by omega)|exact rfl|assumption|apply qa6)|(apply qbk rfl rfl;(focus (repeat' first|assumption|exact qaa rfl|apply qaf rfl|apply qab);done))|(apply qb1 rfl rfl;(focus (repeat' first|assumption|exact qaa rfl|apply qaf rfl|apply qab);done);exact rfl)))
          apply K_loop (2 - (i + 1)) (by omega)
          refine ⟨i + 1, v, rfl, by omega, by (repeat' first|assumption|exact qaa rfl|apply qaf rfl|apply qab), by (repeat' first|assumption|exact qaa rfl|apply qaf rfl|apply qab), by (repeat' first|assumption|exact qaa rfl|apply qaf rfl|apply qab), by (repeat' first|assumption|exact qaa rfl|apply qaf rfl|apply qab), kp, ?_, gv, nv, iv⟩
          rw [hfl, List.append_nil]; exact sv'
        apply O_append (new := ints l) (m := l.length) (bytes := 8)
        · exact qbt (by (focus first|(apply qao;(repeat' first|assumption|exact qaa rfl|apply qaf rfl|apply qab);done)|exact qan _ _|exact qai _|exact qap _|exact qad|exact qag|exact qae|exact qac|exact qah _)) (qbt (by (focus first|(apply qao;(repeat' first|assumption|exact qaa rfl|apply qaf rfl|apply qab);done)|exact qan _ _|exact qai _|exact qap _|exact qad|exact qag|exact qae|exact qac|exact qah _)) qby)
        · exact sv'
        · exact gv
        · exact ou2
        · exact ints_ones l
        · rfl
        · simp only [room]; omega
        intro v' g3 kb3 s3 gr3 iv3 ne3
        refine ⟨Undis.off rfl, ?_⟩
        (repeat (first|apply qbi|apply qa9|(apply qa7;dsimp only[qbc,List.map,Nat.reduceAdd])|apply qbj|apply qbd|apply qbe|apply qbn|apply qbp|apply qbo|apply qa1|apply qau|apply qbb|apply qas|apply qaq|apply qam rfl|apply qaw|apply qar|apply qax|apply qay|apply qa2|apply qav|((first|apply qa8|apply qbg|apply qbh|apply qbm|apply qbf|apply qba|apply qa0|apply qal|apply qak|apply qat)<;>first|(apply qao;(repeat' first|assumption|exact qaa rfl|apply qaf rfl|apply qab);done)|exact qan _ _|exact qai _|exact qap _|exact qad|exact qag|exact qae|exact qac|exact qah _|exact qa4 _ (by omega)|exact qa3 (by omega)|exact qa5 (by omega)|exact rfl|assumption|apply qa6)|((first|apply qbl|apply qaz|apply qaj)<;>first|(apply qao;(repeat' first|assumption|exact qaa rfl|apply qaf rfl|apply qab);done)|exact qan _ _|exact qai _|exact qap _|exact qad|exact qag|exact qae|exact qac|exact qah _|exact qa4 _ (by omega)|exact qa3 (by omega)|exact qa5 (by omega)|exact rfl|assumption|apply qa6)|(apply qbk rfl rfl;(focus (repeat' first|assumption|exact qaa rfl|apply qaf rfl|apply qab);done))|(apply qb1 rfl rfl;(focus (repeat' first|assumption|exact qaa rfl|apply qaf rfl|apply qab);done);exact rfl)))
        apply K_loop (2 - (i + 1)) (by omega)
        refine ⟨i + 1, v', rfl, by omega, by (repeat' first|assumption|exact qaa rfl|apply qaf rfl|apply qab), by (repeat' first|assumption|exact qaa rfl|apply qaf rfl|apply qab), by (repeat' first|assumption|exact qaa rfl|apply qaf rfl|apply qab), by (repeat' first|assumption|exact qaa rfl|apply qaf rfl|apply qab), kp.trans (kb3.weaken fun k hk => iv k hk), ?_, gr3, ?_, fun k hk => ?_⟩
        · rw [hfl, Ints, List.length_append, ints_append]; exact s3
        · exact ne3 (List.length_pos_iff.2 hl0)
        · rcases iv3 k hk with q | q
          · exact iv k q
          · have := kp.next; omega
      · intro c
        have : i = 2 := by simp at c; omega
        subst this
        (repeat (first|apply qbi|apply qa9|(apply qa7;dsimp only[qbc,List.map,Nat.reduceAdd])|apply qbj|apply qbd|apply qbe|apply qbn|apply qbp|apply qbo|apply qa1|apply qau|apply qbb|apply qas|apply qaq|apply qam rfl|apply qaw|apply qar|apply qax|apply qay|apply qa2|apply qav|((first|apply qa8|apply qbg|apply qbh|apply qbm|apply qbf|apply qba|apply qa0|apply qal|apply qak|apply qat)<;>first|(apply qao;(repeat' first|assumption|exact qaa rfl|apply qaf rfl|apply qab);done)|exact qan _ _|exact qai _|exact qap _|exact qad|exact qag|exact qae|exact qac|exact qah _|exact qa4 _ (by omega)|exact qa3 (by omega)|exact qa5 (by omega)|exact rfl|assumption|apply qa6)|((first|apply qbl|apply qaz|apply qaj)<;>first|(apply qao;(repeat' first|assumption|exact qaa rfl|apply qaf rfl|apply qab);done)|exact qan _ _|exact qai _|exact qap _|exact qad|exact qag|exact qae|exact qac|exact qah _|exact qa4 _ (by omega)|exact qa3 (by omega)|exact qa5 (by omega)|exact rfl|assumption|apply qa6)|(apply qbk rfl rfl;(focus (repeat' first|assumption|exact qaa rfl|apply qaf rfl|apply qab);done))|(apply qb1 rfl rfl;(focus (repeat' first|assumption|exact qaa rfl|apply qaf rfl|apply qab);done);exact rfl)))
        apply K_mid
        exact ⟨kp.toKeep w, v, by (repeat' first|assumption|exact qaa rfl|apply qaf rfl|apply qab), by simpa using sv', gv, nv, iv⟩
  rintro T g2 ⟨kp, v, t6, q⟩
  (repeat (first|apply qbi|apply qa9|(apply qa7;dsimp only[qbc,List.map,Nat.reduceAdd])|apply qbj|apply qbd|apply qbe|apply qbn|apply qbp|apply qbo|apply qa1|apply qau|apply qbb|apply qas|apply qaq|apply qam rfl|apply qaw|apply qar|apply qax|apply qay|apply qa2|apply qav|((first|apply qa8|apply qbg|apply qbh|apply qbm|apply qbf|apply qba|apply qa0|apply qal|apply qak|apply qat)<;>first|(apply qao;(repeat' first|assumption|exact qaa rfl|apply qaf rfl|apply qab);done)|exact qan _ _|exact qai _|exact qap _|exact qad|exact qag|exact qae|exact qac|exact qah _|exact qa4 _ (by omega)|exact qa3 (by omega)|exact qa5 (by omega)|exact rfl|assumption|apply qa6)|((first|apply qbl|apply qaz|apply qaj)<;>first|(apply qao;(repeat' first|assumption|exact qaa rfl|apply qaf rfl|apply qab);done)|exact qan _ _|exact qai _|exact qap _|exact qad|exact qag|exact qae|exact qac|exact qah _|exact qa4 _ (by omega)|exact qa3 (by omega)|exact qa5 (by omega)|exact rfl|assumption|apply qa6)|(apply qbk rfl rfl;(focus (repeat' first|assumption|exact qaa rfl|apply qaf rfl|apply qab);done))|(apply qb1 rfl rfl;(focus (repeat' first|assumption|exact qaa rfl|apply qaf rfl|apply qab);done);exact rfl)))
  (apply qb5 rfl; (repeat' first|assumption|exact qaa rfl|apply qaf rfl|apply qab))
  exact ⟨kp, q⟩
end Go.Am
namespace Go.Am
open Go Go.Proofs AM
set_option maxRecDepth 10000
variable {pol : Pol} {sums : Sums}

def turnOp (turn : Int) (k : Nat) : Int := if turn.tmod 2 = 0 ∨ k = 0 then 1 else if k = 1 then 3 else 2
def turnK (turn : Int) (len : Nat) : Nat := ((turn.tmod len + len).tmod len).toNat
def rot (order : List Nat) (k : Nat) : List Nat := order.drop k ++ order.take k
def opAt (pats : List Ptn) (turn : Int) (o : List Nat) (j : Nat) : Int := match o[j]? with
  | some x => match pats[x]? with
    | some p => turnOp turn (shared (knownAt pats o j) p).length
    | none => 0
  | none => 0
def turnOps (pats : List Ptn) (turn : Int) (o : List Nat) (i : Nat) : List Int := (List.range o.length).map fun j => if j < i then opAt pats turn o j else 0
theorem qc2 (pats : List Ptn) (turn : Int) (o : List Nat) (i : Nat) : (turnOps pats turn o i).length = o.length := by simp [turnOps]
theorem turnOps_set (pats : List Ptn) (turn : Int) (o : List Nat) (i : Nat) : (turnOps pats turn o i).set i (opAt pats turn o i) = turnOps pats turn o (i + 1) := by
  apply List.ext_getElem
  · simp [turnOps]
  · intro j h1 h2
    simp only [turnOps, List.getElem_set, List.getElem_map, List.getElem_range]
    by_cases e : i = j
    · subst e; simp
    · rw [if_neg e]
      by_cases h3 : j < i
      · rw [if_pos h3, if_pos (by omega)]
      · rw [if_neg h3, if_neg (by omega)]
theorem turnOps_zero (pats : List Ptn) (turn : Int) (o : List Nat) : turnOps pats turn o 0 = List.replicate o.length 0 := by
  apply List.ext_getElem
  · simp [turnOps]
  · intro j h1 h2; simp [turnOps]
theorem turnK_lt (turn : Int) {len : Nat} (h : 0 < len) : turnK turn len < len := by
  have h1 : (turn.tmod len + len).tmod len < len := Int.tmod_lt_of_pos _ (by omega)
  unfold turnK; omega
theorem turnK_eq (turn : Int) {len : Nat} (h : 0 < len) : (turn.tmod len + len).tmod len = (turnK turn len : Nat) := by
  have h0 : -(len : Int) < turn.tmod len := Int.lt_tmod_of_pos _ (by omega)
  have : 0 ≤ (turn.tmod len + len).tmod len := Int.tmod_nonneg _ (by omega)
  unfold turnK; omega
theorem rot_length (order : List Nat) (k : Nat) (h : k ≤ order.length) : (rot order k).length = order.length := by simp [rot]; omega

attribute [local irreducible] KSeq KMid KBlock KLoop KOps KFunc Runs qcs qcd aopsM aop qci qcc qcx qcx? qbz qck qbw
attribute [local irreducible] KRound KAssign
theorem turned1_spec (hs : sums 22 = none) {n : Nat} (hn : 1 ≤ n) (turn : Int) (k : Nat) (h : Hp) : Runs (qci Try.prog pol sums n (.func (.func 22) [] []) [.int .i64 turn, .int .i64 (k : Nat)]) h (fun v h' => h = h' ∧ v = .int .i64 (turnOp turn k)) := by
  obtain ⟨n, rfl⟩ : ∃ m, n = m + 1 := ⟨n - 1, by omega⟩
  refine qc7 (by assumption) Try.func22 rfl (by simp [Try.f22]) ?_
  have a0 : qcc (qbw Try.f22.ntmps (([] ++ [.int .i64 turn, .int .i64 (k : Nat)] ++ []) : List AV)) 0 = .int .i64 turn := qbu rfl
  have a1 : qcc (qbw Try.f22.ntmps (([] ++ [.int .i64 turn, .int .i64 (k : Nat)] ++ []) : List AV)) 1 = .int .i64 (k : Nat) := qbu rfl
  generalize qbw Try.f22.ntmps (([] ++ [.int .i64 turn, .int .i64 (k : Nat)] ++ []) : List AV) = T at *
  show Runs (qcd _ _ _ _ 16 _ _ _) _ _
  (repeat (first|apply qbi|apply qa9|(apply qa7;dsimp only[qbc,List.map,Nat.reduceAdd])|apply qbj|apply qbd|apply qbe|apply qbn|apply qbp|apply qbo|apply qa1|apply qau|apply qbb|apply qas|apply qaq|apply qam rfl|apply qaw|apply qar|apply qax|apply qay|apply qa2|apply qav|((first|apply qa8|apply qbg|apply qbh|apply qbm|apply qbf|apply qba|apply qa0|apply qal|apply qak|apply qat)<;>first|(apply qao;(repeat' first|assumption|exact qaa rfl|apply qaf rfl|apply qab);done)|exact qan _ _|exact qai _|exact qap _|exact qad|exact qag|exact qae|exact qac|exact qah _|exact qa4 _ (by omega)|exact qa3 (by omega)|exact qa5 (by omega)|exact rfl|assumption|apply qa6)|((first|apply qbl|apply qaz|apply qaj)<;>first|(apply qao;(repeat' first|assumption|exact qaa rfl|apply qaf rfl|apply qab);done)|exact qan _ _|exact qai _|exact qap _|exact qad|exact qag|exact qae|exact qac|exact qah _|exact qa4 _ (by omega)|exact qa3 (by omega)|exact qa5 (by omega)|exact rfl|assumption|apply qa6)|(apply qbk rfl rfl;(focus (repeat' first|assumption|exact qaa rfl|apply qaf rfl|apply qab);done))|(apply qb1 rfl rfl;(focus (repeat' first|assumption|exact qaa rfl|apply qaf rfl|apply qab);done);exact rfl)))
  apply O_rem
  · (focus first|(apply qao;(repeat' first|assumption|exact qaa rfl|apply qaf rfl|apply qab);done)|exact qan _ _|exact qai _|exact qap _|exact qad|exact qag|exact qae|exact qac|exact qah _)
  · (focus first|(apply qao;(repeat' first|assumption|exact qaa rfl|apply qaf rfl|apply qab);done)|exact qan _ _|exact qai _|exact qap _|exact qad|exact qag|exact qae|exact qac|exact qah _)
  · decide
  (repeat (first|apply qbi|apply qa9|(apply qa7;dsimp only[qbc,List.map,Nat.reduceAdd])|apply qbj|apply qbd|apply qbe|apply qbn|apply qbp|apply qbo|apply qa1|apply qau|apply qbb|apply qas|apply qaq|apply qam rfl|apply qaw|apply qar|apply qax|apply qay|apply qa2|apply qav|((first|apply qa8|apply qbg|apply qbh|apply qbm|apply qbf|apply qba|apply qa0|apply qal|apply qak|apply qat)<;>first|(apply qao;(repeat' first|assumption|exact qaa rfl|apply qaf rfl|apply qab);done)|exact qan _ _|exact qai _|exact qap _|exact qad|exact qag|exact qae|exact qac|exact qah _|exact qa4 _ (by omega)|exact qa3 (by omega)|exact qa5 (by omega)|exact rfl|assumption|apply qa6)|((first|apply qbl|apply qaz|apply qaj)<;>first|(apply qao;(repeat' first|assumption|exact qaa rfl|apply qaf rfl|apply qab);done)|exact qan _ _|exact qai _|exact qap _|exact qad|exact qag|exact qae|exact qac|exact qah _|exact qa4 _ (by omega)|exact qa3 (by omega)|exact qa5 (by omega)|exact rfl|assumption|apply qa6)|(apply qbk rfl rfl;(focus (repeat' first|assumption|exact qaa rfl|apply qaf rfl|apply qab);done))|(apply qb1 rfl rfl;(focus (repeat' first|assumption|exact qaa rfl|apply qaf rfl|apply qab);done);exact rfl)))
  cases hv : (turn.tmod 2 == 0) with
  | true =>
    have hv' : turn.tmod 2 = 0 := by simpa using hv
    (repeat (first|apply qbi|apply qa9|(apply qa7;dsimp only[qbc,List.map,Nat.reduceAdd])|apply qbj|apply qbd|apply qbe|apply qbn|apply qbp|apply qbo|apply qa1|apply qau|apply qbb|apply qas|apply qaq|apply qam rfl|apply qaw|apply qar|apply qax|apply qay|apply qa2|apply qav|((first|apply qa8|apply qbg|apply qbh|apply qbm|apply qbf|apply qba|apply qa0|apply qal|apply qak|apply qat)<;>first|(apply qao;(repeat' first|assumption|exact qaa rfl|apply qaf rfl|apply qab);done)|exact qan _ _|exact qai _|exact qap _|exact qad|exact qag|exact qae|exact qac|exact qah _|exact qa4 _ (by omega)|exact qa3 (by omega)|exact qa5 (by omega)|exact rfl|assumption|apply qa6)|((first|apply qbl|apply qaz|apply qaj)<;>first|(apply qao;(repeat' first|assumption|exact qaa rfl|apply qaf rfl|apply qab);done)|exact qan _ _|exact qai _|exact qap _|exact qad|exact qag|exact qae|exact qac|exact qah _|exact qa4 _ (by omega)|exact qa3 (by omega)|exact qa5 (by omega)|exact rfl|assumption|apply qa6)|(apply qbk rfl rfl;(focus (repeat' first|assumption|exact qaa rfl|apply qaf rfl|apply qab);done))|(apply qb1 rfl rfl;(focus (repeat' first|assumption|exact qaa rfl|apply qaf rfl|apply qab);done);exact rfl)))
    apply qcg true
    · (focus first|(apply qao;(repeat' first|assumption|exact qaa rfl|apply qaf rfl|apply qab);done)|exact qan _ _|exact qai _|exact qap _|exact qad|exact qag|exact qae|exact qac|exact qah _)
    · intro _
      (repeat (first|apply qbi|apply qa9|(apply qa7;dsimp only[qbc,List.map,Nat.reduceAdd])|apply qbj|apply qbd|apply qbe|apply qbn|apply qbp|apply qbo|apply qa1|apply qau|apply qbb|apply qas|apply qaq|apply qam rfl|apply qaw|apply qar|apply qax|apply qay|apply qa2|apply qav|((first|apply qa8|apply qbg|apply qbh|apply qbm|apply qbf|apply qba|apply qa0|apply qal|apply qak|apply qat)<;>first|(apply qao;(repeat' first|assumption|exact qaa rfl|apply qaf rfl|apply qab);done)|exact qan _ _|exact qai _|exact qap _|exact qad|exact qag|exact qae|exact qac|exact qah _|exact qa4 _ (by omega)|exact qa3 (by omega)|exact qa5 (by omega)|exact rfl|assumption|apply qa6)|((first|apply qbl|apply qaz|apply qaj)<;>first|(apply qao;(repeat' first|assumption|exact qaa rfl|apply qaf rfl|apply qab);done)|exact qan _ _|exact qai _|exact qap _|exact qad|exact qag|exact qae|exact qac|exact qah _|exact qa4 _ (by omega)|exact qa3 (by omega)|exact qa5 (by omega)|exact rfl|assumption|apply qa6)|(apply qbk rfl rfl;(focus (repeat' first|assumption|exact qaa rfl|apply qaf rfl|apply qab);done))|(apply qb1 rfl rfl;(focus (repeat' first|assumption|exact qaa rfl|apply qaf rfl|apply qab);done);exact rfl)))
      (apply qb5 rfl; (repeat' first|assumption|exact qaa rfl|apply qaf rfl|apply qab))
      simp [turnOp, hv']
    · intro c; cases c
  | false =>
    have hv' : ¬ turn.tmod 2 = 0 := by simpa using hv
    (repeat (first|apply qbi|apply qa9|(apply qa7;dsimp only[qbc,List.map,Nat.reduceAdd])|apply qbj|apply qbd|apply qbe|apply qbn|apply qbp|apply qbo|apply qa1|apply qau|apply qbb|apply qas|apply qaq|apply qam rfl|apply qaw|apply qar|apply qax|apply qay|apply qa2|apply qav|((first|apply qa8|apply qbg|apply qbh|apply qbm|apply qbf|apply qba|apply qa0|apply qal|apply qak|apply qat)<;>first|(apply qao;(repeat' first|assumption|exact qaa rfl|apply qaf rfl|apply qab);done)|exact qan _ _|exact qai _|exact qap _|exact qad|exact qag|exact qae|exact qac|exact qah _|exact qa4 _ (by omega)|exact qa3 (by omega)|exact qa5 (by omega)|exact rfl|assumption|apply qa6)|((first|apply qbl|apply qaz|apply qaj)<;>first|(apply qao;(repeat' first|assumption|exact qaa rfl|apply qaf rfl|apply qab);done)|exact qan _ _|exact qai _|exact qap _|exact qad|exact qag|exact qae|exact qac|exact qah _|exact qa4 _ (by omega)|exact qa3 (by omega)|exact qa5 (by omega)|exact rfl|assumption|apply qa6)|(apply qbk rfl rfl;(focus (repeat' first|assumption|exact qaa rfl|apply qaf rfl|apply qab);done))|(apply qb1 rfl rfl;(focus (repeat' first|assumption|exact qaa rfl|apply qaf rfl|apply qab);done);exact rfl)))
    apply qcg ((k : Int) == 0)
    · (focus first|(apply qao;(repeat' first|assumption|exact qaa rfl|apply qaf rfl|apply qab);done)|exact qan _ _|exact qai _|exact qap _|exact qad|exact qag|exact qae|exact qac|exact qah _)
    · intro c
      have c : k = 0 := by simp at c; omega
      (repeat (first|apply qbi|apply qa9|(apply qa7;dsimp only[qbc,List.map,Nat.reduceAdd])|apply qbj|apply qbd|apply qbe|apply qbn|apply qbp|apply qbo|apply qa1|apply qau|apply qbb|apply qas|apply qaq|apply qam rfl|apply qaw|apply qar|apply qax|apply qay|apply qa2|apply qav|((first|apply qa8|apply qbg|apply qbh|apply qbm|apply qbf|apply qba|apply qa0|apply qal|apply qak|apply qat)<;>first|(apply qao;(repeat' first|assumption|exact qaa rfl|apply qaf rfl|apply qab);done)|exact qan _ _|exact qai _|exact qap _|exact qad|exact qag|exact qae|exact qac|exact qah _|exact qa4 _ (by omega)|exact qa3 (by omega)|exact qa5 (by omega)|exact rfl|assumption|apply qa6)|((first|apply qbl|apply qaz|apply qaj)<;>first|(apply qao;(repeat' first|assumption|exact qaa rfl|apply qaf rfl|apply qab);done)|exact qan _ _|exact qai _|exact qap _|exact qad|exact qag|exact qae|exact qac|exact qah _|exact qa4 _ (by omega)|exact qa3 (by omega)|exact qa5 (by omega)|exact rfl|assumption|apply qa6)|(apply qbk rfl rfl;(focus (repeat' first|assumption|exact qaa rfl|apply qaf rfl|apply qab);done))|(apply qb1 rfl rfl;(focus (repeat' first|assumption|exact qaa rfl|apply qaf rfl|apply qab);done);exact rfl)))
      (apply qb5 rfl; (repeat' first|assumption|exact qaa rfl|apply qaf rfl|apply qab))
      simp [turnOp, c]
    intro c
    have c : ¬ k = 0 := by simp at c; omega
    (repeat (first|apply qbi|apply qa9|(apply qa7;dsimp only[qbc,List.map,Nat.reduceAdd])|apply qbj|apply qbd|apply qbe|apply qbn|apply qbp|apply qbo|apply qa1|apply qau|apply qbb|apply qas|apply qaq|apply qam rfl|apply qaw|apply qar|apply qax|apply qay|apply qa2|apply qav|((first|apply qa8|apply qbg|apply qbh|apply qbm|apply qbf|apply qba|apply qa0|apply qal|apply qak|apply qat)<;>first|(apply qao;(repeat' first|assumption|exact qaa rfl|apply qaf rfl|apply qab);done)|exact qan _ _|exact qai _|exact qap _|exact qad|exact qag|exact qae|exact qac|exact qah _|exact qa4 _ (by omega)|exact qa3 (by omega)|exact qa5 (by omega)|exact rfl|assumption|apply qa6)|((first|apply qbl|apply qaz|apply qaj)<;>first|(apply qao;(repeat' first|assumption|exact qaa rfl|apply qaf rfl|apply qab);done)|exact qan _ _|exact qai _|exact qap _|exact qad|exact qag|exact qae|exact qac|exact qah _|exact qa4 _ (by omega)|exact qa3 (by omega)|exact qa5 (by omega)|exact rfl|assumption|apply qa6)|(apply qbk rfl rfl;(focus (repeat' first|assumption|exact qaa rfl|apply qaf rfl|apply qab);done))|(apply qb1 rfl rfl;(focus (repeat' first|assumption|exact qaa rfl|apply qaf rfl|apply qab);done);exact rfl)))
    apply qcg ((k : Int) == 1)
    · (focus first|(apply qao;(repeat' first|assumption|exact qaa rfl|apply qaf rfl|apply qab);done)|exact qan _ _|exact qai _|exact qap _|exact qad|exact qag|exact qae|exact qac|exact qah _)
    · intro c1
      have c1 : k = 1 := by simp at c1; omega
      (repeat (first|apply qbi|apply qa9|(apply qa7;dsimp only[qbc,List.map,Nat.reduceAdd])|apply qbj|apply qbd|apply qbe|apply qbn|apply qbp|apply qbo|apply qa1|apply qau|apply qbb|apply qas|apply qaq|apply qam rfl|apply qaw|apply qar|apply qax|apply qay|apply qa2|apply qav|((first|apply qa8|apply qbg|apply qbh|apply qbm|apply qbf|apply qba|apply qa0|apply qal|apply qak|apply qat)<;>first|(apply qao;(repeat' first|assumption|exact qaa rfl|apply qaf rfl|apply qab);done)|exact qan _ _|exact qai _|exact qap _|exact qad|exact qag|exact qae|exact qac|exact qah _|exact qa4 _ (by omega)|exact qa3 (by omega)|exact qa5 (by omega)|exact rfl|assumption|apply qa6)|((first|apply qbl|apply qaz|apply qaj)<;>first|(apply qao;(repeat' first|assumption|exact qaa rfl|apply qaf rfl|apply qab);done)|exact qan _ _|exact qai _|exact qap _|exact qad|exact qag|exact qae|exact qac|exact qah _|exact qa4 _ (by omega)|exact qa3 (by omega)|exact qa5 (by omega)|exact rfl|assumption|apply qa6)|(apply qbk rfl rfl;(focus (repeat' first|assumption|exact qaa rfl|apply qaf rfl|apply qab);done))|(apply qb1 rfl rfl;(focus (repeat' first|assumption|exact qaa rfl|apply qaf rfl|apply qab);done);exact rfl)))
      (apply qb5 rfl; (repeat' first|assumption|exact qaa rfl|apply qaf rfl|apply qab))
      simp [turnOp, hv', c1]
    · intro c1
      have c1 : ¬ k = 1 := by simp at c1; omega
      (repeat (first|apply qbi|apply qa9|(apply qa7;dsimp only[qbc,List.map,Nat.reduceAdd])|apply qbj|apply qbd|apply qbe|apply qbn|apply qbp|apply qbo|apply qa1|apply qau|apply qbb|apply qas|apply qaq|apply qam rfl|apply qaw|apply qar|apply qax|apply qay|apply qa2|apply qav|((first|apply qa8|apply qbg|apply qbh|apply qbm|apply qbf|apply qba|apply qa0|apply qal|apply qak|apply qat)<;>first|(apply qao;(repeat' first|assumption|exact qaa rfl|apply qaf rfl|apply qab);done)|exact qan _ _|exact qai _|exact qap _|exact qad|exact qag|exact qae|exact qac|exact qah _|exact qa4 _ (by omega)|exact qa3 (by omega)|exact qa5 (by omega)|exact rfl|assumption|apply qa6)|((first|apply qbl|apply qaz|apply qaj)<;>first|(apply qao;(repeat' first|assumption|exact qaa rfl|apply qaf rfl|apply qab);done)|exact qan _ _|exact qai _|exact qap _|exact qad|exact qag|exact qae|exact qac|exact qah _|exact qa4 _ (by omega)|exact qa3 (by omega)|exact qa5 (by omega)|exact rfl|assumption|apply qa6)|(apply qbk rfl rfl;(focus (repeat' first|assumption|exact qaa rfl|apply qaf rfl|apply qab);done))|(apply qb1 rfl rfl;(focus (repeat' first|assumption|exact qaa rfl|apply qaf rfl|apply qab);done);exact rfl)))
      (apply qb5 rfl; (repeat' first|assumption|exact qaa rfl|apply qaf rfl|apply qab))
      simp [turnOp, hv', c, c1]

theorem fill2 {v1 v2 : AV} (h1 : acells v1 = [v1]) (h2 : acells v2 = [v2]) (k1 : Am.known v1 = true) (k2 : Am.known v2 = true) : afillL ((List.range 2).map fun i => (i * 1, 1)) (qb6 (acells (.sl .nil 0 [])) 2) [(0, v1), (1, v2)] = some [v1, v2] := by
  simp only [afillL, List.range, List.range.loop, List.map_cons, List.map_nil, List.getElem?_cons_zero, List.getElem?_cons_succ, h1, h2, k1, k2]
  rfl
theorem fillP {v1 v2 : AV} (h1 : acells v1 = [v1]) (k1 : Am.known v1 = true) {id n : Nat} (e : v2 = .own id 0 0 n) : afillL [(0, 1), (1, 1)] [.sl .nil 0 [], .sl .nil 0 []] [(0, v1), (1, v2)] = some [v1, v2] := by
  subst e
  simp only [afillL, List.getElem?_cons_zero, List.getElem?_cons_succ, h1, k1]
  rfl
theorem repeat_zero : ∀ n, qb6 [.int .i64 0] n = ints (List.replicate n 0)
  | 0 => rfl
  | n + 1 => by simp only [qb6, repeat_zero n, List.replicate_succ]; rfl
theorem turned_spec (S : S27' pol sums) {n : Nat} {h : Hp} {ov qv pv : AV} {order : List Nat} {ops : List Int} {pats : List Ptn} (turn : Int) (hn : order.length + pats.length + 60 ≤ n) (hb2 : pats.length < 2 ^ 28) (hb3 : ops.length < 2 ^ 40)
    (oo : Ints h ov (zs order)) (oq : Ints h qv ops) (po : Rows ptnC 15 h pv pats) (hr : rightZ pats (zs order) ops = true) (hol : order.length = pats.length) (hor : ∀ i ∈ order, i < pats.length) (hne : 0 < pats.length) :
    Runs (qci Try.prog pol sums n (.func (.func 7) [] []) [.agg [ov, qv], .int .i64 turn, pv]) h (fun v h' => Keep h h' ∧ ∃ ov' qid, v = .agg [ov', .own qid 0 0 pats.length] ∧ Ints h' ov' (zs (rot order (turnK turn pats.length))) ∧ growB ov' = true ∧ qcv ov' ≠ [] ∧ (∀ k ∈ qcv ov', h.next ≤ k ∧ k ≠ qid) ∧ h.next ≤ qid ∧
      RowInts h' qid 0 0 true pats.length (turnOps pats turn (rot order (turnK turn pats.length)) pats.length)) := by
  apply Runs.wf
  intro w
  have S' := S.rest
  have s7 : sums 7 = none := S' _ (by decide)
  have hk := turnK_lt turn hne
  have hkeq := turnK_eq turn hne
  have ht0 : -(pats.length : Int) < turn.tmod pats.length := Int.lt_tmod_of_pos _ (by omega)
  have ht1 : turn.tmod pats.length < pats.length := Int.tmod_lt_of_pos _ (by omega)
  have hrl := rot_length order (turnK turn pats.length) (by omega)
  generalize hkk : turnK turn pats.length = k at *
  generalize hro : rot order k = o at *
  obtain ⟨n, rfl⟩ : ∃ m, n = m + 1 := ⟨n - 1, by omega⟩
  refine qc7 (by assumption) Try.func7 rfl (by simp [Try.f7]) ?_
  have a0 : qcc (qbw Try.f7.ntmps (([] ++ [.agg [ov, qv], .int .i64 turn, pv] ++ []) : List AV)) 0 = .agg [ov, qv] := qbu rfl
  have a1 : qcc (qbw Try.f7.ntmps (([] ++ [.agg [ov, qv], .int .i64 turn, pv] ++ []) : List AV)) 1 = .int .i64 turn := qbu rfl
  have a2 : qcc (qbw Try.f7.ntmps (([] ++ [.agg [ov, qv], .int .i64 turn, pv] ++ []) : List AV)) 2 = pv := qbu rfl
  generalize qbw Try.f7.ntmps (([] ++ [.agg [ov, qv], .int .i64 turn, pv] ++ []) : List AV) = T at *
  show Runs (qcd _ _ _ _ 64 _ _ _) _ _
  (repeat (first|apply qbi|apply qa9|(apply qa7;dsimp only[qbc,List.map,Nat.reduceAdd])|apply qbj|apply qbd|apply qbe|apply qbn|apply qbp|apply qbo|apply qa1|apply qau|apply qbb|apply qas|apply qaq|apply qam rfl|apply qaw|apply qar|apply qax|apply qay|apply qa2|apply qav|((first|apply qa8|apply qbg|apply qbh|apply qbm|apply qbf|apply qba|apply qa0|apply qal|apply qak|apply qat)<;>first|(apply qao;(repeat' first|assumption|exact qaa rfl|apply qaf rfl|apply qab);done)|exact qan _ _|exact qai _|exact qap _|exact qad|exact qag|exact qae|exact qac|exact qah _|exact qa4 _ (by omega)|exact qa3 (by omega)|exact qa5 (by omega)|exact rfl|assumption|apply qa6)|((first|apply qbl|apply qaz|apply qaj)<;>first|(apply qao;(repeat' first|assumption|exact qaa rfl|apply qaf rfl|apply qab);done)|exact qan _ _|exact qai _|exact qap _|exact qad|exact qag|exact qae|exact qac|exact qah _|exact qa4 _ (by omega)|exact qa3 (by omega)|exact qa5 (by omega)|exact rfl|assumption|apply qa6)|(apply qbk rfl rfl;(focus (repeat' first|assumption|exact qaa rfl|apply qaf rfl|apply qab);done))|(apply qb1 rfl rfl;(focus (repeat' first|assumption|exact qaa rfl|apply qaf rfl|apply qab);done);exact rfl)))
  apply O_box
  · (focus first|(apply qao;(repeat' first|assumption|exact qaa rfl|apply qaf rfl|apply qab);done)|exact qan _ _|exact qai _|exact qap _|exact qad|exact qag|exact qae|exact qac|exact qah _)
  · rfl
  intro g1 i3 k1 r3 l1 l2
  change Row g1 i3 0 2 [ov, qv] true at r3
  apply O_box
  · (focus first|(apply qao;(repeat' first|assumption|exact qaa rfl|apply qaf rfl|apply qab);done)|exact qan _ _|exact qai _|exact qap _|exact qad|exact qag|exact qae|exact qac|exact qah _)
  · rfl
  intro g2 i4 k2 r4 l3 l4
  change Row g2 i4 0 1 [.int .i64 turn] true at r4
  apply O_alloc
  intro g3 i6 k3 r6 l5 l6
  change Row g3 i6 0 2 [.sl .nil 0 [], .sl .nil 0 []] true at r6
  replace r3 := (r3.keep k2).keep k3
  replace r4 := r4.keep k3
  have kk := (k1.trans k2).trans k3
  have oo3 := oo.keep kk
  have oq3 := oq.keep kk
  have po3 := po.keep kk
  (repeat (first|apply qbi|apply qa9|(apply qa7;dsimp only[qbc,List.map,Nat.reduceAdd])|apply qbj|apply qbd|apply qbe|apply qbn|apply qbp|apply qbo|apply qa1|apply qau|apply qbb|apply qas|apply qaq|apply qam rfl|apply qaw|apply qar|apply qax|apply qay|apply qa2|apply qav|((first|apply qa8|apply qbg|apply qbh|apply qbm|apply qbf|apply qba|apply qa0|apply qal|apply qak|apply qat)<;>first|(apply qao;(repeat' first|assumption|exact qaa rfl|apply qaf rfl|apply qab);done)|exact qan _ _|exact qai _|exact qap _|exact qad|exact qag|exact qae|exact qac|exact qah _|exact qa4 _ (by omega)|exact qa3 (by omega)|exact qa5 (by omega)|exact rfl|assumption|apply qa6)|((first|apply qbl|apply qaz|apply qaj)<;>first|(apply qao;(repeat' first|assumption|exact qaa rfl|apply qaf rfl|apply qab);done)|exact qan _ _|exact qai _|exact qap _|exact qad|exact qag|exact qae|exact qac|exact qah _|exact qa4 _ (by omega)|exact qa3 (by omega)|exact qa5 (by omega)|exact rfl|assumption|apply qa6)|(apply qbk rfl rfl;(focus (repeat' first|assumption|exact qaa rfl|apply qaf rfl|apply qab);done))|(apply qb1 rfl rfl;(focus (repeat' first|assumption|exact qaa rfl|apply qaf rfl|apply qab);done);exact rfl)))
  apply qb2 (n := 2)
  · (focus first|(apply qao;(repeat' first|assumption|exact qaa rfl|apply qaf rfl|apply qab);done)|exact qan _ _|exact qai _|exact qap _|exact qad|exact qag|exact qae|exact qac|exact qah _)
  · exact r3
  · rfl
  · exact rfl
  (repeat (first|apply qbi|apply qa9|(apply qa7;dsimp only[qbc,List.map,Nat.reduceAdd])|apply qbj|apply qbd|apply qbe|apply qbn|apply qbp|apply qbo|apply qa1|apply qau|apply qbb|apply qas|apply qaq|apply qam rfl|apply qaw|apply qar|apply qax|apply qay|apply qa2|apply qav|((first|apply qa8|apply qbg|apply qbh|apply qbm|apply qbf|apply qba|apply qa0|apply qal|apply qak|apply qat)<;>first|(apply qao;(repeat' first|assumption|exact qaa rfl|apply qaf rfl|apply qab);done)|exact qan _ _|exact qai _|exact qap _|exact qad|exact qag|exact qae|exact qac|exact qah _|exact qa4 _ (by omega)|exact qa3 (by omega)|exact qa5 (by omega)|exact rfl|assumption|apply qa6)|((first|apply qbl|apply qaz|apply qaj)<;>first|(apply qao;(repeat' first|assumption|exact qaa rfl|apply qaf rfl|apply qab);done)|exact qan _ _|exact qai _|exact qap _|exact qad|exact qag|exact qae|exact qac|exact qah _|exact qa4 _ (by omega)|exact qa3 (by omega)|exact qa5 (by omega)|exact rfl|assumption|apply qa6)|(apply qbk rfl rfl;(focus (repeat' first|assumption|exact qaa rfl|apply qaf rfl|apply qab);done))|(apply qb1 rfl rfl;(focus (repeat' first|assumption|exact qaa rfl|apply qaf rfl|apply qab);done);exact rfl)))
  (apply qcl; (focus first|(apply qao;(repeat' first|assumption|exact qaa rfl|apply qaf rfl|apply qab);done)|exact qan _ _|exact qai _|exact qap _|exact qad|exact qag|exact qae|exact qac|exact qah _); (repeat (apply qbt; (focus first|(apply qao;(repeat' first|assumption|exact qaa rfl|apply qaf rfl|apply qab);done)|exact qan _ _|exact qai _|exact qap _|exact qad|exact qag|exact qae|exact qac|exact qah _))); exact qby)
  refine (right_spec S (by rw [qcf]; omega) (by rw [qcf]; omega) (by omega) hb3 oo3 oq3 po3).mono ?_
  rintro v g4 ⟨k4, rfl⟩
  refine ⟨Undis.off rfl, ?_⟩
  rw [hr]
  replace r3 := r3.keep k4
  replace r4 := r4.keep k4
  replace r6 := r6.keep k4
  replace oo3 := oo3.keep k4
  replace po3 := po3.keep k4
  replace kk := kk.trans k4
  (repeat (first|apply qbi|apply qa9|(apply qa7;dsimp only[qbc,List.map,Nat.reduceAdd])|apply qbj|apply qbd|apply qbe|apply qbn|apply qbp|apply qbo|apply qa1|apply qau|apply qbb|apply qas|apply qaq|apply qam rfl|apply qaw|apply qar|apply qax|apply qay|apply qa2|apply qav|((first|apply qa8|apply qbg|apply qbh|apply qbm|apply qbf|apply qba|apply qa0|apply qal|apply qak|apply qat)<;>first|(apply qao;(repeat' first|assumption|exact qaa rfl|apply qaf rfl|apply qab);done)|exact qan _ _|exact qai _|exact qap _|exact qad|exact qag|exact qae|exact qac|exact qah _|exact qa4 _ (by omega)|exact qa3 (by omega)|exact qa5 (by omega)|exact rfl|assumption|apply qa6)|((first|apply qbl|apply qaz|apply qaj)<;>first|(apply qao;(repeat' first|assumption|exact qaa rfl|apply qaf rfl|apply qab);done)|exact qan _ _|exact qai _|exact qap _|exact qad|exact qag|exact qae|exact qac|exact qah _|exact qa4 _ (by omega)|exact qa3 (by omega)|exact qa5 (by omega)|exact rfl|assumption|apply qa6)|(apply qbk rfl rfl;(focus (repeat' first|assumption|exact qaa rfl|apply qaf rfl|apply qab);done))|(apply qb1 rfl rfl;(focus (repeat' first|assumption|exact qaa rfl|apply qaf rfl|apply qab);done);exact rfl)))
  apply qcg false
  · (focus first|(apply qao;(repeat' first|assumption|exact qaa rfl|apply qaf rfl|apply qab);done)|exact qan _ _|exact qai _|exact qap _|exact qad|exact qag|exact qae|exact qac|exact qah _)
  · intro c; cases c
  intro _
  (repeat (first|apply qbi|apply qa9|(apply qa7;dsimp only[qbc,List.map,Nat.reduceAdd])|apply qbj|apply qbd|apply qbe|apply qbn|apply qbp|apply qbo|apply qa1|apply qau|apply qbb|apply qas|apply qaq|apply qam rfl|apply qaw|apply qar|apply qax|apply qay|apply qa2|apply qav|((first|apply qa8|apply qbg|apply qbh|apply qbm|apply qbf|apply qba|apply qa0|apply qal|apply qak|apply qat)<;>first|(apply qao;(repeat' first|assumption|exact qaa rfl|apply qaf rfl|apply qab);done)|exact qan _ _|exact qai _|exact qap _|exact qad|exact qag|exact qae|exact qac|exact qah _|exact qa4 _ (by omega)|exact qa3 (by omega)|exact qa5 (by omega)|exact rfl|assumption|apply qa6)|((first|apply qbl|apply qaz|apply qaj)<;>first|(apply qao;(repeat' first|assumption|exact qaa rfl|apply qaf rfl|apply qab);done)|exact qan _ _|exact qai _|exact qap _|exact qad|exact qag|exact qae|exact qac|exact qah _|exact qa4 _ (by omega)|exact qa3 (by omega)|exact qa5 (by omega)|exact rfl|assumption|apply qa6)|(apply qbk rfl rfl;(focus (repeat' first|assumption|exact qaa rfl|apply qaf rfl|apply qab);done))|(apply qb1 rfl rfl;(focus (repeat' first|assumption|exact qaa rfl|apply qaf rfl|apply qab);done);exact rfl)))
  apply qcg ((pats.length : Int) == 0)
  · (focus first|(apply qao;(repeat' first|assumption|exact qaa rfl|apply qaf rfl|apply qab);done)|exact qan _ _|exact qai _|exact qap _|exact qad|exact qag|exact qae|exact qac|exact qah _)
  · intro c; exfalso; simp at c; rw [c] at hne; simp at hne
  intro _
  (repeat (first|apply qbi|apply qa9|(apply qa7;dsimp only[qbc,List.map,Nat.reduceAdd])|apply qbj|apply qbd|apply qbe|apply qbn|apply qbp|apply qbo|apply qa1|apply qau|apply qbb|apply qas|apply qaq|apply qam rfl|apply qaw|apply qar|apply qax|apply qay|apply qa2|apply qav|((first|apply qa8|apply qbg|apply qbh|apply qbm|apply qbf|apply qba|apply qa0|apply qal|apply qak|apply qat)<;>first|(apply qao;(repeat' first|assumption|exact qaa rfl|apply qaf rfl|apply qab);done)|exact qan _ _|exact qai _|exact qap _|exact qad|exact qag|exact qae|exact qac|exact qah _|exact qa4 _ (by omega)|exact qa3 (by omega)|exact qa5 (by omega)|exact rfl|assumption|apply qa6)|((first|apply qbl|apply qaz|apply qaj)<;>first|(apply qao;(repeat' first|assumption|exact qaa rfl|apply qaf rfl|apply qab);done)|exact qan _ _|exact qai _|exact qap _|exact qad|exact qag|exact qae|exact qac|exact qah _|exact qa4 _ (by omega)|exact qa3 (by omega)|exact qa5 (by omega)|exact rfl|assumption|apply qa6)|(apply qbk rfl rfl;(focus (repeat' first|assumption|exact qaa rfl|apply qaf rfl|apply qab);done))|(apply qb1 rfl rfl;(focus (repeat' first|assumption|exact qaa rfl|apply qaf rfl|apply qab);done);exact rfl)))
  apply O_rem
  · (focus first|(apply qao;(repeat' first|assumption|exact qaa rfl|apply qaf rfl|apply qab);done)|exact qan _ _|exact qai _|exact qap _|exact qad|exact qag|exact qae|exact qac|exact qah _)
  · (focus first|(apply qao;(repeat' first|assumption|exact qaa rfl|apply qaf rfl|apply qab);done)|exact qan _ _|exact qai _|exact qap _|exact qad|exact qag|exact qae|exact qac|exact qah _)
  · omega
  (repeat (first|apply qbi|apply qa9|(apply qa7;dsimp only[qbc,List.map,Nat.reduceAdd])|apply qbj|apply qbd|apply qbe|apply qbn|apply qbp|apply qbo|apply qa1|apply qau|apply qbb|apply qas|apply qaq|apply qam rfl|apply qaw|apply qar|apply qax|apply qay|apply qa2|apply qav|((first|apply qa8|apply qbg|apply qbh|apply qbm|apply qbf|apply qba|apply qa0|apply qal|apply qak|apply qat)<;>first|(apply qao;(repeat' first|assumption|exact qaa rfl|apply qaf rfl|apply qab);done)|exact qan _ _|exact qai _|exact qap _|exact qad|exact qag|exact qae|exact qac|exact qah _|exact qa4 _ (by omega)|exact qa3 (by omega)|exact qa5 (by omega)|exact rfl|assumption|apply qa6)|((first|apply qbl|apply qaz|apply qaj)<;>first|(apply qao;(repeat' first|assumption|exact qaa rfl|apply qaf rfl|apply qab);done)|exact qan _ _|exact qai _|exact qap _|exact qad|exact qag|exact qae|exact qac|exact qah _|exact qa4 _ (by omega)|exact qa3 (by omega)|exact qa5 (by omega)|exact rfl|assumption|apply qa6)|(apply qbk rfl rfl;(focus (repeat' first|assumption|exact qaa rfl|apply qaf rfl|apply qab);done))|(apply qb1 rfl rfl;(focus (repeat' first|assumption|exact qaa rfl|apply qaf rfl|apply qab);done);exact rfl)))
  apply O_rem
  · (focus first|(apply qao;(repeat' first|assumption|exact qaa rfl|apply qaf rfl|apply qab);done)|exact qan _ _|exact qai _|exact qap _|exact qad|exact qag|exact qae|exact qac|exact qah _)
  · (focus first|(apply qao;(repeat' first|assumption|exact qaa rfl|apply qaf rfl|apply qab);done)|exact qan _ _|exact qai _|exact qap _|exact qad|exact qag|exact qae|exact qac|exact qah _)
  · omega
  rw [hkeq]
  (repeat (first|apply qbi|apply qa9|(apply qa7;dsimp only[qbc,List.map,Nat.reduceAdd])|apply qbj|apply qbd|apply qbe|apply qbn|apply qbp|apply qbo|apply qa1|apply qau|apply qbb|apply qas|apply qaq|apply qam rfl|apply qaw|apply qar|apply qax|apply qay|apply qa2|apply qav|((first|apply qa8|apply qbg|apply qbh|apply qbm|apply qbf|apply qba|apply qa0|apply qal|apply qak|apply qat)<;>first|(apply qao;(repeat' first|assumption|exact qaa rfl|apply qaf rfl|apply qab);done)|exact qan _ _|exact qai _|exact qap _|exact qad|exact qag|exact qae|exact qac|exact qah _|exact qa4 _ (by omega)|exact qa3 (by omega)|exact qa5 (by omega)|exact rfl|assumption|apply qa6)|((first|apply qbl|apply qaz|apply qaj)<;>first|(apply qao;(repeat' first|assumption|exact qaa rfl|apply qaf rfl|apply qab);done)|exact qan _ _|exact qai _|exact qap _|exact qad|exact qag|exact qae|exact qac|exact qah _|exact qa4 _ (by omega)|exact qa3 (by omega)|exact qa5 (by omega)|exact rfl|assumption|apply qa6)|(apply qbk rfl rfl;(focus (repeat' first|assumption|exact qaa rfl|apply qaf rfl|apply qab);done))|(apply qb1 rfl rfl;(focus (repeat' first|assumption|exact qaa rfl|apply qaf rfl|apply qab);done);exact rfl)))
  have hzl : (zs order).length = order.length := qcf order
  (refine R_drawn [0, 1, 2, 3, 4, 5, 6, 7, 10, 11, 8, 9, 12, 13, 14] [0, 1, 0, 7, 0, 16, 0, 112, 255, 511, 0, 1024, 3072, 8191, 16383] (by kernel_rfl) (by kernel_rfl) (by rfl) ?_; dsimp only [qc9, List.map, List.getElem?_cons_zero, List.getElem?_cons_succ])
  (repeat (first|apply qbi|apply qa9|(apply qa7;dsimp only[qbc,List.map,Nat.reduceAdd])|apply qbj|apply qbd|apply qbe|apply qbn|apply qbp|apply qbo|apply qa1|apply qau|apply qbb|apply qas|apply qaq|apply qam rfl|apply qaw|apply qar|apply qax|apply qay|apply qa2|apply qav|((first|apply qa8|apply qbg|apply qbh|apply qbm|apply qbf|apply qba|apply qa0|apply qal|apply qak|apply qat)<;>first|(apply qao;(repeat' first|assumption|exact qaa rfl|apply qaf rfl|apply qab);done)|exact qan _ _|exact qai _|exact qap _|exact qad|exact qag|exact qae|exact qac|exact qah _|exact qa4 _ (by omega)|exact qa3 (by omega)|exact qa5 (by omega)|exact rfl|assumption|apply qa6)|((first|apply qbl|apply qaz|apply qaj)<;>first|(apply qao;(repeat' first|assumption|exact qaa rfl|apply qaf rfl|apply qab);done)|exact qan _ _|exact qai _|exact qap _|exact qad|exact qag|exact qae|exact qac|exact qah _|exact qa4 _ (by omega)|exact qa3 (by omega)|exact qa5 (by omega)|exact rfl|assumption|apply qa6)|(apply qbk rfl rfl;(focus (repeat' first|assumption|exact qaa rfl|apply qaf rfl|apply qab);done))|(apply qb1 rfl rfl;(focus (repeat' first|assumption|exact qaa rfl|apply qaf rfl|apply qab);done);exact rfl)))
  apply O_slice_v (l := k) (u := (zs order).length)
  · (focus first|(apply qao;(repeat' first|assumption|exact qaa rfl|apply qaf rfl|apply qab);done)|exact qan _ _|exact qai _|exact qap _|exact qad|exact qag|exact qae|exact qac|exact qah _)
  · exact oo3
  · exact bounds_lo (by rw [Option.map_some]; congr 1; (focus first|(apply qao;(repeat' first|assumption|exact qaa rfl|apply qaf rfl|apply qab);done)|exact qan _ _|exact qai _|exact qap _|exact qad|exact qag|exact qae|exact qac|exact qah _)) (by omega)
  · omega
  · omega
  intro v1 s1 hv1 _
  (repeat (first|apply qbi|apply qa9|(apply qa7;dsimp only[qbc,List.map,Nat.reduceAdd])|apply qbj|apply qbd|apply qbe|apply qbn|apply qbp|apply qbo|apply qa1|apply qau|apply qbb|apply qas|apply qaq|apply qam rfl|apply qaw|apply qar|apply qax|apply qay|apply qa2|apply qav|((first|apply qa8|apply qbg|apply qbh|apply qbm|apply qbf|apply qba|apply qa0|apply qal|apply qak|apply qat)<;>first|(apply qao;(repeat' first|assumption|exact qaa rfl|apply qaf rfl|apply qab);done)|exact qan _ _|exact qai _|exact qap _|exact qad|exact qag|exact qae|exact qac|exact qah _|exact qa4 _ (by omega)|exact qa3 (by omega)|exact qa5 (by omega)|exact rfl|assumption|apply qa6)|((first|apply qbl|apply qaz|apply qaj)<;>first|(apply qao;(repeat' first|assumption|exact qaa rfl|apply qaf rfl|apply qab);done)|exact qan _ _|exact qai _|exact qap _|exact qad|exact qag|exact qae|exact qac|exact qah _|exact qa4 _ (by omega)|exact qa3 (by omega)|exact qa5 (by omega)|exact rfl|assumption|apply qa6)|(apply qbk rfl rfl;(focus (repeat' first|assumption|exact qaa rfl|apply qaf rfl|apply qab);done))|(apply qb1 rfl rfl;(focus (repeat' first|assumption|exact qaa rfl|apply qaf rfl|apply qab);done);exact rfl)))
  apply O_slice_v (l := 0) (u := k)
  · (focus first|(apply qao;(repeat' first|assumption|exact qaa rfl|apply qaf rfl|apply qab);done)|exact qan _ _|exact qai _|exact qap _|exact qad|exact qag|exact qae|exact qac|exact qah _)
  · exact oo3
  · exact bounds_hi (by rw [Option.map_some]; congr 1; (focus first|(apply qao;(repeat' first|assumption|exact qaa rfl|apply qaf rfl|apply qab);done)|exact qan _ _|exact qai _|exact qap _|exact qad|exact qag|exact qae|exact qac|exact qah _)) (by omega)
  · omega
  · omega
  intro v2 s2 hv2 _
  have s1' : Ints g4 v1 (zs (order.drop k)) := by
    have e : ((ints (zs order)).drop (k * 1)).take (((zs order).length - k) * 1) = ints (zs (order.drop k)) := by
      rw [Nat.mul_one, Nat.mul_one, List.take_of_length_le (by simp)]
      simp [ints, zs, List.map_drop]
    rw [e] at s1
    show SlV g4 1 v1 (zs (order.drop k)).length _
    rw [qcf, List.length_drop, ← hzl]
    exact s1
  have s2' : Ints g4 v2 (zs (order.take k)) := by
    have e : ((ints (zs order)).drop (0 * 1)).take ((k - 0) * 1) = ints (zs (order.take k)) := by
      simp [ints, zs, List.map_take]
    rw [e] at s2
    show SlV g4 1 v2 (zs (order.take k)).length _
    rw [qcf, List.length_take, Nat.min_eq_left (by omega)]
    exact s2
  (repeat (first|apply qbi|apply qa9|(apply qa7;dsimp only[qbc,List.map,Nat.reduceAdd])|apply qbj|apply qbd|apply qbe|apply qbn|apply qbp|apply qbo|apply qa1|apply qau|apply qbb|apply qas|apply qaq|apply qam rfl|apply qaw|apply qar|apply qax|apply qay|apply qa2|apply qav|((first|apply qa8|apply qbg|apply qbh|apply qbm|apply qbf|apply qba|apply qa0|apply qal|apply qak|apply qat)<;>first|(apply qao;(repeat' first|assumption|exact qaa rfl|apply qaf rfl|apply qab);done)|exact qan _ _|exact qai _|exact qap _|exact qad|exact qag|exact qae|exact qac|exact qah _|exact qa4 _ (by omega)|exact qa3 (by omega)|exact qa5 (by omega)|exact rfl|assumption|apply qa6)|((first|apply qbl|apply qaz|apply qaj)<;>first|(apply qao;(repeat' first|assumption|exact qaa rfl|apply qaf rfl|apply qab);done)|exact qan _ _|exact qai _|exact qap _|exact qad|exact qag|exact qae|exact qac|exact qah _|exact qa4 _ (by omega)|exact qa3 (by omega)|exact qa5 (by omega)|exact rfl|assumption|apply qa6)|(apply qbk rfl rfl;(focus (repeat' first|assumption|exact qaa rfl|apply qaf rfl|apply qab);done))|(apply qb1 rfl rfl;(focus (repeat' first|assumption|exact qaa rfl|apply qaf rfl|apply qab);done);exact rfl)))
  apply qcp (c' := [v1, v2])
  · exact qb8 (by (focus first|(apply qao;(repeat' first|assumption|exact qaa rfl|apply qaf rfl|apply qab);done)|exact qan _ _|exact qai _|exact qap _|exact qad|exact qag|exact qae|exact qac|exact qah _)) (qb8 (by (focus first|(apply qao;(repeat' first|assumption|exact qaa rfl|apply qaf rfl|apply qab);done)|exact qan _ _|exact qai _|exact qap _|exact qad|exact qag|exact qae|exact qac|exact qah _)) qcn)
  · rfl
  · exact fill2 s1.acells s2.acells s1.known s2.known
  · exact S.lit _ _
  intro _
  (apply qcl; (focus first|(apply qao;(repeat' first|assumption|exact qaa rfl|apply qaf rfl|apply qab);done)|exact qan _ _|exact qai _|exact qap _|exact qad|exact qag|exact qae|exact qac|exact qah _); (repeat (apply qbt; (focus first|(apply qao;(repeat' first|assumption|exact qaa rfl|apply qaf rfl|apply qab);done)|exact qan _ _|exact qai _|exact qap _|exact qad|exact qag|exact qae|exact qac|exact qah _))); exact qby)
  refine (concat_spec S (by omega) s1' s2' (by simp; omega) (by simp; omega)).mono ?_
  rintro ov' g5 ⟨k5, so, go', vo, io⟩
  refine ⟨k5.undis, ?_⟩
  apply O_wf
  intro w5
  have so' : Ints g5 ov' (zs o) := by
    have e : zs (order.drop k) ++ zs (order.take k) = zs o := by rw [← hro]; simp [zs, rot]
    rw [← e]; exact so
  replace r3 := r3.keep k5
  replace r4 := r4.keep k5
  replace r6 := r6.keep k5
  replace po3 := po3.keep k5
  replace kk := kk.trans k5
  (repeat (first|apply qbi|apply qa9|(apply qa7;dsimp only[qbc,List.map,Nat.reduceAdd])|apply qbj|apply qbd|apply qbe|apply qbn|apply qbp|apply qbo|apply qa1|apply qau|apply qbb|apply qas|apply qaq|apply qam rfl|apply qaw|apply qar|apply qax|apply qay|apply qa2|apply qav|((first|apply qa8|apply qbg|apply qbh|apply qbm|apply qbf|apply qba|apply qa0|apply qal|apply qak|apply qat)<;>first|(apply qao;(repeat' first|assumption|exact qaa rfl|apply qaf rfl|apply qab);done)|exact qan _ _|exact qai _|exact qap _|exact qad|exact qag|exact qae|exact qac|exact qah _|exact qa4 _ (by omega)|exact qa3 (by omega)|exact qa5 (by omega)|exact rfl|assumption|apply qa6)|((first|apply qbl|apply qaz|apply qaj)<;>first|(apply qao;(repeat' first|assumption|exact qaa rfl|apply qaf rfl|apply qab);done)|exact qan _ _|exact qai _|exact qap _|exact qad|exact qag|exact qae|exact qac|exact qah _|exact qa4 _ (by omega)|exact qa3 (by omega)|exact qa5 (by omega)|exact rfl|assumption|apply qa6)|(apply qbk rfl rfl;(focus (repeat' first|assumption|exact qaa rfl|apply qaf rfl|apply qab);done))|(apply qb1 rfl rfl;(focus (repeat' first|assumption|exact qaa rfl|apply qaf rfl|apply qab);done);exact rfl)))
  apply O_makeSlice (n := pats.length) (bytes := 8)
  · (focus first|(apply qao;(repeat' first|assumption|exact qaa rfl|apply qaf rfl|apply qab);done)|exact qan _ _|exact qai _|exact qap _|exact qad|exact qag|exact qae|exact qac|exact qah _)
  · (focus first|(apply qao;(repeat' first|assumption|exact qaa rfl|apply qaf rfl|apply qab);done)|exact qan _ _|exact qai _|exact qap _|exact qad|exact qag|exact qae|exact qac|exact qah _)
  · rfl
  · omega
  · simp [room]; omega
  intro g6 qid k6 rq l7 l8
  replace r3 := r3.keep k6
  replace r4 := r4.keep k6
  replace r6 := r6.keep k6
  replace po3 := po3.keep k6
  replace so' := so'.keep k6
  have hq0 : RowInts g6 qid 0 0 true pats.length (turnOps pats turn o 0) := by
    have e : acells (.int .i64 0) = [.int .i64 0] := rfl
    rw [e, repeat_zero] at rq
    refine ⟨_, rq, by simp, by rw [qc2]; omega, ?_⟩
    rw [turnOps_zero, hrl, hol]
    simp [ints]
  replace kk := kk.trans k6
  apply O_build (c' := [ov', .own qid 0 0 pats.length])
  · exact qb8 (by (focus first|(apply qao;(repeat' first|assumption|exact qaa rfl|apply qaf rfl|apply qab);done)|exact qan _ _|exact qai _|exact qap _|exact qad|exact qag|exact qae|exact qac|exact qah _)) (qb8 (by (focus first|(apply qao;(repeat' first|assumption|exact qaa rfl|apply qaf rfl|apply qab);done)|exact qan _ _|exact qai _|exact qap _|exact qad|exact qag|exact qae|exact qac|exact qah _)) qcn)
  · exact fillP so'.acells so'.known rfl
  apply qcr
  · (focus first|(apply qao;(repeat' first|assumption|exact qaa rfl|apply qaf rfl|apply qab);done)|exact qan _ _|exact qai _|exact qap _|exact qad|exact qag|exact qae|exact qac|exact qah _)
  · (focus first|(apply qao;(repeat' first|assumption|exact qaa rfl|apply qaf rfl|apply qab);done)|exact qan _ _|exact qai _|exact qap _|exact qad|exact qag|exact qae|exact qac|exact qah _)
  · exact r6
  · have h1 : ones [ov', .own qid 0 0 pats.length] = true := by simp [ones, so'.one, show one (.own qid 0 0 pats.length) = true from rfl]
    show (_ && _ && ones [ov', _]) = true
    rw [h1]; rfl
  intro g7 kb7 r7
  refine ⟨Undis.ahead (by kernel_rfl), ?_⟩
  change Row g7 i6 0 2 [ov', .own qid 0 0 pats.length] true at r7
  have h6i : h.next ≤ i6 := by have := k1.next; have := k2.next; omega
  have hi6 : ∀ j, j = i6 → h.get j = none := fun j hj => by subst hj; exact w.get h6i
  have kk7 : Keep h g7 := KeepBut.keep kk kb7 hi6
  have hqi : qid ≠ i6 := by have := k4.next; have := k5.next; omega
  have hg3 : g3.next ≤ g5.next := by have := k4.next; have := k5.next; omega
  have vo5 : ∀ j ∈ qcv ov', j < g5.next ∧ g4.next ≤ j := fun j hj => ⟨so.lt w5 j hj, io j hj⟩
  have lpv : ∀ j ∈ qcv pv, j < h.next := po.lt w
  have so7 := so'.keepBut kb7 (fun j hj e => by have := (vo5 j hj).2; have := k4.next; omega)
  have po7 := po3.keepBut kb7 (fun j hj e => by have := lpv j hj; omega)
  have r47 := r4.keepBut kb7 (by omega)
  have hq7 := hq0.keepBut kb7 hqi
  (repeat (first|apply qbi|apply qa9|(apply qa7;dsimp only[qbc,List.map,Nat.reduceAdd])|apply qbj|apply qbd|apply qbe|apply qbn|apply qbp|apply qbo|apply qa1|apply qau|apply qbb|apply qas|apply qaq|apply qam rfl|apply qaw|apply qar|apply qax|apply qay|apply qa2|apply qav|((first|apply qa8|apply qbg|apply qbh|apply qbm|apply qbf|apply qba|apply qa0|apply qal|apply qak|apply qat)<;>first|(apply qao;(repeat' first|assumption|exact qaa rfl|apply qaf rfl|apply qab);done)|exact qan _ _|exact qai _|exact qap _|exact qad|exact qag|exact qae|exact qac|exact qah _|exact qa4 _ (by omega)|exact qa3 (by omega)|exact qa5 (by omega)|exact rfl|assumption|apply qa6)|((first|apply qbl|apply qaz|apply qaj)<;>first|(apply qao;(repeat' first|assumption|exact qaa rfl|apply qaf rfl|apply qab);done)|exact qan _ _|exact qai _|exact qap _|exact qad|exact qag|exact qae|exact qac|exact qah _|exact qa4 _ (by omega)|exact qa3 (by omega)|exact qa5 (by omega)|exact rfl|assumption|apply qa6)|(apply qbk rfl rfl;(focus (repeat' first|assumption|exact qaa rfl|apply qaf rfl|apply qab);done))|(apply qb1 rfl rfl;(focus (repeat' first|assumption|exact qaa rfl|apply qaf rfl|apply qab);done);exact rfl)))
  apply qb2 (n := 2)
  · (focus first|(apply qao;(repeat' first|assumption|exact qaa rfl|apply qaf rfl|apply qab);done)|exact qan _ _|exact qai _|exact qap _|exact qad|exact qag|exact qae|exact qac|exact qah _)
  · exact r7
  · rfl
  · exact rfl
  (repeat (first|apply qbi|apply qa9|(apply qa7;dsimp only[qbc,List.map,Nat.reduceAdd])|apply qbj|apply qbd|apply qbe|apply qbn|apply qbp|apply qbo|apply qa1|apply qau|apply qbb|apply qas|apply qaq|apply qam rfl|apply qaw|apply qar|apply qax|apply qay|apply qa2|apply qav|((first|apply qa8|apply qbg|apply qbh|apply qbm|apply qbf|apply qba|apply qa0|apply qal|apply qak|apply qat)<;>first|(apply qao;(repeat' first|assumption|exact qaa rfl|apply qaf rfl|apply qab);done)|exact qan _ _|exact qai _|exact qap _|exact qad|exact qag|exact qae|exact qac|exact qah _|exact qa4 _ (by omega)|exact qa3 (by omega)|exact qa5 (by omega)|exact rfl|assumption|apply qa6)|((first|apply qbl|apply qaz|apply qaj)<;>first|(apply qao;(repeat' first|assumption|exact qaa rfl|apply qaf rfl|apply qab);done)|exact qan _ _|exact qai _|exact qap _|exact qad|exact qag|exact qae|exact qac|exact qah _|exact qa4 _ (by omega)|exact qa3 (by omega)|exact qa5 (by omega)|exact rfl|assumption|apply qa6)|(apply qbk rfl rfl;(focus (repeat' first|assumption|exact qaa rfl|apply qaf rfl|apply qab);done))|(apply qb1 rfl rfl;(focus (repeat' first|assumption|exact qaa rfl|apply qaf rfl|apply qab);done);exact rfl)))
  (apply qcl; (focus first|(apply qao;(repeat' first|assumption|exact qaa rfl|apply qaf rfl|apply qab);done)|exact qan _ _|exact qai _|exact qap _|exact qad|exact qag|exact qae|exact qac|exact qah _); (repeat (apply qbt; (focus first|(apply qao;(repeat' first|assumption|exact qaa rfl|apply qaf rfl|apply qab);done)|exact qan _ _|exact qai _|exact qap _|exact qad|exact qag|exact qae|exact qac|exact qah _))); exact qby)
  refine (each_spec S (by omega) po7.acells po7.known).mono ?_
  rintro v g8 ⟨k8, ip, iq, rfl, rp, rq', l9, l10⟩
  refine ⟨Undis.off rfl, ?_⟩
  replace r7 := r7.keep k8
  replace so7 := so7.keep k8
  replace po7 := po7.keep k8
  replace r47 := r47.keep k8
  replace hq7 := hq7.keep k8
  replace kk7 := kk7.trans k8
  apply O_wf
  intro w8
  (repeat (first|apply qbi|apply qa9|(apply qa7;dsimp only[qbc,List.map,Nat.reduceAdd])|apply qbj|apply qbd|apply qbe|apply qbn|apply qbp|apply qbo|apply qa1|apply qau|apply qbb|apply qas|apply qaq|apply qam rfl|apply qaw|apply qar|apply qax|apply qay|apply qa2|apply qav|((first|apply qa8|apply qbg|apply qbh|apply qbm|apply qbf|apply qba|apply qa0|apply qal|apply qak|apply qat)<;>first|(apply qao;(repeat' first|assumption|exact qaa rfl|apply qaf rfl|apply qab);done)|exact qan _ _|exact qai _|exact qap _|exact qad|exact qag|exact qae|exact qac|exact qah _|exact qa4 _ (by omega)|exact qa3 (by omega)|exact qa5 (by omega)|exact rfl|assumption|apply qa6)|((first|apply qbl|apply qaz|apply qaj)<;>first|(apply qao;(repeat' first|assumption|exact qaa rfl|apply qaf rfl|apply qab);done)|exact qan _ _|exact qai _|exact qap _|exact qad|exact qag|exact qae|exact qac|exact qah _|exact qa4 _ (by omega)|exact qa3 (by omega)|exact qa5 (by omega)|exact rfl|assumption|apply qa6)|(apply qbk rfl rfl;(focus (repeat' first|assumption|exact qaa rfl|apply qaf rfl|apply qab);done))|(apply qb1 rfl rfl;(focus (repeat' first|assumption|exact qaa rfl|apply qaf rfl|apply qab);done);exact rfl)))
  refine R_gen (fun T => qcc T 4 = .ptr i4 0 0 ∧ qcc T 6 = .ptr i6 0 0 ∧ qcc T 51 = .func (.func 47) [] [.ptr ip 0 0, .ptr iq 0 0]) ⟨by (repeat' first|assumption|exact qaa rfl|apply qaf rfl|apply qab), by (repeat' first|assumption|exact qaa rfl|apply qaf rfl|apply qab), by (repeat' first|assumption|exact qaa rfl|apply qaf rfl|apply qab)⟩ ?_
  rintro T0 ⟨t4, t6, t51⟩
  apply R_rangeFunc (F := .func (.func 47) [] [.ptr ip 0 0, .ptr iq 0 0])
  · (focus first|(apply qao;(repeat' first|assumption|exact qaa rfl|apply qaf rfl|apply qab);done)|exact qan _ _|exact qai _|exact qap _|exact qad|exact qag|exact qae|exact qac|exact qah _)
  · rfl
  intro h2 lid k9 hl l11 l12
  have hrow := rp.keep k9
  have hroq := rq'.keep k9
  replace r7 := r7.keep k9
  replace so7 := so7.keep k9
  replace po7 := po7.keep k9
  replace r47 := r47.keep k9
  replace hq7 := hq7.keep k9
  replace kk7 := kk7.trans k9
  have n78 : g7.next ≤ g8.next := k8.next
  have n67 : g6.next ≤ g7.next := kb7.next
  have n56 : g5.next ≤ g6.next := k6.next
  have hipL : ip < g8.next := rp.lt w8
  have hiqL : iq < g8.next := rq'.lt w8
  have hon : ∀ i ∈ o, i < pats.length := fun i hi => by
    rw [← hro] at hi
    rcases List.mem_append.1 hi with q | q
    · exact hor i (List.mem_of_mem_drop q)
    · exact hor i (List.mem_of_mem_take q)
  have hop : ∀ i (hi : i < o.length) (hp : o[i] < pats.length), opAt pats turn o i = turnOp turn (shared (knownAt pats o i) pats[o[i]]).length := fun i hi hp => by
    simp [opAt, hi, hp]
  obtain ⟨L, hL⟩ := hl.fam
  refine (each1_spec S (h := h2) (X := fun j => j = lid ∨ j = qid) (n := n) (order := o) (by omega) (by omega) (by omega) hrow hroq so7 po7 hon (fun j hj => by rcases hj with rfl | rfl <;> omega) (by rintro (q | q) <;> omega) (by rintro (q | q) <;> omega)
    (fun j hj q => by have := (vo5 j hj).1; rcases q with q | q <;> omega) (fun j hj q => by have := lpv j hj; have := k1.next; have := k2.next; have := k3.next; rcases q with q | q <;> omega)
    (fun i => turnOps pats turn o i)
    (fun i g => KeepBut (fun j => j = lid ∨ j = qid ∨ h2.next ≤ j) h2 g ∧ L g .ready none ∧ RowInts g qid 0 0 true pats.length (turnOps pats turn o i))
    (fun _ => False)
    ⟨KeepBut.refl _, (hL _ _ _).2 hl, hq7⟩
    (fun i g g' hi k => ⟨hi.1.trans (k.weaken fun j hj => .inr (.inr hj)), (hL _ _ _).2 (((hL _ _ _).1 hi.2.1).keepBut k (by omega)), hi.2.2.keepBut k (by omega)⟩)
    (fun i g hi => by
      have := hi.2.2.slv
      rw [qc2, hrl, hol] at this
      exact this)
    (fun i => qc2 _ _ _ _) ?_).mono ?_
  · rintro i hi hp g m sv fv hm ⟨kp, hl2, hq⟩ ss sf
    obtain ⟨m, rfl⟩ : ∃ q, m = q + 1 := ⟨m - 1, by omega⟩
    replace hl2 := (hL _ _ _).1 hl2
    refine R_yield hl2 rfl ?_
    rw [aparams_cons, aparams_cons, aparams_nil]
    (repeat (first|apply qbi|apply qa9|(apply qa7;dsimp only[qbc,List.map,Nat.reduceAdd])|apply qbj|apply qbd|apply qbe|apply qbn|apply qbp|apply qbo|apply qa1|apply qau|apply qbb|apply qas|apply qaq|apply qam rfl|apply qaw|apply qar|apply qax|apply qay|apply qa2|apply qav|((first|apply qa8|apply qbg|apply qbh|apply qbm|apply qbf|apply qba|apply qa0|apply qal|apply qak|apply qat)<;>first|(apply qao;(repeat' first|assumption|exact qaa rfl|apply qaf rfl|apply qab);done)|exact qan _ _|exact qai _|exact qap _|exact qad|exact qag|exact qae|exact qac|exact qah _|exact qa4 _ (by omega)|exact qa3 (by omega)|exact qa5 (by omega)|exact rfl|assumption|apply qa6)|((first|apply qbl|apply qaz|apply qaj)<;>first|(apply qao;(repeat' first|assumption|exact qaa rfl|apply qaf rfl|apply qab);done)|exact qan _ _|exact qai _|exact qap _|exact qad|exact qag|exact qae|exact qac|exact qah _|exact qa4 _ (by omega)|exact qa3 (by omega)|exact qa5 (by omega)|exact rfl|assumption|apply qa6)|(apply qbk rfl rfl;(focus (repeat' first|assumption|exact qaa rfl|apply qaf rfl|apply qab);done))|(apply qb1 rfl rfl;(focus (repeat' first|assumption|exact qaa rfl|apply qaf rfl|apply qab);done);exact rfl)))
    apply O_wf
    intro wg
    apply O_alloc
    intro g9 i9 k9' r9 l13 l14
    apply qcr
    · (focus first|(apply qao;(repeat' first|assumption|exact qaa rfl|apply qaf rfl|apply qab);done)|exact qan _ _|exact qai _|exact qap _|exact qad|exact qag|exact qae|exact qac|exact qah _)
    · (focus first|(apply qao;(repeat' first|assumption|exact qaa rfl|apply qaf rfl|apply qab);done)|exact qan _ _|exact qai _|exact qap _|exact qad|exact qag|exact qae|exact qac|exact qah _)
    · exact r9
    · have h1 := stepC_ones (place := (o[i] : Nat)) (op := (turnOps pats turn o i)[i]'(by rw [qc2]; exact hi)) (p := pats[o[i]]) ss.one sf.one
      show (_ && _ && ones (stepC _ _ _ sv fv)) = true
      rw [h1]; rfl
    intro g10 kb10 r10
    refine ⟨Undis.off rfl, ?_⟩
    change Row g10 i9 0 19 (stepC (o[i] : Nat) ((turnOps pats turn o i)[i]'(by rw [qc2]; exact hi)) pats[o[i]] sv fv) true at r10
    have k10 : Keep g g10 := KeepBut.keep k9' kb10 fun j hj => wg.get (by omega)
    have hlid := hl2.lt wg
    (repeat (first|apply qbi|apply qa9|(apply qa7;dsimp only[qbc,List.map,Nat.reduceAdd])|apply qbj|apply qbd|apply qbe|apply qbn|apply qbp|apply qbo|apply qa1|apply qau|apply qbb|apply qas|apply qaq|apply qam rfl|apply qaw|apply qar|apply qax|apply qay|apply qa2|apply qav|((first|apply qa8|apply qbg|apply qbh|apply qbm|apply qbf|apply qba|apply qa0|apply qal|apply qak|apply qat)<;>first|(apply qao;(repeat' first|assumption|exact qaa rfl|apply qaf rfl|apply qab);done)|exact qan _ _|exact qai _|exact qap _|exact qad|exact qag|exact qae|exact qac|exact qah _|exact qa4 _ (by omega)|exact qa3 (by omega)|exact qa5 (by omega)|exact rfl|assumption|apply qa6)|((first|apply qbl|apply qaz|apply qaj)<;>first|(apply qao;(repeat' first|assumption|exact qaa rfl|apply qaf rfl|apply qab);done)|exact qan _ _|exact qai _|exact qap _|exact qad|exact qag|exact qae|exact qac|exact qah _|exact qa4 _ (by omega)|exact qa3 (by omega)|exact qa5 (by omega)|exact rfl|assumption|apply qa6)|(apply qbk rfl rfl;(focus (repeat' first|assumption|exact qaa rfl|apply qaf rfl|apply qab);done))|(apply qb1 rfl rfl;(focus (repeat' first|assumption|exact qaa rfl|apply qaf rfl|apply qab);done);exact rfl)))
    refine K_assign (hl2.keep k10) fun g11 kb11 hl11 => ?_
    have r11 := r10.keepBut kb11 (by omega)
    have ss11 := (ss.keep k10).keepBut kb11 ((ss.keep k10).ne_loop (hl2.keep k10))
    have hg2 : h2.next ≤ g.next := kp.next
    have kp11 : KeepBut (fun j => j = lid ∨ j = qid ∨ h2.next ≤ j) h2 g11 := (kp.trans (k10.but _)).trans (kb11.weaken fun j hj => .inl hj)
    have r7' := r7.keepBut kp11 (by omega)
    have r4' := r47.keepBut kp11 (by omega)
    have hq11 := (hq.keep k10).keepBut kb11 (by omega)
    (repeat (first|apply qbi|apply qa9|(apply qa7;dsimp only[qbc,List.map,Nat.reduceAdd])|apply qbj|apply qbd|apply qbe|apply qbn|apply qbp|apply qbo|apply qa1|apply qau|apply qbb|apply qas|apply qaq|apply qam rfl|apply qaw|apply qar|apply qax|apply qay|apply qa2|apply qav|((first|apply qa8|apply qbg|apply qbh|apply qbm|apply qbf|apply qba|apply qa0|apply qal|apply qak|apply qat)<;>first|(apply qao;(repeat' first|assumption|exact qaa rfl|apply qaf rfl|apply qab);done)|exact qan _ _|exact qai _|exact qap _|exact qad|exact qag|exact qae|exact qac|exact qah _|exact qa4 _ (by omega)|exact qa3 (by omega)|exact qa5 (by omega)|exact rfl|assumption|apply qa6)|((first|apply qbl|apply qaz|apply qaj)<;>first|(apply qao;(repeat' first|assumption|exact qaa rfl|apply qaf rfl|apply qab);done)|exact qan _ _|exact qai _|exact qap _|exact qad|exact qag|exact qae|exact qac|exact qah _|exact qa4 _ (by omega)|exact qa3 (by omega)|exact qa5 (by omega)|exact rfl|assumption|apply qa6)|(apply qbk rfl rfl;(focus (repeat' first|assumption|exact qaa rfl|apply qaf rfl|apply qab);done))|(apply qb1 rfl rfl;(focus (repeat' first|assumption|exact qaa rfl|apply qaf rfl|apply qab);done);exact rfl)))
    (refine R_drawn [0, 1, 2, 3, 4, 5, 6, 7, 8, 9] [0, 1, 0, 0, 0, 16, 48, 120, 255, 511] (by kernel_rfl) (by kernel_rfl) (by rfl) ?_; dsimp only [qc9, List.map, List.getElem?_cons_zero, List.getElem?_cons_succ])
    (repeat (first|apply qbi|apply qa9|(apply qa7;dsimp only[qbc,List.map,Nat.reduceAdd])|apply qbj|apply qbd|apply qbe|apply qbn|apply qbp|apply qbo|apply qa1|apply qau|apply qbb|apply qas|apply qaq|apply qam rfl|apply qaw|apply qar|apply qax|apply qay|apply qa2|apply qav|((first|apply qa8|apply qbg|apply qbh|apply qbm|apply qbf|apply qba|apply qa0|apply qal|apply qak|apply qat)<;>first|(apply qao;(repeat' first|assumption|exact qaa rfl|apply qaf rfl|apply qab);done)|exact qan _ _|exact qai _|exact qap _|exact qad|exact qag|exact qae|exact qac|exact qah _|exact qa4 _ (by omega)|exact qa3 (by omega)|exact qa5 (by omega)|exact rfl|assumption|apply qa6)|((first|apply qbl|apply qaz|apply qaj)<;>first|(apply qao;(repeat' first|assumption|exact qaa rfl|apply qaf rfl|apply qab);done)|exact qan _ _|exact qai _|exact qap _|exact qad|exact qag|exact qae|exact qac|exact qah _|exact qa4 _ (by omega)|exact qa3 (by omega)|exact qa5 (by omega)|exact rfl|assumption|apply qa6)|(apply qbk rfl rfl;(focus (repeat' first|assumption|exact qaa rfl|apply qaf rfl|apply qab);done))|(apply qb1 rfl rfl;(focus (repeat' first|assumption|exact qaa rfl|apply qaf rfl|apply qab);done);exact rfl)))
    (apply qcl; (focus first|(apply qao;(repeat' first|assumption|exact qaa rfl|apply qaf rfl|apply qab);done)|exact qan _ _|exact qai _|exact qap _|exact qad|exact qag|exact qae|exact qac|exact qah _); (repeat (apply qbt; (focus first|(apply qao;(repeat' first|assumption|exact qaa rfl|apply qaf rfl|apply qab);done)|exact qan _ _|exact qai _|exact qap _|exact qad|exact qag|exact qae|exact qac|exact qah _))); exact qby)
    refine (turned1_spec (S' _ (by decide)) (by omega) _ _ _).mono ?_
    rintro v g12 ⟨rfl, rfl⟩
    refine ⟨(Keep.refl _).undis, ?_⟩
    rw [← hop i hi hp]
    obtain ⟨row, q1, q2, q3, q4⟩ := hq11
    rw [qc2, hrl, hol] at q3
    have hi' : i < pats.length := by omega
    apply O_indexAddr_own
    · (focus first|(apply qao;(repeat' first|assumption|exact qaa rfl|apply qaf rfl|apply qab);done)|exact qan _ _|exact qai _|exact qap _|exact qad|exact qag|exact qae|exact qac|exact qah _)
    · exact q1
    · (focus first|(apply qao;(repeat' first|assumption|exact qaa rfl|apply qaf rfl|apply qab);done)|exact qan _ _|exact qai _|exact qap _|exact qad|exact qag|exact qae|exact qac|exact qah _)
    · exact hi'
    · omega
    apply qcr
    · (focus first|(apply qao;(repeat' first|assumption|exact qaa rfl|apply qaf rfl|apply qab);done)|exact qan _ _|exact qai _|exact qap _|exact qad|exact qag|exact qae|exact qac|exact qah _)
    · (focus first|(apply qao;(repeat' first|assumption|exact qaa rfl|apply qaf rfl|apply qab);done)|exact qan _ _|exact qai _|exact qap _|exact qad|exact qag|exact qae|exact qac|exact qah _)
    · exact q1
    · simp [acells, ones, one]; omega
    intro g13 kb13 r13
    refine ⟨Undis.ahead (by kernel_rfl), ?_⟩
    have hs13 := RowInts.splice r13 (l := turnOps pats turn o i) (by rw [qc2]; omega) q4 (by rw [qc2]; exact hi)
    rw [turnOps_set, q2] at hs13
    (repeat (first|apply qbi|apply qa9|(apply qa7;dsimp only[qbc,List.map,Nat.reduceAdd])|apply qbj|apply qbd|apply qbe|apply qbn|apply qbp|apply qbo|apply qa1|apply qau|apply qbb|apply qas|apply qaq|apply qam rfl|apply qaw|apply qar|apply qax|apply qay|apply qa2|apply qav|((first|apply qa8|apply qbg|apply qbh|apply qbm|apply qbf|apply qba|apply qa0|apply qal|apply qak|apply qat)<;>first|(apply qao;(repeat' first|assumption|exact qaa rfl|apply qaf rfl|apply qab);done)|exact qan _ _|exact qai _|exact qap _|exact qad|exact qag|exact qae|exact qac|exact qah _|exact qa4 _ (by omega)|exact qa3 (by omega)|exact qa5 (by omega)|exact rfl|assumption|apply qa6)|((first|apply qbl|apply qaz|apply qaj)<;>first|(apply qao;(repeat' first|assumption|exact qaa rfl|apply qaf rfl|apply qab);done)|exact qan _ _|exact qai _|exact qap _|exact qad|exact qag|exact qae|exact qac|exact qah _|exact qa4 _ (by omega)|exact qa3 (by omega)|exact qa5 (by omega)|exact rfl|assumption|apply qa6)|(apply qbk rfl rfl;(focus (repeat' first|assumption|exact qaa rfl|apply qaf rfl|apply qab);done))|(apply qb1 rfl rfl;(focus (repeat' first|assumption|exact qaa rfl|apply qaf rfl|apply qab);done);exact rfl)))
    refine K_round_end (hl11.keepBut kb13 (by omega)) fun g14 kb14 hl14 => ⟨true, rfl, ?_, fun _ => ⟨?_, (hL _ _ _).2 hl14, hs13.keepBut kb14 (by omega)⟩, fun c => (by cases c)⟩
    · exact (((k10.but _).trans (kb11.weaken fun j hj => .inl hj)).trans (kb13.weaken fun j hj => .inr hj)).trans (kb14.weaken fun j hj => .inl hj)
    · exact (kp11.trans (kb13.weaken fun j hj => .inr (.inl hj))).trans (kb14.weaken fun j hj => .inl hj)
  · rintro _ g ⟨kp, hI | hS⟩
    · obtain ⟨kp1, hl1, hq⟩ := hI
      refine ⟨.ready, none, (hL _ _ _).1 hl1, rfl, fun g15 kb => after_none ?_⟩
      have kp2 : KeepBut (fun j => j = lid ∨ j = qid ∨ h2.next ≤ j) h2 g15 := kp1.trans (kb.weaken fun j hj => .inl hj)
      have r15 := r7.keepBut kp2 (by omega)
      have so15 := so7.keepBut kp2 (fun j hj q => by have := (vo5 j hj).1; rcases q with q | q | q <;> omega)
      have q15 := hq.keepBut kb (by omega)
      have hgh : g1.next ≤ g5.next := by have := k2.next; have := k3.next; omega
      have kf : Keep h g15 := KeepBut.keep kk7 kp2 fun j hj => w.get (by have := k1.next; rcases hj with q | q | q <;> omega)
      (repeat (first|apply qbi|apply qa9|(apply qa7;dsimp only[qbc,List.map,Nat.reduceAdd])|apply qbj|apply qbd|apply qbe|apply qbn|apply qbp|apply qbo|apply qa1|apply qau|apply qbb|apply qas|apply qaq|apply qam rfl|apply qaw|apply qar|apply qax|apply qay|apply qa2|apply qav|((first|apply qa8|apply qbg|apply qbh|apply qbm|apply qbf|apply qba|apply qa0|apply qal|apply qak|apply qat)<;>first|(apply qao;(repeat' first|assumption|exact qaa rfl|apply qaf rfl|apply qab);done)|exact qan _ _|exact qai _|exact qap _|exact qad|exact qag|exact qae|exact qac|exact qah _|exact qa4 _ (by omega)|exact qa3 (by omega)|exact qa5 (by omega)|exact rfl|assumption|apply qa6)|((first|apply qbl|apply qaz|apply qaj)<;>first|(apply qao;(repeat' first|assumption|exact qaa rfl|apply qaf rfl|apply qab);done)|exact qan _ _|exact qai _|exact qap _|exact qad|exact qag|exact qae|exact qac|exact qah _|exact qa4 _ (by omega)|exact qa3 (by omega)|exact qa5 (by omega)|exact rfl|assumption|apply qa6)|(apply qbk rfl rfl;(focus (repeat' first|assumption|exact qaa rfl|apply qaf rfl|apply qab);done))|(apply qb1 rfl rfl;(focus (repeat' first|assumption|exact qaa rfl|apply qaf rfl|apply qab);done);exact rfl)))
      apply qb2 (n := 2)
      · (focus first|(apply qao;(repeat' first|assumption|exact qaa rfl|apply qaf rfl|apply qab);done)|exact qan _ _|exact qai _|exact qap _|exact qad|exact qag|exact qae|exact qac|exact qah _)
      · exact r15
      · rfl
      · exact rfl
      apply qcr
      · (focus first|(apply qao;(repeat' first|assumption|exact qaa rfl|apply qaf rfl|apply qab);done)|exact qan _ _|exact qai _|exact qap _|exact qad|exact qag|exact qae|exact qac|exact qah _)
      · (focus first|(apply qao;(repeat' first|assumption|exact qaa rfl|apply qaf rfl|apply qab);done)|exact qan _ _|exact qai _|exact qap _|exact qad|exact qag|exact qae|exact qac|exact qah _)
      · exact r15
      · have h1 : ones [ov', .own qid 0 0 pats.length] = true := by simp [ones, so'.one, show one (.own qid 0 0 pats.length) = true from rfl]
        show (_ && _ && ones [ov', _]) = true
        rw [h1]; rfl
      intro g16 kb16 r16
      refine ⟨Undis.off rfl, ?_⟩
      (repeat (first|apply qbi|apply qa9|(apply qa7;dsimp only[qbc,List.map,Nat.reduceAdd])|apply qbj|apply qbd|apply qbe|apply qbn|apply qbp|apply qbo|apply qa1|apply qau|apply qbb|apply qas|apply qaq|apply qam rfl|apply qaw|apply qar|apply qax|apply qay|apply qa2|apply qav|((first|apply qa8|apply qbg|apply qbh|apply qbm|apply qbf|apply qba|apply qa0|apply qal|apply qak|apply qat)<;>first|(apply qao;(repeat' first|assumption|exact qaa rfl|apply qaf rfl|apply qab);done)|exact qan _ _|exact qai _|exact qap _|exact qad|exact qag|exact qae|exact qac|exact qah _|exact qa4 _ (by omega)|exact qa3 (by omega)|exact qa5 (by omega)|exact rfl|assumption|apply qa6)|((first|apply qbl|apply qaz|apply qaj)<;>first|(apply qao;(repeat' first|assumption|exact qaa rfl|apply qaf rfl|apply qab);done)|exact qan _ _|exact qai _|exact qap _|exact qad|exact qag|exact qae|exact qac|exact qah _|exact qa4 _ (by omega)|exact qa3 (by omega)|exact qa5 (by omega)|exact rfl|assumption|apply qa6)|(apply qbk rfl rfl;(focus (repeat' first|assumption|exact qaa rfl|apply qaf rfl|apply qab);done))|(apply qb1 rfl rfl;(focus (repeat' first|assumption|exact qaa rfl|apply qaf rfl|apply qab);done);exact rfl)))
      apply R_res_agg rfl (c' := [ov', .own qid 0 0 pats.length])
      · (repeat' first|assumption|exact qaa rfl|apply qaf rfl|apply qab)
      · exact r16
      · rfl
      · rfl
      refine ⟨KeepBut.keep kf kb16 hi6, ov', qid, rfl, so15.keepBut kb16 (fun j hj e => by have := (vo5 j hj).2; have := k4.next; omega), go', vo, fun j hj => ?_, by have := k1.next; omega, ?_⟩
      · have := vo5 j hj
        have := k1.next; have := k2.next; have := k3.next; have := k4.next
        exact ⟨by omega, by omega⟩
      · have := q15.keepBut kb16 hqi
        rw [hrl, hol] at this
        exact this
    · exact hS.elim
end Go.Am
namespace Go.Am
open Go Go.Proofs AM
set_option maxRecDepth 10000

theorem mayZ_opZ (x : Sts) (known : List Str) (p : Ptn) : mayZ (opZ x known p) (shared known p).length = true := by
  unfold opZ
  by_cases h0 : (shared known p).length = 0
  · rw [if_pos h0]; simp [mayZ]
  · rw [if_neg h0]
    by_cases h1 : guessZ x p [] ≤ 64
    · rw [if_pos h1]; simp [mayZ]; omega
    · rw [if_neg h1]
      by_cases h2 : (shared known p).length = 1
      · rw [if_pos h2, h2]; simp [mayZ]
      · rw [if_neg h2]; simp [mayZ]
theorem mayZ_turn (turn : Int) (k : Nat) : mayZ (turnOp turn k) k = true := by
  unfold turnOp
  split
  · simp [mayZ]
  · rename_i h
    split
    · rename_i h2; subst h2; simp [mayZ]
    · simp [mayZ]; omega

theorem sortZ_range {l : List Int} {n : Nat} (p : l.Perm (zs (List.range n))) : sortZ l = zs (List.range n) := by
  refine sorted_one ((sortZ_perm l).trans p) (sortZ_sorted l) ?_
  unfold zs
  rw [List.pairwise_map]
  exact pw_turn (List.pairwise_lt_range (n := n)) fun a b h => by omega
theorem wholeZ_perm {o : List Nat} {n : Nat} (p : o.Perm (List.range n)) : wholeZ (zs o) n = true := by
  have hl : o.length = n := by have := p.length_eq; simpa using this
  have : sortZ (zs o) = zs (List.range n) := sortZ_range (p.map _)
  simp [wholeZ, this, hl]

theorem filter_nodup {left : List Nat} {i : Nat} (hn : left.Nodup) (hi : i ∈ left) : (i :: left.filter (· ≠ i)).Perm left := by
  induction left with
  | nil => cases hi
  | cons a l ih =>
    obtain ⟨h1, h2⟩ := List.nodup_cons.1 hn
    by_cases e : a = i
    · subst e
      have : l.filter (· ≠ a) = l := List.filter_eq_self.2 fun b hb => by
        have : b ≠ a := fun q => h1 (q ▸ hb)
        simpa using this
      simp only [List.filter_cons, ne_eq, not_true, decide_false, Bool.false_eq_true, if_false]
      simp only [ne_eq] at this
      rw [this]
    · have hi' : i ∈ l := by rcases List.mem_cons.1 hi with q | q; exact absurd q.symm e; exact q
      have := ih h2 hi'
      simp only [List.filter_cons, e, ne_eq, not_false_eq_true, decide_true, if_true]
      simp only [ne_eq] at this
      exact (List.Perm.swap _ _ _).trans (this.cons a)

theorem ofLoop_ok (x : Sts) (pats : List Ptn) : ∀ (n : Nat) (known : List Str) (left : List Nat), left.length = n → left.Nodup → (∀ i ∈ left, i < pats.length) →
    (ofLoop x pats n known left).1.Perm left ∧ (ofLoop x pats n known left).2.length = n ∧
    ∀ i j op, (ofLoop x pats n known left).1[i]? = some j → (ofLoop x pats n known left).2[i]? = some op → ∃ p, pats[j]? = some p ∧ op = opZ x (((ofLoop x pats n known left).1.take i).foldl (fun k j => match pats[j]? with | some p => learnZ k p | none => k) known) p
  | 0, known, left, h, _, _ => by
    have : left = [] := List.length_eq_zero_iff.1 h
    subst this
    exact ⟨.refl _, rfl, fun i j op h1 _ => by simp [ofLoop] at h1⟩
  | n + 1, known, left, h, hn, hp => by
    have hne : left ≠ [] := by rintro rfl; cases h
    obtain ⟨i, hi, hpk⟩ := pickZ_mem (x := x) (pats := pats) (known := known) hne
    have hip := hp i hi
    have hst := ofLoop_step x pats hi hip hpk hp
    rw [h] at hst
    have hpm := filter_nodup hn hi
    have hfl : (left.filter (· ≠ i)).length = n := by have := hpm.length_eq; simp at this ⊢; omega
    rw [hfl] at hst
    rw [hst]
    obtain ⟨a1, a2, a3⟩ := ofLoop_ok x pats n (learnZ known pats[i]) (left.filter (· ≠ i)) hfl (hn.filter _) (fun j hj => hp j (List.mem_filter.1 hj).1)
    refine ⟨(a1.cons i).trans hpm, by rw [List.length_cons, a2], fun k j op h1 h2 => ?_⟩
    cases k with
    | zero =>
      simp only [List.getElem?_cons_zero, Option.some.injEq] at h1 h2
      subst h1 h2
      exact ⟨pats[i], List.getElem?_eq_getElem hip, rfl⟩
    | succ k =>
      simp only [List.getElem?_cons_succ] at h1 h2
      obtain ⟨p, b1, b2⟩ := a3 k j op h1 h2
      refine ⟨p, b1, ?_⟩
      rw [b2]
      simp only [List.take_succ_cons, List.foldl_cons, List.getElem?_eq_getElem hip]
theorem planZ_ok (x : Sts) (pats : List Ptn) : (planZ x pats).1.Perm (List.range pats.length) ∧ (planZ x pats).2.length = pats.length ∧ rightZ pats (zs (planZ x pats).1) (planZ x pats).2 = true := by
  obtain ⟨a1, a2, a3⟩ := ofLoop_ok x pats pats.length [] (List.range pats.length) (by simp) List.nodup_range (fun i hi => List.mem_range.1 hi)
  refine ⟨a1, a2, ?_⟩
  have hl : (planZ x pats).1.length = pats.length := by have := a1.length_eq; simpa [planZ] using this
  have ho : (planZ x pats).2.length = pats.length := a2
  simp only [rightZ, Bool.and_eq_true, List.all_eq_true]
  refine ⟨⟨wholeZ_perm a1, by simpa using ho⟩, fun i hi => ?_⟩
  have hi := List.mem_range.1 hi
  rw [zs_toNat]
  have h1 : (planZ x pats).1[i]? = some ((planZ x pats).1[i]'(by omega)) := List.getElem?_eq_getElem _
  have h2 : (planZ x pats).2[i]? = some ((planZ x pats).2[i]'(by omega)) := List.getElem?_eq_getElem _
  obtain ⟨p, b1, b2⟩ := a3 i _ _ h1 h2
  unfold stepOk
  rw [h1, h2]
  dsimp only
  rw [b1]
  dsimp only
  rw [b2]
  exact mayZ_opZ _ _ _
theorem rot_perm (o : List Nat) (k : Nat) : (rot o k).Perm o := by
  unfold rot
  exact (List.perm_append_comm).trans (by rw [List.take_append_drop])
theorem turn_ok (pats : List Ptn) (turn : Int) {o : List Nat} (p : o.Perm (List.range pats.length)) : rightZ pats (zs o) (turnOps pats turn o pats.length) = true := by
  have hl : o.length = pats.length := by have := p.length_eq; simpa using this
  simp only [rightZ, Bool.and_eq_true, List.all_eq_true]
  refine ⟨⟨wholeZ_perm p, by simp [qc2, hl]⟩, fun i hi => ?_⟩
  have hi := List.mem_range.1 hi
  rw [zs_toNat]
  have hio : i < o.length := by omega
  have hj : o[i] < pats.length := List.mem_range.1 (p.mem_iff.1 (List.getElem_mem hio))
  unfold stepOk
  rw [List.getElem?_eq_getElem hio]
  have h2 : (turnOps pats turn o pats.length)[i]? = some (opAt pats turn o i) := by
    simp [turnOps, hio, hi]
  rw [h2]
  dsimp only
  rw [List.getElem?_eq_getElem hj]
  dsimp only
  have : opAt pats turn o i = turnOp turn (shared (knownAt pats o i) pats[o[i]]).length := by simp [opAt, hio, hj]
  rw [this]
  exact mayZ_turn _ _
end Go.Am
namespace Go.Am
open Go Go.Proofs AM
set_option maxRecDepth 10000

def isTrueR : Option (AV × Hp) → Bool
  | some (.bool true, _) => true
  | _ => false
theorem awake_run : isTrueR ((qci Try.prog pol27 sums27 3000 (.func (.func 6) [] []) []).run ⟨.leaf, 1⟩) = true := by kernel_rfl
theorem s27' : S27' pol27 sums27 := { s27 with list := rfl, sort := rfl, grow := rfl }

theorem right_twice {pats : List Ptn} {o : List Nat} {ops : List Int} (h2 : 2 ≤ o.length) : rightZ pats ((zs o).set 0 ((zs o)[o.length - 1]'(by simp; omega))) ops = false := by
  cases hq : rightZ pats ((zs o).set 0 ((zs o)[o.length - 1]'(by simp; omega))) ops with
  | false => rfl
  | true =>
    exfalso
    simp only [rightZ, Bool.and_eq_true] at hq
    obtain ⟨o2, h1, _, h3, h4⟩ := wholeZ_true hq.1.1
    have hn : o2.Nodup := h4.nodup_iff.2 List.nodup_range
    have hl : o2.length = o.length := by have := congrArg List.length h1; simpa using this.symm
    have e1 : ((zs o).set 0 ((zs o)[o.length - 1]'(by simp; omega)))[0]? = ((zs o).set 0 ((zs o)[o.length - 1]'(by simp; omega)))[o.length - 1]? := by
      rw [List.getElem?_set_self (by simp; omega), List.getElem?_set_ne (by omega), List.getElem?_eq_getElem (by simp; omega)]
    rw [h1] at e1
    have a1 : 0 < o2.length := by omega
    have a2 : o.length - 1 < o2.length := by omega
    simp only [zs, List.getElem?_map, List.getElem?_eq_getElem a1, List.getElem?_eq_getElem a2, Option.map_some, Option.some.injEq] at e1
    have e2 : o2[0] = o2[o.length - 1] := by omega
    exact List.pairwise_iff_getElem.1 hn 0 (o.length - 1) a1 a2 (by omega) e2
theorem right_less {pats : List Ptn} {order ops : List Int} (h : order.length ≠ pats.length) : rightZ pats order ops = false := by
  simp [rightZ, wholeZ, h]
theorem right_none {pats : List Ptn} {o : List Nat} {ops : List Int} (h : 0 < pats.length) (ho : ops.length = pats.length) : rightZ pats (zs o) (ops.set (pats.length - 1) 4) = false := by
  cases hq : rightZ pats (zs o) (ops.set (pats.length - 1) 4) with
  | false => rfl
  | true =>
    exfalso
    simp only [rightZ, Bool.and_eq_true, List.all_eq_true] at hq
    have := hq.2 (pats.length - 1) (List.mem_range.2 (by omega))
    rw [zs_toNat] at this
    unfold stepOk at this
    rw [List.getElem?_set, if_pos rfl, if_pos (by omega)] at this
    cases ho2 : o[pats.length - 1]? with
    | none => rw [ho2] at this; cases this
    | some j =>
      rw [ho2] at this
      dsimp only at this
      cases hp : pats[j]? with
      | none => rw [hp] at this; cases this
      | some p => rw [hp] at this; simp [mayZ] at this
theorem right_first {pats : List Ptn} {o : List Nat} {ops : List Int} (h : 0 < pats.length) (ho : ops.length = pats.length) : rightZ pats (zs o) (ops.set 0 2) = false := by
  cases hq : rightZ pats (zs o) (ops.set 0 2) with
  | false => rfl
  | true =>
    exfalso
    simp only [rightZ, Bool.and_eq_true, List.all_eq_true] at hq
    have := hq.2 0 (List.mem_range.2 (by omega))
    rw [zs_toNat] at this
    unfold stepOk at this
    rw [List.getElem?_set, if_pos rfl, if_pos (by omega)] at this
    cases ho2 : o[0]? with
    | none => rw [ho2] at this; cases this
    | some j =>
      rw [ho2] at this
      dsimp only at this
      cases hp : pats[j]? with
      | none => rw [hp] at this; cases this
      | some p => rw [hp] at this; simp [mayZ, knownAt, shared] at this

theorem awake_spec {h : Hp} (hn : h.next = 1) : Runs (qci Try.prog pol27 sums27 3000 (.func (.func 6) [] []) []) h (fun v h' => Keep h h' ∧ v = .bool true) := fun w => by
  have hr := awake_run
  cases hq : (qci Try.prog pol27 sums27 3000 (.func (.func 6) [] []) []).run ⟨.leaf, 1⟩ with
  | none => rw [hq] at hr; cases hr
  | some p =>
    obtain ⟨v, h'⟩ := p
    rw [hq] at hr
    have hleaf : ∀ id, (⟨.leaf, 1⟩ : Hp).get id = none := fun id => Tm.get_leaf id
    have hv : v = .bool true := by
      cases v <;> first | cases hr | skip
      rename_i b
      cases b
      · cases hr
      · rfl
    subst hv
    obtain ⟨_, b⟩ := (qci Try.prog pol27 sums27 3000 (.func (.func 6) [] []) []).good.2 _ _ _ hq (fun id _ _ => hleaf id)
    obtain ⟨g, e1, e2, e3⟩ := b h hn (fun id o ho => by rw [hleaf] at ho; cases ho)
    have hd := ((qci Try.prog pol27 sums27 3000 (.func (.func 6) [] []) []).good.1 _ _ _ hq).next
    refine ⟨_, g, e1, ⟨fun id o ho => ?_, ?_⟩, rfl⟩
    · have := w id o ho
      rw [e3 id, if_neg, ho]
      rintro (q | q)
      · rw [hleaf] at q; cases q
      · have q1 : 1 ≤ id := q.1
        omega
    · rw [e2, hn]; exact hd
end Go.Am
