/- PlanWrong: for every input the law returns true, and each argument reads behind the call as it read before. No condition. -/
import Derived.Test.YtallboljaphbpaaJ5
import Derived.Deep.Slices
import Derived.Deep.Fields
import Derived.ChangeSame
import Derived.Test.YtallboljaphbpaaRows
import Derived.ProofKit
set_option linter.unusedVariables false
set_option linter.unusedSimpArgs false
namespace Go.Am
open Go Go.Proofs AM
set_option maxRecDepth 10000
attribute [local irreducible] KSeq KMid KBlock KLoop KOps KFunc Runs qcs qcd aopsM aop qci qcc qcx qcx? qbz qck qbw
attribute [local irreducible] KRound KAssign

theorem O_box1 {P : Program} {pol : Pol} {call : qcw} {fn nt : Nat} {h : Hp} {T : qb7} {R : Rg} {rest : List (Nat × Oper)} {seen : Seen} {i : Nat} {Q : qb7 → Hp → Prop} {d : Option Tmp} {ty : TypeId} {pos : String} {after : Array Edge} {t : TypeId} {x : Operand} {v : AV} (hx : qbz T x = v) (hk : Am.known v = true)
    (r : ∀ h1 id, Keep h h1 → Row h1 id 0 (acells v).length (acells v) true → id = h.next → h1.next = h.next + 1 → qcs P pol call fn nt R rest seen (qcx? nt T d (.ptr id 0 0)) h1 Q) : qcs P pol call fn nt R ((i, ⟨d, .box t x, ty, pos, after, none⟩) :: rest) seen T h Q := by
  refine O_make rfl rfl (Runs.wf fun w => ?_)
  simp only [aop, hx]
  rw [hk, qb9, qbs]
  exact Runs.bind (Runs.halloc (Runs.pure (r _ _ (Keep.alloc w _) ⟨_, qct _ _ _ _⟩ rfl rfl)))
theorem fillQ {v1 v2 : AV} (h1 : acells v1 = [v1]) (k1 : Am.known v1 = true) (h2 : acells v2 = [v2]) (k2 : Am.known v2 = true) : afillL [(0, 1), (1, 1)] [.sl .nil 0 [], .sl .nil 0 []] [(0, v1), (1, v2)] = some [v1, v2] := by
  simp only [afillL, List.getElem?_cons_zero, List.getElem?_cons_succ, h1, k1, h2, k2]
  rfl
theorem right_bad {n : Nat} {h : Hp} {ov qv pv : AV} {order ops : List Int} {pats : List Ptn} (hn : order.length + pats.length + 40 ≤ n) (hb : order.length < 2 ^ 30) (hb2 : pats.length < 2 ^ 30) (hb3 : ops.length < 2 ^ 40)
    (oo : Ints h ov order) (oq : Ints h qv ops) (po : Rows ptnC 15 h pv pats) (hr : rightZ pats order ops = false) :
    Runs (qci Try.prog pol27 sums27 n (.func (.func 9) [] []) [.agg [ov, qv], pv]) h (fun v h' => Keep h h' ∧ v = .int .i64 18) :=
  (right_spec s27' hn hb hb2 hb3 oo oq po).mono fun v h' hk => ⟨hk.1, by rw [hk.2, hr]; rfl⟩

set_option maxHeartbeats 4000000 in
theorem planWrong_spec {h : Hp} (h0 : h.next = 0) {x : Sts} {lv : AV} {pats : List Ptn} {pv : AV} (turn : Int) (ox : Rows linC 7 h lv x.lines) (o : Rows ptnC 15 h pv pats) :
    Runs (qci Try.prog pol27 sums27 3001 (.func (.func 3) [] []) [.agg (stsC x lv), pv, .int .i64 turn]) h (fun v _ => v = .bool true) := by
  apply Runs.wf
  intro w
  have S := s27'
  refine qc7 (n := 3000) rfl Try.func3 rfl (by simp [Try.f3]) ?_
  have a0 : qcc (qbw Try.f3.ntmps ([] ++ [.agg (stsC x lv), pv, .int .i64 turn] ++ [] : List AV)) 0 = .agg (stsC x lv) := qbu rfl
  have a1 : qcc (qbw Try.f3.ntmps ([] ++ [.agg (stsC x lv), pv, .int .i64 turn] ++ [] : List AV)) 1 = pv := qbu rfl
  have a2 : qcc (qbw Try.f3.ntmps ([] ++ [.agg (stsC x lv), pv, .int .i64 turn] ++ [] : List AV)) 2 = .int .i64 turn := qbu rfl
  generalize qbw Try.f3.ntmps ([] ++ [.agg (stsC x lv), pv, .int .i64 turn] ++ [] : List AV) = T at *
  show Runs (qcd _ _ _ _ 108 _ _ _) _ _
  (repeat (first|apply qbi|apply qa9|(apply qa7;dsimp only[qbc,List.map,Nat.reduceAdd])|apply qbj|apply qbd|apply qbe|apply qbn|apply qbp|apply qbo|apply qa1|apply qau|apply qbb|apply qas|apply qaq|apply qam rfl|apply qaw|apply qar|apply qax|apply qay|apply qa2|apply qav|((first|apply qa8|apply qbg|apply qbh|apply qbm|apply qbf|apply qba|apply qa0|apply qal|apply qak|apply qat)<;>first|(apply qao;(repeat' first|assumption|exact qaa rfl|apply qaf rfl|apply qab);done)|exact qan _ _|exact qai _|exact qap _|exact qad|exact qag|exact qae|exact qac|exact qah _|exact qa4 _ (by omega)|exact qa3 (by omega)|exact qa5 (by omega)|exact rfl|assumption|apply qa6)|((first|apply qbl|apply qaz|apply qaj)<;>first|(apply qao;(repeat' first|assumption|exact qaa rfl|apply qaf rfl|apply qab);done)|exact qan _ _|exact qai _|exact qap _|exact qad|exact qag|exact qae|exact qac|exact qah _|exact qa4 _ (by omega)|exact qa3 (by omega)|exact qa5 (by omega)|exact rfl|assumption|apply qa6)|(apply qbk rfl rfl;(focus (repeat' first|assumption|exact qaa rfl|apply qaf rfl|apply qab);done))|(apply qb1 rfl rfl;(focus (repeat' first|assumption|exact qaa rfl|apply qaf rfl|apply qab);done);exact rfl)))
  apply O_wf
  intro _
  apply O_box1
  · (focus first|(apply qao;(repeat' first|assumption|exact qaa rfl|apply qaf rfl|apply qab);done)|exact qan _ _|exact qai _|exact qap _|exact qad|exact qag|exact qae|exact qac|exact qah _)
  · rfl
  intro g1 i3 k1 r3 l1 hg1
  change Row g1 i3 0 5 (stsC x lv) true at r3
  (repeat (first|apply qbi|apply qa9|(apply qa7;dsimp only[qbc,List.map,Nat.reduceAdd])|apply qbj|apply qbd|apply qbe|apply qbn|apply qbp|apply qbo|apply qa1|apply qau|apply qbb|apply qas|apply qaq|apply qam rfl|apply qaw|apply qar|apply qax|apply qay|apply qa2|apply qav|((first|apply qa8|apply qbg|apply qbh|apply qbm|apply qbf|apply qba|apply qa0|apply qal|apply qak|apply qat)<;>first|(apply qao;(repeat' first|assumption|exact qaa rfl|apply qaf rfl|apply qab);done)|exact qan _ _|exact qai _|exact qap _|exact qad|exact qag|exact qae|exact qac|exact qah _|exact qa4 _ (by omega)|exact qa3 (by omega)|exact qa5 (by omega)|exact rfl|assumption|apply qa6)|((first|apply qbl|apply qaz|apply qaj)<;>first|(apply qao;(repeat' first|assumption|exact qaa rfl|apply qaf rfl|apply qab);done)|exact qan _ _|exact qai _|exact qap _|exact qad|exact qag|exact qae|exact qac|exact qah _|exact qa4 _ (by omega)|exact qa3 (by omega)|exact qa5 (by omega)|exact rfl|assumption|apply qa6)|(apply qbk rfl rfl;(focus (repeat' first|assumption|exact qaa rfl|apply qaf rfl|apply qab);done))|(apply qb1 rfl rfl;(focus (repeat' first|assumption|exact qaa rfl|apply qaf rfl|apply qab);done);exact rfl)))
  (apply qcl; (focus first|(apply qao;(repeat' first|assumption|exact qaa rfl|apply qaf rfl|apply qab);done)|exact qan _ _|exact qai _|exact qap _|exact qad|exact qag|exact qae|exact qac|exact qah _); (repeat (apply qbt; (focus first|(apply qao;(repeat' first|assumption|exact qaa rfl|apply qaf rfl|apply qab);done)|exact qan _ _|exact qai _|exact qap _|exact qad|exact qag|exact qae|exact qac|exact qah _))); exact qby)
  refine (awake_spec (by omega)).mono ?_
  rintro v g2 ⟨k2, rfl⟩
  refine ⟨Undis.off rfl, ?_⟩
  replace r3 := r3.keep k2
  have kk := k1.trans k2
  have ox2 := ox.keep kk
  have o2 := o.keep kk
  (repeat (first|apply qbi|apply qa9|(apply qa7;dsimp only[qbc,List.map,Nat.reduceAdd])|apply qbj|apply qbd|apply qbe|apply qbn|apply qbp|apply qbo|apply qa1|apply qau|apply qbb|apply qas|apply qaq|apply qam rfl|apply qaw|apply qar|apply qax|apply qay|apply qa2|apply qav|((first|apply qa8|apply qbg|apply qbh|apply qbm|apply qbf|apply qba|apply qa0|apply qal|apply qak|apply qat)<;>first|(apply qao;(repeat' first|assumption|exact qaa rfl|apply qaf rfl|apply qab);done)|exact qan _ _|exact qai _|exact qap _|exact qad|exact qag|exact qae|exact qac|exact qah _|exact qa4 _ (by omega)|exact qa3 (by omega)|exact qa5 (by omega)|exact rfl|assumption|apply qa6)|((first|apply qbl|apply qaz|apply qaj)<;>first|(apply qao;(repeat' first|assumption|exact qaa rfl|apply qaf rfl|apply qab);done)|exact qan _ _|exact qai _|exact qap _|exact qad|exact qag|exact qae|exact qac|exact qah _|exact qa4 _ (by omega)|exact qa3 (by omega)|exact qa5 (by omega)|exact rfl|assumption|apply qa6)|(apply qbk rfl rfl;(focus (repeat' first|assumption|exact qaa rfl|apply qaf rfl|apply qab);done))|(apply qb1 rfl rfl;(focus (repeat' first|assumption|exact qaa rfl|apply qaf rfl|apply qab);done);exact rfl)))
  apply qcg false
  · (focus first|(apply qao;(repeat' first|assumption|exact qaa rfl|apply qaf rfl|apply qab);done)|exact qan _ _|exact qai _|exact qap _|exact qad|exact qag|exact qae|exact qac|exact qah _)
  · intro c; cases c
  intro _
  (repeat (first|apply qbi|apply qa9|(apply qa7;dsimp only[qbc,List.map,Nat.reduceAdd])|apply qbj|apply qbd|apply qbe|apply qbn|apply qbp|apply qbo|apply qa1|apply qau|apply qbb|apply qas|apply qaq|apply qam rfl|apply qaw|apply qar|apply qax|apply qay|apply qa2|apply qav|((first|apply qa8|apply qbg|apply qbh|apply qbm|apply qbf|apply qba|apply qa0|apply qal|apply qak|apply qat)<;>first|(apply qao;(repeat' first|assumption|exact qaa rfl|apply qaf rfl|apply qab);done)|exact qan _ _|exact qai _|exact qap _|exact qad|exact qag|exact qae|exact qac|exact qah _|exact qa4 _ (by omega)|exact qa3 (by omega)|exact qa5 (by omega)|exact rfl|assumption|apply qa6)|((first|apply qbl|apply qaz|apply qaj)<;>first|(apply qao;(repeat' first|assumption|exact qaa rfl|apply qaf rfl|apply qab);done)|exact qan _ _|exact qai _|exact qap _|exact qad|exact qag|exact qae|exact qac|exact qah _|exact qa4 _ (by omega)|exact qa3 (by omega)|exact qa5 (by omega)|exact rfl|assumption|apply qa6)|(apply qbk rfl rfl;(focus (repeat' first|assumption|exact qaa rfl|apply qaf rfl|apply qab);done))|(apply qb1 rfl rfl;(focus (repeat' first|assumption|exact qaa rfl|apply qaf rfl|apply qab);done);exact rfl)))
  cases hv1 : decide ((x.lines.length : Int) > 30) with
  | true =>
    (repeat (first|apply qbi|apply qa9|(apply qa7;dsimp only[qbc,List.map,Nat.reduceAdd])|apply qbj|apply qbd|apply qbe|apply qbn|apply qbp|apply qbo|apply qa1|apply qau|apply qbb|apply qas|apply qaq|apply qam rfl|apply qaw|apply qar|apply qax|apply qay|apply qa2|apply qav|((first|apply qa8|apply qbg|apply qbh|apply qbm|apply qbf|apply qba|apply qa0|apply qal|apply qak|apply qat)<;>first|(apply qao;(repeat' first|assumption|exact qaa rfl|apply qaf rfl|apply qab);done)|exact qan _ _|exact qai _|exact qap _|exact qad|exact qag|exact qae|exact qac|exact qah _|exact qa4 _ (by omega)|exact qa3 (by omega)|exact qa5 (by omega)|exact rfl|assumption|apply qa6)|((first|apply qbl|apply qaz|apply qaj)<;>first|(apply qao;(repeat' first|assumption|exact qaa rfl|apply qaf rfl|apply qab);done)|exact qan _ _|exact qai _|exact qap _|exact qad|exact qag|exact qae|exact qac|exact qah _|exact qa4 _ (by omega)|exact qa3 (by omega)|exact qa5 (by omega)|exact rfl|assumption|apply qa6)|(apply qbk rfl rfl;(focus (repeat' first|assumption|exact qaa rfl|apply qaf rfl|apply qab);done))|(apply qb1 rfl rfl;(focus (repeat' first|assumption|exact qaa rfl|apply qaf rfl|apply qab);done);exact rfl)))
    apply qcg true
    · (focus first|(apply qao;(repeat' first|assumption|exact qaa rfl|apply qaf rfl|apply qab);done)|exact qan _ _|exact qai _|exact qap _|exact qad|exact qag|exact qae|exact qac|exact qah _)
    · intro _
      (repeat (first|apply qbi|apply qa9|(apply qa7;dsimp only[qbc,List.map,Nat.reduceAdd])|apply qbj|apply qbd|apply qbe|apply qbn|apply qbp|apply qbo|apply qa1|apply qau|apply qbb|apply qas|apply qaq|apply qam rfl|apply qaw|apply qar|apply qax|apply qay|apply qa2|apply qav|((first|apply qa8|apply qbg|apply qbh|apply qbm|apply qbf|apply qba|apply qa0|apply qal|apply qak|apply qat)<;>first|(apply qao;(repeat' first|assumption|exact qaa rfl|apply qaf rfl|apply qab);done)|exact qan _ _|exact qai _|exact qap _|exact qad|exact qag|exact qae|exact qac|exact qah _|exact qa4 _ (by omega)|exact qa3 (by omega)|exact qa5 (by omega)|exact rfl|assumption|apply qa6)|((first|apply qbl|apply qaz|apply qaj)<;>first|(apply qao;(repeat' first|assumption|exact qaa rfl|apply qaf rfl|apply qab);done)|exact qan _ _|exact qai _|exact qap _|exact qad|exact qag|exact qae|exact qac|exact qah _|exact qa4 _ (by omega)|exact qa3 (by omega)|exact qa5 (by omega)|exact rfl|assumption|apply qa6)|(apply qbk rfl rfl;(focus (repeat' first|assumption|exact qaa rfl|apply qaf rfl|apply qab);done))|(apply qb1 rfl rfl;(focus (repeat' first|assumption|exact qaa rfl|apply qaf rfl|apply qab);done);exact rfl)))
      (apply qb5 rfl; (repeat' first|assumption|exact qaa rfl|apply qaf rfl|apply qab))
      rfl
    · intro c; cases c
  | false =>
    have hx : x.lines.length ≤ 30 := by simp at hv1; omega
    (repeat (first|apply qbi|apply qa9|(apply qa7;dsimp only[qbc,List.map,Nat.reduceAdd])|apply qbj|apply qbd|apply qbe|apply qbn|apply qbp|apply qbo|apply qa1|apply qau|apply qbb|apply qas|apply qaq|apply qam rfl|apply qaw|apply qar|apply qax|apply qay|apply qa2|apply qav|((first|apply qa8|apply qbg|apply qbh|apply qbm|apply qbf|apply qba|apply qa0|apply qal|apply qak|apply qat)<;>first|(apply qao;(repeat' first|assumption|exact qaa rfl|apply qaf rfl|apply qab);done)|exact qan _ _|exact qai _|exact qap _|exact qad|exact qag|exact qae|exact qac|exact qah _|exact qa4 _ (by omega)|exact qa3 (by omega)|exact qa5 (by omega)|exact rfl|assumption|apply qa6)|((first|apply qbl|apply qaz|apply qaj)<;>first|(apply qao;(repeat' first|assumption|exact qaa rfl|apply qaf rfl|apply qab);done)|exact qan _ _|exact qai _|exact qap _|exact qad|exact qag|exact qae|exact qac|exact qah _|exact qa4 _ (by omega)|exact qa3 (by omega)|exact qa5 (by omega)|exact rfl|assumption|apply qa6)|(apply qbk rfl rfl;(focus (repeat' first|assumption|exact qaa rfl|apply qaf rfl|apply qab);done))|(apply qb1 rfl rfl;(focus (repeat' first|assumption|exact qaa rfl|apply qaf rfl|apply qab);done);exact rfl)))
    cases hv2 : decide ((pats.length : Int) > 30) with
    | true =>
      (repeat (first|apply qbi|apply qa9|(apply qa7;dsimp only[qbc,List.map,Nat.reduceAdd])|apply qbj|apply qbd|apply qbe|apply qbn|apply qbp|apply qbo|apply qa1|apply qau|apply qbb|apply qas|apply qaq|apply qam rfl|apply qaw|apply qar|apply qax|apply qay|apply qa2|apply qav|((first|apply qa8|apply qbg|apply qbh|apply qbm|apply qbf|apply qba|apply qa0|apply qal|apply qak|apply qat)<;>first|(apply qao;(repeat' first|assumption|exact qaa rfl|apply qaf rfl|apply qab);done)|exact qan _ _|exact qai _|exact qap _|exact qad|exact qag|exact qae|exact qac|exact qah _|exact qa4 _ (by omega)|exact qa3 (by omega)|exact qa5 (by omega)|exact rfl|assumption|apply qa6)|((first|apply qbl|apply qaz|apply qaj)<;>first|(apply qao;(repeat' first|assumption|exact qaa rfl|apply qaf rfl|apply qab);done)|exact qan _ _|exact qai _|exact qap _|exact qad|exact qag|exact qae|exact qac|exact qah _|exact qa4 _ (by omega)|exact qa3 (by omega)|exact qa5 (by omega)|exact rfl|assumption|apply qa6)|(apply qbk rfl rfl;(focus (repeat' first|assumption|exact qaa rfl|apply qaf rfl|apply qab);done))|(apply qb1 rfl rfl;(focus (repeat' first|assumption|exact qaa rfl|apply qaf rfl|apply qab);done);exact rfl)))
      apply qcg true
      · (focus first|(apply qao;(repeat' first|assumption|exact qaa rfl|apply qaf rfl|apply qab);done)|exact qan _ _|exact qai _|exact qap _|exact qad|exact qag|exact qae|exact qac|exact qah _)
      · intro _
        (repeat (first|apply qbi|apply qa9|(apply qa7;dsimp only[qbc,List.map,Nat.reduceAdd])|apply qbj|apply qbd|apply qbe|apply qbn|apply qbp|apply qbo|apply qa1|apply qau|apply qbb|apply qas|apply qaq|apply qam rfl|apply qaw|apply qar|apply qax|apply qay|apply qa2|apply qav|((first|apply qa8|apply qbg|apply qbh|apply qbm|apply qbf|apply qba|apply qa0|apply qal|apply qak|apply qat)<;>first|(apply qao;(repeat' first|assumption|exact qaa rfl|apply qaf rfl|apply qab);done)|exact qan _ _|exact qai _|exact qap _|exact qad|exact qag|exact qae|exact qac|exact qah _|exact qa4 _ (by omega)|exact qa3 (by omega)|exact qa5 (by omega)|exact rfl|assumption|apply qa6)|((first|apply qbl|apply qaz|apply qaj)<;>first|(apply qao;(repeat' first|assumption|exact qaa rfl|apply qaf rfl|apply qab);done)|exact qan _ _|exact qai _|exact qap _|exact qad|exact qag|exact qae|exact qac|exact qah _|exact qa4 _ (by omega)|exact qa3 (by omega)|exact qa5 (by omega)|exact rfl|assumption|apply qa6)|(apply qbk rfl rfl;(focus (repeat' first|assumption|exact qaa rfl|apply qaf rfl|apply qab);done))|(apply qb1 rfl rfl;(focus (repeat' first|assumption|exact qaa rfl|apply qaf rfl|apply qab);done);exact rfl)))
        (apply qb5 rfl; (repeat' first|assumption|exact qaa rfl|apply qaf rfl|apply qab))
        rfl
      · intro c; cases c
    | false =>
      have hp : pats.length ≤ 30 := by simp at hv2; omega
      (repeat (first|apply qbi|apply qa9|(apply qa7;dsimp only[qbc,List.map,Nat.reduceAdd])|apply qbj|apply qbd|apply qbe|apply qbn|apply qbp|apply qbo|apply qa1|apply qau|apply qbb|apply qas|apply qaq|apply qam rfl|apply qaw|apply qar|apply qax|apply qay|apply qa2|apply qav|((first|apply qa8|apply qbg|apply qbh|apply qbm|apply qbf|apply qba|apply qa0|apply qal|apply qak|apply qat)<;>first|(apply qao;(repeat' first|assumption|exact qaa rfl|apply qaf rfl|apply qab);done)|exact qan _ _|exact qai _|exact qap _|exact qad|exact qag|exact qae|exact qac|exact qah _|exact qa4 _ (by omega)|exact qa3 (by omega)|exact qa5 (by omega)|exact rfl|assumption|apply qa6)|((first|apply qbl|apply qaz|apply qaj)<;>first|(apply qao;(repeat' first|assumption|exact qaa rfl|apply qaf rfl|apply qab);done)|exact qan _ _|exact qai _|exact qap _|exact qad|exact qag|exact qae|exact qac|exact qah _|exact qa4 _ (by omega)|exact qa3 (by omega)|exact qa5 (by omega)|exact rfl|assumption|apply qa6)|(apply qbk rfl rfl;(focus (repeat' first|assumption|exact qaa rfl|apply qaf rfl|apply qab);done))|(apply qb1 rfl rfl;(focus (repeat' first|assumption|exact qaa rfl|apply qaf rfl|apply qab);done);exact rfl)))
      cases hv3 : ((pats.length : Int) == 0) with
      | true =>
        (repeat (first|apply qbi|apply qa9|(apply qa7;dsimp only[qbc,List.map,Nat.reduceAdd])|apply qbj|apply qbd|apply qbe|apply qbn|apply qbp|apply qbo|apply qa1|apply qau|apply qbb|apply qas|apply qaq|apply qam rfl|apply qaw|apply qar|apply qax|apply qay|apply qa2|apply qav|((first|apply qa8|apply qbg|apply qbh|apply qbm|apply qbf|apply qba|apply qa0|apply qal|apply qak|apply qat)<;>first|(apply qao;(repeat' first|assumption|exact qaa rfl|apply qaf rfl|apply qab);done)|exact qan _ _|exact qai _|exact qap _|exact qad|exact qag|exact qae|exact qac|exact qah _|exact qa4 _ (by omega)|exact qa3 (by omega)|exact qa5 (by omega)|exact rfl|assumption|apply qa6)|((first|apply qbl|apply qaz|apply qaj)<;>first|(apply qao;(repeat' first|assumption|exact qaa rfl|apply qaf rfl|apply qab);done)|exact qan _ _|exact qai _|exact qap _|exact qad|exact qag|exact qae|exact qac|exact qah _|exact qa4 _ (by omega)|exact qa3 (by omega)|exact qa5 (by omega)|exact rfl|assumption|apply qa6)|(apply qbk rfl rfl;(focus (repeat' first|assumption|exact qaa rfl|apply qaf rfl|apply qab);done))|(apply qb1 rfl rfl;(focus (repeat' first|assumption|exact qaa rfl|apply qaf rfl|apply qab);done);exact rfl)))
        apply qcg true
        · (focus first|(apply qao;(repeat' first|assumption|exact qaa rfl|apply qaf rfl|apply qab);done)|exact qan _ _|exact qai _|exact qap _|exact qad|exact qag|exact qae|exact qac|exact qah _)
        · intro _
          (repeat (first|apply qbi|apply qa9|(apply qa7;dsimp only[qbc,List.map,Nat.reduceAdd])|apply qbj|apply qbd|apply qbe|apply qbn|apply qbp|apply qbo|apply qa1|apply qau|apply qbb|apply qas|apply qaq|apply qam rfl|apply qaw|apply qar|apply qax|apply qay|apply qa2|apply qav|((first|apply qa8|apply qbg|apply qbh|apply qbm|apply qbf|apply qba|apply qa0|apply qal|apply qak|apply qat)<;>first|(apply qao;(repeat' first|assumption|exact qaa rfl|apply qaf rfl|apply qab);done)|exact qan _ _|exact qai _|exact qap _|exact qad|exact qag|exact qae|exact qac|exact qah _|exact qa4 _ (by omega)|exact qa3 (by omega)|exact qa5 (by omega)|exact rfl|assumption|apply qa6)|((first|apply qbl|apply qaz|apply qaj)<;>first|(apply qao;(repeat' first|assumption|exact qaa rfl|apply qaf rfl|apply qab);done)|exact qan _ _|exact qai _|exact qap _|exact qad|exact qag|exact qae|exact qac|exact qah _|exact qa4 _ (by omega)|exact qa3 (by omega)|exact qa5 (by omega)|exact rfl|assumption|apply qa6)|(apply qbk rfl rfl;(focus (repeat' first|assumption|exact qaa rfl|apply qaf rfl|apply qab);done))|(apply qb1 rfl rfl;(focus (repeat' first|assumption|exact qaa rfl|apply qaf rfl|apply qab);done);exact rfl)))
          (apply qb5 rfl; (repeat' first|assumption|exact qaa rfl|apply qaf rfl|apply qab))
          rfl
        · intro c; cases c
      | false =>
        have hne : 0 < pats.length := by
          have : ¬ (pats.length : Int) = 0 := by simpa using hv3
          omega
        (repeat (first|apply qbi|apply qa9|(apply qa7;dsimp only[qbc,List.map,Nat.reduceAdd])|apply qbj|apply qbd|apply qbe|apply qbn|apply qbp|apply qbo|apply qa1|apply qau|apply qbb|apply qas|apply qaq|apply qam rfl|apply qaw|apply qar|apply qax|apply qay|apply qa2|apply qav|((first|apply qa8|apply qbg|apply qbh|apply qbm|apply qbf|apply qba|apply qa0|apply qal|apply qak|apply qat)<;>first|(apply qao;(repeat' first|assumption|exact qaa rfl|apply qaf rfl|apply qab);done)|exact qan _ _|exact qai _|exact qap _|exact qad|exact qag|exact qae|exact qac|exact qah _|exact qa4 _ (by omega)|exact qa3 (by omega)|exact qa5 (by omega)|exact rfl|assumption|apply qa6)|((first|apply qbl|apply qaz|apply qaj)<;>first|(apply qao;(repeat' first|assumption|exact qaa rfl|apply qaf rfl|apply qab);done)|exact qan _ _|exact qai _|exact qap _|exact qad|exact qag|exact qae|exact qac|exact qah _|exact qa4 _ (by omega)|exact qa3 (by omega)|exact qa5 (by omega)|exact rfl|assumption|apply qa6)|(apply qbk rfl rfl;(focus (repeat' first|assumption|exact qaa rfl|apply qaf rfl|apply qab);done))|(apply qb1 rfl rfl;(focus (repeat' first|assumption|exact qaa rfl|apply qaf rfl|apply qab);done);exact rfl)))
        apply qcg false
        · (focus first|(apply qao;(repeat' first|assumption|exact qaa rfl|apply qaf rfl|apply qab);done)|exact qan _ _|exact qai _|exact qap _|exact qad|exact qag|exact qae|exact qac|exact qah _)
        · intro c; cases c
        intro _
        (repeat (first|apply qbi|apply qa9|(apply qa7;dsimp only[qbc,List.map,Nat.reduceAdd])|apply qbj|apply qbd|apply qbe|apply qbn|apply qbp|apply qbo|apply qa1|apply qau|apply qbb|apply qas|apply qaq|apply qam rfl|apply qaw|apply qar|apply qax|apply qay|apply qa2|apply qav|((first|apply qa8|apply qbg|apply qbh|apply qbm|apply qbf|apply qba|apply qa0|apply qal|apply qak|apply qat)<;>first|(apply qao;(repeat' first|assumption|exact qaa rfl|apply qaf rfl|apply qab);done)|exact qan _ _|exact qai _|exact qap _|exact qad|exact qag|exact qae|exact qac|exact qah _|exact qa4 _ (by omega)|exact qa3 (by omega)|exact qa5 (by omega)|exact rfl|assumption|apply qa6)|((first|apply qbl|apply qaz|apply qaj)<;>first|(apply qao;(repeat' first|assumption|exact qaa rfl|apply qaf rfl|apply qab);done)|exact qan _ _|exact qai _|exact qap _|exact qad|exact qag|exact qae|exact qac|exact qah _|exact qa4 _ (by omega)|exact qa3 (by omega)|exact qa5 (by omega)|exact rfl|assumption|apply qa6)|(apply qbk rfl rfl;(focus (repeat' first|assumption|exact qaa rfl|apply qaf rfl|apply qab);done))|(apply qb1 rfl rfl;(focus (repeat' first|assumption|exact qaa rfl|apply qaf rfl|apply qab);done);exact rfl)))
        apply qb2 (n := 5)
        · (focus first|(apply qao;(repeat' first|assumption|exact qaa rfl|apply qaf rfl|apply qab);done)|exact qan _ _|exact qai _|exact qap _|exact qad|exact qag|exact qae|exact qac|exact qah _)
        · exact r3
        · rfl
        · exact rfl
        (repeat (first|apply qbi|apply qa9|(apply qa7;dsimp only[qbc,List.map,Nat.reduceAdd])|apply qbj|apply qbd|apply qbe|apply qbn|apply qbp|apply qbo|apply qa1|apply qau|apply qbb|apply qas|apply qaq|apply qam rfl|apply qaw|apply qar|apply qax|apply qay|apply qa2|apply qav|((first|apply qa8|apply qbg|apply qbh|apply qbm|apply qbf|apply qba|apply qa0|apply qal|apply qak|apply qat)<;>first|(apply qao;(repeat' first|assumption|exact qaa rfl|apply qaf rfl|apply qab);done)|exact qan _ _|exact qai _|exact qap _|exact qad|exact qag|exact qae|exact qac|exact qah _|exact qa4 _ (by omega)|exact qa3 (by omega)|exact qa5 (by omega)|exact rfl|assumption|apply qa6)|((first|apply qbl|apply qaz|apply qaj)<;>first|(apply qao;(repeat' first|assumption|exact qaa rfl|apply qaf rfl|apply qab);done)|exact qan _ _|exact qai _|exact qap _|exact qad|exact qag|exact qae|exact qac|exact qah _|exact qa4 _ (by omega)|exact qa3 (by omega)|exact qa5 (by omega)|exact rfl|assumption|apply qa6)|(apply qbk rfl rfl;(focus (repeat' first|assumption|exact qaa rfl|apply qaf rfl|apply qab);done))|(apply qb1 rfl rfl;(focus (repeat' first|assumption|exact qaa rfl|apply qaf rfl|apply qab);done);exact rfl)))
        (apply qcl; (focus first|(apply qao;(repeat' first|assumption|exact qaa rfl|apply qaf rfl|apply qab);done)|exact qan _ _|exact qai _|exact qap _|exact qad|exact qag|exact qae|exact qac|exact qah _); (repeat (apply qbt; (focus first|(apply qao;(repeat' first|assumption|exact qaa rfl|apply qaf rfl|apply qab);done)|exact qan _ _|exact qai _|exact qap _|exact qad|exact qag|exact qae|exact qac|exact qah _))); exact qby)
        refine (of_plan_spec S.toS27 S.list (by omega) (by omega) (by omega) ox2 o2).mono ?_
        rintro v g3 ⟨k3, ov, qv, rfl, so, sq, io, iq⟩
        refine ⟨Undis.off rfl, ?_⟩
        obtain ⟨hperm, hops, hright⟩ := planZ_ok x pats
        generalize (planZ x pats).1 = o0 at *
        generalize (planZ x pats).2 = q0 at *
        have hol : o0.length = pats.length := by have := hperm.length_eq; simpa using this
        have o3 := o2.keep k3
        (repeat (first|apply qbi|apply qa9|(apply qa7;dsimp only[qbc,List.map,Nat.reduceAdd])|apply qbj|apply qbd|apply qbe|apply qbn|apply qbp|apply qbo|apply qa1|apply qau|apply qbb|apply qas|apply qaq|apply qam rfl|apply qaw|apply qar|apply qax|apply qay|apply qa2|apply qav|((first|apply qa8|apply qbg|apply qbh|apply qbm|apply qbf|apply qba|apply qa0|apply qal|apply qak|apply qat)<;>first|(apply qao;(repeat' first|assumption|exact qaa rfl|apply qaf rfl|apply qab);done)|exact qan _ _|exact qai _|exact qap _|exact qad|exact qag|exact qae|exact qac|exact qah _|exact qa4 _ (by omega)|exact qa3 (by omega)|exact qa5 (by omega)|exact rfl|assumption|apply qa6)|((first|apply qbl|apply qaz|apply qaj)<;>first|(apply qao;(repeat' first|assumption|exact qaa rfl|apply qaf rfl|apply qab);done)|exact qan _ _|exact qai _|exact qap _|exact qad|exact qag|exact qae|exact qac|exact qah _|exact qa4 _ (by omega)|exact qa3 (by omega)|exact qa5 (by omega)|exact rfl|assumption|apply qa6)|(apply qbk rfl rfl;(focus (repeat' first|assumption|exact qaa rfl|apply qaf rfl|apply qab);done))|(apply qb1 rfl rfl;(focus (repeat' first|assumption|exact qaa rfl|apply qaf rfl|apply qab);done);exact rfl)))
        (apply qcl; (focus first|(apply qao;(repeat' first|assumption|exact qaa rfl|apply qaf rfl|apply qab);done)|exact qan _ _|exact qai _|exact qap _|exact qad|exact qag|exact qae|exact qac|exact qah _); (repeat (apply qbt; (focus first|(apply qao;(repeat' first|assumption|exact qaa rfl|apply qaf rfl|apply qab);done)|exact qan _ _|exact qai _|exact qap _|exact qad|exact qag|exact qae|exact qac|exact qah _))); exact qby)
        refine (turned_spec S turn (by omega) (by omega) (by omega) so sq o3 hright hol (fun i hi => List.mem_range.1 (hperm.mem_iff.1 hi)) hne).mono ?_
        rintro v g4 ⟨k4, ov1, qid, rfl, so1, go1, vo1, io1, iq1, rq1⟩
        refine ⟨Undis.off rfl, ?_⟩
        have hk := turnK_lt turn hne
        have hrot := rot_length o0 (turnK turn pats.length) (by omega)
        generalize hro : rot o0 (turnK turn pats.length) = r at *
        have hrl : r.length = pats.length := by omega
        have htl := qc2 pats turn r pats.length
        generalize turnOps pats turn r pats.length = q at *
        have hql : q.length = pats.length := by omega
        have o4 := o3.keep k4
        obtain ⟨oid, over, ofix, olen, rfl, ro1⟩ := so1.rowInts vo1 go1
        have hzl : (zs r).length = r.length := qcf r
        have hoid := (io1 oid (by simp [qcv])).2
        have sq1 : Ints g4 (.own qid 0 0 pats.length) q := by have := rq1.slv; rw [hql] at this; exact this
        (repeat (first|apply qbi|apply qa9|(apply qa7;dsimp only[qbc,List.map,Nat.reduceAdd])|apply qbj|apply qbd|apply qbe|apply qbn|apply qbp|apply qbo|apply qa1|apply qau|apply qbb|apply qas|apply qaq|apply qam rfl|apply qaw|apply qar|apply qax|apply qay|apply qa2|apply qav|((first|apply qa8|apply qbg|apply qbh|apply qbm|apply qbf|apply qba|apply qa0|apply qal|apply qak|apply qat)<;>first|(apply qao;(repeat' first|assumption|exact qaa rfl|apply qaf rfl|apply qab);done)|exact qan _ _|exact qai _|exact qap _|exact qad|exact qag|exact qae|exact qac|exact qah _|exact qa4 _ (by omega)|exact qa3 (by omega)|exact qa5 (by omega)|exact rfl|assumption|apply qa6)|((first|apply qbl|apply qaz|apply qaj)<;>first|(apply qao;(repeat' first|assumption|exact qaa rfl|apply qaf rfl|apply qab);done)|exact qan _ _|exact qai _|exact qap _|exact qad|exact qag|exact qae|exact qac|exact qah _|exact qa4 _ (by omega)|exact qa3 (by omega)|exact qa5 (by omega)|exact rfl|assumption|apply qa6)|(apply qbk rfl rfl;(focus (repeat' first|assumption|exact qaa rfl|apply qaf rfl|apply qab);done))|(apply qb1 rfl rfl;(focus (repeat' first|assumption|exact qaa rfl|apply qaf rfl|apply qab);done);exact rfl)))
        apply O_wf
        intro w4
        apply O_alloc
        intro g5 i7 k5 r7 l2 l3
        apply qcr
        · (focus first|(apply qao;(repeat' first|assumption|exact qaa rfl|apply qaf rfl|apply qab);done)|exact qan _ _|exact qai _|exact qap _|exact qad|exact qag|exact qae|exact qac|exact qah _)
        · (focus first|(apply qao;(repeat' first|assumption|exact qaa rfl|apply qaf rfl|apply qab);done)|exact qan _ _|exact qai _|exact qap _|exact qad|exact qag|exact qae|exact qac|exact qah _)
        · exact r7
        · rfl
        intro g6 kb6 r7
        refine ⟨Undis.off rfl, ?_⟩
        change Row g6 i7 0 2 [.own oid over 0 (zs r).length, .own qid 0 0 pats.length] true at r7
        have k6 : Keep g4 g6 := KeepBut.keep k5 kb6 fun j hj => w4.get (by omega)
        replace ro1 := ro1.keep k6
        replace rq1 := rq1.keep k6
        replace so1 := so1.keep k6
        replace sq1 := sq1.keep k6
        replace o4 := o4.keep k6
        (repeat (first|apply qbi|apply qa9|(apply qa7;dsimp only[qbc,List.map,Nat.reduceAdd])|apply qbj|apply qbd|apply qbe|apply qbn|apply qbp|apply qbo|apply qa1|apply qau|apply qbb|apply qas|apply qaq|apply qam rfl|apply qaw|apply qar|apply qax|apply qay|apply qa2|apply qav|((first|apply qa8|apply qbg|apply qbh|apply qbm|apply qbf|apply qba|apply qa0|apply qal|apply qak|apply qat)<;>first|(apply qao;(repeat' first|assumption|exact qaa rfl|apply qaf rfl|apply qab);done)|exact qan _ _|exact qai _|exact qap _|exact qad|exact qag|exact qae|exact qac|exact qah _|exact qa4 _ (by omega)|exact qa3 (by omega)|exact qa5 (by omega)|exact rfl|assumption|apply qa6)|((first|apply qbl|apply qaz|apply qaj)<;>first|(apply qao;(repeat' first|assumption|exact qaa rfl|apply qaf rfl|apply qab);done)|exact qan _ _|exact qai _|exact qap _|exact qad|exact qag|exact qae|exact qac|exact qah _|exact qa4 _ (by omega)|exact qa3 (by omega)|exact qa5 (by omega)|exact rfl|assumption|apply qa6)|(apply qbk rfl rfl;(focus (repeat' first|assumption|exact qaa rfl|apply qaf rfl|apply qab);done))|(apply qb1 rfl rfl;(focus (repeat' first|assumption|exact qaa rfl|apply qaf rfl|apply qab);done);exact rfl)))
        (refine R_drawn [1, 2, 4, 5, 0, 3, 6, 7, 8] [0, 0, 2, 7, 0, 16, 63, 0, 255] (by kernel_rfl) (by kernel_rfl) (by rfl) ?_; dsimp only [qc9, List.map, List.getElem?_cons_zero, List.getElem?_cons_succ])
        (repeat (first|apply qbi|apply qa9|(apply qa7;dsimp only[qbc,List.map,Nat.reduceAdd])|apply qbj|apply qbd|apply qbe|apply qbn|apply qbp|apply qbo|apply qa1|apply qau|apply qbb|apply qas|apply qaq|apply qam rfl|apply qaw|apply qar|apply qax|apply qay|apply qa2|apply qav|((first|apply qa8|apply qbg|apply qbh|apply qbm|apply qbf|apply qba|apply qa0|apply qal|apply qak|apply qat)<;>first|(apply qao;(repeat' first|assumption|exact qaa rfl|apply qaf rfl|apply qab);done)|exact qan _ _|exact qai _|exact qap _|exact qad|exact qag|exact qae|exact qac|exact qah _|exact qa4 _ (by omega)|exact qa3 (by omega)|exact qa5 (by omega)|exact rfl|assumption|apply qa6)|((first|apply qbl|apply qaz|apply qaj)<;>first|(apply qao;(repeat' first|assumption|exact qaa rfl|apply qaf rfl|apply qab);done)|exact qan _ _|exact qai _|exact qap _|exact qad|exact qag|exact qae|exact qac|exact qah _|exact qa4 _ (by omega)|exact qa3 (by omega)|exact qa5 (by omega)|exact rfl|assumption|apply qa6)|(apply qbk rfl rfl;(focus (repeat' first|assumption|exact qaa rfl|apply qaf rfl|apply qab);done))|(apply qb1 rfl rfl;(focus (repeat' first|assumption|exact qaa rfl|apply qaf rfl|apply qab);done);exact rfl)))
        apply qcp
        · exact qcn
        · rfl
        · rfl
        · rfl
        intro _
        apply O_wf
        intro w6
        apply O_append (new := ints (zs r)) (m := (zs r).length) (bytes := 8)
        · exact qbt (by (focus first|(apply qao;(repeat' first|assumption|exact qaa rfl|apply qaf rfl|apply qab);done)|exact qan _ _|exact qai _|exact qap _|exact qad|exact qag|exact qae|exact qac|exact qah _)) (qbt (by (focus first|(apply qao;(repeat' first|assumption|exact qaa rfl|apply qaf rfl|apply qab);done)|exact qan _ _|exact qai _|exact qap _|exact qad|exact qag|exact qae|exact qac|exact qah _)) qby)
        · exact SlV.imm _ _ _ rfl
        · rfl
        · exact so1
        · exact ints_ones _
        · rfl
        · simp only [room]; omega
        intro tv g7 kb7 st gt it vt
        have k7 : Keep g6 g7 := kb7.none fun i hi => by cases hi
        refine ⟨k7.undis, ?_⟩
        have st' : Ints g7 tv (zs r) := by
          have : SlV g7 1 tv (0 + (zs r).length) ([] ++ ints (zs r)) := st
          rw [Nat.zero_add, List.nil_append] at this
          exact this
        obtain ⟨tid, tver, tfix, tlen, rfl, rt⟩ := st'.rowInts (vt (by omega)) gt
        have htid : g6.next ≤ tid := by
          rcases it tid (by simp [qcv]) with e | e
          · cases e
          · exact e.1
        (repeat (first|apply qbi|apply qa9|(apply qa7;dsimp only[qbc,List.map,Nat.reduceAdd])|apply qbj|apply qbd|apply qbe|apply qbn|apply qbp|apply qbo|apply qa1|apply qau|apply qbb|apply qas|apply qaq|apply qam rfl|apply qaw|apply qar|apply qax|apply qay|apply qa2|apply qav|((first|apply qa8|apply qbg|apply qbh|apply qbm|apply qbf|apply qba|apply qa0|apply qal|apply qak|apply qat)<;>first|(apply qao;(repeat' first|assumption|exact qaa rfl|apply qaf rfl|apply qab);done)|exact qan _ _|exact qai _|exact qap _|exact qad|exact qag|exact qae|exact qac|exact qah _|exact qa4 _ (by omega)|exact qa3 (by omega)|exact qa5 (by omega)|exact rfl|assumption|apply qa6)|((first|apply qbl|apply qaz|apply qaj)<;>first|(apply qao;(repeat' first|assumption|exact qaa rfl|apply qaf rfl|apply qab);done)|exact qan _ _|exact qai _|exact qap _|exact qad|exact qag|exact qae|exact qac|exact qah _|exact qa4 _ (by omega)|exact qa3 (by omega)|exact qa5 (by omega)|exact rfl|assumption|apply qa6)|(apply qbk rfl rfl;(focus (repeat' first|assumption|exact qaa rfl|apply qaf rfl|apply qab);done))|(apply qb1 rfl rfl;(focus (repeat' first|assumption|exact qaa rfl|apply qaf rfl|apply qab);done);exact rfl)))
        apply O_build (c' := [.own tid tver 0 (zs r).length, .own qid 0 0 pats.length])
        · exact qb8 (by (focus first|(apply qao;(repeat' first|assumption|exact qaa rfl|apply qaf rfl|apply qab);done)|exact qan _ _|exact qai _|exact qap _|exact qad|exact qag|exact qae|exact qac|exact qah _)) (qb8 (by (focus first|(apply qao;(repeat' first|assumption|exact qaa rfl|apply qaf rfl|apply qab);done)|exact qan _ _|exact qai _|exact qap _|exact qad|exact qag|exact qae|exact qac|exact qah _)) qcn)
        · rfl
        apply O_wf
        intro w7
        have htlt := rt.lt w7
        apply O_alloc
        intro g8 i8 k8 r8 l4 l5
        apply qcr
        · (focus first|(apply qao;(repeat' first|assumption|exact qaa rfl|apply qaf rfl|apply qab);done)|exact qan _ _|exact qai _|exact qap _|exact qad|exact qag|exact qae|exact qac|exact qah _)
        · (focus first|(apply qao;(repeat' first|assumption|exact qaa rfl|apply qaf rfl|apply qab);done)|exact qan _ _|exact qai _|exact qap _|exact qad|exact qag|exact qae|exact qac|exact qah _)
        · exact r8
        · rfl
        intro g9 kb9 r8
        refine ⟨Undis.ahead (by kernel_rfl), ?_⟩
        change Row g9 i8 0 2 [.own tid tver 0 (zs r).length, .own qid 0 0 pats.length] true at r8
        have k9 : Keep g7 g9 := KeepBut.keep k8 kb9 fun j hj => w7.get (by omega)
        replace rt := rt.keep k9
        have K9 : Keep g6 g9 := k7.trans k9
        (repeat (first|apply qbi|apply qa9|(apply qa7;dsimp only[qbc,List.map,Nat.reduceAdd])|apply qbj|apply qbd|apply qbe|apply qbn|apply qbp|apply qbo|apply qa1|apply qau|apply qbb|apply qas|apply qaq|apply qam rfl|apply qaw|apply qar|apply qax|apply qay|apply qa2|apply qav|((first|apply qa8|apply qbg|apply qbh|apply qbm|apply qbf|apply qba|apply qa0|apply qal|apply qak|apply qat)<;>first|(apply qao;(repeat' first|assumption|exact qaa rfl|apply qaf rfl|apply qab);done)|exact qan _ _|exact qai _|exact qap _|exact qad|exact qag|exact qae|exact qac|exact qah _|exact qa4 _ (by omega)|exact qa3 (by omega)|exact qa5 (by omega)|exact rfl|assumption|apply qa6)|((first|apply qbl|apply qaz|apply qaj)<;>first|(apply qao;(repeat' first|assumption|exact qaa rfl|apply qaf rfl|apply qab);done)|exact qan _ _|exact qai _|exact qap _|exact qad|exact qag|exact qae|exact qac|exact qah _|exact qa4 _ (by omega)|exact qa3 (by omega)|exact qa5 (by omega)|exact rfl|assumption|apply qa6)|(apply qbk rfl rfl;(focus (repeat' first|assumption|exact qaa rfl|apply qaf rfl|apply qab);done))|(apply qb1 rfl rfl;(focus (repeat' first|assumption|exact qaa rfl|apply qaf rfl|apply qab);done);exact rfl)))
        (refine R_drawn [0, 1, 2, 3, 4, 5, 6, 7, 8, 9, 10] [0, 1, 0, 4, 0, 16, 48, 124, 252, 511, 1023] (by kernel_rfl) (by kernel_rfl) (by rfl) ?_; dsimp only [qc9, List.map, List.getElem?_cons_zero, List.getElem?_cons_succ])
        have o9 := o4.keep K9
        (repeat (first|apply qbi|apply qa9|(apply qa7;dsimp only[qbc,List.map,Nat.reduceAdd])|apply qbj|apply qbd|apply qbe|apply qbn|apply qbp|apply qbo|apply qa1|apply qau|apply qbb|apply qas|apply qaq|apply qam rfl|apply qaw|apply qar|apply qax|apply qay|apply qa2|apply qav|((first|apply qa8|apply qbg|apply qbh|apply qbm|apply qbf|apply qba|apply qa0|apply qal|apply qak|apply qat)<;>first|(apply qao;(repeat' first|assumption|exact qaa rfl|apply qaf rfl|apply qab);done)|exact qan _ _|exact qai _|exact qap _|exact qad|exact qag|exact qae|exact qac|exact qah _|exact qa4 _ (by omega)|exact qa3 (by omega)|exact qa5 (by omega)|exact rfl|assumption|apply qa6)|((first|apply qbl|apply qaz|apply qaj)<;>first|(apply qao;(repeat' first|assumption|exact qaa rfl|apply qaf rfl|apply qab);done)|exact qan _ _|exact qai _|exact qap _|exact qad|exact qag|exact qae|exact qac|exact qah _|exact qa4 _ (by omega)|exact qa3 (by omega)|exact qa5 (by omega)|exact rfl|assumption|apply qa6)|(apply qbk rfl rfl;(focus (repeat' first|assumption|exact qaa rfl|apply qaf rfl|apply qab);done))|(apply qb1 rfl rfl;(focus (repeat' first|assumption|exact qaa rfl|apply qaf rfl|apply qab);done);exact rfl)))
        rw [show ((pats.length : Int) - 1) = ((pats.length - 1 : Nat) : Int) by omega]
        obtain ⟨row, t1, t2, t3, t4⟩ := rt
        rw [hzl, hrl] at t3
        have hlast : pats.length - 1 < (zs r).length := by omega
        apply O_indexAddr_own
        · (focus first|(apply qao;(repeat' first|assumption|exact qaa rfl|apply qaf rfl|apply qab);done)|exact qan _ _|exact qai _|exact qap _|exact qad|exact qag|exact qae|exact qac|exact qah _)
        · exact t1
        · (focus first|(apply qao;(repeat' first|assumption|exact qaa rfl|apply qaf rfl|apply qab);done)|exact qan _ _|exact qai _|exact qap _|exact qad|exact qag|exact qae|exact qac|exact qah _)
        · omega
        · omega
        have hld : row.drop (0 + (pats.length - 1) * 1) = .int .i64 ((zs r)[pats.length - 1]'hlast) :: row.drop (pats.length) := by
          have h1 : row.take (zs r).length = ints (zs r) := by simpa using t4
          have h2 : row[pats.length - 1]? = some (.int .i64 ((zs r)[pats.length - 1]'hlast)) := by
            have := congrArg (·[pats.length - 1]?) h1
            simp only [List.getElem?_take] at this
            rw [if_pos hlast] at this
            rw [this]
            simp [ints, hlast]
          obtain ⟨h3, h4⟩ := List.getElem?_eq_some_iff.1 h2
          rw [show 0 + (pats.length - 1) * 1 = pats.length - 1 by omega, List.drop_eq_getElem_cons h3, h4, show pats.length - 1 + 1 = pats.length by omega]
        apply qat
        · (focus first|(apply qao;(repeat' first|assumption|exact qaa rfl|apply qaf rfl|apply qab);done)|exact qan _ _|exact qai _|exact qap _|exact qad|exact qag|exact qae|exact qac|exact qah _)
        · exact t1
        · exact hld
        apply O_indexAddr_own (j := 0)
        · (focus first|(apply qao;(repeat' first|assumption|exact qaa rfl|apply qaf rfl|apply qab);done)|exact qan _ _|exact qai _|exact qap _|exact qad|exact qag|exact qae|exact qac|exact qah _)
        · exact t1
        · (focus first|(apply qao;(repeat' first|assumption|exact qaa rfl|apply qaf rfl|apply qab);done)|exact qan _ _|exact qai _|exact qap _|exact qad|exact qag|exact qae|exact qac|exact qah _)
        · omega
        · omega
        apply qcr
        · (focus first|(apply qao;(repeat' first|assumption|exact qaa rfl|apply qaf rfl|apply qab);done)|exact qan _ _|exact qai _|exact qap _|exact qad|exact qag|exact qae|exact qac|exact qah _)
        · (focus first|(apply qao;(repeat' first|assumption|exact qaa rfl|apply qaf rfl|apply qab);done)|exact qan _ _|exact qai _|exact qap _|exact qad|exact qag|exact qae|exact qac|exact qah _)
        · exact t1
        · have : 1 ≤ row.length := by omega
          simp [acells, ones, one]; omega
        intro g10 kb10 rt
        refine ⟨Undis.ahead (by kernel_rfl), ?_⟩
        have rt' := RowInts.splice (i := 0) rt (by omega) t4 (by omega)
        have htn : g6.get tid = none := w6.get htid
        have K10 : Keep g6 g10 := KeepBut.keep K9 kb10 fun j hj => by rw [hj]; exact htn
        have r8' := r8.keepBut kb10 (by omega)
        have r7b := r7.keep K10
        have so10 := so1.keep K10
        have sq10 := sq1.keep K10
        (repeat (first|apply qbi|apply qa9|(apply qa7;dsimp only[qbc,List.map,Nat.reduceAdd])|apply qbj|apply qbd|apply qbe|apply qbn|apply qbp|apply qbo|apply qa1|apply qau|apply qbb|apply qas|apply qaq|apply qam rfl|apply qaw|apply qar|apply qax|apply qay|apply qa2|apply qav|((first|apply qa8|apply qbg|apply qbh|apply qbm|apply qbf|apply qba|apply qa0|apply qal|apply qak|apply qat)<;>first|(apply qao;(repeat' first|assumption|exact qaa rfl|apply qaf rfl|apply qab);done)|exact qan _ _|exact qai _|exact qap _|exact qad|exact qag|exact qae|exact qac|exact qah _|exact qa4 _ (by omega)|exact qa3 (by omega)|exact qa5 (by omega)|exact rfl|assumption|apply qa6)|((first|apply qbl|apply qaz|apply qaj)<;>first|(apply qao;(repeat' first|assumption|exact qaa rfl|apply qaf rfl|apply qab);done)|exact qan _ _|exact qai _|exact qap _|exact qad|exact qag|exact qae|exact qac|exact qah _|exact qa4 _ (by omega)|exact qa3 (by omega)|exact qa5 (by omega)|exact rfl|assumption|apply qa6)|(apply qbk rfl rfl;(focus (repeat' first|assumption|exact qaa rfl|apply qaf rfl|apply qab);done))|(apply qb1 rfl rfl;(focus (repeat' first|assumption|exact qaa rfl|apply qaf rfl|apply qab);done);exact rfl)))
        (refine R_drawn [0, 1, 2, 3, 4, 5, 6, 7, 8] [0, 1, 3, 0, 8, 24, 63, 0, 255] (by kernel_rfl) (by kernel_rfl) (by rfl) ?_; dsimp only [qc9, List.map, List.getElem?_cons_zero, List.getElem?_cons_succ])
        (repeat (first|apply qbi|apply qa9|(apply qa7;dsimp only[qbc,List.map,Nat.reduceAdd])|apply qbj|apply qbd|apply qbe|apply qbn|apply qbp|apply qbo|apply qa1|apply qau|apply qbb|apply qas|apply qaq|apply qam rfl|apply qaw|apply qar|apply qax|apply qay|apply qa2|apply qav|((first|apply qa8|apply qbg|apply qbh|apply qbm|apply qbf|apply qba|apply qa0|apply qal|apply qak|apply qat)<;>first|(apply qao;(repeat' first|assumption|exact qaa rfl|apply qaf rfl|apply qab);done)|exact qan _ _|exact qai _|exact qap _|exact qad|exact qag|exact qae|exact qac|exact qah _|exact qa4 _ (by omega)|exact qa3 (by omega)|exact qa5 (by omega)|exact rfl|assumption|apply qa6)|((first|apply qbl|apply qaz|apply qaj)<;>first|(apply qao;(repeat' first|assumption|exact qaa rfl|apply qaf rfl|apply qab);done)|exact qan _ _|exact qai _|exact qap _|exact qad|exact qag|exact qae|exact qac|exact qah _|exact qa4 _ (by omega)|exact qa3 (by omega)|exact qa5 (by omega)|exact rfl|assumption|apply qa6)|(apply qbk rfl rfl;(focus (repeat' first|assumption|exact qaa rfl|apply qaf rfl|apply qab);done))|(apply qb1 rfl rfl;(focus (repeat' first|assumption|exact qaa rfl|apply qaf rfl|apply qab);done);exact rfl)))
        apply O_slice_v (l := 1) (u := (zs r).length)
        · (focus first|(apply qao;(repeat' first|assumption|exact qaa rfl|apply qaf rfl|apply qab);done)|exact qan _ _|exact qai _|exact qap _|exact qad|exact qag|exact qae|exact qac|exact qah _)
        · exact so10
        · refine bounds_lo (x := some (.const (.int .i64 1))) (ik := .i64) (j := 1) ?_ (by omega)
          exact congrArg some (qan .i64 1)
        · omega
        · omega
        intro lv1 sl1 _ _
        (repeat (first|apply qbi|apply qa9|(apply qa7;dsimp only[qbc,List.map,Nat.reduceAdd])|apply qbj|apply qbd|apply qbe|apply qbn|apply qbp|apply qbo|apply qa1|apply qau|apply qbb|apply qas|apply qaq|apply qam rfl|apply qaw|apply qar|apply qax|apply qay|apply qa2|apply qav|((first|apply qa8|apply qbg|apply qbh|apply qbm|apply qbf|apply qba|apply qa0|apply qal|apply qak|apply qat)<;>first|(apply qao;(repeat' first|assumption|exact qaa rfl|apply qaf rfl|apply qab);done)|exact qan _ _|exact qai _|exact qap _|exact qad|exact qag|exact qae|exact qac|exact qah _|exact qa4 _ (by omega)|exact qa3 (by omega)|exact qa5 (by omega)|exact rfl|assumption|apply qa6)|((first|apply qbl|apply qaz|apply qaj)<;>first|(apply qao;(repeat' first|assumption|exact qaa rfl|apply qaf rfl|apply qab);done)|exact qan _ _|exact qai _|exact qap _|exact qad|exact qag|exact qae|exact qac|exact qah _|exact qa4 _ (by omega)|exact qa3 (by omega)|exact qa5 (by omega)|exact rfl|assumption|apply qa6)|(apply qbk rfl rfl;(focus (repeat' first|assumption|exact qaa rfl|apply qaf rfl|apply qab);done))|(apply qb1 rfl rfl;(focus (repeat' first|assumption|exact qaa rfl|apply qaf rfl|apply qab);done);exact rfl)))
        apply O_slice_v (l := 1) (u := q.length)
        · (focus first|(apply qao;(repeat' first|assumption|exact qaa rfl|apply qaf rfl|apply qab);done)|exact qan _ _|exact qai _|exact qap _|exact qad|exact qag|exact qae|exact qac|exact qah _)
        · exact sq10
        · refine bounds_lo (x := some (.const (.int .i64 1))) (ik := .i64) (j := 1) ?_ (by omega)
          exact congrArg some (qan .i64 1)
        · omega
        · omega
        intro lv2 sl2 _ _
        have sl1' : Ints g10 lv1 ((zs r).drop 1) := by
          have e : ((ints (zs r)).drop (1 * 1)).take (((zs r).length - 1) * 1) = ints ((zs r).drop 1) := by
            rw [Nat.mul_one, List.take_of_length_le (by simp)]
            simp [ints, List.map_drop]
          rw [e] at sl1
          show SlV g10 1 lv1 ((zs r).drop 1).length _
          rw [List.length_drop]
          exact sl1
        have sl2' : Ints g10 lv2 (q.drop 1) := by
          have e : ((ints q).drop (1 * 1)).take ((q.length - 1) * 1) = ints (q.drop 1) := by
            rw [Nat.mul_one, List.take_of_length_le (by simp)]
            simp [ints, List.map_drop]
          rw [e] at sl2
          show SlV g10 1 lv2 (q.drop 1).length _
          rw [List.length_drop]
          exact sl2
        apply O_build (c' := [lv1, lv2])
        · exact qb8 (by (focus first|(apply qao;(repeat' first|assumption|exact qaa rfl|apply qaf rfl|apply qab);done)|exact qan _ _|exact qai _|exact qap _|exact qad|exact qag|exact qae|exact qac|exact qah _)) (qb8 (by (focus first|(apply qao;(repeat' first|assumption|exact qaa rfl|apply qaf rfl|apply qab);done)|exact qan _ _|exact qai _|exact qap _|exact qad|exact qag|exact qae|exact qac|exact qah _)) qcn)
        · exact fillQ sl1.acells sl1.known sl2.acells sl2.known
        apply O_wf
        intro w10
        apply O_alloc
        intro g11 i9 k11 r9 l6 l7
        apply qcr
        · (focus first|(apply qao;(repeat' first|assumption|exact qaa rfl|apply qaf rfl|apply qab);done)|exact qan _ _|exact qai _|exact qap _|exact qad|exact qag|exact qae|exact qac|exact qah _)
        · (focus first|(apply qao;(repeat' first|assumption|exact qaa rfl|apply qaf rfl|apply qab);done)|exact qan _ _|exact qai _|exact qap _|exact qad|exact qag|exact qae|exact qac|exact qah _)
        · exact r9
        · have h1 : ones [lv1, lv2] = true := by simp [ones, sl1.one, sl2.one]
          show (_ && _ && ones [lv1, lv2]) = true
          rw [h1]; rfl
        intro g12 kb12 r9
        refine ⟨Undis.ahead (by kernel_rfl), ?_⟩
        change Row g12 i9 0 2 [lv1, lv2] true at r9
        have B12 : Keep g10 g12 := KeepBut.keep k11 kb12 fun j hj => w10.get (by omega)
        have K12 := K10.trans B12
        have r7c := r7.keep K12
        have sq12 := sq1.keep K12
        (repeat (first|apply qbi|apply qa9|(apply qa7;dsimp only[qbc,List.map,Nat.reduceAdd])|apply qbj|apply qbd|apply qbe|apply qbn|apply qbp|apply qbo|apply qa1|apply qau|apply qbb|apply qas|apply qaq|apply qam rfl|apply qaw|apply qar|apply qax|apply qay|apply qa2|apply qav|((first|apply qa8|apply qbg|apply qbh|apply qbm|apply qbf|apply qba|apply qa0|apply qal|apply qak|apply qat)<;>first|(apply qao;(repeat' first|assumption|exact qaa rfl|apply qaf rfl|apply qab);done)|exact qan _ _|exact qai _|exact qap _|exact qad|exact qag|exact qae|exact qac|exact qah _|exact qa4 _ (by omega)|exact qa3 (by omega)|exact qa5 (by omega)|exact rfl|assumption|apply qa6)|((first|apply qbl|apply qaz|apply qaj)<;>first|(apply qao;(repeat' first|assumption|exact qaa rfl|apply qaf rfl|apply qab);done)|exact qan _ _|exact qai _|exact qap _|exact qad|exact qag|exact qae|exact qac|exact qah _|exact qa4 _ (by omega)|exact qa3 (by omega)|exact qa5 (by omega)|exact rfl|assumption|apply qa6)|(apply qbk rfl rfl;(focus (repeat' first|assumption|exact qaa rfl|apply qaf rfl|apply qab);done))|(apply qb1 rfl rfl;(focus (repeat' first|assumption|exact qaa rfl|apply qaf rfl|apply qab);done);exact rfl)))
        (refine R_drawn [0, 1, 3, 4, 2, 5, 6, 7, 8] [0, 1, 0, 0, 8, 28, 63, 0, 255] (by kernel_rfl) (by kernel_rfl) (by rfl) ?_; dsimp only [qc9, List.map, List.getElem?_cons_zero, List.getElem?_cons_succ])
        (repeat (first|apply qbi|apply qa9|(apply qa7;dsimp only[qbc,List.map,Nat.reduceAdd])|apply qbj|apply qbd|apply qbe|apply qbn|apply qbp|apply qbo|apply qa1|apply qau|apply qbb|apply qas|apply qaq|apply qam rfl|apply qaw|apply qar|apply qax|apply qay|apply qa2|apply qav|((first|apply qa8|apply qbg|apply qbh|apply qbm|apply qbf|apply qba|apply qa0|apply qal|apply qak|apply qat)<;>first|(apply qao;(repeat' first|assumption|exact qaa rfl|apply qaf rfl|apply qab);done)|exact qan _ _|exact qai _|exact qap _|exact qad|exact qag|exact qae|exact qac|exact qah _|exact qa4 _ (by omega)|exact qa3 (by omega)|exact qa5 (by omega)|exact rfl|assumption|apply qa6)|((first|apply qbl|apply qaz|apply qaj)<;>first|(apply qao;(repeat' first|assumption|exact qaa rfl|apply qaf rfl|apply qab);done)|exact qan _ _|exact qai _|exact qap _|exact qad|exact qag|exact qae|exact qac|exact qah _|exact qa4 _ (by omega)|exact qa3 (by omega)|exact qa5 (by omega)|exact rfl|assumption|apply qa6)|(apply qbk rfl rfl;(focus (repeat' first|assumption|exact qaa rfl|apply qaf rfl|apply qab);done))|(apply qb1 rfl rfl;(focus (repeat' first|assumption|exact qaa rfl|apply qaf rfl|apply qab);done);exact rfl)))
        apply qcp
        · exact qcn
        · rfl
        · rfl
        · rfl
        intro _
        apply O_wf
        intro w12
        apply O_append (new := ints q) (m := q.length) (bytes := 8)
        · exact qbt (by (focus first|(apply qao;(repeat' first|assumption|exact qaa rfl|apply qaf rfl|apply qab);done)|exact qan _ _|exact qai _|exact qap _|exact qad|exact qag|exact qae|exact qac|exact qah _)) (qbt (by (focus first|(apply qao;(repeat' first|assumption|exact qaa rfl|apply qaf rfl|apply qab);done)|exact qan _ _|exact qai _|exact qap _|exact qad|exact qag|exact qae|exact qac|exact qah _)) qby)
        · exact SlV.imm _ _ _ rfl
        · rfl
        · exact sq12
        · exact ints_ones _
        · rfl
        · simp only [room]; omega
        intro nv g13 kb13 sn gn inn vn
        have k13 : Keep g12 g13 := kb13.none fun i hi => by cases hi
        refine ⟨k13.undis, ?_⟩
        have sn' : Ints g13 nv q := by
          have : SlV g13 1 nv (0 + q.length) ([] ++ ints q) := sn
          rw [Nat.zero_add, List.nil_append] at this
          exact this
        obtain ⟨nid, nver, nfix, nlen, rfl, rn⟩ := sn'.rowInts (vn (by omega)) gn
        have hnid : g12.next ≤ nid := by
          rcases inn nid (by simp [qcv]) with e | e
          · cases e
          · exact e.1
        (repeat (first|apply qbi|apply qa9|(apply qa7;dsimp only[qbc,List.map,Nat.reduceAdd])|apply qbj|apply qbd|apply qbe|apply qbn|apply qbp|apply qbo|apply qa1|apply qau|apply qbb|apply qas|apply qaq|apply qam rfl|apply qaw|apply qar|apply qax|apply qay|apply qa2|apply qav|((first|apply qa8|apply qbg|apply qbh|apply qbm|apply qbf|apply qba|apply qa0|apply qal|apply qak|apply qat)<;>first|(apply qao;(repeat' first|assumption|exact qaa rfl|apply qaf rfl|apply qab);done)|exact qan _ _|exact qai _|exact qap _|exact qad|exact qag|exact qae|exact qac|exact qah _|exact qa4 _ (by omega)|exact qa3 (by omega)|exact qa5 (by omega)|exact rfl|assumption|apply qa6)|((first|apply qbl|apply qaz|apply qaj)<;>first|(apply qao;(repeat' first|assumption|exact qaa rfl|apply qaf rfl|apply qab);done)|exact qan _ _|exact qai _|exact qap _|exact qad|exact qag|exact qae|exact qac|exact qah _|exact qa4 _ (by omega)|exact qa3 (by omega)|exact qa5 (by omega)|exact rfl|assumption|apply qa6)|(apply qbk rfl rfl;(focus (repeat' first|assumption|exact qaa rfl|apply qaf rfl|apply qab);done))|(apply qb1 rfl rfl;(focus (repeat' first|assumption|exact qaa rfl|apply qaf rfl|apply qab);done);exact rfl)))
        apply O_build (c' := [.own oid over 0 (zs r).length, .own nid nver 0 q.length])
        · exact qb8 (by (focus first|(apply qao;(repeat' first|assumption|exact qaa rfl|apply qaf rfl|apply qab);done)|exact qan _ _|exact qai _|exact qap _|exact qad|exact qag|exact qae|exact qac|exact qah _)) (qb8 (by (focus first|(apply qao;(repeat' first|assumption|exact qaa rfl|apply qaf rfl|apply qab);done)|exact qan _ _|exact qai _|exact qap _|exact qad|exact qag|exact qae|exact qac|exact qah _)) qcn)
        · rfl
        apply O_wf
        intro w13
        have hnlt := rn.lt w13
        apply O_alloc
        intro g14 i10 k14 r10 l8 l9
        apply qcr
        · (focus first|(apply qao;(repeat' first|assumption|exact qaa rfl|apply qaf rfl|apply qab);done)|exact qan _ _|exact qai _|exact qap _|exact qad|exact qag|exact qae|exact qac|exact qah _)
        · (focus first|(apply qao;(repeat' first|assumption|exact qaa rfl|apply qaf rfl|apply qab);done)|exact qan _ _|exact qai _|exact qap _|exact qad|exact qag|exact qae|exact qac|exact qah _)
        · exact r10
        · rfl
        intro g15 kb15 r10
        refine ⟨Undis.ahead (by kernel_rfl), ?_⟩
        change Row g15 i10 0 2 [.own oid over 0 (zs r).length, .own nid nver 0 q.length] true at r10
        have k15 : Keep g13 g15 := KeepBut.keep k14 kb15 fun j hj => w13.get (by omega)
        replace rn := rn.keep k15
        have B15 : Keep g10 g15 := (B12.trans k13).trans k15
        have o15 := o4.keep (K10.trans B15)
        (repeat (first|apply qbi|apply qa9|(apply qa7;dsimp only[qbc,List.map,Nat.reduceAdd])|apply qbj|apply qbd|apply qbe|apply qbn|apply qbp|apply qbo|apply qa1|apply qau|apply qbb|apply qas|apply qaq|apply qam rfl|apply qaw|apply qar|apply qax|apply qay|apply qa2|apply qav|((first|apply qa8|apply qbg|apply qbh|apply qbm|apply qbf|apply qba|apply qa0|apply qal|apply qak|apply qat)<;>first|(apply qao;(repeat' first|assumption|exact qaa rfl|apply qaf rfl|apply qab);done)|exact qan _ _|exact qai _|exact qap _|exact qad|exact qag|exact qae|exact qac|exact qah _|exact qa4 _ (by omega)|exact qa3 (by omega)|exact qa5 (by omega)|exact rfl|assumption|apply qa6)|((first|apply qbl|apply qaz|apply qaj)<;>first|(apply qao;(repeat' first|assumption|exact qaa rfl|apply qaf rfl|apply qab);done)|exact qan _ _|exact qai _|exact qap _|exact qad|exact qag|exact qae|exact qac|exact qah _|exact qa4 _ (by omega)|exact qa3 (by omega)|exact qa5 (by omega)|exact rfl|assumption|apply qa6)|(apply qbk rfl rfl;(focus (repeat' first|assumption|exact qaa rfl|apply qaf rfl|apply qab);done))|(apply qb1 rfl rfl;(focus (repeat' first|assumption|exact qaa rfl|apply qaf rfl|apply qab);done);exact rfl)))
        rw [show ((pats.length : Int) - 1) = ((pats.length - 1 : Nat) : Int) by omega]
        obtain ⟨row2, n1, n2, n3, n4⟩ := rn
        apply O_indexAddr_own
        · (focus first|(apply qao;(repeat' first|assumption|exact qaa rfl|apply qaf rfl|apply qab);done)|exact qan _ _|exact qai _|exact qap _|exact qad|exact qag|exact qae|exact qac|exact qah _)
        · exact n1
        · (focus first|(apply qao;(repeat' first|assumption|exact qaa rfl|apply qaf rfl|apply qab);done)|exact qan _ _|exact qai _|exact qap _|exact qad|exact qag|exact qae|exact qac|exact qah _)
        · omega
        · omega
        apply qcr
        · (focus first|(apply qao;(repeat' first|assumption|exact qaa rfl|apply qaf rfl|apply qab);done)|exact qan _ _|exact qai _|exact qap _|exact qad|exact qag|exact qae|exact qac|exact qah _)
        · (focus first|(apply qao;(repeat' first|assumption|exact qaa rfl|apply qaf rfl|apply qab);done)|exact qan _ _|exact qai _|exact qap _|exact qad|exact qag|exact qae|exact qac|exact qah _)
        · exact n1
        · have : 0 + (pats.length - 1) * 1 + 1 ≤ row2.length := by omega
          simp [acells, ones, one]; omega
        intro g16 kb16 rn
        refine ⟨Undis.off rfl, ?_⟩
        have rn' := RowInts.splice (i := pats.length - 1) rn (by omega) n4 (by omega)
        have hgn : g10.next ≤ g12.next := B12.next
        have hnn : g10.get nid = none := w10.get (by omega)
        have B16 : Keep g10 g16 := KeepBut.keep B15 kb16 fun j hj => by rw [hj]; exact hnn
        have r10' := r10.keepBut kb16 (by omega)
        have K16 := K10.trans B16
        have r7d := r7.keep K16
        have sq16 := sq1.keep K16
        (repeat (first|apply qbi|apply qa9|(apply qa7;dsimp only[qbc,List.map,Nat.reduceAdd])|apply qbj|apply qbd|apply qbe|apply qbn|apply qbp|apply qbo|apply qa1|apply qau|apply qbb|apply qas|apply qaq|apply qam rfl|apply qaw|apply qar|apply qax|apply qay|apply qa2|apply qav|((first|apply qa8|apply qbg|apply qbh|apply qbm|apply qbf|apply qba|apply qa0|apply qal|apply qak|apply qat)<;>first|(apply qao;(repeat' first|assumption|exact qaa rfl|apply qaf rfl|apply qab);done)|exact qan _ _|exact qai _|exact qap _|exact qad|exact qag|exact qae|exact qac|exact qah _|exact qa4 _ (by omega)|exact qa3 (by omega)|exact qa5 (by omega)|exact rfl|assumption|apply qa6)|((first|apply qbl|apply qaz|apply qaj)<;>first|(apply qao;(repeat' first|assumption|exact qaa rfl|apply qaf rfl|apply qab);done)|exact qan _ _|exact qai _|exact qap _|exact qad|exact qag|exact qae|exact qac|exact qah _|exact qa4 _ (by omega)|exact qa3 (by omega)|exact qa5 (by omega)|exact rfl|assumption|apply qa6)|(apply qbk rfl rfl;(focus (repeat' first|assumption|exact qaa rfl|apply qaf rfl|apply qab);done))|(apply qb1 rfl rfl;(focus (repeat' first|assumption|exact qaa rfl|apply qaf rfl|apply qab);done);exact rfl)))
        (refine R_drawn [0, 1, 3, 4, 2, 5, 6, 7, 8] [0, 1, 0, 0, 8, 28, 63, 0, 255] (by kernel_rfl) (by kernel_rfl) (by rfl) ?_; dsimp only [qc9, List.map, List.getElem?_cons_zero, List.getElem?_cons_succ])
        (repeat (first|apply qbi|apply qa9|(apply qa7;dsimp only[qbc,List.map,Nat.reduceAdd])|apply qbj|apply qbd|apply qbe|apply qbn|apply qbp|apply qbo|apply qa1|apply qau|apply qbb|apply qas|apply qaq|apply qam rfl|apply qaw|apply qar|apply qax|apply qay|apply qa2|apply qav|((first|apply qa8|apply qbg|apply qbh|apply qbm|apply qbf|apply qba|apply qa0|apply qal|apply qak|apply qat)<;>first|(apply qao;(repeat' first|assumption|exact qaa rfl|apply qaf rfl|apply qab);done)|exact qan _ _|exact qai _|exact qap _|exact qad|exact qag|exact qae|exact qac|exact qah _|exact qa4 _ (by omega)|exact qa3 (by omega)|exact qa5 (by omega)|exact rfl|assumption|apply qa6)|((first|apply qbl|apply qaz|apply qaj)<;>first|(apply qao;(repeat' first|assumption|exact qaa rfl|apply qaf rfl|apply qab);done)|exact qan _ _|exact qai _|exact qap _|exact qad|exact qag|exact qae|exact qac|exact qah _|exact qa4 _ (by omega)|exact qa3 (by omega)|exact qa5 (by omega)|exact rfl|assumption|apply qa6)|(apply qbk rfl rfl;(focus (repeat' first|assumption|exact qaa rfl|apply qaf rfl|apply qab);done))|(apply qb1 rfl rfl;(focus (repeat' first|assumption|exact qaa rfl|apply qaf rfl|apply qab);done);exact rfl)))
        apply qcp
        · exact qcn
        · rfl
        · rfl
        · rfl
        intro _
        apply O_wf
        intro w16
        apply O_append (new := ints q) (m := q.length) (bytes := 8)
        · exact qbt (by (focus first|(apply qao;(repeat' first|assumption|exact qaa rfl|apply qaf rfl|apply qab);done)|exact qan _ _|exact qai _|exact qap _|exact qad|exact qag|exact qae|exact qac|exact qah _)) (qbt (by (focus first|(apply qao;(repeat' first|assumption|exact qaa rfl|apply qaf rfl|apply qab);done)|exact qan _ _|exact qai _|exact qap _|exact qad|exact qag|exact qae|exact qac|exact qah _)) qby)
        · exact SlV.imm _ _ _ rfl
        · rfl
        · exact sq16
        · exact ints_ones _
        · rfl
        · simp only [room]; omega
        intro fv g17 kb17 sf gf iff vf
        have k17 : Keep g16 g17 := kb17.none fun i hi => by cases hi
        refine ⟨k17.undis, ?_⟩
        have sf' : Ints g17 fv q := by
          have : SlV g17 1 fv (0 + q.length) ([] ++ ints q) := sf
          rw [Nat.zero_add, List.nil_append] at this
          exact this
        obtain ⟨fid, fver, ffix, flen, rfl, rf⟩ := sf'.rowInts (vf (by omega)) gf
        have hfid : g16.next ≤ fid := by
          rcases iff fid (by simp [qcv]) with e | e
          · cases e
          · exact e.1
        (repeat (first|apply qbi|apply qa9|(apply qa7;dsimp only[qbc,List.map,Nat.reduceAdd])|apply qbj|apply qbd|apply qbe|apply qbn|apply qbp|apply qbo|apply qa1|apply qau|apply qbb|apply qas|apply qaq|apply qam rfl|apply qaw|apply qar|apply qax|apply qay|apply qa2|apply qav|((first|apply qa8|apply qbg|apply qbh|apply qbm|apply qbf|apply qba|apply qa0|apply qal|apply qak|apply qat)<;>first|(apply qao;(repeat' first|assumption|exact qaa rfl|apply qaf rfl|apply qab);done)|exact qan _ _|exact qai _|exact qap _|exact qad|exact qag|exact qae|exact qac|exact qah _|exact qa4 _ (by omega)|exact qa3 (by omega)|exact qa5 (by omega)|exact rfl|assumption|apply qa6)|((first|apply qbl|apply qaz|apply qaj)<;>first|(apply qao;(repeat' first|assumption|exact qaa rfl|apply qaf rfl|apply qab);done)|exact qan _ _|exact qai _|exact qap _|exact qad|exact qag|exact qae|exact qac|exact qah _|exact qa4 _ (by omega)|exact qa3 (by omega)|exact qa5 (by omega)|exact rfl|assumption|apply qa6)|(apply qbk rfl rfl;(focus (repeat' first|assumption|exact qaa rfl|apply qaf rfl|apply qab);done))|(apply qb1 rfl rfl;(focus (repeat' first|assumption|exact qaa rfl|apply qaf rfl|apply qab);done);exact rfl)))
        apply O_build (c' := [.own oid over 0 (zs r).length, .own fid fver 0 q.length])
        · exact qb8 (by (focus first|(apply qao;(repeat' first|assumption|exact qaa rfl|apply qaf rfl|apply qab);done)|exact qan _ _|exact qai _|exact qap _|exact qad|exact qag|exact qae|exact qac|exact qah _)) (qb8 (by (focus first|(apply qao;(repeat' first|assumption|exact qaa rfl|apply qaf rfl|apply qab);done)|exact qan _ _|exact qai _|exact qap _|exact qad|exact qag|exact qae|exact qac|exact qah _)) qcn)
        · rfl
        apply O_wf
        intro w17
        have hflt := rf.lt w17
        apply O_alloc
        intro g18 i11 k18 r11 l10 l11
        apply qcr
        · (focus first|(apply qao;(repeat' first|assumption|exact qaa rfl|apply qaf rfl|apply qab);done)|exact qan _ _|exact qai _|exact qap _|exact qad|exact qag|exact qae|exact qac|exact qah _)
        · (focus first|(apply qao;(repeat' first|assumption|exact qaa rfl|apply qaf rfl|apply qab);done)|exact qan _ _|exact qai _|exact qap _|exact qad|exact qag|exact qae|exact qac|exact qah _)
        · exact r11
        · rfl
        intro g19 kb19 r11
        refine ⟨Undis.ahead (by kernel_rfl), ?_⟩
        change Row g19 i11 0 2 [.own oid over 0 (zs r).length, .own fid fver 0 q.length] true at r11
        have k19 : Keep g17 g19 := KeepBut.keep k18 kb19 fun j hj => w17.get (by omega)
        replace rf := rf.keep k19
        have C19 : Keep g16 g19 := k17.trans k19
        (repeat (first|apply qbi|apply qa9|(apply qa7;dsimp only[qbc,List.map,Nat.reduceAdd])|apply qbj|apply qbd|apply qbe|apply qbn|apply qbp|apply qbo|apply qa1|apply qau|apply qbb|apply qas|apply qaq|apply qam rfl|apply qaw|apply qar|apply qax|apply qay|apply qa2|apply qav|((first|apply qa8|apply qbg|apply qbh|apply qbm|apply qbf|apply qba|apply qa0|apply qal|apply qak|apply qat)<;>first|(apply qao;(repeat' first|assumption|exact qaa rfl|apply qaf rfl|apply qab);done)|exact qan _ _|exact qai _|exact qap _|exact qad|exact qag|exact qae|exact qac|exact qah _|exact qa4 _ (by omega)|exact qa3 (by omega)|exact qa5 (by omega)|exact rfl|assumption|apply qa6)|((first|apply qbl|apply qaz|apply qaj)<;>first|(apply qao;(repeat' first|assumption|exact qaa rfl|apply qaf rfl|apply qab);done)|exact qan _ _|exact qai _|exact qap _|exact qad|exact qag|exact qae|exact qac|exact qah _|exact qa4 _ (by omega)|exact qa3 (by omega)|exact qa5 (by omega)|exact rfl|assumption|apply qa6)|(apply qbk rfl rfl;(focus (repeat' first|assumption|exact qaa rfl|apply qaf rfl|apply qab);done))|(apply qb1 rfl rfl;(focus (repeat' first|assumption|exact qaa rfl|apply qaf rfl|apply qab);done);exact rfl)))
        obtain ⟨row3, f1, f2, f3, f4⟩ := rf
        apply O_indexAddr_own (j := 0)
        · (focus first|(apply qao;(repeat' first|assumption|exact qaa rfl|apply qaf rfl|apply qab);done)|exact qan _ _|exact qai _|exact qap _|exact qad|exact qag|exact qae|exact qac|exact qah _)
        · exact f1
        · (focus first|(apply qao;(repeat' first|assumption|exact qaa rfl|apply qaf rfl|apply qab);done)|exact qan _ _|exact qai _|exact qap _|exact qad|exact qag|exact qae|exact qac|exact qah _)
        · omega
        · omega
        apply qcr
        · (focus first|(apply qao;(repeat' first|assumption|exact qaa rfl|apply qaf rfl|apply qab);done)|exact qan _ _|exact qai _|exact qap _|exact qad|exact qag|exact qae|exact qac|exact qah _)
        · (focus first|(apply qao;(repeat' first|assumption|exact qaa rfl|apply qaf rfl|apply qab);done)|exact qan _ _|exact qai _|exact qap _|exact qad|exact qag|exact qae|exact qac|exact qah _)
        · exact f1
        · have : 1 ≤ row3.length := by omega
          simp [acells, ones, one]; omega
        intro g20 kb20 rf
        refine ⟨Undis.off rfl, ?_⟩
        have rf' := RowInts.splice (i := 0) rf (by omega) f4 (by omega)
        have hfn : g16.get fid = none := w16.get hfid
        have C20 : Keep g16 g20 := KeepBut.keep C19 kb20 fun j hj => by rw [hj]; exact hfn
        have r11' := r11.keepBut kb20 (by omega)
        have B20 := B16.trans C20
        have K20 := K10.trans B20
        have o20 := o4.keep K20
        have so20 := so1.keep K20
        have rt20 := rt'.keep B20
        have r820 := r8'.keep B20
        have sq20 := sq1.keep K20
        have hi9 : i9 < g12.next := Nat.lt_of_lt_of_le l7 kb12.next
        have r920 := ((r9.keep (k13.trans k15)).keepBut kb16 (by omega)).keep C20
        have sl120 := sl1'.keep B20
        have sl220 := sl2'.keep B20
        have rn20 := rn'.keep C20
        have r1020 := r10'.keep C20
        have hT : Ints g20 (.own tid tver 0 (zs r).length) ((zs r).set 0 ((zs r)[pats.length - 1]'hlast)) := by
          have := rt20.slv
          rw [List.length_set] at this
          exact this
        have hN : Ints g20 (.own nid nver 0 q.length) (q.set (pats.length - 1) 4) := by
          have := rn20.slv
          rw [List.length_set] at this
          exact this
        have hF : Ints g20 (.own fid fver 0 q.length) (q.set 0 2) := by
          have := rf'.slv
          rw [List.length_set] at this
          exact this
        (repeat (first|apply qbi|apply qa9|(apply qa7;dsimp only[qbc,List.map,Nat.reduceAdd])|apply qbj|apply qbd|apply qbe|apply qbn|apply qbp|apply qbo|apply qa1|apply qau|apply qbb|apply qas|apply qaq|apply qam rfl|apply qaw|apply qar|apply qax|apply qay|apply qa2|apply qav|((first|apply qa8|apply qbg|apply qbh|apply qbm|apply qbf|apply qba|apply qa0|apply qal|apply qak|apply qat)<;>first|(apply qao;(repeat' first|assumption|exact qaa rfl|apply qaf rfl|apply qab);done)|exact qan _ _|exact qai _|exact qap _|exact qad|exact qag|exact qae|exact qac|exact qah _|exact qa4 _ (by omega)|exact qa3 (by omega)|exact qa5 (by omega)|exact rfl|assumption|apply qa6)|((first|apply qbl|apply qaz|apply qaj)<;>first|(apply qao;(repeat' first|assumption|exact qaa rfl|apply qaf rfl|apply qab);done)|exact qan _ _|exact qai _|exact qap _|exact qad|exact qag|exact qae|exact qac|exact qah _|exact qa4 _ (by omega)|exact qa3 (by omega)|exact qa5 (by omega)|exact rfl|assumption|apply qa6)|(apply qbk rfl rfl;(focus (repeat' first|assumption|exact qaa rfl|apply qaf rfl|apply qab);done))|(apply qb1 rfl rfl;(focus (repeat' first|assumption|exact qaa rfl|apply qaf rfl|apply qab);done);exact rfl)))
        cases hv4 : ((pats.length : Int) == 1) with
        | true =>
          (repeat (first|apply qbi|apply qa9|(apply qa7;dsimp only[qbc,List.map,Nat.reduceAdd])|apply qbj|apply qbd|apply qbe|apply qbn|apply qbp|apply qbo|apply qa1|apply qau|apply qbb|apply qas|apply qaq|apply qam rfl|apply qaw|apply qar|apply qax|apply qay|apply qa2|apply qav|((first|apply qa8|apply qbg|apply qbh|apply qbm|apply qbf|apply qba|apply qa0|apply qal|apply qak|apply qat)<;>first|(apply qao;(repeat' first|assumption|exact qaa rfl|apply qaf rfl|apply qab);done)|exact qan _ _|exact qai _|exact qap _|exact qad|exact qag|exact qae|exact qac|exact qah _|exact qa4 _ (by omega)|exact qa3 (by omega)|exact qa5 (by omega)|exact rfl|assumption|apply qa6)|((first|apply qbl|apply qaz|apply qaj)<;>first|(apply qao;(repeat' first|assumption|exact qaa rfl|apply qaf rfl|apply qab);done)|exact qan _ _|exact qai _|exact qap _|exact qad|exact qag|exact qae|exact qac|exact qah _|exact qa4 _ (by omega)|exact qa3 (by omega)|exact qa5 (by omega)|exact rfl|assumption|apply qa6)|(apply qbk rfl rfl;(focus (repeat' first|assumption|exact qaa rfl|apply qaf rfl|apply qab);done))|(apply qb1 rfl rfl;(focus (repeat' first|assumption|exact qaa rfl|apply qaf rfl|apply qab);done);exact rfl)))
          apply qb2 (n := 2)
          · (focus first|(apply qao;(repeat' first|assumption|exact qaa rfl|apply qaf rfl|apply qab);done)|exact qan _ _|exact qai _|exact qap _|exact qad|exact qag|exact qae|exact qac|exact qah _)
          · exact r920
          · rfl
          · exact rfl
          (repeat (first|apply qbi|apply qa9|(apply qa7;dsimp only[qbc,List.map,Nat.reduceAdd])|apply qbj|apply qbd|apply qbe|apply qbn|apply qbp|apply qbo|apply qa1|apply qau|apply qbb|apply qas|apply qaq|apply qam rfl|apply qaw|apply qar|apply qax|apply qay|apply qa2|apply qav|((first|apply qa8|apply qbg|apply qbh|apply qbm|apply qbf|apply qba|apply qa0|apply qal|apply qak|apply qat)<;>first|(apply qao;(repeat' first|assumption|exact qaa rfl|apply qaf rfl|apply qab);done)|exact qan _ _|exact qai _|exact qap _|exact qad|exact qag|exact qae|exact qac|exact qah _|exact qa4 _ (by omega)|exact qa3 (by omega)|exact qa5 (by omega)|exact rfl|assumption|apply qa6)|((first|apply qbl|apply qaz|apply qaj)<;>first|(apply qao;(repeat' first|assumption|exact qaa rfl|apply qaf rfl|apply qab);done)|exact qan _ _|exact qai _|exact qap _|exact qad|exact qag|exact qae|exact qac|exact qah _|exact qa4 _ (by omega)|exact qa3 (by omega)|exact qa5 (by omega)|exact rfl|assumption|apply qa6)|(apply qbk rfl rfl;(focus (repeat' first|assumption|exact qaa rfl|apply qaf rfl|apply qab);done))|(apply qb1 rfl rfl;(focus (repeat' first|assumption|exact qaa rfl|apply qaf rfl|apply qab);done);exact rfl)))
          (apply qcl; (focus first|(apply qao;(repeat' first|assumption|exact qaa rfl|apply qaf rfl|apply qab);done)|exact qan _ _|exact qai _|exact qap _|exact qad|exact qag|exact qae|exact qac|exact qah _); (repeat (apply qbt; (focus first|(apply qao;(repeat' first|assumption|exact qaa rfl|apply qaf rfl|apply qab);done)|exact qan _ _|exact qai _|exact qap _|exact qad|exact qag|exact qae|exact qac|exact qah _))); exact qby)
          refine (right_bad (by simp only [List.length_set, List.length_drop, qcf]; omega) (by simp only [List.length_set, List.length_drop, qcf]; omega) (by omega) (by simp only [List.length_drop]; omega) sl120 sl220 o20 (right_less (by simp only [List.length_drop, qcf]; omega))).mono ?_
          rintro v g21 ⟨kr21, rfl⟩
          refine ⟨Undis.off rfl, ?_⟩
          replace r920 := r920.keep kr21
          replace sl120 := sl120.keep kr21
          replace sl220 := sl220.keep kr21
          replace r1020 := r1020.keep kr21
          replace so20 := so20.keep kr21
          replace hN := hN.keep kr21
          replace r11' := r11'.keep kr21
          replace hF := hF.keep kr21
          replace o20 := o20.keep kr21
          (repeat (first|apply qbi|apply qa9|(apply qa7;dsimp only[qbc,List.map,Nat.reduceAdd])|apply qbj|apply qbd|apply qbe|apply qbn|apply qbp|apply qbo|apply qa1|apply qau|apply qbb|apply qas|apply qaq|apply qam rfl|apply qaw|apply qar|apply qax|apply qay|apply qa2|apply qav|((first|apply qa8|apply qbg|apply qbh|apply qbm|apply qbf|apply qba|apply qa0|apply qal|apply qak|apply qat)<;>first|(apply qao;(repeat' first|assumption|exact qaa rfl|apply qaf rfl|apply qab);done)|exact qan _ _|exact qai _|exact qap _|exact qad|exact qag|exact qae|exact qac|exact qah _|exact qa4 _ (by omega)|exact qa3 (by omega)|exact qa5 (by omega)|exact rfl|assumption|apply qa6)|((first|apply qbl|apply qaz|apply qaj)<;>first|(apply qao;(repeat' first|assumption|exact qaa rfl|apply qaf rfl|apply qab);done)|exact qan _ _|exact qai _|exact qap _|exact qad|exact qag|exact qae|exact qac|exact qah _|exact qa4 _ (by omega)|exact qa3 (by omega)|exact qa5 (by omega)|exact rfl|assumption|apply qa6)|(apply qbk rfl rfl;(focus (repeat' first|assumption|exact qaa rfl|apply qaf rfl|apply qab);done))|(apply qb1 rfl rfl;(focus (repeat' first|assumption|exact qaa rfl|apply qaf rfl|apply qab);done);exact rfl)))
          apply qb2 (n := 2)
          · (focus first|(apply qao;(repeat' first|assumption|exact qaa rfl|apply qaf rfl|apply qab);done)|exact qan _ _|exact qai _|exact qap _|exact qad|exact qag|exact qae|exact qac|exact qah _)
          · exact r1020
          · rfl
          · exact rfl
          (repeat (first|apply qbi|apply qa9|(apply qa7;dsimp only[qbc,List.map,Nat.reduceAdd])|apply qbj|apply qbd|apply qbe|apply qbn|apply qbp|apply qbo|apply qa1|apply qau|apply qbb|apply qas|apply qaq|apply qam rfl|apply qaw|apply qar|apply qax|apply qay|apply qa2|apply qav|((first|apply qa8|apply qbg|apply qbh|apply qbm|apply qbf|apply qba|apply qa0|apply qal|apply qak|apply qat)<;>first|(apply qao;(repeat' first|assumption|exact qaa rfl|apply qaf rfl|apply qab);done)|exact qan _ _|exact qai _|exact qap _|exact qad|exact qag|exact qae|exact qac|exact qah _|exact qa4 _ (by omega)|exact qa3 (by omega)|exact qa5 (by omega)|exact rfl|assumption|apply qa6)|((first|apply qbl|apply qaz|apply qaj)<;>first|(apply qao;(repeat' first|assumption|exact qaa rfl|apply qaf rfl|apply qab);done)|exact qan _ _|exact qai _|exact qap _|exact qad|exact qag|exact qae|exact qac|exact qah _|exact qa4 _ (by omega)|exact qa3 (by omega)|exact qa5 (by omega)|exact rfl|assumption|apply qa6)|(apply qbk rfl rfl;(focus (repeat' first|assumption|exact qaa rfl|apply qaf rfl|apply qab);done))|(apply qb1 rfl rfl;(focus (repeat' first|assumption|exact qaa rfl|apply qaf rfl|apply qab);done);exact rfl)))
          (apply qcl; (focus first|(apply qao;(repeat' first|assumption|exact qaa rfl|apply qaf rfl|apply qab);done)|exact qan _ _|exact qai _|exact qap _|exact qad|exact qag|exact qae|exact qac|exact qah _); (repeat (apply qbt; (focus first|(apply qao;(repeat' first|assumption|exact qaa rfl|apply qaf rfl|apply qab);done)|exact qan _ _|exact qai _|exact qap _|exact qad|exact qag|exact qae|exact qac|exact qah _))); exact qby)
          refine (right_bad (by rw [qcf]; omega) (by rw [qcf]; omega) (by omega) (by simp only [List.length_set]; omega) so20 hN o20 (right_none hne hql)).mono ?_
          rintro v g22 ⟨kr22, rfl⟩
          refine ⟨Undis.off rfl, ?_⟩
          replace r920 := r920.keep kr22
          replace sl120 := sl120.keep kr22
          replace sl220 := sl220.keep kr22
          replace r1020 := r1020.keep kr22
          replace so20 := so20.keep kr22
          replace hN := hN.keep kr22
          replace r11' := r11'.keep kr22
          replace hF := hF.keep kr22
          replace o20 := o20.keep kr22
          (repeat (first|apply qbi|apply qa9|(apply qa7;dsimp only[qbc,List.map,Nat.reduceAdd])|apply qbj|apply qbd|apply qbe|apply qbn|apply qbp|apply qbo|apply qa1|apply qau|apply qbb|apply qas|apply qaq|apply qam rfl|apply qaw|apply qar|apply qax|apply qay|apply qa2|apply qav|((first|apply qa8|apply qbg|apply qbh|apply qbm|apply qbf|apply qba|apply qa0|apply qal|apply qak|apply qat)<;>first|(apply qao;(repeat' first|assumption|exact qaa rfl|apply qaf rfl|apply qab);done)|exact qan _ _|exact qai _|exact qap _|exact qad|exact qag|exact qae|exact qac|exact qah _|exact qa4 _ (by omega)|exact qa3 (by omega)|exact qa5 (by omega)|exact rfl|assumption|apply qa6)|((first|apply qbl|apply qaz|apply qaj)<;>first|(apply qao;(repeat' first|assumption|exact qaa rfl|apply qaf rfl|apply qab);done)|exact qan _ _|exact qai _|exact qap _|exact qad|exact qag|exact qae|exact qac|exact qah _|exact qa4 _ (by omega)|exact qa3 (by omega)|exact qa5 (by omega)|exact rfl|assumption|apply qa6)|(apply qbk rfl rfl;(focus (repeat' first|assumption|exact qaa rfl|apply qaf rfl|apply qab);done))|(apply qb1 rfl rfl;(focus (repeat' first|assumption|exact qaa rfl|apply qaf rfl|apply qab);done);exact rfl)))
          apply qb2 (n := 2)
          · (focus first|(apply qao;(repeat' first|assumption|exact qaa rfl|apply qaf rfl|apply qab);done)|exact qan _ _|exact qai _|exact qap _|exact qad|exact qag|exact qae|exact qac|exact qah _)
          · exact r11'
          · rfl
          · exact rfl
          (repeat (first|apply qbi|apply qa9|(apply qa7;dsimp only[qbc,List.map,Nat.reduceAdd])|apply qbj|apply qbd|apply qbe|apply qbn|apply qbp|apply qbo|apply qa1|apply qau|apply qbb|apply qas|apply qaq|apply qam rfl|apply qaw|apply qar|apply qax|apply qay|apply qa2|apply qav|((first|apply qa8|apply qbg|apply qbh|apply qbm|apply qbf|apply qba|apply qa0|apply qal|apply qak|apply qat)<;>first|(apply qao;(repeat' first|assumption|exact qaa rfl|apply qaf rfl|apply qab);done)|exact qan _ _|exact qai _|exact qap _|exact qad|exact qag|exact qae|exact qac|exact qah _|exact qa4 _ (by omega)|exact qa3 (by omega)|exact qa5 (by omega)|exact rfl|assumption|apply qa6)|((first|apply qbl|apply qaz|apply qaj)<;>first|(apply qao;(repeat' first|assumption|exact qaa rfl|apply qaf rfl|apply qab);done)|exact qan _ _|exact qai _|exact qap _|exact qad|exact qag|exact qae|exact qac|exact qah _|exact qa4 _ (by omega)|exact qa3 (by omega)|exact qa5 (by omega)|exact rfl|assumption|apply qa6)|(apply qbk rfl rfl;(focus (repeat' first|assumption|exact qaa rfl|apply qaf rfl|apply qab);done))|(apply qb1 rfl rfl;(focus (repeat' first|assumption|exact qaa rfl|apply qaf rfl|apply qab);done);exact rfl)))
          (apply qcl; (focus first|(apply qao;(repeat' first|assumption|exact qaa rfl|apply qaf rfl|apply qab);done)|exact qan _ _|exact qai _|exact qap _|exact qad|exact qag|exact qae|exact qac|exact qah _); (repeat (apply qbt; (focus first|(apply qao;(repeat' first|assumption|exact qaa rfl|apply qaf rfl|apply qab);done)|exact qan _ _|exact qai _|exact qap _|exact qad|exact qag|exact qae|exact qac|exact qah _))); exact qby)
          refine (right_bad (by rw [qcf]; omega) (by rw [qcf]; omega) (by omega) (by simp only [List.length_set]; omega) so20 hF o20 (right_first hne hql)).mono ?_
          rintro v g23 ⟨kr23, rfl⟩
          refine ⟨Undis.off rfl, ?_⟩
          replace r920 := r920.keep kr23
          replace sl120 := sl120.keep kr23
          replace sl220 := sl220.keep kr23
          replace r1020 := r1020.keep kr23
          replace so20 := so20.keep kr23
          replace hN := hN.keep kr23
          replace r11' := r11'.keep kr23
          replace hF := hF.keep kr23
          replace o20 := o20.keep kr23
          (repeat (first|apply qbi|apply qa9|(apply qa7;dsimp only[qbc,List.map,Nat.reduceAdd])|apply qbj|apply qbd|apply qbe|apply qbn|apply qbp|apply qbo|apply qa1|apply qau|apply qbb|apply qas|apply qaq|apply qam rfl|apply qaw|apply qar|apply qax|apply qay|apply qa2|apply qav|((first|apply qa8|apply qbg|apply qbh|apply qbm|apply qbf|apply qba|apply qa0|apply qal|apply qak|apply qat)<;>first|(apply qao;(repeat' first|assumption|exact qaa rfl|apply qaf rfl|apply qab);done)|exact qan _ _|exact qai _|exact qap _|exact qad|exact qag|exact qae|exact qac|exact qah _|exact qa4 _ (by omega)|exact qa3 (by omega)|exact qa5 (by omega)|exact rfl|assumption|apply qa6)|((first|apply qbl|apply qaz|apply qaj)<;>first|(apply qao;(repeat' first|assumption|exact qaa rfl|apply qaf rfl|apply qab);done)|exact qan _ _|exact qai _|exact qap _|exact qad|exact qag|exact qae|exact qac|exact qah _|exact qa4 _ (by omega)|exact qa3 (by omega)|exact qa5 (by omega)|exact rfl|assumption|apply qa6)|(apply qbk rfl rfl;(focus (repeat' first|assumption|exact qaa rfl|apply qaf rfl|apply qab);done))|(apply qb1 rfl rfl;(focus (repeat' first|assumption|exact qaa rfl|apply qaf rfl|apply qab);done);exact rfl)))
          (apply qb5 rfl; (repeat' first|assumption|exact qaa rfl|apply qaf rfl|apply qab))
          rfl
        | false =>
          have h2 : 2 ≤ r.length := by
            have : ¬ (pats.length : Int) = 1 := by simpa using hv4
            omega
          have hbad : rightZ pats ((zs r).set 0 ((zs r)[pats.length - 1]'hlast)) q = false := by
            have := right_twice (pats := pats) (ops := q) h2
            simp only [hrl] at this
            exact this
          (repeat (first|apply qbi|apply qa9|(apply qa7;dsimp only[qbc,List.map,Nat.reduceAdd])|apply qbj|apply qbd|apply qbe|apply qbn|apply qbp|apply qbo|apply qa1|apply qau|apply qbb|apply qas|apply qaq|apply qam rfl|apply qaw|apply qar|apply qax|apply qay|apply qa2|apply qav|((first|apply qa8|apply qbg|apply qbh|apply qbm|apply qbf|apply qba|apply qa0|apply qal|apply qak|apply qat)<;>first|(apply qao;(repeat' first|assumption|exact qaa rfl|apply qaf rfl|apply qab);done)|exact qan _ _|exact qai _|exact qap _|exact qad|exact qag|exact qae|exact qac|exact qah _|exact qa4 _ (by omega)|exact qa3 (by omega)|exact qa5 (by omega)|exact rfl|assumption|apply qa6)|((first|apply qbl|apply qaz|apply qaj)<;>first|(apply qao;(repeat' first|assumption|exact qaa rfl|apply qaf rfl|apply qab);done)|exact qan _ _|exact qai _|exact qap _|exact qad|exact qag|exact qae|exact qac|exact qah _|exact qa4 _ (by omega)|exact qa3 (by omega)|exact qa5 (by omega)|exact rfl|assumption|apply qa6)|(apply qbk rfl rfl;(focus (repeat' first|assumption|exact qaa rfl|apply qaf rfl|apply qab);done))|(apply qb1 rfl rfl;(focus (repeat' first|assumption|exact qaa rfl|apply qaf rfl|apply qab);done);exact rfl)))
          apply qb2 (n := 2)
          · (focus first|(apply qao;(repeat' first|assumption|exact qaa rfl|apply qaf rfl|apply qab);done)|exact qan _ _|exact qai _|exact qap _|exact qad|exact qag|exact qae|exact qac|exact qah _)
          · exact r820
          · rfl
          · exact rfl
          (repeat (first|apply qbi|apply qa9|(apply qa7;dsimp only[qbc,List.map,Nat.reduceAdd])|apply qbj|apply qbd|apply qbe|apply qbn|apply qbp|apply qbo|apply qa1|apply qau|apply qbb|apply qas|apply qaq|apply qam rfl|apply qaw|apply qar|apply qax|apply qay|apply qa2|apply qav|((first|apply qa8|apply qbg|apply qbh|apply qbm|apply qbf|apply qba|apply qa0|apply qal|apply qak|apply qat)<;>first|(apply qao;(repeat' first|assumption|exact qaa rfl|apply qaf rfl|apply qab);done)|exact qan _ _|exact qai _|exact qap _|exact qad|exact qag|exact qae|exact qac|exact qah _|exact qa4 _ (by omega)|exact qa3 (by omega)|exact qa5 (by omega)|exact rfl|assumption|apply qa6)|((first|apply qbl|apply qaz|apply qaj)<;>first|(apply qao;(repeat' first|assumption|exact qaa rfl|apply qaf rfl|apply qab);done)|exact qan _ _|exact qai _|exact qap _|exact qad|exact qag|exact qae|exact qac|exact qah _|exact qa4 _ (by omega)|exact qa3 (by omega)|exact qa5 (by omega)|exact rfl|assumption|apply qa6)|(apply qbk rfl rfl;(focus (repeat' first|assumption|exact qaa rfl|apply qaf rfl|apply qab);done))|(apply qb1 rfl rfl;(focus (repeat' first|assumption|exact qaa rfl|apply qaf rfl|apply qab);done);exact rfl)))
          (apply qcl; (focus first|(apply qao;(repeat' first|assumption|exact qaa rfl|apply qaf rfl|apply qab);done)|exact qan _ _|exact qai _|exact qap _|exact qad|exact qag|exact qae|exact qac|exact qah _); (repeat (apply qbt; (focus first|(apply qao;(repeat' first|assumption|exact qaa rfl|apply qaf rfl|apply qab);done)|exact qan _ _|exact qai _|exact qap _|exact qad|exact qag|exact qae|exact qac|exact qah _))); exact qby)
          refine (right_bad (by simp only [List.length_set, List.length_drop, qcf]; omega) (by simp only [List.length_set, List.length_drop, qcf]; omega) (by omega) (by omega) hT sq20 o20 hbad).mono ?_
          rintro v g21 ⟨kr21, rfl⟩
          refine ⟨Undis.off rfl, ?_⟩
          replace r920 := r920.keep kr21
          replace sl120 := sl120.keep kr21
          replace sl220 := sl220.keep kr21
          replace r1020 := r1020.keep kr21
          replace so20 := so20.keep kr21
          replace hN := hN.keep kr21
          replace r11' := r11'.keep kr21
          replace hF := hF.keep kr21
          replace o20 := o20.keep kr21
          (repeat (first|apply qbi|apply qa9|(apply qa7;dsimp only[qbc,List.map,Nat.reduceAdd])|apply qbj|apply qbd|apply qbe|apply qbn|apply qbp|apply qbo|apply qa1|apply qau|apply qbb|apply qas|apply qaq|apply qam rfl|apply qaw|apply qar|apply qax|apply qay|apply qa2|apply qav|((first|apply qa8|apply qbg|apply qbh|apply qbm|apply qbf|apply qba|apply qa0|apply qal|apply qak|apply qat)<;>first|(apply qao;(repeat' first|assumption|exact qaa rfl|apply qaf rfl|apply qab);done)|exact qan _ _|exact qai _|exact qap _|exact qad|exact qag|exact qae|exact qac|exact qah _|exact qa4 _ (by omega)|exact qa3 (by omega)|exact qa5 (by omega)|exact rfl|assumption|apply qa6)|((first|apply qbl|apply qaz|apply qaj)<;>first|(apply qao;(repeat' first|assumption|exact qaa rfl|apply qaf rfl|apply qab);done)|exact qan _ _|exact qai _|exact qap _|exact qad|exact qag|exact qae|exact qac|exact qah _|exact qa4 _ (by omega)|exact qa3 (by omega)|exact qa5 (by omega)|exact rfl|assumption|apply qa6)|(apply qbk rfl rfl;(focus (repeat' first|assumption|exact qaa rfl|apply qaf rfl|apply qab);done))|(apply qb1 rfl rfl;(focus (repeat' first|assumption|exact qaa rfl|apply qaf rfl|apply qab);done);exact rfl)))
          apply qb2 (n := 2)
          · (focus first|(apply qao;(repeat' first|assumption|exact qaa rfl|apply qaf rfl|apply qab);done)|exact qan _ _|exact qai _|exact qap _|exact qad|exact qag|exact qae|exact qac|exact qah _)
          · exact r920
          · rfl
          · exact rfl
          (repeat (first|apply qbi|apply qa9|(apply qa7;dsimp only[qbc,List.map,Nat.reduceAdd])|apply qbj|apply qbd|apply qbe|apply qbn|apply qbp|apply qbo|apply qa1|apply qau|apply qbb|apply qas|apply qaq|apply qam rfl|apply qaw|apply qar|apply qax|apply qay|apply qa2|apply qav|((first|apply qa8|apply qbg|apply qbh|apply qbm|apply qbf|apply qba|apply qa0|apply qal|apply qak|apply qat)<;>first|(apply qao;(repeat' first|assumption|exact qaa rfl|apply qaf rfl|apply qab);done)|exact qan _ _|exact qai _|exact qap _|exact qad|exact qag|exact qae|exact qac|exact qah _|exact qa4 _ (by omega)|exact qa3 (by omega)|exact qa5 (by omega)|exact rfl|assumption|apply qa6)|((first|apply qbl|apply qaz|apply qaj)<;>first|(apply qao;(repeat' first|assumption|exact qaa rfl|apply qaf rfl|apply qab);done)|exact qan _ _|exact qai _|exact qap _|exact qad|exact qag|exact qae|exact qac|exact qah _|exact qa4 _ (by omega)|exact qa3 (by omega)|exact qa5 (by omega)|exact rfl|assumption|apply qa6)|(apply qbk rfl rfl;(focus (repeat' first|assumption|exact qaa rfl|apply qaf rfl|apply qab);done))|(apply qb1 rfl rfl;(focus (repeat' first|assumption|exact qaa rfl|apply qaf rfl|apply qab);done);exact rfl)))
          (apply qcl; (focus first|(apply qao;(repeat' first|assumption|exact qaa rfl|apply qaf rfl|apply qab);done)|exact qan _ _|exact qai _|exact qap _|exact qad|exact qag|exact qae|exact qac|exact qah _); (repeat (apply qbt; (focus first|(apply qao;(repeat' first|assumption|exact qaa rfl|apply qaf rfl|apply qab);done)|exact qan _ _|exact qai _|exact qap _|exact qad|exact qag|exact qae|exact qac|exact qah _))); exact qby)
          refine (right_bad (by simp only [List.length_set, List.length_drop, qcf]; omega) (by simp only [List.length_set, List.length_drop, qcf]; omega) (by omega) (by simp only [List.length_drop]; omega) sl120 sl220 o20 (right_less (by simp only [List.length_drop, qcf]; omega))).mono ?_
          rintro v g22 ⟨kr22, rfl⟩
          refine ⟨Undis.off rfl, ?_⟩
          replace r920 := r920.keep kr22
          replace sl120 := sl120.keep kr22
          replace sl220 := sl220.keep kr22
          replace r1020 := r1020.keep kr22
          replace so20 := so20.keep kr22
          replace hN := hN.keep kr22
          replace r11' := r11'.keep kr22
          replace hF := hF.keep kr22
          replace o20 := o20.keep kr22
          (repeat (first|apply qbi|apply qa9|(apply qa7;dsimp only[qbc,List.map,Nat.reduceAdd])|apply qbj|apply qbd|apply qbe|apply qbn|apply qbp|apply qbo|apply qa1|apply qau|apply qbb|apply qas|apply qaq|apply qam rfl|apply qaw|apply qar|apply qax|apply qay|apply qa2|apply qav|((first|apply qa8|apply qbg|apply qbh|apply qbm|apply qbf|apply qba|apply qa0|apply qal|apply qak|apply qat)<;>first|(apply qao;(repeat' first|assumption|exact qaa rfl|apply qaf rfl|apply qab);done)|exact qan _ _|exact qai _|exact qap _|exact qad|exact qag|exact qae|exact qac|exact qah _|exact qa4 _ (by omega)|exact qa3 (by omega)|exact qa5 (by omega)|exact rfl|assumption|apply qa6)|((first|apply qbl|apply qaz|apply qaj)<;>first|(apply qao;(repeat' first|assumption|exact qaa rfl|apply qaf rfl|apply qab);done)|exact qan _ _|exact qai _|exact qap _|exact qad|exact qag|exact qae|exact qac|exact qah _|exact qa4 _ (by omega)|exact qa3 (by omega)|exact qa5 (by omega)|exact rfl|assumption|apply qa6)|(apply qbk rfl rfl;(focus (repeat' first|assumption|exact qaa rfl|apply qaf rfl|apply qab);done))|(apply qb1 rfl rfl;(focus (repeat' first|assumption|exact qaa rfl|apply qaf rfl|apply qab);done);exact rfl)))
          apply qb2 (n := 2)
          · (focus first|(apply qao;(repeat' first|assumption|exact qaa rfl|apply qaf rfl|apply qab);done)|exact qan _ _|exact qai _|exact qap _|exact qad|exact qag|exact qae|exact qac|exact qah _)
          · exact r1020
          · rfl
          · exact rfl
          (repeat (first|apply qbi|apply qa9|(apply qa7;dsimp only[qbc,List.map,Nat.reduceAdd])|apply qbj|apply qbd|apply qbe|apply qbn|apply qbp|apply qbo|apply qa1|apply qau|apply qbb|apply qas|apply qaq|apply qam rfl|apply qaw|apply qar|apply qax|apply qay|apply qa2|apply qav|((first|apply qa8|apply qbg|apply qbh|apply qbm|apply qbf|apply qba|apply qa0|apply qal|apply qak|apply qat)<;>first|(apply qao;(repeat' first|assumption|exact qaa rfl|apply qaf rfl|apply qab);done)|exact qan _ _|exact qai _|exact qap _|exact qad|exact qag|exact qae|exact qac|exact qah _|exact qa4 _ (by omega)|exact qa3 (by omega)|exact qa5 (by omega)|exact rfl|assumption|apply qa6)|((first|apply qbl|apply qaz|apply qaj)<;>first|(apply qao;(repeat' first|assumption|exact qaa rfl|apply qaf rfl|apply qab);done)|exact qan _ _|exact qai _|exact qap _|exact qad|exact qag|exact qae|exact qac|exact qah _|exact qa4 _ (by omega)|exact qa3 (by omega)|exact qa5 (by omega)|exact rfl|assumption|apply qa6)|(apply qbk rfl rfl;(focus (repeat' first|assumption|exact qaa rfl|apply qaf rfl|apply qab);done))|(apply qb1 rfl rfl;(focus (repeat' first|assumption|exact qaa rfl|apply qaf rfl|apply qab);done);exact rfl)))
          (apply qcl; (focus first|(apply qao;(repeat' first|assumption|exact qaa rfl|apply qaf rfl|apply qab);done)|exact qan _ _|exact qai _|exact qap _|exact qad|exact qag|exact qae|exact qac|exact qah _); (repeat (apply qbt; (focus first|(apply qao;(repeat' first|assumption|exact qaa rfl|apply qaf rfl|apply qab);done)|exact qan _ _|exact qai _|exact qap _|exact qad|exact qag|exact qae|exact qac|exact qah _))); exact qby)
          refine (right_bad (by rw [qcf]; omega) (by rw [qcf]; omega) (by omega) (by simp only [List.length_set]; omega) so20 hN o20 (right_none hne hql)).mono ?_
          rintro v g23 ⟨kr23, rfl⟩
          refine ⟨Undis.off rfl, ?_⟩
          replace r920 := r920.keep kr23
          replace sl120 := sl120.keep kr23
          replace sl220 := sl220.keep kr23
          replace r1020 := r1020.keep kr23
          replace so20 := so20.keep kr23
          replace hN := hN.keep kr23
          replace r11' := r11'.keep kr23
          replace hF := hF.keep kr23
          replace o20 := o20.keep kr23
          (repeat (first|apply qbi|apply qa9|(apply qa7;dsimp only[qbc,List.map,Nat.reduceAdd])|apply qbj|apply qbd|apply qbe|apply qbn|apply qbp|apply qbo|apply qa1|apply qau|apply qbb|apply qas|apply qaq|apply qam rfl|apply qaw|apply qar|apply qax|apply qay|apply qa2|apply qav|((first|apply qa8|apply qbg|apply qbh|apply qbm|apply qbf|apply qba|apply qa0|apply qal|apply qak|apply qat)<;>first|(apply qao;(repeat' first|assumption|exact qaa rfl|apply qaf rfl|apply qab);done)|exact qan _ _|exact qai _|exact qap _|exact qad|exact qag|exact qae|exact qac|exact qah _|exact qa4 _ (by omega)|exact qa3 (by omega)|exact qa5 (by omega)|exact rfl|assumption|apply qa6)|((first|apply qbl|apply qaz|apply qaj)<;>first|(apply qao;(repeat' first|assumption|exact qaa rfl|apply qaf rfl|apply qab);done)|exact qan _ _|exact qai _|exact qap _|exact qad|exact qag|exact qae|exact qac|exact qah _|exact qa4 _ (by omega)|exact qa3 (by omega)|exact qa5 (by omega)|exact rfl|assumption|apply qa6)|(apply qbk rfl rfl;(focus (repeat' first|assumption|exact qaa rfl|apply qaf rfl|apply qab);done))|(apply qb1 rfl rfl;(focus (repeat' first|assumption|exact qaa rfl|apply qaf rfl|apply qab);done);exact rfl)))
          apply qb2 (n := 2)
          · (focus first|(apply qao;(repeat' first|assumption|exact qaa rfl|apply qaf rfl|apply qab);done)|exact qan _ _|exact qai _|exact qap _|exact qad|exact qag|exact qae|exact qac|exact qah _)
          · exact r11'
          · rfl
          · exact rfl
          (repeat (first|apply qbi|apply qa9|(apply qa7;dsimp only[qbc,List.map,Nat.reduceAdd])|apply qbj|apply qbd|apply qbe|apply qbn|apply qbp|apply qbo|apply qa1|apply qau|apply qbb|apply qas|apply qaq|apply qam rfl|apply qaw|apply qar|apply qax|apply qay|apply qa2|apply qav|((first|apply qa8|apply qbg|apply qbh|apply qbm|apply qbf|apply qba|apply qa0|apply qal|apply qak|apply qat)<;>first|(apply qao;(repeat' first|assumption|exact qaa rfl|apply qaf rfl|apply qab);done)|exact qan _ _|exact qai _|exact qap _|exact qad|exact qag|exact qae|exact qac|exact qah _|exact qa4 _ (by omega)|exact qa3 (by omega)|exact qa5 (by omega)|exact rfl|assumption|apply qa6)|((first|apply qbl|apply qaz|apply qaj)<;>first|(apply qao;(repeat' first|assumption|exact qaa rfl|apply qaf rfl|apply qab);done)|exact qan _ _|exact qai _|exact qap _|exact qad|exact qag|exact qae|exact qac|exact qah _|exact qa4 _ (by omega)|exact qa3 (by omega)|exact qa5 (by omega)|exact rfl|assumption|apply qa6)|(apply qbk rfl rfl;(focus (repeat' first|assumption|exact qaa rfl|apply qaf rfl|apply qab);done))|(apply qb1 rfl rfl;(focus (repeat' first|assumption|exact qaa rfl|apply qaf rfl|apply qab);done);exact rfl)))
          (apply qcl; (focus first|(apply qao;(repeat' first|assumption|exact qaa rfl|apply qaf rfl|apply qab);done)|exact qan _ _|exact qai _|exact qap _|exact qad|exact qag|exact qae|exact qac|exact qah _); (repeat (apply qbt; (focus first|(apply qao;(repeat' first|assumption|exact qaa rfl|apply qaf rfl|apply qab);done)|exact qan _ _|exact qai _|exact qap _|exact qad|exact qag|exact qae|exact qac|exact qah _))); exact qby)
          refine (right_bad (by rw [qcf]; omega) (by rw [qcf]; omega) (by omega) (by simp only [List.length_set]; omega) so20 hF o20 (right_first hne hql)).mono ?_
          rintro v g24 ⟨kr24, rfl⟩
          refine ⟨Undis.off rfl, ?_⟩
          replace r920 := r920.keep kr24
          replace sl120 := sl120.keep kr24
          replace sl220 := sl220.keep kr24
          replace r1020 := r1020.keep kr24
          replace so20 := so20.keep kr24
          replace hN := hN.keep kr24
          replace r11' := r11'.keep kr24
          replace hF := hF.keep kr24
          replace o20 := o20.keep kr24
          (repeat (first|apply qbi|apply qa9|(apply qa7;dsimp only[qbc,List.map,Nat.reduceAdd])|apply qbj|apply qbd|apply qbe|apply qbn|apply qbp|apply qbo|apply qa1|apply qau|apply qbb|apply qas|apply qaq|apply qam rfl|apply qaw|apply qar|apply qax|apply qay|apply qa2|apply qav|((first|apply qa8|apply qbg|apply qbh|apply qbm|apply qbf|apply qba|apply qa0|apply qal|apply qak|apply qat)<;>first|(apply qao;(repeat' first|assumption|exact qaa rfl|apply qaf rfl|apply qab);done)|exact qan _ _|exact qai _|exact qap _|exact qad|exact qag|exact qae|exact qac|exact qah _|exact qa4 _ (by omega)|exact qa3 (by omega)|exact qa5 (by omega)|exact rfl|assumption|apply qa6)|((first|apply qbl|apply qaz|apply qaj)<;>first|(apply qao;(repeat' first|assumption|exact qaa rfl|apply qaf rfl|apply qab);done)|exact qan _ _|exact qai _|exact qap _|exact qad|exact qag|exact qae|exact qac|exact qah _|exact qa4 _ (by omega)|exact qa3 (by omega)|exact qa5 (by omega)|exact rfl|assumption|apply qa6)|(apply qbk rfl rfl;(focus (repeat' first|assumption|exact qaa rfl|apply qaf rfl|apply qab);done))|(apply qb1 rfl rfl;(focus (repeat' first|assumption|exact qaa rfl|apply qaf rfl|apply qab);done);exact rfl)))
          (apply qb5 rfl; (repeat' first|assumption|exact qaa rfl|apply qaf rfl|apply qab))
          rfl
end Go.Am
namespace Go.Am
open Go Go.Proofs AM RowKit ChangeShapes WideShapes Deep
set_option maxRecDepth 10000

inductive Leaf where
  | int (k : IntKind)
  | str
/-- what kind of cell stands at a place of a type's values -/
def leafAt (P : Program) : Nat → TypeId → Nat → Option Leaf
  | 0, _, _ => none
  | n + 1, t, i => match P.underlying t with
    | some (.int k) => cond (Nat.beq i 0) (some (.int k)) none
    | some .string => cond (Nat.beq i 0) (some .str) none
    | some (.struct fs) => match fs.toList.find? (fun f => Nat.ble f.offset i && Nat.blt i (f.offset + P.cellsOf f.type)) with
      | some f => leafAt P n f.type (i - f.offset)
      | none => none
    | _ => none
def fits : Leaf → Value → Prop
  | .int k, v => ∃ n, v = .int k n
  | .str, v => ∃ s, v = .string s
section
variable {H : Type} {enc : TypeId × Value → H} {P : Program} {w : World} {base : Nat} {spare : Nat → Bool} {held : Bool}
theorem leaf_ok : ∀ (n : Nat) {fuel : Nat} {t : TypeId} {cs : List Value} {x : DataW H × List MemPlace} {i : Nat} {κ : Leaf}, DataW.trod enc P w base spare held fuel t cs = some x → leafAt P n t i = some κ → ∃ c, cs[i]? = some c ∧ fits κ c := by
  intro n
  induction n with
  | zero => intro fuel t cs x i κ _ h; cases h
  | succ n ih =>
    intro fuel t cs x i κ h hl
    simp only [leafAt] at hl
    cases hu : P.underlying t with
    | none => rw [hu] at hl; cases hl
    | some d =>
      rw [hu] at hl
      cases d <;> first | cases hl | skip
      · rename_i k
        cases hi : Nat.beq i 0 with
        | false => rw [hi] at hl; cases hl
        | true =>
          obtain rfl := Nat.eq_of_beq_eq_true hi
          rw [hi] at hl; cases hl
          obtain ⟨m, rfl, _⟩ := DataW.trod_int hu h
          exact ⟨_, rfl, m, rfl⟩
      · cases hi : Nat.beq i 0 with
        | false => rw [hi] at hl; cases hl
        | true =>
          obtain rfl := Nat.eq_of_beq_eq_true hi
          rw [hi] at hl; cases hl
          obtain ⟨m, rfl, _⟩ := DataW.trod_string hu h
          exact ⟨_, rfl, m, rfl⟩
      · rename_i fs
        dsimp only at hl
        cases hf : fs.toList.find? (fun f => Nat.ble f.offset i && Nat.blt i (f.offset + P.cellsOf f.type)) with
        | none => rw [hf] at hl; cases hl
        | some f =>
          rw [hf] at hl
          have hfm := List.mem_of_find?_eq_some hf
          have hfp := List.find?_some hf
          simp only [Bool.and_eq_true, Nat.blt_eq, Nat.ble_eq] at hfp
          obtain ⟨xs, m, _, _, hlen, hxl, hg⟩ := DataW.trod_struct hu h
          obtain ⟨j, hj, hjf⟩ := List.getElem_of_mem hfm
          have hja : fs[j]? = some f := by rw [← hjf]; simp
          have h1 := hg j f hja
          have hjx : j < xs.length := by rw [hxl]; simpa using hj
          rw [List.getElem?_eq_getElem hjx] at h1
          obtain ⟨c, hc, hfit⟩ := ih h1 hl
          refine ⟨c, ?_, hfit⟩
          rw [List.getElem?_take, if_pos (by omega), List.getElem?_drop] at hc
          rw [← hc]
          congr 1; omega
end

theorem leaf_int {H : Type} {enc : TypeId × Value → H} {P : Program} {w : World} {base : Nat} {spare : Nat → Bool} {held : Bool} (n : Nat) {fuel : Nat} {t : TypeId} {cs : List Value} {x : DataW H × List MemPlace} {k : IntKind} (i : Nat) (h : DataW.trod enc P w base spare held fuel t cs = some x) (hl : leafAt P n t i = some (.int k)) : ∃ m, cs[i]? = some (.int k m) := by
  obtain ⟨c, h1, m, rfl⟩ := leaf_ok n h hl; exact ⟨m, h1⟩
theorem leaf_str {H : Type} {enc : TypeId × Value → H} {P : Program} {w : World} {base : Nat} {spare : Nat → Bool} {held : Bool} (n : Nat) {fuel : Nat} {t : TypeId} {cs : List Value} {x : DataW H × List MemPlace} (i : Nat) (h : DataW.trod enc P w base spare held fuel t cs = some x) (hl : leafAt P n t i = some .str) : ∃ m, cs[i]? = some (.string m) := by
  obtain ⟨c, h1, m, rfl⟩ := leaf_ok n h hl; exact ⟨m, h1⟩

/-- cells that are as those of an abstract value -/
def Cells (av : List AV) (cs : List Value) : Prop := ∀ (h : Hp) (μ : Nat → Nat) (w : World), VRs h μ w av cs
theorem Cells.nil : Cells [] [] := fun _ _ _ => VRs.nil
theorem Cells.int {k : IntKind} {n : Int} {av : List AV} {cs : List Value} (c : Cells av cs) : Cells (.int k n :: av) (.int k n :: cs) := fun h μ w => VRs.cons (.int _ _) (c h μ w)
theorem Cells.str {s : ByteArray} {av : List AV} {cs : List Value} (c : Cells av cs) : Cells (.str s.data.toList :: av) (.string s :: cs) := fun h μ w => VRs.cons (.str _ _ rfl) (c h μ w)
theorem Cells.append {av av' : List AV} {cs cs' : List Value} (c : Cells av cs) (d : Cells av' cs') : Cells (av ++ av') (cs ++ cs') := fun h μ w => (c h μ w).append (d h μ w)

section
variable {H : Type} {enc : TypeId × Value → H} {w : World} {base : Nat} {spare : Nat → Bool} {held : Bool} {fuel : Nat} {cs : List Value} {x : DataW H × List MemPlace}
theorem open_ptn (h : DataW.trod enc Try.prog w base spare held fuel 48 cs = some x) (hl : cs.length = 15) : ∃ p : Ptn, Cells (ptnC p) cs := by
  obtain ⟨c0, e0⟩ := leaf_str 9 0 h (by kernel_rfl)
  obtain ⟨c1, e1⟩ := leaf_int (k := .i64) 9 1 h (by kernel_rfl)
  obtain ⟨c2, e2⟩ := leaf_str 9 2 h (by kernel_rfl)
  obtain ⟨c3, e3⟩ := leaf_str 9 3 h (by kernel_rfl)
  obtain ⟨c4, e4⟩ := leaf_str 9 4 h (by kernel_rfl)
  obtain ⟨c5, e5⟩ := leaf_str 9 5 h (by kernel_rfl)
  obtain ⟨c6, e6⟩ := leaf_int (k := .i64) 9 6 h (by kernel_rfl)
  obtain ⟨c7, e7⟩ := leaf_str 9 7 h (by kernel_rfl)
  obtain ⟨c8, e8⟩ := leaf_str 9 8 h (by kernel_rfl)
  obtain ⟨c9, e9⟩ := leaf_str 9 9 h (by kernel_rfl)
  obtain ⟨c10, e10⟩ := leaf_str 9 10 h (by kernel_rfl)
  obtain ⟨c11, e11⟩ := leaf_int (k := .i64) 9 11 h (by kernel_rfl)
  obtain ⟨c12, e12⟩ := leaf_str 9 12 h (by kernel_rfl)
  obtain ⟨c13, e13⟩ := leaf_str 9 13 h (by kernel_rfl)
  obtain ⟨c14, e14⟩ := leaf_str 9 14 h (by kernel_rfl)
  match cs, hl with
  | [d0, d1, d2, d3, d4, d5, d6, d7, d8, d9, d10, d11, d12, d13, d14], _ =>
    simp only [List.getElem?_cons_zero, List.getElem?_cons_succ, Option.some.injEq] at *
    subst e0 e1 e2 e3 e4 e5 e6 e7 e8 e9 e10 e11 e12 e13 e14
    exact ⟨⟨⟨c0.data.toList, ⟨c1, c2.data.toList, c3.data.toList, c4.data.toList⟩⟩, ⟨c5.data.toList, ⟨c6, c7.data.toList, c8.data.toList, c9.data.toList⟩⟩, ⟨c10.data.toList, ⟨c11, c12.data.toList, c13.data.toList, c14.data.toList⟩⟩⟩,
      .str (.int (.str (.str (.str (.str (.int (.str (.str (.str (.str (.int (.str (.str (.str .nil))))))))))))))⟩
theorem open_lin (h : DataW.trod enc Try.prog w base spare held fuel 52 cs = some x) (hl : cs.length = 7) : ∃ p : Lin, Cells (linC p) cs := by
  obtain ⟨c0, e0⟩ := leaf_int (k := .i64) 9 0 h (by kernel_rfl)
  obtain ⟨c1, e1⟩ := leaf_str 9 1 h (by kernel_rfl)
  obtain ⟨c2, e2⟩ := leaf_str 9 2 h (by kernel_rfl)
  obtain ⟨c3, e3⟩ := leaf_str 9 3 h (by kernel_rfl)
  obtain ⟨c4, e4⟩ := leaf_int (k := .i64) 9 4 h (by kernel_rfl)
  obtain ⟨c5, e5⟩ := leaf_int (k := .i64) 9 5 h (by kernel_rfl)
  obtain ⟨c6, e6⟩ := leaf_int (k := .i64) 9 6 h (by kernel_rfl)
  match cs, hl with
  | [d0, d1, d2, d3, d4, d5, d6], _ =>
    simp only [List.getElem?_cons_zero, List.getElem?_cons_succ, Option.some.injEq] at *
    subst e0 e1 e2 e3 e4 e5 e6
    exact ⟨⟨⟨c0, c1.data.toList, c2.data.toList, c3.data.toList⟩, c4, c5, c6⟩, .int (.str (.str (.str (.int (.int (.int .nil))))))⟩

/-- a slice of structs, as it comes in -/
theorem open_rows {α : Type} {f : α → List AV} {sz : Nat} {t e : TypeId} (hf : ∀ a, (f a).length = sz) (ht : Try.prog.underlying t = some (.slice e)) (hc : Try.prog.cellsOf e = sz)
    (hopen : ∀ {fuel : Nat} {cs : List Value} {x : DataW H × List MemPlace}, DataW.trod enc Try.prog w base spare held fuel e cs = some x → cs.length = sz → ∃ a, Cells (f a) cs)
    (h : DataW.trod enc Try.prog w base spare held fuel t cs = some x) : ∃ (v : Value) (l : List α), cs = [v] ∧ VR Hp.none id w (.sl .any l.length (flat f l)) v := by
  rcases open_slice ht h with ⟨rfl, _⟩ | ⟨a, len, cap, m, n, D, Pl, rfl, hb, hl, hm, hmm, hx, hi⟩
  · exact ⟨_, [], rfl, .sl .any 0 [] none 0 [] (Nat.le_refl _) (by simp) (by simp) (by simp) (by simp) (by simp) rfl (by simp) (by simp) (by simp)⟩
  · have hlm : len ≤ m := by rw [hmm]; split <;> omega
    rw [hc] at hi
    have key : ∀ k, k ≤ len → ∃ (l : List α) (cs : List Value), l.length = k ∧ Cells (flat f l) cs ∧ cs.length = k * sz ∧ ∀ i (hi : i < cs.length), w.cell? (a.add i) = some cs[i] := by
      intro k
      induction k with
      | zero => intro _; exact ⟨[], [], rfl, .nil, by simp, fun i hi => by cases hi⟩
      | succ k ih =>
        intro hk
        obtain ⟨l, cs, h1, h2, h3, h4⟩ := ih (by omega)
        obtain ⟨cs', h5, h6⟩ := hi k (by omega)
        obtain ⟨_, h7, h8⟩ := World.cells?_some h5
        obtain ⟨p, h9⟩ := hopen h6 h7
        refine ⟨l ++ [p], cs ++ cs', by simp [h1], ?_, by simp [h3, h7, Nat.succ_mul], fun i hi => ?_⟩
        · have : flat f (l ++ [p]) = flat f l ++ f p := by simp [flat]
          rw [this]; exact h2.append h9
        · by_cases hlt : i < cs.length
          · rw [List.getElem_append_left hlt]; exact h4 i hlt
          · have hi' : i - cs.length < cs'.length := by simp at hi; omega
            rw [List.getElem_append_right (by omega)]
            have := h8 (i - cs.length) (by omega)
            rw [List.getElem?_eq_getElem hi', add_of_add] at this
            rw [← this]
            congr 2; omega
    obtain ⟨l, cs, h1, h2, h3, h4⟩ := key len (Nat.le_refl _)
    have hvr := h2 Hp.none id w
    refine ⟨_, l, rfl, ?_⟩
    rw [h1]
    refine .sl .any len (flat f l) (some a) cap cs hl (by simp) (by simp) (by simp) (by simp) (fun ad e hne => ?_) hvr.1 (by simp) (fun ad e i hi => by cases e; exact h4 i hi) hvr.2
    cases e
    refine ⟨fun ⟨i, o, ho, _⟩ => (by rw [Hp.none_get] at ho; cases ho), ?_⟩
    have hcl : 0 < cs.length := by rw [← hvr.1]; exact List.length_pos_iff.2 hne
    have := h4 0 hcl
    unfold World.cell? at this
    cases hq : w.heap[(a.add 0).block]? with
    | none => simp only [hq] at this; cases this
    | some o => rw [add_block] at hq; exact (Array.getElem?_eq_some_iff.1 hq).1
end
end Go.Am
namespace Go.Proofs.Ytallboljaphbpaa
open Go Go.Am Go.ChangeShapes Go.WideShapes Go.ChangeAt Go.RowKit
set_option maxRecDepth 100000

theorem Try.own : ownKnob Try.prog.godebug = none := by kernel_rfl
theorem Try.laidOut : laidOutB Try.prog = true := by kernel_rfl

section
variable {H : Type} {enc : TypeId × Value → H} {w : World}
/-- stats, as they come in -/
theorem open_stats {b0 : Nat} {v : Value} {d : DataW H} {p : List MemPlace} (hv : Value.okWide Try.prog w .any b0 24 v) (h : DataW.Trod enc Try.prog w 0 (fun _ => true) true 24 v d p) :
    ∃ (x : Sts) (lv : AV), VR Hp.none id w (.agg (stsC x lv)) v ∧ Go.Am.Rows linC 7 Hp.none lv x.lines := by
  obtain ⟨cs, rfl, hsz⟩ := okWide_struct Try.underlying24 hv
  obtain ⟨fuel, hf⟩ := h
  obtain ⟨c0, e0⟩ := leaf_int (k := .i64) 9 0 hf (by kernel_rfl)
  obtain ⟨c1, e1⟩ := leaf_int (k := .i64) 9 1 hf (by kernel_rfl)
  obtain ⟨c2, e2⟩ := leaf_int (k := .i64) 9 2 hf (by kernel_rfl)
  obtain ⟨c3, e3⟩ := leaf_int (k := .i64) 9 3 hf (by kernel_rfl)
  obtain ⟨xs, m, _, _, hlen, hxl, hg⟩ := DataW.trod_struct Try.underlying24 hf
  have h4 := hg 4 _ rfl
  obtain ⟨l⟩ := cs
  have hc5 : Try.prog.cellsOf 24 = 5 := by kernel_rfl
  match l, hsz.trans hc5 with
  | [b0, b1, b2, b3, b4], _ =>
    simp only [Value.cells, List.getElem?_cons_zero, List.getElem?_cons_succ, Option.some.injEq] at e0 e1 e2 e3
    subst e0 e1 e2 e3
    have hx4 : xs[4]? = some (xs[4]'(by rw [hxl]; decide)) := List.getElem?_eq_getElem _
    rw [hx4] at h4
    have h5 : DataW.trod enc Try.prog w 0 (fun _ => true) true m 22 [b4] = some (xs[4]'(by rw [hxl]; decide)) := h4
    obtain ⟨v', l, hv', hr⟩ := open_rows (f := linC) (sz := 7) (α := Lin) linC_len Try.underlying22 (by kernel_rfl) (fun h hl => open_lin h hl) h5
    cases hv'
    refine ⟨⟨c0, c1, c2, c3, l⟩, .sl .any l.length (flat linC l), ?_, .imm _ _ _ (flat_length linC_len l).symm⟩
    have hcell : VRs Hp.none id w (stsC ⟨c0, c1, c2, c3, l⟩ (.sl .any l.length (flat linC l))) [.int .i64 c0, .int .i64 c1, .int .i64 c2, .int .i64 c3, b4] :=
      VRs.cons (.int _ _) (VRs.cons (.int _ _) (VRs.cons (.int _ _) (VRs.cons (.int _ _) (VRs.cons hr VRs.nil))))
    exact .agg _ _ hcell.1 hcell.2
/-- patterns, as they come in -/
theorem open_patterns {b0 : Nat} {v : Value} {d : DataW H} {p : List MemPlace} (hv : Value.okWide Try.prog w .any b0 25 v) (h : DataW.Trod enc Try.prog w 0 (fun _ => true) true 25 v d p) :
    ∃ (l : List Ptn) (pv : AV), VR Hp.none id w pv v ∧ Go.Am.Rows ptnC 15 Hp.none pv l := by
  obtain ⟨a, len, cap, rfl⟩ := okWide_slice Try.underlying25 hv
  obtain ⟨fuel, hf⟩ := h
  obtain ⟨v', l, hv', hr⟩ := open_rows (f := ptnC) (sz := 15) (α := Ptn) ptnC_len Try.underlying25 (by kernel_rfl) (fun h hl => open_ptn h hl) hf
  cases hv'
  exact ⟨l, _, hr, .imm _ _ _ (flat_length ptnC_len l).symm⟩
end

theorem planWrong_calls {x : Sts} {lv : AV} {pats : List Ptn} {pv : AV} {turn : Int} {v0 v1 : Value} {w : World} (ox : Go.Am.Rows linC 7 Hp.none lv x.lines) (o : Go.Am.Rows ptnC 15 Hp.none pv pats) (r0 : VR Hp.none id w (.agg (stsC x lv)) v0) (r1 : VR Hp.none id w pv v1) :
    Calls Try.prog 3 #[v0, v1, .int .i64 turn] w fun e w' => e = .returned (.bool true) ∧ Below w.heap.size w w' := by
  obtain ⟨v, h', e, rfl⟩ := planWrong_spec (h := Hp.none) rfl turn ox o Hp.WF.none
  have r : VRs Hp.none id w [.agg (stsC x lv), pv, .int .i64 turn] [v0, v1, .int .i64 turn] := VRs.cons r0 (VRs.cons r1 (VRs.cons (.int _ _) VRs.nil))
  refine (entry (pol := pol27) progOk sums27_ok (n := 3000) e r).mono ?_
  rintro en w' ⟨y, μ', rfl, hy, hb⟩
  cases hy
  exact ⟨rfl, hb⟩

theorem planWrong_lifted (os : Os) (started : os.Started) (H : Type) (enc : TypeId × Value → H) :
    ReturnsInHanded {} Try.checked os 3 .any (Rows.planWrongSpec.pre6 enc Try.prog Try.f3 Rows.planWrongRow.domain false) (Rows.planWrongSpec.post enc Try.prog Try.f3 false true false false) := by
  refine returnsInHanded_of_change (C := Try.checked) Try.own started (by kernel_rfl) Try.func3
    (ChangeSpec.witness6 (enc := enc) (C := Try.checked) false ⟨#[], #[.agg #[.int .i64 0, .int .i64 0, .int .i64 0, .int .i64 0, .slice none 0 0], .slice none 0 0, .int .i64 0], []⟩ 8 (by kernel_rfl) (by kernel_rfl) (by kernel_rfl) (by kernel_rfl)) ?_
  intro W base args ds gs before hval0 hW hcnd _
  have hval : ∀ (j : Nat) t v, Try.f3.params[j]? = some t → args[j]? = some v → Value.okWide Try.prog W .any base t v := hval0
  have hW' := hW
  obtain ⟨p, q, hA0, hV, rfl, hfz, hnd⟩ := hW
  have hA : DataW.TrodAll enc Try.prog W 0 (fun _ => true) true Try.f3.params.toList args.toList ds p := hA0
  rw [Try.params3] at hA hval
  obtain ⟨v0, v1, v2, d0, d1, d2, p0, p1, p2, rfl, rfl, rfl, h0, h1, h2⟩ := trodAll_three hA
  obtain ⟨rfl, rfl⟩ := trodVars_none hV
  obtain ⟨x, lv, r0, ox⟩ := open_stats (hval 0 24 v0 rfl rfl) h0
  obtain ⟨l, pv, r1, o⟩ := open_patterns (hval 1 25 v1 rfl rfl) h1
  obtain ⟨turn, rfl, rfl, rfl, wt⟩ := open_int Try.underlying3 (hval 2 3 v2 rfl rfl) h2
  refine (planWrong_calls ox o r0 r1).mono fun e W' ⟨he, hb⟩ => ?_
  subst he
  refine ⟨_, rfl, ?_⟩
  have hlt : ∀ z ∈ (p0 ++ p1 ++ ([] : List MemPlace)) ++ [], z.block < W.heap.size := fun z hz => hW'.lt z hz
  have t0 := Below.trod Try.laidOut (by kernel_rfl) (of_decide_eq_true (by kernel_rfl)) h0 hb (fun z hz => hlt z (by simp [hz]))
  have t1 := Below.trod Try.laidOut (by kernel_rfl) (of_decide_eq_true (by kernel_rfl)) h1 hb (fun z hz => hlt z (by simp [hz]))
  have t2 := Below.trod Try.laidOut (by kernel_rfl) (of_decide_eq_true (by kernel_rfl)) h2 hb (fun z hz => by cases hz)
  refine ⟨_, _, _, [], p0 ++ p1 ++ [], [], hW', ?_, ?_, ?_, hb.frame _, fun c => by cases c⟩
  · exact trodAll_mk1 (t := 4) (v := .bool true) (d := .lit (.bool true)) ⟨1, by kernel_rfl⟩
  · exact ⟨p0, p1 ++ [], t0, ⟨p1, [], t1, ⟨[], [], t2, rfl, rfl⟩, rfl⟩, by simp⟩
  · exact rfl

theorem planWrong_holds : Rows.PlanWrongSaid :=
  OpenClaim.holds_of_wide 3 Try.f3 rfl rfl rfl rfl rfl rfl rfl ⟨rfl, rfl, rfl, rfl, rfl⟩ rfl rfl rfl rfl rfl (by kernel_rfl) Try.func3 (by kernel_rfl)
    (of_decide_eq_true (by kernel_rfl)) (by unfold Func.isWrapper; first | (rw [if_pos (by decide +kernel)]; kernel_rfl) | (rw [if_neg (by decide +kernel)]; exact ⟨rfl, rfl⟩))
    (fun os started H enc _ => planWrong_lifted os started H enc)
end Go.Proofs.Ytallboljaphbpaa
