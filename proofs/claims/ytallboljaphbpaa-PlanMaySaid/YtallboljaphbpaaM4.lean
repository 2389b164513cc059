/- law27: known's list: whatever order the map's keys come in, they are its keys. -/
import Derived.Test.YtallboljaphbpaaM3
import Derived.Shelf.Sort.Plain
import Derived.Ground.Names2Prog
import Derived.Shelf.Slices.In.SortNone
import Derived.Ground.SlgnProg
import Derived.Test.YtallboljaphbpaaProg
import Derived.WalkKit
import Derived.WalkSpells
import Derived.Maps.RangeWalk
import Derived.Maps.Own
import Derived.Sort.KeysCollected
set_option linter.unusedVariables false
set_option linter.unusedSimpArgs false
namespace Go.Am
open Go Go.Proofs AM
set_option maxRecDepth 10000
variable {pol : Pol} {sums : Sums}
attribute [local irreducible] KSeq KMid KBlock KLoop KOps KFunc Runs qb9 qbn qdl aop qbt qbq qbv qbv? qbd qbw qa9

theorem Names.acells {h : Hp} {v : AV} {l : List Str} (o : Names h v l) : acells v = [v] := by
  rcases o with o | rfl
  · exact o.acells
  · rfl
theorem Names.known {h : Hp} {v : AV} {l : List Str} (o : Names h v l) : known v = true := by
  rcases o with o | rfl
  · exact o.known
  · rfl

def GSt (h : Hp) (i1 i2 i3 i5 : Nat) (x : Sts) (lv nv : AV) (p : Ptn) (known : List Str) (L : Lin) (m : Int) (T : qba) (g : Hp) : Prop :=
  Keep h g ∧ Row g i1 0 5 (stsC x lv) true ∧ Row g i2 0 15 (ptnC p) true ∧ Row g i3 0 1 [nv] true ∧ Row g i5 0 7 (linC L) true ∧ Names g nv known ∧ qbq T 3 = .ptr i1 0 0 ∧ qbq T 4 = .ptr i2 0 0 ∧ qbq T 7 = .func (.func 66) [] [.ptr i3 0 0] ∧ qbq T 8 = .ptr i5 0 0 ∧ qbq T 9 = .int .i64 m
theorem guess_spec (hs : sums 51 = none) (hs1 : sums 66 = none) (hs2 : sums 67 = some qb6) (hs3 : sums 68 = none) (hs4 : sums 69 = none) {n : Nat} {h : Hp} {x : Sts} {lv nv : AV} {known : List Str} (hn : x.lines.length + 4 ≤ n) (o : Rows linC 7 h lv x.lines) (on : Names h nv known) (hb : x.lines.length < 2 ^ 62) (hb2 : known.length < 2 ^ 62) (p : Ptn) :
    Runs (qbt Try.prog pol sums n (.func (.func 51) [] []) [.agg (stsC x lv), .agg (ptnC p), nv]) h (fun v h' => Keep h h' ∧ v = .int .i64 (guessZ x p known)) := by
  apply Runs.wf
  intro w
  obtain ⟨n, rfl⟩ : ∃ m, n = m + 1 := ⟨n - 1, by omega⟩
  refine qcq (by assumption) Try.func51 rfl (by simp [Try.f51]) ?_
  have a0 : qbq (qa9 Try.f51.ntmps (([] ++ [.agg (stsC x lv), .agg (ptnC p), nv] ++ []) : List AV)) 0 = .agg (stsC x lv) := qa8 rfl
  have a1 : qbq (qa9 Try.f51.ntmps (([] ++ [.agg (stsC x lv), .agg (ptnC p), nv] ++ []) : List AV)) 1 = .agg (ptnC p) := qa8 rfl
  have a2 : qbq (qa9 Try.f51.ntmps (([] ++ [.agg (stsC x lv), .agg (ptnC p), nv] ++ []) : List AV)) 2 = nv := qa8 rfl
  generalize qa9 Try.f51.ntmps (([] ++ [.agg (stsC x lv), .agg (ptnC p), nv] ++ []) : List AV) = T at *
  show Runs (qbn _ _ _ _ 48 _ _ _) _ _
  (repeat (first|refine KW.go ?_|((first|apply qaw|apply qaz|apply qa1|apply qa4|apply qay|apply qax|apply qar|apply qal|apply qaj|apply qap)<;>first|(apply qam;(repeat' first|assumption|exact qaa rfl|apply qaf rfl|apply qab);done)|exact qao _ _|exact qai _|exact qan _|exact qad|exact qag|exact qae|exact qac|exact qah _|exact qau _ (by omega)|exact qat (by omega)|exact qas (by omega)|exact rfl|assumption|apply qav)|((first|apply qa3|apply qaq|apply qak)<;>first|(apply qam;(repeat' first|assumption|exact qaa rfl|apply qaf rfl|apply qab);done)|exact qao _ _|exact qai _|exact qan _|exact qad|exact qag|exact qae|exact qac|exact qah _|exact qau _ (by omega)|exact qat (by omega)|exact qas (by omega)|exact rfl|assumption|apply qav)|(apply qa2 rfl rfl;(focus (repeat' first|assumption|exact qaa rfl|apply qaf rfl|apply qab);done))|(apply qbj rfl rfl;(focus (repeat' first|assumption|exact qaa rfl|apply qaf rfl|apply qab);done);exact rfl)))
  apply O_box
  · (focus first|(apply qam;(repeat' first|assumption|exact qaa rfl|apply qaf rfl|apply qab);done)|exact qao _ _|exact qai _|exact qan _|exact qad|exact qag|exact qae|exact qac|exact qah _)
  · rfl
  intro g1 i1 k1 r1 l1 l2
  change Row g1 i1 0 _ (stsC x lv) true at r1
  apply O_box
  · (focus first|(apply qam;(repeat' first|assumption|exact qaa rfl|apply qaf rfl|apply qab);done)|exact qao _ _|exact qai _|exact qan _|exact qad|exact qag|exact qae|exact qac|exact qah _)
  · rfl
  intro g2 i2 k2 r2 l3 l4
  change Row g2 i2 0 _ (ptnC p) true at r2
  apply O_box
  · (focus first|(apply qam;(repeat' first|assumption|exact qaa rfl|apply qaf rfl|apply qab);done)|exact qao _ _|exact qai _|exact qan _|exact qad|exact qag|exact qae|exact qac|exact qah _)
  · exact on.known
  intro g3 i3 k3 r3 l5 l6
  rw [on.acells] at r3
  replace r1 := (r1.keep k2).keep k3
  replace r2 := r2.keep k3
  have k := (k1.trans k2).trans k3
  have o3 := o.keep k
  have on3 := on.keep k
  (repeat (first|refine KW.go ?_|((first|apply qaw|apply qaz|apply qa1|apply qa4|apply qay|apply qax|apply qar|apply qal|apply qaj|apply qap)<;>first|(apply qam;(repeat' first|assumption|exact qaa rfl|apply qaf rfl|apply qab);done)|exact qao _ _|exact qai _|exact qan _|exact qad|exact qag|exact qae|exact qac|exact qah _|exact qau _ (by omega)|exact qat (by omega)|exact qas (by omega)|exact rfl|assumption|apply qav)|((first|apply qa3|apply qaq|apply qak)<;>first|(apply qam;(repeat' first|assumption|exact qaa rfl|apply qaf rfl|apply qab);done)|exact qao _ _|exact qai _|exact qan _|exact qad|exact qag|exact qae|exact qac|exact qah _|exact qau _ (by omega)|exact qat (by omega)|exact qas (by omega)|exact rfl|assumption|apply qav)|(apply qa2 rfl rfl;(focus (repeat' first|assumption|exact qaa rfl|apply qaf rfl|apply qab);done))|(apply qbj rfl rfl;(focus (repeat' first|assumption|exact qaa rfl|apply qaf rfl|apply qab);done);exact rfl)))
  apply O_makeFunc (l1 := []) (l2 := [.ptr i3 0 0])
  · exact qbi
  · exact qbb (by (focus first|(apply qam;(repeat' first|assumption|exact qaa rfl|apply qaf rfl|apply qab);done)|exact qao _ _|exact qai _|exact qan _|exact qad|exact qag|exact qae|exact qac|exact qah _)) qbi
  (repeat (first|refine KW.go ?_|((first|apply qaw|apply qaz|apply qa1|apply qa4|apply qay|apply qax|apply qar|apply qal|apply qaj|apply qap)<;>first|(apply qam;(repeat' first|assumption|exact qaa rfl|apply qaf rfl|apply qab);done)|exact qao _ _|exact qai _|exact qan _|exact qad|exact qag|exact qae|exact qac|exact qah _|exact qau _ (by omega)|exact qat (by omega)|exact qas (by omega)|exact rfl|assumption|apply qav)|((first|apply qa3|apply qaq|apply qak)<;>first|(apply qam;(repeat' first|assumption|exact qaa rfl|apply qaf rfl|apply qab);done)|exact qao _ _|exact qai _|exact qan _|exact qad|exact qag|exact qae|exact qac|exact qah _|exact qau _ (by omega)|exact qat (by omega)|exact qas (by omega)|exact rfl|assumption|apply qav)|(apply qa2 rfl rfl;(focus (repeat' first|assumption|exact qaa rfl|apply qaf rfl|apply qab);done))|(apply qbj rfl rfl;(focus (repeat' first|assumption|exact qaa rfl|apply qaf rfl|apply qab);done);exact rfl)))
  apply qbk (n := 5)
  · (focus first|(apply qam;(repeat' first|assumption|exact qaa rfl|apply qaf rfl|apply qab);done)|exact qao _ _|exact qai _|exact qan _|exact qad|exact qag|exact qae|exact qac|exact qah _)
  · exact r1
  · rfl
  · exact rfl
  (repeat (first|refine KW.go ?_|((first|apply qaw|apply qaz|apply qa1|apply qa4|apply qay|apply qax|apply qar|apply qal|apply qaj|apply qap)<;>first|(apply qam;(repeat' first|assumption|exact qaa rfl|apply qaf rfl|apply qab);done)|exact qao _ _|exact qai _|exact qan _|exact qad|exact qag|exact qae|exact qac|exact qah _|exact qau _ (by omega)|exact qat (by omega)|exact qas (by omega)|exact rfl|assumption|apply qav)|((first|apply qa3|apply qaq|apply qak)<;>first|(apply qam;(repeat' first|assumption|exact qaa rfl|apply qaf rfl|apply qab);done)|exact qao _ _|exact qai _|exact qan _|exact qad|exact qag|exact qae|exact qac|exact qah _|exact qau _ (by omega)|exact qat (by omega)|exact qas (by omega)|exact rfl|assumption|apply qav)|(apply qa2 rfl rfl;(focus (repeat' first|assumption|exact qaa rfl|apply qaf rfl|apply qab);done))|(apply qbj rfl rfl;(focus (repeat' first|assumption|exact qaa rfl|apply qaf rfl|apply qab);done);exact rfl)))
  apply qbk (n := 5)
  · (focus first|(apply qam;(repeat' first|assumption|exact qaa rfl|apply qaf rfl|apply qab);done)|exact qao _ _|exact qai _|exact qan _|exact qad|exact qag|exact qae|exact qac|exact qah _)
  · exact r2
  · rfl
  · exact rfl
  (apply qb5; (focus first|(apply qam;(repeat' first|assumption|exact qaa rfl|apply qaf rfl|apply qab);done)|exact qao _ _|exact qai _|exact qan _|exact qad|exact qag|exact qae|exact qac|exact qah _); (repeat (apply qbb; (focus first|(apply qam;(repeat' first|assumption|exact qaa rfl|apply qaf rfl|apply qab);done)|exact qao _ _|exact qai _|exact qan _|exact qad|exact qag|exact qae|exact qac|exact qah _))); exact qbi)
  refine (of_spec hs3 (by omega) o3 hb p.p).mono ?_
  rintro v g4 ⟨k4, rfl⟩
  refine ⟨Undis.off rfl, ?_⟩
  apply O_wf
  intro w4
  apply qdn
  intro g5 i5 k5 r5 l7 l8
  apply qcj
  · (focus first|(apply qam;(repeat' first|assumption|exact qaa rfl|apply qaf rfl|apply qab);done)|exact qao _ _|exact qai _|exact qan _|exact qad|exact qag|exact qae|exact qac|exact qah _)
  · (focus first|(apply qam;(repeat' first|assumption|exact qaa rfl|apply qaf rfl|apply qab);done)|exact qao _ _|exact qai _|exact qan _|exact qad|exact qag|exact qae|exact qac|exact qah _)
  · exact r5
  · rfl
  intro g6 kb6 r6
  refine ⟨Undis.off rfl, ?_⟩
  change Row g6 i5 0 _ (linC (ofZ x p.p)) true at r6
  have k6 : Keep g3 g6 := k4.trans (KeepBut.keep k5 kb6 fun i hi => w4.get (by omega))
  replace r1 := r1.keep k6
  replace r2 := r2.keep k6
  replace r3 := r3.keep k6
  replace on3 := on3.keep k6
  (repeat (first|refine KW.go ?_|((first|apply qaw|apply qaz|apply qa1|apply qa4|apply qay|apply qax|apply qar|apply qal|apply qaj|apply qap)<;>first|(apply qam;(repeat' first|assumption|exact qaa rfl|apply qaf rfl|apply qab);done)|exact qao _ _|exact qai _|exact qan _|exact qad|exact qag|exact qae|exact qac|exact qah _|exact qau _ (by omega)|exact qat (by omega)|exact qas (by omega)|exact rfl|assumption|apply qav)|((first|apply qa3|apply qaq|apply qak)<;>first|(apply qam;(repeat' first|assumption|exact qaa rfl|apply qaf rfl|apply qab);done)|exact qao _ _|exact qai _|exact qan _|exact qad|exact qag|exact qae|exact qac|exact qah _|exact qau _ (by omega)|exact qat (by omega)|exact qas (by omega)|exact rfl|assumption|apply qav)|(apply qa2 rfl rfl;(focus (repeat' first|assumption|exact qaa rfl|apply qaf rfl|apply qab);done))|(apply qbj rfl rfl;(focus (repeat' first|assumption|exact qaa rfl|apply qaf rfl|apply qab);done);exact rfl)))
  apply qbk (n := 5)
  · (focus first|(apply qam;(repeat' first|assumption|exact qaa rfl|apply qaf rfl|apply qab);done)|exact qao _ _|exact qai _|exact qan _|exact qad|exact qag|exact qae|exact qac|exact qah _)
  · exact r2
  · rfl
  · exact rfl
  (apply qb5; (focus first|(apply qam;(repeat' first|assumption|exact qaa rfl|apply qaf rfl|apply qab);done)|exact qao _ _|exact qai _|exact qan _|exact qad|exact qag|exact qae|exact qac|exact qah _); (repeat (apply qbb; (focus first|(apply qam;(repeat' first|assumption|exact qaa rfl|apply qaf rfl|apply qab);done)|exact qao _ _|exact qai _|exact qan _|exact qad|exact qag|exact qae|exact qac|exact qah _))); exact qbi)
  refine (told_spec hs1 hs2 (by omega) r3 on3 hb2 p.s).mono ?_
  rintro v g7 ⟨k7, rfl⟩
  refine ⟨Undis.off rfl, ?_⟩
  replace r1 := r1.keep k7
  replace r2 := r2.keep k7
  replace r3 := r3.keep k7
  replace r6 := r6.keep k7
  replace on3 := on3.keep k7
  have kk := (k.trans k6).trans k7
  generalize hL : ofZ x p.p = L at *
  (repeat (first|refine KW.go ?_|((first|apply qaw|apply qaz|apply qa1|apply qa4|apply qay|apply qax|apply qar|apply qal|apply qaj|apply qap)<;>first|(apply qam;(repeat' first|assumption|exact qaa rfl|apply qaf rfl|apply qab);done)|exact qao _ _|exact qai _|exact qan _|exact qad|exact qag|exact qae|exact qac|exact qah _|exact qau _ (by omega)|exact qat (by omega)|exact qas (by omega)|exact rfl|assumption|apply qav)|((first|apply qa3|apply qaq|apply qak)<;>first|(apply qam;(repeat' first|assumption|exact qaa rfl|apply qaf rfl|apply qab);done)|exact qao _ _|exact qai _|exact qan _|exact qad|exact qag|exact qae|exact qac|exact qah _|exact qau _ (by omega)|exact qat (by omega)|exact qas (by omega)|exact rfl|assumption|apply qav)|(apply qa2 rfl rfl;(focus (repeat' first|assumption|exact qaa rfl|apply qaf rfl|apply qab);done))|(apply qbj rfl rfl;(focus (repeat' first|assumption|exact qaa rfl|apply qaf rfl|apply qab);done);exact rfl)))
  apply R_mid (GSt h i1 i2 i3 i5 x lv nv p known L (if toldZ known p.s then partZ L.tri L.sub else L.tri))
  · apply qbx (toldZ known p.s)
    · (focus first|(apply qam;(repeat' first|assumption|exact qaa rfl|apply qaf rfl|apply qab);done)|exact qao _ _|exact qai _|exact qan _|exact qad|exact qag|exact qae|exact qac|exact qah _)
    · intro c
      simp only [c]
      (repeat (first|refine KW.go ?_|((first|apply qaw|apply qaz|apply qa1|apply qa4|apply qay|apply qax|apply qar|apply qal|apply qaj|apply qap)<;>first|(apply qam;(repeat' first|assumption|exact qaa rfl|apply qaf rfl|apply qab);done)|exact qao _ _|exact qai _|exact qan _|exact qad|exact qag|exact qae|exact qac|exact qah _|exact qau _ (by omega)|exact qat (by omega)|exact qas (by omega)|exact rfl|assumption|apply qav)|((first|apply qa3|apply qaq|apply qak)<;>first|(apply qam;(repeat' first|assumption|exact qaa rfl|apply qaf rfl|apply qab);done)|exact qao _ _|exact qai _|exact qan _|exact qad|exact qag|exact qae|exact qac|exact qah _|exact qau _ (by omega)|exact qat (by omega)|exact qas (by omega)|exact rfl|assumption|apply qav)|(apply qa2 rfl rfl;(focus (repeat' first|assumption|exact qaa rfl|apply qaf rfl|apply qab);done))|(apply qbj rfl rfl;(focus (repeat' first|assumption|exact qaa rfl|apply qaf rfl|apply qab);done);exact rfl)))
      (apply qb5; (focus first|(apply qam;(repeat' first|assumption|exact qaa rfl|apply qaf rfl|apply qab);done)|exact qao _ _|exact qai _|exact qan _|exact qad|exact qag|exact qae|exact qac|exact qah _); (repeat (apply qbb; (focus first|(apply qam;(repeat' first|assumption|exact qaa rfl|apply qaf rfl|apply qab);done)|exact qao _ _|exact qai _|exact qan _|exact qad|exact qag|exact qae|exact qac|exact qah _))); exact qbi)
      refine (part_spec hs4 (by omega) _ _ _).mono ?_
      rintro v g8 ⟨rfl, rfl⟩
      refine ⟨Undis.off rfl, ?_⟩
      (repeat (first|refine KW.go ?_|((first|apply qaw|apply qaz|apply qa1|apply qa4|apply qay|apply qax|apply qar|apply qal|apply qaj|apply qap)<;>first|(apply qam;(repeat' first|assumption|exact qaa rfl|apply qaf rfl|apply qab);done)|exact qao _ _|exact qai _|exact qan _|exact qad|exact qag|exact qae|exact qac|exact qah _|exact qau _ (by omega)|exact qat (by omega)|exact qas (by omega)|exact rfl|assumption|apply qav)|((first|apply qa3|apply qaq|apply qak)<;>first|(apply qam;(repeat' first|assumption|exact qaa rfl|apply qaf rfl|apply qab);done)|exact qao _ _|exact qai _|exact qan _|exact qad|exact qag|exact qae|exact qac|exact qah _|exact qau _ (by omega)|exact qat (by omega)|exact qas (by omega)|exact rfl|assumption|apply qav)|(apply qa2 rfl rfl;(focus (repeat' first|assumption|exact qaa rfl|apply qaf rfl|apply qab);done))|(apply qbj rfl rfl;(focus (repeat' first|assumption|exact qaa rfl|apply qaf rfl|apply qab);done);exact rfl)))
      apply K_mid
      exact ⟨kk, r1, r2, r3, r6, on3, by (repeat' first|assumption|exact qaa rfl|apply qaf rfl|apply qab), by (repeat' first|assumption|exact qaa rfl|apply qaf rfl|apply qab), by (repeat' first|assumption|exact qaa rfl|apply qaf rfl|apply qab), by (repeat' first|assumption|exact qaa rfl|apply qaf rfl|apply qab), by (repeat' first|assumption|exact qaa rfl|apply qaf rfl|apply qab)⟩
    · intro c
      simp only [c]
      (repeat (first|refine KW.go ?_|((first|apply qaw|apply qaz|apply qa1|apply qa4|apply qay|apply qax|apply qar|apply qal|apply qaj|apply qap)<;>first|(apply qam;(repeat' first|assumption|exact qaa rfl|apply qaf rfl|apply qab);done)|exact qao _ _|exact qai _|exact qan _|exact qad|exact qag|exact qae|exact qac|exact qah _|exact qau _ (by omega)|exact qat (by omega)|exact qas (by omega)|exact rfl|assumption|apply qav)|((first|apply qa3|apply qaq|apply qak)<;>first|(apply qam;(repeat' first|assumption|exact qaa rfl|apply qaf rfl|apply qab);done)|exact qao _ _|exact qai _|exact qan _|exact qad|exact qag|exact qae|exact qac|exact qah _|exact qau _ (by omega)|exact qat (by omega)|exact qas (by omega)|exact rfl|assumption|apply qav)|(apply qa2 rfl rfl;(focus (repeat' first|assumption|exact qaa rfl|apply qaf rfl|apply qab);done))|(apply qbj rfl rfl;(focus (repeat' first|assumption|exact qaa rfl|apply qaf rfl|apply qab);done);exact rfl)))
      apply K_mid
      exact ⟨kk, r1, r2, r3, r6, on3, by (repeat' first|assumption|exact qaa rfl|apply qaf rfl|apply qab), by (repeat' first|assumption|exact qaa rfl|apply qaf rfl|apply qab), by (repeat' first|assumption|exact qaa rfl|apply qaf rfl|apply qab), by (repeat' first|assumption|exact qaa rfl|apply qaf rfl|apply qab), by (repeat' first|assumption|exact qaa rfl|apply qaf rfl|apply qab)⟩
  rintro T g8 ⟨kk, r1, r2, r3, r6, on3, t3, t4, t7, t8, t9⟩
  generalize hm1 : (if toldZ known p.s then partZ L.tri L.sub else L.tri) = m1 at *
  (repeat (first|refine KW.go ?_|((first|apply qaw|apply qaz|apply qa1|apply qa4|apply qay|apply qax|apply qar|apply qal|apply qaj|apply qap)<;>first|(apply qam;(repeat' first|assumption|exact qaa rfl|apply qaf rfl|apply qab);done)|exact qao _ _|exact qai _|exact qan _|exact qad|exact qag|exact qae|exact qac|exact qah _|exact qau _ (by omega)|exact qat (by omega)|exact qas (by omega)|exact rfl|assumption|apply qav)|((first|apply qa3|apply qaq|apply qak)<;>first|(apply qam;(repeat' first|assumption|exact qaa rfl|apply qaf rfl|apply qab);done)|exact qao _ _|exact qai _|exact qan _|exact qad|exact qag|exact qae|exact qac|exact qah _|exact qau _ (by omega)|exact qat (by omega)|exact qas (by omega)|exact rfl|assumption|apply qav)|(apply qa2 rfl rfl;(focus (repeat' first|assumption|exact qaa rfl|apply qaf rfl|apply qab);done))|(apply qbj rfl rfl;(focus (repeat' first|assumption|exact qaa rfl|apply qaf rfl|apply qab);done);exact rfl)))
  apply qbk (n := 5)
  · (focus first|(apply qam;(repeat' first|assumption|exact qaa rfl|apply qaf rfl|apply qab);done)|exact qao _ _|exact qai _|exact qan _|exact qad|exact qag|exact qae|exact qac|exact qah _)
  · exact r2
  · rfl
  · exact rfl
  (apply qb5; (focus first|(apply qam;(repeat' first|assumption|exact qaa rfl|apply qaf rfl|apply qab);done)|exact qao _ _|exact qai _|exact qan _|exact qad|exact qag|exact qae|exact qac|exact qah _); (repeat (apply qbb; (focus first|(apply qam;(repeat' first|assumption|exact qaa rfl|apply qaf rfl|apply qab);done)|exact qao _ _|exact qai _|exact qan _|exact qad|exact qag|exact qae|exact qac|exact qah _))); exact qbi)
  refine (told_spec hs1 hs2 (by omega) r3 on3 hb2 p.o).mono ?_
  rintro v g9 ⟨k9, rfl⟩
  refine ⟨Undis.off rfl, ?_⟩
  replace r1 := r1.keep k9
  replace r2 := r2.keep k9
  replace r3 := r3.keep k9
  replace r6 := r6.keep k9
  replace on3 := on3.keep k9
  replace kk := kk.trans k9
  (repeat (first|refine KW.go ?_|((first|apply qaw|apply qaz|apply qa1|apply qa4|apply qay|apply qax|apply qar|apply qal|apply qaj|apply qap)<;>first|(apply qam;(repeat' first|assumption|exact qaa rfl|apply qaf rfl|apply qab);done)|exact qao _ _|exact qai _|exact qan _|exact qad|exact qag|exact qae|exact qac|exact qah _|exact qau _ (by omega)|exact qat (by omega)|exact qas (by omega)|exact rfl|assumption|apply qav)|((first|apply qa3|apply qaq|apply qak)<;>first|(apply qam;(repeat' first|assumption|exact qaa rfl|apply qaf rfl|apply qab);done)|exact qao _ _|exact qai _|exact qan _|exact qad|exact qag|exact qae|exact qac|exact qah _|exact qau _ (by omega)|exact qat (by omega)|exact qas (by omega)|exact rfl|assumption|apply qav)|(apply qa2 rfl rfl;(focus (repeat' first|assumption|exact qaa rfl|apply qaf rfl|apply qab);done))|(apply qbj rfl rfl;(focus (repeat' first|assumption|exact qaa rfl|apply qaf rfl|apply qab);done);exact rfl)))
  apply R_mid (GSt h i1 i2 i3 i5 x lv nv p known L (if toldZ known p.o then partZ m1 L.obj else m1))
  · apply qbx (toldZ known p.o)
    · (focus first|(apply qam;(repeat' first|assumption|exact qaa rfl|apply qaf rfl|apply qab);done)|exact qao _ _|exact qai _|exact qan _|exact qad|exact qag|exact qae|exact qac|exact qah _)
    · intro c
      simp only [c]
      (repeat (first|refine KW.go ?_|((first|apply qaw|apply qaz|apply qa1|apply qa4|apply qay|apply qax|apply qar|apply qal|apply qaj|apply qap)<;>first|(apply qam;(repeat' first|assumption|exact qaa rfl|apply qaf rfl|apply qab);done)|exact qao _ _|exact qai _|exact qan _|exact qad|exact qag|exact qae|exact qac|exact qah _|exact qau _ (by omega)|exact qat (by omega)|exact qas (by omega)|exact rfl|assumption|apply qav)|((first|apply qa3|apply qaq|apply qak)<;>first|(apply qam;(repeat' first|assumption|exact qaa rfl|apply qaf rfl|apply qab);done)|exact qao _ _|exact qai _|exact qan _|exact qad|exact qag|exact qae|exact qac|exact qah _|exact qau _ (by omega)|exact qat (by omega)|exact qas (by omega)|exact rfl|assumption|apply qav)|(apply qa2 rfl rfl;(focus (repeat' first|assumption|exact qaa rfl|apply qaf rfl|apply qab);done))|(apply qbj rfl rfl;(focus (repeat' first|assumption|exact qaa rfl|apply qaf rfl|apply qab);done);exact rfl)))
      (apply qb5; (focus first|(apply qam;(repeat' first|assumption|exact qaa rfl|apply qaf rfl|apply qab);done)|exact qao _ _|exact qai _|exact qan _|exact qad|exact qag|exact qae|exact qac|exact qah _); (repeat (apply qbb; (focus first|(apply qam;(repeat' first|assumption|exact qaa rfl|apply qaf rfl|apply qab);done)|exact qao _ _|exact qai _|exact qan _|exact qad|exact qag|exact qae|exact qac|exact qah _))); exact qbi)
      refine (part_spec hs4 (by omega) _ _ _).mono ?_
      rintro v g8 ⟨rfl, rfl⟩
      refine ⟨Undis.off rfl, ?_⟩
      (repeat (first|refine KW.go ?_|((first|apply qaw|apply qaz|apply qa1|apply qa4|apply qay|apply qax|apply qar|apply qal|apply qaj|apply qap)<;>first|(apply qam;(repeat' first|assumption|exact qaa rfl|apply qaf rfl|apply qab);done)|exact qao _ _|exact qai _|exact qan _|exact qad|exact qag|exact qae|exact qac|exact qah _|exact qau _ (by omega)|exact qat (by omega)|exact qas (by omega)|exact rfl|assumption|apply qav)|((first|apply qa3|apply qaq|apply qak)<;>first|(apply qam;(repeat' first|assumption|exact qaa rfl|apply qaf rfl|apply qab);done)|exact qao _ _|exact qai _|exact qan _|exact qad|exact qag|exact qae|exact qac|exact qah _|exact qau _ (by omega)|exact qat (by omega)|exact qas (by omega)|exact rfl|assumption|apply qav)|(apply qa2 rfl rfl;(focus (repeat' first|assumption|exact qaa rfl|apply qaf rfl|apply qab);done))|(apply qbj rfl rfl;(focus (repeat' first|assumption|exact qaa rfl|apply qaf rfl|apply qab);done);exact rfl)))
      apply K_mid
      exact ⟨kk, r1, r2, r3, r6, on3, by (repeat' first|assumption|exact qaa rfl|apply qaf rfl|apply qab), by (repeat' first|assumption|exact qaa rfl|apply qaf rfl|apply qab), by (repeat' first|assumption|exact qaa rfl|apply qaf rfl|apply qab), by (repeat' first|assumption|exact qaa rfl|apply qaf rfl|apply qab), by (repeat' first|assumption|exact qaa rfl|apply qaf rfl|apply qab)⟩
    · intro c
      simp only [c]
      (repeat (first|refine KW.go ?_|((first|apply qaw|apply qaz|apply qa1|apply qa4|apply qay|apply qax|apply qar|apply qal|apply qaj|apply qap)<;>first|(apply qam;(repeat' first|assumption|exact qaa rfl|apply qaf rfl|apply qab);done)|exact qao _ _|exact qai _|exact qan _|exact qad|exact qag|exact qae|exact qac|exact qah _|exact qau _ (by omega)|exact qat (by omega)|exact qas (by omega)|exact rfl|assumption|apply qav)|((first|apply qa3|apply qaq|apply qak)<;>first|(apply qam;(repeat' first|assumption|exact qaa rfl|apply qaf rfl|apply qab);done)|exact qao _ _|exact qai _|exact qan _|exact qad|exact qag|exact qae|exact qac|exact qah _|exact qau _ (by omega)|exact qat (by omega)|exact qas (by omega)|exact rfl|assumption|apply qav)|(apply qa2 rfl rfl;(focus (repeat' first|assumption|exact qaa rfl|apply qaf rfl|apply qab);done))|(apply qbj rfl rfl;(focus (repeat' first|assumption|exact qaa rfl|apply qaf rfl|apply qab);done);exact rfl)))
      apply K_mid
      exact ⟨kk, r1, r2, r3, r6, on3, by (repeat' first|assumption|exact qaa rfl|apply qaf rfl|apply qab), by (repeat' first|assumption|exact qaa rfl|apply qaf rfl|apply qab), by (repeat' first|assumption|exact qaa rfl|apply qaf rfl|apply qab), by (repeat' first|assumption|exact qaa rfl|apply qaf rfl|apply qab), by (repeat' first|assumption|exact qaa rfl|apply qaf rfl|apply qab)⟩
  rintro T g10 ⟨kk, r1, r2, r3, r6, on3, t3, t4, t7, t8, t9⟩
  generalize hm2 : (if toldZ known p.o then partZ m1 L.obj else m1) = m2 at *
  have hfin : guessZ x p known = if p.p.var ≠ [] ∧ toldZ known p.p = true then partZ m2 x.pre else m2 := by
    simp only [guessZ, hL, hm1, hm2]
  rw [hfin]
  (repeat (first|refine KW.go ?_|((first|apply qaw|apply qaz|apply qa1|apply qa4|apply qay|apply qax|apply qar|apply qal|apply qaj|apply qap)<;>first|(apply qam;(repeat' first|assumption|exact qaa rfl|apply qaf rfl|apply qab);done)|exact qao _ _|exact qai _|exact qan _|exact qad|exact qag|exact qae|exact qac|exact qah _|exact qau _ (by omega)|exact qat (by omega)|exact qas (by omega)|exact rfl|assumption|apply qav)|((first|apply qa3|apply qaq|apply qak)<;>first|(apply qam;(repeat' first|assumption|exact qaa rfl|apply qaf rfl|apply qab);done)|exact qao _ _|exact qai _|exact qan _|exact qad|exact qag|exact qae|exact qac|exact qah _|exact qau _ (by omega)|exact qat (by omega)|exact qas (by omega)|exact rfl|assumption|apply qav)|(apply qa2 rfl rfl;(focus (repeat' first|assumption|exact qaa rfl|apply qaf rfl|apply qab);done))|(apply qbj rfl rfl;(focus (repeat' first|assumption|exact qaa rfl|apply qaf rfl|apply qab);done);exact rfl)))
  cases hv : (!(p.p.var == ([] : Str))) with
  | false =>
    have hv' : p.p.var = [] := by simpa using hv
    simp only [hv', ne_eq, not_true, false_and, if_false]
    (repeat (first|refine KW.go ?_|((first|apply qaw|apply qaz|apply qa1|apply qa4|apply qay|apply qax|apply qar|apply qal|apply qaj|apply qap)<;>first|(apply qam;(repeat' first|assumption|exact qaa rfl|apply qaf rfl|apply qab);done)|exact qao _ _|exact qai _|exact qan _|exact qad|exact qag|exact qae|exact qac|exact qah _|exact qau _ (by omega)|exact qat (by omega)|exact qas (by omega)|exact rfl|assumption|apply qav)|((first|apply qa3|apply qaq|apply qak)<;>first|(apply qam;(repeat' first|assumption|exact qaa rfl|apply qaf rfl|apply qab);done)|exact qao _ _|exact qai _|exact qan _|exact qad|exact qag|exact qae|exact qac|exact qah _|exact qau _ (by omega)|exact qat (by omega)|exact qas (by omega)|exact rfl|assumption|apply qav)|(apply qa2 rfl rfl;(focus (repeat' first|assumption|exact qaa rfl|apply qaf rfl|apply qab);done))|(apply qbj rfl rfl;(focus (repeat' first|assumption|exact qaa rfl|apply qaf rfl|apply qab);done);exact rfl)))
    apply qbx false
    · (focus first|(apply qam;(repeat' first|assumption|exact qaa rfl|apply qaf rfl|apply qab);done)|exact qao _ _|exact qai _|exact qan _|exact qad|exact qag|exact qae|exact qac|exact qah _)
    · intro c; cases c
    intro _
    (repeat (first|refine KW.go ?_|((first|apply qaw|apply qaz|apply qa1|apply qa4|apply qay|apply qax|apply qar|apply qal|apply qaj|apply qap)<;>first|(apply qam;(repeat' first|assumption|exact qaa rfl|apply qaf rfl|apply qab);done)|exact qao _ _|exact qai _|exact qan _|exact qad|exact qag|exact qae|exact qac|exact qah _|exact qau _ (by omega)|exact qat (by omega)|exact qas (by omega)|exact rfl|assumption|apply qav)|((first|apply qa3|apply qaq|apply qak)<;>first|(apply qam;(repeat' first|assumption|exact qaa rfl|apply qaf rfl|apply qab);done)|exact qao _ _|exact qai _|exact qan _|exact qad|exact qag|exact qae|exact qac|exact qah _|exact qau _ (by omega)|exact qat (by omega)|exact qas (by omega)|exact rfl|assumption|apply qav)|(apply qa2 rfl rfl;(focus (repeat' first|assumption|exact qaa rfl|apply qaf rfl|apply qab);done))|(apply qbj rfl rfl;(focus (repeat' first|assumption|exact qaa rfl|apply qaf rfl|apply qab);done);exact rfl)))
    (apply qbl rfl; (repeat' first|assumption|exact qaa rfl|apply qaf rfl|apply qab))
    exact ⟨kk, rfl⟩
  | true =>
    have hv' : p.p.var ≠ [] := by simpa using hv
    simp only [hv', ne_eq, not_false_eq_true, true_and]
    (repeat (first|refine KW.go ?_|((first|apply qaw|apply qaz|apply qa1|apply qa4|apply qay|apply qax|apply qar|apply qal|apply qaj|apply qap)<;>first|(apply qam;(repeat' first|assumption|exact qaa rfl|apply qaf rfl|apply qab);done)|exact qao _ _|exact qai _|exact qan _|exact qad|exact qag|exact qae|exact qac|exact qah _|exact qau _ (by omega)|exact qat (by omega)|exact qas (by omega)|exact rfl|assumption|apply qav)|((first|apply qa3|apply qaq|apply qak)<;>first|(apply qam;(repeat' first|assumption|exact qaa rfl|apply qaf rfl|apply qab);done)|exact qao _ _|exact qai _|exact qan _|exact qad|exact qag|exact qae|exact qac|exact qah _|exact qau _ (by omega)|exact qat (by omega)|exact qas (by omega)|exact rfl|assumption|apply qav)|(apply qa2 rfl rfl;(focus (repeat' first|assumption|exact qaa rfl|apply qaf rfl|apply qab);done))|(apply qbj rfl rfl;(focus (repeat' first|assumption|exact qaa rfl|apply qaf rfl|apply qab);done);exact rfl)))
    apply qbk (n := 5)
    · (focus first|(apply qam;(repeat' first|assumption|exact qaa rfl|apply qaf rfl|apply qab);done)|exact qao _ _|exact qai _|exact qan _|exact qad|exact qag|exact qae|exact qac|exact qah _)
    · exact r2
    · rfl
    · exact rfl
    (repeat (first|refine KW.go ?_|((first|apply qaw|apply qaz|apply qa1|apply qa4|apply qay|apply qax|apply qar|apply qal|apply qaj|apply qap)<;>first|(apply qam;(repeat' first|assumption|exact qaa rfl|apply qaf rfl|apply qab);done)|exact qao _ _|exact qai _|exact qan _|exact qad|exact qag|exact qae|exact qac|exact qah _|exact qau _ (by omega)|exact qat (by omega)|exact qas (by omega)|exact rfl|assumption|apply qav)|((first|apply qa3|apply qaq|apply qak)<;>first|(apply qam;(repeat' first|assumption|exact qaa rfl|apply qaf rfl|apply qab);done)|exact qao _ _|exact qai _|exact qan _|exact qad|exact qag|exact qae|exact qac|exact qah _|exact qau _ (by omega)|exact qat (by omega)|exact qas (by omega)|exact rfl|assumption|apply qav)|(apply qa2 rfl rfl;(focus (repeat' first|assumption|exact qaa rfl|apply qaf rfl|apply qab);done))|(apply qbj rfl rfl;(focus (repeat' first|assumption|exact qaa rfl|apply qaf rfl|apply qab);done);exact rfl)))
    (apply qb5; (focus first|(apply qam;(repeat' first|assumption|exact qaa rfl|apply qaf rfl|apply qab);done)|exact qao _ _|exact qai _|exact qan _|exact qad|exact qag|exact qae|exact qac|exact qah _); (repeat (apply qbb; (focus first|(apply qam;(repeat' first|assumption|exact qaa rfl|apply qaf rfl|apply qab);done)|exact qao _ _|exact qai _|exact qan _|exact qad|exact qag|exact qae|exact qac|exact qah _))); exact qbi)
    refine (told_spec hs1 hs2 (by omega) r3 on3 hb2 p.p).mono ?_
    rintro v g11 ⟨k11, rfl⟩
    refine ⟨Undis.off rfl, ?_⟩
    replace r1 := r1.keep k11
    replace r2 := r2.keep k11
    replace r3 := r3.keep k11
    replace r6 := r6.keep k11
    replace on3 := on3.keep k11
    (repeat (first|refine KW.go ?_|((first|apply qaw|apply qaz|apply qa1|apply qa4|apply qay|apply qax|apply qar|apply qal|apply qaj|apply qap)<;>first|(apply qam;(repeat' first|assumption|exact qaa rfl|apply qaf rfl|apply qab);done)|exact qao _ _|exact qai _|exact qan _|exact qad|exact qag|exact qae|exact qac|exact qah _|exact qau _ (by omega)|exact qat (by omega)|exact qas (by omega)|exact rfl|assumption|apply qav)|((first|apply qa3|apply qaq|apply qak)<;>first|(apply qam;(repeat' first|assumption|exact qaa rfl|apply qaf rfl|apply qab);done)|exact qao _ _|exact qai _|exact qan _|exact qad|exact qag|exact qae|exact qac|exact qah _|exact qau _ (by omega)|exact qat (by omega)|exact qas (by omega)|exact rfl|assumption|apply qav)|(apply qa2 rfl rfl;(focus (repeat' first|assumption|exact qaa rfl|apply qaf rfl|apply qab);done))|(apply qbj rfl rfl;(focus (repeat' first|assumption|exact qaa rfl|apply qaf rfl|apply qab);done);exact rfl)))
    apply qbx (toldZ known p.p)
    · (focus first|(apply qam;(repeat' first|assumption|exact qaa rfl|apply qaf rfl|apply qab);done)|exact qao _ _|exact qai _|exact qan _|exact qad|exact qag|exact qae|exact qac|exact qah _)
    · intro c
      simp only [c, if_true]
      (repeat (first|refine KW.go ?_|((first|apply qaw|apply qaz|apply qa1|apply qa4|apply qay|apply qax|apply qar|apply qal|apply qaj|apply qap)<;>first|(apply qam;(repeat' first|assumption|exact qaa rfl|apply qaf rfl|apply qab);done)|exact qao _ _|exact qai _|exact qan _|exact qad|exact qag|exact qae|exact qac|exact qah _|exact qau _ (by omega)|exact qat (by omega)|exact qas (by omega)|exact rfl|assumption|apply qav)|((first|apply qa3|apply qaq|apply qak)<;>first|(apply qam;(repeat' first|assumption|exact qaa rfl|apply qaf rfl|apply qab);done)|exact qao _ _|exact qai _|exact qan _|exact qad|exact qag|exact qae|exact qac|exact qah _|exact qau _ (by omega)|exact qat (by omega)|exact qas (by omega)|exact rfl|assumption|apply qav)|(apply qa2 rfl rfl;(focus (repeat' first|assumption|exact qaa rfl|apply qaf rfl|apply qab);done))|(apply qbj rfl rfl;(focus (repeat' first|assumption|exact qaa rfl|apply qaf rfl|apply qab);done);exact rfl)))
      (apply qb5; (focus first|(apply qam;(repeat' first|assumption|exact qaa rfl|apply qaf rfl|apply qab);done)|exact qao _ _|exact qai _|exact qan _|exact qad|exact qag|exact qae|exact qac|exact qah _); (repeat (apply qbb; (focus first|(apply qam;(repeat' first|assumption|exact qaa rfl|apply qaf rfl|apply qab);done)|exact qao _ _|exact qai _|exact qan _|exact qad|exact qag|exact qae|exact qac|exact qah _))); exact qbi)
      refine (part_spec hs4 (by omega) _ _ _).mono ?_
      rintro v g12 ⟨rfl, rfl⟩
      refine ⟨Undis.off rfl, ?_⟩
      (repeat (first|refine KW.go ?_|((first|apply qaw|apply qaz|apply qa1|apply qa4|apply qay|apply qax|apply qar|apply qal|apply qaj|apply qap)<;>first|(apply qam;(repeat' first|assumption|exact qaa rfl|apply qaf rfl|apply qab);done)|exact qao _ _|exact qai _|exact qan _|exact qad|exact qag|exact qae|exact qac|exact qah _|exact qau _ (by omega)|exact qat (by omega)|exact qas (by omega)|exact rfl|assumption|apply qav)|((first|apply qa3|apply qaq|apply qak)<;>first|(apply qam;(repeat' first|assumption|exact qaa rfl|apply qaf rfl|apply qab);done)|exact qao _ _|exact qai _|exact qan _|exact qad|exact qag|exact qae|exact qac|exact qah _|exact qau _ (by omega)|exact qat (by omega)|exact qas (by omega)|exact rfl|assumption|apply qav)|(apply qa2 rfl rfl;(focus (repeat' first|assumption|exact qaa rfl|apply qaf rfl|apply qab);done))|(apply qbj rfl rfl;(focus (repeat' first|assumption|exact qaa rfl|apply qaf rfl|apply qab);done);exact rfl)))
      (apply qbl rfl; (repeat' first|assumption|exact qaa rfl|apply qaf rfl|apply qab))
      exact ⟨kk.trans k11, rfl⟩
    · intro c
      simp only [c]
      (repeat (first|refine KW.go ?_|((first|apply qaw|apply qaz|apply qa1|apply qa4|apply qay|apply qax|apply qar|apply qal|apply qaj|apply qap)<;>first|(apply qam;(repeat' first|assumption|exact qaa rfl|apply qaf rfl|apply qab);done)|exact qao _ _|exact qai _|exact qan _|exact qad|exact qag|exact qae|exact qac|exact qah _|exact qau _ (by omega)|exact qat (by omega)|exact qas (by omega)|exact rfl|assumption|apply qav)|((first|apply qa3|apply qaq|apply qak)<;>first|(apply qam;(repeat' first|assumption|exact qaa rfl|apply qaf rfl|apply qab);done)|exact qao _ _|exact qai _|exact qan _|exact qad|exact qag|exact qae|exact qac|exact qah _|exact qau _ (by omega)|exact qat (by omega)|exact qas (by omega)|exact rfl|assumption|apply qav)|(apply qa2 rfl rfl;(focus (repeat' first|assumption|exact qaa rfl|apply qaf rfl|apply qab);done))|(apply qbj rfl rfl;(focus (repeat' first|assumption|exact qaa rfl|apply qaf rfl|apply qab);done);exact rfl)))
      (apply qbl rfl; (repeat' first|assumption|exact qaa rfl|apply qaf rfl|apply qab))
      exact ⟨kk.trans k11, rfl⟩
end Go.Am
namespace Go.Am
open Go Go.Proofs AM
set_option maxRecDepth 10000
variable {pol : Pol} {sums : Sums}
attribute [local irreducible] KSeq KMid KBlock KLoop KOps KFunc Runs qb9 qbn qdl aop qbt qbq qbv qbv? qbd qbw qa9

def ints (l : List Int) : List AV := l.map fun i => .int .i64 i
@[simp] theorem ints_length (l : List Int) : (ints l).length = l.length := by simp [ints]
theorem ints_append (l m : List Int) : ints (l ++ m) = ints l ++ ints m := by simp [ints]
theorem ints_at {l : List Int} {i : Nat} (hi : i < l.length) : ((ints l).drop (i * 1)).take 1 = [.int .i64 l[i]] := by
  rw [Nat.mul_one, List.drop_eq_getElem_cons (by simpa using hi)]
  simp [ints]
theorem ints_ones (l : List Int) : ones (ints l) = true := by simp [ones, ints, one]
/-- a slice of numbers -/
abbrev Ints (h : Hp) (v : AV) (l : List Int) : Prop := SlV h 1 v l.length (ints l)

theorem indexFunc_spec (hs : sums 54 = none) (n : Nat) (F : AV) (R : Int → Bool → Prop) {h : Hp} {s : AV} {l : List Int} (o : Ints h s l) (hn : l.length < n) (hb : l.length < 2 ^ 62)
    (hF : ∀ h1, Keep h h1 → ∀ e ∈ l, Runs (qbt Try.prog pol sums n F [.int .i64 e]) h1 fun v h2 => ∃ b, v = .bool b ∧ R e b ∧ Keep h1 h2) :
    Runs (qbt Try.prog pol sums (n + 1) (.func (.func 54) [] []) [s, F]) h (fun v h' => Keep h h' ∧
      ((v = .int .i64 (-1) ∧ ∀ e ∈ l, R e false) ∨ ∃ (i : Nat) (hi : i < l.length), v = .int .i64 i ∧ R l[i] true ∧ ∀ (j : Nat) (hj : j < i), R (l[j]'(by omega)) false)) := by
  refine qcq hs Try.func54 rfl (by simp [Try.f54]) ?_
  have h0 : qbq (qa9 Try.f54.ntmps ([] ++ [s, F] ++ [])) 0 = s := qa8 rfl
  have h1 : qbq (qa9 Try.f54.ntmps ([] ++ [s, F] ++ [])) 1 = F := qa8 rfl
  generalize qa9 Try.f54.ntmps ([] ++ [s, F] ++ []) = T at *
  show Runs (qbn _ _ _ _ 19 _ _ _) _ _
  (repeat (first|refine KW.go ?_|((first|apply qaw|apply qaz|apply qa1|apply qa4|apply qay|apply qax|apply qar|apply qal|apply qaj|apply qap)<;>first|(apply qam;(repeat' first|assumption|exact qaa rfl|apply qaf rfl|apply qab);done)|exact qao _ _|exact qai _|exact qan _|exact qad|exact qag|exact qae|exact qac|exact qah _|exact qau _ (by omega)|exact qat (by omega)|exact qas (by omega)|exact rfl|assumption|apply qav)|((first|apply qa3|apply qaq|apply qak)<;>first|(apply qam;(repeat' first|assumption|exact qaa rfl|apply qaf rfl|apply qab);done)|exact qao _ _|exact qai _|exact qan _|exact qad|exact qag|exact qae|exact qac|exact qah _|exact qau _ (by omega)|exact qat (by omega)|exact qas (by omega)|exact rfl|assumption|apply qav)|(apply qa2 rfl rfl;(focus (repeat' first|assumption|exact qaa rfl|apply qaf rfl|apply qab);done))|(apply qbj rfl rfl;(focus (repeat' first|assumption|exact qaa rfl|apply qaf rfl|apply qab);done);exact rfl)))
  apply R_loop (k := l.length) (I := fun k T h1 => ∃ i, k = l.length - i ∧ i ≤ l.length ∧ qbq T 0 = s ∧ qbq T 1 = F ∧ qbq T 7 = .int .i64 l.length ∧ qbq T 8 = .int .i64 i ∧ Keep h h1 ∧ ∀ (j : Nat) (hj : j < i) (hl : j < l.length), R l[j] false)
  · exact hn
  · exact ⟨0, by omega, by omega, by (repeat' first|assumption|exact qaa rfl|apply qaf rfl|apply qab), by (repeat' first|assumption|exact qaa rfl|apply qaf rfl|apply qab), by (repeat' first|assumption|exact qaa rfl|apply qaf rfl|apply qab), by (repeat' first|assumption|exact qaa rfl|apply qaf rfl|apply qab), Keep.refl h, fun j hj => by omega⟩
  · rintro k T h1 ⟨i, rfl, hi, t0, t1, t7, t8, kp, hall⟩
    (repeat (first|refine KW.go ?_|((first|apply qaw|apply qaz|apply qa1|apply qa4|apply qay|apply qax|apply qar|apply qal|apply qaj|apply qap)<;>first|(apply qam;(repeat' first|assumption|exact qaa rfl|apply qaf rfl|apply qab);done)|exact qao _ _|exact qai _|exact qan _|exact qad|exact qag|exact qae|exact qac|exact qah _|exact qau _ (by omega)|exact qat (by omega)|exact qas (by omega)|exact rfl|assumption|apply qav)|((first|apply qa3|apply qaq|apply qak)<;>first|(apply qam;(repeat' first|assumption|exact qaa rfl|apply qaf rfl|apply qab);done)|exact qao _ _|exact qai _|exact qan _|exact qad|exact qag|exact qae|exact qac|exact qah _|exact qau _ (by omega)|exact qat (by omega)|exact qas (by omega)|exact rfl|assumption|apply qav)|(apply qa2 rfl rfl;(focus (repeat' first|assumption|exact qaa rfl|apply qaf rfl|apply qab);done))|(apply qbj rfl rfl;(focus (repeat' first|assumption|exact qaa rfl|apply qaf rfl|apply qab);done);exact rfl)))
    apply qbx (decide ((i : Int) < (l.length : Int)))
    · (focus first|(apply qam;(repeat' first|assumption|exact qaa rfl|apply qaf rfl|apply qab);done)|exact qao _ _|exact qai _|exact qan _|exact qad|exact qag|exact qae|exact qac|exact qah _)
    · intro c
      have hlt : i < l.length := by simpa using c
      (repeat (first|refine KW.go ?_|((first|apply qaw|apply qaz|apply qa1|apply qa4|apply qay|apply qax|apply qar|apply qal|apply qaj|apply qap)<;>first|(apply qam;(repeat' first|assumption|exact qaa rfl|apply qaf rfl|apply qab);done)|exact qao _ _|exact qai _|exact qan _|exact qad|exact qag|exact qae|exact qac|exact qah _|exact qau _ (by omega)|exact qat (by omega)|exact qas (by omega)|exact rfl|assumption|apply qav)|((first|apply qa3|apply qaq|apply qak)<;>first|(apply qam;(repeat' first|assumption|exact qaa rfl|apply qaf rfl|apply qab);done)|exact qao _ _|exact qai _|exact qan _|exact qad|exact qag|exact qae|exact qac|exact qah _|exact qau _ (by omega)|exact qat (by omega)|exact qas (by omega)|exact rfl|assumption|apply qav)|(apply qa2 rfl rfl;(focus (repeat' first|assumption|exact qaa rfl|apply qaf rfl|apply qab);done))|(apply qbj rfl rfl;(focus (repeat' first|assumption|exact qaa rfl|apply qaf rfl|apply qab);done);exact rfl)))
      apply qbp
      · (focus first|(apply qam;(repeat' first|assumption|exact qaa rfl|apply qaf rfl|apply qab);done)|exact qao _ _|exact qai _|exact qan _|exact qad|exact qag|exact qae|exact qac|exact qah _)
      · exact o.keep kp
      · (focus first|(apply qam;(repeat' first|assumption|exact qaa rfl|apply qaf rfl|apply qab);done)|exact qao _ _|exact qai _|exact qan _|exact qad|exact qag|exact qae|exact qac|exact qah _)
      · exact hlt
      · rfl
      intro a ha _
      rw [ints_at hlt] at ha
      apply qce
      · (focus first|(apply qam;(repeat' first|assumption|exact qaa rfl|apply qaf rfl|apply qab);done)|exact qao _ _|exact qai _|exact qan _|exact qad|exact qag|exact qae|exact qac|exact qah _)
      · exact ha
      (apply qb5; (focus first|(apply qam;(repeat' first|assumption|exact qaa rfl|apply qaf rfl|apply qab);done)|exact qao _ _|exact qai _|exact qan _|exact qad|exact qag|exact qae|exact qac|exact qah _); (repeat (apply qbb; (focus first|(apply qam;(repeat' first|assumption|exact qaa rfl|apply qaf rfl|apply qab);done)|exact qao _ _|exact qai _|exact qan _|exact qad|exact qag|exact qae|exact qac|exact qah _))); exact qbi)
      refine (hF h1 kp l[i] (List.getElem_mem hlt)).mono ?_
      rintro v h2 ⟨b, rfl, hR, kp2⟩
      refine ⟨kp2.undis, ?_⟩
      (repeat (first|refine KW.go ?_|((first|apply qaw|apply qaz|apply qa1|apply qa4|apply qay|apply qax|apply qar|apply qal|apply qaj|apply qap)<;>first|(apply qam;(repeat' first|assumption|exact qaa rfl|apply qaf rfl|apply qab);done)|exact qao _ _|exact qai _|exact qan _|exact qad|exact qag|exact qae|exact qac|exact qah _|exact qau _ (by omega)|exact qat (by omega)|exact qas (by omega)|exact rfl|assumption|apply qav)|((first|apply qa3|apply qaq|apply qak)<;>first|(apply qam;(repeat' first|assumption|exact qaa rfl|apply qaf rfl|apply qab);done)|exact qao _ _|exact qai _|exact qan _|exact qad|exact qag|exact qae|exact qac|exact qah _|exact qau _ (by omega)|exact qat (by omega)|exact qas (by omega)|exact rfl|assumption|apply qav)|(apply qa2 rfl rfl;(focus (repeat' first|assumption|exact qaa rfl|apply qaf rfl|apply qab);done))|(apply qbj rfl rfl;(focus (repeat' first|assumption|exact qaa rfl|apply qaf rfl|apply qab);done);exact rfl)))
      apply qbx b
      · (focus first|(apply qam;(repeat' first|assumption|exact qaa rfl|apply qaf rfl|apply qab);done)|exact qao _ _|exact qai _|exact qan _|exact qad|exact qag|exact qae|exact qac|exact qah _)
      · rintro rfl
        (repeat (first|refine KW.go ?_|((first|apply qaw|apply qaz|apply qa1|apply qa4|apply qay|apply qax|apply qar|apply qal|apply qaj|apply qap)<;>first|(apply qam;(repeat' first|assumption|exact qaa rfl|apply qaf rfl|apply qab);done)|exact qao _ _|exact qai _|exact qan _|exact qad|exact qag|exact qae|exact qac|exact qah _|exact qau _ (by omega)|exact qat (by omega)|exact qas (by omega)|exact rfl|assumption|apply qav)|((first|apply qa3|apply qaq|apply qak)<;>first|(apply qam;(repeat' first|assumption|exact qaa rfl|apply qaf rfl|apply qab);done)|exact qao _ _|exact qai _|exact qan _|exact qad|exact qag|exact qae|exact qac|exact qah _|exact qau _ (by omega)|exact qat (by omega)|exact qas (by omega)|exact rfl|assumption|apply qav)|(apply qa2 rfl rfl;(focus (repeat' first|assumption|exact qaa rfl|apply qaf rfl|apply qab);done))|(apply qbj rfl rfl;(focus (repeat' first|assumption|exact qaa rfl|apply qaf rfl|apply qab);done);exact rfl)))
        (apply qbl rfl; (repeat' first|assumption|exact qaa rfl|apply qaf rfl|apply qab))
        exact ⟨kp.trans kp2, .inr ⟨i, hlt, rfl, hR, fun j hj => hall j hj (by omega)⟩⟩
      · rintro rfl
        (repeat (first|refine KW.go ?_|((first|apply qaw|apply qaz|apply qa1|apply qa4|apply qay|apply qax|apply qar|apply qal|apply qaj|apply qap)<;>first|(apply qam;(repeat' first|assumption|exact qaa rfl|apply qaf rfl|apply qab);done)|exact qao _ _|exact qai _|exact qan _|exact qad|exact qag|exact qae|exact qac|exact qah _|exact qau _ (by omega)|exact qat (by omega)|exact qas (by omega)|exact rfl|assumption|apply qav)|((first|apply qa3|apply qaq|apply qak)<;>first|(apply qam;(repeat' first|assumption|exact qaa rfl|apply qaf rfl|apply qab);done)|exact qao _ _|exact qai _|exact qan _|exact qad|exact qag|exact qae|exact qac|exact qah _|exact qau _ (by omega)|exact qat (by omega)|exact qas (by omega)|exact rfl|assumption|apply qav)|(apply qa2 rfl rfl;(focus (repeat' first|assumption|exact qaa rfl|apply qaf rfl|apply qab);done))|(apply qbj rfl rfl;(focus (repeat' first|assumption|exact qaa rfl|apply qaf rfl|apply qab);done);exact rfl)))
        apply qdg (l.length - (i + 1)) (by omega)
        refine ⟨i + 1, rfl, by omega, by (repeat' first|assumption|exact qaa rfl|apply qaf rfl|apply qab), by (repeat' first|assumption|exact qaa rfl|apply qaf rfl|apply qab), by (repeat' first|assumption|exact qaa rfl|apply qaf rfl|apply qab), by (repeat' first|assumption|exact qaa rfl|apply qaf rfl|apply qab), kp.trans kp2, fun j hj hl => ?_⟩
        by_cases e : j = i
        · subst e; exact hR
        · exact hall j (by omega) hl
    · intro c
      (repeat (first|refine KW.go ?_|((first|apply qaw|apply qaz|apply qa1|apply qa4|apply qay|apply qax|apply qar|apply qal|apply qaj|apply qap)<;>first|(apply qam;(repeat' first|assumption|exact qaa rfl|apply qaf rfl|apply qab);done)|exact qao _ _|exact qai _|exact qan _|exact qad|exact qag|exact qae|exact qac|exact qah _|exact qau _ (by omega)|exact qat (by omega)|exact qas (by omega)|exact rfl|assumption|apply qav)|((first|apply qa3|apply qaq|apply qak)<;>first|(apply qam;(repeat' first|assumption|exact qaa rfl|apply qaf rfl|apply qab);done)|exact qao _ _|exact qai _|exact qan _|exact qad|exact qag|exact qae|exact qac|exact qah _|exact qau _ (by omega)|exact qat (by omega)|exact qas (by omega)|exact rfl|assumption|apply qav)|(apply qa2 rfl rfl;(focus (repeat' first|assumption|exact qaa rfl|apply qaf rfl|apply qab);done))|(apply qbj rfl rfl;(focus (repeat' first|assumption|exact qaa rfl|apply qaf rfl|apply qab);done);exact rfl)))
      (apply qbl rfl; (repeat' first|assumption|exact qaa rfl|apply qaf rfl|apply qab))
      refine ⟨kp, .inl ⟨rfl, fun e he => ?_⟩⟩
      obtain ⟨j, hj, rfl⟩ := List.getElem_of_mem he
      have : ¬ i < l.length := by simpa using c
      exact hall j (by omega) hj
end Go.Am
namespace Go.Am
open Go Go.Proofs AM
set_option maxRecDepth 10000
variable {pol : Pol} {sums : Sums}
attribute [local irreducible] KSeq KMid KBlock KLoop KOps KFunc Runs qb9 qbn qdl aop qbt qbq qbv qbv? qbd qbw qa9

/-- what is left of a row when some are taken out -/
inductive Filt (R : Int → Bool → Prop) : List Int → List Int → Prop
  | nil : Filt R [] []
  | keep {l l' : List Int} {e : Int} (r : R e false) (f : Filt R l l') : Filt R (l ++ [e]) (l' ++ [e])
  | drop {l l' : List Int} {e : Int} (r : R e true) (f : Filt R l l') : Filt R (l ++ [e]) l'
theorem Filt.length {R : Int → Bool → Prop} {l l' : List Int} (f : Filt R l l') : l'.length ≤ l.length := by
  induction f with
  | nil => exact Nat.le_refl _
  | keep _ _ ih => simpa using ih
  | drop _ _ ih => simp; omega
theorem Filt.all {R : Int → Bool → Prop} (l : List Int) : (∀ e ∈ l, R e false) → Filt R l l := by
  induction h : l.length generalizing l with
  | zero => intro _; rw [List.length_eq_zero_iff.1 h]; exact .nil
  | succ n ih =>
    intro hl
    have hne : l ≠ [] := by rintro rfl; cases h
    rw [← List.dropLast_concat_getLast hne]
    exact .keep (hl _ (List.getLast_mem hne)) (ih _ (by simp [h]) (fun e he => hl e (List.dropLast_subset l he)))
theorem Filt.done {R : Int → Bool → Prop} {l l' : List Int} (f : Filt R l l') (p : Int → Bool) (hR : ∀ e b, R e b → b = p e) : l' = l.filter fun e => !(p e) := by
  induction f with
  | nil => rfl
  | keep r _ ih => have := hR _ _ r; simp [ih, ← this]
  | drop r _ ih => have := hR _ _ r; simp [ih, ← this]

/-- a row of numbers that may be written: its cells from a place on -/
def RowInts (h : Hp) (id ver off : Nat) (fix : Bool) (len : Nat) (l : List Int) : Prop := ∃ row, Row h id ver 1 row fix ∧ row.length = len ∧ off + l.length ≤ len ∧ (row.drop off).take l.length = ints l
theorem RowInts.slv {h : Hp} {id ver off len : Nat} {fix : Bool} {l : List Int} (o : RowInts h id ver off fix len l) : Ints h (.own id ver off l.length) l := by
  obtain ⟨row, h1, h2, h3, h4⟩ := o
  have := SlV.own id ver off l.length row fix h1 (by omega)
  rw [Nat.mul_one, h4] at this
  exact this
theorem RowInts.keep {h h1 : Hp} {id ver off len : Nat} {fix : Bool} {l : List Int} (o : RowInts h id ver off fix len l) (k : Keep h h1) : RowInts h1 id ver off fix len l := by
  obtain ⟨row, h1, h2⟩ := o
  exact ⟨row, h1.keep k, h2⟩
theorem RowInts.pfx {h : Hp} {id ver off len : Nat} {fix : Bool} {l : List Int} (o : RowInts h id ver off fix len l) (i : Nat) : RowInts h id ver off fix len (l.take i) := by
  obtain ⟨row, h1, h2, h3, h4⟩ := o
  refine ⟨row, h1, h2, by simp; omega, ?_⟩
  have : ints (l.take i) = (ints l).take i := by simp [ints, List.map_take]
  rw [this, ← h4, List.take_take]
  simp
theorem RowInts.splice {h1 : Hp} {id ver off i : Nat} {e : Int} {fix : Bool} {l : List Int} {row : List AV} (r : Row h1 id ver 1 (splice row (off + i * 1) [.int .i64 e]) fix) (h3 : off + l.length ≤ row.length) (h4 : (row.drop off).take l.length = ints l) (hi : i < l.length) :
    RowInts h1 id ver off fix row.length (l.set i e) := by
  refine ⟨_, r, by rw [qcn (by simp; omega)], by simpa using h3, ?_⟩
  rw [splice_one (by omega), List.length_set]
  have h2 : ints (l.set i e) = (ints l).set i (.int .i64 e) := by simp [ints, List.map_set]
  rw [h2, ← h4]
  apply List.ext_getElem?
  intro j
  simp only [List.getElem?_take, List.getElem?_drop, List.getElem?_set, List.length_take, List.length_drop]
  by_cases e1 : i = j
  · subst e1
    have h5 : off + i < row.length := by omega
    simp [hi, h5]
    omega
  · by_cases h3 : j < l.length
    · simp [e1, h3]
    · simp [e1, h3]

theorem deleteFunc_spec (hs : sums 24 = none) (hs2 : sums 54 = none) (n : Nat) (F : AV) (R : Int → Bool → Prop) {h : Hp} {id ver off len : Nat} {fix : Bool} {l : List Int} (o : RowInts h id ver off fix len l) (hn : l.length + 1 < n) (hb : l.length < 2 ^ 62)
    (hF : ∀ m h1, n ≤ m + 1 → KeepBut (· = id) h h1 → ∀ e ∈ l, Runs (qbt Try.prog pol sums m F [.int .i64 e]) h1 fun v h2 => ∃ b, v = .bool b ∧ R e b ∧ Keep h1 h2) :
    Runs (qbt Try.prog pol sums (n + 1) (.func (.func 24) [] []) [.own id ver off l.length, F]) h (fun v h' => KeepBut (· = id) h h' ∧ ∃ l', v = .own id ver off l'.length ∧ Filt R l l' ∧ RowInts h' id ver off fix len l') := by
  refine qcq hs Try.func24 rfl (by simp [Try.f24]) ?_
  have h0 : qbq (qa9 Try.f24.ntmps ([] ++ [AV.own id ver off l.length, F] ++ [])) 0 = .own id ver off l.length := qa8 rfl
  have h1 : qbq (qa9 Try.f24.ntmps ([] ++ [AV.own id ver off l.length, F] ++ [])) 1 = F := qa8 rfl
  generalize qa9 Try.f24.ntmps ([] ++ [AV.own id ver off l.length, F] ++ []) = T at *
  show Runs (qbn _ _ _ _ 42 _ _ _) _ _
  obtain ⟨n, rfl⟩ : ∃ m, n = m + 1 := ⟨n - 1, by omega⟩
  (repeat (first|refine KW.go ?_|((first|apply qaw|apply qaz|apply qa1|apply qa4|apply qay|apply qax|apply qar|apply qal|apply qaj|apply qap)<;>first|(apply qam;(repeat' first|assumption|exact qaa rfl|apply qaf rfl|apply qab);done)|exact qao _ _|exact qai _|exact qan _|exact qad|exact qag|exact qae|exact qac|exact qah _|exact qau _ (by omega)|exact qat (by omega)|exact qas (by omega)|exact rfl|assumption|apply qav)|((first|apply qa3|apply qaq|apply qak)<;>first|(apply qam;(repeat' first|assumption|exact qaa rfl|apply qaf rfl|apply qab);done)|exact qao _ _|exact qai _|exact qan _|exact qad|exact qag|exact qae|exact qac|exact qah _|exact qau _ (by omega)|exact qat (by omega)|exact qas (by omega)|exact rfl|assumption|apply qav)|(apply qa2 rfl rfl;(focus (repeat' first|assumption|exact qaa rfl|apply qaf rfl|apply qab);done))|(apply qbj rfl rfl;(focus (repeat' first|assumption|exact qaa rfl|apply qaf rfl|apply qab);done);exact rfl)))
  (apply qb5; (focus first|(apply qam;(repeat' first|assumption|exact qaa rfl|apply qaf rfl|apply qab);done)|exact qao _ _|exact qai _|exact qan _|exact qad|exact qag|exact qae|exact qac|exact qah _); (repeat (apply qbb; (focus first|(apply qam;(repeat' first|assumption|exact qaa rfl|apply qaf rfl|apply qab);done)|exact qao _ _|exact qai _|exact qan _|exact qad|exact qag|exact qae|exact qac|exact qah _))); exact qbi)
  refine (indexFunc_spec hs2 n F R o.slv (by omega) hb (fun h1 k e he => hF n h1 (by omega) (k.but _) e he)).mono ?_
  rintro v h1 ⟨kp, hv⟩
  refine ⟨kp.undis, ?_⟩
  rcases hv with ⟨rfl, hall⟩ | ⟨i, hi, rfl, hRi, hbef⟩
  · (repeat (first|refine KW.go ?_|((first|apply qaw|apply qaz|apply qa1|apply qa4|apply qay|apply qax|apply qar|apply qal|apply qaj|apply qap)<;>first|(apply qam;(repeat' first|assumption|exact qaa rfl|apply qaf rfl|apply qab);done)|exact qao _ _|exact qai _|exact qan _|exact qad|exact qag|exact qae|exact qac|exact qah _|exact qau _ (by omega)|exact qat (by omega)|exact qas (by omega)|exact rfl|assumption|apply qav)|((first|apply qa3|apply qaq|apply qak)<;>first|(apply qam;(repeat' first|assumption|exact qaa rfl|apply qaf rfl|apply qab);done)|exact qao _ _|exact qai _|exact qan _|exact qad|exact qag|exact qae|exact qac|exact qah _|exact qau _ (by omega)|exact qat (by omega)|exact qas (by omega)|exact rfl|assumption|apply qav)|(apply qa2 rfl rfl;(focus (repeat' first|assumption|exact qaa rfl|apply qaf rfl|apply qab);done))|(apply qbj rfl rfl;(focus (repeat' first|assumption|exact qaa rfl|apply qaf rfl|apply qab);done);exact rfl)))
    apply qbx true
    · (focus first|(apply qam;(repeat' first|assumption|exact qaa rfl|apply qaf rfl|apply qab);done)|exact qao _ _|exact qai _|exact qan _|exact qad|exact qag|exact qae|exact qac|exact qah _)
    · intro _
      (repeat (first|refine KW.go ?_|((first|apply qaw|apply qaz|apply qa1|apply qa4|apply qay|apply qax|apply qar|apply qal|apply qaj|apply qap)<;>first|(apply qam;(repeat' first|assumption|exact qaa rfl|apply qaf rfl|apply qab);done)|exact qao _ _|exact qai _|exact qan _|exact qad|exact qag|exact qae|exact qac|exact qah _|exact qau _ (by omega)|exact qat (by omega)|exact qas (by omega)|exact rfl|assumption|apply qav)|((first|apply qa3|apply qaq|apply qak)<;>first|(apply qam;(repeat' first|assumption|exact qaa rfl|apply qaf rfl|apply qab);done)|exact qao _ _|exact qai _|exact qan _|exact qad|exact qag|exact qae|exact qac|exact qah _|exact qau _ (by omega)|exact qat (by omega)|exact qas (by omega)|exact rfl|assumption|apply qav)|(apply qa2 rfl rfl;(focus (repeat' first|assumption|exact qaa rfl|apply qaf rfl|apply qab);done))|(apply qbj rfl rfl;(focus (repeat' first|assumption|exact qaa rfl|apply qaf rfl|apply qab);done);exact rfl)))
      (apply qbl rfl; (repeat' first|assumption|exact qaa rfl|apply qaf rfl|apply qab))
      exact ⟨kp.but _, l, rfl, Filt.all l hall, o.keep kp⟩
    · intro c; cases c
  · (repeat (first|refine KW.go ?_|((first|apply qaw|apply qaz|apply qa1|apply qa4|apply qay|apply qax|apply qar|apply qal|apply qaj|apply qap)<;>first|(apply qam;(repeat' first|assumption|exact qaa rfl|apply qaf rfl|apply qab);done)|exact qao _ _|exact qai _|exact qan _|exact qad|exact qag|exact qae|exact qac|exact qah _|exact qau _ (by omega)|exact qat (by omega)|exact qas (by omega)|exact rfl|assumption|apply qav)|((first|apply qa3|apply qaq|apply qak)<;>first|(apply qam;(repeat' first|assumption|exact qaa rfl|apply qaf rfl|apply qab);done)|exact qao _ _|exact qai _|exact qan _|exact qad|exact qag|exact qae|exact qac|exact qah _|exact qau _ (by omega)|exact qat (by omega)|exact qas (by omega)|exact rfl|assumption|apply qav)|(apply qa2 rfl rfl;(focus (repeat' first|assumption|exact qaa rfl|apply qaf rfl|apply qab);done))|(apply qbj rfl rfl;(focus (repeat' first|assumption|exact qaa rfl|apply qaf rfl|apply qab);done);exact rfl)))
    apply qbx ((i : Int) == -1)
    · (focus first|(apply qam;(repeat' first|assumption|exact qaa rfl|apply qaf rfl|apply qab);done)|exact qao _ _|exact qai _|exact qan _|exact qad|exact qag|exact qae|exact qac|exact qah _)
    · intro c; simp at c
    intro _
    (repeat (first|refine KW.go ?_|((first|apply qaw|apply qaz|apply qa1|apply qa4|apply qay|apply qax|apply qar|apply qal|apply qaj|apply qap)<;>first|(apply qam;(repeat' first|assumption|exact qaa rfl|apply qaf rfl|apply qab);done)|exact qao _ _|exact qai _|exact qan _|exact qad|exact qag|exact qae|exact qac|exact qah _|exact qau _ (by omega)|exact qat (by omega)|exact qas (by omega)|exact rfl|assumption|apply qav)|((first|apply qa3|apply qaq|apply qak)<;>first|(apply qam;(repeat' first|assumption|exact qaa rfl|apply qaf rfl|apply qab);done)|exact qao _ _|exact qai _|exact qan _|exact qad|exact qag|exact qae|exact qac|exact qah _|exact qau _ (by omega)|exact qat (by omega)|exact qas (by omega)|exact rfl|assumption|apply qav)|(apply qa2 rfl rfl;(focus (repeat' first|assumption|exact qaa rfl|apply qaf rfl|apply qab);done))|(apply qbj rfl rfl;(focus (repeat' first|assumption|exact qaa rfl|apply qaf rfl|apply qab);done);exact rfl)))
    apply R_loop (k := l.length - (i + 1)) (I := fun k T h2 => ∃ (w j : Nat) (cur : List Int), k = l.length - j ∧ w < j ∧ j ≤ l.length ∧ qbq T 0 = .own id ver off l.length ∧ qbq T 1 = F ∧ qbq T 5 = .int .i64 w ∧ qbq T 6 = .int .i64 j ∧ KeepBut (· = id) h h2 ∧
      RowInts h2 id ver off fix len cur ∧ cur.length = l.length ∧ cur.drop j = l.drop j ∧ Filt R (l.take j) (cur.take w))
    · omega
    · refine ⟨i, i + 1, l, by omega, by omega, by omega, by (repeat' first|assumption|exact qaa rfl|apply qaf rfl|apply qab), by (repeat' first|assumption|exact qaa rfl|apply qaf rfl|apply qab), by (repeat' first|assumption|exact qaa rfl|apply qaf rfl|apply qab), by (repeat' first|assumption|exact qaa rfl|apply qaf rfl|apply qab), kp.but _, o.keep kp, rfl, rfl, ?_⟩
      rw [List.take_succ_eq_append_getElem hi]
      refine .drop hRi (Filt.all _ fun e he => ?_)
      obtain ⟨j, hj, rfl⟩ := List.getElem_of_mem he
      rw [List.getElem_take]
      exact hbef j (by simp at hj; omega)
    · rintro k T h2 ⟨w, j, cur, rfl, hwj, hjl, t0, t1, t5, t6, kb, oc, hcl, hcd, hf⟩
      have osl : SlV h2 1 (.own id ver off l.length) l.length (ints cur) := by rw [← hcl]; exact oc.slv
      (repeat (first|refine KW.go ?_|((first|apply qaw|apply qaz|apply qa1|apply qa4|apply qay|apply qax|apply qar|apply qal|apply qaj|apply qap)<;>first|(apply qam;(repeat' first|assumption|exact qaa rfl|apply qaf rfl|apply qab);done)|exact qao _ _|exact qai _|exact qan _|exact qad|exact qag|exact qae|exact qac|exact qah _|exact qau _ (by omega)|exact qat (by omega)|exact qas (by omega)|exact rfl|assumption|apply qav)|((first|apply qa3|apply qaq|apply qak)<;>first|(apply qam;(repeat' first|assumption|exact qaa rfl|apply qaf rfl|apply qab);done)|exact qao _ _|exact qai _|exact qan _|exact qad|exact qag|exact qae|exact qac|exact qah _|exact qau _ (by omega)|exact qat (by omega)|exact qas (by omega)|exact rfl|assumption|apply qav)|(apply qa2 rfl rfl;(focus (repeat' first|assumption|exact qaa rfl|apply qaf rfl|apply qab);done))|(apply qbj rfl rfl;(focus (repeat' first|assumption|exact qaa rfl|apply qaf rfl|apply qab);done);exact rfl)))
      apply qbx (decide ((j : Int) < (l.length : Int)))
      · (focus first|(apply qam;(repeat' first|assumption|exact qaa rfl|apply qaf rfl|apply qab);done)|exact qao _ _|exact qai _|exact qan _|exact qad|exact qag|exact qae|exact qac|exact qah _)
      · intro c
        have hlt : j < l.length := by simpa using c
        (repeat (first|refine KW.go ?_|((first|apply qaw|apply qaz|apply qa1|apply qa4|apply qay|apply qax|apply qar|apply qal|apply qaj|apply qap)<;>first|(apply qam;(repeat' first|assumption|exact qaa rfl|apply qaf rfl|apply qab);done)|exact qao _ _|exact qai _|exact qan _|exact qad|exact qag|exact qae|exact qac|exact qah _|exact qau _ (by omega)|exact qat (by omega)|exact qas (by omega)|exact rfl|assumption|apply qav)|((first|apply qa3|apply qaq|apply qak)<;>first|(apply qam;(repeat' first|assumption|exact qaa rfl|apply qaf rfl|apply qab);done)|exact qao _ _|exact qai _|exact qan _|exact qad|exact qag|exact qae|exact qac|exact qah _|exact qau _ (by omega)|exact qat (by omega)|exact qas (by omega)|exact rfl|assumption|apply qav)|(apply qa2 rfl rfl;(focus (repeat' first|assumption|exact qaa rfl|apply qaf rfl|apply qab);done))|(apply qbj rfl rfl;(focus (repeat' first|assumption|exact qaa rfl|apply qaf rfl|apply qab);done);exact rfl)))
        apply qbp
        · (focus first|(apply qam;(repeat' first|assumption|exact qaa rfl|apply qaf rfl|apply qab);done)|exact qao _ _|exact qai _|exact qan _|exact qad|exact qag|exact qae|exact qac|exact qah _)
        · exact osl
        · (focus first|(apply qam;(repeat' first|assumption|exact qaa rfl|apply qaf rfl|apply qab);done)|exact qao _ _|exact qai _|exact qan _|exact qad|exact qag|exact qae|exact qac|exact qah _)
        · exact hlt
        · rfl
        intro a ha _
        have hjc : j < cur.length := by omega
        rw [ints_at hjc] at ha
        have hcj : cur[j] = l[j] := by
          have h1 : (cur.drop j)[0]? = (l.drop j)[0]? := by rw [hcd]
          simpa [hjc, hlt] using h1
        rw [hcj] at ha
        apply qce
        · (focus first|(apply qam;(repeat' first|assumption|exact qaa rfl|apply qaf rfl|apply qab);done)|exact qao _ _|exact qai _|exact qan _|exact qad|exact qag|exact qae|exact qac|exact qah _)
        · exact ha
        (repeat (first|refine KW.go ?_|((first|apply qaw|apply qaz|apply qa1|apply qa4|apply qay|apply qax|apply qar|apply qal|apply qaj|apply qap)<;>first|(apply qam;(repeat' first|assumption|exact qaa rfl|apply qaf rfl|apply qab);done)|exact qao _ _|exact qai _|exact qan _|exact qad|exact qag|exact qae|exact qac|exact qah _|exact qau _ (by omega)|exact qat (by omega)|exact qas (by omega)|exact rfl|assumption|apply qav)|((first|apply qa3|apply qaq|apply qak)<;>first|(apply qam;(repeat' first|assumption|exact qaa rfl|apply qaf rfl|apply qab);done)|exact qao _ _|exact qai _|exact qan _|exact qad|exact qag|exact qae|exact qac|exact qah _|exact qau _ (by omega)|exact qat (by omega)|exact qas (by omega)|exact rfl|assumption|apply qav)|(apply qa2 rfl rfl;(focus (repeat' first|assumption|exact qaa rfl|apply qaf rfl|apply qab);done))|(apply qbj rfl rfl;(focus (repeat' first|assumption|exact qaa rfl|apply qaf rfl|apply qab);done);exact rfl)))
        (apply qb5; (focus first|(apply qam;(repeat' first|assumption|exact qaa rfl|apply qaf rfl|apply qab);done)|exact qao _ _|exact qai _|exact qan _|exact qad|exact qag|exact qae|exact qac|exact qah _); (repeat (apply qbb; (focus first|(apply qam;(repeat' first|assumption|exact qaa rfl|apply qaf rfl|apply qab);done)|exact qao _ _|exact qai _|exact qan _|exact qad|exact qag|exact qae|exact qac|exact qah _))); exact qbi)
        refine (hF (n + 1) h2 (by omega) kb l[j] (List.getElem_mem hlt)).mono ?_
        rintro v h3 ⟨b, rfl, hR, kp2⟩
        refine ⟨kp2.undis, ?_⟩
        have oc := oc.keep kp2
        (repeat (first|refine KW.go ?_|((first|apply qaw|apply qaz|apply qa1|apply qa4|apply qay|apply qax|apply qar|apply qal|apply qaj|apply qap)<;>first|(apply qam;(repeat' first|assumption|exact qaa rfl|apply qaf rfl|apply qab);done)|exact qao _ _|exact qai _|exact qan _|exact qad|exact qag|exact qae|exact qac|exact qah _|exact qau _ (by omega)|exact qat (by omega)|exact qas (by omega)|exact rfl|assumption|apply qav)|((first|apply qa3|apply qaq|apply qak)<;>first|(apply qam;(repeat' first|assumption|exact qaa rfl|apply qaf rfl|apply qab);done)|exact qao _ _|exact qai _|exact qan _|exact qad|exact qag|exact qae|exact qac|exact qah _|exact qau _ (by omega)|exact qat (by omega)|exact qas (by omega)|exact rfl|assumption|apply qav)|(apply qa2 rfl rfl;(focus (repeat' first|assumption|exact qaa rfl|apply qaf rfl|apply qab);done))|(apply qbj rfl rfl;(focus (repeat' first|assumption|exact qaa rfl|apply qaf rfl|apply qab);done);exact rfl)))
        apply qbx (!b)
        · (focus first|(apply qam;(repeat' first|assumption|exact qaa rfl|apply qaf rfl|apply qab);done)|exact qao _ _|exact qai _|exact qan _|exact qad|exact qag|exact qae|exact qac|exact qah _)
        · intro hb'
          have hb' : b = false := by simpa using hb'
          subst hb'
          obtain ⟨row, r1, r2, r3, r4⟩ := oc
          (repeat (first|refine KW.go ?_|((first|apply qaw|apply qaz|apply qa1|apply qa4|apply qay|apply qax|apply qar|apply qal|apply qaj|apply qap)<;>first|(apply qam;(repeat' first|assumption|exact qaa rfl|apply qaf rfl|apply qab);done)|exact qao _ _|exact qai _|exact qan _|exact qad|exact qag|exact qae|exact qac|exact qah _|exact qau _ (by omega)|exact qat (by omega)|exact qas (by omega)|exact rfl|assumption|apply qav)|((first|apply qa3|apply qaq|apply qak)<;>first|(apply qam;(repeat' first|assumption|exact qaa rfl|apply qaf rfl|apply qab);done)|exact qao _ _|exact qai _|exact qan _|exact qad|exact qag|exact qae|exact qac|exact qah _|exact qau _ (by omega)|exact qat (by omega)|exact qas (by omega)|exact rfl|assumption|apply qav)|(apply qa2 rfl rfl;(focus (repeat' first|assumption|exact qaa rfl|apply qaf rfl|apply qab);done))|(apply qbj rfl rfl;(focus (repeat' first|assumption|exact qaa rfl|apply qaf rfl|apply qab);done);exact rfl)))
          apply O_indexAddr_own
          · (focus first|(apply qam;(repeat' first|assumption|exact qaa rfl|apply qaf rfl|apply qab);done)|exact qao _ _|exact qai _|exact qan _|exact qad|exact qag|exact qae|exact qac|exact qah _)
          · exact r1
          · (focus first|(apply qam;(repeat' first|assumption|exact qaa rfl|apply qaf rfl|apply qab);done)|exact qao _ _|exact qai _|exact qan _|exact qad|exact qag|exact qae|exact qac|exact qah _)
          · omega
          · omega
          apply qcj
          · (focus first|(apply qam;(repeat' first|assumption|exact qaa rfl|apply qaf rfl|apply qab);done)|exact qao _ _|exact qai _|exact qan _|exact qad|exact qag|exact qae|exact qac|exact qah _)
          · (focus first|(apply qam;(repeat' first|assumption|exact qaa rfl|apply qaf rfl|apply qab);done)|exact qao _ _|exact qai _|exact qan _|exact qad|exact qag|exact qae|exact qac|exact qah _)
          · exact r1
          · have : off + w * 1 + 1 ≤ row.length := by omega
            simp [acells, ones, one]; omega
          intro h4 kb4 r5
          refine ⟨Undis.off rfl, ?_⟩
          (repeat (first|refine KW.go ?_|((first|apply qaw|apply qaz|apply qa1|apply qa4|apply qay|apply qax|apply qar|apply qal|apply qaj|apply qap)<;>first|(apply qam;(repeat' first|assumption|exact qaa rfl|apply qaf rfl|apply qab);done)|exact qao _ _|exact qai _|exact qan _|exact qad|exact qag|exact qae|exact qac|exact qah _|exact qau _ (by omega)|exact qat (by omega)|exact qas (by omega)|exact rfl|assumption|apply qav)|((first|apply qa3|apply qaq|apply qak)<;>first|(apply qam;(repeat' first|assumption|exact qaa rfl|apply qaf rfl|apply qab);done)|exact qao _ _|exact qai _|exact qan _|exact qad|exact qag|exact qae|exact qac|exact qah _|exact qau _ (by omega)|exact qat (by omega)|exact qas (by omega)|exact rfl|assumption|apply qav)|(apply qa2 rfl rfl;(focus (repeat' first|assumption|exact qaa rfl|apply qaf rfl|apply qab);done))|(apply qbj rfl rfl;(focus (repeat' first|assumption|exact qaa rfl|apply qaf rfl|apply qab);done);exact rfl)))
          apply qdg (l.length - (j + 1)) (by omega)
          have oc' := RowInts.splice r5 (by omega) r4 (by omega)
          rw [r2] at oc'
          refine ⟨w + 1, j + 1, cur.set w l[j], rfl, by omega, by omega, by (repeat' first|assumption|exact qaa rfl|apply qaf rfl|apply qab), by (repeat' first|assumption|exact qaa rfl|apply qaf rfl|apply qab), by (repeat' first|assumption|exact qaa rfl|apply qaf rfl|apply qab), by (repeat' first|assumption|exact qaa rfl|apply qaf rfl|apply qab), (kb.trans (kp2.but _)).trans kb4, oc', by simp [hcl], ?_, ?_⟩
          · rw [List.drop_set_of_lt (by omega), ← List.drop_drop (i := 1), hcd, List.drop_drop]
          · rw [List.take_succ_eq_append_getElem hlt, List.take_succ_eq_append_getElem (by simp; omega), List.take_set_of_le (by omega)]
            simp only [List.getElem_set_self]
            exact .keep hR hf
        · intro hb'
          have hb' : b = true := by simpa using hb'
          subst hb'
          (repeat (first|refine KW.go ?_|((first|apply qaw|apply qaz|apply qa1|apply qa4|apply qay|apply qax|apply qar|apply qal|apply qaj|apply qap)<;>first|(apply qam;(repeat' first|assumption|exact qaa rfl|apply qaf rfl|apply qab);done)|exact qao _ _|exact qai _|exact qan _|exact qad|exact qag|exact qae|exact qac|exact qah _|exact qau _ (by omega)|exact qat (by omega)|exact qas (by omega)|exact rfl|assumption|apply qav)|((first|apply qa3|apply qaq|apply qak)<;>first|(apply qam;(repeat' first|assumption|exact qaa rfl|apply qaf rfl|apply qab);done)|exact qao _ _|exact qai _|exact qan _|exact qad|exact qag|exact qae|exact qac|exact qah _|exact qau _ (by omega)|exact qat (by omega)|exact qas (by omega)|exact rfl|assumption|apply qav)|(apply qa2 rfl rfl;(focus (repeat' first|assumption|exact qaa rfl|apply qaf rfl|apply qab);done))|(apply qbj rfl rfl;(focus (repeat' first|assumption|exact qaa rfl|apply qaf rfl|apply qab);done);exact rfl)))
          apply qdg (l.length - (j + 1)) (by omega)
          refine ⟨w, j + 1, cur, rfl, by omega, by omega, by (repeat' first|assumption|exact qaa rfl|apply qaf rfl|apply qab), by (repeat' first|assumption|exact qaa rfl|apply qaf rfl|apply qab), by (repeat' first|assumption|exact qaa rfl|apply qaf rfl|apply qab), by (repeat' first|assumption|exact qaa rfl|apply qaf rfl|apply qab), kb.trans (kp2.but _), oc, hcl, ?_, ?_⟩
          · rw [← List.drop_drop (i := 1), hcd, List.drop_drop]
          · rw [List.take_succ_eq_append_getElem hlt]
            exact .drop hR hf
      · intro c
        have hge : ¬ j < l.length := by simpa using c
        have hj : j = l.length := by omega
        subst hj
        rw [List.take_length] at hf
        (repeat (first|refine KW.go ?_|((first|apply qaw|apply qaz|apply qa1|apply qa4|apply qay|apply qax|apply qar|apply qal|apply qaj|apply qap)<;>first|(apply qam;(repeat' first|assumption|exact qaa rfl|apply qaf rfl|apply qab);done)|exact qao _ _|exact qai _|exact qan _|exact qad|exact qag|exact qae|exact qac|exact qah _|exact qau _ (by omega)|exact qat (by omega)|exact qas (by omega)|exact rfl|assumption|apply qav)|((first|apply qa3|apply qaq|apply qak)<;>first|(apply qam;(repeat' first|assumption|exact qaa rfl|apply qaf rfl|apply qab);done)|exact qao _ _|exact qai _|exact qan _|exact qad|exact qag|exact qae|exact qac|exact qah _|exact qau _ (by omega)|exact qat (by omega)|exact qas (by omega)|exact rfl|assumption|apply qav)|(apply qa2 rfl rfl;(focus (repeat' first|assumption|exact qaa rfl|apply qaf rfl|apply qab);done))|(apply qbj rfl rfl;(focus (repeat' first|assumption|exact qaa rfl|apply qaf rfl|apply qab);done);exact rfl)))
        obtain ⟨row, r1, r2, r3, r4⟩ := oc
        apply O_slice_own (l := w) (u := l.length)
        · (focus first|(apply qam;(repeat' first|assumption|exact qaa rfl|apply qaf rfl|apply qab);done)|exact qao _ _|exact qai _|exact qan _|exact qad|exact qag|exact qae|exact qac|exact qah _)
        · exact r1
        · exact bounds_lo (by rw [Option.map_some]; congr 1; (focus first|(apply qam;(repeat' first|assumption|exact qaa rfl|apply qaf rfl|apply qab);done)|exact qao _ _|exact qai _|exact qan _|exact qad|exact qag|exact qae|exact qac|exact qah _)) (by omega)
        · omega
        apply O_clear_own
        · (focus first|(apply qam;(repeat' first|assumption|exact qaa rfl|apply qaf rfl|apply qab);done)|exact qao _ _|exact qai _|exact qan _|exact qad|exact qag|exact qae|exact qac|exact qah _)
        · exact r1
        · omega
        · rfl
        intro h4 row' kb4 r5 r6 r7
        refine ⟨Undis.off rfl, ?_⟩
        (repeat (first|refine KW.go ?_|((first|apply qaw|apply qaz|apply qa1|apply qa4|apply qay|apply qax|apply qar|apply qal|apply qaj|apply qap)<;>first|(apply qam;(repeat' first|assumption|exact qaa rfl|apply qaf rfl|apply qab);done)|exact qao _ _|exact qai _|exact qan _|exact qad|exact qag|exact qae|exact qac|exact qah _|exact qau _ (by omega)|exact qat (by omega)|exact qas (by omega)|exact rfl|assumption|apply qav)|((first|apply qa3|apply qaq|apply qak)<;>first|(apply qam;(repeat' first|assumption|exact qaa rfl|apply qaf rfl|apply qab);done)|exact qao _ _|exact qai _|exact qan _|exact qad|exact qag|exact qae|exact qac|exact qah _|exact qau _ (by omega)|exact qat (by omega)|exact qas (by omega)|exact rfl|assumption|apply qav)|(apply qa2 rfl rfl;(focus (repeat' first|assumption|exact qaa rfl|apply qaf rfl|apply qab);done))|(apply qbj rfl rfl;(focus (repeat' first|assumption|exact qaa rfl|apply qaf rfl|apply qab);done);exact rfl)))
        apply O_slice_own (l := 0) (u := w)
        · (focus first|(apply qam;(repeat' first|assumption|exact qaa rfl|apply qaf rfl|apply qab);done)|exact qao _ _|exact qai _|exact qan _|exact qad|exact qag|exact qae|exact qac|exact qah _)
        · exact r5
        · exact bounds_hi (by rw [Option.map_some]; congr 1; (focus first|(apply qam;(repeat' first|assumption|exact qaa rfl|apply qaf rfl|apply qab);done)|exact qao _ _|exact qai _|exact qan _|exact qad|exact qag|exact qae|exact qac|exact qah _)) (by omega)
        · omega
        (repeat (first|refine KW.go ?_|((first|apply qaw|apply qaz|apply qa1|apply qa4|apply qay|apply qax|apply qar|apply qal|apply qaj|apply qap)<;>first|(apply qam;(repeat' first|assumption|exact qaa rfl|apply qaf rfl|apply qab);done)|exact qao _ _|exact qai _|exact qan _|exact qad|exact qag|exact qae|exact qac|exact qah _|exact qau _ (by omega)|exact qat (by omega)|exact qas (by omega)|exact rfl|assumption|apply qav)|((first|apply qa3|apply qaq|apply qak)<;>first|(apply qam;(repeat' first|assumption|exact qaa rfl|apply qaf rfl|apply qab);done)|exact qao _ _|exact qai _|exact qan _|exact qad|exact qag|exact qae|exact qac|exact qah _|exact qau _ (by omega)|exact qat (by omega)|exact qas (by omega)|exact rfl|assumption|apply qav)|(apply qa2 rfl rfl;(focus (repeat' first|assumption|exact qaa rfl|apply qaf rfl|apply qab);done))|(apply qbj rfl rfl;(focus (repeat' first|assumption|exact qaa rfl|apply qaf rfl|apply qab);done);exact rfl)))
        (apply qbl rfl; (repeat' first|assumption|exact qaa rfl|apply qaf rfl|apply qab))
        refine ⟨kb.trans kb4, cur.take w, ?_, hf, row', r5, by omega, by simp; omega, ?_⟩
        · simp; omega
        · have h5 : ints (cur.take w) = (ints cur).take w := by simp [ints, List.map_take]
          rw [h5, ← r4, List.take_take, List.length_take, Nat.min_eq_left (by omega)]
          have h6 : (row'.take (off + w)) = row.take (off + w) := by simpa using r7
          have h7 : ∀ l : List AV, (l.drop off).take w = (l.take (off + w)).drop off := fun l => by rw [List.drop_take]; congr 1; omega
          rw [h7, h7, h6]
end Go.Am
namespace Go.Am
open Go Go.Proofs AM
set_option maxRecDepth 10000
variable {pol : Pol} {sums : Sums}
attribute [local irreducible] KSeq KMid KBlock KLoop KOps KFunc Runs qb9 qbn qdl aop qbt qbq qbv qbv? qbd qbw qa9

/-! ### MinFunc, Clone -/
def minZ (cmp : Int → Int → Int) : Int → List Int → Int := fun a l => l.foldl (fun m e => if cmp e m < 0 then e else m) a
theorem minZ_mem (cmp : Int → Int → Int) : ∀ (l : List Int) (a : Int), minZ cmp a l = a ∨ minZ cmp a l ∈ l
  | [], a => .inl rfl
  | e :: l, a => by
    have : minZ cmp a (e :: l) = minZ cmp (if cmp e a < 0 then e else a) l := rfl
    rw [this]
    rcases minZ_mem cmp l (if cmp e a < 0 then e else a) with h | h
    · rw [h]; split
      · exact .inr List.mem_cons_self
      · exact .inl rfl
    · exact .inr (List.mem_cons_of_mem _ h)
theorem minFunc_spec (hs : sums 52 = none) {n : Nat} (F : AV) (cmp : Int → Int → Int) {h : Hp} {s : AV} {a : Int} {l : List Int} (hn : l.length + 3 ≤ n) (o : Ints h s (a :: l)) (hb : l.length < 2 ^ 60)
    (hF : ∀ m h1, n ≤ m + 1 → Keep h h1 → ∀ e ∈ a :: l, ∀ e' ∈ a :: l, Runs (qbt Try.prog pol sums m F [.int .i64 e, .int .i64 e']) h1 fun v h2 => Keep h1 h2 ∧ v = .int .i64 (cmp e e')) :
    Runs (qbt Try.prog pol sums n (.func (.func 52) [] []) [s, F]) h (fun v h' => Keep h h' ∧ v = .int .i64 (minZ cmp a l)) := by
  obtain ⟨n, rfl⟩ : ∃ m, n = m + 1 := ⟨n - 1, by omega⟩
  refine qcq (by assumption) Try.func52 rfl (by simp [Try.f52]) ?_
  have a0 : qbq (qa9 Try.f52.ntmps (([] ++ [s, F] ++ []) : List AV)) 0 = s := qa8 rfl
  have a1 : qbq (qa9 Try.f52.ntmps (([] ++ [s, F] ++ []) : List AV)) 1 = F := qa8 rfl
  generalize qa9 Try.f52.ntmps (([] ++ [s, F] ++ []) : List AV) = T at *
  show Runs (qbn _ _ _ _ 33 _ _ _) _ _
  (repeat (first|refine KW.go ?_|((first|apply qaw|apply qaz|apply qa1|apply qa4|apply qay|apply qax|apply qar|apply qal|apply qaj|apply qap)<;>first|(apply qam;(repeat' first|assumption|exact qaa rfl|apply qaf rfl|apply qab);done)|exact qao _ _|exact qai _|exact qan _|exact qad|exact qag|exact qae|exact qac|exact qah _|exact qau _ (by omega)|exact qat (by omega)|exact qas (by omega)|exact rfl|assumption|apply qav)|((first|apply qa3|apply qaq|apply qak)<;>first|(apply qam;(repeat' first|assumption|exact qaa rfl|apply qaf rfl|apply qab);done)|exact qao _ _|exact qai _|exact qan _|exact qad|exact qag|exact qae|exact qac|exact qah _|exact qau _ (by omega)|exact qat (by omega)|exact qas (by omega)|exact rfl|assumption|apply qav)|(apply qa2 rfl rfl;(focus (repeat' first|assumption|exact qaa rfl|apply qaf rfl|apply qab);done))|(apply qbj rfl rfl;(focus (repeat' first|assumption|exact qaa rfl|apply qaf rfl|apply qab);done);exact rfl)))
  apply qbx (decide (((a :: l).length : Int) < 1))
  · (focus first|(apply qam;(repeat' first|assumption|exact qaa rfl|apply qaf rfl|apply qab);done)|exact qao _ _|exact qai _|exact qan _|exact qad|exact qag|exact qae|exact qac|exact qah _)
  · intro c; simp at c; omega
  intro _
  (repeat (first|refine KW.go ?_|((first|apply qaw|apply qaz|apply qa1|apply qa4|apply qay|apply qax|apply qar|apply qal|apply qaj|apply qap)<;>first|(apply qam;(repeat' first|assumption|exact qaa rfl|apply qaf rfl|apply qab);done)|exact qao _ _|exact qai _|exact qan _|exact qad|exact qag|exact qae|exact qac|exact qah _|exact qau _ (by omega)|exact qat (by omega)|exact qas (by omega)|exact rfl|assumption|apply qav)|((first|apply qa3|apply qaq|apply qak)<;>first|(apply qam;(repeat' first|assumption|exact qaa rfl|apply qaf rfl|apply qab);done)|exact qao _ _|exact qai _|exact qan _|exact qad|exact qag|exact qae|exact qac|exact qah _|exact qau _ (by omega)|exact qat (by omega)|exact qas (by omega)|exact rfl|assumption|apply qav)|(apply qa2 rfl rfl;(focus (repeat' first|assumption|exact qaa rfl|apply qaf rfl|apply qab);done))|(apply qbj rfl rfl;(focus (repeat' first|assumption|exact qaa rfl|apply qaf rfl|apply qab);done);exact rfl)))
  apply qbp (j := 0)
  · (focus first|(apply qam;(repeat' first|assumption|exact qaa rfl|apply qaf rfl|apply qab);done)|exact qao _ _|exact qai _|exact qan _|exact qad|exact qag|exact qae|exact qac|exact qah _)
  · exact o
  · (focus first|(apply qam;(repeat' first|assumption|exact qaa rfl|apply qaf rfl|apply qab);done)|exact qao _ _|exact qai _|exact qan _|exact qad|exact qag|exact qae|exact qac|exact qah _)
  · simp
  · rfl
  intro p hp' _
  rw [ints_at (l := a :: l) (i := 0) (by simp)] at hp'
  apply qce
  · (focus first|(apply qam;(repeat' first|assumption|exact qaa rfl|apply qaf rfl|apply qab);done)|exact qao _ _|exact qai _|exact qan _|exact qad|exact qag|exact qae|exact qac|exact qah _)
  · exact hp'
  (repeat (first|refine KW.go ?_|((first|apply qaw|apply qaz|apply qa1|apply qa4|apply qay|apply qax|apply qar|apply qal|apply qaj|apply qap)<;>first|(apply qam;(repeat' first|assumption|exact qaa rfl|apply qaf rfl|apply qab);done)|exact qao _ _|exact qai _|exact qan _|exact qad|exact qag|exact qae|exact qac|exact qah _|exact qau _ (by omega)|exact qat (by omega)|exact qas (by omega)|exact rfl|assumption|apply qav)|((first|apply qa3|apply qaq|apply qak)<;>first|(apply qam;(repeat' first|assumption|exact qaa rfl|apply qaf rfl|apply qab);done)|exact qao _ _|exact qai _|exact qan _|exact qad|exact qag|exact qae|exact qac|exact qah _|exact qau _ (by omega)|exact qat (by omega)|exact qas (by omega)|exact rfl|assumption|apply qav)|(apply qa2 rfl rfl;(focus (repeat' first|assumption|exact qaa rfl|apply qaf rfl|apply qab);done))|(apply qbj rfl rfl;(focus (repeat' first|assumption|exact qaa rfl|apply qaf rfl|apply qab);done);exact rfl)))
  apply R_loop (k := l.length) (I := fun k T g => ∃ i, k = l.length - i ∧ i ≤ l.length ∧ qbq T 0 = s ∧ qbq T 1 = F ∧ qbq T 5 = .int .i64 (minZ cmp a (l.take i)) ∧ qbq T 6 = .int .i64 ((i + 1 : Nat) : Int) ∧ Keep h g)
  · omega
  · exact ⟨0, by omega, by omega, by (repeat' first|assumption|exact qaa rfl|apply qaf rfl|apply qab), by (repeat' first|assumption|exact qaa rfl|apply qaf rfl|apply qab), by (repeat' first|assumption|exact qaa rfl|apply qaf rfl|apply qab), by (repeat' first|assumption|exact qaa rfl|apply qaf rfl|apply qab), Keep.refl _⟩
  · rintro k T g ⟨i, rfl, hi, t0, t1, t5, t6, kp⟩
    have o1 := o.keep kp
    (repeat (first|refine KW.go ?_|((first|apply qaw|apply qaz|apply qa1|apply qa4|apply qay|apply qax|apply qar|apply qal|apply qaj|apply qap)<;>first|(apply qam;(repeat' first|assumption|exact qaa rfl|apply qaf rfl|apply qab);done)|exact qao _ _|exact qai _|exact qan _|exact qad|exact qag|exact qae|exact qac|exact qah _|exact qau _ (by omega)|exact qat (by omega)|exact qas (by omega)|exact rfl|assumption|apply qav)|((first|apply qa3|apply qaq|apply qak)<;>first|(apply qam;(repeat' first|assumption|exact qaa rfl|apply qaf rfl|apply qab);done)|exact qao _ _|exact qai _|exact qan _|exact qad|exact qag|exact qae|exact qac|exact qah _|exact qau _ (by omega)|exact qat (by omega)|exact qas (by omega)|exact rfl|assumption|apply qav)|(apply qa2 rfl rfl;(focus (repeat' first|assumption|exact qaa rfl|apply qaf rfl|apply qab);done))|(apply qbj rfl rfl;(focus (repeat' first|assumption|exact qaa rfl|apply qaf rfl|apply qab);done);exact rfl)))
    apply qbx (decide (((i + 1 : Nat) : Int) < ((a :: l).length : Int)))
    · (focus first|(apply qam;(repeat' first|assumption|exact qaa rfl|apply qaf rfl|apply qab);done)|exact qao _ _|exact qai _|exact qan _|exact qad|exact qag|exact qae|exact qac|exact qah _)
    · intro c
      have hlt : i < l.length := by simp at c; omega
      (repeat (first|refine KW.go ?_|((first|apply qaw|apply qaz|apply qa1|apply qa4|apply qay|apply qax|apply qar|apply qal|apply qaj|apply qap)<;>first|(apply qam;(repeat' first|assumption|exact qaa rfl|apply qaf rfl|apply qab);done)|exact qao _ _|exact qai _|exact qan _|exact qad|exact qag|exact qae|exact qac|exact qah _|exact qau _ (by omega)|exact qat (by omega)|exact qas (by omega)|exact rfl|assumption|apply qav)|((first|apply qa3|apply qaq|apply qak)<;>first|(apply qam;(repeat' first|assumption|exact qaa rfl|apply qaf rfl|apply qab);done)|exact qao _ _|exact qai _|exact qan _|exact qad|exact qag|exact qae|exact qac|exact qah _|exact qau _ (by omega)|exact qat (by omega)|exact qas (by omega)|exact rfl|assumption|apply qav)|(apply qa2 rfl rfl;(focus (repeat' first|assumption|exact qaa rfl|apply qaf rfl|apply qab);done))|(apply qbj rfl rfl;(focus (repeat' first|assumption|exact qaa rfl|apply qaf rfl|apply qab);done);exact rfl)))
      apply qbp
      · (focus first|(apply qam;(repeat' first|assumption|exact qaa rfl|apply qaf rfl|apply qab);done)|exact qao _ _|exact qai _|exact qan _|exact qad|exact qag|exact qae|exact qac|exact qah _)
      · exact o1
      · (focus first|(apply qam;(repeat' first|assumption|exact qaa rfl|apply qaf rfl|apply qab);done)|exact qao _ _|exact qai _|exact qan _|exact qad|exact qag|exact qae|exact qac|exact qah _)
      · simp; omega
      · rfl
      intro p hp' _
      rw [ints_at (l := a :: l) (i := i + 1) (by simp; omega)] at hp'
      simp only [List.getElem_cons_succ] at hp'
      apply qce
      · (focus first|(apply qam;(repeat' first|assumption|exact qaa rfl|apply qaf rfl|apply qab);done)|exact qao _ _|exact qai _|exact qan _|exact qad|exact qag|exact qae|exact qac|exact qah _)
      · exact hp'
      (repeat (first|refine KW.go ?_|((first|apply qaw|apply qaz|apply qa1|apply qa4|apply qay|apply qax|apply qar|apply qal|apply qaj|apply qap)<;>first|(apply qam;(repeat' first|assumption|exact qaa rfl|apply qaf rfl|apply qab);done)|exact qao _ _|exact qai _|exact qan _|exact qad|exact qag|exact qae|exact qac|exact qah _|exact qau _ (by omega)|exact qat (by omega)|exact qas (by omega)|exact rfl|assumption|apply qav)|((first|apply qa3|apply qaq|apply qak)<;>first|(apply qam;(repeat' first|assumption|exact qaa rfl|apply qaf rfl|apply qab);done)|exact qao _ _|exact qai _|exact qan _|exact qad|exact qag|exact qae|exact qac|exact qah _|exact qau _ (by omega)|exact qat (by omega)|exact qas (by omega)|exact rfl|assumption|apply qav)|(apply qa2 rfl rfl;(focus (repeat' first|assumption|exact qaa rfl|apply qaf rfl|apply qab);done))|(apply qbj rfl rfl;(focus (repeat' first|assumption|exact qaa rfl|apply qaf rfl|apply qab);done);exact rfl)))
      have hst : minZ cmp a (l.take (i + 1)) = if cmp l[i] (minZ cmp a (l.take i)) < 0 then l[i] else minZ cmp a (l.take i) := by
        rw [List.take_succ_eq_append_getElem hlt]; simp only [minZ, List.foldl_append, List.foldl_cons, List.foldl_nil]; rfl
      have hm : minZ cmp a (l.take i) ∈ a :: l := by
        rcases minZ_mem cmp (l.take i) a with h | h
        · rw [h]; exact List.mem_cons_self
        · exact List.mem_cons_of_mem _ (List.mem_of_mem_take h)
      (apply qb5; (focus first|(apply qam;(repeat' first|assumption|exact qaa rfl|apply qaf rfl|apply qab);done)|exact qao _ _|exact qai _|exact qan _|exact qad|exact qag|exact qae|exact qac|exact qah _); (repeat (apply qbb; (focus first|(apply qam;(repeat' first|assumption|exact qaa rfl|apply qaf rfl|apply qab);done)|exact qao _ _|exact qai _|exact qan _|exact qad|exact qag|exact qae|exact qac|exact qah _))); exact qbi)
      refine (hF n g (by omega) kp l[i] (List.mem_cons_of_mem _ (List.getElem_mem hlt)) _ hm).mono ?_
      rintro v g2 ⟨k2, rfl⟩
      refine ⟨k2.undis, ?_⟩
      have o2 := o1.keep k2
      (repeat (first|refine KW.go ?_|((first|apply qaw|apply qaz|apply qa1|apply qa4|apply qay|apply qax|apply qar|apply qal|apply qaj|apply qap)<;>first|(apply qam;(repeat' first|assumption|exact qaa rfl|apply qaf rfl|apply qab);done)|exact qao _ _|exact qai _|exact qan _|exact qad|exact qag|exact qae|exact qac|exact qah _|exact qau _ (by omega)|exact qat (by omega)|exact qas (by omega)|exact rfl|assumption|apply qav)|((first|apply qa3|apply qaq|apply qak)<;>first|(apply qam;(repeat' first|assumption|exact qaa rfl|apply qaf rfl|apply qab);done)|exact qao _ _|exact qai _|exact qan _|exact qad|exact qag|exact qae|exact qac|exact qah _|exact qau _ (by omega)|exact qat (by omega)|exact qas (by omega)|exact rfl|assumption|apply qav)|(apply qa2 rfl rfl;(focus (repeat' first|assumption|exact qaa rfl|apply qaf rfl|apply qab);done))|(apply qbj rfl rfl;(focus (repeat' first|assumption|exact qaa rfl|apply qaf rfl|apply qab);done);exact rfl)))
      apply qbx (decide (cmp l[i] (minZ cmp a (l.take i)) < 0))
      · (focus first|(apply qam;(repeat' first|assumption|exact qaa rfl|apply qaf rfl|apply qab);done)|exact qao _ _|exact qai _|exact qan _|exact qad|exact qag|exact qae|exact qac|exact qah _)
      · intro c
        have c : cmp l[i] (minZ cmp a (l.take i)) < 0 := by simpa using c
        (repeat (first|refine KW.go ?_|((first|apply qaw|apply qaz|apply qa1|apply qa4|apply qay|apply qax|apply qar|apply qal|apply qaj|apply qap)<;>first|(apply qam;(repeat' first|assumption|exact qaa rfl|apply qaf rfl|apply qab);done)|exact qao _ _|exact qai _|exact qan _|exact qad|exact qag|exact qae|exact qac|exact qah _|exact qau _ (by omega)|exact qat (by omega)|exact qas (by omega)|exact rfl|assumption|apply qav)|((first|apply qa3|apply qaq|apply qak)<;>first|(apply qam;(repeat' first|assumption|exact qaa rfl|apply qaf rfl|apply qab);done)|exact qao _ _|exact qai _|exact qan _|exact qad|exact qag|exact qae|exact qac|exact qah _|exact qau _ (by omega)|exact qat (by omega)|exact qas (by omega)|exact rfl|assumption|apply qav)|(apply qa2 rfl rfl;(focus (repeat' first|assumption|exact qaa rfl|apply qaf rfl|apply qab);done))|(apply qbj rfl rfl;(focus (repeat' first|assumption|exact qaa rfl|apply qaf rfl|apply qab);done);exact rfl)))
        apply qbp
        · (focus first|(apply qam;(repeat' first|assumption|exact qaa rfl|apply qaf rfl|apply qab);done)|exact qao _ _|exact qai _|exact qan _|exact qad|exact qag|exact qae|exact qac|exact qah _)
        · exact o2
        · (focus first|(apply qam;(repeat' first|assumption|exact qaa rfl|apply qaf rfl|apply qab);done)|exact qao _ _|exact qai _|exact qan _|exact qad|exact qag|exact qae|exact qac|exact qah _)
        · simp; omega
        · rfl
        intro p hp' _
        rw [ints_at (l := a :: l) (i := i + 1) (by simp; omega)] at hp'
        simp only [List.getElem_cons_succ] at hp'
        apply qce
        · (focus first|(apply qam;(repeat' first|assumption|exact qaa rfl|apply qaf rfl|apply qab);done)|exact qao _ _|exact qai _|exact qan _|exact qad|exact qag|exact qae|exact qac|exact qah _)
        · exact hp'
        (repeat (first|refine KW.go ?_|((first|apply qaw|apply qaz|apply qa1|apply qa4|apply qay|apply qax|apply qar|apply qal|apply qaj|apply qap)<;>first|(apply qam;(repeat' first|assumption|exact qaa rfl|apply qaf rfl|apply qab);done)|exact qao _ _|exact qai _|exact qan _|exact qad|exact qag|exact qae|exact qac|exact qah _|exact qau _ (by omega)|exact qat (by omega)|exact qas (by omega)|exact rfl|assumption|apply qav)|((first|apply qa3|apply qaq|apply qak)<;>first|(apply qam;(repeat' first|assumption|exact qaa rfl|apply qaf rfl|apply qab);done)|exact qao _ _|exact qai _|exact qan _|exact qad|exact qag|exact qae|exact qac|exact qah _|exact qau _ (by omega)|exact qat (by omega)|exact qas (by omega)|exact rfl|assumption|apply qav)|(apply qa2 rfl rfl;(focus (repeat' first|assumption|exact qaa rfl|apply qaf rfl|apply qab);done))|(apply qbj rfl rfl;(focus (repeat' first|assumption|exact qaa rfl|apply qaf rfl|apply qab);done);exact rfl)))
        apply qdg (l.length - (i + 1)) (by omega)
        refine ⟨i + 1, rfl, by omega, by (repeat' first|assumption|exact qaa rfl|apply qaf rfl|apply qab), by (repeat' first|assumption|exact qaa rfl|apply qaf rfl|apply qab), ?_, by (repeat' first|assumption|exact qaa rfl|apply qaf rfl|apply qab), kp.trans k2⟩
        rw [hst, if_pos c]; (repeat' first|assumption|exact qaa rfl|apply qaf rfl|apply qab)
      · intro c
        have c : ¬ cmp l[i] (minZ cmp a (l.take i)) < 0 := by simpa using c
        (repeat (first|refine KW.go ?_|((first|apply qaw|apply qaz|apply qa1|apply qa4|apply qay|apply qax|apply qar|apply qal|apply qaj|apply qap)<;>first|(apply qam;(repeat' first|assumption|exact qaa rfl|apply qaf rfl|apply qab);done)|exact qao _ _|exact qai _|exact qan _|exact qad|exact qag|exact qae|exact qac|exact qah _|exact qau _ (by omega)|exact qat (by omega)|exact qas (by omega)|exact rfl|assumption|apply qav)|((first|apply qa3|apply qaq|apply qak)<;>first|(apply qam;(repeat' first|assumption|exact qaa rfl|apply qaf rfl|apply qab);done)|exact qao _ _|exact qai _|exact qan _|exact qad|exact qag|exact qae|exact qac|exact qah _|exact qau _ (by omega)|exact qat (by omega)|exact qas (by omega)|exact rfl|assumption|apply qav)|(apply qa2 rfl rfl;(focus (repeat' first|assumption|exact qaa rfl|apply qaf rfl|apply qab);done))|(apply qbj rfl rfl;(focus (repeat' first|assumption|exact qaa rfl|apply qaf rfl|apply qab);done);exact rfl)))
        apply qdg (l.length - (i + 1)) (by omega)
        refine ⟨i + 1, rfl, by omega, by (repeat' first|assumption|exact qaa rfl|apply qaf rfl|apply qab), by (repeat' first|assumption|exact qaa rfl|apply qaf rfl|apply qab), ?_, by (repeat' first|assumption|exact qaa rfl|apply qaf rfl|apply qab), kp.trans k2⟩
        rw [hst, if_neg c]; (repeat' first|assumption|exact qaa rfl|apply qaf rfl|apply qab)
    · intro c
      have : i = l.length := by simp at c; omega
      subst this
      rw [List.take_length] at t5
      (repeat (first|refine KW.go ?_|((first|apply qaw|apply qaz|apply qa1|apply qa4|apply qay|apply qax|apply qar|apply qal|apply qaj|apply qap)<;>first|(apply qam;(repeat' first|assumption|exact qaa rfl|apply qaf rfl|apply qab);done)|exact qao _ _|exact qai _|exact qan _|exact qad|exact qag|exact qae|exact qac|exact qah _|exact qau _ (by omega)|exact qat (by omega)|exact qas (by omega)|exact rfl|assumption|apply qav)|((first|apply qa3|apply qaq|apply qak)<;>first|(apply qam;(repeat' first|assumption|exact qaa rfl|apply qaf rfl|apply qab);done)|exact qao _ _|exact qai _|exact qan _|exact qad|exact qag|exact qae|exact qac|exact qah _|exact qau _ (by omega)|exact qat (by omega)|exact qas (by omega)|exact rfl|assumption|apply qav)|(apply qa2 rfl rfl;(focus (repeat' first|assumption|exact qaa rfl|apply qaf rfl|apply qab);done))|(apply qbj rfl rfl;(focus (repeat' first|assumption|exact qaa rfl|apply qaf rfl|apply qab);done);exact rfl)))
      (apply qbl rfl; (repeat' first|assumption|exact qaa rfl|apply qaf rfl|apply qab))
      exact ⟨kp, rfl⟩

theorem SlV.explicit {h : Hp} {sz n : Nat} {v : AV} {c : List AV} (s : SlV h sz v n c) (hv : qb1 v ≠ []) (hg : qdh v = true) : ∃ id ver fix row, v = .own id ver 0 n ∧ Row h id ver sz row fix ∧ n * sz ≤ row.length ∧ row.take (n * sz) = c := by
  cases s with
  | imm k n c e => exact absurd rfl hv
  | own id ver off n row fix r e =>
    have h0 : off = 0 := by simpa [qdh] using hg
    subst h0
    exact ⟨id, ver, fix, row, rfl, r, by omega, by simp⟩
theorem SlV.rowInts {h : Hp} {v : AV} {l : List Int} (s : Ints h v l) (hv : qb1 v ≠ []) (hg : qdh v = true) : ∃ id ver fix len, v = .own id ver 0 l.length ∧ RowInts h id ver 0 fix len l := by
  obtain ⟨id, ver, fix, row, rfl, r, h1, h2⟩ := s.explicit hv hg
  exact ⟨id, ver, fix, row.length, rfl, row, r, rfl, by omega, by simpa using h2⟩

theorem clone_spec (hp : ∀ f d, pol.lit f d = false) (hs : sums 18 = none) {n : Nat} (hn : 1 ≤ n) {h : Hp} {id ver len : Nat} {fix : Bool} {l : List Int} (o : RowInts h id ver 0 fix len l) (hl : l ≠ []) (hb : l.length < 2 ^ 40) :
    Runs (qbt Try.prog pol sums n (.func (.func 18) [] []) [.own id ver 0 l.length]) h (fun v h' => Keep h h' ∧ ∃ id' ver' fix' len', v = .own id' ver' 0 l.length ∧ h.next ≤ id' ∧ RowInts h' id' ver' 0 fix' len' l) := by
  obtain ⟨n, rfl⟩ : ∃ m, n = m + 1 := ⟨n - 1, by omega⟩
  refine qcq (by assumption) Try.func18 rfl (by simp [Try.f18]) ?_
  have a0 : qbq (qa9 Try.f18.ntmps (([] ++ [.own id ver 0 l.length] ++ []) : List AV)) 0 = .own id ver 0 l.length := qa8 rfl
  generalize qa9 Try.f18.ntmps (([] ++ [.own id ver 0 l.length] ++ []) : List AV) = T at *
  show Runs (qbn _ _ _ _ 8 _ _ _) _ _
  (repeat (first|refine KW.go ?_|((first|apply qaw|apply qaz|apply qa1|apply qa4|apply qay|apply qax|apply qar|apply qal|apply qaj|apply qap)<;>first|(apply qam;(repeat' first|assumption|exact qaa rfl|apply qaf rfl|apply qab);done)|exact qao _ _|exact qai _|exact qan _|exact qad|exact qag|exact qae|exact qac|exact qah _|exact qau _ (by omega)|exact qat (by omega)|exact qas (by omega)|exact rfl|assumption|apply qav)|((first|apply qa3|apply qaq|apply qak)<;>first|(apply qam;(repeat' first|assumption|exact qaa rfl|apply qaf rfl|apply qab);done)|exact qao _ _|exact qai _|exact qan _|exact qad|exact qag|exact qae|exact qac|exact qah _|exact qau _ (by omega)|exact qat (by omega)|exact qas (by omega)|exact rfl|assumption|apply qav)|(apply qa2 rfl rfl;(focus (repeat' first|assumption|exact qaa rfl|apply qaf rfl|apply qab);done))|(apply qbj rfl rfl;(focus (repeat' first|assumption|exact qaa rfl|apply qaf rfl|apply qab);done);exact rfl)))
  obtain ⟨row, r1, r2⟩ := o
  apply O_eqNil
  · (focus first|(apply qam;(repeat' first|assumption|exact qaa rfl|apply qaf rfl|apply qab);done)|exact qao _ _|exact qai _|exact qan _|exact qad|exact qag|exact qae|exact qac|exact qah _)
  · (focus first|(apply qam;(repeat' first|assumption|exact qaa rfl|apply qaf rfl|apply qab);done)|exact qao _ _|exact qai _|exact qan _|exact qad|exact qag|exact qae|exact qac|exact qah _)
  · exact .inl ⟨rfl, rfl⟩
  · exact .inl ⟨_, _, _, _, _, _, _, rfl, r1, rfl⟩
  (repeat (first|refine KW.go ?_|((first|apply qaw|apply qaz|apply qa1|apply qa4|apply qay|apply qax|apply qar|apply qal|apply qaj|apply qap)<;>first|(apply qam;(repeat' first|assumption|exact qaa rfl|apply qaf rfl|apply qab);done)|exact qao _ _|exact qai _|exact qan _|exact qad|exact qag|exact qae|exact qac|exact qah _|exact qau _ (by omega)|exact qat (by omega)|exact qas (by omega)|exact rfl|assumption|apply qav)|((first|apply qa3|apply qaq|apply qak)<;>first|(apply qam;(repeat' first|assumption|exact qaa rfl|apply qaf rfl|apply qab);done)|exact qao _ _|exact qai _|exact qan _|exact qad|exact qag|exact qae|exact qac|exact qah _|exact qau _ (by omega)|exact qat (by omega)|exact qas (by omega)|exact rfl|assumption|apply qav)|(apply qa2 rfl rfl;(focus (repeat' first|assumption|exact qaa rfl|apply qaf rfl|apply qab);done))|(apply qbj rfl rfl;(focus (repeat' first|assumption|exact qaa rfl|apply qaf rfl|apply qab);done);exact rfl)))
  apply qbx false
  · (focus first|(apply qam;(repeat' first|assumption|exact qaa rfl|apply qaf rfl|apply qab);done)|exact qao _ _|exact qai _|exact qan _|exact qad|exact qag|exact qae|exact qac|exact qah _)
  · intro c; cases c
  intro _
  (repeat (first|refine KW.go ?_|((first|apply qaw|apply qaz|apply qa1|apply qa4|apply qay|apply qax|apply qar|apply qal|apply qaj|apply qap)<;>first|(apply qam;(repeat' first|assumption|exact qaa rfl|apply qaf rfl|apply qab);done)|exact qao _ _|exact qai _|exact qan _|exact qad|exact qag|exact qae|exact qac|exact qah _|exact qau _ (by omega)|exact qat (by omega)|exact qas (by omega)|exact rfl|assumption|apply qav)|((first|apply qa3|apply qaq|apply qak)<;>first|(apply qam;(repeat' first|assumption|exact qaa rfl|apply qaf rfl|apply qab);done)|exact qao _ _|exact qai _|exact qan _|exact qad|exact qag|exact qae|exact qac|exact qah _|exact qau _ (by omega)|exact qat (by omega)|exact qas (by omega)|exact rfl|assumption|apply qav)|(apply qa2 rfl rfl;(focus (repeat' first|assumption|exact qaa rfl|apply qaf rfl|apply qab);done))|(apply qbj rfl rfl;(focus (repeat' first|assumption|exact qaa rfl|apply qaf rfl|apply qab);done);exact rfl)))
  apply qcb
  · exact qcc
  · rfl
  · rfl
  · exact hp _ _
  intro _
  (repeat (first|refine KW.go ?_|((first|apply qaw|apply qaz|apply qa1|apply qa4|apply qay|apply qax|apply qar|apply qal|apply qaj|apply qap)<;>first|(apply qam;(repeat' first|assumption|exact qaa rfl|apply qaf rfl|apply qab);done)|exact qao _ _|exact qai _|exact qan _|exact qad|exact qag|exact qae|exact qac|exact qah _|exact qau _ (by omega)|exact qat (by omega)|exact qas (by omega)|exact rfl|assumption|apply qav)|((first|apply qa3|apply qaq|apply qak)<;>first|(apply qam;(repeat' first|assumption|exact qaa rfl|apply qaf rfl|apply qab);done)|exact qao _ _|exact qai _|exact qan _|exact qad|exact qag|exact qae|exact qac|exact qah _|exact qau _ (by omega)|exact qat (by omega)|exact qas (by omega)|exact rfl|assumption|apply qav)|(apply qa2 rfl rfl;(focus (repeat' first|assumption|exact qaa rfl|apply qaf rfl|apply qab);done))|(apply qbj rfl rfl;(focus (repeat' first|assumption|exact qaa rfl|apply qaf rfl|apply qab);done);exact rfl)))
  apply O_append (new := ints l) (m := l.length) (bytes := 8)
  · exact qbb (by (focus first|(apply qam;(repeat' first|assumption|exact qaa rfl|apply qaf rfl|apply qab);done)|exact qao _ _|exact qai _|exact qan _|exact qad|exact qag|exact qae|exact qac|exact qah _)) (qbb (by (focus first|(apply qam;(repeat' first|assumption|exact qaa rfl|apply qaf rfl|apply qab);done)|exact qao _ _|exact qai _|exact qan _|exact qad|exact qag|exact qae|exact qac|exact qah _)) qbi)
  · exact SlV.imm _ _ _ rfl
  · rfl
  · exact RowInts.slv ⟨row, r1, r2⟩
  · exact ints_ones l
  · rfl
  · simp only [room]; omega
  intro v g kb s g1 kv hv
  have k : Keep h g := kb.none fun i hi => by cases hi
  refine ⟨k.undis, ?_⟩
  have hlp : 0 < l.length := List.length_pos_iff.2 hl
  have s' : Ints g v l := by
    have : SlV g 1 v (0 + l.length) ([] ++ ints l) := s
    simpa using this
  obtain ⟨id', ver', fix', len', rfl, ro⟩ := s'.rowInts (hv hlp) g1
  (repeat (first|refine KW.go ?_|((first|apply qaw|apply qaz|apply qa1|apply qa4|apply qay|apply qax|apply qar|apply qal|apply qaj|apply qap)<;>first|(apply qam;(repeat' first|assumption|exact qaa rfl|apply qaf rfl|apply qab);done)|exact qao _ _|exact qai _|exact qan _|exact qad|exact qag|exact qae|exact qac|exact qah _|exact qau _ (by omega)|exact qat (by omega)|exact qas (by omega)|exact rfl|assumption|apply qav)|((first|apply qa3|apply qaq|apply qak)<;>first|(apply qam;(repeat' first|assumption|exact qaa rfl|apply qaf rfl|apply qab);done)|exact qao _ _|exact qai _|exact qan _|exact qad|exact qag|exact qae|exact qac|exact qah _|exact qau _ (by omega)|exact qat (by omega)|exact qas (by omega)|exact rfl|assumption|apply qav)|(apply qa2 rfl rfl;(focus (repeat' first|assumption|exact qaa rfl|apply qaf rfl|apply qab);done))|(apply qbj rfl rfl;(focus (repeat' first|assumption|exact qaa rfl|apply qaf rfl|apply qab);done);exact rfl)))
  (apply qbl rfl; (repeat' first|assumption|exact qaa rfl|apply qaf rfl|apply qab))
  refine ⟨k, id', ver', fix', len', rfl, ?_, ro⟩
  rcases kv id' (by simp [qb1]) with q | q
  · cases q
  · exact q.1

/-! ### the planner -/
abbrev plC (mid : Nat) (x : Sts) (lv pv left : AV) : List AV := [.mapv mid, .int .i64 x.tri, .int .i64 x.sub, .int .i64 x.pre, .int .i64 x.obj, lv, pv, left]
structure PlAt (g : Hp) (pid mid c : Nat) (known : List Str) (x : Sts) (lv : AV) (pats : List Ptn) (pv left : AV) : Prop where
  row : Row g pid 0 8 (plC mid x lv pv left) true
  kn : KnownAt g mid c known
  li : Rows linC 7 g lv x.lines
  pa : Rows ptnC 15 g pv pats
theorem PlAt.keep {g g1 : Hp} {pid mid c : Nat} {known : List Str} {x : Sts} {lv : AV} {pats : List Ptn} {pv left : AV} (a : PlAt g pid mid c known x lv pats pv left) (k : Keep g g1) : PlAt g1 pid mid c known x lv pats pv left :=
  ⟨a.row.keep k, a.kn.keep k, a.li.keep k, a.pa.keep k⟩

def farZ (known : List Str) (p : Ptn) : Bool := (qb4 known p).length == 0 && decide (0 < (fresh known p).length)
theorem far_spec (hp : ∀ f d, pol.lit f d = false) (hs : sums 70 = none) (hs3 : sums 48 = none) (hs' : sums 27 = none) (hs0 : sums 55 = none) (hs1 : sums 71 = none) (hs2 : sums 67 = some qb6) {n : Nat} (hn : 11 ≤ n) {h : Hp} {i1 pid mid c : Nat} {known : List Str} {x : Sts} {lv : AV} {pats : List Ptn} {pv left : AV}
    (a : PlAt h pid mid c known x lv pats pv left) (r1 : Row h i1 0 1 [.ptr pid 0 0] true) {i : Nat} (hi : i < pats.length) :
    Runs (qbt Try.prog pol sums n (.func (.func 70) [] [.ptr i1 0 0]) [.int .i64 (i : Nat)]) h (fun v h' => Keep h h' ∧ v = .bool (farZ known pats[i])) := by
  obtain ⟨n, rfl⟩ : ∃ m, n = m + 1 := ⟨n - 1, by omega⟩
  refine qcq (by assumption) Try.func70 rfl (by simp [Try.f70]) ?_
  have a0 : qbq (qa9 Try.f70.ntmps (([] ++ [.int .i64 (i : Nat)] ++ [.ptr i1 0 0]) : List AV)) 0 = .int .i64 (i : Nat) := qa8 rfl
  have a1 : qbq (qa9 Try.f70.ntmps (([] ++ [.int .i64 (i : Nat)] ++ [.ptr i1 0 0]) : List AV)) 1 = .ptr i1 0 0 := qa8 rfl
  generalize qa9 Try.f70.ntmps (([] ++ [.int .i64 (i : Nat)] ++ [.ptr i1 0 0]) : List AV) = T at *
  show Runs (qbn _ _ _ _ 29 _ _ _) _ _
  have r2 := a.row
  (repeat (first|refine KW.go ?_|((first|apply qaw|apply qaz|apply qa1|apply qa4|apply qay|apply qax|apply qar|apply qal|apply qaj|apply qap)<;>first|(apply qam;(repeat' first|assumption|exact qaa rfl|apply qaf rfl|apply qab);done)|exact qao _ _|exact qai _|exact qan _|exact qad|exact qag|exact qae|exact qac|exact qah _|exact qau _ (by omega)|exact qat (by omega)|exact qas (by omega)|exact rfl|assumption|apply qav)|((first|apply qa3|apply qaq|apply qak)<;>first|(apply qam;(repeat' first|assumption|exact qaa rfl|apply qaf rfl|apply qab);done)|exact qao _ _|exact qai _|exact qan _|exact qad|exact qag|exact qae|exact qac|exact qah _|exact qau _ (by omega)|exact qat (by omega)|exact qas (by omega)|exact rfl|assumption|apply qav)|(apply qa2 rfl rfl;(focus (repeat' first|assumption|exact qaa rfl|apply qaf rfl|apply qab);done))|(apply qbj rfl rfl;(focus (repeat' first|assumption|exact qaa rfl|apply qaf rfl|apply qab);done);exact rfl)))
  (refine R_drawn [0, 1, 2, 3, 4, 5, 6, 7, 8, 9, 10, 11, 12, 13, 14, 15, 16] [0, 1, 3, 7, 0, 16, 48, 112, 0, 496, 1008, 2047, 4095, 8191, 8191, 16383, 65535] (by kernel_rfl) (by kernel_rfl) (by rfl) ?_; dsimp only [qc1, List.map, List.getElem?_cons_zero, List.getElem?_cons_succ])
  (repeat (first|refine KW.go ?_|((first|apply qaw|apply qaz|apply qa1|apply qa4|apply qay|apply qax|apply qar|apply qal|apply qaj|apply qap)<;>first|(apply qam;(repeat' first|assumption|exact qaa rfl|apply qaf rfl|apply qab);done)|exact qao _ _|exact qai _|exact qan _|exact qad|exact qag|exact qae|exact qac|exact qah _|exact qau _ (by omega)|exact qat (by omega)|exact qas (by omega)|exact rfl|assumption|apply qav)|((first|apply qa3|apply qaq|apply qak)<;>first|(apply qam;(repeat' first|assumption|exact qaa rfl|apply qaf rfl|apply qab);done)|exact qao _ _|exact qai _|exact qan _|exact qad|exact qag|exact qae|exact qac|exact qah _|exact qau _ (by omega)|exact qat (by omega)|exact qas (by omega)|exact rfl|assumption|apply qav)|(apply qa2 rfl rfl;(focus (repeat' first|assumption|exact qaa rfl|apply qaf rfl|apply qab);done))|(apply qbj rfl rfl;(focus (repeat' first|assumption|exact qaa rfl|apply qaf rfl|apply qab);done);exact rfl)))
  apply qbk (n := 1)
  · (focus first|(apply qam;(repeat' first|assumption|exact qaa rfl|apply qaf rfl|apply qab);done)|exact qao _ _|exact qai _|exact qan _|exact qad|exact qag|exact qae|exact qac|exact qah _)
  · exact r2
  · rfl
  · exact rfl
  (repeat (first|refine KW.go ?_|((first|apply qaw|apply qaz|apply qa1|apply qa4|apply qay|apply qax|apply qar|apply qal|apply qaj|apply qap)<;>first|(apply qam;(repeat' first|assumption|exact qaa rfl|apply qaf rfl|apply qab);done)|exact qao _ _|exact qai _|exact qan _|exact qad|exact qag|exact qae|exact qac|exact qah _|exact qau _ (by omega)|exact qat (by omega)|exact qas (by omega)|exact rfl|assumption|apply qav)|((first|apply qa3|apply qaq|apply qak)<;>first|(apply qam;(repeat' first|assumption|exact qaa rfl|apply qaf rfl|apply qab);done)|exact qao _ _|exact qai _|exact qan _|exact qad|exact qag|exact qae|exact qac|exact qah _|exact qau _ (by omega)|exact qat (by omega)|exact qas (by omega)|exact rfl|assumption|apply qav)|(apply qa2 rfl rfl;(focus (repeat' first|assumption|exact qaa rfl|apply qaf rfl|apply qab);done))|(apply qbj rfl rfl;(focus (repeat' first|assumption|exact qaa rfl|apply qaf rfl|apply qab);done);exact rfl)))
  apply qbp
  · (focus first|(apply qam;(repeat' first|assumption|exact qaa rfl|apply qaf rfl|apply qab);done)|exact qao _ _|exact qai _|exact qan _|exact qad|exact qag|exact qae|exact qac|exact qah _)
  · exact a.pa
  · (focus first|(apply qam;(repeat' first|assumption|exact qaa rfl|apply qaf rfl|apply qab);done)|exact qao _ _|exact qai _|exact qan _|exact qad|exact qag|exact qae|exact qac|exact qah _)
  · exact hi
  · rfl
  intro p hat _
  rw [flat_at ptnC_len hi] at hat
  apply qcy
  · (focus first|(apply qam;(repeat' first|assumption|exact qaa rfl|apply qaf rfl|apply qab);done)|exact qao _ _|exact qai _|exact qan _|exact qad|exact qag|exact qae|exact qac|exact qah _)
  · exact hat
  · rfl
  (apply qb5; (focus first|(apply qam;(repeat' first|assumption|exact qaa rfl|apply qaf rfl|apply qab);done)|exact qao _ _|exact qai _|exact qan _|exact qad|exact qag|exact qae|exact qac|exact qah _); (repeat (apply qbb; (focus first|(apply qam;(repeat' first|assumption|exact qaa rfl|apply qaf rfl|apply qab);done)|exact qao _ _|exact qai _|exact qan _|exact qad|exact qag|exact qae|exact qac|exact qah _))); exact qbi)
  refine (parts_spec hp hs3 hs' hs0 hs1 hs2 (by omega) a.kn pats[i]).mono ?_
  rintro v g1 ⟨k1, sv, fv, rfl, s1, s2⟩
  refine ⟨k1.undis, ?_⟩
  (repeat (first|refine KW.go ?_|((first|apply qaw|apply qaz|apply qa1|apply qa4|apply qay|apply qax|apply qar|apply qal|apply qaj|apply qap)<;>first|(apply qam;(repeat' first|assumption|exact qaa rfl|apply qaf rfl|apply qab);done)|exact qao _ _|exact qai _|exact qan _|exact qad|exact qag|exact qae|exact qac|exact qah _|exact qau _ (by omega)|exact qat (by omega)|exact qas (by omega)|exact rfl|assumption|apply qav)|((first|apply qa3|apply qaq|apply qak)<;>first|(apply qam;(repeat' first|assumption|exact qaa rfl|apply qaf rfl|apply qab);done)|exact qao _ _|exact qai _|exact qan _|exact qad|exact qag|exact qae|exact qac|exact qah _|exact qau _ (by omega)|exact qat (by omega)|exact qas (by omega)|exact rfl|assumption|apply qav)|(apply qa2 rfl rfl;(focus (repeat' first|assumption|exact qaa rfl|apply qaf rfl|apply qab);done))|(apply qbj rfl rfl;(focus (repeat' first|assumption|exact qaa rfl|apply qaf rfl|apply qab);done);exact rfl)))
  cases hv : (((qb4 known pats[i]).length : Int) == 0) with
  | true =>
    (repeat (first|refine KW.go ?_|((first|apply qaw|apply qaz|apply qa1|apply qa4|apply qay|apply qax|apply qar|apply qal|apply qaj|apply qap)<;>first|(apply qam;(repeat' first|assumption|exact qaa rfl|apply qaf rfl|apply qab);done)|exact qao _ _|exact qai _|exact qan _|exact qad|exact qag|exact qae|exact qac|exact qah _|exact qau _ (by omega)|exact qat (by omega)|exact qas (by omega)|exact rfl|assumption|apply qav)|((first|apply qa3|apply qaq|apply qak)<;>first|(apply qam;(repeat' first|assumption|exact qaa rfl|apply qaf rfl|apply qab);done)|exact qao _ _|exact qai _|exact qan _|exact qad|exact qag|exact qae|exact qac|exact qah _|exact qau _ (by omega)|exact qat (by omega)|exact qas (by omega)|exact rfl|assumption|apply qav)|(apply qa2 rfl rfl;(focus (repeat' first|assumption|exact qaa rfl|apply qaf rfl|apply qab);done))|(apply qbj rfl rfl;(focus (repeat' first|assumption|exact qaa rfl|apply qaf rfl|apply qab);done);exact rfl)))
    (apply qbl rfl; (repeat' first|assumption|exact qaa rfl|apply qaf rfl|apply qab))
    have e : (qb4 known pats[i]).length = 0 := by simpa using hv
    refine ⟨k1, ?_⟩
    simp [farZ, e]
  | false =>
    (repeat (first|refine KW.go ?_|((first|apply qaw|apply qaz|apply qa1|apply qa4|apply qay|apply qax|apply qar|apply qal|apply qaj|apply qap)<;>first|(apply qam;(repeat' first|assumption|exact qaa rfl|apply qaf rfl|apply qab);done)|exact qao _ _|exact qai _|exact qan _|exact qad|exact qag|exact qae|exact qac|exact qah _|exact qau _ (by omega)|exact qat (by omega)|exact qas (by omega)|exact rfl|assumption|apply qav)|((first|apply qa3|apply qaq|apply qak)<;>first|(apply qam;(repeat' first|assumption|exact qaa rfl|apply qaf rfl|apply qab);done)|exact qao _ _|exact qai _|exact qan _|exact qad|exact qag|exact qae|exact qac|exact qah _|exact qau _ (by omega)|exact qat (by omega)|exact qas (by omega)|exact rfl|assumption|apply qav)|(apply qa2 rfl rfl;(focus (repeat' first|assumption|exact qaa rfl|apply qaf rfl|apply qab);done))|(apply qbj rfl rfl;(focus (repeat' first|assumption|exact qaa rfl|apply qaf rfl|apply qab);done);exact rfl)))
    (apply qbl rfl; (repeat' first|assumption|exact qaa rfl|apply qaf rfl|apply qab))
    have e : (qb4 known pats[i]).length ≠ 0 := by simpa using hv
    refine ⟨k1, ?_⟩
    simp [farZ, e]
end Go.Am
namespace Go.Am
open Go Go.Proofs AM
set_option maxRecDepth 10000
variable {pol : Pol} {sums : Sums}
attribute [local irreducible] KSeq KMid KBlock KLoop KOps KFunc Runs qb9 qbn qdl aop qbt qbq qbv qbv? qbd qbw qa9

/-- the machine has the summaries of two functions; all others are run -/
structure S27 (pol : Pol) (sums : Sums) : Prop where
  lit : ∀ f d, pol.lit f d = false
  has : sums 67 = some qb6
  rest : ∀ f, f ∉ [6, 46, 49, 67, 73] → sums f = none

theorem deleteFunc_spec' (S : S27 pol sums) {n : Nat} (F : AV) (R : Int → Bool → Prop) {h : Hp} {id ver off len : Nat} {fix : Bool} {l : List Int} (hn : l.length + 3 ≤ n) (o : RowInts h id ver off fix len l) (hb : l.length < 2 ^ 62)
    (hF : ∀ m h1, n ≤ m + 2 → KeepBut (· = id) h h1 → ∀ e ∈ l, Runs (qbt Try.prog pol sums m F [.int .i64 e]) h1 fun v h2 => ∃ b, v = .bool b ∧ R e b ∧ Keep h1 h2) :
    Runs (qbt Try.prog pol sums n (.func (.func 24) [] []) [.own id ver off l.length, F]) h (fun v h' => KeepBut (· = id) h h' ∧ ∃ l', v = .own id ver off l'.length ∧ Filt R l l' ∧ RowInts h' id ver off fix len l') := by
  obtain ⟨n, rfl⟩ : ∃ m, n = m + 1 := ⟨n - 1, by omega⟩
  exact deleteFunc_spec (S.rest _ (by decide)) (S.rest _ (by decide)) n F R o (by omega) hb (fun m h1 hm => hF m h1 (by omega))

def zs (l : List Nat) : List Int := l.map fun (i : Nat) => (i : Int)
@[simp] theorem qcp (l : List Nat) : (zs l).length = l.length := by simp [zs]
def farI (known : List Str) (pats : List Ptn) (e : Int) : Bool := match pats[e.toNat]? with
  | some p => farZ known p
  | none => false
def nearZ (known : List Str) (pats : List Ptn) (left : List Nat) : List Nat :=
  let l := left.filter fun (i : Nat) => !(farI known pats (i : Int))
  if l.length = 0 ∨ left.length = pats.length then left else l

theorem RowInts.keepBut {X : Nat → Prop} {h h1 : Hp} {id ver off len : Nat} {fix : Bool} {l : List Int} (o : RowInts h id ver off fix len l) (k : KeepBut X h h1) (hx : ¬ X id) : RowInts h1 id ver off fix len l := by
  obtain ⟨row, h1, h2⟩ := o
  exact ⟨row, h1.keepBut k hx, h2⟩
theorem RowInts.lt {h : Hp} {id ver off len : Nat} {fix : Bool} {l : List Int} (o : RowInts h id ver off fix len l) (w : h.WF) : id < h.next := by
  obtain ⟨row, h1, h2⟩ := o
  exact h1.lt w

theorem near_spec (S : S27 pol sums) {n : Nat} {h : Hp} {pid mid c lid lver len : Nat} {fix : Bool} {known : List Str} {x : Sts} {lv : AV} {pats : List Ptn} {pv : AV} {left : List Nat} (hn : pats.length + 20 ≤ n) (hb : pats.length < 2 ^ 40)
    (a : PlAt h pid mid c known x lv pats pv (.own lid lver 0 left.length)) (o : RowInts h lid lver 0 fix len (zs left)) (hl : left ≠ []) (hlp : ∀ i ∈ left, i < pats.length) (hll : left.length ≤ pats.length) :
    Runs (qbt Try.prog pol sums n (.func (.func 53) [] []) [.ptr pid 0 0]) h (fun v h' => Keep h h' ∧ Ints h' v (zs (nearZ known pats left))) := by
  apply Runs.wf
  intro w
  have S' := S.rest
  have s53 : sums 53 = none := S' _ (by decide)
  obtain ⟨n, rfl⟩ : ∃ m, n = m + 1 := ⟨n - 1, by omega⟩
  refine qcq (by assumption) Try.func53 rfl (by simp [Try.f53]) ?_
  have a0 : qbq (qa9 Try.f53.ntmps (([] ++ [.ptr pid 0 0] ++ []) : List AV)) 0 = .ptr pid 0 0 := qa8 rfl
  generalize qa9 Try.f53.ntmps (([] ++ [.ptr pid 0 0] ++ []) : List AV) = T at *
  show Runs (qbn _ _ _ _ 34 _ _ _) _ _
  (repeat (first|refine KW.go ?_|((first|apply qaw|apply qaz|apply qa1|apply qa4|apply qay|apply qax|apply qar|apply qal|apply qaj|apply qap)<;>first|(apply qam;(repeat' first|assumption|exact qaa rfl|apply qaf rfl|apply qab);done)|exact qao _ _|exact qai _|exact qan _|exact qad|exact qag|exact qae|exact qac|exact qah _|exact qau _ (by omega)|exact qat (by omega)|exact qas (by omega)|exact rfl|assumption|apply qav)|((first|apply qa3|apply qaq|apply qak)<;>first|(apply qam;(repeat' first|assumption|exact qaa rfl|apply qaf rfl|apply qab);done)|exact qao _ _|exact qai _|exact qan _|exact qad|exact qag|exact qae|exact qac|exact qah _|exact qau _ (by omega)|exact qat (by omega)|exact qas (by omega)|exact rfl|assumption|apply qav)|(apply qa2 rfl rfl;(focus (repeat' first|assumption|exact qaa rfl|apply qaf rfl|apply qab);done))|(apply qbj rfl rfl;(focus (repeat' first|assumption|exact qaa rfl|apply qaf rfl|apply qab);done);exact rfl)))
  apply O_box
  · (focus first|(apply qam;(repeat' first|assumption|exact qaa rfl|apply qaf rfl|apply qab);done)|exact qao _ _|exact qai _|exact qan _|exact qad|exact qag|exact qae|exact qac|exact qah _)
  · rfl
  intro g1 i1 k1 r1 l1 l2
  change Row g1 i1 0 _ [.ptr pid 0 0] true at r1
  replace a := a.keep k1
  replace o := o.keep k1
  (repeat (first|refine KW.go ?_|((first|apply qaw|apply qaz|apply qa1|apply qa4|apply qay|apply qax|apply qar|apply qal|apply qaj|apply qap)<;>first|(apply qam;(repeat' first|assumption|exact qaa rfl|apply qaf rfl|apply qab);done)|exact qao _ _|exact qai _|exact qan _|exact qad|exact qag|exact qae|exact qac|exact qah _|exact qau _ (by omega)|exact qat (by omega)|exact qas (by omega)|exact rfl|assumption|apply qav)|((first|apply qa3|apply qaq|apply qak)<;>first|(apply qam;(repeat' first|assumption|exact qaa rfl|apply qaf rfl|apply qab);done)|exact qao _ _|exact qai _|exact qan _|exact qad|exact qag|exact qae|exact qac|exact qah _|exact qau _ (by omega)|exact qat (by omega)|exact qas (by omega)|exact rfl|assumption|apply qav)|(apply qa2 rfl rfl;(focus (repeat' first|assumption|exact qaa rfl|apply qaf rfl|apply qab);done))|(apply qbj rfl rfl;(focus (repeat' first|assumption|exact qaa rfl|apply qaf rfl|apply qab);done);exact rfl)))
  apply O_makeFunc (l1 := []) (l2 := [.ptr i1 0 0])
  · exact qbi
  · exact qbb (by (focus first|(apply qam;(repeat' first|assumption|exact qaa rfl|apply qaf rfl|apply qab);done)|exact qao _ _|exact qai _|exact qan _|exact qad|exact qag|exact qae|exact qac|exact qah _)) qbi
  have ra := a.row
  (repeat (first|refine KW.go ?_|((first|apply qaw|apply qaz|apply qa1|apply qa4|apply qay|apply qax|apply qar|apply qal|apply qaj|apply qap)<;>first|(apply qam;(repeat' first|assumption|exact qaa rfl|apply qaf rfl|apply qab);done)|exact qao _ _|exact qai _|exact qan _|exact qad|exact qag|exact qae|exact qac|exact qah _|exact qau _ (by omega)|exact qat (by omega)|exact qas (by omega)|exact rfl|assumption|apply qav)|((first|apply qa3|apply qaq|apply qak)<;>first|(apply qam;(repeat' first|assumption|exact qaa rfl|apply qaf rfl|apply qab);done)|exact qao _ _|exact qai _|exact qan _|exact qad|exact qag|exact qae|exact qac|exact qah _|exact qau _ (by omega)|exact qat (by omega)|exact qas (by omega)|exact rfl|assumption|apply qav)|(apply qa2 rfl rfl;(focus (repeat' first|assumption|exact qaa rfl|apply qaf rfl|apply qab);done))|(apply qbj rfl rfl;(focus (repeat' first|assumption|exact qaa rfl|apply qaf rfl|apply qab);done);exact rfl)))
  (apply qb5; (focus first|(apply qam;(repeat' first|assumption|exact qaa rfl|apply qaf rfl|apply qab);done)|exact qao _ _|exact qai _|exact qan _|exact qad|exact qag|exact qae|exact qac|exact qah _); (repeat (apply qbb; (focus first|(apply qam;(repeat' first|assumption|exact qaa rfl|apply qaf rfl|apply qab);done)|exact qao _ _|exact qai _|exact qan _|exact qad|exact qag|exact qae|exact qac|exact qah _))); exact qbi)
  have hzl : (zs left).length = left.length := qcp left
  apply Runs.wf
  intro w1
  rw [← hzl] at a ⊢
  refine (clone_spec S.lit (S' _ (by decide)) (by omega) o (by simpa [zs] using hl) (by omega)).mono ?_
  rintro v g2 ⟨k2, cid, cver, cfix, clen, rfl, lc, oc⟩
  refine ⟨Undis.off rfl, ?_⟩
  (repeat (first|refine KW.go ?_|((first|apply qaw|apply qaz|apply qa1|apply qa4|apply qay|apply qax|apply qar|apply qal|apply qaj|apply qap)<;>first|(apply qam;(repeat' first|assumption|exact qaa rfl|apply qaf rfl|apply qab);done)|exact qao _ _|exact qai _|exact qan _|exact qad|exact qag|exact qae|exact qac|exact qah _|exact qau _ (by omega)|exact qat (by omega)|exact qas (by omega)|exact rfl|assumption|apply qav)|((first|apply qa3|apply qaq|apply qak)<;>first|(apply qam;(repeat' first|assumption|exact qaa rfl|apply qaf rfl|apply qab);done)|exact qao _ _|exact qai _|exact qan _|exact qad|exact qag|exact qae|exact qac|exact qah _|exact qau _ (by omega)|exact qat (by omega)|exact qas (by omega)|exact rfl|assumption|apply qav)|(apply qa2 rfl rfl;(focus (repeat' first|assumption|exact qaa rfl|apply qaf rfl|apply qab);done))|(apply qbj rfl rfl;(focus (repeat' first|assumption|exact qaa rfl|apply qaf rfl|apply qab);done);exact rfl)))
  (apply qb5; (focus first|(apply qam;(repeat' first|assumption|exact qaa rfl|apply qaf rfl|apply qab);done)|exact qao _ _|exact qai _|exact qan _|exact qad|exact qag|exact qae|exact qac|exact qah _); (repeat (apply qbb; (focus first|(apply qam;(repeat' first|assumption|exact qaa rfl|apply qaf rfl|apply qab);done)|exact qao _ _|exact qai _|exact qan _|exact qad|exact qag|exact qae|exact qac|exact qah _))); exact qbi)
  have hcid : ∀ i, i = cid → g1.get i = none := fun i hi => by subst hi; exact w1.get lc
  have hloc : ∀ i ∈ left, ∀ (hi : i < pats.length), farI known pats (i : Int) = farZ known pats[i] := fun i _ hi => by simp [farI, hi]
  refine (deleteFunc_spec' S _ (fun e b => b = farI known pats e) (by omega) oc (by omega) ?_).mono ?_
  · intro m g3 hm kb e he
    obtain ⟨i, hi, rfl⟩ := List.mem_map.1 he
    have hip := hlp i hi
    have k3 : Keep g1 g3 := KeepBut.keep k2 kb hcid
    refine (far_spec S.lit (S' _ (by decide)) (S' _ (by decide)) (S' _ (by decide)) (S' _ (by decide)) (S' _ (by decide)) S.has (by omega) (a.keep k3) (r1.keep k3) hip).mono ?_
    rintro v g4 ⟨k4, rfl⟩
    exact ⟨_, rfl, (hloc i hi hip).symm, k4⟩
  rintro v g3 ⟨kb3, l', rfl, hf, o3⟩
  refine ⟨Undis.off rfl, ?_⟩
  have k3 : Keep g1 g3 := KeepBut.keep k2 kb3 hcid
  have hl' : l' = zs (left.filter fun (i : Nat) => !(farI known pats (i : Int))) := by
    rw [hf.done (farI known pats) (fun e b h => h)]
    simp only [zs, List.filter_map]
    rfl
  have ss : Ints g3 (.own cid cver 0 l'.length) l' := o3.slv
  have hnl : l'.length = (left.filter fun (i : Nat) => !(farI known pats (i : Int))).length := by rw [hl', qcp]
  generalize hfl : (left.filter fun (i : Nat) => !(farI known pats (i : Int))) = fl at *
  have hnz : nearZ known pats left = if fl.length = 0 ∨ left.length = pats.length then left else fl := by simp only [nearZ, hfl]
  replace r1 := r1.keep k3
  replace a := a.keep k3
  replace o := o.keep k3
  have ra := a.row
  have so : Ints g3 (.own lid lver 0 (zs left).length) (zs left) := o.slv
  have sp := a.pa
  (repeat (first|refine KW.go ?_|((first|apply qaw|apply qaz|apply qa1|apply qa4|apply qay|apply qax|apply qar|apply qal|apply qaj|apply qap)<;>first|(apply qam;(repeat' first|assumption|exact qaa rfl|apply qaf rfl|apply qab);done)|exact qao _ _|exact qai _|exact qan _|exact qad|exact qag|exact qae|exact qac|exact qah _|exact qau _ (by omega)|exact qat (by omega)|exact qas (by omega)|exact rfl|assumption|apply qav)|((first|apply qa3|apply qaq|apply qak)<;>first|(apply qam;(repeat' first|assumption|exact qaa rfl|apply qaf rfl|apply qab);done)|exact qao _ _|exact qai _|exact qan _|exact qad|exact qag|exact qae|exact qac|exact qah _|exact qau _ (by omega)|exact qat (by omega)|exact qas (by omega)|exact rfl|assumption|apply qav)|(apply qa2 rfl rfl;(focus (repeat' first|assumption|exact qaa rfl|apply qaf rfl|apply qab);done))|(apply qbj rfl rfl;(focus (repeat' first|assumption|exact qaa rfl|apply qaf rfl|apply qab);done);exact rfl)))
  (refine R_drawn [0, 1, 2, 3, 4, 5, 6, 7, 8, 9, 10, 11, 12, 13, 14, 15] [0, 1, 3, 7, 15, 31, 63, 127, 255, 15, 527, 1551, 3599, 7695, 16383, 32767] (by kernel_rfl) (by kernel_rfl) (by rfl) ?_; dsimp only [qc1, List.map, List.getElem?_cons_zero, List.getElem?_cons_succ])
  (repeat (first|refine KW.go ?_|((first|apply qaw|apply qaz|apply qa1|apply qa4|apply qay|apply qax|apply qar|apply qal|apply qaj|apply qap)<;>first|(apply qam;(repeat' first|assumption|exact qaa rfl|apply qaf rfl|apply qab);done)|exact qao _ _|exact qai _|exact qan _|exact qad|exact qag|exact qae|exact qac|exact qah _|exact qau _ (by omega)|exact qat (by omega)|exact qas (by omega)|exact rfl|assumption|apply qav)|((first|apply qa3|apply qaq|apply qak)<;>first|(apply qam;(repeat' first|assumption|exact qaa rfl|apply qaf rfl|apply qab);done)|exact qao _ _|exact qai _|exact qan _|exact qad|exact qag|exact qae|exact qac|exact qah _|exact qau _ (by omega)|exact qat (by omega)|exact qas (by omega)|exact rfl|assumption|apply qav)|(apply qa2 rfl rfl;(focus (repeat' first|assumption|exact qaa rfl|apply qaf rfl|apply qab);done))|(apply qbj rfl rfl;(focus (repeat' first|assumption|exact qaa rfl|apply qaf rfl|apply qab);done);exact rfl)))
  cases hv : ((l'.length : Int) == 0) with
  | true =>
    have e : fl.length = 0 := by
      have : l'.length = 0 := by simpa using hv
      omega
    (repeat (first|refine KW.go ?_|((first|apply qaw|apply qaz|apply qa1|apply qa4|apply qay|apply qax|apply qar|apply qal|apply qaj|apply qap)<;>first|(apply qam;(repeat' first|assumption|exact qaa rfl|apply qaf rfl|apply qab);done)|exact qao _ _|exact qai _|exact qan _|exact qad|exact qag|exact qae|exact qac|exact qah _|exact qau _ (by omega)|exact qat (by omega)|exact qas (by omega)|exact rfl|assumption|apply qav)|((first|apply qa3|apply qaq|apply qak)<;>first|(apply qam;(repeat' first|assumption|exact qaa rfl|apply qaf rfl|apply qab);done)|exact qao _ _|exact qai _|exact qan _|exact qad|exact qag|exact qae|exact qac|exact qah _|exact qau _ (by omega)|exact qat (by omega)|exact qas (by omega)|exact rfl|assumption|apply qav)|(apply qa2 rfl rfl;(focus (repeat' first|assumption|exact qaa rfl|apply qaf rfl|apply qab);done))|(apply qbj rfl rfl;(focus (repeat' first|assumption|exact qaa rfl|apply qaf rfl|apply qab);done);exact rfl)))
    apply qbx true
    · (focus first|(apply qam;(repeat' first|assumption|exact qaa rfl|apply qaf rfl|apply qab);done)|exact qao _ _|exact qai _|exact qan _|exact qad|exact qag|exact qae|exact qac|exact qah _)
    · intro _
      (repeat (first|refine KW.go ?_|((first|apply qaw|apply qaz|apply qa1|apply qa4|apply qay|apply qax|apply qar|apply qal|apply qaj|apply qap)<;>first|(apply qam;(repeat' first|assumption|exact qaa rfl|apply qaf rfl|apply qab);done)|exact qao _ _|exact qai _|exact qan _|exact qad|exact qag|exact qae|exact qac|exact qah _|exact qau _ (by omega)|exact qat (by omega)|exact qas (by omega)|exact rfl|assumption|apply qav)|((first|apply qa3|apply qaq|apply qak)<;>first|(apply qam;(repeat' first|assumption|exact qaa rfl|apply qaf rfl|apply qab);done)|exact qao _ _|exact qai _|exact qan _|exact qad|exact qag|exact qae|exact qac|exact qah _|exact qau _ (by omega)|exact qat (by omega)|exact qas (by omega)|exact rfl|assumption|apply qav)|(apply qa2 rfl rfl;(focus (repeat' first|assumption|exact qaa rfl|apply qaf rfl|apply qab);done))|(apply qbj rfl rfl;(focus (repeat' first|assumption|exact qaa rfl|apply qaf rfl|apply qab);done);exact rfl)))
      (apply qbl rfl; (repeat' first|assumption|exact qaa rfl|apply qaf rfl|apply qab))
      refine ⟨k1.trans k3, ?_⟩
      rw [hnz, if_pos (.inl e)]
      exact so
    · intro c; cases c
  | false =>
    have e : fl.length ≠ 0 := by
      have : l'.length ≠ 0 := by simpa using hv
      omega
    (repeat (first|refine KW.go ?_|((first|apply qaw|apply qaz|apply qa1|apply qa4|apply qay|apply qax|apply qar|apply qal|apply qaj|apply qap)<;>first|(apply qam;(repeat' first|assumption|exact qaa rfl|apply qaf rfl|apply qab);done)|exact qao _ _|exact qai _|exact qan _|exact qad|exact qag|exact qae|exact qac|exact qah _|exact qau _ (by omega)|exact qat (by omega)|exact qas (by omega)|exact rfl|assumption|apply qav)|((first|apply qa3|apply qaq|apply qak)<;>first|(apply qam;(repeat' first|assumption|exact qaa rfl|apply qaf rfl|apply qab);done)|exact qao _ _|exact qai _|exact qan _|exact qad|exact qag|exact qae|exact qac|exact qah _|exact qau _ (by omega)|exact qat (by omega)|exact qas (by omega)|exact rfl|assumption|apply qav)|(apply qa2 rfl rfl;(focus (repeat' first|assumption|exact qaa rfl|apply qaf rfl|apply qab);done))|(apply qbj rfl rfl;(focus (repeat' first|assumption|exact qaa rfl|apply qaf rfl|apply qab);done);exact rfl)))
    apply qbx (((zs left).length : Int) == (pats.length : Int))
    · (focus first|(apply qam;(repeat' first|assumption|exact qaa rfl|apply qaf rfl|apply qab);done)|exact qao _ _|exact qai _|exact qan _|exact qad|exact qag|exact qae|exact qac|exact qah _)
    · intro c
      have c : left.length = pats.length := by simp at c; omega
      (repeat (first|refine KW.go ?_|((first|apply qaw|apply qaz|apply qa1|apply qa4|apply qay|apply qax|apply qar|apply qal|apply qaj|apply qap)<;>first|(apply qam;(repeat' first|assumption|exact qaa rfl|apply qaf rfl|apply qab);done)|exact qao _ _|exact qai _|exact qan _|exact qad|exact qag|exact qae|exact qac|exact qah _|exact qau _ (by omega)|exact qat (by omega)|exact qas (by omega)|exact rfl|assumption|apply qav)|((first|apply qa3|apply qaq|apply qak)<;>first|(apply qam;(repeat' first|assumption|exact qaa rfl|apply qaf rfl|apply qab);done)|exact qao _ _|exact qai _|exact qan _|exact qad|exact qag|exact qae|exact qac|exact qah _|exact qau _ (by omega)|exact qat (by omega)|exact qas (by omega)|exact rfl|assumption|apply qav)|(apply qa2 rfl rfl;(focus (repeat' first|assumption|exact qaa rfl|apply qaf rfl|apply qab);done))|(apply qbj rfl rfl;(focus (repeat' first|assumption|exact qaa rfl|apply qaf rfl|apply qab);done);exact rfl)))
      (apply qbl rfl; (repeat' first|assumption|exact qaa rfl|apply qaf rfl|apply qab))
      refine ⟨k1.trans k3, ?_⟩
      rw [hnz, if_pos (.inr c)]
      exact so
    · intro c
      have c : left.length ≠ pats.length := by simp at c; omega
      (repeat (first|refine KW.go ?_|((first|apply qaw|apply qaz|apply qa1|apply qa4|apply qay|apply qax|apply qar|apply qal|apply qaj|apply qap)<;>first|(apply qam;(repeat' first|assumption|exact qaa rfl|apply qaf rfl|apply qab);done)|exact qao _ _|exact qai _|exact qan _|exact qad|exact qag|exact qae|exact qac|exact qah _|exact qau _ (by omega)|exact qat (by omega)|exact qas (by omega)|exact rfl|assumption|apply qav)|((first|apply qa3|apply qaq|apply qak)<;>first|(apply qam;(repeat' first|assumption|exact qaa rfl|apply qaf rfl|apply qab);done)|exact qao _ _|exact qai _|exact qan _|exact qad|exact qag|exact qae|exact qac|exact qah _|exact qau _ (by omega)|exact qat (by omega)|exact qas (by omega)|exact rfl|assumption|apply qav)|(apply qa2 rfl rfl;(focus (repeat' first|assumption|exact qaa rfl|apply qaf rfl|apply qab);done))|(apply qbj rfl rfl;(focus (repeat' first|assumption|exact qaa rfl|apply qaf rfl|apply qab);done);exact rfl)))
      (apply qbl rfl; (repeat' first|assumption|exact qaa rfl|apply qaf rfl|apply qab))
      refine ⟨k1.trans k3, ?_⟩
      rw [hnz, if_neg (by omega), ← hl']
      exact ss
end Go.Am
namespace Go.Am
open Go Go.Proofs AM
set_option maxRecDepth 10000
variable {pol : Pol} {sums : Sums}

/-- what the machine takes for known's list: the keys, in no order -/
def listSum : List AV → AM AV
  | [.agg [.mapv id]] => do
    let es ← mapOf id
    AM.guard (Nat.blt es.length 1099511627776 && es.all fun e => match e.1 with | .str _ => true | _ => false)
    pure (.bag (es.map (·.1)))
  | _ => AM.fail
attribute [local irreducible] KSeq KMid KBlock KLoop KOps KFunc Runs qb9 qbn qdl aop qbt qbq qbv qbv? qbd qbw qa9
theorem list_spec (hs : sums 49 = some listSum) {n : Nat} (hn : 1 ≤ n) {h : Hp} {mid c : Nat} {l : List Str} (m : KnownAt h mid c l) (hb : l.length < 2 ^ 40) :
    Runs (qbt Try.prog pol sums n (.func (.func 49) [] []) [.agg [.mapv mid]]) h (fun r h' => h = h' ∧ r = .bag (strs l)) := by
  obtain ⟨n, rfl⟩ : ∃ m, n = m + 1 := ⟨n - 1, by omega⟩
  refine R_sum hs ?_
  obtain ⟨es, ⟨v, st, ho⟩, hc, _⟩ := m
  have hel : es.length = l.length := by have := congrArg List.length hc; simpa using this
  have hg : (Nat.blt es.length 1099511627776 && es.all fun e => match e.1 with | .str _ => true | _ => false) = true := by
    simp only [Bool.and_eq_true, Nat.blt_eq, List.all_eq_true]
    refine ⟨by omega, fun e he => ?_⟩
    have : e.1 ∈ strs l := by rw [← hc]; exact List.mem_map_of_mem he
    obtain ⟨s, _, hs⟩ := List.mem_map.1 this
    rw [← hs]
  refine Runs.of (h' := h) (a := .bag (es.map (·.1))) ?_ ⟨rfl, by rw [hc]⟩
  simp only [List.nil_append, List.append_nil, listSum, mapOf, run_bind, AM.hget, ho]
  simp only [run_pure]
  rw [hg]
  rfl

def cmpZ (x : Sts) (pats : List Ptn) (known : List Str) (a b : Int) : Int :=
  match pats[a.toNat]?, pats[b.toNat]? with
  | some p, some q => if guessZ x p known = guessZ x q known then a - b else if guessZ x p known < guessZ x q known then -1 else 1
  | _, _ => 0
theorem cmp_spec (S : S27 pol sums) {n : Nat} {h : Hp} {i1 i4 pid mid c : Nat} {known : List Str} {x : Sts} {lv : AV} {pats : List Ptn} {pv left : AV} (hn : x.lines.length + 6 ≤ n) (hb : x.lines.length < 2 ^ 40) (hb1 : known.length < 2 ^ 40) (hb2 : pats.length < 2 ^ 40)
    (a : PlAt h pid mid c known x lv pats pv left) (r1 : Row h i1 0 1 [.ptr pid 0 0] true) (r4 : Row h i4 0 1 [.bag (strs known)] true) {i j : Nat} (hi : i < pats.length) (hj : j < pats.length) :
    Runs (qbt Try.prog pol sums n (.func (.func 50) [] [.ptr i1 0 0, .ptr i4 0 0]) [.int .i64 (i : Nat), .int .i64 (j : Nat)]) h (fun v h' => Keep h h' ∧ v = .int .i64 (cmpZ x pats known (i : Nat) (j : Nat))) := by
  have S' := S.rest
  have s50 : sums 50 = none := S' _ (by decide)
  obtain ⟨n, rfl⟩ : ∃ m, n = m + 1 := ⟨n - 1, by omega⟩
  refine qcq (by assumption) Try.func50 rfl (by simp [Try.f50]) ?_
  have a0 : qbq (qa9 Try.f50.ntmps (([] ++ [.int .i64 (i : Nat), .int .i64 (j : Nat)] ++ [.ptr i1 0 0, .ptr i4 0 0]) : List AV)) 0 = .int .i64 (i : Nat) := qa8 rfl
  have a1 : qbq (qa9 Try.f50.ntmps (([] ++ [.int .i64 (i : Nat), .int .i64 (j : Nat)] ++ [.ptr i1 0 0, .ptr i4 0 0]) : List AV)) 1 = .int .i64 (j : Nat) := qa8 rfl
  have a2 : qbq (qa9 Try.f50.ntmps (([] ++ [.int .i64 (i : Nat), .int .i64 (j : Nat)] ++ [.ptr i1 0 0, .ptr i4 0 0]) : List AV)) 2 = .ptr i1 0 0 := qa8 rfl
  have a3 : qbq (qa9 Try.f50.ntmps (([] ++ [.int .i64 (i : Nat), .int .i64 (j : Nat)] ++ [.ptr i1 0 0, .ptr i4 0 0]) : List AV)) 3 = .ptr i4 0 0 := qa8 rfl
  generalize qa9 Try.f50.ntmps (([] ++ [.int .i64 (i : Nat), .int .i64 (j : Nat)] ++ [.ptr i1 0 0, .ptr i4 0 0]) : List AV) = T at *
  show Runs (qbn _ _ _ _ 44 _ _ _) _ _
  have r2 := a.row
  (repeat (first|refine KW.go ?_|((first|apply qaw|apply qaz|apply qa1|apply qa4|apply qay|apply qax|apply qar|apply qal|apply qaj|apply qap)<;>first|(apply qam;(repeat' first|assumption|exact qaa rfl|apply qaf rfl|apply qab);done)|exact qao _ _|exact qai _|exact qan _|exact qad|exact qag|exact qae|exact qac|exact qah _|exact qau _ (by omega)|exact qat (by omega)|exact qas (by omega)|exact rfl|assumption|apply qav)|((first|apply qa3|apply qaq|apply qak)<;>first|(apply qam;(repeat' first|assumption|exact qaa rfl|apply qaf rfl|apply qab);done)|exact qao _ _|exact qai _|exact qan _|exact qad|exact qag|exact qae|exact qac|exact qah _|exact qau _ (by omega)|exact qat (by omega)|exact qas (by omega)|exact rfl|assumption|apply qav)|(apply qa2 rfl rfl;(focus (repeat' first|assumption|exact qaa rfl|apply qaf rfl|apply qab);done))|(apply qbj rfl rfl;(focus (repeat' first|assumption|exact qaa rfl|apply qaf rfl|apply qab);done);exact rfl)))
  (refine R_drawn [0, 1, 2, 3, 4, 5, 6, 7, 8, 9, 10, 11, 13, 14, 15, 16, 17, 18, 19, 20, 21, 22, 23, 24, 12, 25, 26, 27] [0, 1, 3, 7, 0, 16, 48, 112, 0, 496, 1008, 0, 4095, 0, 8192, 24576, 57344, 0, 131072, 393216, 917504, 0, 4063232, 8257536, 0, 33554431, 67108863, 134217727] (by kernel_rfl) (by kernel_rfl) (by rfl) ?_; dsimp only [qc1, List.map, List.getElem?_cons_zero, List.getElem?_cons_succ])
  (repeat (first|refine KW.go ?_|((first|apply qaw|apply qaz|apply qa1|apply qa4|apply qay|apply qax|apply qar|apply qal|apply qaj|apply qap)<;>first|(apply qam;(repeat' first|assumption|exact qaa rfl|apply qaf rfl|apply qab);done)|exact qao _ _|exact qai _|exact qan _|exact qad|exact qag|exact qae|exact qac|exact qah _|exact qau _ (by omega)|exact qat (by omega)|exact qas (by omega)|exact rfl|assumption|apply qav)|((first|apply qa3|apply qaq|apply qak)<;>first|(apply qam;(repeat' first|assumption|exact qaa rfl|apply qaf rfl|apply qab);done)|exact qao _ _|exact qai _|exact qan _|exact qad|exact qag|exact qae|exact qac|exact qah _|exact qau _ (by omega)|exact qat (by omega)|exact qas (by omega)|exact rfl|assumption|apply qav)|(apply qa2 rfl rfl;(focus (repeat' first|assumption|exact qaa rfl|apply qaf rfl|apply qab);done))|(apply qbj rfl rfl;(focus (repeat' first|assumption|exact qaa rfl|apply qaf rfl|apply qab);done);exact rfl)))
  apply qbk (n := 5)
  · (focus first|(apply qam;(repeat' first|assumption|exact qaa rfl|apply qaf rfl|apply qab);done)|exact qao _ _|exact qai _|exact qan _|exact qad|exact qag|exact qae|exact qac|exact qah _)
  · exact r2
  · rfl
  · exact rfl
  (repeat (first|refine KW.go ?_|((first|apply qaw|apply qaz|apply qa1|apply qa4|apply qay|apply qax|apply qar|apply qal|apply qaj|apply qap)<;>first|(apply qam;(repeat' first|assumption|exact qaa rfl|apply qaf rfl|apply qab);done)|exact qao _ _|exact qai _|exact qan _|exact qad|exact qag|exact qae|exact qac|exact qah _|exact qau _ (by omega)|exact qat (by omega)|exact qas (by omega)|exact rfl|assumption|apply qav)|((first|apply qa3|apply qaq|apply qak)<;>first|(apply qam;(repeat' first|assumption|exact qaa rfl|apply qaf rfl|apply qab);done)|exact qao _ _|exact qai _|exact qan _|exact qad|exact qag|exact qae|exact qac|exact qah _|exact qau _ (by omega)|exact qat (by omega)|exact qas (by omega)|exact rfl|assumption|apply qav)|(apply qa2 rfl rfl;(focus (repeat' first|assumption|exact qaa rfl|apply qaf rfl|apply qab);done))|(apply qbj rfl rfl;(focus (repeat' first|assumption|exact qaa rfl|apply qaf rfl|apply qab);done);exact rfl)))
  apply qbp
  · (focus first|(apply qam;(repeat' first|assumption|exact qaa rfl|apply qaf rfl|apply qab);done)|exact qao _ _|exact qai _|exact qan _|exact qad|exact qag|exact qae|exact qac|exact qah _)
  · exact a.pa
  · (focus first|(apply qam;(repeat' first|assumption|exact qaa rfl|apply qaf rfl|apply qab);done)|exact qao _ _|exact qai _|exact qan _|exact qad|exact qag|exact qae|exact qac|exact qah _)
  · exact hi
  · rfl
  intro p hat _
  rw [flat_at ptnC_len hi] at hat
  apply qcy
  · (focus first|(apply qam;(repeat' first|assumption|exact qaa rfl|apply qaf rfl|apply qab);done)|exact qao _ _|exact qai _|exact qan _|exact qad|exact qag|exact qae|exact qac|exact qah _)
  · exact hat
  · rfl
  (repeat (first|refine KW.go ?_|((first|apply qaw|apply qaz|apply qa1|apply qa4|apply qay|apply qax|apply qar|apply qal|apply qaj|apply qap)<;>first|(apply qam;(repeat' first|assumption|exact qaa rfl|apply qaf rfl|apply qab);done)|exact qao _ _|exact qai _|exact qan _|exact qad|exact qag|exact qae|exact qac|exact qah _|exact qau _ (by omega)|exact qat (by omega)|exact qas (by omega)|exact rfl|assumption|apply qav)|((first|apply qa3|apply qaq|apply qak)<;>first|(apply qam;(repeat' first|assumption|exact qaa rfl|apply qaf rfl|apply qab);done)|exact qao _ _|exact qai _|exact qan _|exact qad|exact qag|exact qae|exact qac|exact qah _|exact qau _ (by omega)|exact qat (by omega)|exact qas (by omega)|exact rfl|assumption|apply qav)|(apply qa2 rfl rfl;(focus (repeat' first|assumption|exact qaa rfl|apply qaf rfl|apply qab);done))|(apply qbj rfl rfl;(focus (repeat' first|assumption|exact qaa rfl|apply qaf rfl|apply qab);done);exact rfl)))
  apply qbk (n := 5)
  · (focus first|(apply qam;(repeat' first|assumption|exact qaa rfl|apply qaf rfl|apply qab);done)|exact qao _ _|exact qai _|exact qan _|exact qad|exact qag|exact qae|exact qac|exact qah _)
  · exact r2
  · rfl
  · exact rfl
  (repeat (first|refine KW.go ?_|((first|apply qaw|apply qaz|apply qa1|apply qa4|apply qay|apply qax|apply qar|apply qal|apply qaj|apply qap)<;>first|(apply qam;(repeat' first|assumption|exact qaa rfl|apply qaf rfl|apply qab);done)|exact qao _ _|exact qai _|exact qan _|exact qad|exact qag|exact qae|exact qac|exact qah _|exact qau _ (by omega)|exact qat (by omega)|exact qas (by omega)|exact rfl|assumption|apply qav)|((first|apply qa3|apply qaq|apply qak)<;>first|(apply qam;(repeat' first|assumption|exact qaa rfl|apply qaf rfl|apply qab);done)|exact qao _ _|exact qai _|exact qan _|exact qad|exact qag|exact qae|exact qac|exact qah _|exact qau _ (by omega)|exact qat (by omega)|exact qas (by omega)|exact rfl|assumption|apply qav)|(apply qa2 rfl rfl;(focus (repeat' first|assumption|exact qaa rfl|apply qaf rfl|apply qab);done))|(apply qbj rfl rfl;(focus (repeat' first|assumption|exact qaa rfl|apply qaf rfl|apply qab);done);exact rfl)))
  apply qbp
  · (focus first|(apply qam;(repeat' first|assumption|exact qaa rfl|apply qaf rfl|apply qab);done)|exact qao _ _|exact qai _|exact qan _|exact qad|exact qag|exact qae|exact qac|exact qah _)
  · exact a.pa
  · (focus first|(apply qam;(repeat' first|assumption|exact qaa rfl|apply qaf rfl|apply qab);done)|exact qao _ _|exact qai _|exact qan _|exact qad|exact qag|exact qae|exact qac|exact qah _)
  · exact hj
  · rfl
  intro p2 hat2 _
  rw [flat_at ptnC_len hj] at hat2
  apply qcy
  · (focus first|(apply qam;(repeat' first|assumption|exact qaa rfl|apply qaf rfl|apply qab);done)|exact qao _ _|exact qai _|exact qan _|exact qad|exact qag|exact qae|exact qac|exact qah _)
  · exact hat2
  · rfl
  (repeat (first|refine KW.go ?_|((first|apply qaw|apply qaz|apply qa1|apply qa4|apply qay|apply qax|apply qar|apply qal|apply qaj|apply qap)<;>first|(apply qam;(repeat' first|assumption|exact qaa rfl|apply qaf rfl|apply qab);done)|exact qao _ _|exact qai _|exact qan _|exact qad|exact qag|exact qae|exact qac|exact qah _|exact qau _ (by omega)|exact qat (by omega)|exact qas (by omega)|exact rfl|assumption|apply qav)|((first|apply qa3|apply qaq|apply qak)<;>first|(apply qam;(repeat' first|assumption|exact qaa rfl|apply qaf rfl|apply qab);done)|exact qao _ _|exact qai _|exact qan _|exact qad|exact qag|exact qae|exact qac|exact qah _|exact qau _ (by omega)|exact qat (by omega)|exact qas (by omega)|exact rfl|assumption|apply qav)|(apply qa2 rfl rfl;(focus (repeat' first|assumption|exact qaa rfl|apply qaf rfl|apply qab);done))|(apply qbj rfl rfl;(focus (repeat' first|assumption|exact qaa rfl|apply qaf rfl|apply qab);done);exact rfl)))
  (apply qb5; (focus first|(apply qam;(repeat' first|assumption|exact qaa rfl|apply qaf rfl|apply qab);done)|exact qao _ _|exact qai _|exact qan _|exact qad|exact qag|exact qae|exact qac|exact qah _); (repeat (apply qbb; (focus first|(apply qam;(repeat' first|assumption|exact qaa rfl|apply qaf rfl|apply qab);done)|exact qao _ _|exact qai _|exact qan _|exact qad|exact qag|exact qae|exact qac|exact qah _))); exact qbi)
  refine (guess_spec (S' _ (by decide)) (S' _ (by decide)) S.has (S' _ (by decide)) (S' _ (by decide)) (by omega) a.li (.inr rfl) (by omega) (by omega) pats[i]).mono ?_
  rintro v g1 ⟨k1, rfl⟩
  refine ⟨k1.undis, ?_⟩
  replace a := a.keep k1
  (apply qb5; (focus first|(apply qam;(repeat' first|assumption|exact qaa rfl|apply qaf rfl|apply qab);done)|exact qao _ _|exact qai _|exact qan _|exact qad|exact qag|exact qae|exact qac|exact qah _); (repeat (apply qbb; (focus first|(apply qam;(repeat' first|assumption|exact qaa rfl|apply qaf rfl|apply qab);done)|exact qao _ _|exact qai _|exact qan _|exact qad|exact qag|exact qae|exact qac|exact qah _))); exact qbi)
  refine (guess_spec (S' _ (by decide)) (S' _ (by decide)) S.has (S' _ (by decide)) (S' _ (by decide)) (by omega) a.li (.inr rfl) (by omega) (by omega) pats[j]).mono ?_
  rintro v g2 ⟨k2, rfl⟩
  refine ⟨k2.undis, ?_⟩
  have hz : cmpZ x pats known (i : Nat) (j : Nat) = if guessZ x pats[i] known = guessZ x pats[j] known then (i : Int) - (j : Int) else if guessZ x pats[i] known < guessZ x pats[j] known then -1 else 1 := by
    simp [cmpZ, hi, hj]
  rw [hz]
  generalize guessZ x pats[i] known = u
  generalize guessZ x pats[j] known = v
  (repeat (first|refine KW.go ?_|((first|apply qaw|apply qaz|apply qa1|apply qa4|apply qay|apply qax|apply qar|apply qal|apply qaj|apply qap)<;>first|(apply qam;(repeat' first|assumption|exact qaa rfl|apply qaf rfl|apply qab);done)|exact qao _ _|exact qai _|exact qan _|exact qad|exact qag|exact qae|exact qac|exact qah _|exact qau _ (by omega)|exact qat (by omega)|exact qas (by omega)|exact rfl|assumption|apply qav)|((first|apply qa3|apply qaq|apply qak)<;>first|(apply qam;(repeat' first|assumption|exact qaa rfl|apply qaf rfl|apply qab);done)|exact qao _ _|exact qai _|exact qan _|exact qad|exact qag|exact qae|exact qac|exact qah _|exact qau _ (by omega)|exact qat (by omega)|exact qas (by omega)|exact rfl|assumption|apply qav)|(apply qa2 rfl rfl;(focus (repeat' first|assumption|exact qaa rfl|apply qaf rfl|apply qab);done))|(apply qbj rfl rfl;(focus (repeat' first|assumption|exact qaa rfl|apply qaf rfl|apply qab);done);exact rfl)))
  apply qbx (u == v)
  · (focus first|(apply qam;(repeat' first|assumption|exact qaa rfl|apply qaf rfl|apply qab);done)|exact qao _ _|exact qai _|exact qan _|exact qad|exact qag|exact qae|exact qac|exact qah _)
  · intro e
    have e : u = v := by simpa using e
    (repeat (first|refine KW.go ?_|((first|apply qaw|apply qaz|apply qa1|apply qa4|apply qay|apply qax|apply qar|apply qal|apply qaj|apply qap)<;>first|(apply qam;(repeat' first|assumption|exact qaa rfl|apply qaf rfl|apply qab);done)|exact qao _ _|exact qai _|exact qan _|exact qad|exact qag|exact qae|exact qac|exact qah _|exact qau _ (by omega)|exact qat (by omega)|exact qas (by omega)|exact rfl|assumption|apply qav)|((first|apply qa3|apply qaq|apply qak)<;>first|(apply qam;(repeat' first|assumption|exact qaa rfl|apply qaf rfl|apply qab);done)|exact qao _ _|exact qai _|exact qan _|exact qad|exact qag|exact qae|exact qac|exact qah _|exact qau _ (by omega)|exact qat (by omega)|exact qas (by omega)|exact rfl|assumption|apply qav)|(apply qa2 rfl rfl;(focus (repeat' first|assumption|exact qaa rfl|apply qaf rfl|apply qab);done))|(apply qbj rfl rfl;(focus (repeat' first|assumption|exact qaa rfl|apply qaf rfl|apply qab);done);exact rfl)))
    (apply qbl rfl; (repeat' first|assumption|exact qaa rfl|apply qaf rfl|apply qab))
    exact ⟨k1.trans k2, by rw [if_pos e]⟩
  · intro e
    have e : ¬ u = v := by simpa using e
    rw [if_neg e]
    (repeat (first|refine KW.go ?_|((first|apply qaw|apply qaz|apply qa1|apply qa4|apply qay|apply qax|apply qar|apply qal|apply qaj|apply qap)<;>first|(apply qam;(repeat' first|assumption|exact qaa rfl|apply qaf rfl|apply qab);done)|exact qao _ _|exact qai _|exact qan _|exact qad|exact qag|exact qae|exact qac|exact qah _|exact qau _ (by omega)|exact qat (by omega)|exact qas (by omega)|exact rfl|assumption|apply qav)|((first|apply qa3|apply qaq|apply qak)<;>first|(apply qam;(repeat' first|assumption|exact qaa rfl|apply qaf rfl|apply qab);done)|exact qao _ _|exact qai _|exact qan _|exact qad|exact qag|exact qae|exact qac|exact qah _|exact qau _ (by omega)|exact qat (by omega)|exact qas (by omega)|exact rfl|assumption|apply qav)|(apply qa2 rfl rfl;(focus (repeat' first|assumption|exact qaa rfl|apply qaf rfl|apply qab);done))|(apply qbj rfl rfl;(focus (repeat' first|assumption|exact qaa rfl|apply qaf rfl|apply qab);done);exact rfl)))
    apply qbx (decide (u < v))
    · (focus first|(apply qam;(repeat' first|assumption|exact qaa rfl|apply qaf rfl|apply qab);done)|exact qao _ _|exact qai _|exact qan _|exact qad|exact qag|exact qae|exact qac|exact qah _)
    · intro e
      have e : u < v := by simpa using e
      (repeat (first|refine KW.go ?_|((first|apply qaw|apply qaz|apply qa1|apply qa4|apply qay|apply qax|apply qar|apply qal|apply qaj|apply qap)<;>first|(apply qam;(repeat' first|assumption|exact qaa rfl|apply qaf rfl|apply qab);done)|exact qao _ _|exact qai _|exact qan _|exact qad|exact qag|exact qae|exact qac|exact qah _|exact qau _ (by omega)|exact qat (by omega)|exact qas (by omega)|exact rfl|assumption|apply qav)|((first|apply qa3|apply qaq|apply qak)<;>first|(apply qam;(repeat' first|assumption|exact qaa rfl|apply qaf rfl|apply qab);done)|exact qao _ _|exact qai _|exact qan _|exact qad|exact qag|exact qae|exact qac|exact qah _|exact qau _ (by omega)|exact qat (by omega)|exact qas (by omega)|exact rfl|assumption|apply qav)|(apply qa2 rfl rfl;(focus (repeat' first|assumption|exact qaa rfl|apply qaf rfl|apply qab);done))|(apply qbj rfl rfl;(focus (repeat' first|assumption|exact qaa rfl|apply qaf rfl|apply qab);done);exact rfl)))
      (apply qbl rfl; (repeat' first|assumption|exact qaa rfl|apply qaf rfl|apply qab))
      exact ⟨k1.trans k2, by rw [if_pos e]⟩
    · intro e
      have e : ¬ u < v := by simpa using e
      (repeat (first|refine KW.go ?_|((first|apply qaw|apply qaz|apply qa1|apply qa4|apply qay|apply qax|apply qar|apply qal|apply qaj|apply qap)<;>first|(apply qam;(repeat' first|assumption|exact qaa rfl|apply qaf rfl|apply qab);done)|exact qao _ _|exact qai _|exact qan _|exact qad|exact qag|exact qae|exact qac|exact qah _|exact qau _ (by omega)|exact qat (by omega)|exact qas (by omega)|exact rfl|assumption|apply qav)|((first|apply qa3|apply qaq|apply qak)<;>first|(apply qam;(repeat' first|assumption|exact qaa rfl|apply qaf rfl|apply qab);done)|exact qao _ _|exact qai _|exact qan _|exact qad|exact qag|exact qae|exact qac|exact qah _|exact qau _ (by omega)|exact qat (by omega)|exact qas (by omega)|exact rfl|assumption|apply qav)|(apply qa2 rfl rfl;(focus (repeat' first|assumption|exact qaa rfl|apply qaf rfl|apply qab);done))|(apply qbj rfl rfl;(focus (repeat' first|assumption|exact qaa rfl|apply qaf rfl|apply qab);done);exact rfl)))
      (apply qbl rfl; (repeat' first|assumption|exact qaa rfl|apply qaf rfl|apply qab))
      exact ⟨k1.trans k2, by rw [if_neg e]⟩

def opZ (x : Sts) (known : List Str) (p : Ptn) : Int :=
  if (qb4 known p).length = 0 then 1 else if guessZ x p [] ≤ 64 then 2 else if (qb4 known p).length = 1 then 3 else 1
def pickZ (x : Sts) (pats : List Ptn) (known : List Str) (left : List Nat) : Int := match nearZ known pats left with
  | [] => 0
  | a :: l => minZ (cmpZ x pats known) (a : Int) (zs l)
theorem nearZ_mem {known : List Str} {pats : List Ptn} {left : List Nat} {i : Nat} (h : i ∈ nearZ known pats left) : i ∈ left := by
  unfold nearZ at h
  dsimp only at h
  split at h
  · exact h
  · exact (List.mem_filter.1 h).1
theorem nearZ_ne {known : List Str} {pats : List Ptn} {left : List Nat} (h : left ≠ []) : nearZ known pats left ≠ [] := by
  unfold nearZ
  dsimp only
  split
  · exact h
  · rename_i c
    intro e
    exact c (.inl (by rw [e]; rfl))
theorem nearZ_length (known : List Str) (pats : List Ptn) (left : List Nat) : (nearZ known pats left).length ≤ left.length := by
  unfold nearZ
  dsimp only
  split
  · exact Nat.le_refl _
  · exact List.length_filter_le _ _
theorem pickZ_mem {x : Sts} {pats : List Ptn} {known : List Str} {left : List Nat} (h : left ≠ []) : ∃ i ∈ left, pickZ x pats known left = (i : Int) := by
  unfold pickZ
  have h2 := nearZ_ne (known := known) (pats := pats) h
  have h3 : ∀ {i}, i ∈ nearZ known pats left → i ∈ left := fun {i} => nearZ_mem
  generalize nearZ known pats left = nl at *
  cases nl with
  | nil => exact absurd rfl h2
  | cons a l =>
    rcases minZ_mem (cmpZ x pats known) (zs l) (a : Int) with q | q
    · exact ⟨a, h3 List.mem_cons_self, q⟩
    · obtain ⟨i, hi, e⟩ := List.mem_map.1 q
      exact ⟨i, h3 (List.mem_cons_of_mem _ hi), e.symm⟩

theorem next_spec (S : S27 pol sums) (sl : sums 49 = some listSum) {n : Nat} {h : Hp} {pid mid c lid lver len : Nat} {fix : Bool} {known : List Str} {x : Sts} {lv : AV} {pats : List Ptn} {pv : AV} {left : List Nat} (hn : pats.length + x.lines.length + 30 ≤ n) (hb : pats.length < 2 ^ 40) (hbx : x.lines.length < 2 ^ 40) (hbk : known.length < 2 ^ 40)
    (a : PlAt h pid mid c known x lv pats pv (.own lid lver 0 left.length)) (o : RowInts h lid lver 0 fix len (zs left)) (hl : left ≠ []) (hlp : ∀ i ∈ left, i < pats.length) (hll : left.length ≤ pats.length) :
    Runs (qbt Try.prog pol sums n (.func (.func 23) [] []) [.ptr pid 0 0]) h (fun v h' => Keep h h' ∧ ∃ i, ∃ (hi : i < pats.length), i ∈ left ∧ pickZ x pats known left = (i : Int) ∧ v = .tuple [.int .i64 (i : Int), .int .i64 (opZ x known pats[i])]) := by
  have S' := S.rest
  have s23 : sums 23 = none := S' _ (by decide)
  obtain ⟨n, rfl⟩ : ∃ m, n = m + 1 := ⟨n - 1, by omega⟩
  refine qcq (by assumption) Try.func23 rfl (by simp [Try.f23]) ?_
  have a0 : qbq (qa9 Try.f23.ntmps (([] ++ [.ptr pid 0 0] ++ []) : List AV)) 0 = .ptr pid 0 0 := qa8 rfl
  generalize qa9 Try.f23.ntmps (([] ++ [.ptr pid 0 0] ++ []) : List AV) = T at *
  show Runs (qbn _ _ _ _ 60 _ _ _) _ _
  (repeat (first|refine KW.go ?_|((first|apply qaw|apply qaz|apply qa1|apply qa4|apply qay|apply qax|apply qar|apply qal|apply qaj|apply qap)<;>first|(apply qam;(repeat' first|assumption|exact qaa rfl|apply qaf rfl|apply qab);done)|exact qao _ _|exact qai _|exact qan _|exact qad|exact qag|exact qae|exact qac|exact qah _|exact qau _ (by omega)|exact qat (by omega)|exact qas (by omega)|exact rfl|assumption|apply qav)|((first|apply qa3|apply qaq|apply qak)<;>first|(apply qam;(repeat' first|assumption|exact qaa rfl|apply qaf rfl|apply qab);done)|exact qao _ _|exact qai _|exact qan _|exact qad|exact qag|exact qae|exact qac|exact qah _|exact qau _ (by omega)|exact qat (by omega)|exact qas (by omega)|exact rfl|assumption|apply qav)|(apply qa2 rfl rfl;(focus (repeat' first|assumption|exact qaa rfl|apply qaf rfl|apply qab);done))|(apply qbj rfl rfl;(focus (repeat' first|assumption|exact qaa rfl|apply qaf rfl|apply qab);done);exact rfl)))
  apply O_box
  · (focus first|(apply qam;(repeat' first|assumption|exact qaa rfl|apply qaf rfl|apply qab);done)|exact qao _ _|exact qai _|exact qan _|exact qad|exact qag|exact qae|exact qac|exact qah _)
  · rfl
  intro g1 i1 k1 r1 l1 l2
  change Row g1 i1 0 _ [.ptr pid 0 0] true at r1
  replace a := a.keep k1
  replace o := o.keep k1
  have ra := a.row
  (repeat (first|refine KW.go ?_|((first|apply qaw|apply qaz|apply qa1|apply qa4|apply qay|apply qax|apply qar|apply qal|apply qaj|apply qap)<;>first|(apply qam;(repeat' first|assumption|exact qaa rfl|apply qaf rfl|apply qab);done)|exact qao _ _|exact qai _|exact qan _|exact qad|exact qag|exact qae|exact qac|exact qah _|exact qau _ (by omega)|exact qat (by omega)|exact qas (by omega)|exact rfl|assumption|apply qav)|((first|apply qa3|apply qaq|apply qak)<;>first|(apply qam;(repeat' first|assumption|exact qaa rfl|apply qaf rfl|apply qab);done)|exact qao _ _|exact qai _|exact qan _|exact qad|exact qag|exact qae|exact qac|exact qah _|exact qau _ (by omega)|exact qat (by omega)|exact qas (by omega)|exact rfl|assumption|apply qav)|(apply qa2 rfl rfl;(focus (repeat' first|assumption|exact qaa rfl|apply qaf rfl|apply qab);done))|(apply qbj rfl rfl;(focus (repeat' first|assumption|exact qaa rfl|apply qaf rfl|apply qab);done);exact rfl)))
  apply qbk (n := 1)
  · (focus first|(apply qam;(repeat' first|assumption|exact qaa rfl|apply qaf rfl|apply qab);done)|exact qao _ _|exact qai _|exact qan _|exact qad|exact qag|exact qae|exact qac|exact qah _)
  · exact ra
  · rfl
  · exact rfl
  (apply qb5; (focus first|(apply qam;(repeat' first|assumption|exact qaa rfl|apply qaf rfl|apply qab);done)|exact qao _ _|exact qai _|exact qan _|exact qad|exact qag|exact qae|exact qac|exact qah _); (repeat (apply qbb; (focus first|(apply qam;(repeat' first|assumption|exact qaa rfl|apply qaf rfl|apply qab);done)|exact qao _ _|exact qai _|exact qan _|exact qad|exact qag|exact qae|exact qac|exact qah _))); exact qbi)
  refine (list_spec sl (by omega) a.kn hbk).mono ?_
  rintro v g2 ⟨rfl, rfl⟩
  refine ⟨Undis.off rfl, ?_⟩
  apply O_wf
  intro w1
  apply qdn
  intro g2 i4 k2 r4 l3 l4
  apply qcj
  · (focus first|(apply qam;(repeat' first|assumption|exact qaa rfl|apply qaf rfl|apply qab);done)|exact qao _ _|exact qai _|exact qan _|exact qad|exact qag|exact qae|exact qac|exact qah _)
  · (focus first|(apply qam;(repeat' first|assumption|exact qaa rfl|apply qaf rfl|apply qab);done)|exact qao _ _|exact qai _|exact qan _|exact qad|exact qag|exact qae|exact qac|exact qah _)
  · exact r4
  · rfl
  intro g3 kb3 r4
  refine ⟨Undis.off rfl, ?_⟩
  change Row g3 i4 0 1 [.bag (strs known)] true at r4
  have k3 : Keep g1 g3 := KeepBut.keep k2 kb3 fun i hi => w1.get (by omega)
  replace r1 := r1.keep k3
  replace a := a.keep k3
  replace o := o.keep k3
  have kk := k1.trans k3
  (repeat (first|refine KW.go ?_|((first|apply qaw|apply qaz|apply qa1|apply qa4|apply qay|apply qax|apply qar|apply qal|apply qaj|apply qap)<;>first|(apply qam;(repeat' first|assumption|exact qaa rfl|apply qaf rfl|apply qab);done)|exact qao _ _|exact qai _|exact qan _|exact qad|exact qag|exact qae|exact qac|exact qah _|exact qau _ (by omega)|exact qat (by omega)|exact qas (by omega)|exact rfl|assumption|apply qav)|((first|apply qa3|apply qaq|apply qak)<;>first|(apply qam;(repeat' first|assumption|exact qaa rfl|apply qaf rfl|apply qab);done)|exact qao _ _|exact qai _|exact qan _|exact qad|exact qag|exact qae|exact qac|exact qah _|exact qau _ (by omega)|exact qat (by omega)|exact qas (by omega)|exact rfl|assumption|apply qav)|(apply qa2 rfl rfl;(focus (repeat' first|assumption|exact qaa rfl|apply qaf rfl|apply qab);done))|(apply qbj rfl rfl;(focus (repeat' first|assumption|exact qaa rfl|apply qaf rfl|apply qab);done);exact rfl)))
  apply O_makeFunc (l1 := []) (l2 := [.ptr i1 0 0, .ptr i4 0 0])
  · exact qbi
  · exact qbb (by (focus first|(apply qam;(repeat' first|assumption|exact qaa rfl|apply qaf rfl|apply qab);done)|exact qao _ _|exact qai _|exact qan _|exact qad|exact qag|exact qae|exact qac|exact qah _)) (qbb (by (focus first|(apply qam;(repeat' first|assumption|exact qaa rfl|apply qaf rfl|apply qab);done)|exact qao _ _|exact qai _|exact qan _|exact qad|exact qag|exact qae|exact qac|exact qah _)) qbi)
  (repeat (first|refine KW.go ?_|((first|apply qaw|apply qaz|apply qa1|apply qa4|apply qay|apply qax|apply qar|apply qal|apply qaj|apply qap)<;>first|(apply qam;(repeat' first|assumption|exact qaa rfl|apply qaf rfl|apply qab);done)|exact qao _ _|exact qai _|exact qan _|exact qad|exact qag|exact qae|exact qac|exact qah _|exact qau _ (by omega)|exact qat (by omega)|exact qas (by omega)|exact rfl|assumption|apply qav)|((first|apply qa3|apply qaq|apply qak)<;>first|(apply qam;(repeat' first|assumption|exact qaa rfl|apply qaf rfl|apply qab);done)|exact qao _ _|exact qai _|exact qan _|exact qad|exact qag|exact qae|exact qac|exact qah _|exact qau _ (by omega)|exact qat (by omega)|exact qas (by omega)|exact rfl|assumption|apply qav)|(apply qa2 rfl rfl;(focus (repeat' first|assumption|exact qaa rfl|apply qaf rfl|apply qab);done))|(apply qbj rfl rfl;(focus (repeat' first|assumption|exact qaa rfl|apply qaf rfl|apply qab);done);exact rfl)))
  (apply qb5; (focus first|(apply qam;(repeat' first|assumption|exact qaa rfl|apply qaf rfl|apply qab);done)|exact qao _ _|exact qai _|exact qan _|exact qad|exact qag|exact qae|exact qac|exact qah _); (repeat (apply qbb; (focus first|(apply qam;(repeat' first|assumption|exact qaa rfl|apply qaf rfl|apply qab);done)|exact qao _ _|exact qai _|exact qan _|exact qad|exact qag|exact qae|exact qac|exact qah _))); exact qbi)
  refine (near_spec S (by omega) hb a o hl hlp hll).mono ?_
  rintro nv g4 ⟨k4, sn⟩
  refine ⟨Undis.off rfl, ?_⟩
  replace r1 := r1.keep k4
  replace r4 := r4.keep k4
  replace a := a.keep k4
  replace kk := kk.trans k4
  obtain ⟨i, hil, hi⟩ := pickZ_mem (x := x) (pats := pats) (known := known) hl
  have hip := hlp i hil
  have hnm : ∀ j ∈ nearZ known pats left, j < pats.length := fun j hj => hlp j (nearZ_mem hj)
  have hne := nearZ_ne (known := known) (pats := pats) hl
  have hnl := nearZ_length known pats left
  have hpz : pickZ x pats known left = match nearZ known pats left with
    | [] => 0
    | a :: l => minZ (cmpZ x pats known) (a : Int) (zs l) := rfl
  rw [hi] at hpz
  generalize nearZ known pats left = nl at *
  cases nl with
  | nil => exact absurd rfl hne
  | cons b l =>
  simp only [List.length_cons] at hnl
  (repeat (first|refine KW.go ?_|((first|apply qaw|apply qaz|apply qa1|apply qa4|apply qay|apply qax|apply qar|apply qal|apply qaj|apply qap)<;>first|(apply qam;(repeat' first|assumption|exact qaa rfl|apply qaf rfl|apply qab);done)|exact qao _ _|exact qai _|exact qan _|exact qad|exact qag|exact qae|exact qac|exact qah _|exact qau _ (by omega)|exact qat (by omega)|exact qas (by omega)|exact rfl|assumption|apply qav)|((first|apply qa3|apply qaq|apply qak)<;>first|(apply qam;(repeat' first|assumption|exact qaa rfl|apply qaf rfl|apply qab);done)|exact qao _ _|exact qai _|exact qan _|exact qad|exact qag|exact qae|exact qac|exact qah _|exact qau _ (by omega)|exact qat (by omega)|exact qas (by omega)|exact rfl|assumption|apply qav)|(apply qa2 rfl rfl;(focus (repeat' first|assumption|exact qaa rfl|apply qaf rfl|apply qab);done))|(apply qbj rfl rfl;(focus (repeat' first|assumption|exact qaa rfl|apply qaf rfl|apply qab);done);exact rfl)))
  (apply qb5; (focus first|(apply qam;(repeat' first|assumption|exact qaa rfl|apply qaf rfl|apply qab);done)|exact qao _ _|exact qai _|exact qan _|exact qad|exact qag|exact qae|exact qac|exact qah _); (repeat (apply qbb; (focus first|(apply qam;(repeat' first|assumption|exact qaa rfl|apply qaf rfl|apply qab);done)|exact qao _ _|exact qai _|exact qan _|exact qad|exact qag|exact qae|exact qac|exact qah _))); exact qbi)
  refine (minFunc_spec (S' _ (by decide)) _ (cmpZ x pats known) (a := (b : Int)) (l := zs l) (by simp; omega) sn (by simp; omega) ?_).mono ?_
  · intro m g5 hm k5 e he e' he'
    have hz : ∀ e ∈ (b : Int) :: zs l, ∃ j : Nat, e = (j : Int) ∧ j < pats.length := by
      intro e he
      rcases List.mem_cons.1 he with rfl | he
      · exact ⟨b, rfl, hnm b List.mem_cons_self⟩
      · obtain ⟨j, hj, rfl⟩ := List.mem_map.1 he
        exact ⟨j, rfl, hnm j (List.mem_cons_of_mem _ hj)⟩
    obtain ⟨j, rfl, hj⟩ := hz e he
    obtain ⟨j', rfl, hj'⟩ := hz e' he'
    exact cmp_spec S (by omega) hbx hbk hb (a.keep k5) (r1.keep k5) (r4.keep k5) hj hj'
  rintro v g5 ⟨k5, rfl⟩
  refine ⟨Undis.off rfl, ?_⟩
  replace r1 := r1.keep k5
  replace a := a.keep k5
  replace kk := kk.trans k5
  change (i : Int) = minZ (cmpZ x pats known) (b : Int) (zs l) at hpz
  rw [← hpz]
  have ra := a.row
  (repeat (first|refine KW.go ?_|((first|apply qaw|apply qaz|apply qa1|apply qa4|apply qay|apply qax|apply qar|apply qal|apply qaj|apply qap)<;>first|(apply qam;(repeat' first|assumption|exact qaa rfl|apply qaf rfl|apply qab);done)|exact qao _ _|exact qai _|exact qan _|exact qad|exact qag|exact qae|exact qac|exact qah _|exact qau _ (by omega)|exact qat (by omega)|exact qas (by omega)|exact rfl|assumption|apply qav)|((first|apply qa3|apply qaq|apply qak)<;>first|(apply qam;(repeat' first|assumption|exact qaa rfl|apply qaf rfl|apply qab);done)|exact qao _ _|exact qai _|exact qan _|exact qad|exact qag|exact qae|exact qac|exact qah _|exact qau _ (by omega)|exact qat (by omega)|exact qas (by omega)|exact rfl|assumption|apply qav)|(apply qa2 rfl rfl;(focus (repeat' first|assumption|exact qaa rfl|apply qaf rfl|apply qab);done))|(apply qbj rfl rfl;(focus (repeat' first|assumption|exact qaa rfl|apply qaf rfl|apply qab);done);exact rfl)))
  (refine R_drawn [0, 1, 2, 3, 4, 5, 6, 7, 8, 9, 10, 11, 12, 13, 14, 15, 16] [0, 1, 3, 7, 0, 16, 48, 112, 0, 496, 1008, 2047, 4095, 8191, 8191, 16383, 65535] (by kernel_rfl) (by kernel_rfl) (by rfl) ?_; dsimp only [qc1, List.map, List.getElem?_cons_zero, List.getElem?_cons_succ])
  (repeat (first|refine KW.go ?_|((first|apply qaw|apply qaz|apply qa1|apply qa4|apply qay|apply qax|apply qar|apply qal|apply qaj|apply qap)<;>first|(apply qam;(repeat' first|assumption|exact qaa rfl|apply qaf rfl|apply qab);done)|exact qao _ _|exact qai _|exact qan _|exact qad|exact qag|exact qae|exact qac|exact qah _|exact qau _ (by omega)|exact qat (by omega)|exact qas (by omega)|exact rfl|assumption|apply qav)|((first|apply qa3|apply qaq|apply qak)<;>first|(apply qam;(repeat' first|assumption|exact qaa rfl|apply qaf rfl|apply qab);done)|exact qao _ _|exact qai _|exact qan _|exact qad|exact qag|exact qae|exact qac|exact qah _|exact qau _ (by omega)|exact qat (by omega)|exact qas (by omega)|exact rfl|assumption|apply qav)|(apply qa2 rfl rfl;(focus (repeat' first|assumption|exact qaa rfl|apply qaf rfl|apply qab);done))|(apply qbj rfl rfl;(focus (repeat' first|assumption|exact qaa rfl|apply qaf rfl|apply qab);done);exact rfl)))
  apply qbk (n := 1)
  · (focus first|(apply qam;(repeat' first|assumption|exact qaa rfl|apply qaf rfl|apply qab);done)|exact qao _ _|exact qai _|exact qan _|exact qad|exact qag|exact qae|exact qac|exact qah _)
  · exact ra
  · rfl
  · exact rfl
  (repeat (first|refine KW.go ?_|((first|apply qaw|apply qaz|apply qa1|apply qa4|apply qay|apply qax|apply qar|apply qal|apply qaj|apply qap)<;>first|(apply qam;(repeat' first|assumption|exact qaa rfl|apply qaf rfl|apply qab);done)|exact qao _ _|exact qai _|exact qan _|exact qad|exact qag|exact qae|exact qac|exact qah _|exact qau _ (by omega)|exact qat (by omega)|exact qas (by omega)|exact rfl|assumption|apply qav)|((first|apply qa3|apply qaq|apply qak)<;>first|(apply qam;(repeat' first|assumption|exact qaa rfl|apply qaf rfl|apply qab);done)|exact qao _ _|exact qai _|exact qan _|exact qad|exact qag|exact qae|exact qac|exact qah _|exact qau _ (by omega)|exact qat (by omega)|exact qas (by omega)|exact rfl|assumption|apply qav)|(apply qa2 rfl rfl;(focus (repeat' first|assumption|exact qaa rfl|apply qaf rfl|apply qab);done))|(apply qbj rfl rfl;(focus (repeat' first|assumption|exact qaa rfl|apply qaf rfl|apply qab);done);exact rfl)))
  apply qbp
  · (focus first|(apply qam;(repeat' first|assumption|exact qaa rfl|apply qaf rfl|apply qab);done)|exact qao _ _|exact qai _|exact qan _|exact qad|exact qag|exact qae|exact qac|exact qah _)
  · exact a.pa
  · (focus first|(apply qam;(repeat' first|assumption|exact qaa rfl|apply qaf rfl|apply qab);done)|exact qao _ _|exact qai _|exact qan _|exact qad|exact qag|exact qae|exact qac|exact qah _)
  · exact hip
  · rfl
  intro p hat _
  rw [flat_at ptnC_len hip] at hat
  apply qcy
  · (focus first|(apply qam;(repeat' first|assumption|exact qaa rfl|apply qaf rfl|apply qab);done)|exact qao _ _|exact qai _|exact qan _|exact qad|exact qag|exact qae|exact qac|exact qah _)
  · exact hat
  · rfl
  (apply qb5; (focus first|(apply qam;(repeat' first|assumption|exact qaa rfl|apply qaf rfl|apply qab);done)|exact qao _ _|exact qai _|exact qan _|exact qad|exact qag|exact qae|exact qac|exact qah _); (repeat (apply qbb; (focus first|(apply qam;(repeat' first|assumption|exact qaa rfl|apply qaf rfl|apply qab);done)|exact qao _ _|exact qai _|exact qan _|exact qad|exact qag|exact qae|exact qac|exact qah _))); exact qbi)
  refine (parts_spec S.lit (S' _ (by decide)) (S' _ (by decide)) (S' _ (by decide)) (S' _ (by decide)) S.has (by omega) a.kn pats[i]).mono ?_
  rintro v g6 ⟨k6, sv, fv, rfl, s1, s2⟩
  refine ⟨k6.undis, ?_⟩
  replace r1 := r1.keep k6
  replace a := a.keep k6
  replace kk := kk.trans k6
  have ra := a.row
  (repeat (first|refine KW.go ?_|((first|apply qaw|apply qaz|apply qa1|apply qa4|apply qay|apply qax|apply qar|apply qal|apply qaj|apply qap)<;>first|(apply qam;(repeat' first|assumption|exact qaa rfl|apply qaf rfl|apply qab);done)|exact qao _ _|exact qai _|exact qan _|exact qad|exact qag|exact qae|exact qac|exact qah _|exact qau _ (by omega)|exact qat (by omega)|exact qas (by omega)|exact rfl|assumption|apply qav)|((first|apply qa3|apply qaq|apply qak)<;>first|(apply qam;(repeat' first|assumption|exact qaa rfl|apply qaf rfl|apply qab);done)|exact qao _ _|exact qai _|exact qan _|exact qad|exact qag|exact qae|exact qac|exact qah _|exact qau _ (by omega)|exact qat (by omega)|exact qas (by omega)|exact rfl|assumption|apply qav)|(apply qa2 rfl rfl;(focus (repeat' first|assumption|exact qaa rfl|apply qaf rfl|apply qab);done))|(apply qbj rfl rfl;(focus (repeat' first|assumption|exact qaa rfl|apply qaf rfl|apply qab);done);exact rfl)))
  apply qbx (((qb4 known pats[i]).length : Int) == 0)
  · (focus first|(apply qam;(repeat' first|assumption|exact qaa rfl|apply qaf rfl|apply qab);done)|exact qao _ _|exact qai _|exact qan _|exact qad|exact qag|exact qae|exact qac|exact qah _)
  · intro e
    have e : (qb4 known pats[i]).length = 0 := by simp at e; simp [e]
    (repeat (first|refine KW.go ?_|((first|apply qaw|apply qaz|apply qa1|apply qa4|apply qay|apply qax|apply qar|apply qal|apply qaj|apply qap)<;>first|(apply qam;(repeat' first|assumption|exact qaa rfl|apply qaf rfl|apply qab);done)|exact qao _ _|exact qai _|exact qan _|exact qad|exact qag|exact qae|exact qac|exact qah _|exact qau _ (by omega)|exact qat (by omega)|exact qas (by omega)|exact rfl|assumption|apply qav)|((first|apply qa3|apply qaq|apply qak)<;>first|(apply qam;(repeat' first|assumption|exact qaa rfl|apply qaf rfl|apply qab);done)|exact qao _ _|exact qai _|exact qan _|exact qad|exact qag|exact qae|exact qac|exact qah _|exact qau _ (by omega)|exact qat (by omega)|exact qas (by omega)|exact rfl|assumption|apply qav)|(apply qa2 rfl rfl;(focus (repeat' first|assumption|exact qaa rfl|apply qaf rfl|apply qab);done))|(apply qbj rfl rfl;(focus (repeat' first|assumption|exact qaa rfl|apply qaf rfl|apply qab);done);exact rfl)))
    apply R_results2 rfl
    · (repeat' first|assumption|exact qaa rfl|apply qaf rfl|apply qab)
    · (repeat' first|assumption|exact qaa rfl|apply qaf rfl|apply qab)
    exact ⟨kk, i, hip, hil, hi, by rw [opZ, if_pos e]⟩
  intro e
  have e : ¬ (qb4 known pats[i]).length = 0 := by simp at e; simp [e]
  (repeat (first|refine KW.go ?_|((first|apply qaw|apply qaz|apply qa1|apply qa4|apply qay|apply qax|apply qar|apply qal|apply qaj|apply qap)<;>first|(apply qam;(repeat' first|assumption|exact qaa rfl|apply qaf rfl|apply qab);done)|exact qao _ _|exact qai _|exact qan _|exact qad|exact qag|exact qae|exact qac|exact qah _|exact qau _ (by omega)|exact qat (by omega)|exact qas (by omega)|exact rfl|assumption|apply qav)|((first|apply qa3|apply qaq|apply qak)<;>first|(apply qam;(repeat' first|assumption|exact qaa rfl|apply qaf rfl|apply qab);done)|exact qao _ _|exact qai _|exact qan _|exact qad|exact qag|exact qae|exact qac|exact qah _|exact qau _ (by omega)|exact qat (by omega)|exact qas (by omega)|exact rfl|assumption|apply qav)|(apply qa2 rfl rfl;(focus (repeat' first|assumption|exact qaa rfl|apply qaf rfl|apply qab);done))|(apply qbj rfl rfl;(focus (repeat' first|assumption|exact qaa rfl|apply qaf rfl|apply qab);done);exact rfl)))
  (refine R_drawn [0, 1, 2, 3, 4, 5, 6, 7, 8, 9, 10, 11, 12, 13] [0, 1, 3, 7, 0, 16, 48, 112, 0, 496, 1008, 2047, 4095, 8191] (by kernel_rfl) (by kernel_rfl) (by rfl) ?_; dsimp only [qc1, List.map, List.getElem?_cons_zero, List.getElem?_cons_succ])
  (repeat (first|refine KW.go ?_|((first|apply qaw|apply qaz|apply qa1|apply qa4|apply qay|apply qax|apply qar|apply qal|apply qaj|apply qap)<;>first|(apply qam;(repeat' first|assumption|exact qaa rfl|apply qaf rfl|apply qab);done)|exact qao _ _|exact qai _|exact qan _|exact qad|exact qag|exact qae|exact qac|exact qah _|exact qau _ (by omega)|exact qat (by omega)|exact qas (by omega)|exact rfl|assumption|apply qav)|((first|apply qa3|apply qaq|apply qak)<;>first|(apply qam;(repeat' first|assumption|exact qaa rfl|apply qaf rfl|apply qab);done)|exact qao _ _|exact qai _|exact qan _|exact qad|exact qag|exact qae|exact qac|exact qah _|exact qau _ (by omega)|exact qat (by omega)|exact qas (by omega)|exact rfl|assumption|apply qav)|(apply qa2 rfl rfl;(focus (repeat' first|assumption|exact qaa rfl|apply qaf rfl|apply qab);done))|(apply qbj rfl rfl;(focus (repeat' first|assumption|exact qaa rfl|apply qaf rfl|apply qab);done);exact rfl)))
  apply qbk (n := 5)
  · (focus first|(apply qam;(repeat' first|assumption|exact qaa rfl|apply qaf rfl|apply qab);done)|exact qao _ _|exact qai _|exact qan _|exact qad|exact qag|exact qae|exact qac|exact qah _)
  · exact ra
  · rfl
  · exact rfl
  (repeat (first|refine KW.go ?_|((first|apply qaw|apply qaz|apply qa1|apply qa4|apply qay|apply qax|apply qar|apply qal|apply qaj|apply qap)<;>first|(apply qam;(repeat' first|assumption|exact qaa rfl|apply qaf rfl|apply qab);done)|exact qao _ _|exact qai _|exact qan _|exact qad|exact qag|exact qae|exact qac|exact qah _|exact qau _ (by omega)|exact qat (by omega)|exact qas (by omega)|exact rfl|assumption|apply qav)|((first|apply qa3|apply qaq|apply qak)<;>first|(apply qam;(repeat' first|assumption|exact qaa rfl|apply qaf rfl|apply qab);done)|exact qao _ _|exact qai _|exact qan _|exact qad|exact qag|exact qae|exact qac|exact qah _|exact qau _ (by omega)|exact qat (by omega)|exact qas (by omega)|exact rfl|assumption|apply qav)|(apply qa2 rfl rfl;(focus (repeat' first|assumption|exact qaa rfl|apply qaf rfl|apply qab);done))|(apply qbj rfl rfl;(focus (repeat' first|assumption|exact qaa rfl|apply qaf rfl|apply qab);done);exact rfl)))
  apply qbp
  · (focus first|(apply qam;(repeat' first|assumption|exact qaa rfl|apply qaf rfl|apply qab);done)|exact qao _ _|exact qai _|exact qan _|exact qad|exact qag|exact qae|exact qac|exact qah _)
  · exact a.pa
  · (focus first|(apply qam;(repeat' first|assumption|exact qaa rfl|apply qaf rfl|apply qab);done)|exact qao _ _|exact qai _|exact qan _|exact qad|exact qag|exact qae|exact qac|exact qah _)
  · exact hip
  · rfl
  intro p hat _
  rw [flat_at ptnC_len hip] at hat
  apply qcy
  · (focus first|(apply qam;(repeat' first|assumption|exact qaa rfl|apply qaf rfl|apply qab);done)|exact qao _ _|exact qai _|exact qan _|exact qad|exact qag|exact qae|exact qac|exact qah _)
  · exact hat
  · rfl
  (apply qb5; (focus first|(apply qam;(repeat' first|assumption|exact qaa rfl|apply qaf rfl|apply qab);done)|exact qao _ _|exact qai _|exact qan _|exact qad|exact qag|exact qae|exact qac|exact qah _); (repeat (apply qbb; (focus first|(apply qam;(repeat' first|assumption|exact qaa rfl|apply qaf rfl|apply qab);done)|exact qao _ _|exact qai _|exact qan _|exact qad|exact qag|exact qae|exact qac|exact qah _))); exact qbi)
  refine (guess_spec (known := []) (S' _ (by decide)) (S' _ (by decide)) S.has (S' _ (by decide)) (S' _ (by decide)) (by omega) a.li (.inl SlV.nil) (by omega) (by simp) pats[i]).mono ?_
  rintro v g7 ⟨k7, rfl⟩
  refine ⟨k7.undis, ?_⟩
  replace r1 := r1.keep k7
  replace a := a.keep k7
  replace kk := kk.trans k7
  replace s1 := s1.keep k7
  (repeat (first|refine KW.go ?_|((first|apply qaw|apply qaz|apply qa1|apply qa4|apply qay|apply qax|apply qar|apply qal|apply qaj|apply qap)<;>first|(apply qam;(repeat' first|assumption|exact qaa rfl|apply qaf rfl|apply qab);done)|exact qao _ _|exact qai _|exact qan _|exact qad|exact qag|exact qae|exact qac|exact qah _|exact qau _ (by omega)|exact qat (by omega)|exact qas (by omega)|exact rfl|assumption|apply qav)|((first|apply qa3|apply qaq|apply qak)<;>first|(apply qam;(repeat' first|assumption|exact qaa rfl|apply qaf rfl|apply qab);done)|exact qao _ _|exact qai _|exact qan _|exact qad|exact qag|exact qae|exact qac|exact qah _|exact qau _ (by omega)|exact qat (by omega)|exact qas (by omega)|exact rfl|assumption|apply qav)|(apply qa2 rfl rfl;(focus (repeat' first|assumption|exact qaa rfl|apply qaf rfl|apply qab);done))|(apply qbj rfl rfl;(focus (repeat' first|assumption|exact qaa rfl|apply qaf rfl|apply qab);done);exact rfl)))
  apply qbx (decide (guessZ x pats[i] [] ≤ 64))
  · (focus first|(apply qam;(repeat' first|assumption|exact qaa rfl|apply qaf rfl|apply qab);done)|exact qao _ _|exact qai _|exact qan _|exact qad|exact qag|exact qae|exact qac|exact qah _)
  · intro e2
    have e2 : guessZ x pats[i] [] ≤ 64 := by simpa using e2
    (repeat (first|refine KW.go ?_|((first|apply qaw|apply qaz|apply qa1|apply qa4|apply qay|apply qax|apply qar|apply qal|apply qaj|apply qap)<;>first|(apply qam;(repeat' first|assumption|exact qaa rfl|apply qaf rfl|apply qab);done)|exact qao _ _|exact qai _|exact qan _|exact qad|exact qag|exact qae|exact qac|exact qah _|exact qau _ (by omega)|exact qat (by omega)|exact qas (by omega)|exact rfl|assumption|apply qav)|((first|apply qa3|apply qaq|apply qak)<;>first|(apply qam;(repeat' first|assumption|exact qaa rfl|apply qaf rfl|apply qab);done)|exact qao _ _|exact qai _|exact qan _|exact qad|exact qag|exact qae|exact qac|exact qah _|exact qau _ (by omega)|exact qat (by omega)|exact qas (by omega)|exact rfl|assumption|apply qav)|(apply qa2 rfl rfl;(focus (repeat' first|assumption|exact qaa rfl|apply qaf rfl|apply qab);done))|(apply qbj rfl rfl;(focus (repeat' first|assumption|exact qaa rfl|apply qaf rfl|apply qab);done);exact rfl)))
    apply R_results2 rfl
    · (repeat' first|assumption|exact qaa rfl|apply qaf rfl|apply qab)
    · (repeat' first|assumption|exact qaa rfl|apply qaf rfl|apply qab)
    exact ⟨kk, i, hip, hil, hi, by rw [opZ, if_neg e, if_pos e2]⟩
  intro e2
  have e2 : ¬ guessZ x pats[i] [] ≤ 64 := by simpa using e2
  (repeat (first|refine KW.go ?_|((first|apply qaw|apply qaz|apply qa1|apply qa4|apply qay|apply qax|apply qar|apply qal|apply qaj|apply qap)<;>first|(apply qam;(repeat' first|assumption|exact qaa rfl|apply qaf rfl|apply qab);done)|exact qao _ _|exact qai _|exact qan _|exact qad|exact qag|exact qae|exact qac|exact qah _|exact qau _ (by omega)|exact qat (by omega)|exact qas (by omega)|exact rfl|assumption|apply qav)|((first|apply qa3|apply qaq|apply qak)<;>first|(apply qam;(repeat' first|assumption|exact qaa rfl|apply qaf rfl|apply qab);done)|exact qao _ _|exact qai _|exact qan _|exact qad|exact qag|exact qae|exact qac|exact qah _|exact qau _ (by omega)|exact qat (by omega)|exact qas (by omega)|exact rfl|assumption|apply qav)|(apply qa2 rfl rfl;(focus (repeat' first|assumption|exact qaa rfl|apply qaf rfl|apply qab);done))|(apply qbj rfl rfl;(focus (repeat' first|assumption|exact qaa rfl|apply qaf rfl|apply qab);done);exact rfl)))
  apply qbx (((qb4 known pats[i]).length : Int) == 1)
  · (focus first|(apply qam;(repeat' first|assumption|exact qaa rfl|apply qaf rfl|apply qab);done)|exact qao _ _|exact qai _|exact qan _|exact qad|exact qag|exact qae|exact qac|exact qah _)
  · intro e3
    have e3 : (qb4 known pats[i]).length = 1 := by simp at e3; omega
    (repeat (first|refine KW.go ?_|((first|apply qaw|apply qaz|apply qa1|apply qa4|apply qay|apply qax|apply qar|apply qal|apply qaj|apply qap)<;>first|(apply qam;(repeat' first|assumption|exact qaa rfl|apply qaf rfl|apply qab);done)|exact qao _ _|exact qai _|exact qan _|exact qad|exact qag|exact qae|exact qac|exact qah _|exact qau _ (by omega)|exact qat (by omega)|exact qas (by omega)|exact rfl|assumption|apply qav)|((first|apply qa3|apply qaq|apply qak)<;>first|(apply qam;(repeat' first|assumption|exact qaa rfl|apply qaf rfl|apply qab);done)|exact qao _ _|exact qai _|exact qan _|exact qad|exact qag|exact qae|exact qac|exact qah _|exact qau _ (by omega)|exact qat (by omega)|exact qas (by omega)|exact rfl|assumption|apply qav)|(apply qa2 rfl rfl;(focus (repeat' first|assumption|exact qaa rfl|apply qaf rfl|apply qab);done))|(apply qbj rfl rfl;(focus (repeat' first|assumption|exact qaa rfl|apply qaf rfl|apply qab);done);exact rfl)))
    apply R_results2 rfl
    · (repeat' first|assumption|exact qaa rfl|apply qaf rfl|apply qab)
    · (repeat' first|assumption|exact qaa rfl|apply qaf rfl|apply qab)
    exact ⟨kk, i, hip, hil, hi, by rw [opZ, if_neg e, if_neg e2, if_pos e3]⟩
  · intro e3
    have e3 : ¬ (qb4 known pats[i]).length = 1 := by simp at e3; omega
    (repeat (first|refine KW.go ?_|((first|apply qaw|apply qaz|apply qa1|apply qa4|apply qay|apply qax|apply qar|apply qal|apply qaj|apply qap)<;>first|(apply qam;(repeat' first|assumption|exact qaa rfl|apply qaf rfl|apply qab);done)|exact qao _ _|exact qai _|exact qan _|exact qad|exact qag|exact qae|exact qac|exact qah _|exact qau _ (by omega)|exact qat (by omega)|exact qas (by omega)|exact rfl|assumption|apply qav)|((first|apply qa3|apply qaq|apply qak)<;>first|(apply qam;(repeat' first|assumption|exact qaa rfl|apply qaf rfl|apply qab);done)|exact qao _ _|exact qai _|exact qan _|exact qad|exact qag|exact qae|exact qac|exact qah _|exact qau _ (by omega)|exact qat (by omega)|exact qas (by omega)|exact rfl|assumption|apply qav)|(apply qa2 rfl rfl;(focus (repeat' first|assumption|exact qaa rfl|apply qaf rfl|apply qab);done))|(apply qbj rfl rfl;(focus (repeat' first|assumption|exact qaa rfl|apply qaf rfl|apply qab);done);exact rfl)))
    apply R_results2 rfl
    · (repeat' first|assumption|exact qaa rfl|apply qaf rfl|apply qab)
    · (repeat' first|assumption|exact qaa rfl|apply qaf rfl|apply qab)
    exact ⟨kk, i, hip, hil, hi, by rw [opZ, if_neg e, if_neg e2, if_neg e3]⟩
end Go.Am
namespace Go.Am
open Go Go.Proofs AM
set_option maxRecDepth 10000
variable {pol : Pol} {sums : Sums}

theorem KeepBut.undis {X : Nat → Prop} {R : Rg} {seen : Seen} {i : Nat} {h h1 : Hp} (k : KeepBut X h h1) (hs : ∀ s ∈ seen, ∀ x ∈ s.2, ¬ X x.2) : Undis R seen i h h1 := fun _ s a ha => .inr fun x hx => by
  obtain ⟨o, ho⟩ := Option.isSome_iff_exists.1 (s a ha x hx)
  rw [ho]; exact k.same _ _ (hs a ha x hx) ho

theorem KBlock.mono {id : Nat} {Q Q' : Exit × qba → Hp → Prop} {x : Exit × qba} {h : Hp} (k : KBlock id Q x h) (q : ∀ x h, Q x h → Q' x h) : KBlock id Q' x h := by
  obtain ⟨e, T⟩ := x
  cases e <;> first | exact q _ _ k | skip
  rename_i id'
  change ite _ _ _ at k
  show ite _ _ _
  split
  · rename_i c; rw [if_pos c] at k; exact q _ _ k
  · rename_i c; rw [if_neg c] at k; exact q _ _ k
theorem R_midB {P : Program} {call : qb3} {fn nt fuel id : Nat} {c rest : Code} {T : qba} {h : Hp} {Q : Exit × qba → Hp → Prop} (Mid : qba → Hp → Prop) (r1 : Runs (qbn P pol call fn nt fuel c T) h (KBlock id (KMid Mid Q))) (r2 : ∀ T1 h1, Mid T1 h1 → Runs (qbn P pol call fn nt fuel rest T1) h1 Q) :
    Runs (qbn P pol call fn nt fuel c T) h (KBlock id (KSeq P pol call fn nt fuel rest Q)) := r1.mono fun x h1 q => q.mono fun x h1 q => by
  obtain ⟨e, T1⟩ := x
  cases e <;> first | exact r2 T1 h1 q | exact q

/-- what Of goes through: the places that are left, the names that are known -/
def learnZ (known : List Str) (p : Ptn) : List Str := (qcz [p]).foldl qdb known
def qde (x : Sts) (pats : List Ptn) : Nat → List Str → List Nat → List Nat × List Int
  | 0, _, _ => ([], [])
  | n + 1, known, left => if left = [] then ([], []) else
    let i := (pickZ x pats known left).toNat
    match pats[i]? with
    | none => ([], [])
    | some p =>
      let r := qde x pats n (learnZ known p) (left.filter (· ≠ i))
      (i :: r.1, opZ x known p :: r.2)
def qdv (x : Sts) (pats : List Ptn) : List Nat × List Int := qde x pats pats.length [] (List.range pats.length)
theorem learnZ_length (known : List Str) (p : Ptn) : (learnZ known p).length ≤ known.length + 3 := by
  have h1 : ∀ (l cur : List Str), (l.foldl qdb cur).length ≤ cur.length + l.length := by
    intro l; induction l with
    | nil => intro cur; simp
    | cons s l ih => intro cur; have := ih (qdb cur s); have := meet1_length cur s; simp only [List.foldl_cons, List.length_cons]; omega
  have := h1 (qcz [p]) known
  have := qct [p]
  simp only [List.length_singleton] at this
  unfold learnZ; omega
theorem filter_ne_length {left : List Nat} {i : Nat} (h : i ∈ left) : (left.filter (· ≠ i)).length < left.length := by
  induction left with
  | nil => cases h
  | cons a l ih =>
    by_cases e : a = i
    · subst e; simp only [List.filter_cons, ne_eq, not_true, decide_false, Bool.false_eq_true, if_false, List.length_cons]
      exact Nat.lt_succ_of_le (List.length_filter_le _ _)
    · have h' : i ∈ l := by rcases List.mem_cons.1 h with q | q; exact absurd q.symm e; exact q
      have := ih h'
      simp only [ne_eq] at this
      simp only [List.filter_cons, e, ne_eq, not_false_eq_true, decide_true, if_true, List.length_cons]; omega
theorem ofLoop_more (x : Sts) (pats : List Ptn) : ∀ (n m : Nat) (known : List Str) (left : List Nat), left.length ≤ n → n ≤ m → (∀ i ∈ left, i < pats.length) → qde x pats m known left = qde x pats n known left
  | 0, m, known, left, h, _, _ => by
    have : left = [] := List.length_eq_zero_iff.1 (by omega)
    subst this
    cases m <;> simp [qde]
  | n + 1, 0, _, _, _, h, _ => by omega
  | n + 1, m + 1, known, left, h1, h2, h3 => by
    simp only [qde]
    by_cases e : left = []
    · simp [e]
    · simp only [e, if_false]
      obtain ⟨i, hi, hp⟩ := pickZ_mem (x := x) (pats := pats) (known := known) e
      rw [hp]
      simp only [Int.toNat_natCast]
      have hip := h3 i hi
      rw [List.getElem?_eq_getElem hip]
      have hl := filter_ne_length hi
      dsimp only
      rw [ofLoop_more x pats n m _ _ (by omega) (by omega) (fun j hj => h3 j (List.mem_filter.1 hj).1)]
theorem ofLoop_step (x : Sts) (pats : List Ptn) {known : List Str} {left : List Nat} {i : Nat} (hi : i ∈ left) (hip : i < pats.length) (hp : pickZ x pats known left = (i : Int)) (h3 : ∀ i ∈ left, i < pats.length) :
    qde x pats left.length known left = (i :: (qde x pats (left.filter (· ≠ i)).length (learnZ known pats[i]) (left.filter (· ≠ i))).1, opZ x known pats[i] :: (qde x pats (left.filter (· ≠ i)).length (learnZ known pats[i]) (left.filter (· ≠ i))).2) := by
  have hne : left ≠ [] := by rintro rfl; cases hi
  obtain ⟨n, hn⟩ : ∃ n, left.length = n + 1 := ⟨left.length - 1, by have := List.length_pos_iff.2 hne; omega⟩
  have hl := filter_ne_length hi
  rw [hn]
  simp only [qde, hne, if_false, hp, Int.toNat_natCast, List.getElem?_eq_getElem hip]
  rw [ofLoop_more x pats _ n _ _ (Nat.le_refl _) (by omega) (fun j hj => h3 j (List.mem_filter.1 hj).1)]

attribute [local irreducible] KSeq KMid KBlock KLoop KOps KFunc Runs qb9 qbn qdl aop qbt qbq qbv qbv? qbd qbw qa9
theorem place_spec (hs : sums 25 = none) {n : Nat} (hn : 1 ≤ n) {h : Hp} {id : Nat} {i : Int} (r : Row h id 0 1 [.int .i64 i] true) (e : Int) :
    Runs (qbt Try.prog pol sums n (.func (.func 25) [] [.ptr id 0 0]) [.int .i64 e]) h (fun v h' => h = h' ∧ v = .bool (e == i)) := by
  obtain ⟨n, rfl⟩ : ∃ m, n = m + 1 := ⟨n - 1, by omega⟩
  refine qcq (by assumption) Try.func25 rfl (by simp [Try.f25]) ?_
  have a0 : qbq (qa9 Try.f25.ntmps (([] ++ [.int .i64 e] ++ [.ptr id 0 0]) : List AV)) 0 = .int .i64 e := qa8 rfl
  have a1 : qbq (qa9 Try.f25.ntmps (([] ++ [.int .i64 e] ++ [.ptr id 0 0]) : List AV)) 1 = .ptr id 0 0 := qa8 rfl
  generalize qa9 Try.f25.ntmps (([] ++ [.int .i64 e] ++ [.ptr id 0 0]) : List AV) = T at *
  show Runs (qbn _ _ _ _ 7 _ _ _) _ _
  (repeat (first|refine KW.go ?_|((first|apply qaw|apply qaz|apply qa1|apply qa4|apply qay|apply qax|apply qar|apply qal|apply qaj|apply qap)<;>first|(apply qam;(repeat' first|assumption|exact qaa rfl|apply qaf rfl|apply qab);done)|exact qao _ _|exact qai _|exact qan _|exact qad|exact qag|exact qae|exact qac|exact qah _|exact qau _ (by omega)|exact qat (by omega)|exact qas (by omega)|exact rfl|assumption|apply qav)|((first|apply qa3|apply qaq|apply qak)<;>first|(apply qam;(repeat' first|assumption|exact qaa rfl|apply qaf rfl|apply qab);done)|exact qao _ _|exact qai _|exact qan _|exact qad|exact qag|exact qae|exact qac|exact qah _|exact qau _ (by omega)|exact qat (by omega)|exact qas (by omega)|exact rfl|assumption|apply qav)|(apply qa2 rfl rfl;(focus (repeat' first|assumption|exact qaa rfl|apply qaf rfl|apply qab);done))|(apply qbj rfl rfl;(focus (repeat' first|assumption|exact qaa rfl|apply qaf rfl|apply qab);done);exact rfl)))
  (apply qbl rfl; (repeat' first|assumption|exact qaa rfl|apply qaf rfl|apply qab))
  exact ⟨rfl, rfl⟩

theorem PlAt.upd {g g1 : Hp} {X : Nat → Prop} {pid mid c : Nat} {known : List Str} {x : Sts} {lv : AV} {pats : List Ptn} {pv left left' : AV} (a : PlAt g pid mid c known x lv pats pv left) (k : KeepBut X g g1)
    (h1 : ¬ X mid) (h2 : ∀ i ∈ qb1 lv, ¬ X i) (h3 : ∀ i ∈ qb1 pv, ¬ X i) (r : Row g1 pid 0 8 (plC mid x lv pv left') true) : PlAt g1 pid mid c known x lv pats pv left' :=
  ⟨r, a.kn.keepBut k h1, a.li.keepBut k h2, a.pa.keepBut k h3⟩

structure OfSt (h g : Hp) (b pid mid oid c : Nat) (known : List Str) (x : Sts) (lv : AV) (pats : List Ptn) (pv : AV) (left : List Nat) (lw ov qv : AV) (order : List Nat) (ops : List Int) : Prop where
  kp : KeepBut (h.next ≤ ·) h g
  nx : b ≤ g.next
  pl : PlAt g pid mid c known x lv pats pv lw
  ol : Ints g lw (zs left)
  own : left ≠ [] → qb1 lw ≠ []
  grl : qdh lw = true
  row : Row g oid 0 2 [ov, qv] true
  oo : Ints g ov (zs order)
  op : Ints g qv ops
  gro : qdh ov = true
  grp : qdh qv = true
  il : ∀ k ∈ qb1 lw, b ≤ k ∧ k ∉ qb1 ov ∧ k ∉ qb1 qv
  io : ∀ k ∈ qb1 ov, b ≤ k ∧ k ∉ qb1 qv
  ip : ∀ k ∈ qb1 qv, b ≤ k
theorem of_plan_spec (S : S27 pol sums) (sl : sums 49 = some listSum) {n : Nat} {h : Hp} {x : Sts} {lv : AV} {pats : List Ptn} {pv : AV} (hn : pats.length + x.lines.length + 40 ≤ n) (hb : pats.length < 2 ^ 30) (hbx : x.lines.length < 2 ^ 40)
    (ox : Rows linC 7 h lv x.lines) (o : Rows ptnC 15 h pv pats) :
    Runs (qbt Try.prog pol sums n (.func (.func 8) [] []) [.agg (stsC x lv), pv]) h (fun v h' => Keep h h' ∧ ∃ ov qv, v = .agg [ov, qv] ∧ Ints h' ov (zs (qdv x pats).1) ∧ Ints h' qv (qdv x pats).2 ∧ (∀ k ∈ qb1 ov, h.next ≤ k ∧ k ∉ qb1 qv) ∧ (∀ k ∈ qb1 qv, h.next ≤ k)) := by
  apply Runs.wf
  intro w
  have S' := S.rest
  have s8 : sums 8 = none := S' _ (by decide)
  obtain ⟨n, rfl⟩ : ∃ m, n = m + 1 := ⟨n - 1, by omega⟩
  refine qcq (by assumption) Try.func8 rfl (by simp [Try.f8]) ?_
  have a0 : qbq (qa9 Try.f8.ntmps (([] ++ [.agg (stsC x lv), pv] ++ []) : List AV)) 0 = .agg (stsC x lv) := qa8 rfl
  have a1 : qbq (qa9 Try.f8.ntmps (([] ++ [.agg (stsC x lv), pv] ++ []) : List AV)) 1 = pv := qa8 rfl
  generalize qa9 Try.f8.ntmps (([] ++ [.agg (stsC x lv), pv] ++ []) : List AV) = T at *
  show Runs (qbn _ _ _ _ 75 _ _ _) _ _
  (repeat (first|refine KW.go ?_|((first|apply qaw|apply qaz|apply qa1|apply qa4|apply qay|apply qax|apply qar|apply qal|apply qaj|apply qap)<;>first|(apply qam;(repeat' first|assumption|exact qaa rfl|apply qaf rfl|apply qab);done)|exact qao _ _|exact qai _|exact qan _|exact qad|exact qag|exact qae|exact qac|exact qah _|exact qau _ (by omega)|exact qat (by omega)|exact qas (by omega)|exact rfl|assumption|apply qav)|((first|apply qa3|apply qaq|apply qak)<;>first|(apply qam;(repeat' first|assumption|exact qaa rfl|apply qaf rfl|apply qab);done)|exact qao _ _|exact qai _|exact qan _|exact qad|exact qag|exact qae|exact qac|exact qah _|exact qau _ (by omega)|exact qat (by omega)|exact qas (by omega)|exact rfl|assumption|apply qav)|(apply qa2 rfl rfl;(focus (repeat' first|assumption|exact qaa rfl|apply qaf rfl|apply qab);done))|(apply qbj rfl rfl;(focus (repeat' first|assumption|exact qaa rfl|apply qaf rfl|apply qab);done);exact rfl)))
  apply O_box
  · (focus first|(apply qam;(repeat' first|assumption|exact qaa rfl|apply qaf rfl|apply qab);done)|exact qao _ _|exact qai _|exact qan _|exact qad|exact qag|exact qae|exact qac|exact qah _)
  · rfl
  intro g1 i2 k1 r2 l1 l2
  change Row g1 i2 0 _ (stsC x lv) true at r2
  apply qdn
  intro g2 oid k2 ro l3 l4
  change Row g2 oid 0 _ [.sl .nil 0 [], .sl .nil 0 []] true at ro
  (repeat (first|refine KW.go ?_|((first|apply qaw|apply qaz|apply qa1|apply qa4|apply qay|apply qax|apply qar|apply qal|apply qaj|apply qap)<;>first|(apply qam;(repeat' first|assumption|exact qaa rfl|apply qaf rfl|apply qab);done)|exact qao _ _|exact qai _|exact qan _|exact qad|exact qag|exact qae|exact qac|exact qah _|exact qau _ (by omega)|exact qat (by omega)|exact qas (by omega)|exact rfl|assumption|apply qav)|((first|apply qa3|apply qaq|apply qak)<;>first|(apply qam;(repeat' first|assumption|exact qaa rfl|apply qaf rfl|apply qab);done)|exact qao _ _|exact qai _|exact qan _|exact qad|exact qag|exact qae|exact qac|exact qah _|exact qau _ (by omega)|exact qat (by omega)|exact qas (by omega)|exact rfl|assumption|apply qav)|(apply qa2 rfl rfl;(focus (repeat' first|assumption|exact qaa rfl|apply qaf rfl|apply qab);done))|(apply qbj rfl rfl;(focus (repeat' first|assumption|exact qaa rfl|apply qaf rfl|apply qab);done);exact rfl)))
  apply O_makeMap
  intro g3 mid k3 rm l5 l6
  apply O_build (c' := [.mapv mid])
  · exact qbs (by (focus first|(apply qam;(repeat' first|assumption|exact qaa rfl|apply qaf rfl|apply qab);done)|exact qao _ _|exact qai _|exact qan _|exact qad|exact qag|exact qae|exact qac|exact qah _)) qcc
  · rfl
  replace r2 := (r2.keep k2).keep k3
  replace ro := ro.keep k3
  have kk := (k1.trans k2).trans k3
  (repeat (first|refine KW.go ?_|((first|apply qaw|apply qaz|apply qa1|apply qa4|apply qay|apply qax|apply qar|apply qal|apply qaj|apply qap)<;>first|(apply qam;(repeat' first|assumption|exact qaa rfl|apply qaf rfl|apply qab);done)|exact qao _ _|exact qai _|exact qan _|exact qad|exact qag|exact qae|exact qac|exact qah _|exact qau _ (by omega)|exact qat (by omega)|exact qas (by omega)|exact rfl|assumption|apply qav)|((first|apply qa3|apply qaq|apply qak)<;>first|(apply qam;(repeat' first|assumption|exact qaa rfl|apply qaf rfl|apply qab);done)|exact qao _ _|exact qai _|exact qan _|exact qad|exact qag|exact qae|exact qac|exact qah _|exact qau _ (by omega)|exact qat (by omega)|exact qas (by omega)|exact rfl|assumption|apply qav)|(apply qa2 rfl rfl;(focus (repeat' first|assumption|exact qaa rfl|apply qaf rfl|apply qab);done))|(apply qbj rfl rfl;(focus (repeat' first|assumption|exact qaa rfl|apply qaf rfl|apply qab);done);exact rfl)))
  apply qbk (n := 5)
  · (focus first|(apply qam;(repeat' first|assumption|exact qaa rfl|apply qaf rfl|apply qab);done)|exact qao _ _|exact qai _|exact qan _|exact qad|exact qag|exact qae|exact qac|exact qah _)
  · exact r2
  · rfl
  · exact rfl
  (repeat (first|refine KW.go ?_|((first|apply qaw|apply qaz|apply qa1|apply qa4|apply qay|apply qax|apply qar|apply qal|apply qaj|apply qap)<;>first|(apply qam;(repeat' first|assumption|exact qaa rfl|apply qaf rfl|apply qab);done)|exact qao _ _|exact qai _|exact qan _|exact qad|exact qag|exact qae|exact qac|exact qah _|exact qau _ (by omega)|exact qat (by omega)|exact qas (by omega)|exact rfl|assumption|apply qav)|((first|apply qa3|apply qaq|apply qak)<;>first|(apply qam;(repeat' first|assumption|exact qaa rfl|apply qaf rfl|apply qab);done)|exact qao _ _|exact qai _|exact qan _|exact qad|exact qag|exact qae|exact qac|exact qah _|exact qau _ (by omega)|exact qat (by omega)|exact qas (by omega)|exact rfl|assumption|apply qav)|(apply qa2 rfl rfl;(focus (repeat' first|assumption|exact qaa rfl|apply qaf rfl|apply qab);done))|(apply qbj rfl rfl;(focus (repeat' first|assumption|exact qaa rfl|apply qaf rfl|apply qab);done);exact rfl)))
  have ax : acells lv = [lv] := ox.acells
  have ap : acells pv = [pv] := o.acells
  apply O_build (c' := plC mid x lv pv (.sl .nil 0 []))
  · exact qbs (by (focus first|(apply qam;(repeat' first|assumption|exact qaa rfl|apply qaf rfl|apply qab);done)|exact qao _ _|exact qai _|exact qan _|exact qad|exact qag|exact qae|exact qac|exact qah _)) (qbs (by (focus first|(apply qam;(repeat' first|assumption|exact qaa rfl|apply qaf rfl|apply qab);done)|exact qao _ _|exact qai _|exact qan _|exact qad|exact qag|exact qae|exact qac|exact qah _)) (qbs (by (focus first|(apply qam;(repeat' first|assumption|exact qaa rfl|apply qaf rfl|apply qab);done)|exact qao _ _|exact qai _|exact qan _|exact qad|exact qag|exact qae|exact qac|exact qah _)) qcc))
  · simp [afillL, splice, ap, o.known, show ∀ c, acells (.agg c) = c from fun _ => rfl, show ∀ c, Am.known (.agg c) = true from fun _ => rfl]
    rfl
  apply O_box
  · (focus first|(apply qam;(repeat' first|assumption|exact qaa rfl|apply qaf rfl|apply qab);done)|exact qao _ _|exact qai _|exact qan _|exact qad|exact qag|exact qae|exact qac|exact qah _)
  · rfl
  intro g4 pid k4 rp l7 l8
  change Row g4 pid 0 8 (plC mid x lv pv (.sl .nil 0 [])) true at rp
  replace rm := rm.keep k4
  replace ro := ro.keep k4
  replace kk := kk.trans k4
  have op := o.keep kk
  have okx := ox.keep kk
  have a0 : PlAt g4 pid mid 0 [] x lv pats pv (.sl .nil 0 []) := ⟨rp, ⟨[], rm, rfl, by simp⟩, okx, op⟩
  apply O_wf
  intro w4
  have hlv : ∀ k ∈ qb1 lv, k < g4.next := fun k hk => okx.lt w4 k hk
  have hpv : ∀ k ∈ qb1 pv, k < g4.next := fun k hk => op.lt w4 k hk
  have hh4 : h.next ≤ g4.next := kk.next
  (repeat (first|refine KW.go ?_|((first|apply qaw|apply qaz|apply qa1|apply qa4|apply qay|apply qax|apply qar|apply qal|apply qaj|apply qap)<;>first|(apply qam;(repeat' first|assumption|exact qaa rfl|apply qaf rfl|apply qab);done)|exact qao _ _|exact qai _|exact qan _|exact qad|exact qag|exact qae|exact qac|exact qah _|exact qau _ (by omega)|exact qat (by omega)|exact qas (by omega)|exact rfl|assumption|apply qav)|((first|apply qa3|apply qaq|apply qak)<;>first|(apply qam;(repeat' first|assumption|exact qaa rfl|apply qaf rfl|apply qab);done)|exact qao _ _|exact qai _|exact qan _|exact qad|exact qag|exact qae|exact qac|exact qah _|exact qau _ (by omega)|exact qat (by omega)|exact qas (by omega)|exact rfl|assumption|apply qav)|(apply qa2 rfl rfl;(focus (repeat' first|assumption|exact qaa rfl|apply qaf rfl|apply qab);done))|(apply qbj rfl rfl;(focus (repeat' first|assumption|exact qaa rfl|apply qaf rfl|apply qab);done);exact rfl)))
  apply R_midB (fun T g => qbq T 1 = pv ∧ qbq T 4 = .ptr oid 0 0 ∧ qbq T 5 = .ptr pid 0 0 ∧ ∃ lw, OfSt h g g4.next pid mid oid 0 [] x lv pats pv (List.range pats.length) lw (.sl .nil 0 []) (.sl .nil 0 []) [] [])
  · apply R_loop (k := pats.length) (I := fun k T g => ∃ i lw, k = pats.length - i ∧ i ≤ pats.length ∧ qbq T 1 = pv ∧ qbq T 4 = .ptr oid 0 0 ∧ qbq T 5 = .ptr pid 0 0 ∧ qbq T 16 = .int .i64 (pats.length : Nat) ∧ qbq T 17 = .int .i64 (i : Nat) ∧
      OfSt h g g4.next pid mid oid 0 [] x lv pats pv (List.range i) lw (.sl .nil 0 []) (.sl .nil 0 []) [] [])
    · omega
    · refine ⟨0, .sl .nil 0 [], by omega, by omega, by (repeat' first|assumption|exact qaa rfl|apply qaf rfl|apply qab), by (repeat' first|assumption|exact qaa rfl|apply qaf rfl|apply qab), by (repeat' first|assumption|exact qaa rfl|apply qaf rfl|apply qab), by (repeat' first|assumption|exact qaa rfl|apply qaf rfl|apply qab), by (repeat' first|assumption|exact qaa rfl|apply qaf rfl|apply qab), ⟨kk.but _, Nat.le_refl _, a0, SlV.nil, fun c => absurd rfl c, rfl, ro, SlV.nil, SlV.nil, rfl, rfl, ?_, ?_, ?_⟩⟩
      · intro k hk; cases hk
      · intro k hk; cases hk
      · intro k hk; cases hk
    · rintro k T g ⟨i, lw, rfl, hi, t1, t4, t5, t16, t17, st⟩
      (repeat (first|refine KW.go ?_|((first|apply qaw|apply qaz|apply qa1|apply qa4|apply qay|apply qax|apply qar|apply qal|apply qaj|apply qap)<;>first|(apply qam;(repeat' first|assumption|exact qaa rfl|apply qaf rfl|apply qab);done)|exact qao _ _|exact qai _|exact qan _|exact qad|exact qag|exact qae|exact qac|exact qah _|exact qau _ (by omega)|exact qat (by omega)|exact qas (by omega)|exact rfl|assumption|apply qav)|((first|apply qa3|apply qaq|apply qak)<;>first|(apply qam;(repeat' first|assumption|exact qaa rfl|apply qaf rfl|apply qab);done)|exact qao _ _|exact qai _|exact qan _|exact qad|exact qag|exact qae|exact qac|exact qah _|exact qau _ (by omega)|exact qat (by omega)|exact qas (by omega)|exact rfl|assumption|apply qav)|(apply qa2 rfl rfl;(focus (repeat' first|assumption|exact qaa rfl|apply qaf rfl|apply qab);done))|(apply qbj rfl rfl;(focus (repeat' first|assumption|exact qaa rfl|apply qaf rfl|apply qab);done);exact rfl)))
      apply qbx (decide ((i : Int) < (pats.length : Int)))
      · (focus first|(apply qam;(repeat' first|assumption|exact qaa rfl|apply qaf rfl|apply qab);done)|exact qao _ _|exact qai _|exact qan _|exact qad|exact qag|exact qae|exact qac|exact qah _)
      · intro c
        have hlt : i < pats.length := by simpa using c
        have ra := st.pl.row
        (repeat (first|refine KW.go ?_|((first|apply qaw|apply qaz|apply qa1|apply qa4|apply qay|apply qax|apply qar|apply qal|apply qaj|apply qap)<;>first|(apply qam;(repeat' first|assumption|exact qaa rfl|apply qaf rfl|apply qab);done)|exact qao _ _|exact qai _|exact qan _|exact qad|exact qag|exact qae|exact qac|exact qah _|exact qau _ (by omega)|exact qat (by omega)|exact qas (by omega)|exact rfl|assumption|apply qav)|((first|apply qa3|apply qaq|apply qak)<;>first|(apply qam;(repeat' first|assumption|exact qaa rfl|apply qaf rfl|apply qab);done)|exact qao _ _|exact qai _|exact qan _|exact qad|exact qag|exact qae|exact qac|exact qah _|exact qau _ (by omega)|exact qat (by omega)|exact qas (by omega)|exact rfl|assumption|apply qav)|(apply qa2 rfl rfl;(focus (repeat' first|assumption|exact qaa rfl|apply qaf rfl|apply qab);done))|(apply qbj rfl rfl;(focus (repeat' first|assumption|exact qaa rfl|apply qaf rfl|apply qab);done);exact rfl)))
        apply qcb
        · exact qbs (by (focus first|(apply qam;(repeat' first|assumption|exact qaa rfl|apply qaf rfl|apply qab);done)|exact qao _ _|exact qai _|exact qan _|exact qad|exact qag|exact qae|exact qac|exact qah _)) qcc
        · rfl
        · rfl
        · exact S.lit _ _
        intro _
        apply O_wf
        intro wg
        apply O_append (new := [.int .i64 (i : Int)]) (m := 1) (bytes := 8)
        · exact qbb (by (focus first|(apply qam;(repeat' first|assumption|exact qaa rfl|apply qaf rfl|apply qab);done)|exact qao _ _|exact qai _|exact qan _|exact qad|exact qag|exact qae|exact qac|exact qah _)) (qbb (by (focus first|(apply qam;(repeat' first|assumption|exact qaa rfl|apply qaf rfl|apply qab);done)|exact qao _ _|exact qai _|exact qan _|exact qad|exact qag|exact qae|exact qac|exact qah _)) qbi)
        · exact st.ol
        · exact st.grl
        · exact SlV.imm _ _ _ rfl
        · rfl
        · rfl
        · simp [room]; omega
        intro lw' g5 kb5 s5 gr5 iv5 ne5
        refine ⟨Undis.off rfl, ?_⟩
        have hx : ∀ j, j < g4.next → j ∉ qb1 lw := fun j hj hm => by have := (st.il j hm).1; omega
        replace ra := ra.keepBut kb5 (hx _ l8)
        (repeat (first|refine KW.go ?_|((first|apply qaw|apply qaz|apply qa1|apply qa4|apply qay|apply qax|apply qar|apply qal|apply qaj|apply qap)<;>first|(apply qam;(repeat' first|assumption|exact qaa rfl|apply qaf rfl|apply qab);done)|exact qao _ _|exact qai _|exact qan _|exact qad|exact qag|exact qae|exact qac|exact qah _|exact qau _ (by omega)|exact qat (by omega)|exact qas (by omega)|exact rfl|assumption|apply qav)|((first|apply qa3|apply qaq|apply qak)<;>first|(apply qam;(repeat' first|assumption|exact qaa rfl|apply qaf rfl|apply qab);done)|exact qao _ _|exact qai _|exact qan _|exact qad|exact qag|exact qae|exact qac|exact qah _|exact qau _ (by omega)|exact qat (by omega)|exact qas (by omega)|exact rfl|assumption|apply qav)|(apply qa2 rfl rfl;(focus (repeat' first|assumption|exact qaa rfl|apply qaf rfl|apply qab);done))|(apply qbj rfl rfl;(focus (repeat' first|assumption|exact qaa rfl|apply qaf rfl|apply qab);done);exact rfl)))
        apply qcj
        · (focus first|(apply qam;(repeat' first|assumption|exact qaa rfl|apply qaf rfl|apply qab);done)|exact qao _ _|exact qai _|exact qan _|exact qad|exact qag|exact qae|exact qac|exact qah _)
        · (focus first|(apply qam;(repeat' first|assumption|exact qaa rfl|apply qaf rfl|apply qab);done)|exact qao _ _|exact qai _|exact qan _|exact qad|exact qag|exact qae|exact qac|exact qah _)
        · exact ra
        · simp [s5.acells, s5.one, ones]
        intro g6 kb6 r6
        refine ⟨Undis.off rfl, ?_⟩
        have r6' : Row g6 pid 0 8 (plC mid x lv pv lw') true := by
          have e : splice (plC mid x lv pv lw) (0 + 7) (acells lw') = plC mid x lv pv lw' := by rw [s5.acells]; rfl
          rw [← e]; exact r6
        have k6 : KeepBut (fun j => j = pid ∨ j ∈ qb1 lw) g g6 := (kb5.weaken fun _ h => .inr h).trans (kb6.weaken fun _ h => .inl h)
        have hg : g4.next ≤ g.next := st.nx
        have hlw' : ∀ k ∈ qb1 lw', g4.next ≤ k := fun k hk => by
          rcases iv5 k hk with q | q
          · exact (st.il k q).1
          · omega
        (repeat (first|refine KW.go ?_|((first|apply qaw|apply qaz|apply qa1|apply qa4|apply qay|apply qax|apply qar|apply qal|apply qaj|apply qap)<;>first|(apply qam;(repeat' first|assumption|exact qaa rfl|apply qaf rfl|apply qab);done)|exact qao _ _|exact qai _|exact qan _|exact qad|exact qag|exact qae|exact qac|exact qah _|exact qau _ (by omega)|exact qat (by omega)|exact qas (by omega)|exact rfl|assumption|apply qav)|((first|apply qa3|apply qaq|apply qak)<;>first|(apply qam;(repeat' first|assumption|exact qaa rfl|apply qaf rfl|apply qab);done)|exact qao _ _|exact qai _|exact qan _|exact qad|exact qag|exact qae|exact qac|exact qah _|exact qau _ (by omega)|exact qat (by omega)|exact qas (by omega)|exact rfl|assumption|apply qav)|(apply qa2 rfl rfl;(focus (repeat' first|assumption|exact qaa rfl|apply qaf rfl|apply qab);done))|(apply qbj rfl rfl;(focus (repeat' first|assumption|exact qaa rfl|apply qaf rfl|apply qab);done);exact rfl)))
        apply qdg (pats.length - (i + 1)) (by omega)
        refine ⟨i + 1, lw', rfl, by omega, by (repeat' first|assumption|exact qaa rfl|apply qaf rfl|apply qab), by (repeat' first|assumption|exact qaa rfl|apply qaf rfl|apply qab), by (repeat' first|assumption|exact qaa rfl|apply qaf rfl|apply qab), by (repeat' first|assumption|exact qaa rfl|apply qaf rfl|apply qab), by (repeat' first|assumption|exact qaa rfl|apply qaf rfl|apply qab), ⟨st.kp.trans (k6.weaken ?_), Nat.le_trans hg k6.next, st.pl.upd k6 ?_ ?_ ?_ r6', ?_, ?_, gr5, st.row.keepBut k6 ?_, SlV.nil, SlV.nil, rfl, rfl, ?_, ?_, ?_⟩⟩
        · rintro j (rfl | hj)
          · omega
          · have := (st.il j hj).1; omega
        · rintro (q | q)
          · omega
          · exact hx _ (by omega) q
        · rintro j hj (q | q)
          · have := ox.lt w j hj; omega
          · exact hx _ (hlv j hj) q
        · rintro j hj (q | q)
          · have := o.lt w j hj; omega
          · exact hx _ (hpv j hj) q
        · have := s5.keepBut kb6 fun j hj q => by have := hlw' j hj; omega
          rw [List.range_succ]
          simpa [zs, ints, Ints] using this
        · intro _; exact ne5 (by omega)
        · rintro (q | q)
          · omega
          · exact hx _ (by omega) q
        · intro j hj
          exact ⟨hlw' j hj, by simp [qb1], by simp [qb1]⟩
        · intro j hj; cases hj
        · intro j hj; cases hj
      · intro c
        have : i = pats.length := by
          have : ¬ i < pats.length := by simpa using c
          omega
        subst this
        (repeat (first|refine KW.go ?_|((first|apply qaw|apply qaz|apply qa1|apply qa4|apply qay|apply qax|apply qar|apply qal|apply qaj|apply qap)<;>first|(apply qam;(repeat' first|assumption|exact qaa rfl|apply qaf rfl|apply qab);done)|exact qao _ _|exact qai _|exact qan _|exact qad|exact qag|exact qae|exact qac|exact qah _|exact qau _ (by omega)|exact qat (by omega)|exact qas (by omega)|exact rfl|assumption|apply qav)|((first|apply qa3|apply qaq|apply qak)<;>first|(apply qam;(repeat' first|assumption|exact qaa rfl|apply qaf rfl|apply qab);done)|exact qao _ _|exact qai _|exact qan _|exact qad|exact qag|exact qae|exact qac|exact qah _|exact qau _ (by omega)|exact qat (by omega)|exact qas (by omega)|exact rfl|assumption|apply qav)|(apply qa2 rfl rfl;(focus (repeat' first|assumption|exact qaa rfl|apply qaf rfl|apply qab);done))|(apply qbj rfl rfl;(focus (repeat' first|assumption|exact qaa rfl|apply qaf rfl|apply qab);done);exact rfl)))
        apply K_mid
        exact ⟨by (repeat' first|assumption|exact qaa rfl|apply qaf rfl|apply qab), by (repeat' first|assumption|exact qaa rfl|apply qaf rfl|apply qab), by (repeat' first|assumption|exact qaa rfl|apply qaf rfl|apply qab), lw, st⟩
  rintro T g ⟨t1, t4, t5, lw, st⟩
  have hrl : ∀ i ∈ List.range pats.length, i < pats.length := fun i hi => List.mem_range.1 hi
  (repeat (first|refine KW.go ?_|((first|apply qaw|apply qaz|apply qa1|apply qa4|apply qay|apply qax|apply qar|apply qal|apply qaj|apply qap)<;>first|(apply qam;(repeat' first|assumption|exact qaa rfl|apply qaf rfl|apply qab);done)|exact qao _ _|exact qai _|exact qan _|exact qad|exact qag|exact qae|exact qac|exact qah _|exact qau _ (by omega)|exact qat (by omega)|exact qas (by omega)|exact rfl|assumption|apply qav)|((first|apply qa3|apply qaq|apply qak)<;>first|(apply qam;(repeat' first|assumption|exact qaa rfl|apply qaf rfl|apply qab);done)|exact qao _ _|exact qai _|exact qan _|exact qad|exact qag|exact qae|exact qac|exact qah _|exact qau _ (by omega)|exact qat (by omega)|exact qas (by omega)|exact rfl|assumption|apply qav)|(apply qa2 rfl rfl;(focus (repeat' first|assumption|exact qaa rfl|apply qaf rfl|apply qab);done))|(apply qbj rfl rfl;(focus (repeat' first|assumption|exact qaa rfl|apply qaf rfl|apply qab);done);exact rfl)))
  apply R_midB (fun T g => qbq T 4 = .ptr oid 0 0 ∧ ∃ c known left lw ov qv, OfSt h g g4.next pid mid oid c known x lv pats pv left lw ov qv (qdv x pats).1 (qdv x pats).2)
  · apply R_loop (k := pats.length) (I := fun k T g => ∃ c known left lw ov qv order ops, left.length ≤ k ∧ qbq T 1 = pv ∧ qbq T 4 = .ptr oid 0 0 ∧ qbq T 5 = .ptr pid 0 0 ∧
      OfSt h g g4.next pid mid oid c known x lv pats pv left lw ov qv order ops ∧ (∀ i ∈ left, i < pats.length) ∧ left.length ≤ pats.length ∧ c + 3 * left.length ≤ 3 * pats.length ∧ known.length ≤ c ∧ order.length + left.length ≤ pats.length ∧ ops.length = order.length ∧
      order ++ (qde x pats left.length known left).1 = (qdv x pats).1 ∧ ops ++ (qde x pats left.length known left).2 = (qdv x pats).2)
    · omega
    · exact ⟨0, [], List.range pats.length, lw, _, _, [], [], by simp, by (repeat' first|assumption|exact qaa rfl|apply qaf rfl|apply qab), by (repeat' first|assumption|exact qaa rfl|apply qaf rfl|apply qab), by (repeat' first|assumption|exact qaa rfl|apply qaf rfl|apply qab), st, hrl, by simp, by simp, by simp, by simp, rfl, by simp [qdv], by simp [qdv]⟩
    · rintro k T g ⟨c, known, left, lw, ov, qv, order, ops, hlk, t1, t4, t5, st, hlp, hll, hc, hkc, hol, hpl, ho1, ho2⟩
      have ra := st.pl.row
      have sol := st.ol
      (repeat (first|refine KW.go ?_|((first|apply qaw|apply qaz|apply qa1|apply qa4|apply qay|apply qax|apply qar|apply qal|apply qaj|apply qap)<;>first|(apply qam;(repeat' first|assumption|exact qaa rfl|apply qaf rfl|apply qab);done)|exact qao _ _|exact qai _|exact qan _|exact qad|exact qag|exact qae|exact qac|exact qah _|exact qau _ (by omega)|exact qat (by omega)|exact qas (by omega)|exact rfl|assumption|apply qav)|((first|apply qa3|apply qaq|apply qak)<;>first|(apply qam;(repeat' first|assumption|exact qaa rfl|apply qaf rfl|apply qab);done)|exact qao _ _|exact qai _|exact qan _|exact qad|exact qag|exact qae|exact qac|exact qah _|exact qau _ (by omega)|exact qat (by omega)|exact qas (by omega)|exact rfl|assumption|apply qav)|(apply qa2 rfl rfl;(focus (repeat' first|assumption|exact qaa rfl|apply qaf rfl|apply qab);done))|(apply qbj rfl rfl;(focus (repeat' first|assumption|exact qaa rfl|apply qaf rfl|apply qab);done);exact rfl)))
      apply qbx (decide (((zs left).length : Int) > 0))
      · (focus first|(apply qam;(repeat' first|assumption|exact qaa rfl|apply qaf rfl|apply qab);done)|exact qao _ _|exact qai _|exact qan _|exact qad|exact qag|exact qae|exact qac|exact qah _)
      · intro cc
        have hne : left ≠ [] := by rintro rfl; simp [zs] at cc
        obtain ⟨lid, lver, fix, len, rfl, ro2⟩ := st.ol.rowInts (st.own hne) st.grl
        have hlid := st.il lid (by simp [qb1])
        have hzl : (zs left).length = left.length := qcp left
        have hpl2 := st.pl
        rw [hzl] at hpl2
        (repeat (first|refine KW.go ?_|((first|apply qaw|apply qaz|apply qa1|apply qa4|apply qay|apply qax|apply qar|apply qal|apply qaj|apply qap)<;>first|(apply qam;(repeat' first|assumption|exact qaa rfl|apply qaf rfl|apply qab);done)|exact qao _ _|exact qai _|exact qan _|exact qad|exact qag|exact qae|exact qac|exact qah _|exact qau _ (by omega)|exact qat (by omega)|exact qas (by omega)|exact rfl|assumption|apply qav)|((first|apply qa3|apply qaq|apply qak)<;>first|(apply qam;(repeat' first|assumption|exact qaa rfl|apply qaf rfl|apply qab);done)|exact qao _ _|exact qai _|exact qan _|exact qad|exact qag|exact qae|exact qac|exact qah _|exact qau _ (by omega)|exact qat (by omega)|exact qas (by omega)|exact rfl|assumption|apply qav)|(apply qa2 rfl rfl;(focus (repeat' first|assumption|exact qaa rfl|apply qaf rfl|apply qab);done))|(apply qbj rfl rfl;(focus (repeat' first|assumption|exact qaa rfl|apply qaf rfl|apply qab);done);exact rfl)))
        (apply qb5; (focus first|(apply qam;(repeat' first|assumption|exact qaa rfl|apply qaf rfl|apply qab);done)|exact qao _ _|exact qai _|exact qan _|exact qad|exact qag|exact qae|exact qac|exact qah _); (repeat (apply qbb; (focus first|(apply qam;(repeat' first|assumption|exact qaa rfl|apply qaf rfl|apply qab);done)|exact qao _ _|exact qai _|exact qan _|exact qad|exact qag|exact qae|exact qac|exact qah _))); exact qbi)
        apply Runs.wf
        intro wg
        refine (next_spec S sl (by omega) (by omega) hbx (by omega) hpl2 ro2 hne hlp hll).mono ?_
        rintro v g5 ⟨k5, i, hip, hil, hpk, rfl⟩
        refine ⟨Undis.off rfl, ?_⟩
        (repeat (first|refine KW.go ?_|((first|apply qaw|apply qaz|apply qa1|apply qa4|apply qay|apply qax|apply qar|apply qal|apply qaj|apply qap)<;>first|(apply qam;(repeat' first|assumption|exact qaa rfl|apply qaf rfl|apply qab);done)|exact qao _ _|exact qai _|exact qan _|exact qad|exact qag|exact qae|exact qac|exact qah _|exact qau _ (by omega)|exact qat (by omega)|exact qas (by omega)|exact rfl|assumption|apply qav)|((first|apply qa3|apply qaq|apply qak)<;>first|(apply qam;(repeat' first|assumption|exact qaa rfl|apply qaf rfl|apply qab);done)|exact qao _ _|exact qai _|exact qan _|exact qad|exact qag|exact qae|exact qac|exact qah _|exact qau _ (by omega)|exact qat (by omega)|exact qas (by omega)|exact rfl|assumption|apply qav)|(apply qa2 rfl rfl;(focus (repeat' first|assumption|exact qaa rfl|apply qaf rfl|apply qab);done))|(apply qbj rfl rfl;(focus (repeat' first|assumption|exact qaa rfl|apply qaf rfl|apply qab);done);exact rfl)))
        apply O_wf
        intro w5
        apply qdn
        intro g6 i7 k6 r7 l9 l10
        apply qcj
        · (focus first|(apply qam;(repeat' first|assumption|exact qaa rfl|apply qaf rfl|apply qab);done)|exact qao _ _|exact qai _|exact qan _|exact qad|exact qag|exact qae|exact qac|exact qah _)
        · (focus first|(apply qam;(repeat' first|assumption|exact qaa rfl|apply qaf rfl|apply qab);done)|exact qao _ _|exact qai _|exact qan _|exact qad|exact qag|exact qae|exact qac|exact qah _)
        · exact r7
        · rfl
        intro g7 kb7 r7
        refine ⟨Undis.off rfl, ?_⟩
        change Row g7 i7 0 1 [.int .i64 (i : Int)] true at r7
        have k7 : Keep g g7 := k5.trans (KeepBut.keep k6 kb7 fun j hj => w5.get (by omega))
        have ngx := st.nx
        have hi7 : g.next ≤ i7 := Nat.le_trans k5.next l9
        have ro7 := st.row.keep k7
        have oo7 := st.oo.keep k7
        have op7 := st.op.keep k7
        have pl7 := st.pl.keep k7
        replace ro2 := ro2.keep k7
        have lov : ∀ j ∈ qb1 ov, j < g.next := st.oo.lt wg
        have lqv : ∀ j ∈ qb1 qv, j < g.next := st.op.lt wg
        have llid : lid < g.next := st.ol.lt wg lid (by simp [qb1])
        have hoid : oid < g4.next := by have := k3.next; have := k4.next; omega
        have hmid : mid < g4.next := by have := k4.next; omega
        have xov : ∀ j, j < g4.next ∨ g.next ≤ j → j ∉ qb1 ov := fun j hj hm => by have := (st.io j hm).1; have := lov j hm; omega
        have xqv : ∀ j, j < g4.next ∨ g.next ≤ j → j ∉ qb1 qv := fun j hj hm => by have := st.ip j hm; have := lqv j hm; omega
        (repeat (first|refine KW.go ?_|((first|apply qaw|apply qaz|apply qa1|apply qa4|apply qay|apply qax|apply qar|apply qal|apply qaj|apply qap)<;>first|(apply qam;(repeat' first|assumption|exact qaa rfl|apply qaf rfl|apply qab);done)|exact qao _ _|exact qai _|exact qan _|exact qad|exact qag|exact qae|exact qac|exact qah _|exact qau _ (by omega)|exact qat (by omega)|exact qas (by omega)|exact rfl|assumption|apply qav)|((first|apply qa3|apply qaq|apply qak)<;>first|(apply qam;(repeat' first|assumption|exact qaa rfl|apply qaf rfl|apply qab);done)|exact qao _ _|exact qai _|exact qan _|exact qad|exact qag|exact qae|exact qac|exact qah _|exact qau _ (by omega)|exact qat (by omega)|exact qas (by omega)|exact rfl|assumption|apply qav)|(apply qa2 rfl rfl;(focus (repeat' first|assumption|exact qaa rfl|apply qaf rfl|apply qab);done))|(apply qbj rfl rfl;(focus (repeat' first|assumption|exact qaa rfl|apply qaf rfl|apply qab);done);exact rfl)))
        (refine R_drawn [0, 1, 2, 5, 6, 7, 3, 4, 10, 8, 9, 11, 12, 13] [0, 1, 0, 4, 15, 0, 32, 0, 128, 511, 127, 2047, 4095, 8191] (by kernel_rfl) (by kernel_rfl) (by rfl) ?_; dsimp only [qc1, List.map, List.getElem?_cons_zero, List.getElem?_cons_succ])
        (repeat (first|refine KW.go ?_|((first|apply qaw|apply qaz|apply qa1|apply qa4|apply qay|apply qax|apply qar|apply qal|apply qaj|apply qap)<;>first|(apply qam;(repeat' first|assumption|exact qaa rfl|apply qaf rfl|apply qab);done)|exact qao _ _|exact qai _|exact qan _|exact qad|exact qag|exact qae|exact qac|exact qah _|exact qau _ (by omega)|exact qat (by omega)|exact qas (by omega)|exact rfl|assumption|apply qav)|((first|apply qa3|apply qaq|apply qak)<;>first|(apply qam;(repeat' first|assumption|exact qaa rfl|apply qaf rfl|apply qab);done)|exact qao _ _|exact qai _|exact qan _|exact qad|exact qag|exact qae|exact qac|exact qah _|exact qau _ (by omega)|exact qat (by omega)|exact qas (by omega)|exact rfl|assumption|apply qav)|(apply qa2 rfl rfl;(focus (repeat' first|assumption|exact qaa rfl|apply qaf rfl|apply qab);done))|(apply qbj rfl rfl;(focus (repeat' first|assumption|exact qaa rfl|apply qaf rfl|apply qab);done);exact rfl)))
        apply qcb
        · exact qbs (by (focus first|(apply qam;(repeat' first|assumption|exact qaa rfl|apply qaf rfl|apply qab);done)|exact qao _ _|exact qai _|exact qan _|exact qad|exact qag|exact qae|exact qac|exact qah _)) qcc
        · rfl
        · rfl
        · exact S.lit _ _
        intro _
        apply O_wf
        intro w7
        apply O_append (new := [.int .i64 (i : Int)]) (m := 1) (bytes := 8)
        · exact qbb (by (focus first|(apply qam;(repeat' first|assumption|exact qaa rfl|apply qaf rfl|apply qab);done)|exact qao _ _|exact qai _|exact qan _|exact qad|exact qag|exact qae|exact qac|exact qah _)) (qbb (by (focus first|(apply qam;(repeat' first|assumption|exact qaa rfl|apply qaf rfl|apply qab);done)|exact qao _ _|exact qai _|exact qan _|exact qad|exact qag|exact qae|exact qac|exact qah _)) qbi)
        · exact oo7
        · exact st.gro
        · exact SlV.imm _ _ _ rfl
        · rfl
        · rfl
        · simp [room]; omega
        intro ov' g8 kb8 so8 gro8 iv8 _
        refine ⟨kb8.undis ?_, ?_⟩
        · have h1 := xov oid (.inl hoid)
          have h2 := xov i7 (.inr hi7)
          simp [h1, h2]
        (repeat (first|refine KW.go ?_|((first|apply qaw|apply qaz|apply qa1|apply qa4|apply qay|apply qax|apply qar|apply qal|apply qaj|apply qap)<;>first|(apply qam;(repeat' first|assumption|exact qaa rfl|apply qaf rfl|apply qab);done)|exact qao _ _|exact qai _|exact qan _|exact qad|exact qag|exact qae|exact qac|exact qah _|exact qau _ (by omega)|exact qat (by omega)|exact qas (by omega)|exact rfl|assumption|apply qav)|((first|apply qa3|apply qaq|apply qak)<;>first|(apply qam;(repeat' first|assumption|exact qaa rfl|apply qaf rfl|apply qab);done)|exact qao _ _|exact qai _|exact qan _|exact qad|exact qag|exact qae|exact qac|exact qah _|exact qau _ (by omega)|exact qat (by omega)|exact qas (by omega)|exact rfl|assumption|apply qav)|(apply qa2 rfl rfl;(focus (repeat' first|assumption|exact qaa rfl|apply qaf rfl|apply qab);done))|(apply qbj rfl rfl;(focus (repeat' first|assumption|exact qaa rfl|apply qaf rfl|apply qab);done);exact rfl)))
        apply qcb
        · exact qbs (by (focus first|(apply qam;(repeat' first|assumption|exact qaa rfl|apply qaf rfl|apply qab);done)|exact qao _ _|exact qai _|exact qan _|exact qad|exact qag|exact qae|exact qac|exact qah _)) qcc
        · rfl
        · rfl
        · exact S.lit _ _
        intro _
        have op8 := op7.keepBut kb8 fun j hj hm => (st.io j hm).2 hj
        apply O_append (new := [.int .i64 (opZ x known pats[i])]) (m := 1) (bytes := 8)
        · exact qbb (by (focus first|(apply qam;(repeat' first|assumption|exact qaa rfl|apply qaf rfl|apply qab);done)|exact qao _ _|exact qai _|exact qan _|exact qad|exact qag|exact qae|exact qac|exact qah _)) (qbb (by (focus first|(apply qam;(repeat' first|assumption|exact qaa rfl|apply qaf rfl|apply qab);done)|exact qao _ _|exact qai _|exact qan _|exact qad|exact qag|exact qae|exact qac|exact qah _)) qbi)
        · exact op8
        · exact st.grp
        · exact SlV.imm _ _ _ rfl
        · rfl
        · rfl
        · simp [room]; omega
        intro qv' g9 kb9 sq9 grq9 iv9 _
        refine ⟨Undis.ahead (by kernel_rfl), ?_⟩
        have n7 : g.next ≤ g7.next := k7.next
        have n8 : g7.next ≤ g8.next := kb8.next
        have ro9 := (ro7.keepBut kb8 (xov oid (.inl hoid))).keepBut kb9 (xqv oid (.inl hoid))
        have iov : ∀ j ∈ qb1 ov', g4.next ≤ j ∧ j ∉ qb1 qv ∧ (j ∈ qb1 ov ∨ g7.next ≤ j ∧ j < g8.next) := fun j hj => by
          rcases iv8 j hj with q | q
          · exact ⟨(st.io j q).1, (st.io j q).2, .inl q⟩
          · exact ⟨by omega, xqv j (.inr (by omega)), .inr q⟩
        have iqv : ∀ j ∈ qb1 qv', g4.next ≤ j ∧ (j ∈ qb1 qv ∨ g8.next ≤ j) := fun j hj => by
          rcases iv9 j hj with q | q
          · exact ⟨st.ip j q, .inl q⟩
          · exact ⟨by omega, .inr q.1⟩
        have so9 := so8.keepBut kb9 fun j hj hm => (iov j hj).2.1 hm
        (repeat (first|refine KW.go ?_|((first|apply qaw|apply qaz|apply qa1|apply qa4|apply qay|apply qax|apply qar|apply qal|apply qaj|apply qap)<;>first|(apply qam;(repeat' first|assumption|exact qaa rfl|apply qaf rfl|apply qab);done)|exact qao _ _|exact qai _|exact qan _|exact qad|exact qag|exact qae|exact qac|exact qah _|exact qau _ (by omega)|exact qat (by omega)|exact qas (by omega)|exact rfl|assumption|apply qav)|((first|apply qa3|apply qaq|apply qak)<;>first|(apply qam;(repeat' first|assumption|exact qaa rfl|apply qaf rfl|apply qab);done)|exact qao _ _|exact qai _|exact qan _|exact qad|exact qag|exact qae|exact qac|exact qah _|exact qau _ (by omega)|exact qat (by omega)|exact qas (by omega)|exact rfl|assumption|apply qav)|(apply qa2 rfl rfl;(focus (repeat' first|assumption|exact qaa rfl|apply qaf rfl|apply qab);done))|(apply qbj rfl rfl;(focus (repeat' first|assumption|exact qaa rfl|apply qaf rfl|apply qab);done);exact rfl)))
        apply qcj
        · (focus first|(apply qam;(repeat' first|assumption|exact qaa rfl|apply qaf rfl|apply qab);done)|exact qao _ _|exact qai _|exact qan _|exact qad|exact qag|exact qae|exact qac|exact qah _)
        · (focus first|(apply qam;(repeat' first|assumption|exact qaa rfl|apply qaf rfl|apply qab);done)|exact qao _ _|exact qai _|exact qan _|exact qad|exact qag|exact qae|exact qac|exact qah _)
        · exact ro9
        · simp [so9.acells, so9.one, ones]
        intro g10 kb10 r10
        refine ⟨Undis.ahead (by kernel_rfl), ?_⟩
        rw [so9.acells] at r10
        change Row g10 oid 0 2 [ov', qv] true at r10
        (repeat (first|refine KW.go ?_|((first|apply qaw|apply qaz|apply qa1|apply qa4|apply qay|apply qax|apply qar|apply qal|apply qaj|apply qap)<;>first|(apply qam;(repeat' first|assumption|exact qaa rfl|apply qaf rfl|apply qab);done)|exact qao _ _|exact qai _|exact qan _|exact qad|exact qag|exact qae|exact qac|exact qah _|exact qau _ (by omega)|exact qat (by omega)|exact qas (by omega)|exact rfl|assumption|apply qav)|((first|apply qa3|apply qaq|apply qak)<;>first|(apply qam;(repeat' first|assumption|exact qaa rfl|apply qaf rfl|apply qab);done)|exact qao _ _|exact qai _|exact qan _|exact qad|exact qag|exact qae|exact qac|exact qah _|exact qau _ (by omega)|exact qat (by omega)|exact qas (by omega)|exact rfl|assumption|apply qav)|(apply qa2 rfl rfl;(focus (repeat' first|assumption|exact qaa rfl|apply qaf rfl|apply qab);done))|(apply qbj rfl rfl;(focus (repeat' first|assumption|exact qaa rfl|apply qaf rfl|apply qab);done);exact rfl)))
        apply qcj
        · (focus first|(apply qam;(repeat' first|assumption|exact qaa rfl|apply qaf rfl|apply qab);done)|exact qao _ _|exact qai _|exact qan _|exact qad|exact qag|exact qae|exact qac|exact qah _)
        · (focus first|(apply qam;(repeat' first|assumption|exact qaa rfl|apply qaf rfl|apply qab);done)|exact qao _ _|exact qai _|exact qan _|exact qad|exact qag|exact qae|exact qac|exact qah _)
        · exact r10
        · simp [sq9.acells, sq9.one, ones]
        intro g11 kb11 r11
        refine ⟨Undis.ahead (by kernel_rfl), ?_⟩
        rw [sq9.acells] at r11
        change Row g11 oid 0 2 [ov', qv'] true at r11
        have kb711 : KeepBut (fun j => j ∈ qb1 ov ∨ j ∈ qb1 qv ∨ j = oid) g7 g11 := (((kb8.weaken fun _ h => .inl h).trans (kb9.weaken fun _ h => .inr (.inl h))).trans (kb10.weaken fun _ h => .inr (.inr h))).trans (kb11.weaken fun _ h => .inr (.inr h))
        have so11 := (so9.keepBut kb10 fun j hj e => by have := (iov j hj).1; omega).keepBut kb11 fun j hj e => by have := (iov j hj).1; omega
        have sq11 := (sq9.keepBut kb10 fun j hj e => by have := (iqv j hj).1; omega).keepBut kb11 fun j hj e => by have := (iqv j hj).1; omega
        have xlid : ¬ (lid ∈ qb1 ov ∨ lid ∈ qb1 qv ∨ lid = oid) := by
          rintro (q | q | q)
          · exact hlid.2.1 q
          · exact hlid.2.2 q
          · omega
        have xi7 : ¬ (i7 ∈ qb1 ov ∨ i7 ∈ qb1 qv ∨ i7 = oid) := by
          rintro (q | q | q)
          · exact xov _ (.inr hi7) q
          · exact xqv _ (.inr hi7) q
          · omega
        have xpid : ¬ (pid ∈ qb1 ov ∨ pid ∈ qb1 qv ∨ pid = oid) := by
          rintro (q | q | q)
          · exact xov _ (.inl l8) q
          · exact xqv _ (.inl l8) q
          · have := k3.next; omega
        have r7b := r7.keepBut kb711 xi7
        have ro2b := ro2.keepBut kb711 xlid
        have rp11 := pl7.row.keepBut kb711 xpid
        (repeat (first|refine KW.go ?_|((first|apply qaw|apply qaz|apply qa1|apply qa4|apply qay|apply qax|apply qar|apply qal|apply qaj|apply qap)<;>first|(apply qam;(repeat' first|assumption|exact qaa rfl|apply qaf rfl|apply qab);done)|exact qao _ _|exact qai _|exact qan _|exact qad|exact qag|exact qae|exact qac|exact qah _|exact qau _ (by omega)|exact qat (by omega)|exact qas (by omega)|exact rfl|assumption|apply qav)|((first|apply qa3|apply qaq|apply qak)<;>first|(apply qam;(repeat' first|assumption|exact qaa rfl|apply qaf rfl|apply qab);done)|exact qao _ _|exact qai _|exact qan _|exact qad|exact qag|exact qae|exact qac|exact qah _|exact qau _ (by omega)|exact qat (by omega)|exact qas (by omega)|exact rfl|assumption|apply qav)|(apply qa2 rfl rfl;(focus (repeat' first|assumption|exact qaa rfl|apply qaf rfl|apply qab);done))|(apply qbj rfl rfl;(focus (repeat' first|assumption|exact qaa rfl|apply qaf rfl|apply qab);done);exact rfl)))
        apply O_makeFunc (l1 := []) (l2 := [.ptr i7 0 0])
        · exact qbi
        · exact qbb (by (focus first|(apply qam;(repeat' first|assumption|exact qaa rfl|apply qaf rfl|apply qab);done)|exact qao _ _|exact qai _|exact qan _|exact qad|exact qag|exact qae|exact qac|exact qah _)) qbi
        (apply qb5; (focus first|(apply qam;(repeat' first|assumption|exact qaa rfl|apply qaf rfl|apply qab);done)|exact qao _ _|exact qai _|exact qan _|exact qad|exact qag|exact qae|exact qac|exact qah _); (repeat (apply qbb; (focus first|(apply qam;(repeat' first|assumption|exact qaa rfl|apply qaf rfl|apply qab);done)|exact qao _ _|exact qai _|exact qan _|exact qad|exact qag|exact qae|exact qac|exact qah _))); exact qbi)
        refine (deleteFunc_spec' S _ (fun e b => b = (e == (i : Int))) (by omega) ro2b (by omega) ?_).mono ?_
        · intro m g12 hm kb e he
          refine (place_spec (S' _ (by decide)) (by omega) (r7b.keepBut kb (by omega)) e).mono ?_
          rintro v _ ⟨rfl, rfl⟩
          exact ⟨_, rfl, rfl, Keep.refl _⟩
        rintro v g12 ⟨kb12, l', rfl, hf, ro12⟩
        refine ⟨Undis.off rfl, ?_⟩
        have hl' : l' = zs (left.filter (· ≠ i)) := by
          rw [hf.done (fun e => e == (i : Int)) (fun e b h => h)]
          simp only [zs, List.filter_map]
          congr 1
          apply List.filter_congr
          intro j _
          simp
          by_cases e : j = i
          · simp [e]
          · simp [e]; omega
        have sl12 := ro12.slv
        rw [hl', qcp] at sl12
        have hlen : l'.length = (left.filter (· ≠ i)).length := by rw [hl', qcp]
        rw [hlen]
        generalize hfl : left.filter (· ≠ i) = left' at *
        have rp12 := rp11.keepBut kb12 (by omega)
        (repeat (first|refine KW.go ?_|((first|apply qaw|apply qaz|apply qa1|apply qa4|apply qay|apply qax|apply qar|apply qal|apply qaj|apply qap)<;>first|(apply qam;(repeat' first|assumption|exact qaa rfl|apply qaf rfl|apply qab);done)|exact qao _ _|exact qai _|exact qan _|exact qad|exact qag|exact qae|exact qac|exact qah _|exact qau _ (by omega)|exact qat (by omega)|exact qas (by omega)|exact rfl|assumption|apply qav)|((first|apply qa3|apply qaq|apply qak)<;>first|(apply qam;(repeat' first|assumption|exact qaa rfl|apply qaf rfl|apply qab);done)|exact qao _ _|exact qai _|exact qan _|exact qad|exact qag|exact qae|exact qac|exact qah _|exact qau _ (by omega)|exact qat (by omega)|exact qas (by omega)|exact rfl|assumption|apply qav)|(apply qa2 rfl rfl;(focus (repeat' first|assumption|exact qaa rfl|apply qaf rfl|apply qab);done))|(apply qbj rfl rfl;(focus (repeat' first|assumption|exact qaa rfl|apply qaf rfl|apply qab);done);exact rfl)))
        apply qcj
        · (focus first|(apply qam;(repeat' first|assumption|exact qaa rfl|apply qaf rfl|apply qab);done)|exact qao _ _|exact qai _|exact qan _|exact qad|exact qag|exact qae|exact qac|exact qah _)
        · (focus first|(apply qam;(repeat' first|assumption|exact qaa rfl|apply qaf rfl|apply qab);done)|exact qao _ _|exact qai _|exact qan _|exact qad|exact qag|exact qae|exact qac|exact qah _)
        · exact rp12
        · rfl
        intro g13 kb13 r13
        refine ⟨Undis.off rfl, ?_⟩
        change Row g13 pid 0 8 (plC mid x lv pv (.own lid lver 0 left'.length)) true at r13
        have kb713 : KeepBut (fun j => (j ∈ qb1 ov ∨ j ∈ qb1 qv ∨ j = oid) ∨ j = lid ∨ j = pid) g7 g13 := ((kb711.weaken fun _ h => .inl h).trans (kb12.weaken fun _ h => .inr (.inl h))).trans (kb13.weaken fun _ h => .inr (.inr h))
        have r7c := (r7b.keepBut kb12 (by omega)).keepBut kb13 (by omega)
        have xold : ∀ j, j < h.next → ¬ ((j ∈ qb1 ov ∨ j ∈ qb1 qv ∨ j = oid) ∨ j = lid ∨ j = pid) := by
          rintro j hj ((q | q | q) | q | q)
          · exact xov _ (.inl (by omega)) q
          · exact xqv _ (.inl (by omega)) q
          · have := k1.next; omega
          · omega
          · have := k1.next; have := k2.next; have := k3.next; omega
        have xmid : ¬ ((mid ∈ qb1 ov ∨ mid ∈ qb1 qv ∨ mid = oid) ∨ mid = lid ∨ mid = pid) := by
          rintro ((q | q | q) | q | q)
          · exact xov _ (.inl (by omega)) q
          · exact xqv _ (.inl (by omega)) q
          · omega
          · omega
          · omega
        have pl13 := pl7.upd kb713 xmid (fun j hj => xold j (ox.lt w j hj)) (fun j hj => xold j (o.lt w j hj)) r13
        (repeat (first|refine KW.go ?_|((first|apply qaw|apply qaz|apply qa1|apply qa4|apply qay|apply qax|apply qar|apply qal|apply qaj|apply qap)<;>first|(apply qam;(repeat' first|assumption|exact qaa rfl|apply qaf rfl|apply qab);done)|exact qao _ _|exact qai _|exact qan _|exact qad|exact qag|exact qae|exact qac|exact qah _|exact qau _ (by omega)|exact qat (by omega)|exact qas (by omega)|exact rfl|assumption|apply qav)|((first|apply qa3|apply qaq|apply qak)<;>first|(apply qam;(repeat' first|assumption|exact qaa rfl|apply qaf rfl|apply qab);done)|exact qao _ _|exact qai _|exact qan _|exact qad|exact qag|exact qae|exact qac|exact qah _|exact qau _ (by omega)|exact qat (by omega)|exact qas (by omega)|exact rfl|assumption|apply qav)|(apply qa2 rfl rfl;(focus (repeat' first|assumption|exact qaa rfl|apply qaf rfl|apply qab);done))|(apply qbj rfl rfl;(focus (repeat' first|assumption|exact qaa rfl|apply qaf rfl|apply qab);done);exact rfl)))
        (refine R_drawn [0, 1, 2, 3, 4, 5, 6, 7, 8, 9, 10] [0, 1, 3, 7, 0, 0, 48, 112, 240, 496, 1023] (by kernel_rfl) (by kernel_rfl) (by rfl) ?_; dsimp only [qc1, List.map, List.getElem?_cons_zero, List.getElem?_cons_succ])
        (repeat (first|refine KW.go ?_|((first|apply qaw|apply qaz|apply qa1|apply qa4|apply qay|apply qax|apply qar|apply qal|apply qaj|apply qap)<;>first|(apply qam;(repeat' first|assumption|exact qaa rfl|apply qaf rfl|apply qab);done)|exact qao _ _|exact qai _|exact qan _|exact qad|exact qag|exact qae|exact qac|exact qah _|exact qau _ (by omega)|exact qat (by omega)|exact qas (by omega)|exact rfl|assumption|apply qav)|((first|apply qa3|apply qaq|apply qak)<;>first|(apply qam;(repeat' first|assumption|exact qaa rfl|apply qaf rfl|apply qab);done)|exact qao _ _|exact qai _|exact qan _|exact qad|exact qag|exact qae|exact qac|exact qah _|exact qau _ (by omega)|exact qat (by omega)|exact qas (by omega)|exact rfl|assumption|apply qav)|(apply qa2 rfl rfl;(focus (repeat' first|assumption|exact qaa rfl|apply qaf rfl|apply qab);done))|(apply qbj rfl rfl;(focus (repeat' first|assumption|exact qaa rfl|apply qaf rfl|apply qab);done);exact rfl)))
        apply qbk (n := 1)
        · (focus first|(apply qam;(repeat' first|assumption|exact qaa rfl|apply qaf rfl|apply qab);done)|exact qao _ _|exact qai _|exact qan _|exact qad|exact qag|exact qae|exact qac|exact qah _)
        · exact r13
        · rfl
        · exact rfl
        (repeat (first|refine KW.go ?_|((first|apply qaw|apply qaz|apply qa1|apply qa4|apply qay|apply qax|apply qar|apply qal|apply qaj|apply qap)<;>first|(apply qam;(repeat' first|assumption|exact qaa rfl|apply qaf rfl|apply qab);done)|exact qao _ _|exact qai _|exact qan _|exact qad|exact qag|exact qae|exact qac|exact qah _|exact qau _ (by omega)|exact qat (by omega)|exact qas (by omega)|exact rfl|assumption|apply qav)|((first|apply qa3|apply qaq|apply qak)<;>first|(apply qam;(repeat' first|assumption|exact qaa rfl|apply qaf rfl|apply qab);done)|exact qao _ _|exact qai _|exact qan _|exact qad|exact qag|exact qae|exact qac|exact qah _|exact qau _ (by omega)|exact qat (by omega)|exact qas (by omega)|exact rfl|assumption|apply qav)|(apply qa2 rfl rfl;(focus (repeat' first|assumption|exact qaa rfl|apply qaf rfl|apply qab);done))|(apply qbj rfl rfl;(focus (repeat' first|assumption|exact qaa rfl|apply qaf rfl|apply qab);done);exact rfl)))
        apply qbp
        · (focus first|(apply qam;(repeat' first|assumption|exact qaa rfl|apply qaf rfl|apply qab);done)|exact qao _ _|exact qai _|exact qan _|exact qad|exact qag|exact qae|exact qac|exact qah _)
        · exact pl13.pa
        · (focus first|(apply qam;(repeat' first|assumption|exact qaa rfl|apply qaf rfl|apply qab);done)|exact qao _ _|exact qai _|exact qan _|exact qad|exact qag|exact qae|exact qac|exact qah _)
        · exact hip
        · rfl
        intro p hat _
        rw [flat_at ptnC_len hip] at hat
        apply qcy
        · (focus first|(apply qam;(repeat' first|assumption|exact qaa rfl|apply qaf rfl|apply qab);done)|exact qao _ _|exact qai _|exact qan _|exact qad|exact qag|exact qae|exact qac|exact qah _)
        · exact hat
        · rfl
        apply qcb
        · exact qbs (by (focus first|(apply qam;(repeat' first|assumption|exact qaa rfl|apply qaf rfl|apply qab);done)|exact qao _ _|exact qai _|exact qan _|exact qad|exact qag|exact qae|exact qac|exact qah _)) qcc
        · rfl
        · rfl
        · exact S.lit _ _
        intro _
        (apply qb5; (focus first|(apply qam;(repeat' first|assumption|exact qaa rfl|apply qaf rfl|apply qab);done)|exact qao _ _|exact qai _|exact qan _|exact qad|exact qag|exact qae|exact qac|exact qah _); (repeat (apply qbb; (focus first|(apply qam;(repeat' first|assumption|exact qaa rfl|apply qaf rfl|apply qab);done)|exact qao _ _|exact qai _|exact qan _|exact qad|exact qag|exact qae|exact qac|exact qah _))); exact qbi)
        apply Runs.wf
        intro w13
        refine (vars_spec S.lit (S' _ (by decide)) (S' _ (by decide)) (S' _ (by decide)) S.has (l := [pats[i]]) (by simp; omega) (SlV.imm _ _ _ rfl) (by simp)).mono ?_
        rintro nv g14 ⟨k14, s14, -, hv14⟩
        refine ⟨k14.undis, ?_⟩
        have hvl := qct [pats[i]]
        simp only [List.length_singleton] at hvl
        (apply qb5; (focus first|(apply qam;(repeat' first|assumption|exact qaa rfl|apply qaf rfl|apply qab);done)|exact qao _ _|exact qai _|exact qan _|exact qad|exact qag|exact qae|exact qac|exact qah _); (repeat (apply qbb; (focus first|(apply qam;(repeat' first|assumption|exact qaa rfl|apply qaf rfl|apply qab);done)|exact qao _ _|exact qai _|exact qan _|exact qad|exact qag|exact qae|exact qac|exact qah _))); exact qbi)
        refine (learn_spec (S' _ (by decide)) (by omega) (pl13.kn.keep k14) s14 (fun q => by have := hv14 _ q; have := pl13.kn.lt w13; omega) (by omega)).mono ?_
        rintro _ g15 ⟨kb15, kn15⟩
        refine ⟨Undis.ahead (by kernel_rfl), ?_⟩
        have hstep := ofLoop_step x pats hil hip hpk hlp
        rw [hfl] at hstep
        rw [hstep] at ho1 ho2
        simp only at ho1 ho2
        have hl1 : left'.length < left.length := by rw [← hfl]; exact filter_ne_length hil
        have n9 : g8.next ≤ g9.next := kb9.next
        have n13 : g9.next ≤ g13.next := by have := kb10.next; have := kb11.next; have := kb12.next; have := kb13.next; omega
        have n14 : g13.next ≤ g14.next := k14.next
        have hb15 : ∀ j, j < g13.next → j ≠ mid → ¬ (j = mid ∨ g14.next ≤ j) := fun j h1 h2 h3 => by omega
        have kp13 : KeepBut (h.next ≤ ·) h g13 := (st.kp.trans (k7.but _)).trans (kb713.weaken (by
          rintro j ((q | q | q) | q | q)
          · have := (st.io j q).1; omega
          · have := st.ip j q; omega
          · have := k1.next; omega
          · omega
          · have := k1.next; have := k2.next; have := k3.next; omega))
        have kp15 : KeepBut (h.next ≤ ·) h g15 := (kp13.trans (k14.but _)).trans (kb15.weaken (by
          rintro j (q | q)
          · have := k1.next; have := k2.next; omega
          · have := kp13.next; omega))
        have so13 := (so11.keepBut kb12 fun j hj e => by rcases (iov j hj).2.2 with q | q; exact xlid (.inl (e ▸ q)); omega).keepBut kb13 fun j hj e => by have := (iov j hj).1; omega
        have sq13 := (sq11.keepBut kb12 fun j hj e => by rcases (iqv j hj).2 with q | q; exact xlid (.inr (.inl (e ▸ q))); omega).keepBut kb13 fun j hj e => by have := (iqv j hj).1; omega
        have sl13 := sl12.keepBut kb13 fun j hj e => by simp [qb1] at hj; omega
        have so14 := so13.keep k14
        have sq14 := sq13.keep k14
        have sl14 := sl13.keep k14
        have r14 := (r11.keepBut kb12 (by omega)).keepBut kb13 (by have := k3.next; omega)
        have so15 := so14.keepBut kb15 fun j hj => hb15 j (by have := so13.lt w13 j hj; omega) (by have := (iov j hj).1; omega)
        have sq15 := sq14.keepBut kb15 fun j hj => hb15 j (by have := sq13.lt w13 j hj; omega) (by have := (iqv j hj).1; omega)
        have sl15 := sl14.keepBut kb15 fun j hj => hb15 j (by have := sl13.lt w13 j hj; omega) (by simp [qb1] at hj; omega)
        have r15 := (r14.keep k14).keepBut kb15 (hb15 _ (by omega) (by omega))
        have rp15 := (r13.keep k14).keepBut kb15 (hb15 _ (by omega) (by omega))
        have pl15 : PlAt g15 pid mid (c + (qcz [pats[i]]).length) (learnZ known pats[i]) x lv pats pv (.own lid lver 0 left'.length) :=
          ⟨rp15, kn15, (pl13.li.keep k14).keepBut kb15 fun j hj => hb15 j (by have := ox.lt w j hj; omega) (by have := ox.lt w j hj; have := k1.next; have := k2.next; omega), (pl13.pa.keep k14).keepBut kb15 fun j hj => hb15 j (by have := o.lt w j hj; omega) (by have := o.lt w j hj; have := k1.next; have := k2.next; omega)⟩
        have hkl := learnZ_length known pats[i]
        have hkl2 : (learnZ known pats[i]).length ≤ known.length + (qcz [pats[i]]).length := by
          have h1 : ∀ (l cur : List Str), (l.foldl qdb cur).length ≤ cur.length + l.length := by
            intro l; induction l with
            | nil => intro cur; simp
            | cons s l ih => intro cur; have := ih (qdb cur s); have := meet1_length cur s; simp only [List.foldl_cons, List.length_cons]; omega
          exact h1 _ _
        (repeat (first|refine KW.go ?_|((first|apply qaw|apply qaz|apply qa1|apply qa4|apply qay|apply qax|apply qar|apply qal|apply qaj|apply qap)<;>first|(apply qam;(repeat' first|assumption|exact qaa rfl|apply qaf rfl|apply qab);done)|exact qao _ _|exact qai _|exact qan _|exact qad|exact qag|exact qae|exact qac|exact qah _|exact qau _ (by omega)|exact qat (by omega)|exact qas (by omega)|exact rfl|assumption|apply qav)|((first|apply qa3|apply qaq|apply qak)<;>first|(apply qam;(repeat' first|assumption|exact qaa rfl|apply qaf rfl|apply qab);done)|exact qao _ _|exact qai _|exact qan _|exact qad|exact qag|exact qae|exact qac|exact qah _|exact qau _ (by omega)|exact qat (by omega)|exact qas (by omega)|exact rfl|assumption|apply qav)|(apply qa2 rfl rfl;(focus (repeat' first|assumption|exact qaa rfl|apply qaf rfl|apply qab);done))|(apply qbj rfl rfl;(focus (repeat' first|assumption|exact qaa rfl|apply qaf rfl|apply qab);done);exact rfl)))
        apply qdg (k - 1) (by omega)
        refine ⟨c + (qcz [pats[i]]).length, learnZ known pats[i], left', .own lid lver 0 left'.length, ov', qv', order ++ [i], ops ++ [opZ x known pats[i]], by omega, by (repeat' first|assumption|exact qaa rfl|apply qaf rfl|apply qab), by (repeat' first|assumption|exact qaa rfl|apply qaf rfl|apply qab), by (repeat' first|assumption|exact qaa rfl|apply qaf rfl|apply qab),
          ⟨kp15, ?_, pl15, ?_, fun _ c => (by cases c), rfl, r15, ?_, ?_, gro8, grq9, ?_, ?_, ?_⟩, ?_, by omega, by omega, by omega, by simp; omega, by simp; omega, ?_, ?_⟩
        · have := kb15.next; omega
        · rw [qcp] at sl15
          show SlV _ _ _ (zs left').length _
          rw [qcp]
          exact sl15
        · simpa [zs, ints, Ints] using so15
        · simpa [ints, Ints] using sq15
        · intro j hj
          simp [qb1] at hj
          subst hj
          refine ⟨hlid.1, fun q => ?_, fun q => ?_⟩
          · rcases (iov _ q).2.2 with q | q
            · exact hlid.2.1 q
            · omega
          · rcases (iqv _ q).2 with q | q
            · exact hlid.2.2 q
            · omega
        · intro j hj
          refine ⟨(iov j hj).1, fun q => ?_⟩
          rcases (iqv _ q).2 with q | q
          · exact (iov j hj).2.1 q
          · rcases (iov j hj).2.2 with q' | q'
            · have := lov j q'; omega
            · omega
        · intro j hj; exact (iqv j hj).1
        · intro j hj
          rw [← hfl] at hj
          exact hlp j (List.mem_filter.1 hj).1
        · simpa using ho1
        · simpa using ho2
      · intro cc
        have hne : left = [] := by cases left with
          | nil => rfl
          | cons a l => simp [zs] at cc
        subst hne
        simp only [List.length_nil, qde, List.append_nil] at ho1 ho2
        rw [ho1, ho2] at st
        (repeat (first|refine KW.go ?_|((first|apply qaw|apply qaz|apply qa1|apply qa4|apply qay|apply qax|apply qar|apply qal|apply qaj|apply qap)<;>first|(apply qam;(repeat' first|assumption|exact qaa rfl|apply qaf rfl|apply qab);done)|exact qao _ _|exact qai _|exact qan _|exact qad|exact qag|exact qae|exact qac|exact qah _|exact qau _ (by omega)|exact qat (by omega)|exact qas (by omega)|exact rfl|assumption|apply qav)|((first|apply qa3|apply qaq|apply qak)<;>first|(apply qam;(repeat' first|assumption|exact qaa rfl|apply qaf rfl|apply qab);done)|exact qao _ _|exact qai _|exact qan _|exact qad|exact qag|exact qae|exact qac|exact qah _|exact qau _ (by omega)|exact qat (by omega)|exact qas (by omega)|exact rfl|assumption|apply qav)|(apply qa2 rfl rfl;(focus (repeat' first|assumption|exact qaa rfl|apply qaf rfl|apply qab);done))|(apply qbj rfl rfl;(focus (repeat' first|assumption|exact qaa rfl|apply qaf rfl|apply qab);done);exact rfl)))
        apply K_mid
        exact ⟨by (repeat' first|assumption|exact qaa rfl|apply qaf rfl|apply qab), c, known, [], lw, ov, qv, st⟩
  rintro T g ⟨t4, c, known, left, lw, ov, qv, st⟩
  have ro := st.row
  (repeat (first|refine KW.go ?_|((first|apply qaw|apply qaz|apply qa1|apply qa4|apply qay|apply qax|apply qar|apply qal|apply qaj|apply qap)<;>first|(apply qam;(repeat' first|assumption|exact qaa rfl|apply qaf rfl|apply qab);done)|exact qao _ _|exact qai _|exact qan _|exact qad|exact qag|exact qae|exact qac|exact qah _|exact qau _ (by omega)|exact qat (by omega)|exact qas (by omega)|exact rfl|assumption|apply qav)|((first|apply qa3|apply qaq|apply qak)<;>first|(apply qam;(repeat' first|assumption|exact qaa rfl|apply qaf rfl|apply qab);done)|exact qao _ _|exact qai _|exact qan _|exact qad|exact qag|exact qae|exact qac|exact qah _|exact qau _ (by omega)|exact qat (by omega)|exact qas (by omega)|exact rfl|assumption|apply qav)|(apply qa2 rfl rfl;(focus (repeat' first|assumption|exact qaa rfl|apply qaf rfl|apply qab);done))|(apply qbj rfl rfl;(focus (repeat' first|assumption|exact qaa rfl|apply qaf rfl|apply qab);done);exact rfl)))
  apply qbk (n := 2)
  · (focus first|(apply qam;(repeat' first|assumption|exact qaa rfl|apply qaf rfl|apply qab);done)|exact qao _ _|exact qai _|exact qan _|exact qad|exact qag|exact qae|exact qac|exact qah _)
  · exact ro
  · rfl
  · exact rfl
  apply qcj
  · (focus first|(apply qam;(repeat' first|assumption|exact qaa rfl|apply qaf rfl|apply qab);done)|exact qao _ _|exact qai _|exact qan _|exact qad|exact qag|exact qae|exact qac|exact qah _)
  · (focus first|(apply qam;(repeat' first|assumption|exact qaa rfl|apply qaf rfl|apply qab);done)|exact qao _ _|exact qai _|exact qan _|exact qad|exact qag|exact qae|exact qac|exact qah _)
  · exact ro
  · simp [acells, ones, st.oo.one, st.op.one]
  intro g5 kb5 r5
  refine ⟨Undis.off rfl, ?_⟩
  (repeat (first|refine KW.go ?_|((first|apply qaw|apply qaz|apply qa1|apply qa4|apply qay|apply qax|apply qar|apply qal|apply qaj|apply qap)<;>first|(apply qam;(repeat' first|assumption|exact qaa rfl|apply qaf rfl|apply qab);done)|exact qao _ _|exact qai _|exact qan _|exact qad|exact qag|exact qae|exact qac|exact qah _|exact qau _ (by omega)|exact qat (by omega)|exact qas (by omega)|exact rfl|assumption|apply qav)|((first|apply qa3|apply qaq|apply qak)<;>first|(apply qam;(repeat' first|assumption|exact qaa rfl|apply qaf rfl|apply qab);done)|exact qao _ _|exact qai _|exact qan _|exact qad|exact qag|exact qae|exact qac|exact qah _|exact qau _ (by omega)|exact qat (by omega)|exact qas (by omega)|exact rfl|assumption|apply qav)|(apply qa2 rfl rfl;(focus (repeat' first|assumption|exact qaa rfl|apply qaf rfl|apply qab);done))|(apply qbj rfl rfl;(focus (repeat' first|assumption|exact qaa rfl|apply qaf rfl|apply qab);done);exact rfl)))
  apply R_res_agg rfl (c' := [ov, qv])
  · (repeat' first|assumption|exact qaa rfl|apply qaf rfl|apply qab)
  · exact r5
  · simp [splice, acells]
  · simp [splice, acells]
  have hoid : oid < g4.next := by have := k3.next; have := k4.next; omega
  refine ⟨KeepBut.toKeep (st.kp.trans (kb5.weaken fun j hj => by have := k1.next; omega)) w, ov, qv, rfl, st.oo.keepBut kb5 (fun j hj e => by have := (st.io j hj).1; omega), st.op.keepBut kb5 (fun j hj e => by have := st.ip j hj; omega), fun j hj => ⟨by have := (st.io j hj).1; omega, (st.io j hj).2⟩, fun j hj => by have := st.ip j hj; omega⟩
end Go.Am
namespace Go.Proofs
open Go.Shelf
def Try.lays189_ren : Go.Shelf.Ren := ⟨fun | 189 => 73 | 125 => 82 | 257 => 81 | 128 => 93 | 129 => 94 | 294 => 84 | 295 => 85 | 296 => 86 | 297 => 87 | 298 => 88 | 299 => 89 | 216 => 90 | 300 => 91 | 301 => 92 | 328 => 95 | 329 => 96 | 330 => 97 | 331 => 98 | 332 => 99 | 215 => 100 | 343 => 101 | n => n, fun | 28 => 27 | 3 => 3 | 46 => 136 | 0 => 0 | 51 => 147 | 53 => 149 | 4 => 4 | 183 => 140 | 182 => 139 | 131 => 144 | 5 => 5 | 9 => 9 | 218 => 150 | 222 => 154 | 228 => 156 | 229 => 157 | n => n, fun | n => n⟩
theorem Try.lays189 : Go.Proofs.Lays.n189 Try.prog Try.lays189_ren := {
  mixed := by kernel_rfl
  f125 := Try.func82.trans (congrArg some (by kernel_rfl))
  f128 := Try.func93.trans (congrArg some (by kernel_rfl))
  f129 := Try.func94.trans (congrArg some (by kernel_rfl))
  f189 := Try.func73.trans (congrArg some (by kernel_rfl))
  f215 := Try.func100.trans (congrArg some (by kernel_rfl))
  f216 := Try.func90.trans (congrArg some (by kernel_rfl))
  f257 := Try.func81.trans (congrArg some (by kernel_rfl))
  f294 := Try.func84.trans (congrArg some (by kernel_rfl))
  f295 := Try.func85.trans (congrArg some (by kernel_rfl))
  f296 := Try.func86.trans (congrArg some (by kernel_rfl))
  f297 := Try.func87.trans (congrArg some (by kernel_rfl))
  f298 := Try.func88.trans (congrArg some (by kernel_rfl))
  f299 := Try.func89.trans (congrArg some (by kernel_rfl))
  f300 := Try.func91.trans (congrArg some (by kernel_rfl))
  f301 := Try.func92.trans (congrArg some (by kernel_rfl))
  f328 := Try.func95.trans (congrArg some (by kernel_rfl))
  f329 := Try.func96.trans (congrArg some (by kernel_rfl))
  f330 := Try.func97.trans (congrArg some (by kernel_rfl))
  f331 := Try.func98.trans (congrArg some (by kernel_rfl))
  f332 := Try.func99.trans (congrArg some (by kernel_rfl))
  f343 := Try.func101.trans (congrArg some (by kernel_rfl))
  t0 := Try.underlying0
  a0 := Try.isAgg0
  z0 := Try.sizeOf0
  v0 := Try.zeroValue0
  t3 := Try.underlying3
  a3 := Try.isAgg3
  z3 := Try.sizeOf3
  v3 := Try.zeroValue3
  t4 := Try.underlying4
  a4 := Try.isAgg4
  z4 := Try.sizeOf4
  v4 := Try.zeroValue4
  t5 := Try.underlying5
  a5 := Try.isAgg5
  z5 := Try.sizeOf5
  v5 := Try.zeroValue5
  t9 := Try.underlying9
  a9 := Try.isAgg9
  z9 := Try.sizeOf9
  v9 := Try.zeroValue9
  t28 := Try.underlying27
  a28 := Try.isAgg27
  z28 := Try.sizeOf27
  v28 := Try.zeroValue27
  t46 := Try.underlying136
  a46 := Try.isAgg136
  z46 := Try.sizeOf136
  v46 := Try.zeroValue136
  t51 := Try.underlying147
  a51 := Try.isAgg147
  z51 := Try.sizeOf147
  v51 := Try.zeroValue147
  t53 := Try.underlying149
  a53 := Try.isAgg149
  z53 := Try.sizeOf149
  v53 := Try.zeroValue149
  t131 := Try.underlying144
  a131 := Try.isAgg144
  z131 := Try.sizeOf144
  v131 := Try.zeroValue144
  t182 := Try.underlying139
  a182 := Try.isAgg139
  z182 := Try.sizeOf139
  v182 := Try.zeroValue139
  t183 := Try.underlying140
  a183 := Try.isAgg140
  z183 := Try.sizeOf140
  v183 := Try.zeroValue140
  t218 := Try.underlying150
  a218 := Try.isAgg150
  z218 := Try.sizeOf150
  v218 := Try.zeroValue150
  t222 := Try.underlying154
  a222 := Try.isAgg154
  z222 := Try.sizeOf154
  v222 := Try.zeroValue154
  t228 := Try.underlying156
  a228 := Try.isAgg156
  z228 := Try.sizeOf156
  v228 := Try.zeroValue156
  t229 := Try.underlying157
  a229 := Try.isAgg157
  z229 := Try.sizeOf157
  v229 := Try.zeroValue157 }
open Go.Sort Go.RowKit in
theorem Try.slices_Sort_int (blk off cap : Nat) (zs : List Int) (w : World) (hH : Holds (Value.int .i64) w blk off zs.toArray) (hblk : blk < w.heap.size) (hsz : zs.length < 4611686018427387904) :
    Calls Try.prog 73 #[.slice (some ⟨blk, off, none⟩) zs.length cap] w fun e w' =>
      e = .returned (.tuple #[]) ∧ ∃ n os, w' = grow (putRow (Value.int .i64) (Sort.ahead w n) blk off (zs.mergeSort fun x y => decide (x ≤ y)).toArray) os := Any.slices_Sort_int Try.lays189 blk off cap zs w hH hblk hsz
open Go.RowKit Go.Sort in
/-- .. and plain. (LAID: no walk: one application.) -/
theorem Try.slices_Sort_int_none (p : Option Addr) (cap : Nat) (w : World) :
    Calls Try.prog 73 #[.slice p 0 cap] w fun e w' => e = .returned (.tuple #[]) ∧ w' = w := Any.slices_Sort_int_none Try.lays189 p cap w
end Go.Proofs
namespace Go.Am
open Go Go.Proofs AM
set_option maxRecDepth 10000

def insZ (x : Int) : List Int → List Int
  | [] => [x]
  | y :: l => cond (decide (x ≤ y)) (x :: y :: l) (y :: insZ x l)
def qc8 : List Int → List Int
  | [] => []
  | x :: l => insZ x (qc8 l)
theorem insZ_perm (x : Int) : ∀ l, (insZ x l).Perm (x :: l)
  | [] => .refl _
  | y :: l => by
    simp only [insZ]
    cases decide (x ≤ y) with
    | true => exact .refl _
    | false => exact ((insZ_perm x l).cons y).trans (.swap _ _ _)
theorem sortZ_perm : ∀ l, (qc8 l).Perm l
  | [] => .refl _
  | x :: l => (insZ_perm x _).trans ((sortZ_perm l).cons x)
theorem insZ_sorted (x : Int) : ∀ {l}, List.Pairwise (· ≤ ·) l → List.Pairwise (· ≤ ·) (insZ x l)
  | [], _ => by simp [insZ]
  | y :: l, h => by
    simp only [insZ]
    obtain ⟨h1, h2⟩ := List.pairwise_cons.1 h
    by_cases c : x ≤ y
    · rw [decide_eq_true c]
      refine List.pairwise_cons.2 ⟨fun z hz => ?_, h⟩
      rcases List.mem_cons.1 hz with rfl | hz
      · exact c
      · exact Int.le_trans c (h1 z hz)
    · rw [decide_eq_false c]
      refine List.pairwise_cons.2 ⟨fun z hz => ?_, insZ_sorted x h2⟩
      rcases List.mem_cons.1 ((insZ_perm x l).mem_iff.1 hz) with rfl | hz
      · omega
      · exact h1 z hz
theorem sortZ_sorted : ∀ l, List.Pairwise (· ≤ ·) (qc8 l)
  | [] => .nil
  | _ :: l => insZ_sorted _ (sortZ_sorted l)
theorem sorted_one : ∀ {l m : List Int}, l.Perm m → List.Pairwise (· ≤ ·) l → List.Pairwise (· ≤ ·) m → l = m
  | [], m, p, _, _ => by rw [List.nil_perm.1 p]
  | x :: l, [], p, _, _ => by have := p.length_eq; cases this
  | x :: l, y :: m, p, h, k => by
    obtain ⟨h1, h2⟩ := List.pairwise_cons.1 h
    obtain ⟨k1, k2⟩ := List.pairwise_cons.1 k
    have e : x = y := by
      have a : x ∈ y :: m := p.mem_iff.1 List.mem_cons_self
      have b : y ∈ x :: l := p.mem_iff.2 List.mem_cons_self
      rcases List.mem_cons.1 a with a | a
      · exact a
      · rcases List.mem_cons.1 b with b | b
        · exact b.symm
        · have := k1 x a; have := h1 y b; omega
    subst e
    rw [sorted_one p.cons_inv h2 k2]
theorem pw_turn {α : Type} {R S : α → α → Prop} {l : List α} (p : l.Pairwise R) (f : ∀ a b, R a b → S a b) : l.Pairwise S := by
  induction p with
  | nil => exact .nil
  | cons h _ ih => exact .cons (fun x hx => f _ _ (h x hx)) ih
theorem sortZ_merge (l : List Int) : l.mergeSort (fun x y => decide (x ≤ y)) = qc8 l := by
  refine sorted_one ((List.mergeSort_perm l _).trans (sortZ_perm l).symm) ?_ (sortZ_sorted l)
  have := List.pairwise_mergeSort (le := fun x y : Int => decide (x ≤ y)) (fun a b c h1 h2 => by simp at *; omega) (fun a b => by simp; omega) l
  exact pw_turn this fun _ _ h => by simpa using h

def intsOf : List AV → Option (List Int)
  | [] => some []
  | .int .i64 n :: r => match intsOf r with
    | some l => some (n :: l)
    | none => none
  | _ :: _ => none
theorem intsOf_ints : ∀ l, intsOf (ints l) = some l
  | [] => rfl
  | x :: l => by
    have := intsOf_ints l
    simp only [ints, List.map_cons, intsOf]
    simp only [ints] at this
    rw [this]
theorem intsOf_some : ∀ {c : List AV} {l : List Int}, intsOf c = some l → c = ints l
  | [], l, h => by cases h; rfl
  | v :: r, l, h => by
    cases v <;> first | cases h | skip
    rename_i k n
    cases k <;> first | cases h | skip
    simp only [intsOf] at h
    cases hr : intsOf r with
    | none => rw [hr] at h; cases h
    | some m =>
      rw [hr] at h
      cases h
      rw [intsOf_some hr]
      rfl
/-- what the machine takes for slices.Sort of numbers -/
def sortSum : List AV → AM AV
  | [.own id ver off n] => match n with
    | 0 => do
      let _ ← rowOf id ver
      pure (.tuple [])
    | _ => do
      let (esz, cells, fix) ← rowOf id ver
      AM.guard (Nat.ble (off + n) cells.length && Nat.blt n 4611686018427387904)
      let l ← AM.ofOption (intsOf ((cells.drop off).take n))
      AM.hput id ver (.row esz (splice cells off (ints (qc8 l))) fix)
      pure (.tuple [])
  | [.sl _ 0 _] => pure (.tuple [])
  | _ => AM.fail

section
variable {h h' : Hp} {μ : Nat → Nat} {w : World}
theorem SR.grow (s : SR h μ w) (os : List Obj) : SR h μ (Sort.grow w os.toArray) ∧ Stp h μ w h μ (Sort.grow w os.toArray) := by
  induction os generalizing w with
  | nil => rw [Sort.grow_empty]; exact ⟨s, Stp.refl _ _ _⟩
  | cons o os ih =>
    obtain ⟨s1, t1⟩ := s.beside o
    obtain ⟨s2, t2⟩ := ih s1
    rw [Sort.alloc_eq_grow, Sort.grow_grow] at s2 t2
    rw [Sort.alloc_eq_grow] at t1
    have e : (o :: os).toArray = #[o] ++ os.toArray := by simp
    rw [e]
    exact ⟨s2, t1.trans t2⟩
theorem putRow_row {c off : Nat} {cs : Array Value} {ty : TypeId} (hw : w.heap[c]? = some (.cells cs ty (0, 0))) (l : List Int) (hl : off + l.length ≤ cs.size) :
    Sort.putRow (Value.int .i64) w c off l.toArray = w.setRow c (cs.toList.take off ++ l.map (Value.int .i64) ++ cs.toList.drop (off + (l.map (Value.int .i64)).length)).toArray := by
  unfold Sort.putRow Sort.mapBlock World.setRow
  congr 1
  apply Array.ext_getElem?
  intro k
  simp only [Array.getElem?_modify]
  by_cases hk : c = k
  · subst hk
    rw [if_pos rfl, if_pos rfl, hw]
    simp only [Option.map_some, Sort.onCells]
    congr 2
    apply Array.ext_getElem?
    intro j
    simp only [Sort.putCells, Array.getElem?_mapIdx, List.size_toArray, List.getElem?_toArray, List.length_map]
    have hcs : cs.toList.length = cs.size := by simp
    by_cases h1 : j < off
    · rw [List.append_assoc, List.getElem?_append_left (by simp; omega), List.getElem?_take, if_pos h1]
      cases hq : cs[j]? with
      | none => simp [hq]
      | some y =>
        simp [hq]
        omega
    · by_cases h2 : j < off + l.length
      · rw [List.append_assoc, List.getElem?_append_right (by simp; omega), List.getElem?_append_left (by simp; omega)]
        have hj : j < cs.size := by omega
        have hj2 : j - off < l.length := by omega
        simp only [List.length_take, hcs, Nat.min_eq_left (show off ≤ cs.size by omega), Array.getElem?_eq_getElem hj, Option.map_some, List.getElem?_map, List.getElem?_eq_getElem hj2]
        rw [if_pos ⟨by omega, by omega⟩]
        simp [hj2]
      · rw [List.getElem?_append_right (by simp; omega)]
        simp only [List.length_append, List.length_take, hcs, List.length_map, Nat.min_eq_left (show off ≤ cs.size by omega), List.getElem?_drop]
        rw [show off + l.length + (j - (off + l.length)) = j by omega]
        cases hq : cs[j]? with
        | none => simp [hq]
        | some y =>
          simp [hq]
          omega
  · rw [if_neg hk, if_neg hk]

theorem sort_ok {args : List AV} {xs : List Value} {v : AV} (e : (sortSum args).run h = some (v, h')) (s : SR h μ w) (r : VRs h μ w args xs) :
    CallsIn Fence.wide 0 Try.prog 73 xs.toArray w (Got h μ w v h') := by
  refine callsIn_wide.2 ?_
  match args, e with
  | [.sl k 0 c], e =>
    obtain ⟨rfl, rfl⟩ := qa0 e
    have hl := r.1
    obtain ⟨x, rfl⟩ : ∃ x, xs = [x] := by
      cases xs with
      | nil => cases hl
      | cons x t => cases t with
        | nil => exact ⟨x, rfl⟩
        | cons _ _ => simp at hl
    have hx := r.2 0 (by simp) (by simp)
    simp only [List.getElem_cons_zero] at hx
    cases hx with
    | sl _ _ _ A cap vals =>
      refine (Try.slices_Sort_int_none A cap w).mono ?_
      rintro en w' ⟨rfl, rfl⟩
      exact ⟨μ, s, Stp.refl _ _ _, .tuple [] [] rfl (fun i h1 => absurd h1 (Nat.not_lt_zero _))⟩
  | [.own id ver off n], e =>
    have hl := r.1
    obtain ⟨x, rfl⟩ : ∃ x, xs = [x] := by
      cases xs with
      | nil => cases hl
      | cons x t => cases t with
        | nil => exact ⟨x, rfl⟩
        | cons _ _ => simp at hl
    have hx := r.2 0 (by simp) (by simp)
    simp only [List.getElem_cons_zero] at hx
    cases n with
    | zero =>
      obtain ⟨⟨esz, cells, fix⟩, h1, e1, e2⟩ := bind_some e
      obtain ⟨rfl, rfl⟩ := qa0 e2
      obtain ⟨rfl, o, ho, hv, hb⟩ := qci e1
      obtain ⟨ad, cap, rfl, _, _⟩ := hx.own_live ho hv hb
      refine (Try.slices_Sort_int_none (some ad) cap w).mono ?_
      rintro en w' ⟨rfl, rfl⟩
      exact ⟨μ, s, Stp.refl _ _ _, .tuple [] [] rfl (fun i h1 => absurd h1 (Nat.not_lt_zero _))⟩
    | succ n =>
      obtain ⟨⟨esz, cells, fix⟩, h1, e1, e2⟩ := bind_some e
      obtain ⟨rfl, o, ho, hv, hb⟩ := qci e1
      obtain ⟨_, h2, e3, e4⟩ := bind_some e2
      obtain ⟨hg, rfl⟩ := qbg e3
      obtain ⟨l, h3, e5, e6⟩ := bind_some e4
      obtain ⟨hl', rfl⟩ := qbz e5
      obtain ⟨_, h4, e7, e8⟩ := bind_some e6
      obtain ⟨rfl, rfl⟩ := qa0 e8
      simp only [Bool.and_eq_true, Nat.blt_eq] at hg
      have hg1 : off + (n + 1) ≤ cells.length := by simpa using hg.1
      have hc := intsOf_some hl'
      have hll : l.length = n + 1 := by
        have := congrArg List.length hc
        simp at this
        omega
      obtain ⟨ad, cap, rfl, _, hex⟩ := hx.own_live ho hv hb
      obtain ⟨rfl, _⟩ := hex (.inl (Nat.succ_pos _))
      obtain ⟨cs, ty, hw, hlen, hfix, hvr⟩ := s.row ho hb
      have hcell : ∀ j (hj : j < l.length), w.cell? ⟨μ id, off + j, none⟩ = some (.int .i64 l[j]) := fun j hj => by
        have hji : off + j < cells.length := by omega
        have h1 : cells[off + j]? = some (.int .i64 l[j]) := by
          have := congrArg (·[j]?) hc
          simp only [List.getElem?_take, List.getElem?_drop] at this
          rw [if_pos (by omega)] at this
          rw [this]
          simp [ints, hj]
        obtain ⟨y, hy, hvy⟩ := hvr.get? h1
        cases hvy
        rw [List.getElem?_take, if_pos hji] at hy
        unfold World.cell?
        simp only [hw]
        simpa using hy
      have hH : Sort.Holds (Value.int .i64) w (μ id) off l.toArray := fun j hj => by
        have hj' : j < l.length := by simpa using hj
        refine ⟨?_, ?_⟩
        · rw [hcell j hj']
          simp [hj']
        · unfold World.frozen?
          simp only [hw]
          simp
      have hblk : μ id < w.heap.size := (Array.getElem?_eq_some_iff.1 hw).1
      have hcall := Try.slices_Sort_int (μ id) off cap l w hH hblk (by omega)
      rw [hll] at hcall
      refine hcall.mono ?_
      rintro en w' ⟨rfl, m, os, rfl⟩
      rw [sortZ_merge, Sort.putRow_ahead]
      have hsl : (qc8 l).length = n + 1 := by rw [(sortZ_perm l).length_eq, hll]
      rw [putRow_row hw (qc8 l) (by omega)]
      obtain ⟨_, hsr⟩ := s.splice (P := Try.prog) ho hb hw (off := off) (new := ints (qc8 l)) (vals := (qc8 l).map (Value.int .i64)) (VRs.map _ fun _ _ => .int _ _) (by intro x hx; obtain ⟨z, _, rfl⟩ := List.mem_map.1 hx; rfl) (by simp; omega)
      obtain ⟨o', ho', hle, rfl⟩ := qdz e7
      rw [ho] at ho'
      cases ho'
      have hil : (ints (qc8 l)).length = ((qc8 l).map (Value.int .i64)).length := by simp
      obtain ⟨s1, t1⟩ := hsr ver (splice cells off (ints (qc8 l))) fix hle (by rw [qcn (by simp; omega)]; exact hlen) (fun hf => by rw [qcn (by simp; omega)]; exact hfix hf) (by
        have := VRs.splice hvr (VRs.map (qc8 l) (f := fun i => .int .i64 i) (g := Value.int .i64) fun _ _ => VR.int _ _) off
        rw [qcn (by simp; omega), ← splice_take cs.toList _ off cells.length _ rfl (by simp; omega) (by simpa using hlen)]
        exact this)
      obtain ⟨s2, t2⟩ := s1.drawn (w' := Sort.ahead (w.setRow (μ id) (cs.toList.take off ++ (qc8 l).map (Value.int .i64) ++ cs.toList.drop (off + ((qc8 l).map (Value.int .i64)).length)).toArray) m) rfl rfl rfl rfl
      obtain ⟨s3, t3⟩ := s2.grow os.toList
      rw [Array.toArray_toList] at s3 t3
      exact ⟨μ, s3, (t1.trans t2).trans t3, .tuple [] [] rfl (fun i h1 => absurd h1 (Nat.not_lt_zero _))⟩
end
end Go.Am
namespace Go.Am
open Go Go.Proofs Go.RowKit Go.ChangeMaps

/-! ### the range over a map: laws at the operations, of entries as they lie -/
def keyStr (e : MapEntry) : List UInt8 := match e.key with
  | .string s => s.data.toList
  | _ => []
structure Rng (w : World) (b r clock : Nat) (ms : Array MapEntry) (seen : Array Nat) : Prop where
  map : w.heap[b]? = some (.map ms clock)
  it : ∃ c0, w.heap[r]? = some (.mapIter (some b) clock seen c0) ∧ clock ≤ c0
theorem Rng.grown {w w' : World} {b r clock : Nat} {ms : Array MapEntry} {seen : Array Nat} {row : Option Nat} (h : Rng w b r clock ms seen) (g : w.grownBy w' row) (h1 : some b ≠ row) (h2 : some r ≠ row) : Rng w' b r clock ms seen := by
  obtain ⟨hm, c0, hi, hc⟩ := h
  have hbl := (Array.getElem?_eq_some_iff.1 hm).1
  have hrl := (Array.getElem?_eq_some_iff.1 hi).1
  exact ⟨by rw [g.block b hbl h1]; exact hm, c0, by rw [g.block r hrl h2]; exact hi, hc⟩
theorem Rng.alloc {w : World} {b r clock : Nat} {ms : Array MapEntry} {seen : Array Nat} (h : Rng w b r clock ms seen) (o : Obj) : Rng (w.alloc o) b r clock ms seen := by
  obtain ⟨hm, c0, hi, hc⟩ := h
  have hbl := (Array.getElem?_eq_some_iff.1 hm).1
  have hrl := (Array.getElem?_eq_some_iff.1 hi).1
  exact ⟨by rw [qc0 w o b hbl]; exact hm, c0, by rw [qc0 w o r hrl]; exact hi, hc⟩

theorem left_perm {ms : Array MapEntry} {seen : Array Nat} (hn : (ms.toList.map (·.born)).Nodup) {e : MapEntry} (he : e ∈ (leftOf ms seen).toList) : (leftOf ms seen).toList.Perm (e :: (leftOf ms (seen.push e.born)).toList) := by
  unfold leftOf at he ⊢
  simp only [Array.toList_filter] at he ⊢
  obtain ⟨l⟩ := ms
  simp only at he hn ⊢
  induction l with
  | nil => cases he
  | cons x l ih =>
    simp only [List.map_cons, List.nodup_cons] at hn
    by_cases hx : x = e
    · subst hx
      have hs : seen.contains x.born = false := by
        have := (List.mem_filter.1 he).2
        simpa using this
      have h1 : ∀ y ∈ l, (!(seen.push x.born).contains y.born) = !(seen.contains y.born) := fun y hy => by
        have hne : y.born ≠ x.born := fun q => hn.1 (List.mem_map.2 ⟨y, hy, q⟩)
        simp [Array.contains_push, hne]
      simp only [List.filter_cons, hs, Bool.not_false, if_true]
      rw [List.filter_congr h1]
      have h2 : (!(seen.push x.born).contains x.born) = false := by simp [Array.contains_push]
      rw [h2]
      exact .refl _
    · have he' : e ∈ l.filter fun e => !(seen.contains e.born) := by
        rw [List.filter_cons] at he
        split at he
        · rcases List.mem_cons.1 he with q | q
          · exact absurd q.symm hx
          · exact q
        · exact he
      have hel : e ∈ l := (List.mem_filter.1 he').1
      have hne : x.born ≠ e.born := fun q => hn.1 (List.mem_map.2 ⟨e, hel, q.symm⟩)
      have h2 : (!(seen.push e.born).contains x.born) = !(seen.contains x.born) := by simp [Array.contains_push, hne]
      have := ih hn.2 he'
      simp only [List.filter_cons, h2]
      split
      · exact (this.cons x).trans (.swap _ _ _)
      · exact this

section
variable {P : Program} {w : World} {ops : Array Oper} {rest : List Oper} {o : Oper} {a : Act} {Q : Exit → Act → World → Prop}
theorem wpList_range_raw (hg : o.guard = none) (m : Operand) (t : TypeId) (hop : o.op = Op.range t m) (k e : TypeId) (ht : P.underlying t = some (.map k e)) (b clock : Nat) (ms : Array MapEntry)
    (hm : a.eval m = .map (some b)) (hown : w.heap[b]? = some (.map ms clock))
    (hK : ∀ w', Rng w' b w.heap.size clock ms #[] → w.grownBy w' none → w'.heap.size = w.heap.size + 1 → wpList P ops Q rest (a.put o.dst (.pointer (some ⟨w.heap.size, 0, none⟩))) w') :
    wpList P ops Q (o :: rest) a w := by
  refine wpList_plain hg fun K' hK' => ?_
  have hrun : (Instr.range t (.map (some b))).run P w = .ok (.pointer (some ⟨w.heap.size, 0, none⟩)) (w.alloc (.mapIter (some b) clock #[] clock)) := by
    simp [Instr.range, run_underlying ht, getObj, Sem.run, hown, newObj]
  unfold Oper.wp
  simp [execOp, hop, hm, hrun, Result.andThen]
  have hbl := (Array.getElem?_eq_some_iff.1 hown).1
  refine hK' _ _ (hK _ ⟨?_, clock, ?_, Nat.le_refl _⟩ ?_ ?_)
  · rw [qc0 w _ b hbl]; exact hown
  · exact World.alloc_heap_new w _
  · exact World.grownBy_alloc w _ none
  · simp
theorem wpList_next_raw (hg : o.guard = none) (it : Operand) (hop : o.op = Op.next it false) (b r clock : Nat) (ms : Array MapEntry) (seen : Array Nat)
    (hit : a.eval it = .pointer (some ⟨r, 0, none⟩)) (h : Rng w b r clock ms seen) (hb : Born ms clock) (hbr : b ≠ r)
    (hDone : (leftOf ms seen).toList = [] → wpList P ops Q rest (a.put o.dst (.tuple #[.bool false])) w)
    (hMore : ∀ (e : MapEntry) (w' : World), e ∈ (leftOf ms seen).toList → Rng w' b r clock ms (seen.push e.born) → w.grownBy w' (some r) → w'.heap.size = w.heap.size → (Instr.entry (.pointer (some ⟨r, 0, none⟩))).run P w' = .ok (.tuple #[e.key, e.val]) w' →
      wpList P ops Q rest (a.put o.dst (.tuple #[.bool true, e.key, e.val])) w') :
    wpList P ops Q (o :: rest) a w := by
  refine wpList_plain hg fun K' hK' => ?_
  unfold Oper.wp
  obtain ⟨hm, c0, hi, hc⟩ := h
  have hbl := (Array.getElem?_eq_some_iff.1 hm).1
  have hrl := (Array.getElem?_eq_some_iff.1 hi).1
  rcases run_next_at (P := P) w o.type r b clock c0 seen ms clock hi hm hb.2 hc with ⟨h0, hrun⟩ | ⟨e, he, w1, hw1, hrun⟩
  · simp [execOp, hop, hit, hrun, Result.andThen]
    exact hK' _ _ (hDone (by simpa using h0))
  · simp [execOp, hop, hit, hrun, Result.andThen]
    have hw1h : w1.heap = w.heap := by rcases hw1 with rfl | rfl <;> rfl
    have hs1 : (setBlock w1 r (.mapIter (some b) clock (seen.push e.born) clock)).heap[b]? = some (.map ms clock) := by
      simp only [setBlock, Array.getElem?_setIfInBounds, hw1h]
      rw [if_neg (fun q => hbr q.symm)]; exact hm
    have hs2 : (setBlock w1 r (.mapIter (some b) clock (seen.push e.born) clock)).heap[r]? = some (.mapIter (some b) clock (seen.push e.born) clock) := by
      simp only [setBlock, Array.getElem?_setIfInBounds, hw1h]
      simp [hrl]
    refine hK' _ _ (hMore e _ he ⟨hs1, clock, hs2, Nat.le_refl _⟩ ?_ ?_ ?_)
    · refine ⟨?_, ?_, ?_, ?_, fun i hi hr => ?_⟩
      · rcases hw1 with rfl | rfl <;> rfl
      · rcases hw1 with rfl | rfl <;> rfl
      · rcases hw1 with rfl | rfl <;> rfl
      · simp [setBlock, hw1h]
      · simp only [setBlock, Array.getElem?_setIfInBounds, hw1h]
        rw [if_neg (fun q => hr (by rw [q]))]
    · simp [setBlock, hw1h]
    · refine run_entry_at _ r b clock seen ms clock e hs2 hs1 ?_ hb.1
      have := he
      unfold leftOf at this
      simp only [Array.toList_filter] at this
      exact (List.mem_filter.1 this).1
end

set_option maxRecDepth 100000 in
set_option maxHeartbeats 1000000 in
theorem list_any (b clock : Nat) (ms : Array MapEntry) (w : World) (hm : w.heap[b]? = some (.map ms clock)) (hb : Born ms clock) (hk : ∀ e ∈ ms.toList, ∃ s : ByteArray, e.key = .string s) (hn : ms.size < 1099511627776) :
    Calls Try.prog 49 #[.agg #[.map (some b)]] w fun e w' => ∃ (v : Value) (ss : List (List UInt8)), e = .returned v ∧ ss.Perm (ms.toList.map keyStr) ∧ w'.ownsRow w.heap.size 9 1 v ss.length (ss.map Go.Proofs.encStr) ∧ Below w.heap.size w w' := by
  have hbl := (Array.getElem?_eq_some_iff.1 hm).1
  obtain ⟨i0, hi, hz0, hz1, hz2⟩ := info_parts (P := Try.prog) (e := 9) (z := .string ⟨#[]⟩) (size := 1) (bytes := 16) (by kernel_rfl)
  go_enter Try.func49, Try.ntmps49
  go_wp2_with (first
    | (at_range; refine wpList_range_raw rfl _ 67 rfl 9 3 Try.underlying67 b clock ms rfl (by rw [qc0 _ _ _ hbl]; exact hm) ?_; intro w0 hrg0 hg0 hs0)
    | go_in)
  go_frame
  go_loopw [2] (fun v wr => ∃ (seen : Array Nat) (ss : List (List UInt8)), Rng wr b (w.alloc (.cells #[.map (some b)] 69)).heap.size clock ms seen ∧ (ss ++ (leftOf ms seen).toList.map keyStr).Perm (ms.toList.map keyStr) ∧
      wr.ownsRow w.heap.size 9 1 v ss.length (ss.map Go.Proofs.encStr) ∧ Below w.heap.size w wr)
    (fun _ wr => wr.rangeLeft b (w.alloc (.cells #[.map (some b)] 69)).heap.size)
  case atStart =>
    refine ⟨#[], [], hrg0, by rw [show leftOf ms #[] = ms from Array.filter_eq_self.2 (by simp)]; exact .refl _, ⟨by simp, .inl ⟨rfl, rfl⟩⟩, ?_⟩
    exact ((Below.refl _ _).alloc (Nat.le_refl _) _).grown hg0 (by simp) (fun j hj => by cases hj)
  case round =>
    obtain ⟨seen, ss, hrg, hC, hrow, hnx⟩ := hrel
    go_wp2_with (first
      | (at_next; refine wpList_next_raw rfl _ rfl b (w.alloc (.cells #[.map (some b)] 69)).heap.size clock ms seen rfl hrg hb (by simp; omega) ?_ ?_)
      | go_in)
    · intro h0
      go_wp2
      go_ret
      rw [h0] at hC
      exact ⟨_, ss, rfl, by simpa using hC, hrow, hnx⟩
    · intro e w2 hel hrg2 hg2 hs2 hen
      have hel' : e ∈ (leftOf ms seen).toList := by simpa using hel
      have hem : e ∈ ms.toList := by
        unfold leftOf at hel'
        simp only [Array.toList_filter] at hel'
        exact (List.mem_filter.1 hel').1
      obtain ⟨s, hks⟩ := hk e hem
      have hsx : e.key = Go.Proofs.encStr (keyStr e) := by
        rw [hks]; simp [keyStr, hks, Go.Proofs.encStr]
      rw [hks] at hen
      have hlen : ss.length < ms.size := by
        have h1 := hC.length_eq
        simp only [List.length_append, List.length_map] at h1
        have h2 := List.length_pos_of_mem hel'
        simp at h1
        simp at h2
        omega
      have hrowr : ∀ k, u2.ownBlock = some k → k ≠ b ∧ k ≠ w.heap.size + 1 := by
        intro k hkk
        rcases hrow.2 with ⟨rfl, _⟩ | ⟨g, cap, cur, rfl, hbase, hg, _⟩
        · cases hkk
        · cases hkk
          refine ⟨by simp; omega, fun q => ?_⟩
          simp only at q
          obtain ⟨_, c0, hi, _⟩ := hrg
          rw [show (w.alloc (.cells #[.map (some b)] 69)).heap.size = w.heap.size + 1 by simp, ← q] at hi
          rw [hg] at hi; cases hi
      have hrow2 := hrow.kept hg2 (Or.inr (fun q => (hrowr _ q).2 rfl))
      clear hs2
      go_wp2_with (first
        | (at_builtin; refine wpList_append_own _ rfl _ _ 62 rfl w.heap.size 9 i0 (.string ⟨#[]⟩) 1 16 Try.underlying62 hi hz0 hz1 hz2 rfl (by decide) _ _ _ rfl (hrow2.alloc _) ⟨w2.heap.size, 0, none⟩ 1 1 [.string s] rfl rfl (cell_one_new _ _ _) (fun x hx => by simp at hx; subst hx; rfl) (by unfold maxLen; omega) (by omega) (by have := hnx.size; have := hg2.size; simp; omega) ?_; intro v' w3 hown' hg3 hnil3)
        | go_in)
      have hrg3 := (hrg2.alloc (.cells #[.string s] 9)).grown hg3 (fun q => (hrowr _ q.symm).1 rfl) (fun q => (hrowr _ q.symm).2 rfl)
      have hperm := left_perm hb.1 hel'
      go_roundw
      case rel =>
        refine ⟨v', .string s, .tuple #[.bool true, .string s, e.val], .bool true, .tuple #[.string s, e.val], .string s, u2, .string s, .slice (some ⟨w2.heap.size, 0, none⟩) 1 1, v', ⟨seen.push e.born, ss ++ [keyStr e], by simpa using hrg3, ?_, ?_, ?_⟩, by simp⟩
        · refine List.Perm.trans ?_ hC
          rw [List.append_assoc]
          exact ((hperm.map keyStr).append_left ss).symm
        · have he : Value.string s = Go.Proofs.encStr (keyStr e) := by rw [← hks]; exact hsx
          rw [he] at hown'
          simpa using hown'
        · exact ((hnx.grown hg2 hnx.size (fun j hj => by cases hj; simp)).alloc (by have := hnx.size; have := hg2.size; omega) _).grown hg3 (by have := hnx.size; have := hg2.size; simp; omega) (fun j hj => by
            rcases hrow.2 with ⟨rfl, _⟩ | ⟨g, cap, cur, rfl, hbase, hg, _⟩
            · cases hj
            · cases hj; exact hbase)
      case measure =>
        have h1 : wr.rangeLeft b (w.alloc (.cells #[.map (some b)] 69)).heap.size = (leftOf ms seen).size := by
          obtain ⟨hm1, c0, hi1, _⟩ := hrg
          simp only [World.rangeLeft, hm1, hi1]
        have h2 : w3.rangeLeft b (w.alloc (.cells #[.map (some b)] 69)).heap.size = (leftOf ms (seen.push e.born)).size := by
          obtain ⟨hm1, c0, hi1, _⟩ := hrg3
          rw [show (w.alloc (.cells #[.map (some b)] 69)).heap.size = w.heap.size + 1 by simp]
          simp only [World.rangeLeft, hm1, hi1]
        rw [h1, h2]
        have := hperm.length_eq
        simp at this
        omega
end Go.Am
