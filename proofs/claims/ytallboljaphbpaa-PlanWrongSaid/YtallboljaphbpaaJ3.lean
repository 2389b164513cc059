/- law27: DeleteFunc, Clone on the A-machine. -/
import Derived.Test.YtallboljaphbpaaJ2
set_option linter.unusedVariables false
set_option linter.unusedSimpArgs false
namespace Go.Am
open Go Go.Proofs AM
set_option maxRecDepth 10000
variable {pol : Pol} {sums : Sums}
attribute [local irreducible] KSeq KMid KBlock KLoop KOps KFunc Runs qcs qcd aopsM aop qci qcc qcx qcx? qbz qck qbw

structure Trm where
  kind : Int
  a : Str
  b : Str
  c : Str
  deriving DecidableEq
structure Slt where
  var : Str
  term : Trm
  deriving DecidableEq
structure Ptn where
  s : Slt
  p : Slt
  o : Slt
  deriving DecidableEq
abbrev trmC (t : Trm) : List AV := [.int .i64 t.kind, .str t.a, .str t.b, .str t.c]
abbrev sltC (x : Slt) : List AV := [.str x.var, .int .i64 x.term.kind, .str x.term.a, .str x.term.b, .str x.term.c]
abbrev ptnC (p : Ptn) : List AV := [.str p.s.var, .int .i64 p.s.term.kind, .str p.s.term.a, .str p.s.term.b, .str p.s.term.c, .str p.p.var, .int .i64 p.p.term.kind, .str p.p.term.a, .str p.p.term.b, .str p.p.term.c, .str p.o.var, .int .i64 p.o.term.kind, .str p.o.term.a, .str p.o.term.b, .str p.o.term.c]
theorem sltC_len (x : Slt) : (sltC x).length = 5 := rfl
theorem ptnC_len (x : Ptn) : (ptnC x).length = 15 := rfl
/-- the cells of a row of things that have as many cells each -/
def flat {α : Type} (f : α → List AV) (l : List α) : List AV := l.flatMap f
theorem flat_cons {α : Type} (f : α → List AV) (x : α) (l : List α) : flat f (x :: l) = f x ++ flat f l := by simp [flat]
theorem flat_length {α : Type} {f : α → List AV} {sz : Nat} (hf : ∀ x, (f x).length = sz) : ∀ l : List α, (flat f l).length = l.length * sz
  | [] => by simp [flat]
  | x :: l => by rw [flat_cons, List.length_append, hf, flat_length hf l, List.length_cons, Nat.succ_mul, Nat.add_comm]
theorem flat_at {α : Type} {f : α → List AV} {sz : Nat} (hf : ∀ x, (f x).length = sz) : ∀ {l : List α} {i : Nat} (hi : i < l.length), ((flat f l).drop (i * sz)).take sz = f l[i]
  | [], i, hi => by cases hi
  | x :: l, 0, _ => by rw [flat_cons, Nat.zero_mul, List.drop_zero, ← hf x, List.take_left']; rfl; rfl
  | x :: l, i + 1, hi => by
    rw [flat_cons, Nat.succ_mul, Nat.add_comm, ← List.drop_drop, show List.drop sz (f x ++ flat f l) = flat f l by rw [← hf x, List.drop_left'];rfl]
    exact flat_at hf (by simpa using hi)
/-- a slice of things -/
abbrev Rows {α : Type} (f : α → List AV) (sz : Nat) (h : Hp) (v : AV) (l : List α) : Prop := SlV h sz v l.length (flat f l)

def meet1 (cur : List Str) (s : Str) : List Str := if s ∈ cur then cur else cur ++ [s]
def qc4 (cur : List Str) (x : Slt) : List Str := if x.var = [] then cur else meet1 cur x.var
def ptnMeet (cur : List Str) (p : Ptn) : List Str := qc4 (qc4 (qc4 cur p.s) p.p) p.o
def vars (l : List Ptn) : List Str := l.foldl ptnMeet []
theorem meet1_length (cur : List Str) (s : Str) : (meet1 cur s).length ≤ cur.length + 1 := by unfold meet1; split <;> simp
theorem slotMeet_length (cur : List Str) (x : Slt) : (qc4 cur x).length ≤ cur.length + 1 := by unfold qc4; split; omega; exact meet1_length _ _
theorem ptnMeet_length (cur : List Str) (p : Ptn) : (ptnMeet cur p).length ≤ cur.length + 3 := by
  unfold ptnMeet
  have := slotMeet_length (qc4 (qc4 cur p.s) p.p) p.o
  have := slotMeet_length (qc4 cur p.s) p.p
  have := slotMeet_length cur p.s
  omega
theorem varsFrom_length (l : List Ptn) : ∀ cur, (l.foldl ptnMeet cur).length ≤ cur.length + 3 * l.length := by
  induction l with
  | nil => intro cur; simp
  | cons p l ih =>
    intro cur
    have := ih (ptnMeet cur p)
    have := ptnMeet_length cur p
    simp only [List.foldl_cons, List.length_cons]; omega
theorem vars_length (l : List Ptn) : (vars l).length ≤ 3 * l.length := by have := varsFrom_length l []; simpa [vars] using this

/-- names that are met: an object of one cell, with a slice that may grow -/
def MetAt (h : Hp) (b id : Nat) (cur : List Str) : Prop := b ≤ id ∧ ∃ nv, Row h id 0 1 [nv] true ∧ Strs h nv cur ∧ growB nv = true ∧ ∀ k ∈ qcv nv, b ≤ k ∧ k ≠ id
theorem MetAt.keep {h h1 : Hp} {b id : Nat} {cur : List Str} (m : MetAt h b id cur) (k : Keep h h1) : MetAt h1 b id cur := by
  obtain ⟨h0, nv, r, s, g, hk⟩ := m
  exact ⟨h0, nv, r.keep k, s.keep k, g, hk⟩

theorem meet_spec (hp : ∀ f d, pol.lit f d = false) (hs : sums 71 = none) (hs2 : sums 67 = some qcq) {n : Nat} (hn : 3 ≤ n) {h : Hp} {b id : Nat} {cur : List Str} (m : MetAt h b id cur) (s : Str) (hw : b ≤ h.next) (hb : cur.length < 2 ^ 40) :
    Runs (qci Try.prog pol sums n (.func (.func 71) [] []) [.ptr id 0 0, .sl .full 1 [.str s]]) h (fun _ h' => KeepBut (b ≤ ·) h h' ∧ MetAt h' b id (meet1 cur s)) := by
  obtain ⟨n, rfl⟩ : ∃ m, n = m + 1 := ⟨n - 1, by omega⟩
  refine qc7 (by assumption) Try.func71 rfl (by simp [Try.f71]) ?_
  have a0 : qcc (qbw Try.f71.ntmps (([] ++ [.ptr id 0 0, .sl .full 1 [.str s]] ++ []) : List AV)) 0 = .ptr id 0 0 := qbu rfl
  have a1 : qcc (qbw Try.f71.ntmps (([] ++ [.ptr id 0 0, .sl .full 1 [.str s]] ++ []) : List AV)) 1 = .sl .full 1 [.str s] := qbu rfl
  generalize qbw Try.f71.ntmps (([] ++ [.ptr id 0 0, .sl .full 1 [.str s]] ++ []) : List AV) = T at *
  show Runs (qcd _ _ _ _ 30 _ _ _) _ _
  have sv : ∀ h, SlV h 1 (.sl .full 1 [.str s]) 1 [.str s] := fun h => .imm _ _ _ rfl
  have sv0 := sv h
  (repeat (first|apply qbi|apply qa9|(apply qa7;dsimp only[qbc,List.map,Nat.reduceAdd])|apply qbj|apply qbd|apply qbe|apply qbn|apply qbp|apply qbo|apply qa1|apply qau|apply qbb|apply qas|apply qaq|apply qam rfl|apply qaw|apply qar|apply qax|apply qay|apply qa2|apply qav|((first|apply qa8|apply qbg|apply qbh|apply qbm|apply qbf|apply qba|apply qa0|apply qal|apply qak|apply qat)<;>first|(apply qao;(repeat' first|assumption|exact qaa rfl|apply qaf rfl|apply qab);done)|exact qan _ _|exact qai _|exact qap _|exact qad|exact qag|exact qae|exact qac|exact qah _|exact qa4 _ (by omega)|exact qa3 (by omega)|exact qa5 (by omega)|exact rfl|assumption|apply qa6)|((first|apply qbl|apply qaz|apply qaj)<;>first|(apply qao;(repeat' first|assumption|exact qaa rfl|apply qaf rfl|apply qab);done)|exact qan _ _|exact qai _|exact qap _|exact qad|exact qag|exact qae|exact qac|exact qah _|exact qa4 _ (by omega)|exact qa3 (by omega)|exact qa5 (by omega)|exact rfl|assumption|apply qa6)|(apply qbk rfl rfl;(focus (repeat' first|assumption|exact qaa rfl|apply qaf rfl|apply qab);done))|(apply qb1 rfl rfl;(focus (repeat' first|assumption|exact qaa rfl|apply qaf rfl|apply qab);done);exact rfl)))
  apply R_loop (k := 1) (I := fun k T h1 => ∃ i, k = 1 - i ∧ i ≤ 1 ∧ qcc T 0 = .ptr id 0 0 ∧ qcc T 6 = .sl .full 1 [.str s] ∧ qcc T 7 = .int .i64 (1 : Nat) ∧ qcc T 8 = .int .i64 (i : Nat) ∧ KeepBut (b ≤ ·) h h1 ∧ MetAt h1 b id (if i = 0 then cur else meet1 cur s))
  · omega
  · exact ⟨0, by omega, by omega, by (repeat' first|assumption|exact qaa rfl|apply qaf rfl|apply qab), by (repeat' first|assumption|exact qaa rfl|apply qaf rfl|apply qab), by (repeat' first|assumption|exact qaa rfl|apply qaf rfl|apply qab), by (repeat' first|assumption|exact qaa rfl|apply qaf rfl|apply qab), KeepBut.refl h, m⟩
  · rintro k T g1 ⟨i, rfl, hi, t0, t6, t7, t8, kp, hm⟩
    (repeat (first|apply qbi|apply qa9|(apply qa7;dsimp only[qbc,List.map,Nat.reduceAdd])|apply qbj|apply qbd|apply qbe|apply qbn|apply qbp|apply qbo|apply qa1|apply qau|apply qbb|apply qas|apply qaq|apply qam rfl|apply qaw|apply qar|apply qax|apply qay|apply qa2|apply qav|((first|apply qa8|apply qbg|apply qbh|apply qbm|apply qbf|apply qba|apply qa0|apply qal|apply qak|apply qat)<;>first|(apply qao;(repeat' first|assumption|exact qaa rfl|apply qaf rfl|apply qab);done)|exact qan _ _|exact qai _|exact qap _|exact qad|exact qag|exact qae|exact qac|exact qah _|exact qa4 _ (by omega)|exact qa3 (by omega)|exact qa5 (by omega)|exact rfl|assumption|apply qa6)|((first|apply qbl|apply qaz|apply qaj)<;>first|(apply qao;(repeat' first|assumption|exact qaa rfl|apply qaf rfl|apply qab);done)|exact qan _ _|exact qai _|exact qap _|exact qad|exact qag|exact qae|exact qac|exact qah _|exact qa4 _ (by omega)|exact qa3 (by omega)|exact qa5 (by omega)|exact rfl|assumption|apply qa6)|(apply qbk rfl rfl;(focus (repeat' first|assumption|exact qaa rfl|apply qaf rfl|apply qab);done))|(apply qb1 rfl rfl;(focus (repeat' first|assumption|exact qaa rfl|apply qaf rfl|apply qab);done);exact rfl)))
    apply qcg (decide ((i : Int) < ((1 : Nat) : Int)))
    · (focus first|(apply qao;(repeat' first|assumption|exact qaa rfl|apply qaf rfl|apply qab);done)|exact qan _ _|exact qai _|exact qap _|exact qad|exact qag|exact qae|exact qac|exact qah _)
    · intro c
      have hlt : i < 1 := by simp at c; omega
      obtain rfl : i = 0 := by omega
      simp only [if_true] at hm
      obtain ⟨hbid, nv, r1, s1, gr1, k1⟩ := hm
      have sv1 := sv g1
      (repeat (first|apply qbi|apply qa9|(apply qa7;dsimp only[qbc,List.map,Nat.reduceAdd])|apply qbj|apply qbd|apply qbe|apply qbn|apply qbp|apply qbo|apply qa1|apply qau|apply qbb|apply qas|apply qaq|apply qam rfl|apply qaw|apply qar|apply qax|apply qay|apply qa2|apply qav|((first|apply qa8|apply qbg|apply qbh|apply qbm|apply qbf|apply qba|apply qa0|apply qal|apply qak|apply qat)<;>first|(apply qao;(repeat' first|assumption|exact qaa rfl|apply qaf rfl|apply qab);done)|exact qan _ _|exact qai _|exact qap _|exact qad|exact qag|exact qae|exact qac|exact qah _|exact qa4 _ (by omega)|exact qa3 (by omega)|exact qa5 (by omega)|exact rfl|assumption|apply qa6)|((first|apply qbl|apply qaz|apply qaj)<;>first|(apply qao;(repeat' first|assumption|exact qaa rfl|apply qaf rfl|apply qab);done)|exact qan _ _|exact qai _|exact qap _|exact qad|exact qag|exact qae|exact qac|exact qah _|exact qa4 _ (by omega)|exact qa3 (by omega)|exact qa5 (by omega)|exact rfl|assumption|apply qa6)|(apply qbk rfl rfl;(focus (repeat' first|assumption|exact qaa rfl|apply qaf rfl|apply qab);done))|(apply qb1 rfl rfl;(focus (repeat' first|assumption|exact qaa rfl|apply qaf rfl|apply qab);done);exact rfl)))
      apply qca
      · (focus first|(apply qao;(repeat' first|assumption|exact qaa rfl|apply qaf rfl|apply qab);done)|exact qan _ _|exact qai _|exact qap _|exact qad|exact qag|exact qae|exact qac|exact qah _)
      · exact sv1
      · (focus first|(apply qao;(repeat' first|assumption|exact qaa rfl|apply qaf rfl|apply qab);done)|exact qan _ _|exact qai _|exact qap _|exact qad|exact qag|exact qae|exact qac|exact qah _)
      · omega
      · rfl
      intro a ha _
      apply qc0
      · (focus first|(apply qao;(repeat' first|assumption|exact qaa rfl|apply qaf rfl|apply qab);done)|exact qan _ _|exact qai _|exact qap _|exact qad|exact qag|exact qae|exact qac|exact qah _)
      · exact ha
      (repeat (first|apply qbi|apply qa9|(apply qa7;dsimp only[qbc,List.map,Nat.reduceAdd])|apply qbj|apply qbd|apply qbe|apply qbn|apply qbp|apply qbo|apply qa1|apply qau|apply qbb|apply qas|apply qaq|apply qam rfl|apply qaw|apply qar|apply qax|apply qay|apply qa2|apply qav|((first|apply qa8|apply qbg|apply qbh|apply qbm|apply qbf|apply qba|apply qa0|apply qal|apply qak|apply qat)<;>first|(apply qao;(repeat' first|assumption|exact qaa rfl|apply qaf rfl|apply qab);done)|exact qan _ _|exact qai _|exact qap _|exact qad|exact qag|exact qae|exact qac|exact qah _|exact qa4 _ (by omega)|exact qa3 (by omega)|exact qa5 (by omega)|exact rfl|assumption|apply qa6)|((first|apply qbl|apply qaz|apply qaj)<;>first|(apply qao;(repeat' first|assumption|exact qaa rfl|apply qaf rfl|apply qab);done)|exact qan _ _|exact qai _|exact qap _|exact qad|exact qag|exact qae|exact qac|exact qah _|exact qa4 _ (by omega)|exact qa3 (by omega)|exact qa5 (by omega)|exact rfl|assumption|apply qa6)|(apply qbk rfl rfl;(focus (repeat' first|assumption|exact qaa rfl|apply qaf rfl|apply qab);done))|(apply qb1 rfl rfl;(focus (repeat' first|assumption|exact qaa rfl|apply qaf rfl|apply qab);done);exact rfl)))
      (apply qcl; (focus first|(apply qao;(repeat' first|assumption|exact qaa rfl|apply qaf rfl|apply qab);done)|exact qan _ _|exact qai _|exact qap _|exact qad|exact qag|exact qae|exact qac|exact qah _); (repeat (apply qbt; (focus first|(apply qao;(repeat' first|assumption|exact qaa rfl|apply qaf rfl|apply qab);done)|exact qan _ _|exact qai _|exact qap _|exact qad|exact qag|exact qae|exact qac|exact qah _))); exact qby)
      refine (contains_spec hs2 (by omega) (.inl s1) s (by omega)).mono ?_
      rintro r g2 ⟨rfl, rfl⟩
      refine ⟨Undis.off rfl, ?_⟩
      (repeat (first|apply qbi|apply qa9|(apply qa7;dsimp only[qbc,List.map,Nat.reduceAdd])|apply qbj|apply qbd|apply qbe|apply qbn|apply qbp|apply qbo|apply qa1|apply qau|apply qbb|apply qas|apply qaq|apply qam rfl|apply qaw|apply qar|apply qax|apply qay|apply qa2|apply qav|((first|apply qa8|apply qbg|apply qbh|apply qbm|apply qbf|apply qba|apply qa0|apply qal|apply qak|apply qat)<;>first|(apply qao;(repeat' first|assumption|exact qaa rfl|apply qaf rfl|apply qab);done)|exact qan _ _|exact qai _|exact qap _|exact qad|exact qag|exact qae|exact qac|exact qah _|exact qa4 _ (by omega)|exact qa3 (by omega)|exact qa5 (by omega)|exact rfl|assumption|apply qa6)|((first|apply qbl|apply qaz|apply qaj)<;>first|(apply qao;(repeat' first|assumption|exact qaa rfl|apply qaf rfl|apply qab);done)|exact qan _ _|exact qai _|exact qap _|exact qad|exact qag|exact qae|exact qac|exact qah _|exact qa4 _ (by omega)|exact qa3 (by omega)|exact qa5 (by omega)|exact rfl|assumption|apply qa6)|(apply qbk rfl rfl;(focus (repeat' first|assumption|exact qaa rfl|apply qaf rfl|apply qab);done))|(apply qb1 rfl rfl;(focus (repeat' first|assumption|exact qaa rfl|apply qaf rfl|apply qab);done);exact rfl)))
      apply qcg (!decide (s ∈ cur))
      · (focus first|(apply qao;(repeat' first|assumption|exact qaa rfl|apply qaf rfl|apply qab);done)|exact qan _ _|exact qai _|exact qap _|exact qad|exact qag|exact qae|exact qac|exact qah _)
      · intro c
        have hns : s ∉ cur := by simpa using c
        (repeat (first|apply qbi|apply qa9|(apply qa7;dsimp only[qbc,List.map,Nat.reduceAdd])|apply qbj|apply qbd|apply qbe|apply qbn|apply qbp|apply qbo|apply qa1|apply qau|apply qbb|apply qas|apply qaq|apply qam rfl|apply qaw|apply qar|apply qax|apply qay|apply qa2|apply qav|((first|apply qa8|apply qbg|apply qbh|apply qbm|apply qbf|apply qba|apply qa0|apply qal|apply qak|apply qat)<;>first|(apply qao;(repeat' first|assumption|exact qaa rfl|apply qaf rfl|apply qab);done)|exact qan _ _|exact qai _|exact qap _|exact qad|exact qag|exact qae|exact qac|exact qah _|exact qa4 _ (by omega)|exact qa3 (by omega)|exact qa5 (by omega)|exact rfl|assumption|apply qa6)|((first|apply qbl|apply qaz|apply qaj)<;>first|(apply qao;(repeat' first|assumption|exact qaa rfl|apply qaf rfl|apply qab);done)|exact qan _ _|exact qai _|exact qap _|exact qad|exact qag|exact qae|exact qac|exact qah _|exact qa4 _ (by omega)|exact qa3 (by omega)|exact qa5 (by omega)|exact rfl|assumption|apply qa6)|(apply qbk rfl rfl;(focus (repeat' first|assumption|exact qaa rfl|apply qaf rfl|apply qab);done))|(apply qb1 rfl rfl;(focus (repeat' first|assumption|exact qaa rfl|apply qaf rfl|apply qab);done);exact rfl)))
        apply qcp
        · exact qb8 (by (focus first|(apply qao;(repeat' first|assumption|exact qaa rfl|apply qaf rfl|apply qab);done)|exact qan _ _|exact qai _|exact qap _|exact qad|exact qag|exact qae|exact qac|exact qah _)) qcn
        · rfl
        · rfl
        · exact hp _ _
        intro hl
        apply O_wf
        intro w1
        apply O_append (new := [.str s]) (m := 1) (bytes := 16)
        · exact qbt (by (focus first|(apply qao;(repeat' first|assumption|exact qaa rfl|apply qaf rfl|apply qab);done)|exact qan _ _|exact qai _|exact qap _|exact qad|exact qag|exact qae|exact qac|exact qah _)) (qbt (by (focus first|(apply qao;(repeat' first|assumption|exact qaa rfl|apply qaf rfl|apply qab);done)|exact qan _ _|exact qai _|exact qap _|exact qad|exact qag|exact qae|exact qac|exact qah _)) qby)
        · exact s1
        · exact gr1
        · exact sv1
        · rfl
        · rfl
        · simp [room]; omega
        intro nv' g3 kb s2 gr2 k2 _
        refine ⟨Undis.off rfl, ?_⟩
        have hid : id ∉ qcv nv := fun q => (k1 _ q).2 rfl
        have r2 := r1.keepBut kb hid
        have hk2 : ∀ k ∈ qcv nv', b ≤ k ∧ k ≠ id := by
          intro k hk
          rcases k2 k hk with q | q
          · exact k1 k q
          · exact ⟨by have := kp.next; omega, by have := r1.lt w1; omega⟩
        (repeat (first|apply qbi|apply qa9|(apply qa7;dsimp only[qbc,List.map,Nat.reduceAdd])|apply qbj|apply qbd|apply qbe|apply qbn|apply qbp|apply qbo|apply qa1|apply qau|apply qbb|apply qas|apply qaq|apply qam rfl|apply qaw|apply qar|apply qax|apply qay|apply qa2|apply qav|((first|apply qa8|apply qbg|apply qbh|apply qbm|apply qbf|apply qba|apply qa0|apply qal|apply qak|apply qat)<;>first|(apply qao;(repeat' first|assumption|exact qaa rfl|apply qaf rfl|apply qab);done)|exact qan _ _|exact qai _|exact qap _|exact qad|exact qag|exact qae|exact qac|exact qah _|exact qa4 _ (by omega)|exact qa3 (by omega)|exact qa5 (by omega)|exact rfl|assumption|apply qa6)|((first|apply qbl|apply qaz|apply qaj)<;>first|(apply qao;(repeat' first|assumption|exact qaa rfl|apply qaf rfl|apply qab);done)|exact qan _ _|exact qai _|exact qap _|exact qad|exact qag|exact qae|exact qac|exact qah _|exact qa4 _ (by omega)|exact qa3 (by omega)|exact qa5 (by omega)|exact rfl|assumption|apply qa6)|(apply qbk rfl rfl;(focus (repeat' first|assumption|exact qaa rfl|apply qaf rfl|apply qab);done))|(apply qb1 rfl rfl;(focus (repeat' first|assumption|exact qaa rfl|apply qaf rfl|apply qab);done);exact rfl)))
        apply qcr
        · (focus first|(apply qao;(repeat' first|assumption|exact qaa rfl|apply qaf rfl|apply qab);done)|exact qan _ _|exact qai _|exact qap _|exact qad|exact qag|exact qae|exact qac|exact qah _)
        · (focus first|(apply qao;(repeat' first|assumption|exact qaa rfl|apply qaf rfl|apply qab);done)|exact qan _ _|exact qai _|exact qap _|exact qad|exact qag|exact qae|exact qac|exact qah _)
        · exact r2
        · simp [s2.acells, s2.one, ones]
        intro g4 kb4 r4
        refine ⟨Undis.off rfl, ?_⟩
        rw [s2.acells] at r4
        (repeat (first|apply qbi|apply qa9|(apply qa7;dsimp only[qbc,List.map,Nat.reduceAdd])|apply qbj|apply qbd|apply qbe|apply qbn|apply qbp|apply qbo|apply qa1|apply qau|apply qbb|apply qas|apply qaq|apply qam rfl|apply qaw|apply qar|apply qax|apply qay|apply qa2|apply qav|((first|apply qa8|apply qbg|apply qbh|apply qbm|apply qbf|apply qba|apply qa0|apply qal|apply qak|apply qat)<;>first|(apply qao;(repeat' first|assumption|exact qaa rfl|apply qaf rfl|apply qab);done)|exact qan _ _|exact qai _|exact qap _|exact qad|exact qag|exact qae|exact qac|exact qah _|exact qa4 _ (by omega)|exact qa3 (by omega)|exact qa5 (by omega)|exact rfl|assumption|apply qa6)|((first|apply qbl|apply qaz|apply qaj)<;>first|(apply qao;(repeat' first|assumption|exact qaa rfl|apply qaf rfl|apply qab);done)|exact qan _ _|exact qai _|exact qap _|exact qad|exact qag|exact qae|exact qac|exact qah _|exact qa4 _ (by omega)|exact qa3 (by omega)|exact qa5 (by omega)|exact rfl|assumption|apply qa6)|(apply qbk rfl rfl;(focus (repeat' first|assumption|exact qaa rfl|apply qaf rfl|apply qab);done))|(apply qb1 rfl rfl;(focus (repeat' first|assumption|exact qaa rfl|apply qaf rfl|apply qab);done);exact rfl)))
        apply K_loop 0 (by omega)
        refine ⟨1, by omega, by omega, by (repeat' first|assumption|exact qaa rfl|apply qaf rfl|apply qab), by (repeat' first|assumption|exact qaa rfl|apply qaf rfl|apply qab), by (repeat' first|assumption|exact qaa rfl|apply qaf rfl|apply qab), by (repeat' first|assumption|exact qaa rfl|apply qaf rfl|apply qab), ?_, ?_⟩
        · exact (kp.trans (kb.weaken fun i hi => (k1 i hi).1)).trans (kb4.weaken fun i hi => by subst hi; exact hbid)
        · refine ⟨hbid, nv', r4, ?_, gr2, hk2⟩
          simp only [meet1, hns, if_false]
          have := s2.keepBut kb4 fun k hk => (hk2 k hk).2
          simpa [strs, Strs] using this
      · intro c
        have hns : s ∈ cur := by simpa using c
        (repeat (first|apply qbi|apply qa9|(apply qa7;dsimp only[qbc,List.map,Nat.reduceAdd])|apply qbj|apply qbd|apply qbe|apply qbn|apply qbp|apply qbo|apply qa1|apply qau|apply qbb|apply qas|apply qaq|apply qam rfl|apply qaw|apply qar|apply qax|apply qay|apply qa2|apply qav|((first|apply qa8|apply qbg|apply qbh|apply qbm|apply qbf|apply qba|apply qa0|apply qal|apply qak|apply qat)<;>first|(apply qao;(repeat' first|assumption|exact qaa rfl|apply qaf rfl|apply qab);done)|exact qan _ _|exact qai _|exact qap _|exact qad|exact qag|exact qae|exact qac|exact qah _|exact qa4 _ (by omega)|exact qa3 (by omega)|exact qa5 (by omega)|exact rfl|assumption|apply qa6)|((first|apply qbl|apply qaz|apply qaj)<;>first|(apply qao;(repeat' first|assumption|exact qaa rfl|apply qaf rfl|apply qab);done)|exact qan _ _|exact qai _|exact qap _|exact qad|exact qag|exact qae|exact qac|exact qah _|exact qa4 _ (by omega)|exact qa3 (by omega)|exact qa5 (by omega)|exact rfl|assumption|apply qa6)|(apply qbk rfl rfl;(focus (repeat' first|assumption|exact qaa rfl|apply qaf rfl|apply qab);done))|(apply qb1 rfl rfl;(focus (repeat' first|assumption|exact qaa rfl|apply qaf rfl|apply qab);done);exact rfl)))
        apply K_loop 0 (by omega)
        refine ⟨1, by omega, by omega, by (repeat' first|assumption|exact qaa rfl|apply qaf rfl|apply qab), by (repeat' first|assumption|exact qaa rfl|apply qaf rfl|apply qab), by (repeat' first|assumption|exact qaa rfl|apply qaf rfl|apply qab), by (repeat' first|assumption|exact qaa rfl|apply qaf rfl|apply qab), kp, hbid, nv, r1, ?_, gr1, k1⟩
        simp only [meet1, hns, if_true]
        exact s1
    · intro c
      have : i = 1 := by simp at c; omega
      subst this
      (repeat (first|apply qbi|apply qa9|(apply qa7;dsimp only[qbc,List.map,Nat.reduceAdd])|apply qbj|apply qbd|apply qbe|apply qbn|apply qbp|apply qbo|apply qa1|apply qau|apply qbb|apply qas|apply qaq|apply qam rfl|apply qaw|apply qar|apply qax|apply qay|apply qa2|apply qav|((first|apply qa8|apply qbg|apply qbh|apply qbm|apply qbf|apply qba|apply qa0|apply qal|apply qak|apply qat)<;>first|(apply qao;(repeat' first|assumption|exact qaa rfl|apply qaf rfl|apply qab);done)|exact qan _ _|exact qai _|exact qap _|exact qad|exact qag|exact qae|exact qac|exact qah _|exact qa4 _ (by omega)|exact qa3 (by omega)|exact qa5 (by omega)|exact rfl|assumption|apply qa6)|((first|apply qbl|apply qaz|apply qaj)<;>first|(apply qao;(repeat' first|assumption|exact qaa rfl|apply qaf rfl|apply qab);done)|exact qan _ _|exact qai _|exact qap _|exact qad|exact qag|exact qae|exact qac|exact qah _|exact qa4 _ (by omega)|exact qa3 (by omega)|exact qa5 (by omega)|exact rfl|assumption|apply qa6)|(apply qbk rfl rfl;(focus (repeat' first|assumption|exact qaa rfl|apply qaf rfl|apply qab);done))|(apply qb1 rfl rfl;(focus (repeat' first|assumption|exact qaa rfl|apply qaf rfl|apply qab);done);exact rfl)))
      apply R_results0 rfl
      exact ⟨kp, hm⟩

theorem MetAt.keepBut {h h1 : Hp} {b id i : Nat} {cur : List Str} (m : MetAt h b id cur) (k : KeepBut (· = i) h h1) (hi : i ≠ id) (hn : h.next ≤ i) (w : h.WF) : MetAt h1 b id cur := by
  obtain ⟨h0, nv, r, s, g, hk⟩ := m
  exact ⟨h0, nv, r.keepBut k (fun e => hi e.symm), s.keepBut k (fun j hj e => by have := s.lt w j hj; omega), g, hk⟩

theorem slots_spec (hp : ∀ f d, pol.lit f d = false) (hs : sums 55 = none) (hs1 : sums 71 = none) (hs2 : sums 67 = some qcq) {n : Nat} (hn : 5 ≤ n) {h : Hp} {b id : Nat} {cur : List Str} (m : MetAt h b id cur) (x y z : Slt) (hw : b ≤ h.next) (hb : cur.length < 2 ^ 39) :
    Runs (qci Try.prog pol sums n (.func (.func 55) [] []) [.ptr id 0 0, .sl .full 3 (sltC x ++ sltC y ++ sltC z)]) h (fun _ h' => KeepBut (b ≤ ·) h h' ∧ MetAt h' b id (qc4 (qc4 (qc4 cur x) y) z)) := by
  obtain ⟨n, rfl⟩ : ∃ m, n = m + 1 := ⟨n - 1, by omega⟩
  refine qc7 (by assumption) Try.func55 rfl (by simp [Try.f55]) ?_
  have a0 : qcc (qbw Try.f55.ntmps (([] ++ [.ptr id 0 0, .sl .full 3 (sltC x ++ sltC y ++ sltC z)] ++ []) : List AV)) 0 = .ptr id 0 0 := qbu rfl
  have a1 : qcc (qbw Try.f55.ntmps (([] ++ [.ptr id 0 0, .sl .full 3 (sltC x ++ sltC y ++ sltC z)] ++ []) : List AV)) 1 = .sl .full 3 (sltC x ++ sltC y ++ sltC z) := qbu rfl
  generalize qbw Try.f55.ntmps (([] ++ [.ptr id 0 0, .sl .full 3 (sltC x ++ sltC y ++ sltC z)] ++ []) : List AV) = T at *
  show Runs (qcd _ _ _ _ 23 _ _ _) _ _
  have sv : ∀ h, SlV h 5 (.sl .full 3 (sltC x ++ sltC y ++ sltC z)) 3 (flat sltC [x, y, z]) := fun h => .imm _ _ _ rfl
  have sv0 := sv h
  (repeat (first|apply qbi|apply qa9|(apply qa7;dsimp only[qbc,List.map,Nat.reduceAdd])|apply qbj|apply qbd|apply qbe|apply qbn|apply qbp|apply qbo|apply qa1|apply qau|apply qbb|apply qas|apply qaq|apply qam rfl|apply qaw|apply qar|apply qax|apply qay|apply qa2|apply qav|((first|apply qa8|apply qbg|apply qbh|apply qbm|apply qbf|apply qba|apply qa0|apply qal|apply qak|apply qat)<;>first|(apply qao;(repeat' first|assumption|exact qaa rfl|apply qaf rfl|apply qab);done)|exact qan _ _|exact qai _|exact qap _|exact qad|exact qag|exact qae|exact qac|exact qah _|exact qa4 _ (by omega)|exact qa3 (by omega)|exact qa5 (by omega)|exact rfl|assumption|apply qa6)|((first|apply qbl|apply qaz|apply qaj)<;>first|(apply qao;(repeat' first|assumption|exact qaa rfl|apply qaf rfl|apply qab);done)|exact qan _ _|exact qai _|exact qap _|exact qad|exact qag|exact qae|exact qac|exact qah _|exact qa4 _ (by omega)|exact qa3 (by omega)|exact qa5 (by omega)|exact rfl|assumption|apply qa6)|(apply qbk rfl rfl;(focus (repeat' first|assumption|exact qaa rfl|apply qaf rfl|apply qab);done))|(apply qb1 rfl rfl;(focus (repeat' first|assumption|exact qaa rfl|apply qaf rfl|apply qab);done);exact rfl)))
  apply R_loop (k := 3) (I := fun k T h1 => ∃ i, k = 3 - i ∧ i ≤ 3 ∧ qcc T 0 = .ptr id 0 0 ∧ qcc T 6 = .sl .full 3 (sltC x ++ sltC y ++ sltC z) ∧ qcc T 7 = .int .i64 (3 : Nat) ∧ qcc T 8 = .int .i64 (i : Nat) ∧ KeepBut (b ≤ ·) h h1 ∧ MetAt h1 b id (([x, y, z].take i).foldl qc4 cur))
  · omega
  · exact ⟨0, by omega, by omega, by (repeat' first|assumption|exact qaa rfl|apply qaf rfl|apply qab), by (repeat' first|assumption|exact qaa rfl|apply qaf rfl|apply qab), by (repeat' first|assumption|exact qaa rfl|apply qaf rfl|apply qab), by (repeat' first|assumption|exact qaa rfl|apply qaf rfl|apply qab), KeepBut.refl h, m⟩
  · rintro k T g1 ⟨i, rfl, hi, t0, t6, t7, t8, kp, hm⟩
    have hcl : (([x, y, z].take i).foldl qc4 cur).length ≤ cur.length + 3 := by
      have h1 : ∀ (l : List Slt) (c : List Str), (l.foldl qc4 c).length ≤ c.length + l.length := by
        intro l; induction l with
        | nil => intro c; simp
        | cons a l ih => intro c; have := ih (qc4 c a); have := slotMeet_length c a; simp only [List.foldl_cons, List.length_cons]; omega
      have := h1 ([x, y, z].take i) cur
      simp only [List.length_take, List.length_cons, List.length_nil] at this
      omega
    (repeat (first|apply qbi|apply qa9|(apply qa7;dsimp only[qbc,List.map,Nat.reduceAdd])|apply qbj|apply qbd|apply qbe|apply qbn|apply qbp|apply qbo|apply qa1|apply qau|apply qbb|apply qas|apply qaq|apply qam rfl|apply qaw|apply qar|apply qax|apply qay|apply qa2|apply qav|((first|apply qa8|apply qbg|apply qbh|apply qbm|apply qbf|apply qba|apply qa0|apply qal|apply qak|apply qat)<;>first|(apply qao;(repeat' first|assumption|exact qaa rfl|apply qaf rfl|apply qab);done)|exact qan _ _|exact qai _|exact qap _|exact qad|exact qag|exact qae|exact qac|exact qah _|exact qa4 _ (by omega)|exact qa3 (by omega)|exact qa5 (by omega)|exact rfl|assumption|apply qa6)|((first|apply qbl|apply qaz|apply qaj)<;>first|(apply qao;(repeat' first|assumption|exact qaa rfl|apply qaf rfl|apply qab);done)|exact qan _ _|exact qai _|exact qap _|exact qad|exact qag|exact qae|exact qac|exact qah _|exact qa4 _ (by omega)|exact qa3 (by omega)|exact qa5 (by omega)|exact rfl|assumption|apply qa6)|(apply qbk rfl rfl;(focus (repeat' first|assumption|exact qaa rfl|apply qaf rfl|apply qab);done))|(apply qb1 rfl rfl;(focus (repeat' first|assumption|exact qaa rfl|apply qaf rfl|apply qab);done);exact rfl)))
    apply qcg (decide ((i : Int) < ((3 : Nat) : Int)))
    · (focus first|(apply qao;(repeat' first|assumption|exact qaa rfl|apply qaf rfl|apply qab);done)|exact qan _ _|exact qai _|exact qap _|exact qad|exact qag|exact qae|exact qac|exact qah _)
    · intro c
      have hlt : i < 3 := by simp at c; omega
      have hlt' : i < [x, y, z].length := hlt
      have sv1 := sv g1
      (repeat (first|apply qbi|apply qa9|(apply qa7;dsimp only[qbc,List.map,Nat.reduceAdd])|apply qbj|apply qbd|apply qbe|apply qbn|apply qbp|apply qbo|apply qa1|apply qau|apply qbb|apply qas|apply qaq|apply qam rfl|apply qaw|apply qar|apply qax|apply qay|apply qa2|apply qav|((first|apply qa8|apply qbg|apply qbh|apply qbm|apply qbf|apply qba|apply qa0|apply qal|apply qak|apply qat)<;>first|(apply qao;(repeat' first|assumption|exact qaa rfl|apply qaf rfl|apply qab);done)|exact qan _ _|exact qai _|exact qap _|exact qad|exact qag|exact qae|exact qac|exact qah _|exact qa4 _ (by omega)|exact qa3 (by omega)|exact qa5 (by omega)|exact rfl|assumption|apply qa6)|((first|apply qbl|apply qaz|apply qaj)<;>first|(apply qao;(repeat' first|assumption|exact qaa rfl|apply qaf rfl|apply qab);done)|exact qan _ _|exact qai _|exact qap _|exact qad|exact qag|exact qae|exact qac|exact qah _|exact qa4 _ (by omega)|exact qa3 (by omega)|exact qa5 (by omega)|exact rfl|assumption|apply qa6)|(apply qbk rfl rfl;(focus (repeat' first|assumption|exact qaa rfl|apply qaf rfl|apply qab);done))|(apply qb1 rfl rfl;(focus (repeat' first|assumption|exact qaa rfl|apply qaf rfl|apply qab);done);exact rfl)))
      apply qca
      · (focus first|(apply qao;(repeat' first|assumption|exact qaa rfl|apply qaf rfl|apply qab);done)|exact qan _ _|exact qai _|exact qap _|exact qad|exact qag|exact qae|exact qac|exact qah _)
      · exact sv1
      · (focus first|(apply qao;(repeat' first|assumption|exact qaa rfl|apply qaf rfl|apply qab);done)|exact qan _ _|exact qai _|exact qap _|exact qad|exact qag|exact qae|exact qac|exact qah _)
      · omega
      · rfl
      intro a ha _
      rw [flat_at sltC_len hlt'] at ha
      have hstep : ([x, y, z].take (i + 1)).foldl qc4 cur = qc4 (([x, y, z].take i).foldl qc4 cur) [x, y, z][i] := by
        rw [List.take_succ_eq_append_getElem hlt', List.foldl_append]; rfl
      generalize [x, y, z][i] = s at ha hstep
      apply O_load_agg
      · (focus first|(apply qao;(repeat' first|assumption|exact qaa rfl|apply qaf rfl|apply qab);done)|exact qan _ _|exact qai _|exact qap _|exact qad|exact qag|exact qae|exact qac|exact qah _)
      · exact ha
      · rfl
      apply O_wf
      intro w1
      apply O_alloc
      intro g2 j kp2 r2 lj1 lj2
      apply qcr
      · (focus first|(apply qao;(repeat' first|assumption|exact qaa rfl|apply qaf rfl|apply qab);done)|exact qan _ _|exact qai _|exact qap _|exact qad|exact qag|exact qae|exact qac|exact qah _)
      · (focus first|(apply qao;(repeat' first|assumption|exact qaa rfl|apply qaf rfl|apply qab);done)|exact qan _ _|exact qai _|exact qap _|exact qad|exact qag|exact qae|exact qac|exact qah _)
      · exact r2
      · rfl
      intro g3 kb3 r3
      refine ⟨Undis.off rfl, ?_⟩
      have hidj : id < g1.next := by obtain ⟨_, nv, r, _⟩ := hm; exact r.lt w1
      have hm3 : MetAt g3 b id (([x, y, z].take i).foldl qc4 cur) := by
        obtain ⟨q0, nv, q1, q2, q3, q4⟩ := hm
        exact ⟨q0, nv, (q1.keep kp2).keepBut kb3 (by omega), (q2.keep kp2).keepBut kb3 (fun k hk e => by have := q2.lt w1 k hk; omega), q3, q4⟩
      have hn3 : g1.next ≤ g3.next := Nat.le_trans kp2.next kb3.next
      have kp3 : KeepBut (b ≤ ·) h g3 := (kp.trans (kp2.but _)).trans (kb3.weaken fun k hk => by subst hk; have := kp.next; omega)
      change Row g3 j 0 _ [.str s.var, .int .i64 s.term.kind, .str s.term.a, .str s.term.b, .str s.term.c] true at r3
      (repeat (first|apply qbi|apply qa9|(apply qa7;dsimp only[qbc,List.map,Nat.reduceAdd])|apply qbj|apply qbd|apply qbe|apply qbn|apply qbp|apply qbo|apply qa1|apply qau|apply qbb|apply qas|apply qaq|apply qam rfl|apply qaw|apply qar|apply qax|apply qay|apply qa2|apply qav|((first|apply qa8|apply qbg|apply qbh|apply qbm|apply qbf|apply qba|apply qa0|apply qal|apply qak|apply qat)<;>first|(apply qao;(repeat' first|assumption|exact qaa rfl|apply qaf rfl|apply qab);done)|exact qan _ _|exact qai _|exact qap _|exact qad|exact qag|exact qae|exact qac|exact qah _|exact qa4 _ (by omega)|exact qa3 (by omega)|exact qa5 (by omega)|exact rfl|assumption|apply qa6)|((first|apply qbl|apply qaz|apply qaj)<;>first|(apply qao;(repeat' first|assumption|exact qaa rfl|apply qaf rfl|apply qab);done)|exact qan _ _|exact qai _|exact qap _|exact qad|exact qag|exact qae|exact qac|exact qah _|exact qa4 _ (by omega)|exact qa3 (by omega)|exact qa5 (by omega)|exact rfl|assumption|apply qa6)|(apply qbk rfl rfl;(focus (repeat' first|assumption|exact qaa rfl|apply qaf rfl|apply qab);done))|(apply qb1 rfl rfl;(focus (repeat' first|assumption|exact qaa rfl|apply qaf rfl|apply qab);done);exact rfl)))
      apply qcg (!(s.var == []))
      · (focus first|(apply qao;(repeat' first|assumption|exact qaa rfl|apply qaf rfl|apply qab);done)|exact qan _ _|exact qai _|exact qap _|exact qad|exact qag|exact qae|exact qac|exact qah _)
      · intro c
        have hne : s.var ≠ [] := by simpa using c
        (refine R_drawn [0, 1, 2, 3, 4, 5, 6] [0, 1, 3, 0, 8, 24, 63] (by kernel_rfl) (by kernel_rfl) (by rfl) ?_; dsimp only [qc9, List.map, List.getElem?_cons_zero, List.getElem?_cons_succ])
        (repeat (first|apply qbi|apply qa9|(apply qa7;dsimp only[qbc,List.map,Nat.reduceAdd])|apply qbj|apply qbd|apply qbe|apply qbn|apply qbp|apply qbo|apply qa1|apply qau|apply qbb|apply qas|apply qaq|apply qam rfl|apply qaw|apply qar|apply qax|apply qay|apply qa2|apply qav|((first|apply qa8|apply qbg|apply qbh|apply qbm|apply qbf|apply qba|apply qa0|apply qal|apply qak|apply qat)<;>first|(apply qao;(repeat' first|assumption|exact qaa rfl|apply qaf rfl|apply qab);done)|exact qan _ _|exact qai _|exact qap _|exact qad|exact qag|exact qae|exact qac|exact qah _|exact qa4 _ (by omega)|exact qa3 (by omega)|exact qa5 (by omega)|exact rfl|assumption|apply qa6)|((first|apply qbl|apply qaz|apply qaj)<;>first|(apply qao;(repeat' first|assumption|exact qaa rfl|apply qaf rfl|apply qab);done)|exact qan _ _|exact qai _|exact qap _|exact qad|exact qag|exact qae|exact qac|exact qah _|exact qa4 _ (by omega)|exact qa3 (by omega)|exact qa5 (by omega)|exact rfl|assumption|apply qa6)|(apply qbk rfl rfl;(focus (repeat' first|assumption|exact qaa rfl|apply qaf rfl|apply qab);done))|(apply qb1 rfl rfl;(focus (repeat' first|assumption|exact qaa rfl|apply qaf rfl|apply qab);done);exact rfl)))
        apply qcp
        · exact qb8 (by (focus first|(apply qao;(repeat' first|assumption|exact qaa rfl|apply qaf rfl|apply qab);done)|exact qan _ _|exact qai _|exact qap _|exact qad|exact qag|exact qae|exact qac|exact qah _)) qcn
        · rfl
        · rfl
        · exact hp _ _
        intro _
        (apply qcl; (focus first|(apply qao;(repeat' first|assumption|exact qaa rfl|apply qaf rfl|apply qab);done)|exact qan _ _|exact qai _|exact qap _|exact qad|exact qag|exact qae|exact qac|exact qah _); (repeat (apply qbt; (focus first|(apply qao;(repeat' first|assumption|exact qaa rfl|apply qaf rfl|apply qab);done)|exact qan _ _|exact qai _|exact qap _|exact qad|exact qag|exact qae|exact qac|exact qah _))); exact qby)
        refine (meet_spec hp hs1 hs2 (by omega) hm3 s.var (by have := kp3.next; omega) (by omega)).mono ?_
        rintro _ g4 ⟨kb4, hm4⟩
        refine ⟨Undis.ahead (by kernel_rfl), ?_⟩
        (repeat (first|apply qbi|apply qa9|(apply qa7;dsimp only[qbc,List.map,Nat.reduceAdd])|apply qbj|apply qbd|apply qbe|apply qbn|apply qbp|apply qbo|apply qa1|apply qau|apply qbb|apply qas|apply qaq|apply qam rfl|apply qaw|apply qar|apply qax|apply qay|apply qa2|apply qav|((first|apply qa8|apply qbg|apply qbh|apply qbm|apply qbf|apply qba|apply qa0|apply qal|apply qak|apply qat)<;>first|(apply qao;(repeat' first|assumption|exact qaa rfl|apply qaf rfl|apply qab);done)|exact qan _ _|exact qai _|exact qap _|exact qad|exact qag|exact qae|exact qac|exact qah _|exact qa4 _ (by omega)|exact qa3 (by omega)|exact qa5 (by omega)|exact rfl|assumption|apply qa6)|((first|apply qbl|apply qaz|apply qaj)<;>first|(apply qao;(repeat' first|assumption|exact qaa rfl|apply qaf rfl|apply qab);done)|exact qan _ _|exact qai _|exact qap _|exact qad|exact qag|exact qae|exact qac|exact qah _|exact qa4 _ (by omega)|exact qa3 (by omega)|exact qa5 (by omega)|exact rfl|assumption|apply qa6)|(apply qbk rfl rfl;(focus (repeat' first|assumption|exact qaa rfl|apply qaf rfl|apply qab);done))|(apply qb1 rfl rfl;(focus (repeat' first|assumption|exact qaa rfl|apply qaf rfl|apply qab);done);exact rfl)))
        apply K_loop (3 - (i + 1)) (by omega)
        refine ⟨i + 1, rfl, by omega, by (repeat' first|assumption|exact qaa rfl|apply qaf rfl|apply qab), by (repeat' first|assumption|exact qaa rfl|apply qaf rfl|apply qab), by (repeat' first|assumption|exact qaa rfl|apply qaf rfl|apply qab), by (repeat' first|assumption|exact qaa rfl|apply qaf rfl|apply qab), kp3.trans kb4, ?_⟩
        rw [hstep]
        simpa [qc4, hne] using hm4
      · intro c
        have hne : s.var = [] := by simpa using c
        (repeat (first|apply qbi|apply qa9|(apply qa7;dsimp only[qbc,List.map,Nat.reduceAdd])|apply qbj|apply qbd|apply qbe|apply qbn|apply qbp|apply qbo|apply qa1|apply qau|apply qbb|apply qas|apply qaq|apply qam rfl|apply qaw|apply qar|apply qax|apply qay|apply qa2|apply qav|((first|apply qa8|apply qbg|apply qbh|apply qbm|apply qbf|apply qba|apply qa0|apply qal|apply qak|apply qat)<;>first|(apply qao;(repeat' first|assumption|exact qaa rfl|apply qaf rfl|apply qab);done)|exact qan _ _|exact qai _|exact qap _|exact qad|exact qag|exact qae|exact qac|exact qah _|exact qa4 _ (by omega)|exact qa3 (by omega)|exact qa5 (by omega)|exact rfl|assumption|apply qa6)|((first|apply qbl|apply qaz|apply qaj)<;>first|(apply qao;(repeat' first|assumption|exact qaa rfl|apply qaf rfl|apply qab);done)|exact qan _ _|exact qai _|exact qap _|exact qad|exact qag|exact qae|exact qac|exact qah _|exact qa4 _ (by omega)|exact qa3 (by omega)|exact qa5 (by omega)|exact rfl|assumption|apply qa6)|(apply qbk rfl rfl;(focus (repeat' first|assumption|exact qaa rfl|apply qaf rfl|apply qab);done))|(apply qb1 rfl rfl;(focus (repeat' first|assumption|exact qaa rfl|apply qaf rfl|apply qab);done);exact rfl)))
        apply K_loop (3 - (i + 1)) (by omega)
        refine ⟨i + 1, rfl, by omega, by (repeat' first|assumption|exact qaa rfl|apply qaf rfl|apply qab), by (repeat' first|assumption|exact qaa rfl|apply qaf rfl|apply qab), by (repeat' first|assumption|exact qaa rfl|apply qaf rfl|apply qab), by (repeat' first|assumption|exact qaa rfl|apply qaf rfl|apply qab), kp3, ?_⟩
        rw [hstep]
        simpa [qc4, hne] using hm3
    · intro c
      have : i = 3 := by simp at c; omega
      subst this
      (repeat (first|apply qbi|apply qa9|(apply qa7;dsimp only[qbc,List.map,Nat.reduceAdd])|apply qbj|apply qbd|apply qbe|apply qbn|apply qbp|apply qbo|apply qa1|apply qau|apply qbb|apply qas|apply qaq|apply qam rfl|apply qaw|apply qar|apply qax|apply qay|apply qa2|apply qav|((first|apply qa8|apply qbg|apply qbh|apply qbm|apply qbf|apply qba|apply qa0|apply qal|apply qak|apply qat)<;>first|(apply qao;(repeat' first|assumption|exact qaa rfl|apply qaf rfl|apply qab);done)|exact qan _ _|exact qai _|exact qap _|exact qad|exact qag|exact qae|exact qac|exact qah _|exact qa4 _ (by omega)|exact qa3 (by omega)|exact qa5 (by omega)|exact rfl|assumption|apply qa6)|((first|apply qbl|apply qaz|apply qaj)<;>first|(apply qao;(repeat' first|assumption|exact qaa rfl|apply qaf rfl|apply qab);done)|exact qan _ _|exact qai _|exact qap _|exact qad|exact qag|exact qae|exact qac|exact qah _|exact qa4 _ (by omega)|exact qa3 (by omega)|exact qa5 (by omega)|exact rfl|assumption|apply qa6)|(apply qbk rfl rfl;(focus (repeat' first|assumption|exact qaa rfl|apply qaf rfl|apply qab);done))|(apply qb1 rfl rfl;(focus (repeat' first|assumption|exact qaa rfl|apply qaf rfl|apply qab);done);exact rfl)))
      apply R_results0 rfl
      exact ⟨kp, hm⟩
end Go.Am
namespace Go.Am
open Go Go.Proofs AM
set_option maxRecDepth 10000
variable {pol : Pol} {sums : Sums}
attribute [local irreducible] KSeq KMid KBlock KLoop KOps KFunc Runs qcs qcd aopsM aop qci qcc qcx qcx? qbz qck qbw

theorem KeepBut.toKeep {h h1 : Hp} (k : KeepBut (h.next ≤ ·) h h1) (w : h.WF) : Keep h h1 := k.all fun _ hi => w.get hi
theorem SlV.old {h h1 : Hp} {sz n : Nat} {v : AV} {cells : List AV} (s : SlV h sz v n cells) (w : h.WF) (k : KeepBut (h.next ≤ ·) h h1) : SlV h1 sz v n cells := s.keepBut k fun i hi => by have := s.lt w i hi; omega
theorem vars_spec (hp : ∀ f d, pol.lit f d = false) (hs : sums 27 = none) (hs0 : sums 55 = none) (hs1 : sums 71 = none) (hs2 : sums 67 = some qcq) {n : Nat} {h : Hp} {v : AV} {l : List Ptn} (hn : l.length + 7 ≤ n) (o : Rows ptnC 15 h v l) (hb : l.length < 2 ^ 30) :
    Runs (qci Try.prog pol sums n (.func (.func 27) [] []) [v]) h (fun r h' => Keep h h' ∧ Strs h' r (vars l) ∧ growB r = true ∧ ∀ k ∈ qcv r, h.next ≤ k) := by
  apply Runs.wf
  intro w
  obtain ⟨n, rfl⟩ : ∃ m, n = m + 1 := ⟨n - 1, by omega⟩
  refine qc7 (by assumption) Try.func27 rfl (by simp [Try.f27]) ?_
  have a0 : qcc (qbw Try.f27.ntmps (([] ++ [v] ++ []) : List AV)) 0 = v := qbu rfl
  generalize qbw Try.f27.ntmps (([] ++ [v] ++ []) : List AV) = T at *
  show Runs (qcd _ _ _ _ 24 _ _ _) _ _
  (repeat (first|apply qbi|apply qa9|(apply qa7;dsimp only[qbc,List.map,Nat.reduceAdd])|apply qbj|apply qbd|apply qbe|apply qbn|apply qbp|apply qbo|apply qa1|apply qau|apply qbb|apply qas|apply qaq|apply qam rfl|apply qaw|apply qar|apply qax|apply qay|apply qa2|apply qav|((first|apply qa8|apply qbg|apply qbh|apply qbm|apply qbf|apply qba|apply qa0|apply qal|apply qak|apply qat)<;>first|(apply qao;(repeat' first|assumption|exact qaa rfl|apply qaf rfl|apply qab);done)|exact qan _ _|exact qai _|exact qap _|exact qad|exact qag|exact qae|exact qac|exact qah _|exact qa4 _ (by omega)|exact qa3 (by omega)|exact qa5 (by omega)|exact rfl|assumption|apply qa6)|((first|apply qbl|apply qaz|apply qaj)<;>first|(apply qao;(repeat' first|assumption|exact qaa rfl|apply qaf rfl|apply qab);done)|exact qan _ _|exact qai _|exact qap _|exact qad|exact qag|exact qae|exact qac|exact qah _|exact qa4 _ (by omega)|exact qa3 (by omega)|exact qa5 (by omega)|exact rfl|assumption|apply qa6)|(apply qbk rfl rfl;(focus (repeat' first|assumption|exact qaa rfl|apply qaf rfl|apply qab);done))|(apply qb1 rfl rfl;(focus (repeat' first|assumption|exact qaa rfl|apply qaf rfl|apply qab);done);exact rfl)))
  apply O_alloc
  intro g1 id k1 r1 l1 l2
  (repeat (first|apply qbi|apply qa9|(apply qa7;dsimp only[qbc,List.map,Nat.reduceAdd])|apply qbj|apply qbd|apply qbe|apply qbn|apply qbp|apply qbo|apply qa1|apply qau|apply qbb|apply qas|apply qaq|apply qam rfl|apply qaw|apply qar|apply qax|apply qay|apply qa2|apply qav|((first|apply qa8|apply qbg|apply qbh|apply qbm|apply qbf|apply qba|apply qa0|apply qal|apply qak|apply qat)<;>first|(apply qao;(repeat' first|assumption|exact qaa rfl|apply qaf rfl|apply qab);done)|exact qan _ _|exact qai _|exact qap _|exact qad|exact qag|exact qae|exact qac|exact qah _|exact qa4 _ (by omega)|exact qa3 (by omega)|exact qa5 (by omega)|exact rfl|assumption|apply qa6)|((first|apply qbl|apply qaz|apply qaj)<;>first|(apply qao;(repeat' first|assumption|exact qaa rfl|apply qaf rfl|apply qab);done)|exact qan _ _|exact qai _|exact qap _|exact qad|exact qag|exact qae|exact qac|exact qah _|exact qa4 _ (by omega)|exact qa3 (by omega)|exact qa5 (by omega)|exact rfl|assumption|apply qa6)|(apply qbk rfl rfl;(focus (repeat' first|assumption|exact qaa rfl|apply qaf rfl|apply qab);done))|(apply qb1 rfl rfl;(focus (repeat' first|assumption|exact qaa rfl|apply qaf rfl|apply qab);done);exact rfl)))
  have o1 := o.keep k1
  (repeat (first|apply qbi|apply qa9|(apply qa7;dsimp only[qbc,List.map,Nat.reduceAdd])|apply qbj|apply qbd|apply qbe|apply qbn|apply qbp|apply qbo|apply qa1|apply qau|apply qbb|apply qas|apply qaq|apply qam rfl|apply qaw|apply qar|apply qax|apply qay|apply qa2|apply qav|((first|apply qa8|apply qbg|apply qbh|apply qbm|apply qbf|apply qba|apply qa0|apply qal|apply qak|apply qat)<;>first|(apply qao;(repeat' first|assumption|exact qaa rfl|apply qaf rfl|apply qab);done)|exact qan _ _|exact qai _|exact qap _|exact qad|exact qag|exact qae|exact qac|exact qah _|exact qa4 _ (by omega)|exact qa3 (by omega)|exact qa5 (by omega)|exact rfl|assumption|apply qa6)|((first|apply qbl|apply qaz|apply qaj)<;>first|(apply qao;(repeat' first|assumption|exact qaa rfl|apply qaf rfl|apply qab);done)|exact qan _ _|exact qai _|exact qap _|exact qad|exact qag|exact qae|exact qac|exact qah _|exact qa4 _ (by omega)|exact qa3 (by omega)|exact qa5 (by omega)|exact rfl|assumption|apply qa6)|(apply qbk rfl rfl;(focus (repeat' first|assumption|exact qaa rfl|apply qaf rfl|apply qab);done))|(apply qb1 rfl rfl;(focus (repeat' first|assumption|exact qaa rfl|apply qaf rfl|apply qab);done);exact rfl)))
  apply R_loop (k := l.length) (I := fun k T g => ∃ i, k = l.length - i ∧ i ≤ l.length ∧ qcc T 3 = .ptr id 0 0 ∧ qcc T 6 = v ∧ qcc T 7 = .int .i64 (l.length : Nat) ∧ qcc T 8 = .int .i64 (i : Nat) ∧ KeepBut (h.next ≤ ·) h g ∧ MetAt g h.next id ((l.take i).foldl ptnMeet []))
  · omega
  · refine ⟨0, by omega, by omega, by (repeat' first|assumption|exact qaa rfl|apply qaf rfl|apply qab), by (repeat' first|assumption|exact qaa rfl|apply qaf rfl|apply qab), by (repeat' first|assumption|exact qaa rfl|apply qaf rfl|apply qab), by (repeat' first|assumption|exact qaa rfl|apply qaf rfl|apply qab), k1.but _, l1, _, r1, SlV.nil, rfl, ?_⟩
    simp [qcv]
  · rintro k T g2 ⟨i, rfl, hi, t3, t6, t7, t8, kp, hm⟩
    have hcl : ((l.take i).foldl ptnMeet []).length ≤ 3 * i := by
      have := varsFrom_length (l.take i) []
      simp only [List.length_nil, List.length_take] at this
      omega
    (repeat (first|apply qbi|apply qa9|(apply qa7;dsimp only[qbc,List.map,Nat.reduceAdd])|apply qbj|apply qbd|apply qbe|apply qbn|apply qbp|apply qbo|apply qa1|apply qau|apply qbb|apply qas|apply qaq|apply qam rfl|apply qaw|apply qar|apply qax|apply qay|apply qa2|apply qav|((first|apply qa8|apply qbg|apply qbh|apply qbm|apply qbf|apply qba|apply qa0|apply qal|apply qak|apply qat)<;>first|(apply qao;(repeat' first|assumption|exact qaa rfl|apply qaf rfl|apply qab);done)|exact qan _ _|exact qai _|exact qap _|exact qad|exact qag|exact qae|exact qac|exact qah _|exact qa4 _ (by omega)|exact qa3 (by omega)|exact qa5 (by omega)|exact rfl|assumption|apply qa6)|((first|apply qbl|apply qaz|apply qaj)<;>first|(apply qao;(repeat' first|assumption|exact qaa rfl|apply qaf rfl|apply qab);done)|exact qan _ _|exact qai _|exact qap _|exact qad|exact qag|exact qae|exact qac|exact qah _|exact qa4 _ (by omega)|exact qa3 (by omega)|exact qa5 (by omega)|exact rfl|assumption|apply qa6)|(apply qbk rfl rfl;(focus (repeat' first|assumption|exact qaa rfl|apply qaf rfl|apply qab);done))|(apply qb1 rfl rfl;(focus (repeat' first|assumption|exact qaa rfl|apply qaf rfl|apply qab);done);exact rfl)))
    apply qcg (decide ((i : Int) < (l.length : Int)))
    · (focus first|(apply qao;(repeat' first|assumption|exact qaa rfl|apply qaf rfl|apply qab);done)|exact qan _ _|exact qai _|exact qap _|exact qad|exact qag|exact qae|exact qac|exact qah _)
    · intro c
      have hlt : i < l.length := by simpa using c
      (repeat (first|apply qbi|apply qa9|(apply qa7;dsimp only[qbc,List.map,Nat.reduceAdd])|apply qbj|apply qbd|apply qbe|apply qbn|apply qbp|apply qbo|apply qa1|apply qau|apply qbb|apply qas|apply qaq|apply qam rfl|apply qaw|apply qar|apply qax|apply qay|apply qa2|apply qav|((first|apply qa8|apply qbg|apply qbh|apply qbm|apply qbf|apply qba|apply qa0|apply qal|apply qak|apply qat)<;>first|(apply qao;(repeat' first|assumption|exact qaa rfl|apply qaf rfl|apply qab);done)|exact qan _ _|exact qai _|exact qap _|exact qad|exact qag|exact qae|exact qac|exact qah _|exact qa4 _ (by omega)|exact qa3 (by omega)|exact qa5 (by omega)|exact rfl|assumption|apply qa6)|((first|apply qbl|apply qaz|apply qaj)<;>first|(apply qao;(repeat' first|assumption|exact qaa rfl|apply qaf rfl|apply qab);done)|exact qan _ _|exact qai _|exact qap _|exact qad|exact qag|exact qae|exact qac|exact qah _|exact qa4 _ (by omega)|exact qa3 (by omega)|exact qa5 (by omega)|exact rfl|assumption|apply qa6)|(apply qbk rfl rfl;(focus (repeat' first|assumption|exact qaa rfl|apply qaf rfl|apply qab);done))|(apply qb1 rfl rfl;(focus (repeat' first|assumption|exact qaa rfl|apply qaf rfl|apply qab);done);exact rfl)))
      apply qca
      · (focus first|(apply qao;(repeat' first|assumption|exact qaa rfl|apply qaf rfl|apply qab);done)|exact qan _ _|exact qai _|exact qap _|exact qad|exact qag|exact qae|exact qac|exact qah _)
      · exact o.old w kp
      · (focus first|(apply qao;(repeat' first|assumption|exact qaa rfl|apply qaf rfl|apply qab);done)|exact qan _ _|exact qai _|exact qap _|exact qad|exact qag|exact qae|exact qac|exact qah _)
      · omega
      · rfl
      intro a ha _
      rw [flat_at ptnC_len hlt] at ha
      have hstep : (l.take (i + 1)).foldl ptnMeet [] = ptnMeet ((l.take i).foldl ptnMeet []) l[i] := by
        rw [List.take_succ_eq_append_getElem hlt, List.foldl_append]; rfl
      generalize l[i] = p at ha hstep
      apply O_load_agg
      · (focus first|(apply qao;(repeat' first|assumption|exact qaa rfl|apply qaf rfl|apply qab);done)|exact qan _ _|exact qai _|exact qap _|exact qad|exact qag|exact qae|exact qac|exact qah _)
      · exact ha
      · rfl
      apply O_wf
      intro w2
      apply O_alloc
      intro g3 j k3 r3 lj1 lj2
      apply qcr
      · (focus first|(apply qao;(repeat' first|assumption|exact qaa rfl|apply qaf rfl|apply qab);done)|exact qan _ _|exact qai _|exact qap _|exact qad|exact qag|exact qae|exact qac|exact qah _)
      · (focus first|(apply qao;(repeat' first|assumption|exact qaa rfl|apply qaf rfl|apply qab);done)|exact qan _ _|exact qai _|exact qap _|exact qad|exact qag|exact qae|exact qac|exact qah _)
      · exact r3
      · rfl
      intro g4 kb4 r4
      refine ⟨Undis.off rfl, ?_⟩
      have hm4 : MetAt g4 h.next id ((l.take i).foldl ptnMeet []) := by
        obtain ⟨q0, nv, q1, q2, q3, q4⟩ := hm
        have := q1.lt w2
        exact ⟨q0, nv, (q1.keep k3).keepBut kb4 (by omega), (q2.keep k3).keepBut kb4 (fun k hk e => by have := q2.lt w2 k hk; omega), q3, q4⟩
      have kp4 : KeepBut (h.next ≤ ·) h g4 := (kp.trans (k3.but _)).trans (kb4.weaken fun k hk => by subst hk; have := kp.next; omega)
      change Row g4 j 0 _ (ptnC p) true at r4
      (repeat (first|apply qbi|apply qa9|(apply qa7;dsimp only[qbc,List.map,Nat.reduceAdd])|apply qbj|apply qbd|apply qbe|apply qbn|apply qbp|apply qbo|apply qa1|apply qau|apply qbb|apply qas|apply qaq|apply qam rfl|apply qaw|apply qar|apply qax|apply qay|apply qa2|apply qav|((first|apply qa8|apply qbg|apply qbh|apply qbm|apply qbf|apply qba|apply qa0|apply qal|apply qak|apply qat)<;>first|(apply qao;(repeat' first|assumption|exact qaa rfl|apply qaf rfl|apply qab);done)|exact qan _ _|exact qai _|exact qap _|exact qad|exact qag|exact qae|exact qac|exact qah _|exact qa4 _ (by omega)|exact qa3 (by omega)|exact qa5 (by omega)|exact rfl|assumption|apply qa6)|((first|apply qbl|apply qaz|apply qaj)<;>first|(apply qao;(repeat' first|assumption|exact qaa rfl|apply qaf rfl|apply qab);done)|exact qan _ _|exact qai _|exact qap _|exact qad|exact qag|exact qae|exact qac|exact qah _|exact qa4 _ (by omega)|exact qa3 (by omega)|exact qa5 (by omega)|exact rfl|assumption|apply qa6)|(apply qbk rfl rfl;(focus (repeat' first|assumption|exact qaa rfl|apply qaf rfl|apply qab);done))|(apply qb1 rfl rfl;(focus (repeat' first|assumption|exact qaa rfl|apply qaf rfl|apply qab);done);exact rfl)))
      apply qb2 (n := 5)
      · (focus first|(apply qao;(repeat' first|assumption|exact qaa rfl|apply qaf rfl|apply qab);done)|exact qan _ _|exact qai _|exact qap _|exact qad|exact qag|exact qae|exact qac|exact qah _)
      · exact r4
      · rfl
      · exact rfl
      (repeat (first|apply qbi|apply qa9|(apply qa7;dsimp only[qbc,List.map,Nat.reduceAdd])|apply qbj|apply qbd|apply qbe|apply qbn|apply qbp|apply qbo|apply qa1|apply qau|apply qbb|apply qas|apply qaq|apply qam rfl|apply qaw|apply qar|apply qax|apply qay|apply qa2|apply qav|((first|apply qa8|apply qbg|apply qbh|apply qbm|apply qbf|apply qba|apply qa0|apply qal|apply qak|apply qat)<;>first|(apply qao;(repeat' first|assumption|exact qaa rfl|apply qaf rfl|apply qab);done)|exact qan _ _|exact qai _|exact qap _|exact qad|exact qag|exact qae|exact qac|exact qah _|exact qa4 _ (by omega)|exact qa3 (by omega)|exact qa5 (by omega)|exact rfl|assumption|apply qa6)|((first|apply qbl|apply qaz|apply qaj)<;>first|(apply qao;(repeat' first|assumption|exact qaa rfl|apply qaf rfl|apply qab);done)|exact qan _ _|exact qai _|exact qap _|exact qad|exact qag|exact qae|exact qac|exact qah _|exact qa4 _ (by omega)|exact qa3 (by omega)|exact qa5 (by omega)|exact rfl|assumption|apply qa6)|(apply qbk rfl rfl;(focus (repeat' first|assumption|exact qaa rfl|apply qaf rfl|apply qab);done))|(apply qb1 rfl rfl;(focus (repeat' first|assumption|exact qaa rfl|apply qaf rfl|apply qab);done);exact rfl)))
      apply qb2 (n := 5)
      · (focus first|(apply qao;(repeat' first|assumption|exact qaa rfl|apply qaf rfl|apply qab);done)|exact qan _ _|exact qai _|exact qap _|exact qad|exact qag|exact qae|exact qac|exact qah _)
      · exact r4
      · rfl
      · exact rfl
      (repeat (first|apply qbi|apply qa9|(apply qa7;dsimp only[qbc,List.map,Nat.reduceAdd])|apply qbj|apply qbd|apply qbe|apply qbn|apply qbp|apply qbo|apply qa1|apply qau|apply qbb|apply qas|apply qaq|apply qam rfl|apply qaw|apply qar|apply qax|apply qay|apply qa2|apply qav|((first|apply qa8|apply qbg|apply qbh|apply qbm|apply qbf|apply qba|apply qa0|apply qal|apply qak|apply qat)<;>first|(apply qao;(repeat' first|assumption|exact qaa rfl|apply qaf rfl|apply qab);done)|exact qan _ _|exact qai _|exact qap _|exact qad|exact qag|exact qae|exact qac|exact qah _|exact qa4 _ (by omega)|exact qa3 (by omega)|exact qa5 (by omega)|exact rfl|assumption|apply qa6)|((first|apply qbl|apply qaz|apply qaj)<;>first|(apply qao;(repeat' first|assumption|exact qaa rfl|apply qaf rfl|apply qab);done)|exact qan _ _|exact qai _|exact qap _|exact qad|exact qag|exact qae|exact qac|exact qah _|exact qa4 _ (by omega)|exact qa3 (by omega)|exact qa5 (by omega)|exact rfl|assumption|apply qa6)|(apply qbk rfl rfl;(focus (repeat' first|assumption|exact qaa rfl|apply qaf rfl|apply qab);done))|(apply qb1 rfl rfl;(focus (repeat' first|assumption|exact qaa rfl|apply qaf rfl|apply qab);done);exact rfl)))
      apply qb2 (n := 5)
      · (focus first|(apply qao;(repeat' first|assumption|exact qaa rfl|apply qaf rfl|apply qab);done)|exact qan _ _|exact qai _|exact qap _|exact qad|exact qag|exact qae|exact qac|exact qah _)
      · exact r4
      · rfl
      · exact rfl
      (repeat (first|apply qbi|apply qa9|(apply qa7;dsimp only[qbc,List.map,Nat.reduceAdd])|apply qbj|apply qbd|apply qbe|apply qbn|apply qbp|apply qbo|apply qa1|apply qau|apply qbb|apply qas|apply qaq|apply qam rfl|apply qaw|apply qar|apply qax|apply qay|apply qa2|apply qav|((first|apply qa8|apply qbg|apply qbh|apply qbm|apply qbf|apply qba|apply qa0|apply qal|apply qak|apply qat)<;>first|(apply qao;(repeat' first|assumption|exact qaa rfl|apply qaf rfl|apply qab);done)|exact qan _ _|exact qai _|exact qap _|exact qad|exact qag|exact qae|exact qac|exact qah _|exact qa4 _ (by omega)|exact qa3 (by omega)|exact qa5 (by omega)|exact rfl|assumption|apply qa6)|((first|apply qbl|apply qaz|apply qaj)<;>first|(apply qao;(repeat' first|assumption|exact qaa rfl|apply qaf rfl|apply qab);done)|exact qan _ _|exact qai _|exact qap _|exact qad|exact qag|exact qae|exact qac|exact qah _|exact qa4 _ (by omega)|exact qa3 (by omega)|exact qa5 (by omega)|exact rfl|assumption|apply qa6)|(apply qbk rfl rfl;(focus (repeat' first|assumption|exact qaa rfl|apply qaf rfl|apply qab);done))|(apply qb1 rfl rfl;(focus (repeat' first|assumption|exact qaa rfl|apply qaf rfl|apply qab);done);exact rfl)))
      apply qcp
      · exact qb8 (by (focus first|(apply qao;(repeat' first|assumption|exact qaa rfl|apply qaf rfl|apply qab);done)|exact qan _ _|exact qai _|exact qap _|exact qad|exact qag|exact qae|exact qac|exact qah _)) (qb8 (by (focus first|(apply qao;(repeat' first|assumption|exact qaa rfl|apply qaf rfl|apply qab);done)|exact qan _ _|exact qai _|exact qap _|exact qad|exact qag|exact qae|exact qac|exact qah _)) (qb8 (by (focus first|(apply qao;(repeat' first|assumption|exact qaa rfl|apply qaf rfl|apply qab);done)|exact qan _ _|exact qai _|exact qap _|exact qad|exact qag|exact qae|exact qac|exact qah _)) qcn))
      · rfl
      · rfl
      · exact hp _ _
      intro _
      (apply qcl; (focus first|(apply qao;(repeat' first|assumption|exact qaa rfl|apply qaf rfl|apply qab);done)|exact qan _ _|exact qai _|exact qap _|exact qad|exact qag|exact qae|exact qac|exact qah _); (repeat (apply qbt; (focus first|(apply qao;(repeat' first|assumption|exact qaa rfl|apply qaf rfl|apply qab);done)|exact qan _ _|exact qai _|exact qap _|exact qad|exact qag|exact qae|exact qac|exact qah _))); exact qby)
      refine (slots_spec hp hs0 hs1 hs2 (by omega) hm4 p.s p.p p.o (by have := kp4.next; omega) (by omega)).mono ?_
      rintro _ g5 ⟨kb5, hm5⟩
      refine ⟨Undis.off rfl, ?_⟩
      (repeat (first|apply qbi|apply qa9|(apply qa7;dsimp only[qbc,List.map,Nat.reduceAdd])|apply qbj|apply qbd|apply qbe|apply qbn|apply qbp|apply qbo|apply qa1|apply qau|apply qbb|apply qas|apply qaq|apply qam rfl|apply qaw|apply qar|apply qax|apply qay|apply qa2|apply qav|((first|apply qa8|apply qbg|apply qbh|apply qbm|apply qbf|apply qba|apply qa0|apply qal|apply qak|apply qat)<;>first|(apply qao;(repeat' first|assumption|exact qaa rfl|apply qaf rfl|apply qab);done)|exact qan _ _|exact qai _|exact qap _|exact qad|exact qag|exact qae|exact qac|exact qah _|exact qa4 _ (by omega)|exact qa3 (by omega)|exact qa5 (by omega)|exact rfl|assumption|apply qa6)|((first|apply qbl|apply qaz|apply qaj)<;>first|(apply qao;(repeat' first|assumption|exact qaa rfl|apply qaf rfl|apply qab);done)|exact qan _ _|exact qai _|exact qap _|exact qad|exact qag|exact qae|exact qac|exact qah _|exact qa4 _ (by omega)|exact qa3 (by omega)|exact qa5 (by omega)|exact rfl|assumption|apply qa6)|(apply qbk rfl rfl;(focus (repeat' first|assumption|exact qaa rfl|apply qaf rfl|apply qab);done))|(apply qb1 rfl rfl;(focus (repeat' first|assumption|exact qaa rfl|apply qaf rfl|apply qab);done);exact rfl)))
      apply K_loop (l.length - (i + 1)) (by omega)
      refine ⟨i + 1, rfl, by omega, by (repeat' first|assumption|exact qaa rfl|apply qaf rfl|apply qab), by (repeat' first|assumption|exact qaa rfl|apply qaf rfl|apply qab), by (repeat' first|assumption|exact qaa rfl|apply qaf rfl|apply qab), by (repeat' first|assumption|exact qaa rfl|apply qaf rfl|apply qab), kp4.trans kb5, ?_⟩
      rw [hstep]
      exact hm5
    · intro c
      have : i = l.length := by have : ¬ i < l.length := by simpa using c
                                omega
      subst this
      rw [List.take_length] at hm
      obtain ⟨q0, nv, q1, q2, q3, q4⟩ := hm
      (repeat (first|apply qbi|apply qa9|(apply qa7;dsimp only[qbc,List.map,Nat.reduceAdd])|apply qbj|apply qbd|apply qbe|apply qbn|apply qbp|apply qbo|apply qa1|apply qau|apply qbb|apply qas|apply qaq|apply qam rfl|apply qaw|apply qar|apply qax|apply qay|apply qa2|apply qav|((first|apply qa8|apply qbg|apply qbh|apply qbm|apply qbf|apply qba|apply qa0|apply qal|apply qak|apply qat)<;>first|(apply qao;(repeat' first|assumption|exact qaa rfl|apply qaf rfl|apply qab);done)|exact qan _ _|exact qai _|exact qap _|exact qad|exact qag|exact qae|exact qac|exact qah _|exact qa4 _ (by omega)|exact qa3 (by omega)|exact qa5 (by omega)|exact rfl|assumption|apply qa6)|((first|apply qbl|apply qaz|apply qaj)<;>first|(apply qao;(repeat' first|assumption|exact qaa rfl|apply qaf rfl|apply qab);done)|exact qan _ _|exact qai _|exact qap _|exact qad|exact qag|exact qae|exact qac|exact qah _|exact qa4 _ (by omega)|exact qa3 (by omega)|exact qa5 (by omega)|exact rfl|assumption|apply qa6)|(apply qbk rfl rfl;(focus (repeat' first|assumption|exact qaa rfl|apply qaf rfl|apply qab);done))|(apply qb1 rfl rfl;(focus (repeat' first|assumption|exact qaa rfl|apply qaf rfl|apply qab);done);exact rfl)))
      (apply qb5 rfl; (repeat' first|assumption|exact qaa rfl|apply qaf rfl|apply qab))
      exact ⟨kp.toKeep w, q2, q3, fun k hk => (q4 k hk).1⟩
end Go.Am
namespace Go.Am
open Go Go.Proofs AM
set_option maxRecDepth 10000
variable {pol : Pol} {sums : Sums}
attribute [local irreducible] KSeq KMid KBlock KLoop KOps KFunc Runs qcs qcd aopsM aop qci qcc qcx qcx? qbz qck qbw

/-- a map from names that are known to how often they were learnt -/
def Counts (c : Nat) (es : List (AV × AV)) (l : List Str) : Prop := es.map (·.1) = strs l ∧ ∀ e ∈ es, ∃ z : Nat, e.2 = .int .i64 (z : Int) ∧ 0 < z ∧ z ≤ c
def KnownAt (h : Hp) (mid c : Nat) (l : List Str) : Prop := ∃ es, MapAt h mid es ∧ Counts c es l
theorem KnownAt.keep {h h1 : Hp} {mid c : Nat} {l : List Str} (m : KnownAt h mid c l) (k : Keep h h1) : KnownAt h1 mid c l := by
  obtain ⟨es, m, r⟩ := m; exact ⟨es, m.keep k, r⟩
theorem KnownAt.keepBut {X : Nat → Prop} {h h1 : Hp} {mid c : Nat} {l : List Str} (m : KnownAt h mid c l) (k : KeepBut X h h1) (hx : ¬ X mid) : KnownAt h1 mid c l := by
  obtain ⟨es, m, r⟩ := m; exact ⟨es, m.keepBut k hx, r⟩
theorem KnownAt.lt {h : Hp} {mid c : Nat} {l : List Str} (m : KnownAt h mid c l) (w : h.WF) : mid < h.next := by
  obtain ⟨es, m, _⟩ := m; exact m.lt w
theorem Counts.find {c : Nat} (s : Str) : ∀ {es : List (AV × AV)} {l : List Str}, Counts c es l → (s ∈ l → ∃ z : Nat, afind (.str s) es = some (some (.int .i64 (z : Int))) ∧ 0 < z ∧ z ≤ c) ∧ (s ∉ l → afind (.str s) es = some none)
  | [], [], _ => ⟨fun h => (by cases h), fun _ => rfl⟩
  | [], _ :: _, h => by cases h.1
  | _ :: _, [], h => by cases h.1
  | (k, v) :: es, x :: l, h => by
    obtain ⟨h1, h2⟩ := h
    simp only [List.map_cons, strs, List.cons.injEq] at h1
    obtain ⟨rfl, h1⟩ := h1
    have ih := Counts.find s (es := es) (l := l) ⟨h1, fun e he => h2 e (List.mem_cons_of_mem _ he)⟩
    obtain ⟨z, hz, h3⟩ := h2 _ List.mem_cons_self
    simp only at hz
    simp only [afind, keyEq]
    by_cases e : s = x
    · subst e
      simp [hz]
      exact ⟨z, rfl, h3⟩
    · have e' : (s == x) = false := by simpa using e
      rw [e']
      simp only [List.mem_cons, e, false_or]
      exact ih
theorem Counts.upd {c : Nat} (s : Str) (z : Nat) (hz : 0 < z ∧ z ≤ c + 1) : ∀ {es : List (AV × AV)} {l : List Str}, Counts c es l → Counts (c + 1) (aupd (.str s) (.int .i64 (z : Int)) es) (meet1 l s)
  | [], [], _ => by
    refine ⟨by simp [aupd, meet1, strs], fun e he => ?_⟩
    simp [aupd] at he
    subst he
    exact ⟨z, rfl, hz⟩
  | [], _ :: _, h => by cases h.1
  | _ :: _, [], h => by cases h.1
  | (k, v) :: es, x :: l, h => by
    obtain ⟨h1, h2⟩ := h
    simp only [List.map_cons, strs, List.cons.injEq] at h1
    obtain ⟨rfl, h1⟩ := h1
    have ih := Counts.upd s z hz (es := es) (l := l) ⟨h1, fun e he => h2 e (List.mem_cons_of_mem _ he)⟩
    have hold : ∀ e ∈ (AV.str x, v) :: es, ∃ z : Nat, e.2 = .int .i64 (z : Int) ∧ 0 < z ∧ z ≤ c + 1 := fun e he => by
      obtain ⟨z, a, b, d⟩ := h2 e he; exact ⟨z, a, b, by omega⟩
    by_cases e : s = x
    · subst e
      refine ⟨?_, fun e he => ?_⟩
      · simp [aupd, keyEq, meet1, strs] at h1 ⊢
        exact h1
      · simp [aupd, keyEq] at he
        rcases he with rfl | he
        · exact ⟨z, rfl, hz⟩
        · exact hold e (List.mem_cons_of_mem _ he)
    · have e' : (s == x) = false := by simpa using e
      have ea : aupd (.str s) (.int .i64 (z : Int)) ((AV.str x, v) :: es) = (AV.str x, v) :: aupd (.str s) (.int .i64 (z : Int)) es := by
        simp [aupd, keyEq, e]
      have em : meet1 (x :: l) s = x :: meet1 l s := by
        unfold meet1
        by_cases q : s ∈ l <;> simp [q, e]
      rw [ea, em]
      refine ⟨?_, fun e he => ?_⟩
      · have := ih.1
        simp only [List.map_cons, strs, List.cons.injEq, true_and] at this ⊢
        exact this
      · rcases List.mem_cons.1 he with rfl | he
        · exact hold _ List.mem_cons_self
        · exact ih.2 e he

def shared (l : List Str) (p : Ptn) : List Str := (vars [p]).filter (· ∈ l)
def fresh (l : List Str) (p : Ptn) : List Str := (vars [p]).filter (· ∉ l)

theorem parts_spec (hp : ∀ f d, pol.lit f d = false) (hs : sums 48 = none) (hs' : sums 27 = none) (hs0 : sums 55 = none) (hs1 : sums 71 = none) (hs2 : sums 67 = some qcq) {n : Nat} (hn : 10 ≤ n) {h : Hp} {mid c : Nat} {l : List Str} (m : KnownAt h mid c l) (p : Ptn) :
    Runs (qci Try.prog pol sums n (.func (.func 48) [] []) [.agg [.mapv mid], .agg (ptnC p)]) h (fun r h' => Keep h h' ∧ ∃ a b, r = .tuple [a, b] ∧ Strs h' a (shared l p) ∧ Strs h' b (fresh l p)) := by
  apply Runs.wf
  intro w
  obtain ⟨n, rfl⟩ : ∃ m, n = m + 1 := ⟨n - 1, by omega⟩
  refine qc7 (by assumption) Try.func48 rfl (by simp [Try.f48]) ?_
  have a0 : qcc (qbw Try.f48.ntmps (([] ++ [.agg [.mapv mid], .agg (ptnC p)] ++ []) : List AV)) 0 = .agg [.mapv mid] := qbu rfl
  have a1 : qcc (qbw Try.f48.ntmps (([] ++ [.agg [.mapv mid], .agg (ptnC p)] ++ []) : List AV)) 1 = .agg (ptnC p) := qbu rfl
  generalize qbw Try.f48.ntmps (([] ++ [.agg [.mapv mid], .agg (ptnC p)] ++ []) : List AV) = T at *
  show Runs (qcd _ _ _ _ 32 _ _ _) _ _
  (repeat (first|apply qbi|apply qa9|(apply qa7;dsimp only[qbc,List.map,Nat.reduceAdd])|apply qbj|apply qbd|apply qbe|apply qbn|apply qbp|apply qbo|apply qa1|apply qau|apply qbb|apply qas|apply qaq|apply qam rfl|apply qaw|apply qar|apply qax|apply qay|apply qa2|apply qav|((first|apply qa8|apply qbg|apply qbh|apply qbm|apply qbf|apply qba|apply qa0|apply qal|apply qak|apply qat)<;>first|(apply qao;(repeat' first|assumption|exact qaa rfl|apply qaf rfl|apply qab);done)|exact qan _ _|exact qai _|exact qap _|exact qad|exact qag|exact qae|exact qac|exact qah _|exact qa4 _ (by omega)|exact qa3 (by omega)|exact qa5 (by omega)|exact rfl|assumption|apply qa6)|((first|apply qbl|apply qaz|apply qaj)<;>first|(apply qao;(repeat' first|assumption|exact qaa rfl|apply qaf rfl|apply qab);done)|exact qan _ _|exact qai _|exact qap _|exact qad|exact qag|exact qae|exact qac|exact qah _|exact qa4 _ (by omega)|exact qa3 (by omega)|exact qa5 (by omega)|exact rfl|assumption|apply qa6)|(apply qbk rfl rfl;(focus (repeat' first|assumption|exact qaa rfl|apply qaf rfl|apply qab);done))|(apply qb1 rfl rfl;(focus (repeat' first|assumption|exact qaa rfl|apply qaf rfl|apply qab);done);exact rfl)))
  apply O_box
  · (focus first|(apply qao;(repeat' first|assumption|exact qaa rfl|apply qaf rfl|apply qab);done)|exact qan _ _|exact qai _|exact qap _|exact qad|exact qag|exact qae|exact qac|exact qah _)
  · rfl
  intro g1 i1 k1 r1 l1 l2
  change Row g1 i1 0 _ [.mapv mid] true at r1
  apply O_box
  · (focus first|(apply qao;(repeat' first|assumption|exact qaa rfl|apply qaf rfl|apply qab);done)|exact qan _ _|exact qai _|exact qap _|exact qad|exact qag|exact qae|exact qac|exact qah _)
  · rfl
  intro g2 i2 k2 r2 l3 l4
  change Row g2 i2 0 _ (ptnC p) true at r2
  replace r1 := r1.keep k2
  (repeat (first|apply qbi|apply qa9|(apply qa7;dsimp only[qbc,List.map,Nat.reduceAdd])|apply qbj|apply qbd|apply qbe|apply qbn|apply qbp|apply qbo|apply qa1|apply qau|apply qbb|apply qas|apply qaq|apply qam rfl|apply qaw|apply qar|apply qax|apply qay|apply qa2|apply qav|((first|apply qa8|apply qbg|apply qbh|apply qbm|apply qbf|apply qba|apply qa0|apply qal|apply qak|apply qat)<;>first|(apply qao;(repeat' first|assumption|exact qaa rfl|apply qaf rfl|apply qab);done)|exact qan _ _|exact qai _|exact qap _|exact qad|exact qag|exact qae|exact qac|exact qah _|exact qa4 _ (by omega)|exact qa3 (by omega)|exact qa5 (by omega)|exact rfl|assumption|apply qa6)|((first|apply qbl|apply qaz|apply qaj)<;>first|(apply qao;(repeat' first|assumption|exact qaa rfl|apply qaf rfl|apply qab);done)|exact qan _ _|exact qai _|exact qap _|exact qad|exact qag|exact qae|exact qac|exact qah _|exact qa4 _ (by omega)|exact qa3 (by omega)|exact qa5 (by omega)|exact rfl|assumption|apply qa6)|(apply qbk rfl rfl;(focus (repeat' first|assumption|exact qaa rfl|apply qaf rfl|apply qab);done))|(apply qb1 rfl rfl;(focus (repeat' first|assumption|exact qaa rfl|apply qaf rfl|apply qab);done);exact rfl)))
  apply qb2 (n := 15)
  · (focus first|(apply qao;(repeat' first|assumption|exact qaa rfl|apply qaf rfl|apply qab);done)|exact qan _ _|exact qai _|exact qap _|exact qad|exact qag|exact qae|exact qac|exact qah _)
  · exact r2
  · rfl
  · exact rfl
  apply qcp
  · exact qb8 (by (focus first|(apply qao;(repeat' first|assumption|exact qaa rfl|apply qaf rfl|apply qab);done)|exact qan _ _|exact qai _|exact qap _|exact qad|exact qag|exact qae|exact qac|exact qah _)) qcn
  · rfl
  · rfl
  · exact hp _ _
  intro _
  (apply qcl; (focus first|(apply qao;(repeat' first|assumption|exact qaa rfl|apply qaf rfl|apply qab);done)|exact qan _ _|exact qai _|exact qap _|exact qad|exact qag|exact qae|exact qac|exact qah _); (repeat (apply qbt; (focus first|(apply qao;(repeat' first|assumption|exact qaa rfl|apply qaf rfl|apply qab);done)|exact qan _ _|exact qai _|exact qap _|exact qad|exact qag|exact qae|exact qac|exact qah _))); exact qby)
  refine (vars_spec hp hs' hs0 hs1 hs2 (l := [p]) (by simp; omega) (SlV.imm _ _ _ rfl) (by simp)).mono ?_
  rintro nv g3 ⟨k3, s3, -, hv3⟩
  refine ⟨Undis.off rfl, ?_⟩
  replace r1 := r1.keep k3
  have m3 := m.keep ((k1.trans k2).trans k3)
  have hvl : (vars [p]).length ≤ 3 := vars_length [p]
  apply O_wf
  intro w3
  (repeat (first|apply qbi|apply qa9|(apply qa7;dsimp only[qbc,List.map,Nat.reduceAdd])|apply qbj|apply qbd|apply qbe|apply qbn|apply qbp|apply qbo|apply qa1|apply qau|apply qbb|apply qas|apply qaq|apply qam rfl|apply qaw|apply qar|apply qax|apply qay|apply qa2|apply qav|((first|apply qa8|apply qbg|apply qbh|apply qbm|apply qbf|apply qba|apply qa0|apply qal|apply qak|apply qat)<;>first|(apply qao;(repeat' first|assumption|exact qaa rfl|apply qaf rfl|apply qab);done)|exact qan _ _|exact qai _|exact qap _|exact qad|exact qag|exact qae|exact qac|exact qah _|exact qa4 _ (by omega)|exact qa3 (by omega)|exact qa5 (by omega)|exact rfl|assumption|apply qa6)|((first|apply qbl|apply qaz|apply qaj)<;>first|(apply qao;(repeat' first|assumption|exact qaa rfl|apply qaf rfl|apply qab);done)|exact qan _ _|exact qai _|exact qap _|exact qad|exact qag|exact qae|exact qac|exact qah _|exact qa4 _ (by omega)|exact qa3 (by omega)|exact qa5 (by omega)|exact rfl|assumption|apply qa6)|(apply qbk rfl rfl;(focus (repeat' first|assumption|exact qaa rfl|apply qaf rfl|apply qab);done))|(apply qb1 rfl rfl;(focus (repeat' first|assumption|exact qaa rfl|apply qaf rfl|apply qab);done);exact rfl)))
  apply R_loop (k := (vars [p]).length) (I := fun k T g => ∃ i sv fv, k = (vars [p]).length - i ∧ i ≤ (vars [p]).length ∧ qcc T 2 = .ptr i1 0 0 ∧ qcc T 10 = nv ∧ qcc T 11 = .int .i64 ((vars [p]).length : Nat) ∧ qcc T 12 = .int .i64 (i : Nat) ∧ qcc T 4 = sv ∧ qcc T 5 = fv ∧
    KeepBut (g3.next ≤ ·) g3 g ∧ Strs g sv (((vars [p]).take i).filter (· ∈ l)) ∧ Strs g fv (((vars [p]).take i).filter (· ∉ l)) ∧ growB sv = true ∧ growB fv = true ∧ (∀ k ∈ qcv sv, g3.next ≤ k ∧ k ∉ qcv fv) ∧ (∀ k ∈ qcv fv, g3.next ≤ k))
  · omega
  · refine ⟨0, _, _, by omega, by omega, by (repeat' first|assumption|exact qaa rfl|apply qaf rfl|apply qab), by (repeat' first|assumption|exact qaa rfl|apply qaf rfl|apply qab), by (repeat' first|assumption|exact qaa rfl|apply qaf rfl|apply qab), by (repeat' first|assumption|exact qaa rfl|apply qaf rfl|apply qab), by (repeat' first|assumption|exact qaa rfl|apply qaf rfl|apply qab), by (repeat' first|assumption|exact qaa rfl|apply qaf rfl|apply qab), KeepBut.refl _, SlV.nil, SlV.nil, rfl, rfl, by simp [qcv], by simp [qcv]⟩
  · rintro k T g4 ⟨i, sv, fv, rfl, hi, t2, t10, t11, t12, t4, t5, kp, ss, sf, gs, gf, ds, df⟩
    (repeat (first|apply qbi|apply qa9|(apply qa7;dsimp only[qbc,List.map,Nat.reduceAdd])|apply qbj|apply qbd|apply qbe|apply qbn|apply qbp|apply qbo|apply qa1|apply qau|apply qbb|apply qas|apply qaq|apply qam rfl|apply qaw|apply qar|apply qax|apply qay|apply qa2|apply qav|((first|apply qa8|apply qbg|apply qbh|apply qbm|apply qbf|apply qba|apply qa0|apply qal|apply qak|apply qat)<;>first|(apply qao;(repeat' first|assumption|exact qaa rfl|apply qaf rfl|apply qab);done)|exact qan _ _|exact qai _|exact qap _|exact qad|exact qag|exact qae|exact qac|exact qah _|exact qa4 _ (by omega)|exact qa3 (by omega)|exact qa5 (by omega)|exact rfl|assumption|apply qa6)|((first|apply qbl|apply qaz|apply qaj)<;>first|(apply qao;(repeat' first|assumption|exact qaa rfl|apply qaf rfl|apply qab);done)|exact qan _ _|exact qai _|exact qap _|exact qad|exact qag|exact qae|exact qac|exact qah _|exact qa4 _ (by omega)|exact qa3 (by omega)|exact qa5 (by omega)|exact rfl|assumption|apply qa6)|(apply qbk rfl rfl;(focus (repeat' first|assumption|exact qaa rfl|apply qaf rfl|apply qab);done))|(apply qb1 rfl rfl;(focus (repeat' first|assumption|exact qaa rfl|apply qaf rfl|apply qab);done);exact rfl)))
    apply qcg (decide ((i : Int) < ((vars [p]).length : Int)))
    · (focus first|(apply qao;(repeat' first|assumption|exact qaa rfl|apply qaf rfl|apply qab);done)|exact qan _ _|exact qai _|exact qap _|exact qad|exact qag|exact qae|exact qac|exact qah _)
    · intro c
      have hlt : i < (vars [p]).length := by simpa using c
      have r4 : Row g4 i1 0 _ [.mapv mid] true := r1.keepBut kp (by have := r1.lt w3; omega)
      have m4 := m3.keepBut kp (by have := m3.lt w3; omega)
      (repeat (first|apply qbi|apply qa9|(apply qa7;dsimp only[qbc,List.map,Nat.reduceAdd])|apply qbj|apply qbd|apply qbe|apply qbn|apply qbp|apply qbo|apply qa1|apply qau|apply qbb|apply qas|apply qaq|apply qam rfl|apply qaw|apply qar|apply qax|apply qay|apply qa2|apply qav|((first|apply qa8|apply qbg|apply qbh|apply qbm|apply qbf|apply qba|apply qa0|apply qal|apply qak|apply qat)<;>first|(apply qao;(repeat' first|assumption|exact qaa rfl|apply qaf rfl|apply qab);done)|exact qan _ _|exact qai _|exact qap _|exact qad|exact qag|exact qae|exact qac|exact qah _|exact qa4 _ (by omega)|exact qa3 (by omega)|exact qa5 (by omega)|exact rfl|assumption|apply qa6)|((first|apply qbl|apply qaz|apply qaj)<;>first|(apply qao;(repeat' first|assumption|exact qaa rfl|apply qaf rfl|apply qab);done)|exact qan _ _|exact qai _|exact qap _|exact qad|exact qag|exact qae|exact qac|exact qah _|exact qa4 _ (by omega)|exact qa3 (by omega)|exact qa5 (by omega)|exact rfl|assumption|apply qa6)|(apply qbk rfl rfl;(focus (repeat' first|assumption|exact qaa rfl|apply qaf rfl|apply qab);done))|(apply qb1 rfl rfl;(focus (repeat' first|assumption|exact qaa rfl|apply qaf rfl|apply qab);done);exact rfl)))
      apply qca
      · (focus first|(apply qao;(repeat' first|assumption|exact qaa rfl|apply qaf rfl|apply qab);done)|exact qan _ _|exact qai _|exact qap _|exact qad|exact qag|exact qae|exact qac|exact qah _)
      · exact s3.old w3 kp
      · (focus first|(apply qao;(repeat' first|assumption|exact qaa rfl|apply qaf rfl|apply qab);done)|exact qan _ _|exact qai _|exact qap _|exact qad|exact qag|exact qae|exact qac|exact qah _)
      · omega
      · rfl
      intro a ha _
      rw [strs_at hlt] at ha
      apply qc0
      · (focus first|(apply qao;(repeat' first|assumption|exact qaa rfl|apply qaf rfl|apply qab);done)|exact qan _ _|exact qai _|exact qap _|exact qad|exact qag|exact qae|exact qac|exact qah _)
      · exact ha
      have hst : (vars [p]).take (i + 1) = (vars [p]).take i ++ [(vars [p])[i]] := List.take_succ_eq_append_getElem hlt
      have hl1 : (((vars [p]).take i).filter (· ∈ l)).length ≤ 3 := Nat.le_trans (List.length_filter_le _ _) (by simp; omega)
      have hl2 : (((vars [p]).take i).filter (· ∉ l)).length ≤ 3 := Nat.le_trans (List.length_filter_le _ _) (by simp; omega)
      generalize (vars [p])[i] = s at ha hst
      (repeat (first|apply qbi|apply qa9|(apply qa7;dsimp only[qbc,List.map,Nat.reduceAdd])|apply qbj|apply qbd|apply qbe|apply qbn|apply qbp|apply qbo|apply qa1|apply qau|apply qbb|apply qas|apply qaq|apply qam rfl|apply qaw|apply qar|apply qax|apply qay|apply qa2|apply qav|((first|apply qa8|apply qbg|apply qbh|apply qbm|apply qbf|apply qba|apply qa0|apply qal|apply qak|apply qat)<;>first|(apply qao;(repeat' first|assumption|exact qaa rfl|apply qaf rfl|apply qab);done)|exact qan _ _|exact qai _|exact qap _|exact qad|exact qag|exact qae|exact qac|exact qah _|exact qa4 _ (by omega)|exact qa3 (by omega)|exact qa5 (by omega)|exact rfl|assumption|apply qa6)|((first|apply qbl|apply qaz|apply qaj)<;>first|(apply qao;(repeat' first|assumption|exact qaa rfl|apply qaf rfl|apply qab);done)|exact qan _ _|exact qai _|exact qap _|exact qad|exact qag|exact qae|exact qac|exact qah _|exact qa4 _ (by omega)|exact qa3 (by omega)|exact qa5 (by omega)|exact rfl|assumption|apply qa6)|(apply qbk rfl rfl;(focus (repeat' first|assumption|exact qaa rfl|apply qaf rfl|apply qab);done))|(apply qb1 rfl rfl;(focus (repeat' first|assumption|exact qaa rfl|apply qaf rfl|apply qab);done);exact rfl)))
      obtain ⟨es, me, hc⟩ := m4
      have fnd := hc.find s
      by_cases hsl : s ∈ l
      · obtain ⟨z, hz, hz1, hz2⟩ := fnd.1 hsl
        apply O_lookup
        · (focus first|(apply qao;(repeat' first|assumption|exact qaa rfl|apply qaf rfl|apply qab);done)|exact qan _ _|exact qai _|exact qap _|exact qad|exact qag|exact qae|exact qac|exact qah _)
        · (focus first|(apply qao;(repeat' first|assumption|exact qaa rfl|apply qaf rfl|apply qab);done)|exact qan _ _|exact qai _|exact qap _|exact qad|exact qag|exact qae|exact qac|exact qah _)
        · exact me
        · exact hz
        (repeat (first|apply qbi|apply qa9|(apply qa7;dsimp only[qbc,List.map,Nat.reduceAdd])|apply qbj|apply qbd|apply qbe|apply qbn|apply qbp|apply qbo|apply qa1|apply qau|apply qbb|apply qas|apply qaq|apply qam rfl|apply qaw|apply qar|apply qax|apply qay|apply qa2|apply qav|((first|apply qa8|apply qbg|apply qbh|apply qbm|apply qbf|apply qba|apply qa0|apply qal|apply qak|apply qat)<;>first|(apply qao;(repeat' first|assumption|exact qaa rfl|apply qaf rfl|apply qab);done)|exact qan _ _|exact qai _|exact qap _|exact qad|exact qag|exact qae|exact qac|exact qah _|exact qa4 _ (by omega)|exact qa3 (by omega)|exact qa5 (by omega)|exact rfl|assumption|apply qa6)|((first|apply qbl|apply qaz|apply qaj)<;>first|(apply qao;(repeat' first|assumption|exact qaa rfl|apply qaf rfl|apply qab);done)|exact qan _ _|exact qai _|exact qap _|exact qad|exact qag|exact qae|exact qac|exact qah _|exact qa4 _ (by omega)|exact qa3 (by omega)|exact qa5 (by omega)|exact rfl|assumption|apply qa6)|(apply qbk rfl rfl;(focus (repeat' first|assumption|exact qaa rfl|apply qaf rfl|apply qab);done))|(apply qb1 rfl rfl;(focus (repeat' first|assumption|exact qaa rfl|apply qaf rfl|apply qab);done);exact rfl)))
        apply qcg (decide ((z : Int) > 0))
        · (focus first|(apply qao;(repeat' first|assumption|exact qaa rfl|apply qaf rfl|apply qab);done)|exact qan _ _|exact qai _|exact qap _|exact qad|exact qag|exact qae|exact qac|exact qah _)
        · intro _
          (repeat (first|apply qbi|apply qa9|(apply qa7;dsimp only[qbc,List.map,Nat.reduceAdd])|apply qbj|apply qbd|apply qbe|apply qbn|apply qbp|apply qbo|apply qa1|apply qau|apply qbb|apply qas|apply qaq|apply qam rfl|apply qaw|apply qar|apply qax|apply qay|apply qa2|apply qav|((first|apply qa8|apply qbg|apply qbh|apply qbm|apply qbf|apply qba|apply qa0|apply qal|apply qak|apply qat)<;>first|(apply qao;(repeat' first|assumption|exact qaa rfl|apply qaf rfl|apply qab);done)|exact qan _ _|exact qai _|exact qap _|exact qad|exact qag|exact qae|exact qac|exact qah _|exact qa4 _ (by omega)|exact qa3 (by omega)|exact qa5 (by omega)|exact rfl|assumption|apply qa6)|((first|apply qbl|apply qaz|apply qaj)<;>first|(apply qao;(repeat' first|assumption|exact qaa rfl|apply qaf rfl|apply qab);done)|exact qan _ _|exact qai _|exact qap _|exact qad|exact qag|exact qae|exact qac|exact qah _|exact qa4 _ (by omega)|exact qa3 (by omega)|exact qa5 (by omega)|exact rfl|assumption|apply qa6)|(apply qbk rfl rfl;(focus (repeat' first|assumption|exact qaa rfl|apply qaf rfl|apply qab);done))|(apply qb1 rfl rfl;(focus (repeat' first|assumption|exact qaa rfl|apply qaf rfl|apply qab);done);exact rfl)))
          apply qcp
          · exact qb8 (by (focus first|(apply qao;(repeat' first|assumption|exact qaa rfl|apply qaf rfl|apply qab);done)|exact qan _ _|exact qai _|exact qap _|exact qad|exact qag|exact qae|exact qac|exact qah _)) qcn
          · rfl
          · rfl
          · exact hp _ _
          intro _
          apply O_wf
          intro w4
          apply O_append (new := [.str s]) (m := 1) (bytes := 16)
          · exact qbt (by (focus first|(apply qao;(repeat' first|assumption|exact qaa rfl|apply qaf rfl|apply qab);done)|exact qan _ _|exact qai _|exact qap _|exact qad|exact qag|exact qae|exact qac|exact qah _)) (qbt (by (focus first|(apply qao;(repeat' first|assumption|exact qaa rfl|apply qaf rfl|apply qab);done)|exact qan _ _|exact qai _|exact qap _|exact qad|exact qag|exact qae|exact qac|exact qah _)) qby)
          · exact ss
          · exact gs
          · exact SlV.imm _ _ _ rfl
          · rfl
          · rfl
          · simp only [room]; omega
          intro sv' g5 kb s5 gr5 k5 _
          refine ⟨Undis.off rfl, ?_⟩
          (repeat (first|apply qbi|apply qa9|(apply qa7;dsimp only[qbc,List.map,Nat.reduceAdd])|apply qbj|apply qbd|apply qbe|apply qbn|apply qbp|apply qbo|apply qa1|apply qau|apply qbb|apply qas|apply qaq|apply qam rfl|apply qaw|apply qar|apply qax|apply qay|apply qa2|apply qav|((first|apply qa8|apply qbg|apply qbh|apply qbm|apply qbf|apply qba|apply qa0|apply qal|apply qak|apply qat)<;>first|(apply qao;(repeat' first|assumption|exact qaa rfl|apply qaf rfl|apply qab);done)|exact qan _ _|exact qai _|exact qap _|exact qad|exact qag|exact qae|exact qac|exact qah _|exact qa4 _ (by omega)|exact qa3 (by omega)|exact qa5 (by omega)|exact rfl|assumption|apply qa6)|((first|apply qbl|apply qaz|apply qaj)<;>first|(apply qao;(repeat' first|assumption|exact qaa rfl|apply qaf rfl|apply qab);done)|exact qan _ _|exact qai _|exact qap _|exact qad|exact qag|exact qae|exact qac|exact qah _|exact qa4 _ (by omega)|exact qa3 (by omega)|exact qa5 (by omega)|exact rfl|assumption|apply qa6)|(apply qbk rfl rfl;(focus (repeat' first|assumption|exact qaa rfl|apply qaf rfl|apply qab);done))|(apply qb1 rfl rfl;(focus (repeat' first|assumption|exact qaa rfl|apply qaf rfl|apply qab);done);exact rfl)))
          apply K_loop ((vars [p]).length - (i + 1)) (by omega)
          refine ⟨i + 1, sv', fv, rfl, by omega, by (repeat' first|assumption|exact qaa rfl|apply qaf rfl|apply qab), by (repeat' first|assumption|exact qaa rfl|apply qaf rfl|apply qab), by (repeat' first|assumption|exact qaa rfl|apply qaf rfl|apply qab), by (repeat' first|assumption|exact qaa rfl|apply qaf rfl|apply qab), by (repeat' first|assumption|exact qaa rfl|apply qaf rfl|apply qab), by (repeat' first|assumption|exact qaa rfl|apply qaf rfl|apply qab), kp.trans (kb.weaken fun k hk => (ds k hk).1), ?_, ?_, gr5, gf, ?_, df⟩
          · rw [hst, List.filter_append]
            simpa [hsl, Strs, strs] using s5
          · rw [hst, List.filter_append]
            have := sf.keepBut kb fun k hk q => (ds k q).2 hk
            simpa [hsl, Strs, strs] using this
          · intro k hk
            rcases k5 k hk with q | q
            · exact ds k q
            · refine ⟨by have := kp.next; omega, fun q' => ?_⟩
              have := sf.lt w4 k q'
              omega
        · intro c; simp at c; omega
      · apply O_lookup
        · (focus first|(apply qao;(repeat' first|assumption|exact qaa rfl|apply qaf rfl|apply qab);done)|exact qan _ _|exact qai _|exact qap _|exact qad|exact qag|exact qae|exact qac|exact qah _)
        · (focus first|(apply qao;(repeat' first|assumption|exact qaa rfl|apply qaf rfl|apply qab);done)|exact qan _ _|exact qai _|exact qap _|exact qad|exact qag|exact qae|exact qac|exact qah _)
        · exact me
        · exact fnd.2 hsl
        (repeat (first|apply qbi|apply qa9|(apply qa7;dsimp only[qbc,List.map,Nat.reduceAdd])|apply qbj|apply qbd|apply qbe|apply qbn|apply qbp|apply qbo|apply qa1|apply qau|apply qbb|apply qas|apply qaq|apply qam rfl|apply qaw|apply qar|apply qax|apply qay|apply qa2|apply qav|((first|apply qa8|apply qbg|apply qbh|apply qbm|apply qbf|apply qba|apply qa0|apply qal|apply qak|apply qat)<;>first|(apply qao;(repeat' first|assumption|exact qaa rfl|apply qaf rfl|apply qab);done)|exact qan _ _|exact qai _|exact qap _|exact qad|exact qag|exact qae|exact qac|exact qah _|exact qa4 _ (by omega)|exact qa3 (by omega)|exact qa5 (by omega)|exact rfl|assumption|apply qa6)|((first|apply qbl|apply qaz|apply qaj)<;>first|(apply qao;(repeat' first|assumption|exact qaa rfl|apply qaf rfl|apply qab);done)|exact qan _ _|exact qai _|exact qap _|exact qad|exact qag|exact qae|exact qac|exact qah _|exact qa4 _ (by omega)|exact qa3 (by omega)|exact qa5 (by omega)|exact rfl|assumption|apply qa6)|(apply qbk rfl rfl;(focus (repeat' first|assumption|exact qaa rfl|apply qaf rfl|apply qab);done))|(apply qb1 rfl rfl;(focus (repeat' first|assumption|exact qaa rfl|apply qaf rfl|apply qab);done);exact rfl)))
        apply qcg false
        · (focus first|(apply qao;(repeat' first|assumption|exact qaa rfl|apply qaf rfl|apply qab);done)|exact qan _ _|exact qai _|exact qap _|exact qad|exact qag|exact qae|exact qac|exact qah _)
        · intro c; cases c
        · intro _
          (repeat (first|apply qbi|apply qa9|(apply qa7;dsimp only[qbc,List.map,Nat.reduceAdd])|apply qbj|apply qbd|apply qbe|apply qbn|apply qbp|apply qbo|apply qa1|apply qau|apply qbb|apply qas|apply qaq|apply qam rfl|apply qaw|apply qar|apply qax|apply qay|apply qa2|apply qav|((first|apply qa8|apply qbg|apply qbh|apply qbm|apply qbf|apply qba|apply qa0|apply qal|apply qak|apply qat)<;>first|(apply qao;(repeat' first|assumption|exact qaa rfl|apply qaf rfl|apply qab);done)|exact qan _ _|exact qai _|exact qap _|exact qad|exact qag|exact qae|exact qac|exact qah _|exact qa4 _ (by omega)|exact qa3 (by omega)|exact qa5 (by omega)|exact rfl|assumption|apply qa6)|((first|apply qbl|apply qaz|apply qaj)<;>first|(apply qao;(repeat' first|assumption|exact qaa rfl|apply qaf rfl|apply qab);done)|exact qan _ _|exact qai _|exact qap _|exact qad|exact qag|exact qae|exact qac|exact qah _|exact qa4 _ (by omega)|exact qa3 (by omega)|exact qa5 (by omega)|exact rfl|assumption|apply qa6)|(apply qbk rfl rfl;(focus (repeat' first|assumption|exact qaa rfl|apply qaf rfl|apply qab);done))|(apply qb1 rfl rfl;(focus (repeat' first|assumption|exact qaa rfl|apply qaf rfl|apply qab);done);exact rfl)))
          apply qcp
          · exact qb8 (by (focus first|(apply qao;(repeat' first|assumption|exact qaa rfl|apply qaf rfl|apply qab);done)|exact qan _ _|exact qai _|exact qap _|exact qad|exact qag|exact qae|exact qac|exact qah _)) qcn
          · rfl
          · rfl
          · exact hp _ _
          intro _
          apply O_wf
          intro w4
          apply O_append (new := [.str s]) (m := 1) (bytes := 16)
          · exact qbt (by (focus first|(apply qao;(repeat' first|assumption|exact qaa rfl|apply qaf rfl|apply qab);done)|exact qan _ _|exact qai _|exact qap _|exact qad|exact qag|exact qae|exact qac|exact qah _)) (qbt (by (focus first|(apply qao;(repeat' first|assumption|exact qaa rfl|apply qaf rfl|apply qab);done)|exact qan _ _|exact qai _|exact qap _|exact qad|exact qag|exact qae|exact qac|exact qah _)) qby)
          · exact sf
          · exact gf
          · exact SlV.imm _ _ _ rfl
          · rfl
          · rfl
          · simp only [room]; omega
          intro fv' g5 kb s5 gr5 k5 _
          refine ⟨Undis.off rfl, ?_⟩
          (repeat (first|apply qbi|apply qa9|(apply qa7;dsimp only[qbc,List.map,Nat.reduceAdd])|apply qbj|apply qbd|apply qbe|apply qbn|apply qbp|apply qbo|apply qa1|apply qau|apply qbb|apply qas|apply qaq|apply qam rfl|apply qaw|apply qar|apply qax|apply qay|apply qa2|apply qav|((first|apply qa8|apply qbg|apply qbh|apply qbm|apply qbf|apply qba|apply qa0|apply qal|apply qak|apply qat)<;>first|(apply qao;(repeat' first|assumption|exact qaa rfl|apply qaf rfl|apply qab);done)|exact qan _ _|exact qai _|exact qap _|exact qad|exact qag|exact qae|exact qac|exact qah _|exact qa4 _ (by omega)|exact qa3 (by omega)|exact qa5 (by omega)|exact rfl|assumption|apply qa6)|((first|apply qbl|apply qaz|apply qaj)<;>first|(apply qao;(repeat' first|assumption|exact qaa rfl|apply qaf rfl|apply qab);done)|exact qan _ _|exact qai _|exact qap _|exact qad|exact qag|exact qae|exact qac|exact qah _|exact qa4 _ (by omega)|exact qa3 (by omega)|exact qa5 (by omega)|exact rfl|assumption|apply qa6)|(apply qbk rfl rfl;(focus (repeat' first|assumption|exact qaa rfl|apply qaf rfl|apply qab);done))|(apply qb1 rfl rfl;(focus (repeat' first|assumption|exact qaa rfl|apply qaf rfl|apply qab);done);exact rfl)))
          apply K_loop ((vars [p]).length - (i + 1)) (by omega)
          refine ⟨i + 1, sv, fv', rfl, by omega, by (repeat' first|assumption|exact qaa rfl|apply qaf rfl|apply qab), by (repeat' first|assumption|exact qaa rfl|apply qaf rfl|apply qab), by (repeat' first|assumption|exact qaa rfl|apply qaf rfl|apply qab), by (repeat' first|assumption|exact qaa rfl|apply qaf rfl|apply qab), by (repeat' first|assumption|exact qaa rfl|apply qaf rfl|apply qab), by (repeat' first|assumption|exact qaa rfl|apply qaf rfl|apply qab), kp.trans (kb.weaken fun k hk => df k hk), ?_, ?_, gs, gr5, ?_, ?_⟩
          · rw [hst, List.filter_append]
            have := ss.keepBut kb fun k hk q => (ds k hk).2 q
            simpa [hsl, Strs, strs] using this
          · rw [hst, List.filter_append]
            simpa [hsl, Strs, strs] using s5
          · intro k hk
            refine ⟨(ds k hk).1, fun q' => ?_⟩
            rcases k5 k q' with q | q
            · exact (ds k hk).2 q
            · have := ss.lt w4 k hk
              omega
          · intro k hk
            rcases k5 k hk with q | q
            · exact df k q
            · have := kp.next; omega
    · intro c
      have : i = (vars [p]).length := by have : ¬ i < (vars [p]).length := by simpa using c
                                         omega
      subst this
      rw [List.take_length] at ss sf
      (repeat (first|apply qbi|apply qa9|(apply qa7;dsimp only[qbc,List.map,Nat.reduceAdd])|apply qbj|apply qbd|apply qbe|apply qbn|apply qbp|apply qbo|apply qa1|apply qau|apply qbb|apply qas|apply qaq|apply qam rfl|apply qaw|apply qar|apply qax|apply qay|apply qa2|apply qav|((first|apply qa8|apply qbg|apply qbh|apply qbm|apply qbf|apply qba|apply qa0|apply qal|apply qak|apply qat)<;>first|(apply qao;(repeat' first|assumption|exact qaa rfl|apply qaf rfl|apply qab);done)|exact qan _ _|exact qai _|exact qap _|exact qad|exact qag|exact qae|exact qac|exact qah _|exact qa4 _ (by omega)|exact qa3 (by omega)|exact qa5 (by omega)|exact rfl|assumption|apply qa6)|((first|apply qbl|apply qaz|apply qaj)<;>first|(apply qao;(repeat' first|assumption|exact qaa rfl|apply qaf rfl|apply qab);done)|exact qan _ _|exact qai _|exact qap _|exact qad|exact qag|exact qae|exact qac|exact qah _|exact qa4 _ (by omega)|exact qa3 (by omega)|exact qa5 (by omega)|exact rfl|assumption|apply qa6)|(apply qbk rfl rfl;(focus (repeat' first|assumption|exact qaa rfl|apply qaf rfl|apply qab);done))|(apply qb1 rfl rfl;(focus (repeat' first|assumption|exact qaa rfl|apply qaf rfl|apply qab);done);exact rfl)))
      apply R_results2 rfl
      · (repeat' first|assumption|exact qaa rfl|apply qaf rfl|apply qab)
      · (repeat' first|assumption|exact qaa rfl|apply qaf rfl|apply qab)
      exact ⟨((k1.trans k2).trans k3).trans (kp.toKeep w3), sv, fv, rfl, ss, sf⟩

theorem learn_spec (hs : sums 26 = none) {n : Nat} {h : Hp} {mid c : Nat} {l names : List Str} (hn : names.length + 2 ≤ n) (m : KnownAt h mid c l) {v : AV} (o : Strs h v names) (hv : mid ∉ qcv v) (hc : c + names.length < 2 ^ 62) :
    Runs (qci Try.prog pol sums n (.func (.func 26) [] []) [.agg [.mapv mid], v]) h (fun _ h' => KeepBut (fun i => i = mid ∨ h.next ≤ i) h h' ∧ KnownAt h' mid (c + names.length) (names.foldl meet1 l)) := by
  apply Runs.wf
  intro w
  obtain ⟨n, rfl⟩ : ∃ m, n = m + 1 := ⟨n - 1, by omega⟩
  refine qc7 (by assumption) Try.func26 rfl (by simp [Try.f26]) ?_
  have a0 : qcc (qbw Try.f26.ntmps (([] ++ [.agg [.mapv mid], v] ++ []) : List AV)) 0 = .agg [.mapv mid] := qbu rfl
  have a1 : qcc (qbw Try.f26.ntmps (([] ++ [.agg [.mapv mid], v] ++ []) : List AV)) 1 = v := qbu rfl
  generalize qbw Try.f26.ntmps (([] ++ [.agg [.mapv mid], v] ++ []) : List AV) = T at *
  show Runs (qcd _ _ _ _ 18 _ _ _) _ _
  (repeat (first|apply qbi|apply qa9|(apply qa7;dsimp only[qbc,List.map,Nat.reduceAdd])|apply qbj|apply qbd|apply qbe|apply qbn|apply qbp|apply qbo|apply qa1|apply qau|apply qbb|apply qas|apply qaq|apply qam rfl|apply qaw|apply qar|apply qax|apply qay|apply qa2|apply qav|((first|apply qa8|apply qbg|apply qbh|apply qbm|apply qbf|apply qba|apply qa0|apply qal|apply qak|apply qat)<;>first|(apply qao;(repeat' first|assumption|exact qaa rfl|apply qaf rfl|apply qab);done)|exact qan _ _|exact qai _|exact qap _|exact qad|exact qag|exact qae|exact qac|exact qah _|exact qa4 _ (by omega)|exact qa3 (by omega)|exact qa5 (by omega)|exact rfl|assumption|apply qa6)|((first|apply qbl|apply qaz|apply qaj)<;>first|(apply qao;(repeat' first|assumption|exact qaa rfl|apply qaf rfl|apply qab);done)|exact qan _ _|exact qai _|exact qap _|exact qad|exact qag|exact qae|exact qac|exact qah _|exact qa4 _ (by omega)|exact qa3 (by omega)|exact qa5 (by omega)|exact rfl|assumption|apply qa6)|(apply qbk rfl rfl;(focus (repeat' first|assumption|exact qaa rfl|apply qaf rfl|apply qab);done))|(apply qb1 rfl rfl;(focus (repeat' first|assumption|exact qaa rfl|apply qaf rfl|apply qab);done);exact rfl)))
  apply O_box
  · (focus first|(apply qao;(repeat' first|assumption|exact qaa rfl|apply qaf rfl|apply qab);done)|exact qan _ _|exact qai _|exact qap _|exact qad|exact qag|exact qae|exact qac|exact qah _)
  · rfl
  intro g1 i1 k1 r1 l1 l2
  change Row g1 i1 0 _ [.mapv mid] true at r1
  have o1 := o.keep k1
  (repeat (first|apply qbi|apply qa9|(apply qa7;dsimp only[qbc,List.map,Nat.reduceAdd])|apply qbj|apply qbd|apply qbe|apply qbn|apply qbp|apply qbo|apply qa1|apply qau|apply qbb|apply qas|apply qaq|apply qam rfl|apply qaw|apply qar|apply qax|apply qay|apply qa2|apply qav|((first|apply qa8|apply qbg|apply qbh|apply qbm|apply qbf|apply qba|apply qa0|apply qal|apply qak|apply qat)<;>first|(apply qao;(repeat' first|assumption|exact qaa rfl|apply qaf rfl|apply qab);done)|exact qan _ _|exact qai _|exact qap _|exact qad|exact qag|exact qae|exact qac|exact qah _|exact qa4 _ (by omega)|exact qa3 (by omega)|exact qa5 (by omega)|exact rfl|assumption|apply qa6)|((first|apply qbl|apply qaz|apply qaj)<;>first|(apply qao;(repeat' first|assumption|exact qaa rfl|apply qaf rfl|apply qab);done)|exact qan _ _|exact qai _|exact qap _|exact qad|exact qag|exact qae|exact qac|exact qah _|exact qa4 _ (by omega)|exact qa3 (by omega)|exact qa5 (by omega)|exact rfl|assumption|apply qa6)|(apply qbk rfl rfl;(focus (repeat' first|assumption|exact qaa rfl|apply qaf rfl|apply qab);done))|(apply qb1 rfl rfl;(focus (repeat' first|assumption|exact qaa rfl|apply qaf rfl|apply qab);done);exact rfl)))
  have hmid : mid < h.next := m.lt w
  apply R_loop (k := names.length) (I := fun k T g => ∃ i, k = names.length - i ∧ i ≤ names.length ∧ qcc T 2 = .ptr i1 0 0 ∧ qcc T 6 = v ∧ qcc T 7 = .int .i64 (names.length : Nat) ∧ qcc T 8 = .int .i64 (i : Nat) ∧
    KeepBut (· = mid) g1 g ∧ KnownAt g mid (c + i) ((names.take i).foldl meet1 l))
  · omega
  · exact ⟨0, by omega, by omega, by (repeat' first|assumption|exact qaa rfl|apply qaf rfl|apply qab), by (repeat' first|assumption|exact qaa rfl|apply qaf rfl|apply qab), by (repeat' first|assumption|exact qaa rfl|apply qaf rfl|apply qab), by (repeat' first|assumption|exact qaa rfl|apply qaf rfl|apply qab), KeepBut.refl _, m.keep k1⟩
  · rintro k T g2 ⟨i, rfl, hi, t2, t6, t7, t8, kp, mk⟩
    (repeat (first|apply qbi|apply qa9|(apply qa7;dsimp only[qbc,List.map,Nat.reduceAdd])|apply qbj|apply qbd|apply qbe|apply qbn|apply qbp|apply qbo|apply qa1|apply qau|apply qbb|apply qas|apply qaq|apply qam rfl|apply qaw|apply qar|apply qax|apply qay|apply qa2|apply qav|((first|apply qa8|apply qbg|apply qbh|apply qbm|apply qbf|apply qba|apply qa0|apply qal|apply qak|apply qat)<;>first|(apply qao;(repeat' first|assumption|exact qaa rfl|apply qaf rfl|apply qab);done)|exact qan _ _|exact qai _|exact qap _|exact qad|exact qag|exact qae|exact qac|exact qah _|exact qa4 _ (by omega)|exact qa3 (by omega)|exact qa5 (by omega)|exact rfl|assumption|apply qa6)|((first|apply qbl|apply qaz|apply qaj)<;>first|(apply qao;(repeat' first|assumption|exact qaa rfl|apply qaf rfl|apply qab);done)|exact qan _ _|exact qai _|exact qap _|exact qad|exact qag|exact qae|exact qac|exact qah _|exact qa4 _ (by omega)|exact qa3 (by omega)|exact qa5 (by omega)|exact rfl|assumption|apply qa6)|(apply qbk rfl rfl;(focus (repeat' first|assumption|exact qaa rfl|apply qaf rfl|apply qab);done))|(apply qb1 rfl rfl;(focus (repeat' first|assumption|exact qaa rfl|apply qaf rfl|apply qab);done);exact rfl)))
    apply qcg (decide ((i : Int) < (names.length : Int)))
    · (focus first|(apply qao;(repeat' first|assumption|exact qaa rfl|apply qaf rfl|apply qab);done)|exact qan _ _|exact qai _|exact qap _|exact qad|exact qag|exact qae|exact qac|exact qah _)
    · intro cc
      have hlt : i < names.length := by simpa using cc
      have r2 : Row g2 i1 0 _ [.mapv mid] true := r1.keepBut kp (by omega)
      (repeat (first|apply qbi|apply qa9|(apply qa7;dsimp only[qbc,List.map,Nat.reduceAdd])|apply qbj|apply qbd|apply qbe|apply qbn|apply qbp|apply qbo|apply qa1|apply qau|apply qbb|apply qas|apply qaq|apply qam rfl|apply qaw|apply qar|apply qax|apply qay|apply qa2|apply qav|((first|apply qa8|apply qbg|apply qbh|apply qbm|apply qbf|apply qba|apply qa0|apply qal|apply qak|apply qat)<;>first|(apply qao;(repeat' first|assumption|exact qaa rfl|apply qaf rfl|apply qab);done)|exact qan _ _|exact qai _|exact qap _|exact qad|exact qag|exact qae|exact qac|exact qah _|exact qa4 _ (by omega)|exact qa3 (by omega)|exact qa5 (by omega)|exact rfl|assumption|apply qa6)|((first|apply qbl|apply qaz|apply qaj)<;>first|(apply qao;(repeat' first|assumption|exact qaa rfl|apply qaf rfl|apply qab);done)|exact qan _ _|exact qai _|exact qap _|exact qad|exact qag|exact qae|exact qac|exact qah _|exact qa4 _ (by omega)|exact qa3 (by omega)|exact qa5 (by omega)|exact rfl|assumption|apply qa6)|(apply qbk rfl rfl;(focus (repeat' first|assumption|exact qaa rfl|apply qaf rfl|apply qab);done))|(apply qb1 rfl rfl;(focus (repeat' first|assumption|exact qaa rfl|apply qaf rfl|apply qab);done);exact rfl)))
      apply qca
      · (focus first|(apply qao;(repeat' first|assumption|exact qaa rfl|apply qaf rfl|apply qab);done)|exact qan _ _|exact qai _|exact qap _|exact qad|exact qag|exact qae|exact qac|exact qah _)
      · exact o1.keepBut kp fun k hk q => hv (q ▸ hk)
      · (focus first|(apply qao;(repeat' first|assumption|exact qaa rfl|apply qaf rfl|apply qab);done)|exact qan _ _|exact qai _|exact qap _|exact qad|exact qag|exact qae|exact qac|exact qah _)
      · omega
      · rfl
      intro a ha _
      rw [strs_at hlt] at ha
      apply qc0
      · (focus first|(apply qao;(repeat' first|assumption|exact qaa rfl|apply qaf rfl|apply qab);done)|exact qan _ _|exact qai _|exact qap _|exact qad|exact qag|exact qae|exact qac|exact qah _)
      · exact ha
      have hst : (names.take (i + 1)).foldl meet1 l = meet1 ((names.take i).foldl meet1 l) names[i] := by rw [List.take_succ_eq_append_getElem hlt, List.foldl_append]; rfl
      generalize names[i] = s at ha hst
      (repeat (first|apply qbi|apply qa9|(apply qa7;dsimp only[qbc,List.map,Nat.reduceAdd])|apply qbj|apply qbd|apply qbe|apply qbn|apply qbp|apply qbo|apply qa1|apply qau|apply qbb|apply qas|apply qaq|apply qam rfl|apply qaw|apply qar|apply qax|apply qay|apply qa2|apply qav|((first|apply qa8|apply qbg|apply qbh|apply qbm|apply qbf|apply qba|apply qa0|apply qal|apply qak|apply qat)<;>first|(apply qao;(repeat' first|assumption|exact qaa rfl|apply qaf rfl|apply qab);done)|exact qan _ _|exact qai _|exact qap _|exact qad|exact qag|exact qae|exact qac|exact qah _|exact qa4 _ (by omega)|exact qa3 (by omega)|exact qa5 (by omega)|exact rfl|assumption|apply qa6)|((first|apply qbl|apply qaz|apply qaj)<;>first|(apply qao;(repeat' first|assumption|exact qaa rfl|apply qaf rfl|apply qab);done)|exact qan _ _|exact qai _|exact qap _|exact qad|exact qag|exact qae|exact qac|exact qah _|exact qa4 _ (by omega)|exact qa3 (by omega)|exact qa5 (by omega)|exact rfl|assumption|apply qa6)|(apply qbk rfl rfl;(focus (repeat' first|assumption|exact qaa rfl|apply qaf rfl|apply qab);done))|(apply qb1 rfl rfl;(focus (repeat' first|assumption|exact qaa rfl|apply qaf rfl|apply qab);done);exact rfl)))
      obtain ⟨es, me, hcs⟩ := mk
      have fnd := hcs.find s
      have key : ∃ (z : Nat) (r : Option AV), afind (.str s) es = some r ∧ r.getD (.int .i64 0) = .int .i64 (z : Int) ∧ z ≤ c + i := by
        by_cases hsl : s ∈ (names.take i).foldl meet1 l
        · obtain ⟨z, hz, hz1, hz2⟩ := fnd.1 hsl
          exact ⟨z, _, hz, rfl, hz2⟩
        · exact ⟨0, _, fnd.2 hsl, rfl, by omega⟩
      obtain ⟨z, r, hz, hr, hzc⟩ := key
      apply O_lookup
      · (focus first|(apply qao;(repeat' first|assumption|exact qaa rfl|apply qaf rfl|apply qab);done)|exact qan _ _|exact qai _|exact qap _|exact qad|exact qag|exact qae|exact qac|exact qah _)
      · (focus first|(apply qao;(repeat' first|assumption|exact qaa rfl|apply qaf rfl|apply qab);done)|exact qan _ _|exact qai _|exact qap _|exact qad|exact qag|exact qae|exact qac|exact qah _)
      · exact me
      · exact hz
      simp only [cond_false, hr]
      (repeat (first|apply qbi|apply qa9|(apply qa7;dsimp only[qbc,List.map,Nat.reduceAdd])|apply qbj|apply qbd|apply qbe|apply qbn|apply qbp|apply qbo|apply qa1|apply qau|apply qbb|apply qas|apply qaq|apply qam rfl|apply qaw|apply qar|apply qax|apply qay|apply qa2|apply qav|((first|apply qa8|apply qbg|apply qbh|apply qbm|apply qbf|apply qba|apply qa0|apply qal|apply qak|apply qat)<;>first|(apply qao;(repeat' first|assumption|exact qaa rfl|apply qaf rfl|apply qab);done)|exact qan _ _|exact qai _|exact qap _|exact qad|exact qag|exact qae|exact qac|exact qah _|exact qa4 _ (by omega)|exact qa3 (by omega)|exact qa5 (by omega)|exact rfl|assumption|apply qa6)|((first|apply qbl|apply qaz|apply qaj)<;>first|(apply qao;(repeat' first|assumption|exact qaa rfl|apply qaf rfl|apply qab);done)|exact qan _ _|exact qai _|exact qap _|exact qad|exact qag|exact qae|exact qac|exact qah _|exact qa4 _ (by omega)|exact qa3 (by omega)|exact qa5 (by omega)|exact rfl|assumption|apply qa6)|(apply qbk rfl rfl;(focus (repeat' first|assumption|exact qaa rfl|apply qaf rfl|apply qab);done))|(apply qb1 rfl rfl;(focus (repeat' first|assumption|exact qaa rfl|apply qaf rfl|apply qab);done);exact rfl)))
      apply O_mapUpdate
      · (focus first|(apply qao;(repeat' first|assumption|exact qaa rfl|apply qaf rfl|apply qab);done)|exact qan _ _|exact qai _|exact qap _|exact qad|exact qag|exact qae|exact qac|exact qah _)
      · (focus first|(apply qao;(repeat' first|assumption|exact qaa rfl|apply qaf rfl|apply qab);done)|exact qan _ _|exact qai _|exact qap _|exact qad|exact qag|exact qae|exact qac|exact qah _)
      · (focus first|(apply qao;(repeat' first|assumption|exact qaa rfl|apply qaf rfl|apply qab);done)|exact qan _ _|exact qai _|exact qap _|exact qad|exact qag|exact qae|exact qac|exact qah _)
      · exact me
      · exact hz
      intro g3 kb m3
      refine ⟨Undis.off rfl, ?_⟩
      (repeat (first|apply qbi|apply qa9|(apply qa7;dsimp only[qbc,List.map,Nat.reduceAdd])|apply qbj|apply qbd|apply qbe|apply qbn|apply qbp|apply qbo|apply qa1|apply qau|apply qbb|apply qas|apply qaq|apply qam rfl|apply qaw|apply qar|apply qax|apply qay|apply qa2|apply qav|((first|apply qa8|apply qbg|apply qbh|apply qbm|apply qbf|apply qba|apply qa0|apply qal|apply qak|apply qat)<;>first|(apply qao;(repeat' first|assumption|exact qaa rfl|apply qaf rfl|apply qab);done)|exact qan _ _|exact qai _|exact qap _|exact qad|exact qag|exact qae|exact qac|exact qah _|exact qa4 _ (by omega)|exact qa3 (by omega)|exact qa5 (by omega)|exact rfl|assumption|apply qa6)|((first|apply qbl|apply qaz|apply qaj)<;>first|(apply qao;(repeat' first|assumption|exact qaa rfl|apply qaf rfl|apply qab);done)|exact qan _ _|exact qai _|exact qap _|exact qad|exact qag|exact qae|exact qac|exact qah _|exact qa4 _ (by omega)|exact qa3 (by omega)|exact qa5 (by omega)|exact rfl|assumption|apply qa6)|(apply qbk rfl rfl;(focus (repeat' first|assumption|exact qaa rfl|apply qaf rfl|apply qab);done))|(apply qb1 rfl rfl;(focus (repeat' first|assumption|exact qaa rfl|apply qaf rfl|apply qab);done);exact rfl)))
      apply K_loop (names.length - (i + 1)) (by omega)
      refine ⟨i + 1, rfl, by omega, by (repeat' first|assumption|exact qaa rfl|apply qaf rfl|apply qab), by (repeat' first|assumption|exact qaa rfl|apply qaf rfl|apply qab), by (repeat' first|assumption|exact qaa rfl|apply qaf rfl|apply qab), by (repeat' first|assumption|exact qaa rfl|apply qaf rfl|apply qab), kp.trans kb, _, m3, ?_⟩
      rw [hst]
      exact hcs.upd s (z + 1) ⟨by omega, by omega⟩
    · intro cc
      have : i = names.length := by have : ¬ i < names.length := by simpa using cc
                                    omega
      subst this
      rw [List.take_length] at mk
      (repeat (first|apply qbi|apply qa9|(apply qa7;dsimp only[qbc,List.map,Nat.reduceAdd])|apply qbj|apply qbd|apply qbe|apply qbn|apply qbp|apply qbo|apply qa1|apply qau|apply qbb|apply qas|apply qaq|apply qam rfl|apply qaw|apply qar|apply qax|apply qay|apply qa2|apply qav|((first|apply qa8|apply qbg|apply qbh|apply qbm|apply qbf|apply qba|apply qa0|apply qal|apply qak|apply qat)<;>first|(apply qao;(repeat' first|assumption|exact qaa rfl|apply qaf rfl|apply qab);done)|exact qan _ _|exact qai _|exact qap _|exact qad|exact qag|exact qae|exact qac|exact qah _|exact qa4 _ (by omega)|exact qa3 (by omega)|exact qa5 (by omega)|exact rfl|assumption|apply qa6)|((first|apply qbl|apply qaz|apply qaj)<;>first|(apply qao;(repeat' first|assumption|exact qaa rfl|apply qaf rfl|apply qab);done)|exact qan _ _|exact qai _|exact qap _|exact qad|exact qag|exact qae|exact qac|exact qah _|exact qa4 _ (by omega)|exact qa3 (by omega)|exact qa5 (by omega)|exact rfl|assumption|apply qa6)|(apply qbk rfl rfl;(focus (repeat' first|assumption|exact qaa rfl|apply qaf rfl|apply qab);done))|(apply qb1 rfl rfl;(focus (repeat' first|assumption|exact qaa rfl|apply qaf rfl|apply qab);done);exact rfl)))
      apply R_results0 rfl
      exact ⟨(k1.but _).trans (kp.weaken fun k hk => .inl hk), mk⟩
end Go.Am
namespace Go.Am
open Go Go.Proofs AM
set_option maxRecDepth 10000
variable {pol : Pol} {sums : Sums}

theorem abin_struct {P : Program} {t : TypeId} {X Y : List AV} {b : Bool} (hu : (match P.underlying t with | some (.struct _) => true | _ => false) = true) (hg : P.eqGuardType P.depth t = false) (he : aeqIn P 9 t (.agg X) (.agg Y) = some b) :
    abin P .eql t (.agg X) (.agg Y) = pure (.bool b) ∧ abin P .neq t (.agg X) (.agg Y) = pure (.bool !b) := by
  cases hq : P.underlying t with
  | none => rw [hq] at hu; cases hu
  | some d =>
    rw [hq] at hu
    cases d <;> first | cases hu | skip
    have : aequal P t (.agg X) (.agg Y) = pure b := by
      unfold aequal
      simp only [hq]
      rw [hg, he]
      rfl
    constructor
    · simp only [abin, this]; rfl
    · simp only [abin, this]; rfl
theorem trm_eqIn (a b : Trm) : aeqIn Try.prog 9 39 (.agg (trmC a)) (.agg (trmC b)) = some (decide (a = b)) := by
  obtain ⟨k, x, y, z⟩ := a
  obtain ⟨k', x', y', z'⟩ := b
  have e : aeqIn Try.prog 9 39 (.agg (trmC ⟨k, x, y, z⟩)) (.agg (trmC ⟨k', x', y', z'⟩)) = (match k == k' with
    | true => match x == x' with
      | true => match y == y' with
        | true => match z == z' with
          | true => some true
          | false => some false
        | false => some false
      | false => some false
    | false => some false) := by kernel_rfl
  rw [e]
  by_cases h1 : k = k'
  · by_cases h2 : x = x'
    · by_cases h3 : y = y'
      · by_cases h4 : z = z'
        · simp [h1, h2, h3, h4]
        · simp [h1, h2, h3, h4, show (z == z') = false by simpa using h4]
      · simp [h1, h2, h3, show (y == y') = false by simpa using h3]
    · simp [h1, h2, show (x == x') = false by simpa using h2]
  · simp [h1, show (k == k') = false by simpa using h1]
theorem trm_eql (a b : Trm) : abin Try.prog .eql 39 (.agg (trmC a)) (.agg (trmC b)) = pure (.bool (decide (a = b))) := (abin_struct (by kernel_rfl) (by kernel_rfl) (trm_eqIn a b)).1

attribute [local irreducible] KSeq KMid KBlock KLoop KOps KFunc Runs qcs qcd aopsM aop qci qcc qcx qcx? qbz qck qbw
structure Lin where
  term : Trm
  tri : Int
  sub : Int
  obj : Int
abbrev linC (x : Lin) : List AV := [.int .i64 x.term.kind, .str x.term.a, .str x.term.b, .str x.term.c, .int .i64 x.tri, .int .i64 x.sub, .int .i64 x.obj]
theorem linC_len (x : Lin) : (linC x).length = 7 := rfl
structure Sts where
  tri : Int
  sub : Int
  pre : Int
  obj : Int
  lines : List Lin
abbrev stsC (x : Sts) (lv : AV) : List AV := [.int .i64 x.tri, .int .i64 x.sub, .int .i64 x.pre, .int .i64 x.obj, lv]
def noTrm : Trm := ⟨0, [], [], []⟩
def noLin : Lin := ⟨noTrm, 0, 0, 0⟩
def ofZ (x : Sts) (p : Slt) : Lin := if p.var ≠ [] then ⟨noTrm, x.tri, x.sub, x.obj⟩ else (x.lines.find? (fun l => decide (l.term = p.term))).getD noLin
def partZ (a b : Int) : Int := if a < 1 then 0 else IntKind.wrap .i64 (IntKind.wrap .i64 ((IntKind.wrap .i64 (a - 1)).tdiv (if 1 > b then 1 else b)) + 1)
def toldZ (known : List Str) (s : Slt) : Bool := s.var == [] || decide (s.var ∈ known)
def guessZ (x : Sts) (p : Ptn) (known : List Str) : Int :=
  let l := ofZ x p.p
  let n := l.tri
  let n := if toldZ known p.s then partZ n l.sub else n
  let n := if toldZ known p.o then partZ n l.obj else n
  if p.p.var ≠ [] ∧ toldZ known p.p = true then partZ n x.pre else n

theorem part_spec (hs : sums 69 = none) {n : Nat} (hn : 1 ≤ n) (a b : Int) (h : Hp) : Runs (qci Try.prog pol sums n (.func (.func 69) [] []) [.int .i64 a, .int .i64 b]) h (fun v h' => h = h' ∧ v = .int .i64 (partZ a b)) := by
  obtain ⟨n, rfl⟩ : ∃ m, n = m + 1 := ⟨n - 1, by omega⟩
  refine qc7 (by assumption) Try.func69 rfl (by simp [Try.f69]) ?_
  have a0 : qcc (qbw Try.f69.ntmps (([] ++ [.int .i64 a, .int .i64 b] ++ []) : List AV)) 0 = .int .i64 a := qbu rfl
  have a1 : qcc (qbw Try.f69.ntmps (([] ++ [.int .i64 a, .int .i64 b] ++ []) : List AV)) 1 = .int .i64 b := qbu rfl
  generalize qbw Try.f69.ntmps (([] ++ [.int .i64 a, .int .i64 b] ++ []) : List AV) = T at *
  show Runs (qcd _ _ _ _ 14 _ _ _) _ _
  (repeat (first|apply qbi|apply qa9|(apply qa7;dsimp only[qbc,List.map,Nat.reduceAdd])|apply qbj|apply qbd|apply qbe|apply qbn|apply qbp|apply qbo|apply qa1|apply qau|apply qbb|apply qas|apply qaq|apply qam rfl|apply qaw|apply qar|apply qax|apply qay|apply qa2|apply qav|((first|apply qa8|apply qbg|apply qbh|apply qbm|apply qbf|apply qba|apply qa0|apply qal|apply qak|apply qat)<;>first|(apply qao;(repeat' first|assumption|exact qaa rfl|apply qaf rfl|apply qab);done)|exact qan _ _|exact qai _|exact qap _|exact qad|exact qag|exact qae|exact qac|exact qah _|exact qa4 _ (by omega)|exact qa3 (by omega)|exact qa5 (by omega)|exact rfl|assumption|apply qa6)|((first|apply qbl|apply qaz|apply qaj)<;>first|(apply qao;(repeat' first|assumption|exact qaa rfl|apply qaf rfl|apply qab);done)|exact qan _ _|exact qai _|exact qap _|exact qad|exact qag|exact qae|exact qac|exact qah _|exact qa4 _ (by omega)|exact qa3 (by omega)|exact qa5 (by omega)|exact rfl|assumption|apply qa6)|(apply qbk rfl rfl;(focus (repeat' first|assumption|exact qaa rfl|apply qaf rfl|apply qab);done))|(apply qb1 rfl rfl;(focus (repeat' first|assumption|exact qaa rfl|apply qaf rfl|apply qab);done);exact rfl)))
  apply qcg (decide (a < 1))
  · (focus first|(apply qao;(repeat' first|assumption|exact qaa rfl|apply qaf rfl|apply qab);done)|exact qan _ _|exact qai _|exact qap _|exact qad|exact qag|exact qae|exact qac|exact qah _)
  · intro c
    (repeat (first|apply qbi|apply qa9|(apply qa7;dsimp only[qbc,List.map,Nat.reduceAdd])|apply qbj|apply qbd|apply qbe|apply qbn|apply qbp|apply qbo|apply qa1|apply qau|apply qbb|apply qas|apply qaq|apply qam rfl|apply qaw|apply qar|apply qax|apply qay|apply qa2|apply qav|((first|apply qa8|apply qbg|apply qbh|apply qbm|apply qbf|apply qba|apply qa0|apply qal|apply qak|apply qat)<;>first|(apply qao;(repeat' first|assumption|exact qaa rfl|apply qaf rfl|apply qab);done)|exact qan _ _|exact qai _|exact qap _|exact qad|exact qag|exact qae|exact qac|exact qah _|exact qa4 _ (by omega)|exact qa3 (by omega)|exact qa5 (by omega)|exact rfl|assumption|apply qa6)|((first|apply qbl|apply qaz|apply qaj)<;>first|(apply qao;(repeat' first|assumption|exact qaa rfl|apply qaf rfl|apply qab);done)|exact qan _ _|exact qai _|exact qap _|exact qad|exact qag|exact qae|exact qac|exact qah _|exact qa4 _ (by omega)|exact qa3 (by omega)|exact qa5 (by omega)|exact rfl|assumption|apply qa6)|(apply qbk rfl rfl;(focus (repeat' first|assumption|exact qaa rfl|apply qaf rfl|apply qab);done))|(apply qb1 rfl rfl;(focus (repeat' first|assumption|exact qaa rfl|apply qaf rfl|apply qab);done);exact rfl)))
    (apply qb5 rfl; (repeat' first|assumption|exact qaa rfl|apply qaf rfl|apply qab))
    have c : a < 1 := by simpa using c
    simp [partZ, c]
  · intro c
    have c : ¬ a < 1 := by simpa using c
    (repeat (first|apply qbi|apply qa9|(apply qa7;dsimp only[qbc,List.map,Nat.reduceAdd])|apply qbj|apply qbd|apply qbe|apply qbn|apply qbp|apply qbo|apply qa1|apply qau|apply qbb|apply qas|apply qaq|apply qam rfl|apply qaw|apply qar|apply qax|apply qay|apply qa2|apply qav|((first|apply qa8|apply qbg|apply qbh|apply qbm|apply qbf|apply qba|apply qa0|apply qal|apply qak|apply qat)<;>first|(apply qao;(repeat' first|assumption|exact qaa rfl|apply qaf rfl|apply qab);done)|exact qan _ _|exact qai _|exact qap _|exact qad|exact qag|exact qae|exact qac|exact qah _|exact qa4 _ (by omega)|exact qa3 (by omega)|exact qa5 (by omega)|exact rfl|assumption|apply qa6)|((first|apply qbl|apply qaz|apply qaj)<;>first|(apply qao;(repeat' first|assumption|exact qaa rfl|apply qaf rfl|apply qab);done)|exact qan _ _|exact qai _|exact qap _|exact qad|exact qag|exact qae|exact qac|exact qah _|exact qa4 _ (by omega)|exact qa3 (by omega)|exact qa5 (by omega)|exact rfl|assumption|apply qa6)|(apply qbk rfl rfl;(focus (repeat' first|assumption|exact qaa rfl|apply qaf rfl|apply qab);done))|(apply qb1 rfl rfl;(focus (repeat' first|assumption|exact qaa rfl|apply qaf rfl|apply qab);done);exact rfl)))
    apply O_max2
    · (focus first|(apply qao;(repeat' first|assumption|exact qaa rfl|apply qaf rfl|apply qab);done)|exact qan _ _|exact qai _|exact qap _|exact qad|exact qag|exact qae|exact qac|exact qah _)
    · (focus first|(apply qao;(repeat' first|assumption|exact qaa rfl|apply qaf rfl|apply qab);done)|exact qan _ _|exact qai _|exact qap _|exact qad|exact qag|exact qae|exact qac|exact qah _)
    (repeat (first|apply qbi|apply qa9|(apply qa7;dsimp only[qbc,List.map,Nat.reduceAdd])|apply qbj|apply qbd|apply qbe|apply qbn|apply qbp|apply qbo|apply qa1|apply qau|apply qbb|apply qas|apply qaq|apply qam rfl|apply qaw|apply qar|apply qax|apply qay|apply qa2|apply qav|((first|apply qa8|apply qbg|apply qbh|apply qbm|apply qbf|apply qba|apply qa0|apply qal|apply qak|apply qat)<;>first|(apply qao;(repeat' first|assumption|exact qaa rfl|apply qaf rfl|apply qab);done)|exact qan _ _|exact qai _|exact qap _|exact qad|exact qag|exact qae|exact qac|exact qah _|exact qa4 _ (by omega)|exact qa3 (by omega)|exact qa5 (by omega)|exact rfl|assumption|apply qa6)|((first|apply qbl|apply qaz|apply qaj)<;>first|(apply qao;(repeat' first|assumption|exact qaa rfl|apply qaf rfl|apply qab);done)|exact qan _ _|exact qai _|exact qap _|exact qad|exact qag|exact qae|exact qac|exact qah _|exact qa4 _ (by omega)|exact qa3 (by omega)|exact qa5 (by omega)|exact rfl|assumption|apply qa6)|(apply qbk rfl rfl;(focus (repeat' first|assumption|exact qaa rfl|apply qaf rfl|apply qab);done))|(apply qb1 rfl rfl;(focus (repeat' first|assumption|exact qaa rfl|apply qaf rfl|apply qab);done);exact rfl)))
    apply O_quo
    · (focus first|(apply qao;(repeat' first|assumption|exact qaa rfl|apply qaf rfl|apply qab);done)|exact qan _ _|exact qai _|exact qap _|exact qad|exact qag|exact qae|exact qac|exact qah _)
    · (focus first|(apply qao;(repeat' first|assumption|exact qaa rfl|apply qaf rfl|apply qab);done)|exact qan _ _|exact qai _|exact qap _|exact qad|exact qag|exact qae|exact qac|exact qah _)
    · split <;> omega
    (repeat (first|apply qbi|apply qa9|(apply qa7;dsimp only[qbc,List.map,Nat.reduceAdd])|apply qbj|apply qbd|apply qbe|apply qbn|apply qbp|apply qbo|apply qa1|apply qau|apply qbb|apply qas|apply qaq|apply qam rfl|apply qaw|apply qar|apply qax|apply qay|apply qa2|apply qav|((first|apply qa8|apply qbg|apply qbh|apply qbm|apply qbf|apply qba|apply qa0|apply qal|apply qak|apply qat)<;>first|(apply qao;(repeat' first|assumption|exact qaa rfl|apply qaf rfl|apply qab);done)|exact qan _ _|exact qai _|exact qap _|exact qad|exact qag|exact qae|exact qac|exact qah _|exact qa4 _ (by omega)|exact qa3 (by omega)|exact qa5 (by omega)|exact rfl|assumption|apply qa6)|((first|apply qbl|apply qaz|apply qaj)<;>first|(apply qao;(repeat' first|assumption|exact qaa rfl|apply qaf rfl|apply qab);done)|exact qan _ _|exact qai _|exact qap _|exact qad|exact qag|exact qae|exact qac|exact qah _|exact qa4 _ (by omega)|exact qa3 (by omega)|exact qa5 (by omega)|exact rfl|assumption|apply qa6)|(apply qbk rfl rfl;(focus (repeat' first|assumption|exact qaa rfl|apply qaf rfl|apply qab);done))|(apply qb1 rfl rfl;(focus (repeat' first|assumption|exact qaa rfl|apply qaf rfl|apply qab);done);exact rfl)))
    (apply qb5 rfl; (repeat' first|assumption|exact qaa rfl|apply qaf rfl|apply qab))
    simp [partZ, c]

theorem told_spec (hs : sums 66 = none) (hs2 : sums 67 = some qcq) {n : Nat} (hn : 2 ≤ n) {h : Hp} {id : Nat} {nv : AV} {known : List Str} (r : Row h id 0 1 [nv] true) (o : Names h nv known) (hb : known.length < 2 ^ 62) (s : Slt) :
    Runs (qci Try.prog pol sums n (.func (.func 66) [] [.ptr id 0 0]) [.agg (sltC s)]) h (fun v h' => Keep h h' ∧ v = .bool (toldZ known s)) := by
  obtain ⟨n, rfl⟩ : ∃ m, n = m + 1 := ⟨n - 1, by omega⟩
  refine qc7 (by assumption) Try.func66 rfl (by simp [Try.f66]) ?_
  have a0 : qcc (qbw Try.f66.ntmps (([] ++ [.agg (sltC s)] ++ [.ptr id 0 0]) : List AV)) 0 = .agg (sltC s) := qbu rfl
  have a1 : qcc (qbw Try.f66.ntmps (([] ++ [.agg (sltC s)] ++ [.ptr id 0 0]) : List AV)) 1 = .ptr id 0 0 := qbu rfl
  generalize qbw Try.f66.ntmps (([] ++ [.agg (sltC s)] ++ [.ptr id 0 0]) : List AV) = T at *
  show Runs (qcd _ _ _ _ 13 _ _ _) _ _
  (repeat (first|apply qbi|apply qa9|(apply qa7;dsimp only[qbc,List.map,Nat.reduceAdd])|apply qbj|apply qbd|apply qbe|apply qbn|apply qbp|apply qbo|apply qa1|apply qau|apply qbb|apply qas|apply qaq|apply qam rfl|apply qaw|apply qar|apply qax|apply qay|apply qa2|apply qav|((first|apply qa8|apply qbg|apply qbh|apply qbm|apply qbf|apply qba|apply qa0|apply qal|apply qak|apply qat)<;>first|(apply qao;(repeat' first|assumption|exact qaa rfl|apply qaf rfl|apply qab);done)|exact qan _ _|exact qai _|exact qap _|exact qad|exact qag|exact qae|exact qac|exact qah _|exact qa4 _ (by omega)|exact qa3 (by omega)|exact qa5 (by omega)|exact rfl|assumption|apply qa6)|((first|apply qbl|apply qaz|apply qaj)<;>first|(apply qao;(repeat' first|assumption|exact qaa rfl|apply qaf rfl|apply qab);done)|exact qan _ _|exact qai _|exact qap _|exact qad|exact qag|exact qae|exact qac|exact qah _|exact qa4 _ (by omega)|exact qa3 (by omega)|exact qa5 (by omega)|exact rfl|assumption|apply qa6)|(apply qbk rfl rfl;(focus (repeat' first|assumption|exact qaa rfl|apply qaf rfl|apply qab);done))|(apply qb1 rfl rfl;(focus (repeat' first|assumption|exact qaa rfl|apply qaf rfl|apply qab);done);exact rfl)))
  apply O_box
  · (focus first|(apply qao;(repeat' first|assumption|exact qaa rfl|apply qaf rfl|apply qab);done)|exact qan _ _|exact qai _|exact qap _|exact qad|exact qag|exact qae|exact qac|exact qah _)
  · rfl
  intro g1 i1 k1 r1 l1 l2
  change Row g1 i1 0 _ (sltC s) true at r1
  replace r := r.keep k1
  replace o := o.keep k1
  (repeat (first|apply qbi|apply qa9|(apply qa7;dsimp only[qbc,List.map,Nat.reduceAdd])|apply qbj|apply qbd|apply qbe|apply qbn|apply qbp|apply qbo|apply qa1|apply qau|apply qbb|apply qas|apply qaq|apply qam rfl|apply qaw|apply qar|apply qax|apply qay|apply qa2|apply qav|((first|apply qa8|apply qbg|apply qbh|apply qbm|apply qbf|apply qba|apply qa0|apply qal|apply qak|apply qat)<;>first|(apply qao;(repeat' first|assumption|exact qaa rfl|apply qaf rfl|apply qab);done)|exact qan _ _|exact qai _|exact qap _|exact qad|exact qag|exact qae|exact qac|exact qah _|exact qa4 _ (by omega)|exact qa3 (by omega)|exact qa5 (by omega)|exact rfl|assumption|apply qa6)|((first|apply qbl|apply qaz|apply qaj)<;>first|(apply qao;(repeat' first|assumption|exact qaa rfl|apply qaf rfl|apply qab);done)|exact qan _ _|exact qai _|exact qap _|exact qad|exact qag|exact qae|exact qac|exact qah _|exact qa4 _ (by omega)|exact qa3 (by omega)|exact qa5 (by omega)|exact rfl|assumption|apply qa6)|(apply qbk rfl rfl;(focus (repeat' first|assumption|exact qaa rfl|apply qaf rfl|apply qab);done))|(apply qb1 rfl rfl;(focus (repeat' first|assumption|exact qaa rfl|apply qaf rfl|apply qab);done);exact rfl)))
  cases hv : (s.var == ([] : Str)) with
  | true =>
    (repeat (first|apply qbi|apply qa9|(apply qa7;dsimp only[qbc,List.map,Nat.reduceAdd])|apply qbj|apply qbd|apply qbe|apply qbn|apply qbp|apply qbo|apply qa1|apply qau|apply qbb|apply qas|apply qaq|apply qam rfl|apply qaw|apply qar|apply qax|apply qay|apply qa2|apply qav|((first|apply qa8|apply qbg|apply qbh|apply qbm|apply qbf|apply qba|apply qa0|apply qal|apply qak|apply qat)<;>first|(apply qao;(repeat' first|assumption|exact qaa rfl|apply qaf rfl|apply qab);done)|exact qan _ _|exact qai _|exact qap _|exact qad|exact qag|exact qae|exact qac|exact qah _|exact qa4 _ (by omega)|exact qa3 (by omega)|exact qa5 (by omega)|exact rfl|assumption|apply qa6)|((first|apply qbl|apply qaz|apply qaj)<;>first|(apply qao;(repeat' first|assumption|exact qaa rfl|apply qaf rfl|apply qab);done)|exact qan _ _|exact qai _|exact qap _|exact qad|exact qag|exact qae|exact qac|exact qah _|exact qa4 _ (by omega)|exact qa3 (by omega)|exact qa5 (by omega)|exact rfl|assumption|apply qa6)|(apply qbk rfl rfl;(focus (repeat' first|assumption|exact qaa rfl|apply qaf rfl|apply qab);done))|(apply qb1 rfl rfl;(focus (repeat' first|assumption|exact qaa rfl|apply qaf rfl|apply qab);done);exact rfl)))
    (apply qb5 rfl; (repeat' first|assumption|exact qaa rfl|apply qaf rfl|apply qab))
    simp [toldZ, hv, k1]
  | false =>
    (repeat (first|apply qbi|apply qa9|(apply qa7;dsimp only[qbc,List.map,Nat.reduceAdd])|apply qbj|apply qbd|apply qbe|apply qbn|apply qbp|apply qbo|apply qa1|apply qau|apply qbb|apply qas|apply qaq|apply qam rfl|apply qaw|apply qar|apply qax|apply qay|apply qa2|apply qav|((first|apply qa8|apply qbg|apply qbh|apply qbm|apply qbf|apply qba|apply qa0|apply qal|apply qak|apply qat)<;>first|(apply qao;(repeat' first|assumption|exact qaa rfl|apply qaf rfl|apply qab);done)|exact qan _ _|exact qai _|exact qap _|exact qad|exact qag|exact qae|exact qac|exact qah _|exact qa4 _ (by omega)|exact qa3 (by omega)|exact qa5 (by omega)|exact rfl|assumption|apply qa6)|((first|apply qbl|apply qaz|apply qaj)<;>first|(apply qao;(repeat' first|assumption|exact qaa rfl|apply qaf rfl|apply qab);done)|exact qan _ _|exact qai _|exact qap _|exact qad|exact qag|exact qae|exact qac|exact qah _|exact qa4 _ (by omega)|exact qa3 (by omega)|exact qa5 (by omega)|exact rfl|assumption|apply qa6)|(apply qbk rfl rfl;(focus (repeat' first|assumption|exact qaa rfl|apply qaf rfl|apply qab);done))|(apply qb1 rfl rfl;(focus (repeat' first|assumption|exact qaa rfl|apply qaf rfl|apply qab);done);exact rfl)))
    (apply qcl; (focus first|(apply qao;(repeat' first|assumption|exact qaa rfl|apply qaf rfl|apply qab);done)|exact qan _ _|exact qai _|exact qap _|exact qad|exact qag|exact qae|exact qac|exact qah _); (repeat (apply qbt; (focus first|(apply qao;(repeat' first|assumption|exact qaa rfl|apply qaf rfl|apply qab);done)|exact qan _ _|exact qai _|exact qap _|exact qad|exact qag|exact qae|exact qac|exact qah _))); exact qby)
    refine (contains_spec hs2 (by omega) o s.var hb).mono ?_
    rintro r g2 ⟨rfl, rfl⟩
    refine ⟨Undis.off rfl, ?_⟩
    (repeat (first|apply qbi|apply qa9|(apply qa7;dsimp only[qbc,List.map,Nat.reduceAdd])|apply qbj|apply qbd|apply qbe|apply qbn|apply qbp|apply qbo|apply qa1|apply qau|apply qbb|apply qas|apply qaq|apply qam rfl|apply qaw|apply qar|apply qax|apply qay|apply qa2|apply qav|((first|apply qa8|apply qbg|apply qbh|apply qbm|apply qbf|apply qba|apply qa0|apply qal|apply qak|apply qat)<;>first|(apply qao;(repeat' first|assumption|exact qaa rfl|apply qaf rfl|apply qab);done)|exact qan _ _|exact qai _|exact qap _|exact qad|exact qag|exact qae|exact qac|exact qah _|exact qa4 _ (by omega)|exact qa3 (by omega)|exact qa5 (by omega)|exact rfl|assumption|apply qa6)|((first|apply qbl|apply qaz|apply qaj)<;>first|(apply qao;(repeat' first|assumption|exact qaa rfl|apply qaf rfl|apply qab);done)|exact qan _ _|exact qai _|exact qap _|exact qad|exact qag|exact qae|exact qac|exact qah _|exact qa4 _ (by omega)|exact qa3 (by omega)|exact qa5 (by omega)|exact rfl|assumption|apply qa6)|(apply qbk rfl rfl;(focus (repeat' first|assumption|exact qaa rfl|apply qaf rfl|apply qab);done))|(apply qb1 rfl rfl;(focus (repeat' first|assumption|exact qaa rfl|apply qaf rfl|apply qab);done);exact rfl)))
    (apply qb5 rfl; (repeat' first|assumption|exact qaa rfl|apply qaf rfl|apply qab))
    simp [toldZ, hv, k1]

theorem of_spec (hs : sums 68 = none) {n : Nat} {h : Hp} {x : Sts} {lv : AV} (hn : x.lines.length + 2 ≤ n) (o : Rows linC 7 h lv x.lines) (hb : x.lines.length < 2 ^ 62) (p : Slt) :
    Runs (qci Try.prog pol sums n (.func (.func 68) [] []) [.agg (stsC x lv), .agg (sltC p)]) h (fun v h' => Keep h h' ∧ v = .agg (linC (ofZ x p))) := by
  apply Runs.wf
  intro w
  obtain ⟨n, rfl⟩ : ∃ m, n = m + 1 := ⟨n - 1, by omega⟩
  refine qc7 (by assumption) Try.func68 rfl (by simp [Try.f68]) ?_
  have a0 : qcc (qbw Try.f68.ntmps (([] ++ [.agg (stsC x lv), .agg (sltC p)] ++ []) : List AV)) 0 = .agg (stsC x lv) := qbu rfl
  have a1 : qcc (qbw Try.f68.ntmps (([] ++ [.agg (stsC x lv), .agg (sltC p)] ++ []) : List AV)) 1 = .agg (sltC p) := qbu rfl
  generalize qbw Try.f68.ntmps (([] ++ [.agg (stsC x lv), .agg (sltC p)] ++ []) : List AV) = T at *
  show Runs (qcd _ _ _ _ 32 _ _ _) _ _
  (repeat (first|apply qbi|apply qa9|(apply qa7;dsimp only[qbc,List.map,Nat.reduceAdd])|apply qbj|apply qbd|apply qbe|apply qbn|apply qbp|apply qbo|apply qa1|apply qau|apply qbb|apply qas|apply qaq|apply qam rfl|apply qaw|apply qar|apply qax|apply qay|apply qa2|apply qav|((first|apply qa8|apply qbg|apply qbh|apply qbm|apply qbf|apply qba|apply qa0|apply qal|apply qak|apply qat)<;>first|(apply qao;(repeat' first|assumption|exact qaa rfl|apply qaf rfl|apply qab);done)|exact qan _ _|exact qai _|exact qap _|exact qad|exact qag|exact qae|exact qac|exact qah _|exact qa4 _ (by omega)|exact qa3 (by omega)|exact qa5 (by omega)|exact rfl|assumption|apply qa6)|((first|apply qbl|apply qaz|apply qaj)<;>first|(apply qao;(repeat' first|assumption|exact qaa rfl|apply qaf rfl|apply qab);done)|exact qan _ _|exact qai _|exact qap _|exact qad|exact qag|exact qae|exact qac|exact qah _|exact qa4 _ (by omega)|exact qa3 (by omega)|exact qa5 (by omega)|exact rfl|assumption|apply qa6)|(apply qbk rfl rfl;(focus (repeat' first|assumption|exact qaa rfl|apply qaf rfl|apply qab);done))|(apply qb1 rfl rfl;(focus (repeat' first|assumption|exact qaa rfl|apply qaf rfl|apply qab);done);exact rfl)))
  apply O_box
  · (focus first|(apply qao;(repeat' first|assumption|exact qaa rfl|apply qaf rfl|apply qab);done)|exact qan _ _|exact qai _|exact qap _|exact qad|exact qag|exact qae|exact qac|exact qah _)
  · rfl
  intro g1 i1 k1 r1 l1 l2
  change Row g1 i1 0 _ (stsC x lv) true at r1
  apply O_box
  · (focus first|(apply qao;(repeat' first|assumption|exact qaa rfl|apply qaf rfl|apply qab);done)|exact qan _ _|exact qai _|exact qap _|exact qad|exact qag|exact qae|exact qac|exact qah _)
  · rfl
  intro g2 i2 k2 r2 l3 l4
  change Row g2 i2 0 _ (sltC p) true at r2
  apply O_alloc
  intro g3 i3 k3 r3 l5 l6
  replace r1 := (r1.keep k2).keep k3
  replace r2 := r2.keep k3
  have k := (k1.trans k2).trans k3
  have o3 := o.keep k
  apply O_wf
  intro w3
  (repeat (first|apply qbi|apply qa9|(apply qa7;dsimp only[qbc,List.map,Nat.reduceAdd])|apply qbj|apply qbd|apply qbe|apply qbn|apply qbp|apply qbo|apply qa1|apply qau|apply qbb|apply qas|apply qaq|apply qam rfl|apply qaw|apply qar|apply qax|apply qay|apply qa2|apply qav|((first|apply qa8|apply qbg|apply qbh|apply qbm|apply qbf|apply qba|apply qa0|apply qal|apply qak|apply qat)<;>first|(apply qao;(repeat' first|assumption|exact qaa rfl|apply qaf rfl|apply qab);done)|exact qan _ _|exact qai _|exact qap _|exact qad|exact qag|exact qae|exact qac|exact qah _|exact qa4 _ (by omega)|exact qa3 (by omega)|exact qa5 (by omega)|exact rfl|assumption|apply qa6)|((first|apply qbl|apply qaz|apply qaj)<;>first|(apply qao;(repeat' first|assumption|exact qaa rfl|apply qaf rfl|apply qab);done)|exact qan _ _|exact qai _|exact qap _|exact qad|exact qag|exact qae|exact qac|exact qah _|exact qa4 _ (by omega)|exact qa3 (by omega)|exact qa5 (by omega)|exact rfl|assumption|apply qa6)|(apply qbk rfl rfl;(focus (repeat' first|assumption|exact qaa rfl|apply qaf rfl|apply qab);done))|(apply qb1 rfl rfl;(focus (repeat' first|assumption|exact qaa rfl|apply qaf rfl|apply qab);done);exact rfl)))
  apply qcg (!(p.var == []))
  · (focus first|(apply qao;(repeat' first|assumption|exact qaa rfl|apply qaf rfl|apply qab);done)|exact qan _ _|exact qai _|exact qap _|exact qad|exact qag|exact qae|exact qac|exact qah _)
  · intro c
    have c : p.var ≠ [] := by simpa using c
    (repeat (first|apply qbi|apply qa9|(apply qa7;dsimp only[qbc,List.map,Nat.reduceAdd])|apply qbj|apply qbd|apply qbe|apply qbn|apply qbp|apply qbo|apply qa1|apply qau|apply qbb|apply qas|apply qaq|apply qam rfl|apply qaw|apply qar|apply qax|apply qay|apply qa2|apply qav|((first|apply qa8|apply qbg|apply qbh|apply qbm|apply qbf|apply qba|apply qa0|apply qal|apply qak|apply qat)<;>first|(apply qao;(repeat' first|assumption|exact qaa rfl|apply qaf rfl|apply qab);done)|exact qan _ _|exact qai _|exact qap _|exact qad|exact qag|exact qae|exact qac|exact qah _|exact qa4 _ (by omega)|exact qa3 (by omega)|exact qa5 (by omega)|exact rfl|assumption|apply qa6)|((first|apply qbl|apply qaz|apply qaj)<;>first|(apply qao;(repeat' first|assumption|exact qaa rfl|apply qaf rfl|apply qab);done)|exact qan _ _|exact qai _|exact qap _|exact qad|exact qag|exact qae|exact qac|exact qah _|exact qa4 _ (by omega)|exact qa3 (by omega)|exact qa5 (by omega)|exact rfl|assumption|apply qa6)|(apply qbk rfl rfl;(focus (repeat' first|assumption|exact qaa rfl|apply qaf rfl|apply qab);done))|(apply qb1 rfl rfl;(focus (repeat' first|assumption|exact qaa rfl|apply qaf rfl|apply qab);done);exact rfl)))
    apply O_build
    · exact qb8 (by (focus first|(apply qao;(repeat' first|assumption|exact qaa rfl|apply qaf rfl|apply qab);done)|exact qan _ _|exact qai _|exact qap _|exact qad|exact qag|exact qae|exact qac|exact qah _)) (qb8 (by (focus first|(apply qao;(repeat' first|assumption|exact qaa rfl|apply qaf rfl|apply qab);done)|exact qan _ _|exact qai _|exact qap _|exact qad|exact qag|exact qae|exact qac|exact qah _)) (qb8 (by (focus first|(apply qao;(repeat' first|assumption|exact qaa rfl|apply qaf rfl|apply qab);done)|exact qan _ _|exact qai _|exact qap _|exact qad|exact qag|exact qae|exact qac|exact qah _)) qcn))
    · rfl
    apply qcr
    · (focus first|(apply qao;(repeat' first|assumption|exact qaa rfl|apply qaf rfl|apply qab);done)|exact qan _ _|exact qai _|exact qap _|exact qad|exact qag|exact qae|exact qac|exact qah _)
    · (focus first|(apply qao;(repeat' first|assumption|exact qaa rfl|apply qaf rfl|apply qab);done)|exact qan _ _|exact qai _|exact qap _|exact qad|exact qag|exact qae|exact qac|exact qah _)
    · exact r3
    · rfl
    intro g4 kb r4
    refine ⟨Undis.off rfl, ?_⟩
    (repeat (first|apply qbi|apply qa9|(apply qa7;dsimp only[qbc,List.map,Nat.reduceAdd])|apply qbj|apply qbd|apply qbe|apply qbn|apply qbp|apply qbo|apply qa1|apply qau|apply qbb|apply qas|apply qaq|apply qam rfl|apply qaw|apply qar|apply qax|apply qay|apply qa2|apply qav|((first|apply qa8|apply qbg|apply qbh|apply qbm|apply qbf|apply qba|apply qa0|apply qal|apply qak|apply qat)<;>first|(apply qao;(repeat' first|assumption|exact qaa rfl|apply qaf rfl|apply qab);done)|exact qan _ _|exact qai _|exact qap _|exact qad|exact qag|exact qae|exact qac|exact qah _|exact qa4 _ (by omega)|exact qa3 (by omega)|exact qa5 (by omega)|exact rfl|assumption|apply qa6)|((first|apply qbl|apply qaz|apply qaj)<;>first|(apply qao;(repeat' first|assumption|exact qaa rfl|apply qaf rfl|apply qab);done)|exact qan _ _|exact qai _|exact qap _|exact qad|exact qag|exact qae|exact qac|exact qah _|exact qa4 _ (by omega)|exact qa3 (by omega)|exact qa5 (by omega)|exact rfl|assumption|apply qa6)|(apply qbk rfl rfl;(focus (repeat' first|assumption|exact qaa rfl|apply qaf rfl|apply qab);done))|(apply qb1 rfl rfl;(focus (repeat' first|assumption|exact qaa rfl|apply qaf rfl|apply qab);done);exact rfl)))
    apply R_res_agg rfl
    · (repeat' first|assumption|exact qaa rfl|apply qaf rfl|apply qab)
    · exact r4
    · rfl
    · rfl
    refine ⟨KeepBut.keep k kb fun i hi => w.get (by have := k1.next; have := k2.next; omega), ?_⟩
    simp [ofZ, c, noTrm, splice, acells]
  · intro c
    have c : p.var = [] := by simpa using c
    (repeat (first|apply qbi|apply qa9|(apply qa7;dsimp only[qbc,List.map,Nat.reduceAdd])|apply qbj|apply qbd|apply qbe|apply qbn|apply qbp|apply qbo|apply qa1|apply qau|apply qbb|apply qas|apply qaq|apply qam rfl|apply qaw|apply qar|apply qax|apply qay|apply qa2|apply qav|((first|apply qa8|apply qbg|apply qbh|apply qbm|apply qbf|apply qba|apply qa0|apply qal|apply qak|apply qat)<;>first|(apply qao;(repeat' first|assumption|exact qaa rfl|apply qaf rfl|apply qab);done)|exact qan _ _|exact qai _|exact qap _|exact qad|exact qag|exact qae|exact qac|exact qah _|exact qa4 _ (by omega)|exact qa3 (by omega)|exact qa5 (by omega)|exact rfl|assumption|apply qa6)|((first|apply qbl|apply qaz|apply qaj)<;>first|(apply qao;(repeat' first|assumption|exact qaa rfl|apply qaf rfl|apply qab);done)|exact qan _ _|exact qai _|exact qap _|exact qad|exact qag|exact qae|exact qac|exact qah _|exact qa4 _ (by omega)|exact qa3 (by omega)|exact qa5 (by omega)|exact rfl|assumption|apply qa6)|(apply qbk rfl rfl;(focus (repeat' first|assumption|exact qaa rfl|apply qaf rfl|apply qab);done))|(apply qb1 rfl rfl;(focus (repeat' first|assumption|exact qaa rfl|apply qaf rfl|apply qab);done);exact rfl)))
    apply R_loop (k := x.lines.length) (I := fun k T g => ∃ i, k = x.lines.length - i ∧ i ≤ x.lines.length ∧ qcc T 3 = .ptr i2 0 0 ∧ qcc T 4 = .ptr i3 0 0 ∧ qcc T 18 = lv ∧ qcc T 19 = .int .i64 (x.lines.length : Nat) ∧ qcc T 20 = .int .i64 (i : Nat) ∧
      Keep g3 g ∧ ∀ l ∈ x.lines.take i, l.term ≠ p.term)
    · omega
    · exact ⟨0, by omega, by omega, by (repeat' first|assumption|exact qaa rfl|apply qaf rfl|apply qab), by (repeat' first|assumption|exact qaa rfl|apply qaf rfl|apply qab), by (repeat' first|assumption|exact qaa rfl|apply qaf rfl|apply qab), by (repeat' first|assumption|exact qaa rfl|apply qaf rfl|apply qab), by (repeat' first|assumption|exact qaa rfl|apply qaf rfl|apply qab), Keep.refl _, by simp⟩
    · rintro k' T g ⟨i, rfl, hi, t3, t4, t18, t19, t20, kq, hall⟩
      (repeat (first|apply qbi|apply qa9|(apply qa7;dsimp only[qbc,List.map,Nat.reduceAdd])|apply qbj|apply qbd|apply qbe|apply qbn|apply qbp|apply qbo|apply qa1|apply qau|apply qbb|apply qas|apply qaq|apply qam rfl|apply qaw|apply qar|apply qax|apply qay|apply qa2|apply qav|((first|apply qa8|apply qbg|apply qbh|apply qbm|apply qbf|apply qba|apply qa0|apply qal|apply qak|apply qat)<;>first|(apply qao;(repeat' first|assumption|exact qaa rfl|apply qaf rfl|apply qab);done)|exact qan _ _|exact qai _|exact qap _|exact qad|exact qag|exact qae|exact qac|exact qah _|exact qa4 _ (by omega)|exact qa3 (by omega)|exact qa5 (by omega)|exact rfl|assumption|apply qa6)|((first|apply qbl|apply qaz|apply qaj)<;>first|(apply qao;(repeat' first|assumption|exact qaa rfl|apply qaf rfl|apply qab);done)|exact qan _ _|exact qai _|exact qap _|exact qad|exact qag|exact qae|exact qac|exact qah _|exact qa4 _ (by omega)|exact qa3 (by omega)|exact qa5 (by omega)|exact rfl|assumption|apply qa6)|(apply qbk rfl rfl;(focus (repeat' first|assumption|exact qaa rfl|apply qaf rfl|apply qab);done))|(apply qb1 rfl rfl;(focus (repeat' first|assumption|exact qaa rfl|apply qaf rfl|apply qab);done);exact rfl)))
      apply qcg (decide ((i : Int) < (x.lines.length : Int)))
      · (focus first|(apply qao;(repeat' first|assumption|exact qaa rfl|apply qaf rfl|apply qab);done)|exact qan _ _|exact qai _|exact qap _|exact qad|exact qag|exact qae|exact qac|exact qah _)
      · intro cc
        have hlt : i < x.lines.length := by simpa using cc
        have q2 := r2.keep kq
        have q3 := r3.keep kq
        (repeat (first|apply qbi|apply qa9|(apply qa7;dsimp only[qbc,List.map,Nat.reduceAdd])|apply qbj|apply qbd|apply qbe|apply qbn|apply qbp|apply qbo|apply qa1|apply qau|apply qbb|apply qas|apply qaq|apply qam rfl|apply qaw|apply qar|apply qax|apply qay|apply qa2|apply qav|((first|apply qa8|apply qbg|apply qbh|apply qbm|apply qbf|apply qba|apply qa0|apply qal|apply qak|apply qat)<;>first|(apply qao;(repeat' first|assumption|exact qaa rfl|apply qaf rfl|apply qab);done)|exact qan _ _|exact qai _|exact qap _|exact qad|exact qag|exact qae|exact qac|exact qah _|exact qa4 _ (by omega)|exact qa3 (by omega)|exact qa5 (by omega)|exact rfl|assumption|apply qa6)|((first|apply qbl|apply qaz|apply qaj)<;>first|(apply qao;(repeat' first|assumption|exact qaa rfl|apply qaf rfl|apply qab);done)|exact qan _ _|exact qai _|exact qap _|exact qad|exact qag|exact qae|exact qac|exact qah _|exact qa4 _ (by omega)|exact qa3 (by omega)|exact qa5 (by omega)|exact rfl|assumption|apply qa6)|(apply qbk rfl rfl;(focus (repeat' first|assumption|exact qaa rfl|apply qaf rfl|apply qab);done))|(apply qb1 rfl rfl;(focus (repeat' first|assumption|exact qaa rfl|apply qaf rfl|apply qab);done);exact rfl)))
        apply qca
        · (focus first|(apply qao;(repeat' first|assumption|exact qaa rfl|apply qaf rfl|apply qab);done)|exact qan _ _|exact qai _|exact qap _|exact qad|exact qag|exact qae|exact qac|exact qah _)
        · exact o3.keep kq
        · (focus first|(apply qao;(repeat' first|assumption|exact qaa rfl|apply qaf rfl|apply qab);done)|exact qan _ _|exact qai _|exact qap _|exact qad|exact qag|exact qae|exact qac|exact qah _)
        · omega
        · rfl
        intro a ha _
        rw [flat_at linC_len hlt] at ha
        have hst : x.lines.take (i + 1) = x.lines.take i ++ [x.lines[i]] := List.take_succ_eq_append_getElem hlt
        have hdr : x.lines = x.lines.take i ++ x.lines[i] :: x.lines.drop (i + 1) := by rw [← List.drop_eq_getElem_cons hlt, List.take_append_drop]
        generalize x.lines[i] = l at ha hst hdr
        apply O_load_agg
        · (focus first|(apply qao;(repeat' first|assumption|exact qaa rfl|apply qaf rfl|apply qab);done)|exact qan _ _|exact qai _|exact qap _|exact qad|exact qag|exact qae|exact qac|exact qah _)
        · exact ha
        · rfl
        apply O_wf
        intro wg
        apply O_alloc
        intro g5 j k5 r5 lj1 lj2
        apply qcr
        · (focus first|(apply qao;(repeat' first|assumption|exact qaa rfl|apply qaf rfl|apply qab);done)|exact qan _ _|exact qai _|exact qap _|exact qad|exact qag|exact qae|exact qac|exact qah _)
        · (focus first|(apply qao;(repeat' first|assumption|exact qaa rfl|apply qaf rfl|apply qab);done)|exact qan _ _|exact qai _|exact qap _|exact qad|exact qag|exact qae|exact qac|exact qah _)
        · exact r5
        · rfl
        intro g6 kb6 r6
        refine ⟨Undis.off rfl, ?_⟩
        change Row g6 j 0 _ (linC l) true at r6
        have k6 : Keep g g6 := KeepBut.keep k5 kb6 fun i hi => wg.get (by omega)
        replace q2 := q2.keep k6
        replace q3 := q3.keep k6
        (repeat (first|apply qbi|apply qa9|(apply qa7;dsimp only[qbc,List.map,Nat.reduceAdd])|apply qbj|apply qbd|apply qbe|apply qbn|apply qbp|apply qbo|apply qa1|apply qau|apply qbb|apply qas|apply qaq|apply qam rfl|apply qaw|apply qar|apply qax|apply qay|apply qa2|apply qav|((first|apply qa8|apply qbg|apply qbh|apply qbm|apply qbf|apply qba|apply qa0|apply qal|apply qak|apply qat)<;>first|(apply qao;(repeat' first|assumption|exact qaa rfl|apply qaf rfl|apply qab);done)|exact qan _ _|exact qai _|exact qap _|exact qad|exact qag|exact qae|exact qac|exact qah _|exact qa4 _ (by omega)|exact qa3 (by omega)|exact qa5 (by omega)|exact rfl|assumption|apply qa6)|((first|apply qbl|apply qaz|apply qaj)<;>first|(apply qao;(repeat' first|assumption|exact qaa rfl|apply qaf rfl|apply qab);done)|exact qan _ _|exact qai _|exact qap _|exact qad|exact qag|exact qae|exact qac|exact qah _|exact qa4 _ (by omega)|exact qa3 (by omega)|exact qa5 (by omega)|exact rfl|assumption|apply qa6)|(apply qbk rfl rfl;(focus (repeat' first|assumption|exact qaa rfl|apply qaf rfl|apply qab);done))|(apply qb1 rfl rfl;(focus (repeat' first|assumption|exact qaa rfl|apply qaf rfl|apply qab);done);exact rfl)))
        apply qb2 (n := 4)
        · (focus first|(apply qao;(repeat' first|assumption|exact qaa rfl|apply qaf rfl|apply qab);done)|exact qan _ _|exact qai _|exact qap _|exact qad|exact qag|exact qae|exact qac|exact qah _)
        · exact r6
        · rfl
        · exact rfl
        (repeat (first|apply qbi|apply qa9|(apply qa7;dsimp only[qbc,List.map,Nat.reduceAdd])|apply qbj|apply qbd|apply qbe|apply qbn|apply qbp|apply qbo|apply qa1|apply qau|apply qbb|apply qas|apply qaq|apply qam rfl|apply qaw|apply qar|apply qax|apply qay|apply qa2|apply qav|((first|apply qa8|apply qbg|apply qbh|apply qbm|apply qbf|apply qba|apply qa0|apply qal|apply qak|apply qat)<;>first|(apply qao;(repeat' first|assumption|exact qaa rfl|apply qaf rfl|apply qab);done)|exact qan _ _|exact qai _|exact qap _|exact qad|exact qag|exact qae|exact qac|exact qah _|exact qa4 _ (by omega)|exact qa3 (by omega)|exact qa5 (by omega)|exact rfl|assumption|apply qa6)|((first|apply qbl|apply qaz|apply qaj)<;>first|(apply qao;(repeat' first|assumption|exact qaa rfl|apply qaf rfl|apply qab);done)|exact qan _ _|exact qai _|exact qap _|exact qad|exact qag|exact qae|exact qac|exact qah _|exact qa4 _ (by omega)|exact qa3 (by omega)|exact qa5 (by omega)|exact rfl|assumption|apply qa6)|(apply qbk rfl rfl;(focus (repeat' first|assumption|exact qaa rfl|apply qaf rfl|apply qab);done))|(apply qb1 rfl rfl;(focus (repeat' first|assumption|exact qaa rfl|apply qaf rfl|apply qab);done);exact rfl)))
        apply qb2 (n := 4)
        · (focus first|(apply qao;(repeat' first|assumption|exact qaa rfl|apply qaf rfl|apply qab);done)|exact qan _ _|exact qai _|exact qap _|exact qad|exact qag|exact qae|exact qac|exact qah _)
        · exact q2
        · rfl
        · exact rfl
        apply O_bin (X := .agg (trmC l.term)) (Y := .agg (trmC p.term))
        · (focus first|(apply qao;(repeat' first|assumption|exact qaa rfl|apply qaf rfl|apply qab);done)|exact qan _ _|exact qai _|exact qap _|exact qad|exact qag|exact qae|exact qac|exact qah _)
        · (focus first|(apply qao;(repeat' first|assumption|exact qaa rfl|apply qaf rfl|apply qab);done)|exact qan _ _|exact qai _|exact qap _|exact qad|exact qag|exact qae|exact qac|exact qah _)
        · rfl
        · exact trm_eql _ _
        (repeat (first|apply qbi|apply qa9|(apply qa7;dsimp only[qbc,List.map,Nat.reduceAdd])|apply qbj|apply qbd|apply qbe|apply qbn|apply qbp|apply qbo|apply qa1|apply qau|apply qbb|apply qas|apply qaq|apply qam rfl|apply qaw|apply qar|apply qax|apply qay|apply qa2|apply qav|((first|apply qa8|apply qbg|apply qbh|apply qbm|apply qbf|apply qba|apply qa0|apply qal|apply qak|apply qat)<;>first|(apply qao;(repeat' first|assumption|exact qaa rfl|apply qaf rfl|apply qab);done)|exact qan _ _|exact qai _|exact qap _|exact qad|exact qag|exact qae|exact qac|exact qah _|exact qa4 _ (by omega)|exact qa3 (by omega)|exact qa5 (by omega)|exact rfl|assumption|apply qa6)|((first|apply qbl|apply qaz|apply qaj)<;>first|(apply qao;(repeat' first|assumption|exact qaa rfl|apply qaf rfl|apply qab);done)|exact qan _ _|exact qai _|exact qap _|exact qad|exact qag|exact qae|exact qac|exact qah _|exact qa4 _ (by omega)|exact qa3 (by omega)|exact qa5 (by omega)|exact rfl|assumption|apply qa6)|(apply qbk rfl rfl;(focus (repeat' first|assumption|exact qaa rfl|apply qaf rfl|apply qab);done))|(apply qb1 rfl rfl;(focus (repeat' first|assumption|exact qaa rfl|apply qaf rfl|apply qab);done);exact rfl)))
        apply qcg (decide (l.term = p.term))
        · (focus first|(apply qao;(repeat' first|assumption|exact qaa rfl|apply qaf rfl|apply qab);done)|exact qan _ _|exact qai _|exact qap _|exact qad|exact qag|exact qae|exact qac|exact qah _)
        · intro e
          have e : l.term = p.term := by simpa using e
          (repeat (first|apply qbi|apply qa9|(apply qa7;dsimp only[qbc,List.map,Nat.reduceAdd])|apply qbj|apply qbd|apply qbe|apply qbn|apply qbp|apply qbo|apply qa1|apply qau|apply qbb|apply qas|apply qaq|apply qam rfl|apply qaw|apply qar|apply qax|apply qay|apply qa2|apply qav|((first|apply qa8|apply qbg|apply qbh|apply qbm|apply qbf|apply qba|apply qa0|apply qal|apply qak|apply qat)<;>first|(apply qao;(repeat' first|assumption|exact qaa rfl|apply qaf rfl|apply qab);done)|exact qan _ _|exact qai _|exact qap _|exact qad|exact qag|exact qae|exact qac|exact qah _|exact qa4 _ (by omega)|exact qa3 (by omega)|exact qa5 (by omega)|exact rfl|assumption|apply qa6)|((first|apply qbl|apply qaz|apply qaj)<;>first|(apply qao;(repeat' first|assumption|exact qaa rfl|apply qaf rfl|apply qab);done)|exact qan _ _|exact qai _|exact qap _|exact qad|exact qag|exact qae|exact qac|exact qah _|exact qa4 _ (by omega)|exact qa3 (by omega)|exact qa5 (by omega)|exact rfl|assumption|apply qa6)|(apply qbk rfl rfl;(focus (repeat' first|assumption|exact qaa rfl|apply qaf rfl|apply qab);done))|(apply qb1 rfl rfl;(focus (repeat' first|assumption|exact qaa rfl|apply qaf rfl|apply qab);done);exact rfl)))
          apply qb2 (n := 7)
          · (focus first|(apply qao;(repeat' first|assumption|exact qaa rfl|apply qaf rfl|apply qab);done)|exact qan _ _|exact qai _|exact qap _|exact qad|exact qag|exact qae|exact qac|exact qah _)
          · exact r6
          · rfl
          · exact rfl
          apply qcr
          · (focus first|(apply qao;(repeat' first|assumption|exact qaa rfl|apply qaf rfl|apply qab);done)|exact qan _ _|exact qai _|exact qap _|exact qad|exact qag|exact qae|exact qac|exact qah _)
          · (focus first|(apply qao;(repeat' first|assumption|exact qaa rfl|apply qaf rfl|apply qab);done)|exact qan _ _|exact qai _|exact qap _|exact qad|exact qag|exact qae|exact qac|exact qah _)
          · exact q3
          · rfl
          intro g7 kb7 r7
          refine ⟨Undis.off rfl, ?_⟩
          (repeat (first|apply qbi|apply qa9|(apply qa7;dsimp only[qbc,List.map,Nat.reduceAdd])|apply qbj|apply qbd|apply qbe|apply qbn|apply qbp|apply qbo|apply qa1|apply qau|apply qbb|apply qas|apply qaq|apply qam rfl|apply qaw|apply qar|apply qax|apply qay|apply qa2|apply qav|((first|apply qa8|apply qbg|apply qbh|apply qbm|apply qbf|apply qba|apply qa0|apply qal|apply qak|apply qat)<;>first|(apply qao;(repeat' first|assumption|exact qaa rfl|apply qaf rfl|apply qab);done)|exact qan _ _|exact qai _|exact qap _|exact qad|exact qag|exact qae|exact qac|exact qah _|exact qa4 _ (by omega)|exact qa3 (by omega)|exact qa5 (by omega)|exact rfl|assumption|apply qa6)|((first|apply qbl|apply qaz|apply qaj)<;>first|(apply qao;(repeat' first|assumption|exact qaa rfl|apply qaf rfl|apply qab);done)|exact qan _ _|exact qai _|exact qap _|exact qad|exact qag|exact qae|exact qac|exact qah _|exact qa4 _ (by omega)|exact qa3 (by omega)|exact qa5 (by omega)|exact rfl|assumption|apply qa6)|(apply qbk rfl rfl;(focus (repeat' first|assumption|exact qaa rfl|apply qaf rfl|apply qab);done))|(apply qb1 rfl rfl;(focus (repeat' first|assumption|exact qaa rfl|apply qaf rfl|apply qab);done);exact rfl)))
          apply R_res_agg rfl
          · (repeat' first|assumption|exact qaa rfl|apply qaf rfl|apply qab)
          · exact r7
          · rfl
          · rfl
          refine ⟨KeepBut.keep ((k.trans kq).trans k6) kb7 fun i hi => w.get (by have := k1.next; have := k2.next; omega), ?_⟩
          have hf : x.lines.find? (fun l => decide (l.term = p.term)) = some l := by
            rw [hdr, List.find?_append, List.find?_eq_none.2 (fun y hy => by simpa using hall y hy)]
            simp [e]
          simp [ofZ, c, hf, splice, acells]
        · intro e
          have e : l.term ≠ p.term := by simpa using e
          (repeat (first|apply qbi|apply qa9|(apply qa7;dsimp only[qbc,List.map,Nat.reduceAdd])|apply qbj|apply qbd|apply qbe|apply qbn|apply qbp|apply qbo|apply qa1|apply qau|apply qbb|apply qas|apply qaq|apply qam rfl|apply qaw|apply qar|apply qax|apply qay|apply qa2|apply qav|((first|apply qa8|apply qbg|apply qbh|apply qbm|apply qbf|apply qba|apply qa0|apply qal|apply qak|apply qat)<;>first|(apply qao;(repeat' first|assumption|exact qaa rfl|apply qaf rfl|apply qab);done)|exact qan _ _|exact qai _|exact qap _|exact qad|exact qag|exact qae|exact qac|exact qah _|exact qa4 _ (by omega)|exact qa3 (by omega)|exact qa5 (by omega)|exact rfl|assumption|apply qa6)|((first|apply qbl|apply qaz|apply qaj)<;>first|(apply qao;(repeat' first|assumption|exact qaa rfl|apply qaf rfl|apply qab);done)|exact qan _ _|exact qai _|exact qap _|exact qad|exact qag|exact qae|exact qac|exact qah _|exact qa4 _ (by omega)|exact qa3 (by omega)|exact qa5 (by omega)|exact rfl|assumption|apply qa6)|(apply qbk rfl rfl;(focus (repeat' first|assumption|exact qaa rfl|apply qaf rfl|apply qab);done))|(apply qb1 rfl rfl;(focus (repeat' first|assumption|exact qaa rfl|apply qaf rfl|apply qab);done);exact rfl)))
          apply K_loop (x.lines.length - (i + 1)) (by omega)
          refine ⟨i + 1, rfl, by omega, by (repeat' first|assumption|exact qaa rfl|apply qaf rfl|apply qab), by (repeat' first|assumption|exact qaa rfl|apply qaf rfl|apply qab), by (repeat' first|assumption|exact qaa rfl|apply qaf rfl|apply qab), by (repeat' first|assumption|exact qaa rfl|apply qaf rfl|apply qab), by (repeat' first|assumption|exact qaa rfl|apply qaf rfl|apply qab), kq.trans k6, ?_⟩
          rw [hst]
          intro y hy
          rcases List.mem_append.1 hy with hy | hy
          · exact hall y hy
          · simp at hy; subst hy; exact e
      · intro cc
        have : i = x.lines.length := by have : ¬ i < x.lines.length := by simpa using cc
                                        omega
        subst this
        rw [List.take_length] at hall
        (repeat (first|apply qbi|apply qa9|(apply qa7;dsimp only[qbc,List.map,Nat.reduceAdd])|apply qbj|apply qbd|apply qbe|apply qbn|apply qbp|apply qbo|apply qa1|apply qau|apply qbb|apply qas|apply qaq|apply qam rfl|apply qaw|apply qar|apply qax|apply qay|apply qa2|apply qav|((first|apply qa8|apply qbg|apply qbh|apply qbm|apply qbf|apply qba|apply qa0|apply qal|apply qak|apply qat)<;>first|(apply qao;(repeat' first|assumption|exact qaa rfl|apply qaf rfl|apply qab);done)|exact qan _ _|exact qai _|exact qap _|exact qad|exact qag|exact qae|exact qac|exact qah _|exact qa4 _ (by omega)|exact qa3 (by omega)|exact qa5 (by omega)|exact rfl|assumption|apply qa6)|((first|apply qbl|apply qaz|apply qaj)<;>first|(apply qao;(repeat' first|assumption|exact qaa rfl|apply qaf rfl|apply qab);done)|exact qan _ _|exact qai _|exact qap _|exact qad|exact qag|exact qae|exact qac|exact qah _|exact qa4 _ (by omega)|exact qa3 (by omega)|exact qa5 (by omega)|exact rfl|assumption|apply qa6)|(apply qbk rfl rfl;(focus (repeat' first|assumption|exact qaa rfl|apply qaf rfl|apply qab);done))|(apply qb1 rfl rfl;(focus (repeat' first|assumption|exact qaa rfl|apply qaf rfl|apply qab);done);exact rfl)))
        apply O_build
        · exact qcn
        · rfl
        apply qcr
        · (focus first|(apply qao;(repeat' first|assumption|exact qaa rfl|apply qaf rfl|apply qab);done)|exact qan _ _|exact qai _|exact qap _|exact qad|exact qag|exact qae|exact qac|exact qah _)
        · (focus first|(apply qao;(repeat' first|assumption|exact qaa rfl|apply qaf rfl|apply qab);done)|exact qan _ _|exact qai _|exact qap _|exact qad|exact qag|exact qae|exact qac|exact qah _)
        · exact r3.keep kq
        · rfl
        intro g7 kb7 r7
        refine ⟨Undis.off rfl, ?_⟩
        (repeat (first|apply qbi|apply qa9|(apply qa7;dsimp only[qbc,List.map,Nat.reduceAdd])|apply qbj|apply qbd|apply qbe|apply qbn|apply qbp|apply qbo|apply qa1|apply qau|apply qbb|apply qas|apply qaq|apply qam rfl|apply qaw|apply qar|apply qax|apply qay|apply qa2|apply qav|((first|apply qa8|apply qbg|apply qbh|apply qbm|apply qbf|apply qba|apply qa0|apply qal|apply qak|apply qat)<;>first|(apply qao;(repeat' first|assumption|exact qaa rfl|apply qaf rfl|apply qab);done)|exact qan _ _|exact qai _|exact qap _|exact qad|exact qag|exact qae|exact qac|exact qah _|exact qa4 _ (by omega)|exact qa3 (by omega)|exact qa5 (by omega)|exact rfl|assumption|apply qa6)|((first|apply qbl|apply qaz|apply qaj)<;>first|(apply qao;(repeat' first|assumption|exact qaa rfl|apply qaf rfl|apply qab);done)|exact qan _ _|exact qai _|exact qap _|exact qad|exact qag|exact qae|exact qac|exact qah _|exact qa4 _ (by omega)|exact qa3 (by omega)|exact qa5 (by omega)|exact rfl|assumption|apply qa6)|(apply qbk rfl rfl;(focus (repeat' first|assumption|exact qaa rfl|apply qaf rfl|apply qab);done))|(apply qb1 rfl rfl;(focus (repeat' first|assumption|exact qaa rfl|apply qaf rfl|apply qab);done);exact rfl)))
        apply R_res_agg rfl
        · (repeat' first|assumption|exact qaa rfl|apply qaf rfl|apply qab)
        · exact r7
        · rfl
        · rfl
        refine ⟨KeepBut.keep (k.trans kq) kb7 fun i hi => w.get (by have := k1.next; have := k2.next; omega), ?_⟩
        have hf : x.lines.find? (fun l => decide (l.term = p.term)) = none := List.find?_eq_none.2 (fun y hy => by simpa using hall y hy)
        simp [ofZ, c, hf, splice, acells, noLin, noTrm]
end Go.Am
namespace Go.Am
open Go Go.Proofs AM
set_option maxRecDepth 10000
variable {pol : Pol} {sums : Sums}
attribute [local irreducible] KSeq KMid KBlock KLoop KOps KFunc Runs qcs qcd aopsM aop qci qcc qcx qcx? qbz qck qbw

theorem Names.acells {h : Hp} {v : AV} {l : List Str} (o : Names h v l) : acells v = [v] := by
  rcases o with o | rfl
  · exact o.acells
  · rfl
theorem Names.known {h : Hp} {v : AV} {l : List Str} (o : Names h v l) : known v = true := by
  rcases o with o | rfl
  · exact o.known
  · rfl

def GSt (h : Hp) (i1 i2 i3 i5 : Nat) (x : Sts) (lv nv : AV) (p : Ptn) (known : List Str) (L : Lin) (m : Int) (T : qb7) (g : Hp) : Prop :=
  Keep h g ∧ Row g i1 0 5 (stsC x lv) true ∧ Row g i2 0 15 (ptnC p) true ∧ Row g i3 0 1 [nv] true ∧ Row g i5 0 7 (linC L) true ∧ Names g nv known ∧ qcc T 3 = .ptr i1 0 0 ∧ qcc T 4 = .ptr i2 0 0 ∧ qcc T 7 = .func (.func 66) [] [.ptr i3 0 0] ∧ qcc T 8 = .ptr i5 0 0 ∧ qcc T 9 = .int .i64 m
theorem guess_spec (hs : sums 51 = none) (hs1 : sums 66 = none) (hs2 : sums 67 = some qcq) (hs3 : sums 68 = none) (hs4 : sums 69 = none) {n : Nat} {h : Hp} {x : Sts} {lv nv : AV} {known : List Str} (hn : x.lines.length + 4 ≤ n) (o : Rows linC 7 h lv x.lines) (on : Names h nv known) (hb : x.lines.length < 2 ^ 62) (hb2 : known.length < 2 ^ 62) (p : Ptn) :
    Runs (qci Try.prog pol sums n (.func (.func 51) [] []) [.agg (stsC x lv), .agg (ptnC p), nv]) h (fun v h' => Keep h h' ∧ v = .int .i64 (guessZ x p known)) := by
  apply Runs.wf
  intro w
  obtain ⟨n, rfl⟩ : ∃ m, n = m + 1 := ⟨n - 1, by omega⟩
  refine qc7 (by assumption) Try.func51 rfl (by simp [Try.f51]) ?_
  have a0 : qcc (qbw Try.f51.ntmps (([] ++ [.agg (stsC x lv), .agg (ptnC p), nv] ++ []) : List AV)) 0 = .agg (stsC x lv) := qbu rfl
  have a1 : qcc (qbw Try.f51.ntmps (([] ++ [.agg (stsC x lv), .agg (ptnC p), nv] ++ []) : List AV)) 1 = .agg (ptnC p) := qbu rfl
  have a2 : qcc (qbw Try.f51.ntmps (([] ++ [.agg (stsC x lv), .agg (ptnC p), nv] ++ []) : List AV)) 2 = nv := qbu rfl
  generalize qbw Try.f51.ntmps (([] ++ [.agg (stsC x lv), .agg (ptnC p), nv] ++ []) : List AV) = T at *
  show Runs (qcd _ _ _ _ 48 _ _ _) _ _
  (repeat (first|apply qbi|apply qa9|(apply qa7;dsimp only[qbc,List.map,Nat.reduceAdd])|apply qbj|apply qbd|apply qbe|apply qbn|apply qbp|apply qbo|apply qa1|apply qau|apply qbb|apply qas|apply qaq|apply qam rfl|apply qaw|apply qar|apply qax|apply qay|apply qa2|apply qav|((first|apply qa8|apply qbg|apply qbh|apply qbm|apply qbf|apply qba|apply qa0|apply qal|apply qak|apply qat)<;>first|(apply qao;(repeat' first|assumption|exact qaa rfl|apply qaf rfl|apply qab);done)|exact qan _ _|exact qai _|exact qap _|exact qad|exact qag|exact qae|exact qac|exact qah _|exact qa4 _ (by omega)|exact qa3 (by omega)|exact qa5 (by omega)|exact rfl|assumption|apply qa6)|((first|apply qbl|apply qaz|apply qaj)<;>first|(apply qao;(repeat' first|assumption|exact qaa rfl|apply qaf rfl|apply qab);done)|exact qan _ _|exact qai _|exact qap _|exact qad|exact qag|exact qae|exact qac|exact qah _|exact qa4 _ (by omega)|exact qa3 (by omega)|exact qa5 (by omega)|exact rfl|assumption|apply qa6)|(apply qbk rfl rfl;(focus (repeat' first|assumption|exact qaa rfl|apply qaf rfl|apply qab);done))|(apply qb1 rfl rfl;(focus (repeat' first|assumption|exact qaa rfl|apply qaf rfl|apply qab);done);exact rfl)))
  apply O_box
  · (focus first|(apply qao;(repeat' first|assumption|exact qaa rfl|apply qaf rfl|apply qab);done)|exact qan _ _|exact qai _|exact qap _|exact qad|exact qag|exact qae|exact qac|exact qah _)
  · rfl
  intro g1 i1 k1 r1 l1 l2
  change Row g1 i1 0 _ (stsC x lv) true at r1
  apply O_box
  · (focus first|(apply qao;(repeat' first|assumption|exact qaa rfl|apply qaf rfl|apply qab);done)|exact qan _ _|exact qai _|exact qap _|exact qad|exact qag|exact qae|exact qac|exact qah _)
  · rfl
  intro g2 i2 k2 r2 l3 l4
  change Row g2 i2 0 _ (ptnC p) true at r2
  apply O_box
  · (focus first|(apply qao;(repeat' first|assumption|exact qaa rfl|apply qaf rfl|apply qab);done)|exact qan _ _|exact qai _|exact qap _|exact qad|exact qag|exact qae|exact qac|exact qah _)
  · exact on.known
  intro g3 i3 k3 r3 l5 l6
  rw [on.acells] at r3
  replace r1 := (r1.keep k2).keep k3
  replace r2 := r2.keep k3
  have k := (k1.trans k2).trans k3
  have o3 := o.keep k
  have on3 := on.keep k
  (repeat (first|apply qbi|apply qa9|(apply qa7;dsimp only[qbc,List.map,Nat.reduceAdd])|apply qbj|apply qbd|apply qbe|apply qbn|apply qbp|apply qbo|apply qa1|apply qau|apply qbb|apply qas|apply qaq|apply qam rfl|apply qaw|apply qar|apply qax|apply qay|apply qa2|apply qav|((first|apply qa8|apply qbg|apply qbh|apply qbm|apply qbf|apply qba|apply qa0|apply qal|apply qak|apply qat)<;>first|(apply qao;(repeat' first|assumption|exact qaa rfl|apply qaf rfl|apply qab);done)|exact qan _ _|exact qai _|exact qap _|exact qad|exact qag|exact qae|exact qac|exact qah _|exact qa4 _ (by omega)|exact qa3 (by omega)|exact qa5 (by omega)|exact rfl|assumption|apply qa6)|((first|apply qbl|apply qaz|apply qaj)<;>first|(apply qao;(repeat' first|assumption|exact qaa rfl|apply qaf rfl|apply qab);done)|exact qan _ _|exact qai _|exact qap _|exact qad|exact qag|exact qae|exact qac|exact qah _|exact qa4 _ (by omega)|exact qa3 (by omega)|exact qa5 (by omega)|exact rfl|assumption|apply qa6)|(apply qbk rfl rfl;(focus (repeat' first|assumption|exact qaa rfl|apply qaf rfl|apply qab);done))|(apply qb1 rfl rfl;(focus (repeat' first|assumption|exact qaa rfl|apply qaf rfl|apply qab);done);exact rfl)))
  apply O_makeFunc (l1 := []) (l2 := [.ptr i3 0 0])
  · exact qby
  · exact qbt (by (focus first|(apply qao;(repeat' first|assumption|exact qaa rfl|apply qaf rfl|apply qab);done)|exact qan _ _|exact qai _|exact qap _|exact qad|exact qag|exact qae|exact qac|exact qah _)) qby
  (repeat (first|apply qbi|apply qa9|(apply qa7;dsimp only[qbc,List.map,Nat.reduceAdd])|apply qbj|apply qbd|apply qbe|apply qbn|apply qbp|apply qbo|apply qa1|apply qau|apply qbb|apply qas|apply qaq|apply qam rfl|apply qaw|apply qar|apply qax|apply qay|apply qa2|apply qav|((first|apply qa8|apply qbg|apply qbh|apply qbm|apply qbf|apply qba|apply qa0|apply qal|apply qak|apply qat)<;>first|(apply qao;(repeat' first|assumption|exact qaa rfl|apply qaf rfl|apply qab);done)|exact qan _ _|exact qai _|exact qap _|exact qad|exact qag|exact qae|exact qac|exact qah _|exact qa4 _ (by omega)|exact qa3 (by omega)|exact qa5 (by omega)|exact rfl|assumption|apply qa6)|((first|apply qbl|apply qaz|apply qaj)<;>first|(apply qao;(repeat' first|assumption|exact qaa rfl|apply qaf rfl|apply qab);done)|exact qan _ _|exact qai _|exact qap _|exact qad|exact qag|exact qae|exact qac|exact qah _|exact qa4 _ (by omega)|exact qa3 (by omega)|exact qa5 (by omega)|exact rfl|assumption|apply qa6)|(apply qbk rfl rfl;(focus (repeat' first|assumption|exact qaa rfl|apply qaf rfl|apply qab);done))|(apply qb1 rfl rfl;(focus (repeat' first|assumption|exact qaa rfl|apply qaf rfl|apply qab);done);exact rfl)))
  apply qb2 (n := 5)
  · (focus first|(apply qao;(repeat' first|assumption|exact qaa rfl|apply qaf rfl|apply qab);done)|exact qan _ _|exact qai _|exact qap _|exact qad|exact qag|exact qae|exact qac|exact qah _)
  · exact r1
  · rfl
  · exact rfl
  (repeat (first|apply qbi|apply qa9|(apply qa7;dsimp only[qbc,List.map,Nat.reduceAdd])|apply qbj|apply qbd|apply qbe|apply qbn|apply qbp|apply qbo|apply qa1|apply qau|apply qbb|apply qas|apply qaq|apply qam rfl|apply qaw|apply qar|apply qax|apply qay|apply qa2|apply qav|((first|apply qa8|apply qbg|apply qbh|apply qbm|apply qbf|apply qba|apply qa0|apply qal|apply qak|apply qat)<;>first|(apply qao;(repeat' first|assumption|exact qaa rfl|apply qaf rfl|apply qab);done)|exact qan _ _|exact qai _|exact qap _|exact qad|exact qag|exact qae|exact qac|exact qah _|exact qa4 _ (by omega)|exact qa3 (by omega)|exact qa5 (by omega)|exact rfl|assumption|apply qa6)|((first|apply qbl|apply qaz|apply qaj)<;>first|(apply qao;(repeat' first|assumption|exact qaa rfl|apply qaf rfl|apply qab);done)|exact qan _ _|exact qai _|exact qap _|exact qad|exact qag|exact qae|exact qac|exact qah _|exact qa4 _ (by omega)|exact qa3 (by omega)|exact qa5 (by omega)|exact rfl|assumption|apply qa6)|(apply qbk rfl rfl;(focus (repeat' first|assumption|exact qaa rfl|apply qaf rfl|apply qab);done))|(apply qb1 rfl rfl;(focus (repeat' first|assumption|exact qaa rfl|apply qaf rfl|apply qab);done);exact rfl)))
  apply qb2 (n := 5)
  · (focus first|(apply qao;(repeat' first|assumption|exact qaa rfl|apply qaf rfl|apply qab);done)|exact qan _ _|exact qai _|exact qap _|exact qad|exact qag|exact qae|exact qac|exact qah _)
  · exact r2
  · rfl
  · exact rfl
  (apply qcl; (focus first|(apply qao;(repeat' first|assumption|exact qaa rfl|apply qaf rfl|apply qab);done)|exact qan _ _|exact qai _|exact qap _|exact qad|exact qag|exact qae|exact qac|exact qah _); (repeat (apply qbt; (focus first|(apply qao;(repeat' first|assumption|exact qaa rfl|apply qaf rfl|apply qab);done)|exact qan _ _|exact qai _|exact qap _|exact qad|exact qag|exact qae|exact qac|exact qah _))); exact qby)
  refine (of_spec hs3 (by omega) o3 hb p.p).mono ?_
  rintro v g4 ⟨k4, rfl⟩
  refine ⟨Undis.off rfl, ?_⟩
  apply O_wf
  intro w4
  apply O_alloc
  intro g5 i5 k5 r5 l7 l8
  apply qcr
  · (focus first|(apply qao;(repeat' first|assumption|exact qaa rfl|apply qaf rfl|apply qab);done)|exact qan _ _|exact qai _|exact qap _|exact qad|exact qag|exact qae|exact qac|exact qah _)
  · (focus first|(apply qao;(repeat' first|assumption|exact qaa rfl|apply qaf rfl|apply qab);done)|exact qan _ _|exact qai _|exact qap _|exact qad|exact qag|exact qae|exact qac|exact qah _)
  · exact r5
  · rfl
  intro g6 kb6 r6
  refine ⟨Undis.off rfl, ?_⟩
  change Row g6 i5 0 _ (linC (ofZ x p.p)) true at r6
  have k6 : Keep g3 g6 := k4.trans (KeepBut.keep k5 kb6 fun i hi => w4.get (by omega))
  replace r1 := r1.keep k6
  replace r2 := r2.keep k6
  replace r3 := r3.keep k6
  replace on3 := on3.keep k6
  (repeat (first|apply qbi|apply qa9|(apply qa7;dsimp only[qbc,List.map,Nat.reduceAdd])|apply qbj|apply qbd|apply qbe|apply qbn|apply qbp|apply qbo|apply qa1|apply qau|apply qbb|apply qas|apply qaq|apply qam rfl|apply qaw|apply qar|apply qax|apply qay|apply qa2|apply qav|((first|apply qa8|apply qbg|apply qbh|apply qbm|apply qbf|apply qba|apply qa0|apply qal|apply qak|apply qat)<;>first|(apply qao;(repeat' first|assumption|exact qaa rfl|apply qaf rfl|apply qab);done)|exact qan _ _|exact qai _|exact qap _|exact qad|exact qag|exact qae|exact qac|exact qah _|exact qa4 _ (by omega)|exact qa3 (by omega)|exact qa5 (by omega)|exact rfl|assumption|apply qa6)|((first|apply qbl|apply qaz|apply qaj)<;>first|(apply qao;(repeat' first|assumption|exact qaa rfl|apply qaf rfl|apply qab);done)|exact qan _ _|exact qai _|exact qap _|exact qad|exact qag|exact qae|exact qac|exact qah _|exact qa4 _ (by omega)|exact qa3 (by omega)|exact qa5 (by omega)|exact rfl|assumption|apply qa6)|(apply qbk rfl rfl;(focus (repeat' first|assumption|exact qaa rfl|apply qaf rfl|apply qab);done))|(apply qb1 rfl rfl;(focus (repeat' first|assumption|exact qaa rfl|apply qaf rfl|apply qab);done);exact rfl)))
  apply qb2 (n := 5)
  · (focus first|(apply qao;(repeat' first|assumption|exact qaa rfl|apply qaf rfl|apply qab);done)|exact qan _ _|exact qai _|exact qap _|exact qad|exact qag|exact qae|exact qac|exact qah _)
  · exact r2
  · rfl
  · exact rfl
  (apply qcl; (focus first|(apply qao;(repeat' first|assumption|exact qaa rfl|apply qaf rfl|apply qab);done)|exact qan _ _|exact qai _|exact qap _|exact qad|exact qag|exact qae|exact qac|exact qah _); (repeat (apply qbt; (focus first|(apply qao;(repeat' first|assumption|exact qaa rfl|apply qaf rfl|apply qab);done)|exact qan _ _|exact qai _|exact qap _|exact qad|exact qag|exact qae|exact qac|exact qah _))); exact qby)
  refine (told_spec hs1 hs2 (by omega) r3 on3 hb2 p.s).mono ?_
  rintro v g7 ⟨k7, rfl⟩
  refine ⟨Undis.off rfl, ?_⟩
  replace r1 := r1.keep k7
  replace r2 := r2.keep k7
  replace r3 := r3.keep k7
  replace r6 := r6.keep k7
  replace on3 := on3.keep k7
  have kk := (k.trans k6).trans k7
  generalize hL : ofZ x p.p = L at *
  (repeat (first|apply qbi|apply qa9|(apply qa7;dsimp only[qbc,List.map,Nat.reduceAdd])|apply qbj|apply qbd|apply qbe|apply qbn|apply qbp|apply qbo|apply qa1|apply qau|apply qbb|apply qas|apply qaq|apply qam rfl|apply qaw|apply qar|apply qax|apply qay|apply qa2|apply qav|((first|apply qa8|apply qbg|apply qbh|apply qbm|apply qbf|apply qba|apply qa0|apply qal|apply qak|apply qat)<;>first|(apply qao;(repeat' first|assumption|exact qaa rfl|apply qaf rfl|apply qab);done)|exact qan _ _|exact qai _|exact qap _|exact qad|exact qag|exact qae|exact qac|exact qah _|exact qa4 _ (by omega)|exact qa3 (by omega)|exact qa5 (by omega)|exact rfl|assumption|apply qa6)|((first|apply qbl|apply qaz|apply qaj)<;>first|(apply qao;(repeat' first|assumption|exact qaa rfl|apply qaf rfl|apply qab);done)|exact qan _ _|exact qai _|exact qap _|exact qad|exact qag|exact qae|exact qac|exact qah _|exact qa4 _ (by omega)|exact qa3 (by omega)|exact qa5 (by omega)|exact rfl|assumption|apply qa6)|(apply qbk rfl rfl;(focus (repeat' first|assumption|exact qaa rfl|apply qaf rfl|apply qab);done))|(apply qb1 rfl rfl;(focus (repeat' first|assumption|exact qaa rfl|apply qaf rfl|apply qab);done);exact rfl)))
  apply R_mid (GSt h i1 i2 i3 i5 x lv nv p known L (if toldZ known p.s then partZ L.tri L.sub else L.tri))
  · apply qcg (toldZ known p.s)
    · (focus first|(apply qao;(repeat' first|assumption|exact qaa rfl|apply qaf rfl|apply qab);done)|exact qan _ _|exact qai _|exact qap _|exact qad|exact qag|exact qae|exact qac|exact qah _)
    · intro c
      simp only [c]
      (repeat (first|apply qbi|apply qa9|(apply qa7;dsimp only[qbc,List.map,Nat.reduceAdd])|apply qbj|apply qbd|apply qbe|apply qbn|apply qbp|apply qbo|apply qa1|apply qau|apply qbb|apply qas|apply qaq|apply qam rfl|apply qaw|apply qar|apply qax|apply qay|apply qa2|apply qav|((first|apply qa8|apply qbg|apply qbh|apply qbm|apply qbf|apply qba|apply qa0|apply qal|apply qak|apply qat)<;>first|(apply qao;(repeat' first|assumption|exact qaa rfl|apply qaf rfl|apply qab);done)|exact qan _ _|exact qai _|exact qap _|exact qad|exact qag|exact qae|exact qac|exact qah _|exact qa4 _ (by omega)|exact qa3 (by omega)|exact qa5 (by omega)|exact rfl|assumption|apply qa6)|((first|apply qbl|apply qaz|apply qaj)<;>first|(apply qao;(repeat' first|assumption|exact qaa rfl|apply qaf rfl|apply qab);done)|exact qan _ _|exact qai _|exact qap _|exact qad|exact qag|exact qae|exact qac|exact qah _|exact qa4 _ (by omega)|exact qa3 (by omega)|exact qa5 (by omega)|exact rfl|assumption|apply qa6)|(apply qbk rfl rfl;(focus (repeat' first|assumption|exact qaa rfl|apply qaf rfl|apply qab);done))|(apply qb1 rfl rfl;(focus (repeat' first|assumption|exact qaa rfl|apply qaf rfl|apply qab);done);exact rfl)))
      (apply qcl; (focus first|(apply qao;(repeat' first|assumption|exact qaa rfl|apply qaf rfl|apply qab);done)|exact qan _ _|exact qai _|exact qap _|exact qad|exact qag|exact qae|exact qac|exact qah _); (repeat (apply qbt; (focus first|(apply qao;(repeat' first|assumption|exact qaa rfl|apply qaf rfl|apply qab);done)|exact qan _ _|exact qai _|exact qap _|exact qad|exact qag|exact qae|exact qac|exact qah _))); exact qby)
      refine (part_spec hs4 (by omega) _ _ _).mono ?_
      rintro v g8 ⟨rfl, rfl⟩
      refine ⟨Undis.off rfl, ?_⟩
      (repeat (first|apply qbi|apply qa9|(apply qa7;dsimp only[qbc,List.map,Nat.reduceAdd])|apply qbj|apply qbd|apply qbe|apply qbn|apply qbp|apply qbo|apply qa1|apply qau|apply qbb|apply qas|apply qaq|apply qam rfl|apply qaw|apply qar|apply qax|apply qay|apply qa2|apply qav|((first|apply qa8|apply qbg|apply qbh|apply qbm|apply qbf|apply qba|apply qa0|apply qal|apply qak|apply qat)<;>first|(apply qao;(repeat' first|assumption|exact qaa rfl|apply qaf rfl|apply qab);done)|exact qan _ _|exact qai _|exact qap _|exact qad|exact qag|exact qae|exact qac|exact qah _|exact qa4 _ (by omega)|exact qa3 (by omega)|exact qa5 (by omega)|exact rfl|assumption|apply qa6)|((first|apply qbl|apply qaz|apply qaj)<;>first|(apply qao;(repeat' first|assumption|exact qaa rfl|apply qaf rfl|apply qab);done)|exact qan _ _|exact qai _|exact qap _|exact qad|exact qag|exact qae|exact qac|exact qah _|exact qa4 _ (by omega)|exact qa3 (by omega)|exact qa5 (by omega)|exact rfl|assumption|apply qa6)|(apply qbk rfl rfl;(focus (repeat' first|assumption|exact qaa rfl|apply qaf rfl|apply qab);done))|(apply qb1 rfl rfl;(focus (repeat' first|assumption|exact qaa rfl|apply qaf rfl|apply qab);done);exact rfl)))
      apply K_mid
      exact ⟨kk, r1, r2, r3, r6, on3, by (repeat' first|assumption|exact qaa rfl|apply qaf rfl|apply qab), by (repeat' first|assumption|exact qaa rfl|apply qaf rfl|apply qab), by (repeat' first|assumption|exact qaa rfl|apply qaf rfl|apply qab), by (repeat' first|assumption|exact qaa rfl|apply qaf rfl|apply qab), by (repeat' first|assumption|exact qaa rfl|apply qaf rfl|apply qab)⟩
    · intro c
      simp only [c]
      (repeat (first|apply qbi|apply qa9|(apply qa7;dsimp only[qbc,List.map,Nat.reduceAdd])|apply qbj|apply qbd|apply qbe|apply qbn|apply qbp|apply qbo|apply qa1|apply qau|apply qbb|apply qas|apply qaq|apply qam rfl|apply qaw|apply qar|apply qax|apply qay|apply qa2|apply qav|((first|apply qa8|apply qbg|apply qbh|apply qbm|apply qbf|apply qba|apply qa0|apply qal|apply qak|apply qat)<;>first|(apply qao;(repeat' first|assumption|exact qaa rfl|apply qaf rfl|apply qab);done)|exact qan _ _|exact qai _|exact qap _|exact qad|exact qag|exact qae|exact qac|exact qah _|exact qa4 _ (by omega)|exact qa3 (by omega)|exact qa5 (by omega)|exact rfl|assumption|apply qa6)|((first|apply qbl|apply qaz|apply qaj)<;>first|(apply qao;(repeat' first|assumption|exact qaa rfl|apply qaf rfl|apply qab);done)|exact qan _ _|exact qai _|exact qap _|exact qad|exact qag|exact qae|exact qac|exact qah _|exact qa4 _ (by omega)|exact qa3 (by omega)|exact qa5 (by omega)|exact rfl|assumption|apply qa6)|(apply qbk rfl rfl;(focus (repeat' first|assumption|exact qaa rfl|apply qaf rfl|apply qab);done))|(apply qb1 rfl rfl;(focus (repeat' first|assumption|exact qaa rfl|apply qaf rfl|apply qab);done);exact rfl)))
      apply K_mid
      exact ⟨kk, r1, r2, r3, r6, on3, by (repeat' first|assumption|exact qaa rfl|apply qaf rfl|apply qab), by (repeat' first|assumption|exact qaa rfl|apply qaf rfl|apply qab), by (repeat' first|assumption|exact qaa rfl|apply qaf rfl|apply qab), by (repeat' first|assumption|exact qaa rfl|apply qaf rfl|apply qab), by (repeat' first|assumption|exact qaa rfl|apply qaf rfl|apply qab)⟩
  rintro T g8 ⟨kk, r1, r2, r3, r6, on3, t3, t4, t7, t8, t9⟩
  generalize hm1 : (if toldZ known p.s then partZ L.tri L.sub else L.tri) = m1 at *
  (repeat (first|apply qbi|apply qa9|(apply qa7;dsimp only[qbc,List.map,Nat.reduceAdd])|apply qbj|apply qbd|apply qbe|apply qbn|apply qbp|apply qbo|apply qa1|apply qau|apply qbb|apply qas|apply qaq|apply qam rfl|apply qaw|apply qar|apply qax|apply qay|apply qa2|apply qav|((first|apply qa8|apply qbg|apply qbh|apply qbm|apply qbf|apply qba|apply qa0|apply qal|apply qak|apply qat)<;>first|(apply qao;(repeat' first|assumption|exact qaa rfl|apply qaf rfl|apply qab);done)|exact qan _ _|exact qai _|exact qap _|exact qad|exact qag|exact qae|exact qac|exact qah _|exact qa4 _ (by omega)|exact qa3 (by omega)|exact qa5 (by omega)|exact rfl|assumption|apply qa6)|((first|apply qbl|apply qaz|apply qaj)<;>first|(apply qao;(repeat' first|assumption|exact qaa rfl|apply qaf rfl|apply qab);done)|exact qan _ _|exact qai _|exact qap _|exact qad|exact qag|exact qae|exact qac|exact qah _|exact qa4 _ (by omega)|exact qa3 (by omega)|exact qa5 (by omega)|exact rfl|assumption|apply qa6)|(apply qbk rfl rfl;(focus (repeat' first|assumption|exact qaa rfl|apply qaf rfl|apply qab);done))|(apply qb1 rfl rfl;(focus (repeat' first|assumption|exact qaa rfl|apply qaf rfl|apply qab);done);exact rfl)))
  apply qb2 (n := 5)
  · (focus first|(apply qao;(repeat' first|assumption|exact qaa rfl|apply qaf rfl|apply qab);done)|exact qan _ _|exact qai _|exact qap _|exact qad|exact qag|exact qae|exact qac|exact qah _)
  · exact r2
  · rfl
  · exact rfl
  (apply qcl; (focus first|(apply qao;(repeat' first|assumption|exact qaa rfl|apply qaf rfl|apply qab);done)|exact qan _ _|exact qai _|exact qap _|exact qad|exact qag|exact qae|exact qac|exact qah _); (repeat (apply qbt; (focus first|(apply qao;(repeat' first|assumption|exact qaa rfl|apply qaf rfl|apply qab);done)|exact qan _ _|exact qai _|exact qap _|exact qad|exact qag|exact qae|exact qac|exact qah _))); exact qby)
  refine (told_spec hs1 hs2 (by omega) r3 on3 hb2 p.o).mono ?_
  rintro v g9 ⟨k9, rfl⟩
  refine ⟨Undis.off rfl, ?_⟩
  replace r1 := r1.keep k9
  replace r2 := r2.keep k9
  replace r3 := r3.keep k9
  replace r6 := r6.keep k9
  replace on3 := on3.keep k9
  replace kk := kk.trans k9
  (repeat (first|apply qbi|apply qa9|(apply qa7;dsimp only[qbc,List.map,Nat.reduceAdd])|apply qbj|apply qbd|apply qbe|apply qbn|apply qbp|apply qbo|apply qa1|apply qau|apply qbb|apply qas|apply qaq|apply qam rfl|apply qaw|apply qar|apply qax|apply qay|apply qa2|apply qav|((first|apply qa8|apply qbg|apply qbh|apply qbm|apply qbf|apply qba|apply qa0|apply qal|apply qak|apply qat)<;>first|(apply qao;(repeat' first|assumption|exact qaa rfl|apply qaf rfl|apply qab);done)|exact qan _ _|exact qai _|exact qap _|exact qad|exact qag|exact qae|exact qac|exact qah _|exact qa4 _ (by omega)|exact qa3 (by omega)|exact qa5 (by omega)|exact rfl|assumption|apply qa6)|((first|apply qbl|apply qaz|apply qaj)<;>first|(apply qao;(repeat' first|assumption|exact qaa rfl|apply qaf rfl|apply qab);done)|exact qan _ _|exact qai _|exact qap _|exact qad|exact qag|exact qae|exact qac|exact qah _|exact qa4 _ (by omega)|exact qa3 (by omega)|exact qa5 (by omega)|exact rfl|assumption|apply qa6)|(apply qbk rfl rfl;(focus (repeat' first|assumption|exact qaa rfl|apply qaf rfl|apply qab);done))|(apply qb1 rfl rfl;(focus (repeat' first|assumption|exact qaa rfl|apply qaf rfl|apply qab);done);exact rfl)))
  apply R_mid (GSt h i1 i2 i3 i5 x lv nv p known L (if toldZ known p.o then partZ m1 L.obj else m1))
  · apply qcg (toldZ known p.o)
    · (focus first|(apply qao;(repeat' first|assumption|exact qaa rfl|apply qaf rfl|apply qab);done)|exact qan _ _|exact qai _|exact qap _|exact qad|exact qag|exact qae|exact qac|exact qah _)
    · intro c
      simp only [c]
      (repeat (first|apply qbi|apply qa9|(apply qa7;dsimp only[qbc,List.map,Nat.reduceAdd])|apply qbj|apply qbd|apply qbe|apply qbn|apply qbp|apply qbo|apply qa1|apply qau|apply qbb|apply qas|apply qaq|apply qam rfl|apply qaw|apply qar|apply qax|apply qay|apply qa2|apply qav|((first|apply qa8|apply qbg|apply qbh|apply qbm|apply qbf|apply qba|apply qa0|apply qal|apply qak|apply qat)<;>first|(apply qao;(repeat' first|assumption|exact qaa rfl|apply qaf rfl|apply qab);done)|exact qan _ _|exact qai _|exact qap _|exact qad|exact qag|exact qae|exact qac|exact qah _|exact qa4 _ (by omega)|exact qa3 (by omega)|exact qa5 (by omega)|exact rfl|assumption|apply qa6)|((first|apply qbl|apply qaz|apply qaj)<;>first|(apply qao;(repeat' first|assumption|exact qaa rfl|apply qaf rfl|apply qab);done)|exact qan _ _|exact qai _|exact qap _|exact qad|exact qag|exact qae|exact qac|exact qah _|exact qa4 _ (by omega)|exact qa3 (by omega)|exact qa5 (by omega)|exact rfl|assumption|apply qa6)|(apply qbk rfl rfl;(focus (repeat' first|assumption|exact qaa rfl|apply qaf rfl|apply qab);done))|(apply qb1 rfl rfl;(focus (repeat' first|assumption|exact qaa rfl|apply qaf rfl|apply qab);done);exact rfl)))
      (apply qcl; (focus first|(apply qao;(repeat' first|assumption|exact qaa rfl|apply qaf rfl|apply qab);done)|exact qan _ _|exact qai _|exact qap _|exact qad|exact qag|exact qae|exact qac|exact qah _); (repeat (apply qbt; (focus first|(apply qao;(repeat' first|assumption|exact qaa rfl|apply qaf rfl|apply qab);done)|exact qan _ _|exact qai _|exact qap _|exact qad|exact qag|exact qae|exact qac|exact qah _))); exact qby)
      refine (part_spec hs4 (by omega) _ _ _).mono ?_
      rintro v g8 ⟨rfl, rfl⟩
      refine ⟨Undis.off rfl, ?_⟩
      (repeat (first|apply qbi|apply qa9|(apply qa7;dsimp only[qbc,List.map,Nat.reduceAdd])|apply qbj|apply qbd|apply qbe|apply qbn|apply qbp|apply qbo|apply qa1|apply qau|apply qbb|apply qas|apply qaq|apply qam rfl|apply qaw|apply qar|apply qax|apply qay|apply qa2|apply qav|((first|apply qa8|apply qbg|apply qbh|apply qbm|apply qbf|apply qba|apply qa0|apply qal|apply qak|apply qat)<;>first|(apply qao;(repeat' first|assumption|exact qaa rfl|apply qaf rfl|apply qab);done)|exact qan _ _|exact qai _|exact qap _|exact qad|exact qag|exact qae|exact qac|exact qah _|exact qa4 _ (by omega)|exact qa3 (by omega)|exact qa5 (by omega)|exact rfl|assumption|apply qa6)|((first|apply qbl|apply qaz|apply qaj)<;>first|(apply qao;(repeat' first|assumption|exact qaa rfl|apply qaf rfl|apply qab);done)|exact qan _ _|exact qai _|exact qap _|exact qad|exact qag|exact qae|exact qac|exact qah _|exact qa4 _ (by omega)|exact qa3 (by omega)|exact qa5 (by omega)|exact rfl|assumption|apply qa6)|(apply qbk rfl rfl;(focus (repeat' first|assumption|exact qaa rfl|apply qaf rfl|apply qab);done))|(apply qb1 rfl rfl;(focus (repeat' first|assumption|exact qaa rfl|apply qaf rfl|apply qab);done);exact rfl)))
      apply K_mid
      exact ⟨kk, r1, r2, r3, r6, on3, by (repeat' first|assumption|exact qaa rfl|apply qaf rfl|apply qab), by (repeat' first|assumption|exact qaa rfl|apply qaf rfl|apply qab), by (repeat' first|assumption|exact qaa rfl|apply qaf rfl|apply qab), by (repeat' first|assumption|exact qaa rfl|apply qaf rfl|apply qab), by (repeat' first|assumption|exact qaa rfl|apply qaf rfl|apply qab)⟩
    · intro c
      simp only [c]
      (repeat (first|apply qbi|apply qa9|(apply qa7;dsimp only[qbc,List.map,Nat.reduceAdd])|apply qbj|apply qbd|apply qbe|apply qbn|apply qbp|apply qbo|apply qa1|apply qau|apply qbb|apply qas|apply qaq|apply qam rfl|apply qaw|apply qar|apply qax|apply qay|apply qa2|apply qav|((first|apply qa8|apply qbg|apply qbh|apply qbm|apply qbf|apply qba|apply qa0|apply qal|apply qak|apply qat)<;>first|(apply qao;(repeat' first|assumption|exact qaa rfl|apply qaf rfl|apply qab);done)|exact qan _ _|exact qai _|exact qap _|exact qad|exact qag|exact qae|exact qac|exact qah _|exact qa4 _ (by omega)|exact qa3 (by omega)|exact qa5 (by omega)|exact rfl|assumption|apply qa6)|((first|apply qbl|apply qaz|apply qaj)<;>first|(apply qao;(repeat' first|assumption|exact qaa rfl|apply qaf rfl|apply qab);done)|exact qan _ _|exact qai _|exact qap _|exact qad|exact qag|exact qae|exact qac|exact qah _|exact qa4 _ (by omega)|exact qa3 (by omega)|exact qa5 (by omega)|exact rfl|assumption|apply qa6)|(apply qbk rfl rfl;(focus (repeat' first|assumption|exact qaa rfl|apply qaf rfl|apply qab);done))|(apply qb1 rfl rfl;(focus (repeat' first|assumption|exact qaa rfl|apply qaf rfl|apply qab);done);exact rfl)))
      apply K_mid
      exact ⟨kk, r1, r2, r3, r6, on3, by (repeat' first|assumption|exact qaa rfl|apply qaf rfl|apply qab), by (repeat' first|assumption|exact qaa rfl|apply qaf rfl|apply qab), by (repeat' first|assumption|exact qaa rfl|apply qaf rfl|apply qab), by (repeat' first|assumption|exact qaa rfl|apply qaf rfl|apply qab), by (repeat' first|assumption|exact qaa rfl|apply qaf rfl|apply qab)⟩
  rintro T g10 ⟨kk, r1, r2, r3, r6, on3, t3, t4, t7, t8, t9⟩
  generalize hm2 : (if toldZ known p.o then partZ m1 L.obj else m1) = m2 at *
  have hfin : guessZ x p known = if p.p.var ≠ [] ∧ toldZ known p.p = true then partZ m2 x.pre else m2 := by
    simp only [guessZ, hL, hm1, hm2]
  rw [hfin]
  (repeat (first|apply qbi|apply qa9|(apply qa7;dsimp only[qbc,List.map,Nat.reduceAdd])|apply qbj|apply qbd|apply qbe|apply qbn|apply qbp|apply qbo|apply qa1|apply qau|apply qbb|apply qas|apply qaq|apply qam rfl|apply qaw|apply qar|apply qax|apply qay|apply qa2|apply qav|((first|apply qa8|apply qbg|apply qbh|apply qbm|apply qbf|apply qba|apply qa0|apply qal|apply qak|apply qat)<;>first|(apply qao;(repeat' first|assumption|exact qaa rfl|apply qaf rfl|apply qab);done)|exact qan _ _|exact qai _|exact qap _|exact qad|exact qag|exact qae|exact qac|exact qah _|exact qa4 _ (by omega)|exact qa3 (by omega)|exact qa5 (by omega)|exact rfl|assumption|apply qa6)|((first|apply qbl|apply qaz|apply qaj)<;>first|(apply qao;(repeat' first|assumption|exact qaa rfl|apply qaf rfl|apply qab);done)|exact qan _ _|exact qai _|exact qap _|exact qad|exact qag|exact qae|exact qac|exact qah _|exact qa4 _ (by omega)|exact qa3 (by omega)|exact qa5 (by omega)|exact rfl|assumption|apply qa6)|(apply qbk rfl rfl;(focus (repeat' first|assumption|exact qaa rfl|apply qaf rfl|apply qab);done))|(apply qb1 rfl rfl;(focus (repeat' first|assumption|exact qaa rfl|apply qaf rfl|apply qab);done);exact rfl)))
  cases hv : (!(p.p.var == ([] : Str))) with
  | false =>
    have hv' : p.p.var = [] := by simpa using hv
    simp only [hv', ne_eq, not_true, false_and, if_false]
    (repeat (first|apply qbi|apply qa9|(apply qa7;dsimp only[qbc,List.map,Nat.reduceAdd])|apply qbj|apply qbd|apply qbe|apply qbn|apply qbp|apply qbo|apply qa1|apply qau|apply qbb|apply qas|apply qaq|apply qam rfl|apply qaw|apply qar|apply qax|apply qay|apply qa2|apply qav|((first|apply qa8|apply qbg|apply qbh|apply qbm|apply qbf|apply qba|apply qa0|apply qal|apply qak|apply qat)<;>first|(apply qao;(repeat' first|assumption|exact qaa rfl|apply qaf rfl|apply qab);done)|exact qan _ _|exact qai _|exact qap _|exact qad|exact qag|exact qae|exact qac|exact qah _|exact qa4 _ (by omega)|exact qa3 (by omega)|exact qa5 (by omega)|exact rfl|assumption|apply qa6)|((first|apply qbl|apply qaz|apply qaj)<;>first|(apply qao;(repeat' first|assumption|exact qaa rfl|apply qaf rfl|apply qab);done)|exact qan _ _|exact qai _|exact qap _|exact qad|exact qag|exact qae|exact qac|exact qah _|exact qa4 _ (by omega)|exact qa3 (by omega)|exact qa5 (by omega)|exact rfl|assumption|apply qa6)|(apply qbk rfl rfl;(focus (repeat' first|assumption|exact qaa rfl|apply qaf rfl|apply qab);done))|(apply qb1 rfl rfl;(focus (repeat' first|assumption|exact qaa rfl|apply qaf rfl|apply qab);done);exact rfl)))
    apply qcg false
    · (focus first|(apply qao;(repeat' first|assumption|exact qaa rfl|apply qaf rfl|apply qab);done)|exact qan _ _|exact qai _|exact qap _|exact qad|exact qag|exact qae|exact qac|exact qah _)
    · intro c; cases c
    intro _
    (repeat (first|apply qbi|apply qa9|(apply qa7;dsimp only[qbc,List.map,Nat.reduceAdd])|apply qbj|apply qbd|apply qbe|apply qbn|apply qbp|apply qbo|apply qa1|apply qau|apply qbb|apply qas|apply qaq|apply qam rfl|apply qaw|apply qar|apply qax|apply qay|apply qa2|apply qav|((first|apply qa8|apply qbg|apply qbh|apply qbm|apply qbf|apply qba|apply qa0|apply qal|apply qak|apply qat)<;>first|(apply qao;(repeat' first|assumption|exact qaa rfl|apply qaf rfl|apply qab);done)|exact qan _ _|exact qai _|exact qap _|exact qad|exact qag|exact qae|exact qac|exact qah _|exact qa4 _ (by omega)|exact qa3 (by omega)|exact qa5 (by omega)|exact rfl|assumption|apply qa6)|((first|apply qbl|apply qaz|apply qaj)<;>first|(apply qao;(repeat' first|assumption|exact qaa rfl|apply qaf rfl|apply qab);done)|exact qan _ _|exact qai _|exact qap _|exact qad|exact qag|exact qae|exact qac|exact qah _|exact qa4 _ (by omega)|exact qa3 (by omega)|exact qa5 (by omega)|exact rfl|assumption|apply qa6)|(apply qbk rfl rfl;(focus (repeat' first|assumption|exact qaa rfl|apply qaf rfl|apply qab);done))|(apply qb1 rfl rfl;(focus (repeat' first|assumption|exact qaa rfl|apply qaf rfl|apply qab);done);exact rfl)))
    (apply qb5 rfl; (repeat' first|assumption|exact qaa rfl|apply qaf rfl|apply qab))
    exact ⟨kk, rfl⟩
  | true =>
    have hv' : p.p.var ≠ [] := by simpa using hv
    simp only [hv', ne_eq, not_false_eq_true, true_and]
    (repeat (first|apply qbi|apply qa9|(apply qa7;dsimp only[qbc,List.map,Nat.reduceAdd])|apply qbj|apply qbd|apply qbe|apply qbn|apply qbp|apply qbo|apply qa1|apply qau|apply qbb|apply qas|apply qaq|apply qam rfl|apply qaw|apply qar|apply qax|apply qay|apply qa2|apply qav|((first|apply qa8|apply qbg|apply qbh|apply qbm|apply qbf|apply qba|apply qa0|apply qal|apply qak|apply qat)<;>first|(apply qao;(repeat' first|assumption|exact qaa rfl|apply qaf rfl|apply qab);done)|exact qan _ _|exact qai _|exact qap _|exact qad|exact qag|exact qae|exact qac|exact qah _|exact qa4 _ (by omega)|exact qa3 (by omega)|exact qa5 (by omega)|exact rfl|assumption|apply qa6)|((first|apply qbl|apply qaz|apply qaj)<;>first|(apply qao;(repeat' first|assumption|exact qaa rfl|apply qaf rfl|apply qab);done)|exact qan _ _|exact qai _|exact qap _|exact qad|exact qag|exact qae|exact qac|exact qah _|exact qa4 _ (by omega)|exact qa3 (by omega)|exact qa5 (by omega)|exact rfl|assumption|apply qa6)|(apply qbk rfl rfl;(focus (repeat' first|assumption|exact qaa rfl|apply qaf rfl|apply qab);done))|(apply qb1 rfl rfl;(focus (repeat' first|assumption|exact qaa rfl|apply qaf rfl|apply qab);done);exact rfl)))
    apply qb2 (n := 5)
    · (focus first|(apply qao;(repeat' first|assumption|exact qaa rfl|apply qaf rfl|apply qab);done)|exact qan _ _|exact qai _|exact qap _|exact qad|exact qag|exact qae|exact qac|exact qah _)
    · exact r2
    · rfl
    · exact rfl
    (repeat (first|apply qbi|apply qa9|(apply qa7;dsimp only[qbc,List.map,Nat.reduceAdd])|apply qbj|apply qbd|apply qbe|apply qbn|apply qbp|apply qbo|apply qa1|apply qau|apply qbb|apply qas|apply qaq|apply qam rfl|apply qaw|apply qar|apply qax|apply qay|apply qa2|apply qav|((first|apply qa8|apply qbg|apply qbh|apply qbm|apply qbf|apply qba|apply qa0|apply qal|apply qak|apply qat)<;>first|(apply qao;(repeat' first|assumption|exact qaa rfl|apply qaf rfl|apply qab);done)|exact qan _ _|exact qai _|exact qap _|exact qad|exact qag|exact qae|exact qac|exact qah _|exact qa4 _ (by omega)|exact qa3 (by omega)|exact qa5 (by omega)|exact rfl|assumption|apply qa6)|((first|apply qbl|apply qaz|apply qaj)<;>first|(apply qao;(repeat' first|assumption|exact qaa rfl|apply qaf rfl|apply qab);done)|exact qan _ _|exact qai _|exact qap _|exact qad|exact qag|exact qae|exact qac|exact qah _|exact qa4 _ (by omega)|exact qa3 (by omega)|exact qa5 (by omega)|exact rfl|assumption|apply qa6)|(apply qbk rfl rfl;(focus (repeat' first|assumption|exact qaa rfl|apply qaf rfl|apply qab);done))|(apply qb1 rfl rfl;(focus (repeat' first|assumption|exact qaa rfl|apply qaf rfl|apply qab);done);exact rfl)))
    (apply qcl; (focus first|(apply qao;(repeat' first|assumption|exact qaa rfl|apply qaf rfl|apply qab);done)|exact qan _ _|exact qai _|exact qap _|exact qad|exact qag|exact qae|exact qac|exact qah _); (repeat (apply qbt; (focus first|(apply qao;(repeat' first|assumption|exact qaa rfl|apply qaf rfl|apply qab);done)|exact qan _ _|exact qai _|exact qap _|exact qad|exact qag|exact qae|exact qac|exact qah _))); exact qby)
    refine (told_spec hs1 hs2 (by omega) r3 on3 hb2 p.p).mono ?_
    rintro v g11 ⟨k11, rfl⟩
    refine ⟨Undis.off rfl, ?_⟩
    replace r1 := r1.keep k11
    replace r2 := r2.keep k11
    replace r3 := r3.keep k11
    replace r6 := r6.keep k11
    replace on3 := on3.keep k11
    (repeat (first|apply qbi|apply qa9|(apply qa7;dsimp only[qbc,List.map,Nat.reduceAdd])|apply qbj|apply qbd|apply qbe|apply qbn|apply qbp|apply qbo|apply qa1|apply qau|apply qbb|apply qas|apply qaq|apply qam rfl|apply qaw|apply qar|apply qax|apply qay|apply qa2|apply qav|((first|apply qa8|apply qbg|apply qbh|apply qbm|apply qbf|apply qba|apply qa0|apply qal|apply qak|apply qat)<;>first|(apply qao;(repeat' first|assumption|exact qaa rfl|apply qaf rfl|apply qab);done)|exact qan _ _|exact qai _|exact qap _|exact qad|exact qag|exact qae|exact qac|exact qah _|exact qa4 _ (by omega)|exact qa3 (by omega)|exact qa5 (by omega)|exact rfl|assumption|apply qa6)|((first|apply qbl|apply qaz|apply qaj)<;>first|(apply qao;(repeat' first|assumption|exact qaa rfl|apply qaf rfl|apply qab);done)|exact qan _ _|exact qai _|exact qap _|exact qad|exact qag|exact qae|exact qac|exact qah _|exact qa4 _ (by omega)|exact qa3 (by omega)|exact qa5 (by omega)|exact rfl|assumption|apply qa6)|(apply qbk rfl rfl;(focus (repeat' first|assumption|exact qaa rfl|apply qaf rfl|apply qab);done))|(apply qb1 rfl rfl;(focus (repeat' first|assumption|exact qaa rfl|apply qaf rfl|apply qab);done);exact rfl)))
    apply qcg (toldZ known p.p)
    · (focus first|(apply qao;(repeat' first|assumption|exact qaa rfl|apply qaf rfl|apply qab);done)|exact qan _ _|exact qai _|exact qap _|exact qad|exact qag|exact qae|exact qac|exact qah _)
    · intro c
      simp only [c, if_true]
      (repeat (first|apply qbi|apply qa9|(apply qa7;dsimp only[qbc,List.map,Nat.reduceAdd])|apply qbj|apply qbd|apply qbe|apply qbn|apply qbp|apply qbo|apply qa1|apply qau|apply qbb|apply qas|apply qaq|apply qam rfl|apply qaw|apply qar|apply qax|apply qay|apply qa2|apply qav|((first|apply qa8|apply qbg|apply qbh|apply qbm|apply qbf|apply qba|apply qa0|apply qal|apply qak|apply qat)<;>first|(apply qao;(repeat' first|assumption|exact qaa rfl|apply qaf rfl|apply qab);done)|exact qan _ _|exact qai _|exact qap _|exact qad|exact qag|exact qae|exact qac|exact qah _|exact qa4 _ (by omega)|exact qa3 (by omega)|exact qa5 (by omega)|exact rfl|assumption|apply qa6)|((first|apply qbl|apply qaz|apply qaj)<;>first|(apply qao;(repeat' first|assumption|exact qaa rfl|apply qaf rfl|apply qab);done)|exact qan _ _|exact qai _|exact qap _|exact qad|exact qag|exact qae|exact qac|exact qah _|exact qa4 _ (by omega)|exact qa3 (by omega)|exact qa5 (by omega)|exact rfl|assumption|apply qa6)|(apply qbk rfl rfl;(focus (repeat' first|assumption|exact qaa rfl|apply qaf rfl|apply qab);done))|(apply qb1 rfl rfl;(focus (repeat' first|assumption|exact qaa rfl|apply qaf rfl|apply qab);done);exact rfl)))
      (apply qcl; (focus first|(apply qao;(repeat' first|assumption|exact qaa rfl|apply qaf rfl|apply qab);done)|exact qan _ _|exact qai _|exact qap _|exact qad|exact qag|exact qae|exact qac|exact qah _); (repeat (apply qbt; (focus first|(apply qao;(repeat' first|assumption|exact qaa rfl|apply qaf rfl|apply qab);done)|exact qan _ _|exact qai _|exact qap _|exact qad|exact qag|exact qae|exact qac|exact qah _))); exact qby)
      refine (part_spec hs4 (by omega) _ _ _).mono ?_
      rintro v g12 ⟨rfl, rfl⟩
      refine ⟨Undis.off rfl, ?_⟩
      (repeat (first|apply qbi|apply qa9|(apply qa7;dsimp only[qbc,List.map,Nat.reduceAdd])|apply qbj|apply qbd|apply qbe|apply qbn|apply qbp|apply qbo|apply qa1|apply qau|apply qbb|apply qas|apply qaq|apply qam rfl|apply qaw|apply qar|apply qax|apply qay|apply qa2|apply qav|((first|apply qa8|apply qbg|apply qbh|apply qbm|apply qbf|apply qba|apply qa0|apply qal|apply qak|apply qat)<;>first|(apply qao;(repeat' first|assumption|exact qaa rfl|apply qaf rfl|apply qab);done)|exact qan _ _|exact qai _|exact qap _|exact qad|exact qag|exact qae|exact qac|exact qah _|exact qa4 _ (by omega)|exact qa3 (by omega)|exact qa5 (by omega)|exact rfl|assumption|apply qa6)|((first|apply qbl|apply qaz|apply qaj)<;>first|(apply qao;(repeat' first|assumption|exact qaa rfl|apply qaf rfl|apply qab);done)|exact qan _ _|exact qai _|exact qap _|exact qad|exact qag|exact qae|exact qac|exact qah _|exact qa4 _ (by omega)|exact qa3 (by omega)|exact qa5 (by omega)|exact rfl|assumption|apply qa6)|(apply qbk rfl rfl;(focus (repeat' first|assumption|exact qaa rfl|apply qaf rfl|apply qab);done))|(apply qb1 rfl rfl;(focus (repeat' first|assumption|exact qaa rfl|apply qaf rfl|apply qab);done);exact rfl)))
      (apply qb5 rfl; (repeat' first|assumption|exact qaa rfl|apply qaf rfl|apply qab))
      exact ⟨kk.trans k11, rfl⟩
    · intro c
      simp only [c]
      (repeat (first|apply qbi|apply qa9|(apply qa7;dsimp only[qbc,List.map,Nat.reduceAdd])|apply qbj|apply qbd|apply qbe|apply qbn|apply qbp|apply qbo|apply qa1|apply qau|apply qbb|apply qas|apply qaq|apply qam rfl|apply qaw|apply qar|apply qax|apply qay|apply qa2|apply qav|((first|apply qa8|apply qbg|apply qbh|apply qbm|apply qbf|apply qba|apply qa0|apply qal|apply qak|apply qat)<;>first|(apply qao;(repeat' first|assumption|exact qaa rfl|apply qaf rfl|apply qab);done)|exact qan _ _|exact qai _|exact qap _|exact qad|exact qag|exact qae|exact qac|exact qah _|exact qa4 _ (by omega)|exact qa3 (by omega)|exact qa5 (by omega)|exact rfl|assumption|apply qa6)|((first|apply qbl|apply qaz|apply qaj)<;>first|(apply qao;(repeat' first|assumption|exact qaa rfl|apply qaf rfl|apply qab);done)|exact qan _ _|exact qai _|exact qap _|exact qad|exact qag|exact qae|exact qac|exact qah _|exact qa4 _ (by omega)|exact qa3 (by omega)|exact qa5 (by omega)|exact rfl|assumption|apply qa6)|(apply qbk rfl rfl;(focus (repeat' first|assumption|exact qaa rfl|apply qaf rfl|apply qab);done))|(apply qb1 rfl rfl;(focus (repeat' first|assumption|exact qaa rfl|apply qaf rfl|apply qab);done);exact rfl)))
      (apply qb5 rfl; (repeat' first|assumption|exact qaa rfl|apply qaf rfl|apply qab))
      exact ⟨kk.trans k11, rfl⟩
end Go.Am
namespace Go.Am
open Go Go.Proofs AM
set_option maxRecDepth 10000
variable {pol : Pol} {sums : Sums}
attribute [local irreducible] KSeq KMid KBlock KLoop KOps KFunc Runs qcs qcd aopsM aop qci qcc qcx qcx? qbz qck qbw

def ints (l : List Int) : List AV := l.map fun i => .int .i64 i
@[simp] theorem ints_length (l : List Int) : (ints l).length = l.length := by simp [ints]
theorem ints_append (l m : List Int) : ints (l ++ m) = ints l ++ ints m := by simp [ints]
theorem ints_at {l : List Int} {i : Nat} (hi : i < l.length) : ((ints l).drop (i * 1)).take 1 = [.int .i64 l[i]] := by
  rw [Nat.mul_one, List.drop_eq_getElem_cons (by simpa using hi)]
  simp [ints]
theorem ints_ones (l : List Int) : ones (ints l) = true := by simp [ones, ints, one]
/-- a slice of numbers -/
abbrev Ints (h : Hp) (v : AV) (l : List Int) : Prop := SlV h 1 v l.length (ints l)

theorem indexFunc_spec (hs : sums 54 = none) (n : Nat) (F : AV) (R : Int → Bool → Prop) {h : Hp} {s : AV} {l : List Int} (o : Ints h s l) (hn : l.length < n) (hb : l.length < 2 ^ 62)
    (hF : ∀ h1, Keep h h1 → ∀ e ∈ l, Runs (qci Try.prog pol sums n F [.int .i64 e]) h1 fun v h2 => ∃ b, v = .bool b ∧ R e b ∧ Keep h1 h2) :
    Runs (qci Try.prog pol sums (n + 1) (.func (.func 54) [] []) [s, F]) h (fun v h' => Keep h h' ∧
      ((v = .int .i64 (-1) ∧ ∀ e ∈ l, R e false) ∨ ∃ (i : Nat) (hi : i < l.length), v = .int .i64 i ∧ R l[i] true ∧ ∀ (j : Nat) (hj : j < i), R (l[j]'(by omega)) false)) := by
  refine qc7 hs Try.func54 rfl (by simp [Try.f54]) ?_
  have h0 : qcc (qbw Try.f54.ntmps ([] ++ [s, F] ++ [])) 0 = s := qbu rfl
  have h1 : qcc (qbw Try.f54.ntmps ([] ++ [s, F] ++ [])) 1 = F := qbu rfl
  generalize qbw Try.f54.ntmps ([] ++ [s, F] ++ []) = T at *
  show Runs (qcd _ _ _ _ 19 _ _ _) _ _
  (repeat (first|apply qbi|apply qa9|(apply qa7;dsimp only[qbc,List.map,Nat.reduceAdd])|apply qbj|apply qbd|apply qbe|apply qbn|apply qbp|apply qbo|apply qa1|apply qau|apply qbb|apply qas|apply qaq|apply qam rfl|apply qaw|apply qar|apply qax|apply qay|apply qa2|apply qav|((first|apply qa8|apply qbg|apply qbh|apply qbm|apply qbf|apply qba|apply qa0|apply qal|apply qak|apply qat)<;>first|(apply qao;(repeat' first|assumption|exact qaa rfl|apply qaf rfl|apply qab);done)|exact qan _ _|exact qai _|exact qap _|exact qad|exact qag|exact qae|exact qac|exact qah _|exact qa4 _ (by omega)|exact qa3 (by omega)|exact qa5 (by omega)|exact rfl|assumption|apply qa6)|((first|apply qbl|apply qaz|apply qaj)<;>first|(apply qao;(repeat' first|assumption|exact qaa rfl|apply qaf rfl|apply qab);done)|exact qan _ _|exact qai _|exact qap _|exact qad|exact qag|exact qae|exact qac|exact qah _|exact qa4 _ (by omega)|exact qa3 (by omega)|exact qa5 (by omega)|exact rfl|assumption|apply qa6)|(apply qbk rfl rfl;(focus (repeat' first|assumption|exact qaa rfl|apply qaf rfl|apply qab);done))|(apply qb1 rfl rfl;(focus (repeat' first|assumption|exact qaa rfl|apply qaf rfl|apply qab);done);exact rfl)))
  apply R_loop (k := l.length) (I := fun k T h1 => ∃ i, k = l.length - i ∧ i ≤ l.length ∧ qcc T 0 = s ∧ qcc T 1 = F ∧ qcc T 7 = .int .i64 l.length ∧ qcc T 8 = .int .i64 i ∧ Keep h h1 ∧ ∀ (j : Nat) (hj : j < i) (hl : j < l.length), R l[j] false)
  · exact hn
  · exact ⟨0, by omega, by omega, by (repeat' first|assumption|exact qaa rfl|apply qaf rfl|apply qab), by (repeat' first|assumption|exact qaa rfl|apply qaf rfl|apply qab), by (repeat' first|assumption|exact qaa rfl|apply qaf rfl|apply qab), by (repeat' first|assumption|exact qaa rfl|apply qaf rfl|apply qab), Keep.refl h, fun j hj => by omega⟩
  · rintro k T h1 ⟨i, rfl, hi, t0, t1, t7, t8, kp, hall⟩
    (repeat (first|apply qbi|apply qa9|(apply qa7;dsimp only[qbc,List.map,Nat.reduceAdd])|apply qbj|apply qbd|apply qbe|apply qbn|apply qbp|apply qbo|apply qa1|apply qau|apply qbb|apply qas|apply qaq|apply qam rfl|apply qaw|apply qar|apply qax|apply qay|apply qa2|apply qav|((first|apply qa8|apply qbg|apply qbh|apply qbm|apply qbf|apply qba|apply qa0|apply qal|apply qak|apply qat)<;>first|(apply qao;(repeat' first|assumption|exact qaa rfl|apply qaf rfl|apply qab);done)|exact qan _ _|exact qai _|exact qap _|exact qad|exact qag|exact qae|exact qac|exact qah _|exact qa4 _ (by omega)|exact qa3 (by omega)|exact qa5 (by omega)|exact rfl|assumption|apply qa6)|((first|apply qbl|apply qaz|apply qaj)<;>first|(apply qao;(repeat' first|assumption|exact qaa rfl|apply qaf rfl|apply qab);done)|exact qan _ _|exact qai _|exact qap _|exact qad|exact qag|exact qae|exact qac|exact qah _|exact qa4 _ (by omega)|exact qa3 (by omega)|exact qa5 (by omega)|exact rfl|assumption|apply qa6)|(apply qbk rfl rfl;(focus (repeat' first|assumption|exact qaa rfl|apply qaf rfl|apply qab);done))|(apply qb1 rfl rfl;(focus (repeat' first|assumption|exact qaa rfl|apply qaf rfl|apply qab);done);exact rfl)))
    apply qcg (decide ((i : Int) < (l.length : Int)))
    · (focus first|(apply qao;(repeat' first|assumption|exact qaa rfl|apply qaf rfl|apply qab);done)|exact qan _ _|exact qai _|exact qap _|exact qad|exact qag|exact qae|exact qac|exact qah _)
    · intro c
      have hlt : i < l.length := by simpa using c
      (repeat (first|apply qbi|apply qa9|(apply qa7;dsimp only[qbc,List.map,Nat.reduceAdd])|apply qbj|apply qbd|apply qbe|apply qbn|apply qbp|apply qbo|apply qa1|apply qau|apply qbb|apply qas|apply qaq|apply qam rfl|apply qaw|apply qar|apply qax|apply qay|apply qa2|apply qav|((first|apply qa8|apply qbg|apply qbh|apply qbm|apply qbf|apply qba|apply qa0|apply qal|apply qak|apply qat)<;>first|(apply qao;(repeat' first|assumption|exact qaa rfl|apply qaf rfl|apply qab);done)|exact qan _ _|exact qai _|exact qap _|exact qad|exact qag|exact qae|exact qac|exact qah _|exact qa4 _ (by omega)|exact qa3 (by omega)|exact qa5 (by omega)|exact rfl|assumption|apply qa6)|((first|apply qbl|apply qaz|apply qaj)<;>first|(apply qao;(repeat' first|assumption|exact qaa rfl|apply qaf rfl|apply qab);done)|exact qan _ _|exact qai _|exact qap _|exact qad|exact qag|exact qae|exact qac|exact qah _|exact qa4 _ (by omega)|exact qa3 (by omega)|exact qa5 (by omega)|exact rfl|assumption|apply qa6)|(apply qbk rfl rfl;(focus (repeat' first|assumption|exact qaa rfl|apply qaf rfl|apply qab);done))|(apply qb1 rfl rfl;(focus (repeat' first|assumption|exact qaa rfl|apply qaf rfl|apply qab);done);exact rfl)))
      apply qca
      · (focus first|(apply qao;(repeat' first|assumption|exact qaa rfl|apply qaf rfl|apply qab);done)|exact qan _ _|exact qai _|exact qap _|exact qad|exact qag|exact qae|exact qac|exact qah _)
      · exact o.keep kp
      · (focus first|(apply qao;(repeat' first|assumption|exact qaa rfl|apply qaf rfl|apply qab);done)|exact qan _ _|exact qai _|exact qap _|exact qad|exact qag|exact qae|exact qac|exact qah _)
      · exact hlt
      · rfl
      intro a ha _
      rw [ints_at hlt] at ha
      apply qc0
      · (focus first|(apply qao;(repeat' first|assumption|exact qaa rfl|apply qaf rfl|apply qab);done)|exact qan _ _|exact qai _|exact qap _|exact qad|exact qag|exact qae|exact qac|exact qah _)
      · exact ha
      (apply qcl; (focus first|(apply qao;(repeat' first|assumption|exact qaa rfl|apply qaf rfl|apply qab);done)|exact qan _ _|exact qai _|exact qap _|exact qad|exact qag|exact qae|exact qac|exact qah _); (repeat (apply qbt; (focus first|(apply qao;(repeat' first|assumption|exact qaa rfl|apply qaf rfl|apply qab);done)|exact qan _ _|exact qai _|exact qap _|exact qad|exact qag|exact qae|exact qac|exact qah _))); exact qby)
      refine (hF h1 kp l[i] (List.getElem_mem hlt)).mono ?_
      rintro v h2 ⟨b, rfl, hR, kp2⟩
      refine ⟨kp2.undis, ?_⟩
      (repeat (first|apply qbi|apply qa9|(apply qa7;dsimp only[qbc,List.map,Nat.reduceAdd])|apply qbj|apply qbd|apply qbe|apply qbn|apply qbp|apply qbo|apply qa1|apply qau|apply qbb|apply qas|apply qaq|apply qam rfl|apply qaw|apply qar|apply qax|apply qay|apply qa2|apply qav|((first|apply qa8|apply qbg|apply qbh|apply qbm|apply qbf|apply qba|apply qa0|apply qal|apply qak|apply qat)<;>first|(apply qao;(repeat' first|assumption|exact qaa rfl|apply qaf rfl|apply qab);done)|exact qan _ _|exact qai _|exact qap _|exact qad|exact qag|exact qae|exact qac|exact qah _|exact qa4 _ (by omega)|exact qa3 (by omega)|exact qa5 (by omega)|exact rfl|assumption|apply qa6)|((first|apply qbl|apply qaz|apply qaj)<;>first|(apply qao;(repeat' first|assumption|exact qaa rfl|apply qaf rfl|apply qab);done)|exact qan _ _|exact qai _|exact qap _|exact qad|exact qag|exact qae|exact qac|exact qah _|exact qa4 _ (by omega)|exact qa3 (by omega)|exact qa5 (by omega)|exact rfl|assumption|apply qa6)|(apply qbk rfl rfl;(focus (repeat' first|assumption|exact qaa rfl|apply qaf rfl|apply qab);done))|(apply qb1 rfl rfl;(focus (repeat' first|assumption|exact qaa rfl|apply qaf rfl|apply qab);done);exact rfl)))
      apply qcg b
      · (focus first|(apply qao;(repeat' first|assumption|exact qaa rfl|apply qaf rfl|apply qab);done)|exact qan _ _|exact qai _|exact qap _|exact qad|exact qag|exact qae|exact qac|exact qah _)
      · rintro rfl
        (repeat (first|apply qbi|apply qa9|(apply qa7;dsimp only[qbc,List.map,Nat.reduceAdd])|apply qbj|apply qbd|apply qbe|apply qbn|apply qbp|apply qbo|apply qa1|apply qau|apply qbb|apply qas|apply qaq|apply qam rfl|apply qaw|apply qar|apply qax|apply qay|apply qa2|apply qav|((first|apply qa8|apply qbg|apply qbh|apply qbm|apply qbf|apply qba|apply qa0|apply qal|apply qak|apply qat)<;>first|(apply qao;(repeat' first|assumption|exact qaa rfl|apply qaf rfl|apply qab);done)|exact qan _ _|exact qai _|exact qap _|exact qad|exact qag|exact qae|exact qac|exact qah _|exact qa4 _ (by omega)|exact qa3 (by omega)|exact qa5 (by omega)|exact rfl|assumption|apply qa6)|((first|apply qbl|apply qaz|apply qaj)<;>first|(apply qao;(repeat' first|assumption|exact qaa rfl|apply qaf rfl|apply qab);done)|exact qan _ _|exact qai _|exact qap _|exact qad|exact qag|exact qae|exact qac|exact qah _|exact qa4 _ (by omega)|exact qa3 (by omega)|exact qa5 (by omega)|exact rfl|assumption|apply qa6)|(apply qbk rfl rfl;(focus (repeat' first|assumption|exact qaa rfl|apply qaf rfl|apply qab);done))|(apply qb1 rfl rfl;(focus (repeat' first|assumption|exact qaa rfl|apply qaf rfl|apply qab);done);exact rfl)))
        (apply qb5 rfl; (repeat' first|assumption|exact qaa rfl|apply qaf rfl|apply qab))
        exact ⟨kp.trans kp2, .inr ⟨i, hlt, rfl, hR, fun j hj => hall j hj (by omega)⟩⟩
      · rintro rfl
        (repeat (first|apply qbi|apply qa9|(apply qa7;dsimp only[qbc,List.map,Nat.reduceAdd])|apply qbj|apply qbd|apply qbe|apply qbn|apply qbp|apply qbo|apply qa1|apply qau|apply qbb|apply qas|apply qaq|apply qam rfl|apply qaw|apply qar|apply qax|apply qay|apply qa2|apply qav|((first|apply qa8|apply qbg|apply qbh|apply qbm|apply qbf|apply qba|apply qa0|apply qal|apply qak|apply qat)<;>first|(apply qao;(repeat' first|assumption|exact qaa rfl|apply qaf rfl|apply qab);done)|exact qan _ _|exact qai _|exact qap _|exact qad|exact qag|exact qae|exact qac|exact qah _|exact qa4 _ (by omega)|exact qa3 (by omega)|exact qa5 (by omega)|exact rfl|assumption|apply qa6)|((first|apply qbl|apply qaz|apply qaj)<;>first|(apply qao;(repeat' first|assumption|exact qaa rfl|apply qaf rfl|apply qab);done)|exact qan _ _|exact qai _|exact qap _|exact qad|exact qag|exact qae|exact qac|exact qah _|exact qa4 _ (by omega)|exact qa3 (by omega)|exact qa5 (by omega)|exact rfl|assumption|apply qa6)|(apply qbk rfl rfl;(focus (repeat' first|assumption|exact qaa rfl|apply qaf rfl|apply qab);done))|(apply qb1 rfl rfl;(focus (repeat' first|assumption|exact qaa rfl|apply qaf rfl|apply qab);done);exact rfl)))
        apply K_loop (l.length - (i + 1)) (by omega)
        refine ⟨i + 1, rfl, by omega, by (repeat' first|assumption|exact qaa rfl|apply qaf rfl|apply qab), by (repeat' first|assumption|exact qaa rfl|apply qaf rfl|apply qab), by (repeat' first|assumption|exact qaa rfl|apply qaf rfl|apply qab), by (repeat' first|assumption|exact qaa rfl|apply qaf rfl|apply qab), kp.trans kp2, fun j hj hl => ?_⟩
        by_cases e : j = i
        · subst e; exact hR
        · exact hall j (by omega) hl
    · intro c
      (repeat (first|apply qbi|apply qa9|(apply qa7;dsimp only[qbc,List.map,Nat.reduceAdd])|apply qbj|apply qbd|apply qbe|apply qbn|apply qbp|apply qbo|apply qa1|apply qau|apply qbb|apply qas|apply qaq|apply qam rfl|apply qaw|apply qar|apply qax|apply qay|apply qa2|apply qav|((first|apply qa8|apply qbg|apply qbh|apply qbm|apply qbf|apply qba|apply qa0|apply qal|apply qak|apply qat)<;>first|(apply qao;(repeat' first|assumption|exact qaa rfl|apply qaf rfl|apply qab);done)|exact qan _ _|exact qai _|exact qap _|exact qad|exact qag|exact qae|exact qac|exact qah _|exact qa4 _ (by omega)|exact qa3 (by omega)|exact qa5 (by omega)|exact rfl|assumption|apply qa6)|((first|apply qbl|apply qaz|apply qaj)<;>first|(apply qao;(repeat' first|assumption|exact qaa rfl|apply qaf rfl|apply qab);done)|exact qan _ _|exact qai _|exact qap _|exact qad|exact qag|exact qae|exact qac|exact qah _|exact qa4 _ (by omega)|exact qa3 (by omega)|exact qa5 (by omega)|exact rfl|assumption|apply qa6)|(apply qbk rfl rfl;(focus (repeat' first|assumption|exact qaa rfl|apply qaf rfl|apply qab);done))|(apply qb1 rfl rfl;(focus (repeat' first|assumption|exact qaa rfl|apply qaf rfl|apply qab);done);exact rfl)))
      (apply qb5 rfl; (repeat' first|assumption|exact qaa rfl|apply qaf rfl|apply qab))
      refine ⟨kp, .inl ⟨rfl, fun e he => ?_⟩⟩
      obtain ⟨j, hj, rfl⟩ := List.getElem_of_mem he
      have : ¬ i < l.length := by simpa using c
      exact hall j (by omega) hj
end Go.Am
namespace Go.Am
open Go Go.Proofs AM
set_option maxRecDepth 10000
variable {pol : Pol} {sums : Sums}
attribute [local irreducible] KSeq KMid KBlock KLoop KOps KFunc Runs qcs qcd aopsM aop qci qcc qcx qcx? qbz qck qbw

/-- what is left of a row when some are taken out -/
inductive Filt (R : Int → Bool → Prop) : List Int → List Int → Prop
  | nil : Filt R [] []
  | keep {l l' : List Int} {e : Int} (r : R e false) (f : Filt R l l') : Filt R (l ++ [e]) (l' ++ [e])
  | drop {l l' : List Int} {e : Int} (r : R e true) (f : Filt R l l') : Filt R (l ++ [e]) l'
theorem Filt.length {R : Int → Bool → Prop} {l l' : List Int} (f : Filt R l l') : l'.length ≤ l.length := by
  induction f with
  | nil => exact Nat.le_refl _
  | keep _ _ ih => simpa using ih
  | drop _ _ ih => simp; omega
theorem Filt.all {R : Int → Bool → Prop} (l : List Int) : (∀ e ∈ l, R e false) → Filt R l l := by
  induction h : l.length generalizing l with
  | zero => intro _; rw [List.length_eq_zero_iff.1 h]; exact .nil
  | succ n ih =>
    intro hl
    have hne : l ≠ [] := by rintro rfl; cases h
    rw [← List.dropLast_concat_getLast hne]
    exact .keep (hl _ (List.getLast_mem hne)) (ih _ (by simp [h]) (fun e he => hl e (List.dropLast_subset l he)))
theorem Filt.done {R : Int → Bool → Prop} {l l' : List Int} (f : Filt R l l') (p : Int → Bool) (hR : ∀ e b, R e b → b = p e) : l' = l.filter fun e => !(p e) := by
  induction f with
  | nil => rfl
  | keep r _ ih => have := hR _ _ r; simp [ih, ← this]
  | drop r _ ih => have := hR _ _ r; simp [ih, ← this]

/-- a row of numbers that may be written: its cells from a place on -/
def RowInts (h : Hp) (id ver off : Nat) (fix : Bool) (len : Nat) (l : List Int) : Prop := ∃ row, Row h id ver 1 row fix ∧ row.length = len ∧ off + l.length ≤ len ∧ (row.drop off).take l.length = ints l
theorem RowInts.slv {h : Hp} {id ver off len : Nat} {fix : Bool} {l : List Int} (o : RowInts h id ver off fix len l) : Ints h (.own id ver off l.length) l := by
  obtain ⟨row, h1, h2, h3, h4⟩ := o
  have := SlV.own id ver off l.length row fix h1 (by omega)
  rw [Nat.mul_one, h4] at this
  exact this
theorem RowInts.keep {h h1 : Hp} {id ver off len : Nat} {fix : Bool} {l : List Int} (o : RowInts h id ver off fix len l) (k : Keep h h1) : RowInts h1 id ver off fix len l := by
  obtain ⟨row, h1, h2⟩ := o
  exact ⟨row, h1.keep k, h2⟩
theorem RowInts.pfx {h : Hp} {id ver off len : Nat} {fix : Bool} {l : List Int} (o : RowInts h id ver off fix len l) (i : Nat) : RowInts h id ver off fix len (l.take i) := by
  obtain ⟨row, h1, h2, h3, h4⟩ := o
  refine ⟨row, h1, h2, by simp; omega, ?_⟩
  have : ints (l.take i) = (ints l).take i := by simp [ints, List.map_take]
  rw [this, ← h4, List.take_take]
  simp
theorem RowInts.splice {h1 : Hp} {id ver off i : Nat} {e : Int} {fix : Bool} {l : List Int} {row : List AV} (r : Row h1 id ver 1 (splice row (off + i * 1) [.int .i64 e]) fix) (h3 : off + l.length ≤ row.length) (h4 : (row.drop off).take l.length = ints l) (hi : i < l.length) :
    RowInts h1 id ver off fix row.length (l.set i e) := by
  refine ⟨_, r, by rw [qda (by simp; omega)], by simpa using h3, ?_⟩
  rw [splice_one (by omega), List.length_set]
  have h2 : ints (l.set i e) = (ints l).set i (.int .i64 e) := by simp [ints, List.map_set]
  rw [h2, ← h4]
  apply List.ext_getElem?
  intro j
  simp only [List.getElem?_take, List.getElem?_drop, List.getElem?_set, List.length_take, List.length_drop]
  by_cases e1 : i = j
  · subst e1
    have h5 : off + i < row.length := by omega
    simp [hi, h5]
    omega
  · by_cases h3 : j < l.length
    · simp [e1, h3]
    · simp [e1, h3]

theorem deleteFunc_spec (hs : sums 24 = none) (hs2 : sums 54 = none) (n : Nat) (F : AV) (R : Int → Bool → Prop) {h : Hp} {id ver off len : Nat} {fix : Bool} {l : List Int} (o : RowInts h id ver off fix len l) (hn : l.length + 1 < n) (hb : l.length < 2 ^ 62)
    (hF : ∀ m h1, n ≤ m + 1 → KeepBut (· = id) h h1 → ∀ e ∈ l, Runs (qci Try.prog pol sums m F [.int .i64 e]) h1 fun v h2 => ∃ b, v = .bool b ∧ R e b ∧ Keep h1 h2) :
    Runs (qci Try.prog pol sums (n + 1) (.func (.func 24) [] []) [.own id ver off l.length, F]) h (fun v h' => KeepBut (· = id) h h' ∧ ∃ l', v = .own id ver off l'.length ∧ Filt R l l' ∧ RowInts h' id ver off fix len l') := by
  refine qc7 hs Try.func24 rfl (by simp [Try.f24]) ?_
  have h0 : qcc (qbw Try.f24.ntmps ([] ++ [AV.own id ver off l.length, F] ++ [])) 0 = .own id ver off l.length := qbu rfl
  have h1 : qcc (qbw Try.f24.ntmps ([] ++ [AV.own id ver off l.length, F] ++ [])) 1 = F := qbu rfl
  generalize qbw Try.f24.ntmps ([] ++ [AV.own id ver off l.length, F] ++ []) = T at *
  show Runs (qcd _ _ _ _ 42 _ _ _) _ _
  obtain ⟨n, rfl⟩ : ∃ m, n = m + 1 := ⟨n - 1, by omega⟩
  (repeat (first|apply qbi|apply qa9|(apply qa7;dsimp only[qbc,List.map,Nat.reduceAdd])|apply qbj|apply qbd|apply qbe|apply qbn|apply qbp|apply qbo|apply qa1|apply qau|apply qbb|apply qas|apply qaq|apply qam rfl|apply qaw|apply qar|apply qax|apply qay|apply qa2|apply qav|((first|apply qa8|apply qbg|apply qbh|apply qbm|apply qbf|apply qba|apply qa0|apply qal|apply qak|apply qat)<;>first|(apply qao;(repeat' first|assumption|exact qaa rfl|apply qaf rfl|apply qab);done)|exact qan _ _|exact qai _|exact qap _|exact qad|exact qag|exact qae|exact qac|exact qah _|exact qa4 _ (by omega)|exact qa3 (by omega)|exact qa5 (by omega)|exact rfl|assumption|apply qa6)|((first|apply qbl|apply qaz|apply qaj)<;>first|(apply qao;(repeat' first|assumption|exact qaa rfl|apply qaf rfl|apply qab);done)|exact qan _ _|exact qai _|exact qap _|exact qad|exact qag|exact qae|exact qac|exact qah _|exact qa4 _ (by omega)|exact qa3 (by omega)|exact qa5 (by omega)|exact rfl|assumption|apply qa6)|(apply qbk rfl rfl;(focus (repeat' first|assumption|exact qaa rfl|apply qaf rfl|apply qab);done))|(apply qb1 rfl rfl;(focus (repeat' first|assumption|exact qaa rfl|apply qaf rfl|apply qab);done);exact rfl)))
  (apply qcl; (focus first|(apply qao;(repeat' first|assumption|exact qaa rfl|apply qaf rfl|apply qab);done)|exact qan _ _|exact qai _|exact qap _|exact qad|exact qag|exact qae|exact qac|exact qah _); (repeat (apply qbt; (focus first|(apply qao;(repeat' first|assumption|exact qaa rfl|apply qaf rfl|apply qab);done)|exact qan _ _|exact qai _|exact qap _|exact qad|exact qag|exact qae|exact qac|exact qah _))); exact qby)
  refine (indexFunc_spec hs2 n F R o.slv (by omega) hb (fun h1 k e he => hF n h1 (by omega) (k.but _) e he)).mono ?_
  rintro v h1 ⟨kp, hv⟩
  refine ⟨kp.undis, ?_⟩
  rcases hv with ⟨rfl, hall⟩ | ⟨i, hi, rfl, hRi, hbef⟩
  · (repeat (first|apply qbi|apply qa9|(apply qa7;dsimp only[qbc,List.map,Nat.reduceAdd])|apply qbj|apply qbd|apply qbe|apply qbn|apply qbp|apply qbo|apply qa1|apply qau|apply qbb|apply qas|apply qaq|apply qam rfl|apply qaw|apply qar|apply qax|apply qay|apply qa2|apply qav|((first|apply qa8|apply qbg|apply qbh|apply qbm|apply qbf|apply qba|apply qa0|apply qal|apply qak|apply qat)<;>first|(apply qao;(repeat' first|assumption|exact qaa rfl|apply qaf rfl|apply qab);done)|exact qan _ _|exact qai _|exact qap _|exact qad|exact qag|exact qae|exact qac|exact qah _|exact qa4 _ (by omega)|exact qa3 (by omega)|exact qa5 (by omega)|exact rfl|assumption|apply qa6)|((first|apply qbl|apply qaz|apply qaj)<;>first|(apply qao;(repeat' first|assumption|exact qaa rfl|apply qaf rfl|apply qab);done)|exact qan _ _|exact qai _|exact qap _|exact qad|exact qag|exact qae|exact qac|exact qah _|exact qa4 _ (by omega)|exact qa3 (by omega)|exact qa5 (by omega)|exact rfl|assumption|apply qa6)|(apply qbk rfl rfl;(focus (repeat' first|assumption|exact qaa rfl|apply qaf rfl|apply qab);done))|(apply qb1 rfl rfl;(focus (repeat' first|assumption|exact qaa rfl|apply qaf rfl|apply qab);done);exact rfl)))
    apply qcg true
    · (focus first|(apply qao;(repeat' first|assumption|exact qaa rfl|apply qaf rfl|apply qab);done)|exact qan _ _|exact qai _|exact qap _|exact qad|exact qag|exact qae|exact qac|exact qah _)
    · intro _
      (repeat (first|apply qbi|apply qa9|(apply qa7;dsimp only[qbc,List.map,Nat.reduceAdd])|apply qbj|apply qbd|apply qbe|apply qbn|apply qbp|apply qbo|apply qa1|apply qau|apply qbb|apply qas|apply qaq|apply qam rfl|apply qaw|apply qar|apply qax|apply qay|apply qa2|apply qav|((first|apply qa8|apply qbg|apply qbh|apply qbm|apply qbf|apply qba|apply qa0|apply qal|apply qak|apply qat)<;>first|(apply qao;(repeat' first|assumption|exact qaa rfl|apply qaf rfl|apply qab);done)|exact qan _ _|exact qai _|exact qap _|exact qad|exact qag|exact qae|exact qac|exact qah _|exact qa4 _ (by omega)|exact qa3 (by omega)|exact qa5 (by omega)|exact rfl|assumption|apply qa6)|((first|apply qbl|apply qaz|apply qaj)<;>first|(apply qao;(repeat' first|assumption|exact qaa rfl|apply qaf rfl|apply qab);done)|exact qan _ _|exact qai _|exact qap _|exact qad|exact qag|exact qae|exact qac|exact qah _|exact qa4 _ (by omega)|exact qa3 (by omega)|exact qa5 (by omega)|exact rfl|assumption|apply qa6)|(apply qbk rfl rfl;(focus (repeat' first|assumption|exact qaa rfl|apply qaf rfl|apply qab);done))|(apply qb1 rfl rfl;(focus (repeat' first|assumption|exact qaa rfl|apply qaf rfl|apply qab);done);exact rfl)))
      (apply qb5 rfl; (repeat' first|assumption|exact qaa rfl|apply qaf rfl|apply qab))
      exact ⟨kp.but _, l, rfl, Filt.all l hall, o.keep kp⟩
    · intro c; cases c
  · (repeat (first|apply qbi|apply qa9|(apply qa7;dsimp only[qbc,List.map,Nat.reduceAdd])|apply qbj|apply qbd|apply qbe|apply qbn|apply qbp|apply qbo|apply qa1|apply qau|apply qbb|apply qas|apply qaq|apply qam rfl|apply qaw|apply qar|apply qax|apply qay|apply qa2|apply qav|((first|apply qa8|apply qbg|apply qbh|apply qbm|apply qbf|apply qba|apply qa0|apply qal|apply qak|apply qat)<;>first|(apply qao;(repeat' first|assumption|exact qaa rfl|apply qaf rfl|apply qab);done)|exact qan _ _|exact qai _|exact qap _|exact qad|exact qag|exact qae|exact qac|exact qah _|exact qa4 _ (by omega)|exact qa3 (by omega)|exact qa5 (by omega)|exact rfl|assumption|apply qa6)|((first|apply qbl|apply qaz|apply qaj)<;>first|(apply qao;(repeat' first|assumption|exact qaa rfl|apply qaf rfl|apply qab);done)|exact qan _ _|exact qai _|exact qap _|exact qad|exact qag|exact qae|exact qac|exact qah _|exact qa4 _ (by omega)|exact qa3 (by omega)|exact qa5 (by omega)|exact rfl|assumption|apply qa6)|(apply qbk rfl rfl;(focus (repeat' first|assumption|exact qaa rfl|apply qaf rfl|apply qab);done))|(apply qb1 rfl rfl;(focus (repeat' first|assumption|exact qaa rfl|apply qaf rfl|apply qab);done);exact rfl)))
    apply qcg ((i : Int) == -1)
    · (focus first|(apply qao;(repeat' first|assumption|exact qaa rfl|apply qaf rfl|apply qab);done)|exact qan _ _|exact qai _|exact qap _|exact qad|exact qag|exact qae|exact qac|exact qah _)
    · intro c; simp at c
    intro _
    (repeat (first|apply qbi|apply qa9|(apply qa7;dsimp only[qbc,List.map,Nat.reduceAdd])|apply qbj|apply qbd|apply qbe|apply qbn|apply qbp|apply qbo|apply qa1|apply qau|apply qbb|apply qas|apply qaq|apply qam rfl|apply qaw|apply qar|apply qax|apply qay|apply qa2|apply qav|((first|apply qa8|apply qbg|apply qbh|apply qbm|apply qbf|apply qba|apply qa0|apply qal|apply qak|apply qat)<;>first|(apply qao;(repeat' first|assumption|exact qaa rfl|apply qaf rfl|apply qab);done)|exact qan _ _|exact qai _|exact qap _|exact qad|exact qag|exact qae|exact qac|exact qah _|exact qa4 _ (by omega)|exact qa3 (by omega)|exact qa5 (by omega)|exact rfl|assumption|apply qa6)|((first|apply qbl|apply qaz|apply qaj)<;>first|(apply qao;(repeat' first|assumption|exact qaa rfl|apply qaf rfl|apply qab);done)|exact qan _ _|exact qai _|exact qap _|exact qad|exact qag|exact qae|exact qac|exact qah _|exact qa4 _ (by omega)|exact qa3 (by omega)|exact qa5 (by omega)|exact rfl|assumption|apply qa6)|(apply qbk rfl rfl;(focus (repeat' first|assumption|exact qaa rfl|apply qaf rfl|apply qab);done))|(apply qb1 rfl rfl;(focus (repeat' first|assumption|exact qaa rfl|apply qaf rfl|apply qab);done);exact rfl)))
    apply R_loop (k := l.length - (i + 1)) (I := fun k T h2 => ∃ (w j : Nat) (cur : List Int), k = l.length - j ∧ w < j ∧ j ≤ l.length ∧ qcc T 0 = .own id ver off l.length ∧ qcc T 1 = F ∧ qcc T 5 = .int .i64 w ∧ qcc T 6 = .int .i64 j ∧ KeepBut (· = id) h h2 ∧
      RowInts h2 id ver off fix len cur ∧ cur.length = l.length ∧ cur.drop j = l.drop j ∧ Filt R (l.take j) (cur.take w))
    · omega
    · refine ⟨i, i + 1, l, by omega, by omega, by omega, by (repeat' first|assumption|exact qaa rfl|apply qaf rfl|apply qab), by (repeat' first|assumption|exact qaa rfl|apply qaf rfl|apply qab), by (repeat' first|assumption|exact qaa rfl|apply qaf rfl|apply qab), by (repeat' first|assumption|exact qaa rfl|apply qaf rfl|apply qab), kp.but _, o.keep kp, rfl, rfl, ?_⟩
      rw [List.take_succ_eq_append_getElem hi]
      refine .drop hRi (Filt.all _ fun e he => ?_)
      obtain ⟨j, hj, rfl⟩ := List.getElem_of_mem he
      rw [List.getElem_take]
      exact hbef j (by simp at hj; omega)
    · rintro k T h2 ⟨w, j, cur, rfl, hwj, hjl, t0, t1, t5, t6, kb, oc, hcl, hcd, hf⟩
      have osl : SlV h2 1 (.own id ver off l.length) l.length (ints cur) := by rw [← hcl]; exact oc.slv
      (repeat (first|apply qbi|apply qa9|(apply qa7;dsimp only[qbc,List.map,Nat.reduceAdd])|apply qbj|apply qbd|apply qbe|apply qbn|apply qbp|apply qbo|apply qa1|apply qau|apply qbb|apply qas|apply qaq|apply qam rfl|apply qaw|apply qar|apply qax|apply qay|apply qa2|apply qav|((first|apply qa8|apply qbg|apply qbh|apply qbm|apply qbf|apply qba|apply qa0|apply qal|apply qak|apply qat)<;>first|(apply qao;(repeat' first|assumption|exact qaa rfl|apply qaf rfl|apply qab);done)|exact qan _ _|exact qai _|exact qap _|exact qad|exact qag|exact qae|exact qac|exact qah _|exact qa4 _ (by omega)|exact qa3 (by omega)|exact qa5 (by omega)|exact rfl|assumption|apply qa6)|((first|apply qbl|apply qaz|apply qaj)<;>first|(apply qao;(repeat' first|assumption|exact qaa rfl|apply qaf rfl|apply qab);done)|exact qan _ _|exact qai _|exact qap _|exact qad|exact qag|exact qae|exact qac|exact qah _|exact qa4 _ (by omega)|exact qa3 (by omega)|exact qa5 (by omega)|exact rfl|assumption|apply qa6)|(apply qbk rfl rfl;(focus (repeat' first|assumption|exact qaa rfl|apply qaf rfl|apply qab);done))|(apply qb1 rfl rfl;(focus (repeat' first|assumption|exact qaa rfl|apply qaf rfl|apply qab);done);exact rfl)))
      apply qcg (decide ((j : Int) < (l.length : Int)))
      · (focus first|(apply qao;(repeat' first|assumption|exact qaa rfl|apply qaf rfl|apply qab);done)|exact qan _ _|exact qai _|exact qap _|exact qad|exact qag|exact qae|exact qac|exact qah _)
      · intro c
        have hlt : j < l.length := by simpa using c
        (repeat (first|apply qbi|apply qa9|(apply qa7;dsimp only[qbc,List.map,Nat.reduceAdd])|apply qbj|apply qbd|apply qbe|apply qbn|apply qbp|apply qbo|apply qa1|apply qau|apply qbb|apply qas|apply qaq|apply qam rfl|apply qaw|apply qar|apply qax|apply qay|apply qa2|apply qav|((first|apply qa8|apply qbg|apply qbh|apply qbm|apply qbf|apply qba|apply qa0|apply qal|apply qak|apply qat)<;>first|(apply qao;(repeat' first|assumption|exact qaa rfl|apply qaf rfl|apply qab);done)|exact qan _ _|exact qai _|exact qap _|exact qad|exact qag|exact qae|exact qac|exact qah _|exact qa4 _ (by omega)|exact qa3 (by omega)|exact qa5 (by omega)|exact rfl|assumption|apply qa6)|((first|apply qbl|apply qaz|apply qaj)<;>first|(apply qao;(repeat' first|assumption|exact qaa rfl|apply qaf rfl|apply qab);done)|exact qan _ _|exact qai _|exact qap _|exact qad|exact qag|exact qae|exact qac|exact qah _|exact qa4 _ (by omega)|exact qa3 (by omega)|exact qa5 (by omega)|exact rfl|assumption|apply qa6)|(apply qbk rfl rfl;(focus (repeat' first|assumption|exact qaa rfl|apply qaf rfl|apply qab);done))|(apply qb1 rfl rfl;(focus (repeat' first|assumption|exact qaa rfl|apply qaf rfl|apply qab);done);exact rfl)))
        apply qca
        · (focus first|(apply qao;(repeat' first|assumption|exact qaa rfl|apply qaf rfl|apply qab);done)|exact qan _ _|exact qai _|exact qap _|exact qad|exact qag|exact qae|exact qac|exact qah _)
        · exact osl
        · (focus first|(apply qao;(repeat' first|assumption|exact qaa rfl|apply qaf rfl|apply qab);done)|exact qan _ _|exact qai _|exact qap _|exact qad|exact qag|exact qae|exact qac|exact qah _)
        · exact hlt
        · rfl
        intro a ha _
        have hjc : j < cur.length := by omega
        rw [ints_at hjc] at ha
        have hcj : cur[j] = l[j] := by
          have h1 : (cur.drop j)[0]? = (l.drop j)[0]? := by rw [hcd]
          simpa [hjc, hlt] using h1
        rw [hcj] at ha
        apply qc0
        · (focus first|(apply qao;(repeat' first|assumption|exact qaa rfl|apply qaf rfl|apply qab);done)|exact qan _ _|exact qai _|exact qap _|exact qad|exact qag|exact qae|exact qac|exact qah _)
        · exact ha
        (repeat (first|apply qbi|apply qa9|(apply qa7;dsimp only[qbc,List.map,Nat.reduceAdd])|apply qbj|apply qbd|apply qbe|apply qbn|apply qbp|apply qbo|apply qa1|apply qau|apply qbb|apply qas|apply qaq|apply qam rfl|apply qaw|apply qar|apply qax|apply qay|apply qa2|apply qav|((first|apply qa8|apply qbg|apply qbh|apply qbm|apply qbf|apply qba|apply qa0|apply qal|apply qak|apply qat)<;>first|(apply qao;(repeat' first|assumption|exact qaa rfl|apply qaf rfl|apply qab);done)|exact qan _ _|exact qai _|exact qap _|exact qad|exact qag|exact qae|exact qac|exact qah _|exact qa4 _ (by omega)|exact qa3 (by omega)|exact qa5 (by omega)|exact rfl|assumption|apply qa6)|((first|apply qbl|apply qaz|apply qaj)<;>first|(apply qao;(repeat' first|assumption|exact qaa rfl|apply qaf rfl|apply qab);done)|exact qan _ _|exact qai _|exact qap _|exact qad|exact qag|exact qae|exact qac|exact qah _|exact qa4 _ (by omega)|exact qa3 (by omega)|exact qa5 (by omega)|exact rfl|assumption|apply qa6)|(apply qbk rfl rfl;(focus (repeat' first|assumption|exact qaa rfl|apply qaf rfl|apply qab);done))|(apply qb1 rfl rfl;(focus (repeat' first|assumption|exact qaa rfl|apply qaf rfl|apply qab);done);exact rfl)))
        (apply qcl; (focus first|(apply qao;(repeat' first|assumption|exact qaa rfl|apply qaf rfl|apply qab);done)|exact qan _ _|exact qai _|exact qap _|exact qad|exact qag|exact qae|exact qac|exact qah _); (repeat (apply qbt; (focus first|(apply qao;(repeat' first|assumption|exact qaa rfl|apply qaf rfl|apply qab);done)|exact qan _ _|exact qai _|exact qap _|exact qad|exact qag|exact qae|exact qac|exact qah _))); exact qby)
        refine (hF (n + 1) h2 (by omega) kb l[j] (List.getElem_mem hlt)).mono ?_
        rintro v h3 ⟨b, rfl, hR, kp2⟩
        refine ⟨kp2.undis, ?_⟩
        have oc := oc.keep kp2
        (repeat (first|apply qbi|apply qa9|(apply qa7;dsimp only[qbc,List.map,Nat.reduceAdd])|apply qbj|apply qbd|apply qbe|apply qbn|apply qbp|apply qbo|apply qa1|apply qau|apply qbb|apply qas|apply qaq|apply qam rfl|apply qaw|apply qar|apply qax|apply qay|apply qa2|apply qav|((first|apply qa8|apply qbg|apply qbh|apply qbm|apply qbf|apply qba|apply qa0|apply qal|apply qak|apply qat)<;>first|(apply qao;(repeat' first|assumption|exact qaa rfl|apply qaf rfl|apply qab);done)|exact qan _ _|exact qai _|exact qap _|exact qad|exact qag|exact qae|exact qac|exact qah _|exact qa4 _ (by omega)|exact qa3 (by omega)|exact qa5 (by omega)|exact rfl|assumption|apply qa6)|((first|apply qbl|apply qaz|apply qaj)<;>first|(apply qao;(repeat' first|assumption|exact qaa rfl|apply qaf rfl|apply qab);done)|exact qan _ _|exact qai _|exact qap _|exact qad|exact qag|exact qae|exact qac|exact qah _|exact qa4 _ (by omega)|exact qa3 (by omega)|exact qa5 (by omega)|exact rfl|assumption|apply qa6)|(apply qbk rfl rfl;(focus (repeat' first|assumption|exact qaa rfl|apply qaf rfl|apply qab);done))|(apply qb1 rfl rfl;(focus (repeat' first|assumption|exact qaa rfl|apply qaf rfl|apply qab);done);exact rfl)))
        apply qcg (!b)
        · (focus first|(apply qao;(repeat' first|assumption|exact qaa rfl|apply qaf rfl|apply qab);done)|exact qan _ _|exact qai _|exact qap _|exact qad|exact qag|exact qae|exact qac|exact qah _)
        · intro hb'
          have hb' : b = false := by simpa using hb'
          subst hb'
          obtain ⟨row, r1, r2, r3, r4⟩ := oc
          (repeat (first|apply qbi|apply qa9|(apply qa7;dsimp only[qbc,List.map,Nat.reduceAdd])|apply qbj|apply qbd|apply qbe|apply qbn|apply qbp|apply qbo|apply qa1|apply qau|apply qbb|apply qas|apply qaq|apply qam rfl|apply qaw|apply qar|apply qax|apply qay|apply qa2|apply qav|((first|apply qa8|apply qbg|apply qbh|apply qbm|apply qbf|apply qba|apply qa0|apply qal|apply qak|apply qat)<;>first|(apply qao;(repeat' first|assumption|exact qaa rfl|apply qaf rfl|apply qab);done)|exact qan _ _|exact qai _|exact qap _|exact qad|exact qag|exact qae|exact qac|exact qah _|exact qa4 _ (by omega)|exact qa3 (by omega)|exact qa5 (by omega)|exact rfl|assumption|apply qa6)|((first|apply qbl|apply qaz|apply qaj)<;>first|(apply qao;(repeat' first|assumption|exact qaa rfl|apply qaf rfl|apply qab);done)|exact qan _ _|exact qai _|exact qap _|exact qad|exact qag|exact qae|exact qac|exact qah _|exact qa4 _ (by omega)|exact qa3 (by omega)|exact qa5 (by omega)|exact rfl|assumption|apply qa6)|(apply qbk rfl rfl;(focus (repeat' first|assumption|exact qaa rfl|apply qaf rfl|apply qab);done))|(apply qb1 rfl rfl;(focus (repeat' first|assumption|exact qaa rfl|apply qaf rfl|apply qab);done);exact rfl)))
          apply O_indexAddr_own
          · (focus first|(apply qao;(repeat' first|assumption|exact qaa rfl|apply qaf rfl|apply qab);done)|exact qan _ _|exact qai _|exact qap _|exact qad|exact qag|exact qae|exact qac|exact qah _)
          · exact r1
          · (focus first|(apply qao;(repeat' first|assumption|exact qaa rfl|apply qaf rfl|apply qab);done)|exact qan _ _|exact qai _|exact qap _|exact qad|exact qag|exact qae|exact qac|exact qah _)
          · omega
          · omega
          apply qcr
          · (focus first|(apply qao;(repeat' first|assumption|exact qaa rfl|apply qaf rfl|apply qab);done)|exact qan _ _|exact qai _|exact qap _|exact qad|exact qag|exact qae|exact qac|exact qah _)
          · (focus first|(apply qao;(repeat' first|assumption|exact qaa rfl|apply qaf rfl|apply qab);done)|exact qan _ _|exact qai _|exact qap _|exact qad|exact qag|exact qae|exact qac|exact qah _)
          · exact r1
          · have : off + w * 1 + 1 ≤ row.length := by omega
            simp [acells, ones, one]; omega
          intro h4 kb4 r5
          refine ⟨Undis.off rfl, ?_⟩
          (repeat (first|apply qbi|apply qa9|(apply qa7;dsimp only[qbc,List.map,Nat.reduceAdd])|apply qbj|apply qbd|apply qbe|apply qbn|apply qbp|apply qbo|apply qa1|apply qau|apply qbb|apply qas|apply qaq|apply qam rfl|apply qaw|apply qar|apply qax|apply qay|apply qa2|apply qav|((first|apply qa8|apply qbg|apply qbh|apply qbm|apply qbf|apply qba|apply qa0|apply qal|apply qak|apply qat)<;>first|(apply qao;(repeat' first|assumption|exact qaa rfl|apply qaf rfl|apply qab);done)|exact qan _ _|exact qai _|exact qap _|exact qad|exact qag|exact qae|exact qac|exact qah _|exact qa4 _ (by omega)|exact qa3 (by omega)|exact qa5 (by omega)|exact rfl|assumption|apply qa6)|((first|apply qbl|apply qaz|apply qaj)<;>first|(apply qao;(repeat' first|assumption|exact qaa rfl|apply qaf rfl|apply qab);done)|exact qan _ _|exact qai _|exact qap _|exact qad|exact qag|exact qae|exact qac|exact qah _|exact qa4 _ (by omega)|exact qa3 (by omega)|exact qa5 (by omega)|exact rfl|assumption|apply qa6)|(apply qbk rfl rfl;(focus (repeat' first|assumption|exact qaa rfl|apply qaf rfl|apply qab);done))|(apply qb1 rfl rfl;(focus (repeat' first|assumption|exact qaa rfl|apply qaf rfl|apply qab);done);exact rfl)))
          apply K_loop (l.length - (j + 1)) (by omega)
          have oc' := RowInts.splice r5 (by omega) r4 (by omega)
          rw [r2] at oc'
          refine ⟨w + 1, j + 1, cur.set w l[j], rfl, by omega, by omega, by (repeat' first|assumption|exact qaa rfl|apply qaf rfl|apply qab), by (repeat' first|assumption|exact qaa rfl|apply qaf rfl|apply qab), by (repeat' first|assumption|exact qaa rfl|apply qaf rfl|apply qab), by (repeat' first|assumption|exact qaa rfl|apply qaf rfl|apply qab), (kb.trans (kp2.but _)).trans kb4, oc', by simp [hcl], ?_, ?_⟩
          · rw [List.drop_set_of_lt (by omega), ← List.drop_drop (i := 1), hcd, List.drop_drop]
          · rw [List.take_succ_eq_append_getElem hlt, List.take_succ_eq_append_getElem (by simp; omega), List.take_set_of_le (by omega)]
            simp only [List.getElem_set_self]
            exact .keep hR hf
        · intro hb'
          have hb' : b = true := by simpa using hb'
          subst hb'
          (repeat (first|apply qbi|apply qa9|(apply qa7;dsimp only[qbc,List.map,Nat.reduceAdd])|apply qbj|apply qbd|apply qbe|apply qbn|apply qbp|apply qbo|apply qa1|apply qau|apply qbb|apply qas|apply qaq|apply qam rfl|apply qaw|apply qar|apply qax|apply qay|apply qa2|apply qav|((first|apply qa8|apply qbg|apply qbh|apply qbm|apply qbf|apply qba|apply qa0|apply qal|apply qak|apply qat)<;>first|(apply qao;(repeat' first|assumption|exact qaa rfl|apply qaf rfl|apply qab);done)|exact qan _ _|exact qai _|exact qap _|exact qad|exact qag|exact qae|exact qac|exact qah _|exact qa4 _ (by omega)|exact qa3 (by omega)|exact qa5 (by omega)|exact rfl|assumption|apply qa6)|((first|apply qbl|apply qaz|apply qaj)<;>first|(apply qao;(repeat' first|assumption|exact qaa rfl|apply qaf rfl|apply qab);done)|exact qan _ _|exact qai _|exact qap _|exact qad|exact qag|exact qae|exact qac|exact qah _|exact qa4 _ (by omega)|exact qa3 (by omega)|exact qa5 (by omega)|exact rfl|assumption|apply qa6)|(apply qbk rfl rfl;(focus (repeat' first|assumption|exact qaa rfl|apply qaf rfl|apply qab);done))|(apply qb1 rfl rfl;(focus (repeat' first|assumption|exact qaa rfl|apply qaf rfl|apply qab);done);exact rfl)))
          apply K_loop (l.length - (j + 1)) (by omega)
          refine ⟨w, j + 1, cur, rfl, by omega, by omega, by (repeat' first|assumption|exact qaa rfl|apply qaf rfl|apply qab), by (repeat' first|assumption|exact qaa rfl|apply qaf rfl|apply qab), by (repeat' first|assumption|exact qaa rfl|apply qaf rfl|apply qab), by (repeat' first|assumption|exact qaa rfl|apply qaf rfl|apply qab), kb.trans (kp2.but _), oc, hcl, ?_, ?_⟩
          · rw [← List.drop_drop (i := 1), hcd, List.drop_drop]
          · rw [List.take_succ_eq_append_getElem hlt]
            exact .drop hR hf
      · intro c
        have hge : ¬ j < l.length := by simpa using c
        have hj : j = l.length := by omega
        subst hj
        rw [List.take_length] at hf
        (repeat (first|apply qbi|apply qa9|(apply qa7;dsimp only[qbc,List.map,Nat.reduceAdd])|apply qbj|apply qbd|apply qbe|apply qbn|apply qbp|apply qbo|apply qa1|apply qau|apply qbb|apply qas|apply qaq|apply qam rfl|apply qaw|apply qar|apply qax|apply qay|apply qa2|apply qav|((first|apply qa8|apply qbg|apply qbh|apply qbm|apply qbf|apply qba|apply qa0|apply qal|apply qak|apply qat)<;>first|(apply qao;(repeat' first|assumption|exact qaa rfl|apply qaf rfl|apply qab);done)|exact qan _ _|exact qai _|exact qap _|exact qad|exact qag|exact qae|exact qac|exact qah _|exact qa4 _ (by omega)|exact qa3 (by omega)|exact qa5 (by omega)|exact rfl|assumption|apply qa6)|((first|apply qbl|apply qaz|apply qaj)<;>first|(apply qao;(repeat' first|assumption|exact qaa rfl|apply qaf rfl|apply qab);done)|exact qan _ _|exact qai _|exact qap _|exact qad|exact qag|exact qae|exact qac|exact qah _|exact qa4 _ (by omega)|exact qa3 (by omega)|exact qa5 (by omega)|exact rfl|assumption|apply qa6)|(apply qbk rfl rfl;(focus (repeat' first|assumption|exact qaa rfl|apply qaf rfl|apply qab);done))|(apply qb1 rfl rfl;(focus (repeat' first|assumption|exact qaa rfl|apply qaf rfl|apply qab);done);exact rfl)))
        obtain ⟨row, r1, r2, r3, r4⟩ := oc
        apply O_slice_own (l := w) (u := l.length)
        · (focus first|(apply qao;(repeat' first|assumption|exact qaa rfl|apply qaf rfl|apply qab);done)|exact qan _ _|exact qai _|exact qap _|exact qad|exact qag|exact qae|exact qac|exact qah _)
        · exact r1
        · exact bounds_lo (by rw [Option.map_some]; congr 1; (focus first|(apply qao;(repeat' first|assumption|exact qaa rfl|apply qaf rfl|apply qab);done)|exact qan _ _|exact qai _|exact qap _|exact qad|exact qag|exact qae|exact qac|exact qah _)) (by omega)
        · omega
        apply O_clear_own
        · (focus first|(apply qao;(repeat' first|assumption|exact qaa rfl|apply qaf rfl|apply qab);done)|exact qan _ _|exact qai _|exact qap _|exact qad|exact qag|exact qae|exact qac|exact qah _)
        · exact r1
        · omega
        · rfl
        intro h4 row' kb4 r5 r6 r7
        refine ⟨Undis.off rfl, ?_⟩
        (repeat (first|apply qbi|apply qa9|(apply qa7;dsimp only[qbc,List.map,Nat.reduceAdd])|apply qbj|apply qbd|apply qbe|apply qbn|apply qbp|apply qbo|apply qa1|apply qau|apply qbb|apply qas|apply qaq|apply qam rfl|apply qaw|apply qar|apply qax|apply qay|apply qa2|apply qav|((first|apply qa8|apply qbg|apply qbh|apply qbm|apply qbf|apply qba|apply qa0|apply qal|apply qak|apply qat)<;>first|(apply qao;(repeat' first|assumption|exact qaa rfl|apply qaf rfl|apply qab);done)|exact qan _ _|exact qai _|exact qap _|exact qad|exact qag|exact qae|exact qac|exact qah _|exact qa4 _ (by omega)|exact qa3 (by omega)|exact qa5 (by omega)|exact rfl|assumption|apply qa6)|((first|apply qbl|apply qaz|apply qaj)<;>first|(apply qao;(repeat' first|assumption|exact qaa rfl|apply qaf rfl|apply qab);done)|exact qan _ _|exact qai _|exact qap _|exact qad|exact qag|exact qae|exact qac|exact qah _|exact qa4 _ (by omega)|exact qa3 (by omega)|exact qa5 (by omega)|exact rfl|assumption|apply qa6)|(apply qbk rfl rfl;(focus (repeat' first|assumption|exact qaa rfl|apply qaf rfl|apply qab);done))|(apply qb1 rfl rfl;(focus (repeat' first|assumption|exact qaa rfl|apply qaf rfl|apply qab);done);exact rfl)))
        apply O_slice_own (l := 0) (u := w)
        · (focus first|(apply qao;(repeat' first|assumption|exact qaa rfl|apply qaf rfl|apply qab);done)|exact qan _ _|exact qai _|exact qap _|exact qad|exact qag|exact qae|exact qac|exact qah _)
        · exact r5
        · exact bounds_hi (by rw [Option.map_some]; congr 1; (focus first|(apply qao;(repeat' first|assumption|exact qaa rfl|apply qaf rfl|apply qab);done)|exact qan _ _|exact qai _|exact qap _|exact qad|exact qag|exact qae|exact qac|exact qah _)) (by omega)
        · omega
        (repeat (first|apply qbi|apply qa9|(apply qa7;dsimp only[qbc,List.map,Nat.reduceAdd])|apply qbj|apply qbd|apply qbe|apply qbn|apply qbp|apply qbo|apply qa1|apply qau|apply qbb|apply qas|apply qaq|apply qam rfl|apply qaw|apply qar|apply qax|apply qay|apply qa2|apply qav|((first|apply qa8|apply qbg|apply qbh|apply qbm|apply qbf|apply qba|apply qa0|apply qal|apply qak|apply qat)<;>first|(apply qao;(repeat' first|assumption|exact qaa rfl|apply qaf rfl|apply qab);done)|exact qan _ _|exact qai _|exact qap _|exact qad|exact qag|exact qae|exact qac|exact qah _|exact qa4 _ (by omega)|exact qa3 (by omega)|exact qa5 (by omega)|exact rfl|assumption|apply qa6)|((first|apply qbl|apply qaz|apply qaj)<;>first|(apply qao;(repeat' first|assumption|exact qaa rfl|apply qaf rfl|apply qab);done)|exact qan _ _|exact qai _|exact qap _|exact qad|exact qag|exact qae|exact qac|exact qah _|exact qa4 _ (by omega)|exact qa3 (by omega)|exact qa5 (by omega)|exact rfl|assumption|apply qa6)|(apply qbk rfl rfl;(focus (repeat' first|assumption|exact qaa rfl|apply qaf rfl|apply qab);done))|(apply qb1 rfl rfl;(focus (repeat' first|assumption|exact qaa rfl|apply qaf rfl|apply qab);done);exact rfl)))
        (apply qb5 rfl; (repeat' first|assumption|exact qaa rfl|apply qaf rfl|apply qab))
        refine ⟨kb.trans kb4, cur.take w, ?_, hf, row', r5, by omega, by simp; omega, ?_⟩
        · simp; omega
        · have h5 : ints (cur.take w) = (ints cur).take w := by simp [ints, List.map_take]
          rw [h5, ← r4, List.take_take, List.length_take, Nat.min_eq_left (by omega)]
          have h6 : (row'.take (off + w)) = row.take (off + w) := by simpa using r7
          have h7 : ∀ l : List AV, (l.drop off).take w = (l.take (off + w)).drop off := fun l => by rw [List.drop_take]; congr 1; omega
          rw [h7, h7, h6]
end Go.Am
