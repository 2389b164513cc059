/- law27: the sort of numbers as a summary of the A-machine, sound by the shelf's contract. -/
import Derived.Test.YtallboljaphbpaaP2
import Derived.Shelf.Sort.Plain
import Derived.Ground.Names2Prog
import Derived.Shelf.Slices.In.SortNone
import Derived.Ground.SlgnProg
import Derived.Test.YtallboljaphbpaaProg
set_option linter.unusedVariables false
set_option linter.unusedSimpArgs false
namespace Go.Am
open Go AM
set_option linter.unusedVariables false

/-! ### chunks -/
/-- objects, and what is said of them -/
structure Ck where
  ids : List Nat
  p : Hp → Prop
  loc : ∀ h h' : Hp, (∀ i ∈ ids, ∀ o, h.get i = some o → h'.get i = some o) → p h → p h'
  dom : ∀ h, p h → ∀ i ∈ ids, (h.get i).isSome = true

/-- the cells of a row of things -/
def qca {α : Type} (f : α → List AV) (l : List α) : List AV := l.flatMap f
theorem flat_nil {α : Type} (f : α → List AV) : qca f [] = [] := rfl
theorem qch {α : Type} (f : α → List AV) (x : α) (l : List α) : qca f (x :: l) = f x ++ qca f l := by simp [qca]
theorem flat_append {α : Type} (f : α → List AV) (l m : List α) : qca f (l ++ m) = qca f l ++ qca f m := by simp [qca]
theorem qbt {α : Type} {f : α → List AV} {sz : Nat} (hf : ∀ x, (f x).length = sz) : ∀ l : List α, (qca f l).length = l.length * sz
  | [] => by simp [qca]
  | x :: l => by rw [qch, List.length_append, hf, qbt hf l, List.length_cons, Nat.succ_mul, Nat.add_comm]
theorem flat_drop {α : Type} {f : α → List AV} {sz : Nat} (hf : ∀ x, (f x).length = sz) : ∀ (l : List α) (i : Nat), (qca f l).drop (i * sz) = qca f (l.drop i)
  | l, 0 => by simp
  | [], i + 1 => by simp [qca]
  | x :: l, i + 1 => by
    rw [qch, Nat.succ_mul, Nat.add_comm, ← List.drop_drop, show List.drop sz (f x ++ qca f l) = qca f l by rw [← hf x, List.drop_left']; rfl]
    exact flat_drop hf l i
theorem flat_take {α : Type} {f : α → List AV} {sz : Nat} (hf : ∀ x, (f x).length = sz) (l : List α) (i : Nat) : (qca f l).take (i * sz) = qca f (l.take i) := by
  by_cases h : i ≤ l.length
  · have e : qca f l = qca f (l.take i) ++ qca f (l.drop i) := by rw [← flat_append, List.take_append_drop]
    rw [e, List.take_left']
    rw [qbt hf, List.length_take, Nat.min_eq_left h]
  · have : l.length * sz ≤ i * sz := Nat.mul_le_mul_right _ (by omega)
    rw [List.take_of_length_le (by rw [qbt hf]; exact this), List.take_of_length_le (by omega)]
theorem flat_get {α : Type} {f : α → List AV} {sz : Nat} (hf : ∀ x, (f x).length = sz) {l : List α} {i : Nat} {x : α} (hx : l[i]? = some x) : ((qca f l).drop (i * sz)).take sz = f x := by
  obtain ⟨hi, rfl⟩ := List.getElem?_eq_some_iff.1 hx
  rw [flat_drop hf, List.drop_eq_getElem_cons hi, qch, ← hf l[i], List.take_left']
  rfl
/-- a slice of things -/
abbrev Rows {α : Type} (f : α → List AV) (sz : Nat) (h : Hp) (v : AV) (l : List α) : Prop := SlV h sz v l.length (qca f l)
class FL {α : Type} (f : α → List AV) (sz : outParam Nat) : Prop where len : ∀ x, (f x).length = sz

def Ck.row (id ver esz : Nat) (cells : List AV) (fix : Bool) : Ck where
  ids := [id]
  p h := Row h id ver esz cells fix
  loc h h' k r := by obtain ⟨st, e⟩ := r; exact ⟨st, k id (by simp) _ e⟩
  dom h r i hi := by simp at hi; subst hi; obtain ⟨st, e⟩ := r; rw [e]; rfl
def Ck.map (id : Nat) (es : List (AV × AV)) : Ck where
  ids := [id]
  p h := MapAt h id es
  loc h h' k r := by obtain ⟨v, st, e⟩ := r; exact ⟨v, st, k id (by simp) _ e⟩
  dom h r i hi := by simp at hi; subst hi; obtain ⟨v, st, e⟩ := r; rw [e]; rfl
theorem SlV.loc {h h' : Hp} {sz n : Nat} {v : AV} {cells : List AV} (s : SlV h sz v n cells) (q : ∀ i ∈ qa4 v, ∀ o, h.get i = some o → h'.get i = some o) : SlV h' sz v n cells := by
  cases s with
  | imm k n _ e => exact .imm k n _ e
  | own id ver off n row fix r e => obtain ⟨st, ho⟩ := r; exact .own id ver off n row fix ⟨st, q id (by simp [qa4]) _ ho⟩ e
/-- a slice that may grow -/
def Ck.rows {α : Type} (f : α → List AV) (sz : Nat) (v : AV) (l : List α) : Ck where
  ids := qa4 v
  p h := Rows f sz h v l ∧ qcr v = true
  loc h h' k r := ⟨r.1.loc k, r.2⟩
  dom h r := r.1.ids.2
/-- a slice -/
def Ck.ro {α : Type} (f : α → List AV) (sz : Nat) (v : AV) (l : List α) : Ck where
  ids := qa4 v
  p h := Rows f sz h v l
  loc h h' k r := r.loc k
  dom h r := r.ids.2

def cids (L : List Ck) : List Nat := L.flatMap Ck.ids
theorem qb3 (c : Ck) (L : List Ck) : cids (c :: L) = c.ids ++ cids L := by simp [cids]
theorem qc1 (L M : List Ck) : cids (L ++ M) = cids L ++ cids M := by simp [cids]
theorem mem_cids {c : Ck} {L : List Ck} (hc : c ∈ L) {i : Nat} (hi : i ∈ c.ids) : i ∈ cids L := List.mem_flatMap.2 ⟨c, hc, hi⟩

/-- what a function holds: where it began, what it may turn, what it must leave -/
structure Bs where
  h : Hp
  X : List Nat
  W : List Ck
structure St (B : Bs) (L : List Ck) (h : Hp) : Prop where
  wf : B.h.WF
  keep : KeepBut (· ∈ B.X) B.h h
  all : ∀ c ∈ L ++ B.W, c.p h
  nd : (cids (L ++ B.W)).Nodup
  own : ∀ i ∈ cids L, i ∈ B.X ∨ B.h.next ≤ i

section
variable {B : Bs} {L M : List Ck} {h h1 : Hp} {c c' : Ck}
theorem Ck.lt (w : h.WF) (hp : c.p h) : ∀ i ∈ c.ids, i < h.next := fun i hi => by
  obtain ⟨o, ho⟩ := Option.isSome_iff_exists.1 (c.dom h hp i hi)
  exact w i o ho
theorem Ck.keep (k : Keep h h1) (hp : c.p h) : c.p h1 := c.loc h h1 (fun i _ o => k.same i o) hp
theorem St.lt (s : St B L h) (w : h.WF) : ∀ i ∈ cids (L ++ B.W), i < h.next := fun i hi => by
  obtain ⟨c, hc, hi⟩ := List.mem_flatMap.1 hi
  exact Ck.lt w (s.all c hc) i hi
theorem St.perm (s : St B L h) (e : L.Perm M) : St B M h where
  wf := s.wf
  keep := s.keep
  all := fun c hc => s.all c ((e.append_right B.W).mem_iff.2 hc)
  nd := ((e.append_right B.W).flatMap_right Ck.ids).nodup_iff.1 s.nd
  own := fun i hi => s.own i ((e.flatMap_right Ck.ids).mem_iff.2 hi)
theorem cids_sub {L M : List Ck} (e : M.Sublist L) : (cids M).Sublist (cids L) := by
  induction e with
  | slnil => exact .slnil
  | cons a _ ih => rw [qb3]; exact ih.trans (List.sublist_append_right _ _)
  | cons_cons a _ ih => rw [qb3, qb3]; exact ih.append_left _
theorem St.sub (s : St B L h) (e : M.Sublist L) : St B M h where
  wf := s.wf
  keep := s.keep
  all := fun c hc => s.all c ((e.append_right B.W).subset hc)
  nd := s.nd.sublist (cids_sub (e.append_right B.W))
  own := fun i hi => s.own i ((cids_sub e).subset hi)
theorem St.keepH (s : St B L h) (k : Keep h h1) : St B L h1 where
  wf := s.wf
  keep := s.keep.trans (k.but _)
  all := fun c hc => Ck.keep k (s.all c hc)
  nd := s.nd
  own := s.own
/-- new chunks -/
theorem St.new (s : St B L h) (w : h.WF) (k : Keep h h1) {N : List Ck} (hN : ∀ c ∈ N, c.p h1) (hn : (cids N).Nodup) (hf : ∀ i ∈ cids N, h.next ≤ i) : St B (N ++ L) h1 where
  wf := s.wf
  keep := s.keep.trans (k.but _)
  all := fun c hc => by
    rw [List.append_assoc] at hc
    rcases List.mem_append.1 hc with q | q
    · exact hN c q
    · exact Ck.keep k (s.all c q)
  nd := by
    rw [List.append_assoc, qc1]
    refine List.nodup_append.2 ⟨hn, s.nd, fun a ha b hb e => ?_⟩
    subst e
    have := hf a ha
    have := s.lt w a hb
    omega
  own := fun i hi => by
    rw [qc1] at hi
    rcases List.mem_append.1 hi with q | q
    · have := hf i q; have := s.keep.next; right; omega
    · exact s.own i q
/-- one chunk is turned -/
theorem St.put (s : St B (c :: L) h) (w : h.WF) (k : KeepBut (· ∈ c.ids) h h1) (hp : c'.p h1) (hi : ∀ i ∈ c'.ids, i ∈ c.ids ∨ h.next ≤ i) (hn : c'.ids.Nodup) : St B (c' :: L) h1 where
  wf := s.wf
  keep := ⟨fun id o hx e => k.same id o (fun q => by
      rcases s.own id (by rw [qb3]; exact List.mem_append.2 (.inl q)) with u | u
      · exact hx u
      · have := s.wf id o e; omega) (s.keep.same id o hx e), Nat.le_trans s.keep.next k.next⟩
  all := fun d hd => by
    rcases List.mem_cons.1 hd with rfl | q
    · exact hp
    · refine d.loc h h1 (fun i hi' o e => k.same i o (fun u => ?_) e) (s.all d (List.mem_cons_of_mem _ q))
      have := s.nd
      rw [List.cons_append, qb3] at this
      exact (List.nodup_append.1 this).2.2 i u i (mem_cids q hi') rfl
  nd := by
    have := s.nd
    rw [List.cons_append, qb3] at this ⊢
    obtain ⟨_, h2, h3⟩ := List.nodup_append.1 this
    refine List.nodup_append.2 ⟨hn, h2, fun a ha b hb e => ?_⟩
    subst e
    rcases hi a ha with q | q
    · exact h3 a q a hb rfl
    · have := s.lt w a (by rw [List.cons_append, qb3]; exact List.mem_append.2 (.inr hb)); omega
  own := fun i q => by
    rw [qb3] at q
    rcases List.mem_append.1 q with q | q
    · rcases hi i q with u | u
      · exact s.own i (by rw [qb3]; exact List.mem_append.2 (.inl u))
      · have := s.keep.next; right; omega
    · exact s.own i (by rw [qb3]; exact List.mem_append.2 (.inr q))
/-- into a call, that may turn some chunks, and out of it -/
theorem St.into {C R : List Ck} (s : St B (C ++ R) h) (w : h.WF) : St ⟨h, cids C, R ++ B.W⟩ C h where
  wf := w
  keep := KeepBut.refl _
  all := fun c hc => s.all c (by rw [List.append_assoc]; exact hc)
  nd := by have := s.nd; rw [List.append_assoc] at this; exact this
  own := fun i hi => .inl hi
theorem St.out {C R N : List Ck} (s : St B (C ++ R) h) (t : St ⟨h, cids C, R ++ B.W⟩ N h1) : St B (N ++ R) h1 where
  wf := s.wf
  keep := ⟨fun id o hx e => t.keep.same id o (fun q => by
      rcases s.own id (by rw [qc1]; exact List.mem_append.2 (.inl q)) with u | u
      · exact hx u
      · have := s.wf id o e; omega) (s.keep.same id o hx e), Nat.le_trans s.keep.next t.keep.next⟩
  all := fun d hd => t.all d (by rw [List.append_assoc] at hd; exact hd)
  nd := by have := t.nd; rw [List.append_assoc]; exact this
  own := fun i q => by
    rw [qc1] at q
    rcases List.mem_append.1 q with q | q
    · rcases t.own i q with u | u
      · exact s.own i (by rw [qc1]; exact List.mem_append.2 (.inl u))
      · have : B.h.next ≤ h.next := s.keep.next
        have : h.next ≤ i := u
        right; omega
    · exact s.own i (by rw [qc1]; exact List.mem_append.2 (.inr q))
end

/-! ### a call's contract -/
/-- what a run that holds C, and must leave W, gives: a value, and what it holds then -/
def QF (B : Bs) (Post : AV → List Ck → Prop) : AV → Hp → Prop := fun v h => ∃ N, Post v N ∧ St B N h
def Cal (C W : List Ck) (m : AM AV) (Post : AV → List Ck → Prop) : Prop := ∀ h, St ⟨h, cids C, W⟩ C h → Runs m h (QF ⟨h, cids C, W⟩ Post)
theorem Cal.mono {C W : List Ck} {m : AM AV} {P Q : AV → List Ck → Prop} (r : Cal C W m P) (k : ∀ v N, P v N → Q v N) : Cal C W m Q := fun h s => (r h s).mono fun v h' ⟨N, p, t⟩ => ⟨N, k v N p, t⟩
/-- a run that turns nothing -/
theorem Cal.of {W : List Ck} {m : AM AV} {Post : AV → List Ck → Prop} (r : ∀ h, h.WF → (∀ c ∈ W, c.p h) → Runs m h fun v h' => Keep h h' ∧ ∃ N, Post v N ∧ (∀ c ∈ N, c.p h') ∧ (cids N).Nodup ∧ ∀ i ∈ cids N, h.next ≤ i) : Cal [] W m Post := fun h s => by
  refine Runs.wf fun w => (r h w fun c hc => s.all c hc).mono fun v h' ⟨k, N, p, a, b, d⟩ => ⟨N, p, ?_⟩
  have := s.new w k a b d
  rwa [List.append_nil] at this
/-- a run that turns nothing, and makes nothing that is told -/
theorem Cal.of0 {W : List Ck} {m : AM AV} {P : AV → Prop} (r : ∀ h, h.WF → (∀ c ∈ W, c.p h) → Runs m h fun v h' => Keep h h' ∧ P v) : Cal [] W m fun v N => P v ∧ N = [] :=
  Cal.of fun h w k => (r h w k).mono fun v h' ⟨k1, p⟩ => ⟨k1, [], ⟨p, rfl⟩, (fun c hc => by cases hc), List.nodup_nil, fun i hi => by cases hi⟩
theorem Cal.keep {W : List Ck} {m : AM AV} {h : Hp} {Post : AV → List Ck → Prop} (r : Cal [] W m Post) (w : h.WF) (hW : ∀ c ∈ W, c.p h) (hn : (cids W).Nodup) : Runs m h fun v h' => Keep h h' ∧ ∃ N, Post v N ∧ (∀ c ∈ N, c.p h') ∧ ∀ i ∈ cids N, h.next ≤ i :=
  (r h ⟨w, KeepBut.refl _, hW, hn, fun i hi => by cases hi⟩).mono fun v h' ⟨N, p, t⟩ => ⟨⟨fun id o e => t.keep.same id o (fun q => by cases q) e, t.keep.next⟩, N, p, fun c hc => t.all c (List.mem_append.2 (.inl hc)), fun i hi => (t.own i hi).resolve_left (fun q => by cases q)⟩
end Go.Am
namespace Go.Am
open Go AM
set_option linter.unusedVariables false
set_option synthInstance.maxHeartbeats 200000

/-- a step: what is to be shown, and of what it follows -/
class Wk (P : Prop) (G : outParam Prop) : Prop where go : G → P

/-- a truth value that is known -/
class Is (b : Bool) (v : outParam Bool) : Prop where eq : b = v
instance : Is true true := ⟨rfl⟩
instance : Is false false := ⟨rfl⟩
instance {b : Bool} [a : Is b true] : Is (!b) false := ⟨by rw [a.eq]; rfl⟩
instance {b : Bool} [a : Is b false] : Is (!b) true := ⟨by rw [a.eq]; rfl⟩
/-! ### slots, operands -/
class Lk (T : qag) (t : Nat) (v : outParam AV) : Prop where eq : qay T t = v
instance lk_none {nt t : Nat} {T : qag} {v w : AV} [a : Lk T t v] : Lk (qa2? nt T none w) t v := ⟨a.eq⟩
instance lk_ne {nt t u : Nat} {T : qag} {v w : AV} [e : Same (Nat.beq t u) false] [a : Lk T t v] : Lk (qa2? nt T (some u) w) t v := ⟨tgo_ne e.eq a.eq⟩
instance lk_same {nt t : Nat} {T : qag} {v : AV} [e : Same (Nat.ble (t + 1) nt) true] : Lk (qa2? nt T (some t) v) t v := ⟨tgo_same e.eq⟩
class Nth (l : List AV) (t : Nat) (v : outParam AV) : Prop where eq : l[t]? = some v
instance nth_0 {l : List AV} {v : AV} : Nth (v :: l) 0 v := ⟨rfl⟩
instance nth_s {l : List AV} {v w : AV} {t : Nat} [a : Nth l t v] : Nth (w :: l) (t + 1) v := ⟨by simpa using a.eq⟩
/-- a function's arguments stand in its first slots -/
class Args (T : qag) (l : outParam (List AV)) : Prop where at_ : ∀ i v, l[i]? = some v → qay T i = v
instance (priority := 500) lk_args {T : qag} {l : List AV} {t : Nat} {v : AV} [a : Args T l] [b : Nth l t v] : Lk T t v := ⟨a.at_ t v b.eq⟩
/-- some slots stand as they did -/
class Agr (K : outParam (List Nat)) (T0 : outParam qag) (T : qag) : Prop where eq : ∀ t ∈ K, qay T t = qay T0 t
class MemN (t : Nat) (K : List Nat) : Prop where mem : t ∈ K
instance memn_0 {t : Nat} {K : List Nat} : MemN t (t :: K) := ⟨List.mem_cons_self⟩
instance (priority := 900) memn_s {t u : Nat} {K : List Nat} [a : MemN t K] : MemN t (u :: K) := ⟨List.mem_cons_of_mem _ a.mem⟩
instance (priority := 400) lk_agr {T0 T : qag} {K : List Nat} {t : Nat} {v : AV} [a : Agr K T0 T] [b : MemN t K] [c : Lk T0 t v] : Lk T t v := ⟨(a.eq t b.mem).trans c.eq⟩

class Ev (T : qag) (x : Operand) (v : outParam AV) : Prop where eq : qaj T x = v
instance {T : qag} {t : Nat} {v : AV} [a : Lk T t v] : Ev T (.tmp t) v := ⟨a.eq⟩
instance {T : qag} {k : IntKind} {n : Int} : Ev T (.const (.int k n)) (.int k n) := ⟨rfl⟩
instance {T : qag} {b : Bool} : Ev T (.const (.bool b)) (.bool b) := ⟨rfl⟩
instance {T : qag} {s : ByteArray} : Ev T (.const (.string s)) (.str s.data.toList) := ⟨rfl⟩
instance {T : qag} {l : List UInt8} : Ev T (.const (.string ⟨l.toArray⟩)) (.str l) := ⟨rfl⟩
instance {T : qag} : Ev T (.const (.pointer none)) .nilptr := ⟨rfl⟩
instance {T : qag} : Ev T (.const (.slice none 0 0)) (.sl .nil 0 []) := ⟨rfl⟩
instance {T : qag} : Ev T (.const (.map none)) .nilmap := ⟨rfl⟩
instance {T : qag} : Ev T (.const .nilFunc) .nilfunc := ⟨rfl⟩
instance {T : qag} {f : FuncId} : Ev T (.func f) (.func (.func f) [] []) := ⟨rfl⟩
class OfCells (cs : List Value) (l : outParam (List AV)) : Prop where eq : cs.map ofCell = l
instance : OfCells [] [] := ⟨rfl⟩
instance {k : IntKind} {n : Int} {cs : List Value} {l : List AV} [a : OfCells cs l] : OfCells (.int k n :: cs) (.int k n :: l) := ⟨by rw [List.map_cons, a.eq]; rfl⟩
instance {b : Bool} {cs : List Value} {l : List AV} [a : OfCells cs l] : OfCells (.bool b :: cs) (.bool b :: l) := ⟨by rw [List.map_cons, a.eq]; rfl⟩
instance {s : List UInt8} {cs : List Value} {l : List AV} [a : OfCells cs l] : OfCells (.string ⟨s.toArray⟩ :: cs) (.str s :: l) := ⟨by rw [List.map_cons, a.eq]; rfl⟩
instance {cs : List Value} {l : List AV} [a : OfCells cs l] : OfCells (.slice none 0 0 :: cs) (.sl .nil 0 [] :: l) := ⟨by rw [List.map_cons, a.eq]; rfl⟩
instance {cs : List Value} {l : List AV} [a : OfCells cs l] : OfCells (.pointer none :: cs) (.nilptr :: l) := ⟨by rw [List.map_cons, a.eq]; rfl⟩
instance {cs : List Value} {l : List AV} [a : OfCells cs l] : OfCells (.map none :: cs) (.nilmap :: l) := ⟨by rw [List.map_cons, a.eq]; rfl⟩
instance {T : qag} {cs : List Value} {l : List AV} [a : OfCells cs l] : Ev T (.const (.agg cs.toArray)) (.agg l) := ⟨by show AV.agg _ = _; rw [← a.eq]⟩

class Evs (T : qag) (xs : List Operand) (vs : outParam (List AV)) : Prop where eq : xs.map (qaj T) = vs
instance {T : qag} : Evs T [] [] := ⟨rfl⟩
instance {T : qag} {x : Operand} {xs : List Operand} {v : AV} {vs : List AV} [a : Ev T x v] [b : Evs T xs vs] : Evs T (x :: xs) (v :: vs) := ⟨qai a.eq b.eq⟩
class Evp (T : qag) (xs : List (Nat × Operand)) (vs : outParam (List (Nat × AV))) : Prop where eq : xs.map (fun (i, x) => (i, qaj T x)) = vs
instance {T : qag} : Evp T [] [] := ⟨rfl⟩
instance {T : qag} {j : Nat} {x : Operand} {xs : List (Nat × Operand)} {v : AV} {vs : List (Nat × AV)} [a : Ev T x v] [b : Evp T xs vs] : Evp T ((j, x) :: xs) ((j, v) :: vs) := ⟨qa0 a.eq b.eq⟩

/-! ### lists of cells -/
class Dr (l : List AV) (n : Nat) (r : outParam (List AV)) : Prop where
  eq : l.drop n = r
  le : n ≤ l.length
instance dr_0 {l : List AV} : Dr l 0 l := ⟨rfl, Nat.zero_le _⟩
instance dr_s {l r : List AV} {v : AV} {n : Nat} [a : Dr l n r] : Dr (v :: l) (n + 1) r := ⟨a.eq, Nat.succ_le_succ a.le⟩
instance dr_add {l l' r : List AV} {a b : Nat} [x : Dr l a l'] [y : Dr l' b r] : Dr l (a + b) r := ⟨by rw [← List.drop_drop, x.eq, y.eq], by have := x.le; have h := y.le; rw [← x.eq, List.length_drop] at h; omega⟩
class Tk (l : List AV) (n : Nat) (r : outParam (List AV)) : Prop where
  eq : l.take n = r
  le : n ≤ l.length
instance tk_0 {l : List AV} : Tk l 0 [] := ⟨rfl, Nat.zero_le _⟩
instance tk_s {l r : List AV} {v : AV} {n : Nat} [a : Tk l n r] : Tk (v :: l) (n + 1) (v :: r) := ⟨by rw [List.take_succ_cons, a.eq], Nat.succ_le_succ a.le⟩
class Len (l : List AV) (n : outParam Nat) : Prop where eq : l.length = n
instance : Len [] 0 := ⟨rfl⟩
instance {l : List AV} {v : AV} {n : Nat} [a : Len l n] : Len (v :: l) (n + 1) := ⟨by rw [List.length_cons, a.eq]⟩
class Spl (l : List AV) (n : Nat) (vs : List AV) (r : outParam (List AV)) : Prop where
  eq : splice l n vs = r
  le : n + vs.length ≤ l.length
instance spl_nil {l : List AV} : Spl l 0 [] l := ⟨by simp [splice], by simp⟩
instance spl_0 {l r vs : List AV} {v w : AV} [a : Spl l 0 vs r] : Spl (v :: l) 0 (w :: vs) (w :: r) := ⟨by rw [← a.eq]; simp [splice], by have := a.le; simp at this ⊢; exact this⟩
instance spl_s {l r vs : List AV} {v : AV} {n : Nat} [a : Spl l n vs r] : Spl (v :: l) (n + 1) vs (v :: r) := ⟨by
  rw [← a.eq]; simp only [splice, List.take_succ_cons, List.cons_append]
  rw [show n + 1 + vs.length = (n + vs.length) + 1 by omega, List.drop_succ_cons], by have := a.le; simp; omega⟩
instance spl_z {l r vs : List AV} {n : Nat} [a : Spl l n vs r] : Spl l (0 + n) vs r := ⟨by rw [Nat.zero_add]; exact a.eq, by rw [Nat.zero_add]; exact a.le⟩
class VNth (l : List AV) (j : Nat) (v : outParam AV) : Prop where eq : l[j]? = some v
instance {l : List AV} {j : Nat} {v : AV} [a : Nth l j v] : VNth l j v := ⟨a.eq⟩

/-! ### chunks in lists -/
class HasRow (L W : List Ck) (id : Nat) (ver esz : outParam Nat) (cells : outParam (List AV)) (fix : outParam Bool) : Prop where mem : Ck.row id ver esz cells fix ∈ L ++ W
instance (priority := 900) hasrow_s {c : Ck} {L W : List Ck} {id ver esz : Nat} {cells : List AV} {fix : Bool} [a : HasRow L W id ver esz cells fix] : HasRow (c :: L) W id ver esz cells fix := ⟨List.mem_cons_of_mem _ a.mem⟩
instance hasrow_0 {L W : List Ck} {id ver esz : Nat} {cells : List AV} {fix : Bool} : HasRow (.row id ver esz cells fix :: L) W id ver esz cells fix := ⟨List.mem_cons_self⟩
instance (priority := 900) hasrow_w {c : Ck} {W : List Ck} {id ver esz : Nat} {cells : List AV} {fix : Bool} [a : HasRow (c :: W) [] id ver esz cells fix] : HasRow [] (c :: W) id ver esz cells fix := ⟨by have := a.mem; simpa using this⟩
instance (priority := 900) hasrow_a {R W : List Ck} {id ver esz : Nat} {cells : List AV} {fix : Bool} [a : HasRow R W id ver esz cells fix] : HasRow [] (R ++ W) id ver esz cells fix := ⟨by have := a.mem; simpa using this⟩
class HasMap (L W : List Ck) (id : Nat) (es : outParam (List (AV × AV))) : Prop where mem : Ck.map id es ∈ L ++ W
instance (priority := 900) hasmap_s {c : Ck} {L W : List Ck} {id : Nat} {es : List (AV × AV)} [a : HasMap L W id es] : HasMap (c :: L) W id es := ⟨List.mem_cons_of_mem _ a.mem⟩
instance hasmap_0 {L W : List Ck} {id : Nat} {es : List (AV × AV)} : HasMap (.map id es :: L) W id es := ⟨List.mem_cons_self⟩
instance (priority := 900) hasmap_a {R W : List Ck} {id : Nat} {es : List (AV × AV)} [a : HasMap R W id es] : HasMap [] (R ++ W) id es := ⟨by have := a.mem; simpa using this⟩
/-- a slice is there, and what it holds -/
class HasRows (L W : List Ck) (v : AV) {α : outParam Type} (f : outParam (α → List AV)) (sz : outParam Nat) (l : outParam (List α)) : Prop where has : ∀ h, (∀ c ∈ L ++ W, c.p h) → Rows f sz h v l
section
variable {L W R : List Ck} {v : AV} {α : Type} {f : α → List AV} {sz : Nat} {l : List α} {c : Ck}
instance (priority := 900) hasrows_s [a : HasRows L W v f sz l] : HasRows (c :: L) W v f sz l := ⟨fun h k => a.has h fun d hd => k d (List.mem_cons_of_mem _ hd)⟩
instance hasrows_0 : HasRows (.rows f sz v l :: L) W v f sz l := ⟨fun h k => (k _ List.mem_cons_self).1⟩
instance hasrows_1 : HasRows (.ro f sz v l :: L) W v f sz l := ⟨fun h k => k _ List.mem_cons_self⟩
instance (priority := 900) hasrows_w [a : HasRows (c :: W) [] v f sz l] : HasRows [] (c :: W) v f sz l := ⟨fun h k => a.has h fun d hd => k d (by simpa using hd)⟩
instance (priority := 900) hasrows_a [a : HasRows R W v f sz l] : HasRows [] (R ++ W) v f sz l := ⟨fun h k => a.has h fun d hd => k d (by simpa using hd)⟩
instance (priority := 800) hasrows_f [a : HasRows [] W v f sz l] : HasRows [] (R ++ W) v f sz l := ⟨fun h k => a.has h fun d hd => k d (by simp at hd ⊢; exact .inr hd)⟩
end
/-- single cells, whose encoding is known -/
class Enc (cells : List AV) {α : outParam Type} (f : outParam (α → List AV)) (x : outParam α) : Prop where eq : cells = f x
instance hasrows_lit {L W : List Ck} {k : SK} {cells : List AV} {α : Type} {f : α → List AV} {sz : Nat} {x : α} [a : Enc cells f x] [b : FL f sz] : HasRows L W (.sl k 1 cells) f sz [x] := ⟨fun h _ => by
  obtain rfl := a.eq
  have := SlV.imm (h := h) (sz := sz) k 1 (f x) (by rw [b.len, Nat.one_mul])
  show SlV h sz _ 1 (qca f [x])
  rw [qch, flat_nil, List.append_nil]; exact this⟩

class Up (L : List Ck) (c c' : Ck) (L' : outParam (List Ck)) : Prop where perm : ∃ R, L.Perm (c :: R) ∧ (c' :: R).Perm L'
instance (priority := 900) up_s {d c c' : Ck} {L L' : List Ck} [a : Up L c c' L'] : Up (d :: L) c c' (d :: L') := ⟨by
  obtain ⟨R, h1, h2⟩ := a.perm
  exact ⟨d :: R, (h1.cons d).trans (.swap _ _ _), (List.Perm.swap _ _ _).trans (h2.cons d)⟩⟩
instance up_0 {c c' : Ck} {L : List Ck} : Up (c :: L) c c' (c' :: L) := ⟨L, .refl _, .refl _⟩
/-- a chunk is taken out -/
class Tak (L : List Ck) (c : Ck) (R : outParam (List Ck)) : Prop where perm : L.Perm (c :: R)
instance (priority := 900) tak_s {d c : Ck} {L R : List Ck} [a : Tak L c R] : Tak (d :: L) c (d :: R) := ⟨(a.perm.cons d).trans (.swap _ _ _)⟩
instance tak_0 {c : Ck} {L : List Ck} : Tak (c :: L) c L := ⟨.refl _⟩
class Taks (L C : List Ck) (R : outParam (List Ck)) : Prop where perm : L.Perm (C ++ R)
instance taks_nil {L : List Ck} : Taks L [] L := ⟨.refl _⟩
instance taks_cons {L R S C : List Ck} {c : Ck} [a : Tak L c S] [b : Taks S C R] : Taks L (c :: C) R := ⟨a.perm.trans (b.perm.cons c)⟩
instance (priority := 100) taks_end {C : List Ck} : Taks C C [] := ⟨by rw [List.append_nil]⟩
instance (priority := 90) taks_tail {L R C : List Ck} {c : Ck} [a : Taks L C R] : Taks (c :: L) C (c :: R) := ⟨(a.perm.cons c).trans List.perm_middle.symm⟩
/-- a chunk is taken out, or a weaker one -/
class Tkw (L : List Ck) (c : Ck) (R : outParam (List Ck)) : Prop where st : ∀ (B : Bs) (h : Hp) (Z : List Ck), St B (Z ++ L) h → St B (Z ++ c :: R) h
instance (priority := 900) tkw_s {d c : Ck} {L R : List Ck} [a : Tkw L c R] : Tkw (d :: L) c (d :: R) := ⟨fun B h Z s => by
  have h1 := a.st B h (Z ++ [d]) (by simpa using s)
  exact h1.perm (by rw [List.append_assoc]; exact (List.Perm.swap _ _ _).append_left Z)⟩
instance tkw_0 {c : Ck} {L : List Ck} : Tkw (c :: L) c L := ⟨fun B h Z s => s⟩
/-- fewer chunks -/
class Sb (L M : List Ck) : Prop where st : ∀ (B : Bs) (h : Hp) (Z : List Ck), St B (Z ++ L) h → St B (Z ++ M) h
instance sb_nil {L : List Ck} : Sb L [] := ⟨fun B h Z s => s.sub (by rw [List.append_nil]; exact List.sublist_append_left _ _)⟩
instance sb_cons {L R M : List Ck} {c : Ck} [a : Tkw L c R] [b : Sb R M] : Sb L (c :: M) := ⟨fun B h Z s => by
  have := b.st B h (Z ++ [c]) (by simpa using a.st B h Z s)
  simpa using this⟩
instance (priority := 100) sb_refl {L : List Ck} : Sb L L := ⟨fun B h Z s => s⟩
instance (priority := 50) sb_skip {L M : List Ck} {c : Ck} [a : Sb L M] : Sb (c :: L) M := ⟨fun B h Z s => a.st B h Z (s.sub ((List.sublist_cons_self _ _).append_left Z))⟩
theorem St.sb {B : Bs} {L M : List Ck} {h : Hp} (s : St B L h) (k : Sb L M) : St B M h := k.st B h [] s
theorem tkw_imp {c c' : Ck} {L : List Ck} (hi : c'.ids = c.ids) (hp : ∀ h, c.p h → c'.p h) : Tkw (c :: L) c' L := ⟨fun B h Z s => {
  wf := s.wf
  keep := s.keep
  all := fun d hd => by
    rw [List.append_assoc, List.mem_append, List.cons_append, List.mem_cons] at hd
    rcases hd with q | rfl | q
    · exact s.all d (by rw [List.append_assoc]; exact List.mem_append.2 (.inl q))
    · exact hp h (s.all c (by simp))
    · exact s.all d (by rw [List.append_assoc, List.cons_append]; exact List.mem_append.2 (.inr (List.mem_cons_of_mem _ q)))
  nd := by have := s.nd; simp only [qc1, qb3, hi] at this ⊢; exact this
  own := fun i q => s.own i (by simp only [qc1, qb3, hi] at q ⊢; exact q) }⟩
class App (N R : List Ck) (M : outParam (List Ck)) : Prop where eq : N ++ R = M
instance {R : List Ck} : App [] R R := ⟨rfl⟩
instance {c : Ck} {N R M : List Ck} [a : App N R M] : App (c :: N) R (c :: M) := ⟨by rw [List.cons_append, a.eq]⟩

/-- a value's cells -/
class Cell (L W : List Ck) (v : AV) : Prop where cell : ∀ h, (∀ c ∈ L ++ W, c.p h) → acells v = [v] ∧ known v = true ∧ one v = true
section
variable {L W : List Ck}
instance {b : Bool} : Cell L W (.bool b) := ⟨fun _ _ => ⟨rfl, rfl, rfl⟩⟩
instance {k : IntKind} {n : Int} : Cell L W (.int k n) := ⟨fun _ _ => ⟨rfl, rfl, rfl⟩⟩
instance {s : List UInt8} : Cell L W (.str s) := ⟨fun _ _ => ⟨rfl, rfl, rfl⟩⟩
instance : Cell L W .nilptr := ⟨fun _ _ => ⟨rfl, rfl, rfl⟩⟩
instance {a b c : Nat} : Cell L W (.ptr a b c) := ⟨fun _ _ => ⟨rfl, rfl, rfl⟩⟩
instance {l : List AV} : Cell L W (.iptr l) := ⟨fun _ _ => ⟨rfl, rfl, rfl⟩⟩
instance {k : SK} {n : Nat} {l : List AV} : Cell L W (.sl k n l) := ⟨fun _ _ => ⟨rfl, rfl, rfl⟩⟩
instance {a b c n : Nat} : Cell L W (.own a b c n) := ⟨fun _ _ => ⟨rfl, rfl, rfl⟩⟩
instance : Cell L W .nilmap := ⟨fun _ _ => ⟨rfl, rfl, rfl⟩⟩
instance {i : Nat} : Cell L W (.mapv i) := ⟨fun _ _ => ⟨rfl, rfl, rfl⟩⟩
instance : Cell L W .nilfunc := ⟨fun _ _ => ⟨rfl, rfl, rfl⟩⟩
instance {f : Fn} {a b : List AV} : Cell L W (.func f a b) := ⟨fun _ _ => ⟨rfl, rfl, rfl⟩⟩
instance {t : TypeId} {v : AV} : Cell L W (.iface t v) := ⟨fun _ _ => ⟨rfl, rfl, rfl⟩⟩
instance : Cell L W .niliface := ⟨fun _ _ => ⟨rfl, rfl, rfl⟩⟩
instance (priority := 500) cell_rows {v : AV} {α : Type} {f : α → List AV} {sz : Nat} {l : List α} [a : HasRows L W v f sz l] : Cell L W v := ⟨fun h k => ⟨(a.has h k).acells, (a.has h k).known, (a.has h k).one⟩⟩
end
class Ac (L W : List Ck) (v : AV) (cs : outParam (List AV)) : Prop where ac : ∀ h, (∀ c ∈ L ++ W, c.p h) → acells v = cs ∧ known v = true
instance ac_agg {L W : List Ck} {cs : List AV} : Ac L W (.agg cs) cs := ⟨fun _ _ => ⟨rfl, rfl⟩⟩
instance (priority := 500) ac_one {L W : List Ck} {v : AV} [a : Cell L W v] : Ac L W v [v] := ⟨fun h k => ⟨(a.cell h k).1, (a.cell h k).2.1⟩⟩
class Ones (L W : List Ck) (cs : List AV) : Prop where ones : ∀ h, (∀ c ∈ L ++ W, c.p h) → Go.Am.ones cs = true
instance {L W : List Ck} : Ones L W [] := ⟨fun _ _ => rfl⟩
instance {L W : List Ck} {v : AV} {cs : List AV} [a : Cell L W v] [b : Ones L W cs] : Ones L W (v :: cs) := ⟨fun h k => by show (one v && Go.Am.ones cs) = true; rw [(a.cell h k).2.2, b.ones h k]; rfl⟩
/-- encodings into values of one cell each -/
class FOne {α : Type} (f : α → List AV) : Prop where one : ∀ x, Go.Am.ones (f x) = true
theorem flat_ones {α : Type} {f : α → List AV} [a : FOne f] (l : List α) : ones (qca f l) = true := by
  induction l with
  | nil => rfl
  | cons x l ih => rw [qch]; simp only [ones, List.all_append] at ih ⊢; rw [ih, show (f x).all one = true from a.one x]; rfl
end Go.Am
namespace Go.Am
open Go AM
set_option linter.unusedVariables false
set_option synthInstance.maxHeartbeats 200000

section
variable (B : Bs) (L : List Ck) (P : Program) (pol : Pol) (call : qa6) (fn nt fuel : Nat)
/-- whatever heap holds this: the code ends well -/
def ACo (c : Code) (T : qag) (Q : Exit × qag → Hp → Prop) : Prop := ∀ h, St B L h → Runs (qaw P pol call fn nt fuel c T) h Q
def AK (K : Exit × qag → Hp → Prop) (x : Exit × qag) : Prop := ∀ h, St B L h → K x h
def AT (K : qag → Hp → Prop) (T : qag) : Prop := ∀ h, St B L h → K T h
/-- the places of a region's values are al told -/
def DS (R : Rg) (ops : List (Nat × Oper)) (ds : List (Nat × Option Tmp)) : Prop := (∀ x ∈ ds, R.dsts[x.1]? = some x.2) ∧ ∀ x ∈ ops, R.dsts[x.1]? = some x.2.dst
def qa3 (R : Rg) (ops : List (Nat × Oper)) (ds : List (Nat × Option Tmp)) (seen : Seen) (T : qag) (Q : qag → Hp → Prop) : Prop := ∀ h, St B L h → DS R ops ds → qbq P pol call fn nt R ops seen T h Q
/-- at a function's end -/
def KFun (P : Program) (rs : List ResultVar) (Q : AV → Hp → Prop) : Exit × qag → Hp → Prop := fun x h => (x.1 = .normal ∨ x.1 = .ret) ∧ Runs (do
  let vs ← qce P x.2 rs
  match vs with
  | [v] => pure v
  | vs => pure (.tuple vs)) h Q
def ARs (P : Program) (rs : List ResultVar) (vs : List AV) (T : qag) (Q : AV → Hp → Prop) : Prop := ∀ h, St B L h → Runs (do
  let us ← qce P T rs
  match vs ++ us with
  | [v] => pure v
  | vs => pure (.tuple vs)) h Q
/-- at the end -/
def Fin (v : AV) (Q : AV → Hp → Prop) : Prop := ∀ h, St B L h → Q v h
end

section
variable {R : Rg} {o : Oper} {i : Nat} {rest : List (Nat × Oper)} {ds : List (Nat × Option Tmp)}
theorem DS.step (d : DS R ((i, o) :: rest) ds) : DS R rest ((i, o.dst) :: ds) := ⟨fun x hx => by
  rcases List.mem_cons.1 hx with rfl | q
  · exact d.2 (i, o) List.mem_cons_self
  · exact d.1 x q, fun x hx => d.2 x (List.mem_cons_of_mem _ hx)⟩
theorem DS.yes (d : DS R ((i, o) :: rest) ds) : DS R ((i, { o with guard := none }) :: rest) ds := ⟨d.1, fun x hx => by
  rcases List.mem_cons.1 hx with rfl | q
  · exact d.2 (i, o) List.mem_cons_self
  · exact d.2 x (List.mem_cons_of_mem _ q)⟩
end
theorem number_get : ∀ (l : List Oper) (k : Nat), ∀ x ∈ number k l, k ≤ x.1 ∧ l[x.1 - k]? = some x.2
  | [], k, x, hx => by cases hx
  | o :: l, k, x, hx => by
    rcases List.mem_cons.1 hx with rfl | q
    · exact ⟨Nat.le_refl _, by simp⟩
    · obtain ⟨h1, h2⟩ := number_get l (k + 1) x q
      refine ⟨by omega, ?_⟩
      rw [show x.1 - k = (x.1 - (k + 1)) + 1 by omega, List.getElem?_cons_succ]; exact h2
theorem pickAll_get (ops : List Oper) : ∀ (l : List Nat), ∀ x ∈ qci ops l, ops[x.1]? = some x.2
  | [], x, hx => by cases hx
  | i :: l, x, hx => by
    unfold qci at hx
    split at hx
    · rename_i o ho
      rcases List.mem_cons.1 hx with rfl | q
      · exact ho
      · exact pickAll_get ops l x q
    · exact pickAll_get ops l x hx
section
variable {B : Bs} {L : List Ck} {P : Program} {pol : Pol} {call : qa6} {fn nt fuel : Nat} {T : qag} {Q : Exit × qag → Hp → Prop} {a b : Code} {id id' : Nat}
instance : Wk (ACo B L P pol call fn nt fuel (.seq a b) T Q) (ACo B L P pol call fn nt fuel a T (KSeq P pol call fn nt fuel b Q)) := ⟨fun g h s => R_seq (g h s)⟩
instance : Wk (ACo B L P pol call fn nt fuel (.block id b) T Q) (ACo B L P pol call fn nt fuel b T (KBlock id Q)) := ⟨fun g h s => R_block (g h s)⟩
instance : Wk (ACo B L P pol call fn nt fuel .ret T Q) (AK B L Q (.ret, T)) := ⟨fun g h s => R_ret (g h s)⟩
instance : Wk (ACo B L P pol call fn nt fuel .skip T Q) (AK B L Q (.normal, T)) := ⟨fun g h s => R_skip (g h s)⟩
instance : Wk (ACo B L P pol call fn nt fuel (.exit id) T Q) (AK B L Q (.exit id, T)) := ⟨fun g h s => R_exit (g h s)⟩
instance {ops : List Oper} {r : List (Nat × Oper)} [n : Num 0 ops r] : Wk (ACo B L P pol call fn nt fuel (.region id ops.toArray false) T Q) (qa3 B L P pol call fn nt ⟨false, [], ops.map (·.dst)⟩ r [] [] T (KOps Q)) :=
  ⟨fun g h s => R_region (by
    have := g h s ⟨(fun x hx => by cases hx), fun x hx => by
      obtain rfl := n.eq
      have := (number_get ops 0 x hx).2
      rw [Nat.sub_zero] at this
      rw [List.getElem?_map, this]; rfl⟩
    rw [← n.eq] at this; exact this)⟩
class OpN (ops : List Oper) (i : Nat) (o : outParam Oper) : Prop where eq : ops[i]? = some o
instance {ops : List Oper} {o : Oper} : OpN (o :: ops) 0 o := ⟨rfl⟩
instance {ops : List Oper} {o o' : Oper} {i : Nat} [a : OpN ops i o] : OpN (o' :: ops) (i + 1) o := ⟨by simpa using a.eq⟩
class Pk (ops : List Oper) (l : List Nat) (r : outParam (List (Nat × Oper))) : Prop where eq : qci ops l = r
instance {ops : List Oper} : Pk ops [] [] := ⟨rfl⟩
instance {ops : List Oper} {o : Oper} {i : Nat} {l : List Nat} {r : List (Nat × Oper)} [a : OpN ops i o] [b : Pk ops l r] : Pk ops (i :: l) ((i, o) :: r) := ⟨by rw [qci, a.eq]; simp only [b.eq]⟩
theorem qbo {ops : List Oper} {r : List (Nat × Oper)} (l ms : List Nat) (hl : orderOf ops = some l) (hm : masks ops = ms) (hlt : (l.all fun i => Nat.blt i ops.length) = true) [hr : Pk ops l r]
    (g : qa3 B L P pol call fn nt ⟨true, ms, ops.map (·.dst)⟩ r [] [] T (KOps Q)) : ACo B L P pol call fn nt fuel (.region id ops.toArray true) T Q :=
  fun h s => R_drawn l ms hl hm hlt (by
    obtain rfl := hr.eq
    exact g h s ⟨(fun x hx => by cases hx), fun x hx => by rw [List.getElem?_map, pickAll_get ops l x hx]; rfl⟩)
instance (priority := 900) wk_cond {c : Operand} {v : Bool} [e : Ev T c (.bool v)] : Wk (ACo B L P pol call fn nt fuel (.cond c a b) T Q) ((v = true → ACo B L P pol call fn nt fuel a T Q) ∧ (v = false → ACo B L P pol call fn nt fuel b T Q)) :=
  ⟨fun g h s => qa9 v e.eq (fun q => g.1 q h s) (fun q => g.2 q h s)⟩
instance wk_condT {c : Operand} {v : Bool} [e : Ev T c (.bool v)] [k : Is v true] : Wk (ACo B L P pol call fn nt fuel (.cond c a b) T Q) (ACo B L P pol call fn nt fuel a T Q) :=
  ⟨fun g h s => qa9 v e.eq (fun q => g h s) (fun q => by rw [k.eq] at q; cases q)⟩
instance wk_condF {c : Operand} {v : Bool} [e : Ev T c (.bool v)] [k : Is v false] : Wk (ACo B L P pol call fn nt fuel (.cond c a b) T Q) (ACo B L P pol call fn nt fuel b T Q) :=
  ⟨fun g h s => qa9 v e.eq (fun q => by rw [k.eq] at q; cases q) (fun q => g h s)⟩

instance : Wk (AK B L (KSeq P pol call fn nt fuel b Q) (.normal, T)) (ACo B L P pol call fn nt fuel b T Q) := ⟨fun g h s => g h s⟩
instance : Wk (AK B L (KSeq P pol call fn nt fuel b Q) (.ret, T)) (AK B L Q (.ret, T)) := ⟨fun g h s => g h s⟩
instance : Wk (AK B L (KSeq P pol call fn nt fuel b Q) (.exit id, T)) (AK B L Q (.exit id, T)) := ⟨fun g h s => g h s⟩
instance : Wk (AK B L (KBlock id Q) (.normal, T)) (AK B L Q (.normal, T)) := ⟨fun g h s => g h s⟩
instance : Wk (AK B L (KBlock id Q) (.ret, T)) (AK B L Q (.ret, T)) := ⟨fun g h s => g h s⟩
instance : Wk (AK B L (KBlock id Q) (.exit id, T)) (AK B L Q (.normal, T)) := ⟨fun g h s => K_block_exit (g h s)⟩
instance (priority := 900) [e : Same (Nat.beq id' id) false] : Wk (AK B L (KBlock id Q) (.exit id', T)) (AK B L Q (.exit id', T)) := ⟨fun g h s => K_block_other e.eq (g h s)⟩
instance {K : Exit × qag → Hp → Prop} : Wk (AT B L (KOps K) T) (AK B L K (.normal, T)) := ⟨fun g h s => g h s⟩

/-! ### the end of a function -/
variable {rs : List ResultVar} {V : AV → Hp → Prop} {vs : List AV} {v : AV}
instance : Wk (AK B L (KFun P rs V) (.normal, T)) (ARs B L P rs [] T V) := ⟨fun g h s => ⟨.inl rfl, g h s⟩⟩
instance : Wk (AK B L (KFun P rs V) (.ret, T)) (ARs B L P rs [] T V) := ⟨fun g h s => ⟨.inr rfl, g h s⟩⟩
theorem ars_step {r : ResultVar} {v : AV} (hr : ∀ h, St B L h → (aresult P T r).run h = some (v, h)) (g : ARs B L P rs (vs ++ [v]) T V) : ARs B L P (r :: rs) vs T V := fun h s => by
  have := g h s
  simp only [List.append_assoc, List.singleton_append] at this
  simp only [qce]
  intro w
  obtain ⟨a, h', e, q⟩ := this w
  rw [run_bind] at e
  refine ⟨a, h', ?_, q⟩
  rw [run_bind, run_bind, hr h s]
  dsimp only
  rw [run_bind]
  cases hq : (qce P T rs).run h with
  | none => rw [hq] at e; cases e
  | some p => rw [hq] at e; exact e
instance {t : Tmp} [e : Lk T t v] : Wk (ARs B L P (.tmp t :: rs) vs T V) (ARs B L P rs (vs ++ [v]) T V) := ⟨ars_step fun h s => by simp only [aresult]; rw [e.eq]; rfl⟩
instance {h0 : Hp} {X : List Nat} {W : List Ck} {t : Tmp} {ty : TypeId} {id ver off esz : Nat} {cells r' : List AV} {fix : Bool} [e : Lk T t (.ptr id ver off)] [hr : HasRow L W id ver esz cells fix] [o : qbs P ty] [d : Dr cells off (v :: r')] :
    Wk (ARs ⟨h0, X, W⟩ L P (.cell t ty :: rs) vs T V) (ARs ⟨h0, X, W⟩ L P rs (vs ++ [v]) T V) := ⟨ars_step fun h s => by
  obtain ⟨st, ho⟩ := s.all _ hr.mem
  simp only [aresult, e.eq, aload]
  rw [run_bind, qcz ho]
  dsimp only
  rw [d.eq, o.rd]; rfl⟩
instance {h0 : Hp} {X : List Nat} {W : List Ck} {t : Tmp} {ty : TypeId} {id ver off esz n : Nat} {cells r' c' : List AV} {fix : Bool} [e : Lk T t (.ptr id ver off)] [hr : HasRow L W id ver esz cells fix] [o : TAgg P ty n] [d : Dr cells off r'] [k : Tk r' n c'] :
    Wk (ARs ⟨h0, X, W⟩ L P (.cell t ty :: rs) vs T V) (ARs ⟨h0, X, W⟩ L P rs (vs ++ [.agg c']) T V) := ⟨ars_step fun h s => by
  obtain ⟨st, ho⟩ := s.all _ hr.mem
  simp only [aresult, e.eq, aload]
  rw [run_bind, qcz ho]
  dsimp only
  rw [d.eq, o.rd _ (by simpa using k.le), k.eq]; rfl⟩
instance : Wk (ARs B L P [] ([] ++ [v]) T V) (Fin B L v V) := ⟨fun g h s => by
  simp only [qce]
  exact Runs.bind (Runs.pure (Runs.pure (g h s)))⟩
instance {v w : AV} : Wk (ARs B L P [] ([] ++ [v] ++ [w]) T V) (Fin B L (.tuple [v, w]) V) := ⟨fun g h s => by
  simp only [qce]
  exact Runs.bind (Runs.pure (Runs.pure (g h s)))⟩
instance {v w u : AV} : Wk (ARs B L P [] ([] ++ [v] ++ [w] ++ [u]) T V) (Fin B L (.tuple [v, w, u]) V) := ⟨fun g h s => by
  simp only [qce]
  exact Runs.bind (Runs.pure (Runs.pure (g h s)))⟩
instance : Wk (ARs B L P [] [] T V) (Fin B L (.tuple []) V) := ⟨fun g h s => by
  simp only [qce]
  exact Runs.bind (Runs.pure (Runs.pure (g h s)))⟩
theorem fin {Post : AV → List Ck → Prop} {N : List Ck} (p : Post v N) [k : Sb L N] : Fin B L v (QF B Post) := fun h s => ⟨N, p, s.sb k⟩

/-! ### into a function -/
class ApV (a b : List AV) (c : outParam (List AV)) : Prop where eq : a ++ b = c
instance {b : List AV} : ApV [] b b := ⟨rfl⟩
instance {x : AV} {a b c : List AV} [e : ApV a b c] : ApV (x :: a) b (x :: c) := ⟨by rw [List.cons_append, e.eq]⟩
theorem qbh {sums : Sums} {f : FuncId} {fn' : Func} {c : Code} {first captured args al1 al : List AV} {n nt : Nat} {rs : List ResultVar} {C W : List Ck} {Post : AV → List Ck → Prop} (hn : 0 < n) (hs : sums f = none) (hf : P.funcs[f]? = some fn') (hc : fn'.body = some c) (hnt : fn'.ntmps = nt) (hrs : fn'.results = rs.toArray)
    [e1 : ApV args captured al1] [e2 : ApV first al1 al] (hl : Nat.ble al.length nt = true)
    (r : ∀ m h0 T, n = m + 1 → Args T al → ACo ⟨h0, cids C, W⟩ C P pol (qat P pol sums m) f nt m c T (KFun P rs (QF ⟨h0, cids C, W⟩ Post))) : Cal C W (qat P pol sums n (.func (.func f) first captured) args) Post := fun h s => by
  obtain ⟨m, rfl⟩ : ∃ m, n = m + 1 := ⟨n - 1, by omega⟩
  have hl' : al.length ≤ nt := by simpa using hl
  obtain rfl : first ++ args ++ captured = al := by rw [List.append_assoc, e1.eq, e2.eq]
  subst hnt
  refine qb9 hs hf hc hl' ((r m h _ rfl ⟨fun i v e => qaf e⟩ h s).mono fun x h1 k => ?_)
  obtain ⟨k1, k2⟩ := k
  refine ⟨k1, ?_⟩
  unfold qa8
  rw [hrs]
  exact k2
theorem Cal_sum {sums : Sums} {f : FuncId} {s : List AV → AM AV} {first captured args al1 al : List AV} {n : Nat} {C W : List Ck} {Post : AV → List Ck → Prop} (hn : 0 < n) (hs : sums f = some s) [e1 : ApV args captured al1] [e2 : ApV first al1 al] (r : Cal C W (s al) Post) : Cal C W (qat P pol sums n (.func (.func f) first captured) args) Post := fun h t => by
  obtain ⟨m, rfl⟩ : ∃ m, n = m + 1 := ⟨n - 1, by omega⟩
  obtain rfl : first ++ args ++ captured = al := by rw [List.append_assoc, e1.eq, e2.eq]
  exact R_sum hs (r h t)

/-! ### loops -/
/-- what code writes -/
def wr : Code → List Nat
  | .region _ ops _ => ops.toList.filterMap (·.dst)
  | .seq a b => wr a ++ wr b
  | .cond _ a b => wr a ++ wr b
  | .block _ b => wr b
  | .loop b => wr b
  | _ => []
theorem bind_some {α β : Type} {m : AM α} {f : α → AM β} {h : Hp} {r : β × Hp} (e : (m >>= f).run h = some r) : ∃ a h1, m.run h = some (a, h1) ∧ (f a).run h1 = some r := by
  rw [run_bind] at e
  cases hm : m.run h with
  | none => rw [hm] at e; cases e
  | some p => rw [hm] at e; exact ⟨p.1, p.2, rfl, e⟩
theorem aops_wr (ops : List Oper) : ∀ (l : List Nat) (T T' : qag) (h h' : Hp), (aops P pol call fn nt ops l T).run h = some (T', h') → ∀ t, t ∉ ops.filterMap (·.dst) → qay T' t = qay T t
  | [], T, T', h, h', e, t, ht => by cases e; rfl
  | i :: rest, T, T', h, h', e, t, ht => by
    unfold aops at e
    cases ho : ops[i]? with
    | none => rw [ho] at e; cases e
    | some o =>
      have hd : ∀ v, qay (qa2? nt T o.dst v) t = qay T t := fun v => by
        cases hq : o.dst with
        | none => rfl
        | some u =>
          refine tgo_ne (T := T) (v := v) (x := qay T t) ?_ rfl
          cases hb : Nat.beq t u with
          | false => rfl
          | true => obtain rfl := Nat.eq_of_beq_eq_true hb; exact absurd (List.mem_filterMap.2 ⟨o, List.mem_of_getElem? ho, hq⟩) ht
      rw [ho] at e
      dsimp only at e
      rw [run_bind] at e
      cases hb : (awanted ops T o).run h with
      | none => rw [hb] at e; cases e
      | some p =>
        obtain ⟨b, h1⟩ := p
        rw [hb] at e
        cases b with
        | false => exact (aops_wr ops rest _ _ _ _ e t ht).trans (hd _)
        | true =>
          dsimp only at e
          rw [run_bind] at e
          cases hv : (aop P pol call fn o (qaj T)).run h1 with
          | none => rw [hv] at e; cases e
          | some p =>
            obtain ⟨v, h2⟩ := p
            rw [hv] at e
            exact (aops_wr ops rest _ _ _ _ e t ht).trans (hd _)
theorem aopsD_wr (ops : List Oper) (ms : List Nat) : ∀ (l : List Nat) (seen : Seen) (T T' : qag) (h h' : Hp), (aopsD P pol call fn nt ops ms l seen T).run h = some (T', h') → ∀ t, t ∉ ops.filterMap (·.dst) → qay T' t = qay T t
  | [], seen, T, T', h, h', e, t, ht => by cases e; rfl
  | i :: rest, seen, T, T', h, h', e, t, ht => by
    unfold aopsD at e
    cases ho : ops[i]? with
    | none => rw [ho] at e; cases e
    | some o =>
      have hd : ∀ v, qay (qa2? nt T o.dst v) t = qay T t := fun v => by
        cases hq : o.dst with
        | none => rfl
        | some u =>
          refine tgo_ne (T := T) (v := v) (x := qay T t) ?_ rfl
          cases hb : Nat.beq t u with
          | false => rfl
          | true => obtain rfl := Nat.eq_of_beq_eq_true hb; exact absurd (List.mem_filterMap.2 ⟨o, List.mem_of_getElem? ho, hq⟩) ht
      rw [ho] at e
      dsimp only at e
      rw [run_bind] at e
      cases hb : (awanted ops T o).run h with
      | none => rw [hb] at e; cases e
      | some p =>
        obtain ⟨b, h1⟩ := p
        rw [hb] at e
        cases b with
        | false => exact (aopsD_wr ops ms rest _ _ _ _ _ e t ht).trans (hd _)
        | true =>
          dsimp only at e
          generalize qa5 o.op = c at e
          rcases c with _ | _ | c
          · obtain ⟨v, h2, _, e⟩ := bind_some e
            exact (aopsD_wr ops ms rest _ _ _ _ _ e t ht).trans (hd _)
          · obtain ⟨v, h2, _, e⟩ := bind_some e
            exact (aopsD_wr ops ms rest _ _ _ _ _ e t ht).trans (hd _)
          · obtain ⟨_, h2, _, e⟩ := bind_some e
            obtain ⟨v, h3, _, e⟩ := bind_some e
            obtain ⟨_, h4, _, e⟩ := bind_some e
            obtain ⟨_, h5, _, e⟩ := bind_some e
            exact (aopsD_wr ops ms rest _ _ _ _ _ e t ht).trans (hd _)
theorem acode_wr : ∀ (c : Code) (T : qag) (h h' : Hp) (x : Exit × qag), (qaw P pol call fn nt fuel c T).run h = some (x, h') → ∀ t, t ∉ wr c → qay x.2 t = qay T t := by
  intro c
  induction c with
  | region id ops draw =>
    intro T h h' x e t ht
    simp only [qaw, run_bind] at e
    cases hr : (aregion P pol call fn nt ops.toList draw T).run h with
    | none => rw [hr] at e; cases e
    | some p =>
      rw [hr] at e
      cases e
      unfold aregion at hr
      cases draw with
      | false => exact aops_wr _ _ _ _ _ _ hr t ht
      | true =>
        dsimp only at hr
        cases ho : orderOf ops.toList with
        | none => rw [ho] at hr; cases hr
        | some l => rw [ho] at hr; exact aopsD_wr _ _ _ _ _ _ _ _ hr t ht
  | seq a b iha ihb =>
    intro T h h' x e t ht
    simp only [wr, List.mem_append, not_or] at ht
    simp only [qaw, run_bind] at e
    cases hr : (qaw P pol call fn nt fuel a T).run h with
    | none => rw [hr] at e; cases e
    | some p =>
      obtain ⟨⟨ex, T1⟩, h1⟩ := p
      rw [hr] at e
      have h2 := iha T h h1 _ hr t ht.1
      cases ex with
      | normal => exact (ihb T1 h1 h' x e t ht.2).trans h2
      | _ => cases e; exact h2
  | cond c a b iha ihb =>
    intro T h h' x e t ht
    simp only [wr, List.mem_append, not_or] at ht
    simp only [qaw] at e
    split at e
    · exact iha T h h' x e t ht.1
    · exact ihb T h h' x e t ht.2
    · cases e
  | block id b ih =>
    intro T h h' x e t ht
    simp only [qaw, run_bind] at e
    cases hr : (qaw P pol call fn nt fuel b T).run h with
    | none => rw [hr] at e; cases e
    | some p =>
      obtain ⟨⟨ex, T1⟩, h1⟩ := p
      rw [hr] at e
      have h2 := ih T h h1 _ hr t ht
      cases ex with
      | exit id' =>
        dsimp only at e
        cases hb : Nat.beq id' id with
        | true => rw [hb] at e; cases e; exact h2
        | false => rw [hb] at e; cases e; exact h2
      | _ => cases e; exact h2
  | loop b ih =>
    intro T h h' x e t ht
    simp only [qaw] at e
    have key : ∀ (n : Nat) (T : qag) (h h' : Hp) (x : Exit × qag), (aloop (qaw P pol call fn nt fuel b) n T).run h = some (x, h') → qay x.2 t = qay T t := by
      intro n
      induction n with
      | zero => intro T h h' x e; cases e
      | succ n ihn =>
        intro T h h' x e
        simp only [aloop, run_bind] at e
        cases hr : (qaw P pol call fn nt fuel b T).run h with
        | none => rw [hr] at e; cases e
        | some p =>
          obtain ⟨⟨ex, T1⟩, h1⟩ := p
          rw [hr] at e
          have h2 := ih T h h1 _ hr t ht
          cases ex with
          | normal => exact (ihn T1 h1 h' x e).trans h2
          | _ => cases e; exact h2
    exact key fuel T h h' x e
  | rangeFunc f params assign body =>
    intro T h h' x e t ht
    simp only [qaw] at e
    obtain ⟨_, _, _, e⟩ := bind_some e
    obtain ⟨_, _, _, e⟩ := bind_some e
    obtain ⟨_, _, _, e⟩ := bind_some e
    obtain ⟨⟨_, _, _, _, _, _, _, p⟩, _, _, e⟩ := bind_some e
    obtain ⟨_, _, _, e⟩ := bind_some e
    obtain ⟨_, _, _, e⟩ := bind_some e
    obtain ⟨_, _, _, e⟩ := bind_some e
    unfold qcu at e
    cases p with
    | none => cases e; rfl
    | some c =>
      obtain ⟨_, _, _, e⟩ := bind_some e
      cases e; rfl
  | _ => intro T h h' x e t ht; first | (cases e; rfl) | cases e
theorem Runs.wr {c : Code} {h : Hp} {Q : Exit × qag → Hp → Prop} (r : Runs (qaw P pol call fn nt fuel c T) h Q) : Runs (qaw P pol call fn nt fuel c T) h fun x h' => Q x h' ∧ ∀ t, t ∉ wr c → qay x.2 t = qay T t := fun w => by
  obtain ⟨x, h', e, q⟩ := r w
  exact ⟨x, h', e, q, acode_wr c T h h' x e⟩

/-- what is owed behind a round: less is left -/
def KLp (B : Bs) (I : Nat → List Ck → qag → Prop) (k : Nat) (Q : Exit × qag → Hp → Prop) : Exit × qag → Hp → Prop := fun x h1 => match x with
  | (.normal, T1) => ∃ k' L', k' < k ∧ St B L' h1 ∧ I k' L' T1
  | x => Q x h1
theorem Agr.trans' {K : List Nat} {T0 T1 T2 : qag} (a : Agr K T0 T1) (b : Agr K T1 T2) : Agr K T0 T2 := ⟨fun t h => (b.eq t h).trans (a.eq t h)⟩
theorem A_loopS {b : Code} {L0 : List Ck} (I : Nat → List Ck → qag → Prop) (K : List Nat) (k : Nat) (hk : k < fuel) (h0 : I k L0 T) [sb : Sb L L0] (hK : (K.all fun t => !(inList t (wr b))) = true)
    (round : ∀ k L T1, I k L T1 → Agr K T T1 → ACo B L P pol call fn nt fuel b T1 (KLp B I k Q)) : ACo B L P pol call fn nt fuel (.loop b) T Q := fun h s => by
  simp only [qaw]
  have hw : ∀ t ∈ K, t ∉ wr b := fun t ht hw => by
    have h1 := List.all_eq_true.1 hK t ht
    have : ∀ l : List Nat, t ∈ l → inList t l = true := by
      intro l
      induction l with
      | nil => intro h; cases h
      | cons u l ih =>
        intro h
        rcases List.mem_cons.1 h with rfl | q
        · simp [inList]
        · simp [inList, ih q]
    rw [this _ hw] at h1; cases h1
  have key : ∀ (k n : Nat) (L : List Ck) (T1 : qag) (h : Hp), k < n → St B L h → I k L T1 → Agr K T T1 → Runs (aloop (qaw P pol call fn nt fuel b) n T1) h Q := by
    intro k
    induction k using Nat.strongRecOn with
    | _ k ih =>
      intro n L T1 h hn s hI hA
      obtain ⟨m, rfl⟩ : ∃ m, n = m + 1 := ⟨n - 1, by omega⟩
      simp only [aloop]
      refine Runs.bind (((round k L T1 hI hA h s).wr).mono fun x h1 q => ?_)
      obtain ⟨e, T2⟩ := x
      obtain ⟨q, qw⟩ := q
      cases e with
      | normal =>
        obtain ⟨k', L', hk', s', hI'⟩ := q
        exact ih k' hk' m L' T2 h1 (by omega) s' hI' (hA.trans' ⟨fun t ht => qw t (hw t ht)⟩)
      | _ => exact Runs.pure q
  exact key k fuel L0 T h hk (s.sb sb) h0 ⟨fun _ _ => rfl⟩
theorem A_loop {b : Code} (I : Nat → List Ck → qag → Prop) (K : List Nat) (k : Nat) (hk : k < fuel) (h0 : I k L T) (hK : (K.all fun t => !(inList t (wr b))) = true)
    (round : ∀ k L T1, I k L T1 → Agr K T T1 → ACo B L P pol call fn nt fuel b T1 (KLp B I k Q)) : ACo B L P pol call fn nt fuel (.loop b) T Q := A_loopS I K k hk h0 hK round
/-- a loop that turns no chunk -/
theorem A_loopR {b : Code} (I : Nat → qag → Prop) (K : List Nat) (k : Nat) (hk : k < fuel) (h0 : I k T) (hK : (K.all fun t => !(inList t (wr b))) = true)
    (round : ∀ k T1, I k T1 → Agr K T T1 → ACo B L P pol call fn nt fuel b T1 (KLp B (fun k L' T => L' = L ∧ I k T) k Q)) : ACo B L P pol call fn nt fuel (.loop b) T Q :=
  A_loopS (L0 := L) (fun k L' T => L' = L ∧ I k T) K k hk ⟨rfl, h0⟩ hK (sb := ⟨fun B h Z s => s⟩) (fun k L' T1 h => by obtain ⟨rfl, h⟩ := h; exact round k T1 h)
theorem lend {I : Nat → List Ck → qag → Prop} {k : Nat} (k' : Nat) (L' : List Ck) (hk : k' < k) [e : Sb L L'] (hI : I k' L' T) : AK B L (KLp B I k Q) (.normal, T) := fun h s => ⟨k', L', hk, s.sb e, hI⟩
instance {I : Nat → List Ck → qag → Prop} {k : Nat} : Wk (AK B L (KLp B I k Q) (.ret, T)) (AK B L Q (.ret, T)) := ⟨fun g h s => g h s⟩
instance {I : Nat → List Ck → qag → Prop} {k : Nat} : Wk (AK B L (KLp B I k Q) (.exit id, T)) (AK B L Q (.exit id, T)) := ⟨fun g h s => g h s⟩
theorem lkz {t : Nat} {k : IntKind} {z z' : Int} [a : Lk T t (.int k z)] (e : z = z') : Lk T t (.int k z') := ⟨by rw [a.eq, e]⟩
theorem lkv {t : Nat} {v v' : AV} [a : Lk T t v] (e : v = v') : Lk T t v' := ⟨by rw [a.eq, e]⟩
/-- both halves of an if, where it is known which -/
theorem condT {b : Bool} {X Y : Prop} (h : b = true) (x : X) : (b = true → X) ∧ (b = false → Y) := ⟨fun _ => x, fun e => by rw [h] at e; cases e⟩
theorem condF {b : Bool} {X Y : Prop} (h : b = false) (y : Y) : (b = true → X) ∧ (b = false → Y) := ⟨(fun e => by rw [h] at e; cases e), fun _ => y⟩
end
end Go.Am
namespace Go.Am
open Go AM
set_option linter.unusedVariables false
set_option synthInstance.maxHeartbeats 200000
/-- a number from 0 on -/
class NatOf (z : Int) (j : outParam Nat) : Prop where eq : z = (j : Int)
instance {n : Nat} : NatOf (n : Int) n := ⟨rfl⟩
instance : NatOf 0 0 := ⟨rfl⟩
instance : NatOf 1 1 := ⟨rfl⟩
instance : NatOf 2 2 := ⟨rfl⟩
instance : NatOf 3 3 := ⟨rfl⟩
instance : NatOf 4 4 := ⟨rfl⟩
instance : NatOf 5 5 := ⟨rfl⟩
instance : NatOf 6 6 := ⟨rfl⟩
instance : NatOf 7 7 := ⟨rfl⟩
instance : NatOf 8 8 := ⟨rfl⟩
instance : NatOf 9 9 := ⟨rfl⟩
instance : NatOf 10 10 := ⟨rfl⟩
instance : NatOf 11 11 := ⟨rfl⟩
instance : NatOf 12 12 := ⟨rfl⟩
instance : NatOf 13 13 := ⟨rfl⟩
instance : NatOf 14 14 := ⟨rfl⟩
instance : NatOf 15 15 := ⟨rfl⟩
instance : NatOf 16 16 := ⟨rfl⟩
instance : NatOf 17 17 := ⟨rfl⟩
instance : NatOf 18 18 := ⟨rfl⟩
instance : NatOf 19 19 := ⟨rfl⟩
instance : NatOf 20 20 := ⟨rfl⟩
instance : NatOf 21 21 := ⟨rfl⟩
instance : NatOf 22 22 := ⟨rfl⟩
instance : NatOf 23 23 := ⟨rfl⟩
instance : NatOf 24 24 := ⟨rfl⟩
instance : NatOf 25 25 := ⟨rfl⟩
instance : NatOf 26 26 := ⟨rfl⟩
instance : NatOf 27 27 := ⟨rfl⟩
instance : NatOf 28 28 := ⟨rfl⟩
instance : NatOf 29 29 := ⟨rfl⟩
instance : NatOf 30 30 := ⟨rfl⟩
instance : NatOf 31 31 := ⟨rfl⟩
instance : NatOf 32 32 := ⟨rfl⟩
instance : NatOf 33 33 := ⟨rfl⟩
instance : NatOf 64 64 := ⟨rfl⟩
instance : NatOf 128 128 := ⟨rfl⟩
instance : NatOf 255 255 := ⟨rfl⟩
instance : NatOf 256 256 := ⟨rfl⟩
instance : NatOf 257 257 := ⟨rfl⟩

section
variable {h0 : Hp} {X : List Nat} {W L : List Ck} {P : Program} {pol : Pol} {call : qa6} {fn nt : Nat} {R : Rg} {rest : List (Nat × Oper)} {ds : List (Nat × Option Tmp)} {seen : Seen} {T : qag} {Q : qag → Hp → Prop} {i : Nat} {d : Option Tmp} {ty : TypeId} {pos : String} {after : Array Edge}

instance {B : Bs} : Wk (qa3 B L P pol call fn nt R [] ds seen T Q) (AT B L Q T) := ⟨fun g h s _ => O_nil (g h s)⟩
/-- chunks in front, laid out -/
instance (priority := 2000) {B : Bs} {ops : List (Nat × Oper)} {N M Z : List Ck} [a : App N M Z] : Wk (qa3 B (N ++ M) P pol call fn nt R ops ds seen T Q) (qa3 B Z P pol call fn nt R ops ds seen T Q) := ⟨fun g => by rw [a.eq]; exact g⟩

/-! guards -/
class Dl (ds : List (Nat × Option Tmp)) (j : Nat) (t : outParam Nat) : Prop where mem : (j, some t) ∈ ds
instance dl_0 {ds : List (Nat × Option Tmp)} {j t : Nat} : Dl ((j, some t) :: ds) j t := ⟨List.mem_cons_self⟩
instance (priority := 900) dl_s {ds : List (Nat × Option Tmp)} {j t : Nat} {x : Nat × Option Tmp} [a : Dl ds j t] : Dl (x :: ds) j t := ⟨List.mem_cons_of_mem _ a.mem⟩
theorem aops_yes {B : Bs} {j t : Nat} {want : Bool} {op : Op} [a : Dl ds j t] [b : Lk T t (.bool want)] (g : qa3 B L P pol call fn nt R ((i, ⟨d, op, ty, pos, after, none⟩) :: rest) ds seen T Q) :
    qa3 B L P pol call fn nt R ((i, ⟨d, op, ty, pos, after, some (j, want)⟩) :: rest) ds seen T Q := fun h s e =>
  O_yes rfl (by rw [e.1 _ a.mem]; rfl) b.eq (g h s e.yes)
theorem aops_no {B : Bs} {j t : Nat} {want b : Bool} {op : Op} [a : Dl ds j t] [hb : Lk T t (.bool b)] (hn : b = !want) (g : qa3 B L P pol call fn nt R rest ((i, d) :: ds) seen (qa2? nt T d (.tuple [])) Q) :
    qa3 B L P pol call fn nt R ((i, ⟨d, op, ty, pos, after, some (j, want)⟩) :: rest) ds seen T Q := fun h s e =>
  O_no rfl (by rw [e.1 _ a.mem]; rfl) hb.eq hn (g h s e.step)
instance {B : Bs} {j t : Nat} {op : Op} {b : Bool} [a : Dl ds j t] [hb : Lk T t (.bool b)] [k : Is b true] : Wk (qa3 B L P pol call fn nt R ((i, ⟨d, op, ty, pos, after, some (j, true)⟩) :: rest) ds seen T Q) (qa3 B L P pol call fn nt R ((i, ⟨d, op, ty, pos, after, none⟩) :: rest) ds seen T Q) := ⟨fun g => by have hb' : Lk T t (.bool true) := ⟨by rw [hb.eq, k.eq]⟩; exact aops_yes g⟩
instance {B : Bs} {j t : Nat} {op : Op} {b : Bool} [a : Dl ds j t] [hb : Lk T t (.bool b)] [k : Is b false] : Wk (qa3 B L P pol call fn nt R ((i, ⟨d, op, ty, pos, after, some (j, false)⟩) :: rest) ds seen T Q) (qa3 B L P pol call fn nt R ((i, ⟨d, op, ty, pos, after, none⟩) :: rest) ds seen T Q) := ⟨fun g => by have hb' : Lk T t (.bool false) := ⟨by rw [hb.eq, k.eq]⟩; exact aops_yes g⟩
instance {B : Bs} {j t : Nat} {op : Op} {b : Bool} [a : Dl ds j t] [hb : Lk T t (.bool b)] [k : Is b true] : Wk (qa3 B L P pol call fn nt R ((i, ⟨d, op, ty, pos, after, some (j, false)⟩) :: rest) ds seen T Q) (qa3 B L P pol call fn nt R rest ((i, d) :: ds) seen (qa2? nt T d (.tuple [])) Q) := ⟨aops_no (b := b) k.eq⟩
instance {B : Bs} {j t : Nat} {op : Op} {b : Bool} [a : Dl ds j t] [hb : Lk T t (.bool b)] [k : Is b false] : Wk (qa3 B L P pol call fn nt R ((i, ⟨d, op, ty, pos, after, some (j, true)⟩) :: rest) ds seen T Q) (qa3 B L P pol call fn nt R rest ((i, d) :: ds) seen (qa2? nt T d (.tuple [])) Q) := ⟨aops_no (b := b) k.eq⟩
/-- by cases, where a guard is not known -/
theorem guard_cases {B : Bs} {j t : Nat} {want b : Bool} {op : Op} [a : Dl ds j t] [hb : Lk T t (.bool b)]
    (g1 : b = want → qa3 B L P pol call fn nt R ((i, ⟨d, op, ty, pos, after, none⟩) :: rest) ds seen T Q) (g2 : b = !want → qa3 B L P pol call fn nt R rest ((i, d) :: ds) seen (qa2? nt T d (.tuple [])) Q) :
    qa3 B L P pol call fn nt R ((i, ⟨d, op, ty, pos, after, some (j, want)⟩) :: rest) ds seen T Q := by
  by_cases e : b = want
  · subst e; exact aops_yes (g1 rfl)
  · exact aops_no (b := b) (by cases b <;> cases want <;> simp_all) (g2 (by cases b <;> cases want <;> simp_all))

/-! values -/
section
variable {B : Bs}
theorem aval {op : Op} {v : AV} (k : ∀ h, qbq P pol call fn nt R rest ((i, []) :: seen) (qa2? nt T d v) h Q → qbq P pol call fn nt R ((i, ⟨d, op, ty, pos, after, none⟩) :: rest) seen T h Q)
    (g : qa3 B L P pol call fn nt R rest ((i, d) :: ds) ((i, []) :: seen) (qa2? nt T d v) Q) : qa3 B L P pol call fn nt R ((i, ⟨d, op, ty, pos, after, none⟩) :: rest) ds seen T Q := fun h s e => k h (g h s e.step)
instance {x : Operand} {v : AV} [a : Ev T x v] : Wk (qa3 B L P pol call fn nt R ((i, ⟨d, .move x, ty, pos, after, none⟩) :: rest) ds seen T Q) (qa3 B L P pol call fn nt R rest ((i, d) :: ds) ((i, []) :: seen) (qa2? nt T d v) Q) := ⟨aval fun h => O_move a.eq⟩
instance {x : Operand} {v : AV} [a : Ev T x v] : Wk (qa3 B L P pol call fn nt R ((i, ⟨d, .assign x, ty, pos, after, none⟩) :: rest) ds seen T Q) (qa3 B L P pol call fn nt R rest ((i, d) :: ds) ((i, []) :: seen) (qa2? nt T d v) Q) := ⟨aval fun h => O_assign a.eq⟩
/-- numbers: what comes, without and with a condition -/
class Ar (op : BinOp) (k : IntKind) (a b : Int) (v : outParam AV) : Prop where eq : intR op k a b = some v
instance {k : IntKind} {a b : Int} : Ar .eql k a b (.bool (a == b)) := ⟨rfl⟩
instance {k : IntKind} {a b : Int} : Ar .neq k a b (.bool (a != b)) := ⟨rfl⟩
instance {k : IntKind} {a b : Int} : Ar .lss k a b (.bool (decide (a < b))) := ⟨rfl⟩
instance {k : IntKind} {a b : Int} : Ar .leq k a b (.bool (decide (a ≤ b))) := ⟨rfl⟩
instance {k : IntKind} {a b : Int} : Ar .gtr k a b (.bool (decide (a > b))) := ⟨rfl⟩
instance {k : IntKind} {a b : Int} : Ar .geq k a b (.bool (decide (a ≥ b))) := ⟨rfl⟩
class ArC (op : BinOp) (k : IntKind) (a b : Int) (v : outParam AV) (C : outParam Prop) : Prop where eq : C → intR op k a b = some v
instance arc_inc {n : Nat} : ArC .add .i64 (n : Int) 1 (.int .i64 ((n + 1 : Nat) : Int)) (n < 9223372036854775807) := ⟨ar_inc n⟩
instance arc_addn {n m : Nat} : ArC .add .i64 (n : Int) (m : Int) (.int .i64 ((n + m : Nat) : Int)) (n + m < 9223372036854775808) := ⟨fun h => by rw [ar_add (by omega)]; simp⟩
instance (priority := 950) arc_lit {n k : Nat} {b : Int} [e : NatOf b k] : ArC .add .i64 (n : Int) b (.int .i64 ((n + k : Nat) : Int)) (n + k < 9223372036854775808) := ⟨fun h => by rw [e.eq, ar_add (by omega)]; simp⟩
instance (priority := 900) arc_add {a b : Int} : ArC .add .i64 a b (.int .i64 (a + b)) (-9223372036854775808 ≤ a + b ∧ a + b < 9223372036854775808) := ⟨fun h => ar_add h⟩
instance (priority := 900) arc_sub {a b : Int} : ArC .sub .i64 a b (.int .i64 (a - b)) (-9223372036854775808 ≤ a - b ∧ a - b < 9223372036854775808) := ⟨fun h => ar_sub h⟩
instance (priority := 900) arc_mul {a b : Int} : ArC .mul .i64 a b (.int .i64 (a * b)) (-9223372036854775808 ≤ a * b ∧ a * b < 9223372036854775808) := ⟨fun h => by simp only [intR]; rw [wrap64 (y := a * b) rfl h]⟩
instance wk_ar {op : BinOp} {t t' : TypeId} {x y : Operand} {k : IntKind} {a b : Int} {v : AV} [hx : Ev T x (.int k a)] [hy : Ev T y (.int k b)] [r : Ar op k a b v] :
    Wk (qa3 B L P pol call fn nt R ((i, ⟨d, .binOp op t x y t', ty, pos, after, none⟩) :: rest) ds seen T Q) (qa3 B L P pol call fn nt R rest ((i, d) :: ds) ((i, []) :: seen) (qa2? nt T d v) Q) := ⟨aval fun h => O_int hx.eq hy.eq r.eq⟩
instance (priority := 900) wk_arc {op : BinOp} {t t' : TypeId} {x y : Operand} {k : IntKind} {a b : Int} {v : AV} {C : Prop} [hx : Ev T x (.int k a)] [hy : Ev T y (.int k b)] [r : ArC op k a b v C] :
    Wk (qa3 B L P pol call fn nt R ((i, ⟨d, .binOp op t x y t', ty, pos, after, none⟩) :: rest) ds seen T Q) (C ∧ qa3 B L P pol call fn nt R rest ((i, d) :: ds) ((i, []) :: seen) (qa2? nt T d v) Q) := ⟨fun g => aval (fun h => O_int hx.eq hy.eq (r.eq g.1)) g.2⟩
instance {t t' : TypeId} {x y : Operand} {k : IntKind} {a b : Int} [hx : Ev T x (.int k a)] [hy : Ev T y (.int k b)] :
    Wk (qa3 B L P pol call fn nt R ((i, ⟨d, .binOp .rem t x y t', ty, pos, after, none⟩) :: rest) ds seen T Q) (b ≠ 0 ∧ qa3 B L P pol call fn nt R rest ((i, d) :: ds) ((i, []) :: seen) (qa2? nt T d (.int k (a.tmod b))) Q) := ⟨fun g => aval (fun h => O_rem hx.eq hy.eq g.1) g.2⟩
instance {t t' : TypeId} {x y : Operand} {k : IntKind} {a b : Int} [hx : Ev T x (.int k a)] [hy : Ev T y (.int k b)] :
    Wk (qa3 B L P pol call fn nt R ((i, ⟨d, .binOp .quo t x y t', ty, pos, after, none⟩) :: rest) ds seen T Q) (b ≠ 0 ∧ qa3 B L P pol call fn nt R rest ((i, d) :: ds) ((i, []) :: seen) (qa2? nt T d (.int k (k.wrap (a.tdiv b)))) Q) := ⟨fun g => aval (fun h => O_quo hx.eq hy.eq g.1) g.2⟩
class Sr (op : BinOp) (a b : List UInt8) (v : outParam AV) : Prop where eq : strR op a b = some v
instance {a b : List UInt8} : Sr .eql a b (.bool (a == b)) := ⟨rfl⟩
instance {a b : List UInt8} : Sr .neq a b (.bool !(a == b)) := ⟨rfl⟩
instance {a b : List UInt8} : Sr .lss a b (.bool (Op.bytesLess a b)) := ⟨rfl⟩
instance wk_sr {op : BinOp} {t t' : TypeId} {x y : Operand} {a b : List UInt8} {v : AV} [hx : Ev T x (.str a)] [hy : Ev T y (.str b)] [r : Sr op a b v] :
    Wk (qa3 B L P pol call fn nt R ((i, ⟨d, .binOp op t x y t', ty, pos, after, none⟩) :: rest) ds seen T Q) (qa3 B L P pol call fn nt R rest ((i, d) :: ds) ((i, []) :: seen) (qa2? nt T d v) Q) := ⟨aval fun h => O_str hx.eq hy.eq r.eq⟩
instance {t : TypeId} {x : Operand} {b : Bool} [hx : Ev T x (.bool b)] : Wk (qa3 B L P pol call fn nt R ((i, ⟨d, .unOp .not t x, ty, pos, after, none⟩) :: rest) ds seen T Q) (qa3 B L P pol call fn nt R rest ((i, d) :: ds) ((i, []) :: seen) (qa2? nt T d (.bool !b)) Q) := ⟨aval fun h => O_not hx.eq⟩
instance {c x y : Operand} {v : AV} {b : Bool} [hc : Ev T c (.bool b)] [k : Is b true] [hx : Ev T x v] : Wk (qa3 B L P pol call fn nt R ((i, ⟨d, .pick c x y, ty, pos, after, none⟩) :: rest) ds seen T Q) (qa3 B L P pol call fn nt R rest ((i, d) :: ds) ((i, []) :: seen) (qa2? nt T d v) Q) := ⟨aval fun h g => O_pick (u := qaj T y) hc.eq hx.eq rfl (by rw [k.eq]; exact g)⟩
instance {c x y : Operand} {u : AV} {b : Bool} [hc : Ev T c (.bool b)] [k : Is b false] [hy : Ev T y u] : Wk (qa3 B L P pol call fn nt R ((i, ⟨d, .pick c x y, ty, pos, after, none⟩) :: rest) ds seen T Q) (qa3 B L P pol call fn nt R rest ((i, d) :: ds) ((i, []) :: seen) (qa2? nt T d u) Q) := ⟨aval fun h g => O_pick (v := qaj T x) hc.eq rfl hy.eq (by rw [k.eq]; exact g)⟩
instance (priority := 500) wk_pick {c x y : Operand} {b : Bool} {v u : AV} [hc : Ev T c (.bool b)] [hx : Ev T x v] [hy : Ev T y u] : Wk (qa3 B L P pol call fn nt R ((i, ⟨d, .pick c x y, ty, pos, after, none⟩) :: rest) ds seen T Q) (qa3 B L P pol call fn nt R rest ((i, d) :: ds) ((i, []) :: seen) (qa2? nt T d (cond b v u)) Q) := ⟨aval fun h => O_pick hc.eq hx.eq hy.eq⟩
instance {x y : Operand} {ats : Array TypeId} {k : IntKind} {a b : Int} [hx : Ev T x (.int k a)] [hy : Ev T y (.int k b)] : Wk (qa3 B L P pol call fn nt R ((i, ⟨d, .call ⟨.builtin .max, [x, y].toArray, ats⟩, ty, pos, after, none⟩) :: rest) ds seen T Q) (qa3 B L P pol call fn nt R rest ((i, d) :: ds) ((i, []) :: seen) (qa2? nt T d (.int k (if b > a then b else a))) Q) := ⟨aval fun h => O_max2 hx.eq hy.eq⟩
instance {x y : Operand} {ats : Array TypeId} {k : IntKind} {a b : Int} [hx : Ev T x (.int k a)] [hy : Ev T y (.int k b)] : Wk (qa3 B L P pol call fn nt R ((i, ⟨d, .call ⟨.builtin .min, [x, y].toArray, ats⟩, ty, pos, after, none⟩) :: rest) ds seen T Q) (qa3 B L P pol call fn nt R rest ((i, d) :: ds) ((i, []) :: seen) (qa2? nt T d (.int k (if b < a then b else a))) Q) := ⟨aval fun h => O_min2 hx.eq hy.eq⟩
instance {x : Operand} {j : Nat} {vs : List AV} {v : AV} [hx : Ev T x (.tuple vs)] [hv : Nth vs j v] : Wk (qa3 B L P pol call fn nt R ((i, ⟨d, .extract x j, ty, pos, after, none⟩) :: rest) ds seen T Q) (qa3 B L P pol call fn nt R rest ((i, d) :: ds) ((i, []) :: seen) (qa2? nt T d v) Q) := ⟨aval fun h => O_extract hx.eq hv.eq⟩
instance {a b : TypeId} {ka kb : IntKind} [ha : TInt P a ka] [hb : TInt P b kb] {x : Operand} {k : IntKind} {n : Int} [hx : Ev T x (.int k n)] : Wk (qa3 B L P pol call fn nt R ((i, ⟨d, .convert a b x, ty, pos, after, none⟩) :: rest) ds seen T Q) (qa3 B L P pol call fn nt R rest ((i, d) :: ds) ((i, []) :: seen) (qa2? nt T d (.int kb (kb.wrap n))) Q) := ⟨aval fun h => O_convert_int hx.eq⟩
instance {x : Operand} {id ver off : Nat} [hx : Ev T x (.ptr id ver off)] : Wk (qa3 B L P pol call fn nt R ((i, ⟨d, .nilCheck x, ty, pos, after, none⟩) :: rest) ds seen T Q) (qa3 B L P pol call fn nt R rest ((i, d) :: ds) ((i, []) :: seen) (qa2? nt T d (.ptr id ver off)) Q) := ⟨aval fun h => O_nilCheck_ptr hx.eq⟩
instance {x : Operand} {cells : List AV} [hx : Ev T x (.iptr cells)] : Wk (qa3 B L P pol call fn nt R ((i, ⟨d, .nilCheck x, ty, pos, after, none⟩) :: rest) ds seen T Q) (qa3 B L P pol call fn nt R rest ((i, d) :: ds) ((i, []) :: seen) (qa2? nt T d (.iptr cells)) Q) := ⟨aval fun h => O_nilCheck_iptr hx.eq⟩
instance {f : FuncId} {first captured : List Operand} {l1 l2 : List AV} [h1 : Evs T first l1] [h2 : Evs T captured l2] : Wk (qa3 B L P pol call fn nt R ((i, ⟨d, .makeFunc (.func f) first.toArray captured.toArray, ty, pos, after, none⟩) :: rest) ds seen T Q) (qa3 B L P pol call fn nt R rest ((i, d) :: ds) ((i, []) :: seen) (qa2? nt T d (.func (.func f) l1 l2)) Q) := ⟨aval fun h => O_makeFunc h1.eq h2.eq⟩
/-- values of several cells, compared -/
class SEq {α : Type} [DecidableEq α] (P : Program) (t : TypeId) (f : α → List AV) : Prop where
  eql : ∀ a b, abin P .eql t (.agg (f a)) (.agg (f b)) = pure (.bool (decide (a = b)))
  neq : ∀ a b, abin P .neq t (.agg (f a)) (.agg (f b)) = pure (.bool (!decide (a = b)))
instance wk_seql {α : Type} [DecidableEq α] {f : α → List AV} {t t' : TypeId} {x y : Operand} {c1 c2 : List AV} {a b : α} [hx : Ev T x (.agg c1)] [hy : Ev T y (.agg c2)] [e1 : Enc c1 f a] [e2 : Enc c2 f b] [s : SEq P t f] :
    Wk (qa3 B L P pol call fn nt R ((i, ⟨d, .binOp .eql t x y t', ty, pos, after, none⟩) :: rest) ds seen T Q) (qa3 B L P pol call fn nt R rest ((i, d) :: ds) ((i, []) :: seen) (qa2? nt T d (.bool (decide (a = b)))) Q) :=
  ⟨aval fun h => O_bin (by rw [hx.eq, e1.eq]) (by rw [hy.eq, e2.eq]) rfl (s.eql a b)⟩
instance wk_sneq {α : Type} [DecidableEq α] {f : α → List AV} {t t' : TypeId} {x y : Operand} {c1 c2 : List AV} {a b : α} [hx : Ev T x (.agg c1)] [hy : Ev T y (.agg c2)] [e1 : Enc c1 f a] [e2 : Enc c2 f b] [s : SEq P t f] :
    Wk (qa3 B L P pol call fn nt R ((i, ⟨d, .binOp .neq t x y t', ty, pos, after, none⟩) :: rest) ds seen T Q) (qa3 B L P pol call fn nt R rest ((i, d) :: ds) ((i, []) :: seen) (qa2? nt T d (.bool (!decide (a = b)))) Q) :=
  ⟨aval fun h => O_bin (by rw [hx.eq, e1.eq]) (by rw [hy.eq, e2.eq]) rfl (s.neq a b)⟩
/-! fields -/
instance (priority := 900) {s t : TypeId} {x : Operand} {f off id ver o : Nat} [ht : qak P s f off t] [hx : Ev T x (.ptr id ver o)] : Wk (qa3 B L P pol call fn nt R ((i, ⟨d, .fieldAddr s x f, ty, pos, after, none⟩) :: rest) ds seen T Q) (qa3 B L P pol call fn nt R rest ((i, d) :: ds) ((i, []) :: seen) (qa2? nt T d (.ptr id ver (o + off))) Q) := ⟨aval fun h => qc4 hx.eq⟩
instance {s t : TypeId} {x : Operand} {f off id ver : Nat} [ht : qak P s f off t] [hx : Ev T x (.ptr id ver 0)] : Wk (qa3 B L P pol call fn nt R ((i, ⟨d, .fieldAddr s x f, ty, pos, after, none⟩) :: rest) ds seen T Q) (qa3 B L P pol call fn nt R rest ((i, d) :: ds) ((i, []) :: seen) (qa2? nt T d (.ptr id ver off)) Q) := ⟨aval fun h g => qc4 hx.eq (by rw [Nat.zero_add]; exact g)⟩
instance {s t : TypeId} {x : Operand} {f id ver o : Nat} [ht : qak P s f 0 t] [hx : Ev T x (.ptr id ver o)] : Wk (qa3 B L P pol call fn nt R ((i, ⟨d, .fieldAddr s x f, ty, pos, after, none⟩) :: rest) ds seen T Q) (qa3 B L P pol call fn nt R rest ((i, d) :: ds) ((i, []) :: seen) (qa2? nt T d (.ptr id ver o)) Q) := ⟨aval fun h g => qc4 (off := 0) hx.eq g⟩
instance {s t : TypeId} {x : Operand} {f off : Nat} {cells r : List AV} [ht : qak P s f off t] [hx : Ev T x (.iptr cells)] [hd : Dr cells off r] : Wk (qa3 B L P pol call fn nt R ((i, ⟨d, .fieldAddr s x f, ty, pos, after, none⟩) :: rest) ds seen T Q) (qa3 B L P pol call fn nt R rest ((i, d) :: ds) ((i, []) :: seen) (qa2? nt T d (.iptr r)) Q) :=
  ⟨aval fun h g => O_fieldAddr_iptr hx.eq (by simpa using hd.le) (by rw [hd.eq]; exact g)⟩
instance {s t : TypeId} {x : Operand} {f off : Nat} {cells r : List AV} {v : AV} [ht : qak P s f off t] [h1 : qbs P t] [hx : Ev T x (.agg cells)] [hd : Dr cells off (v :: r)] : Wk (qa3 B L P pol call fn nt R ((i, ⟨d, .field s x f, ty, pos, after, none⟩) :: rest) ds seen T Q) (qa3 B L P pol call fn nt R rest ((i, d) :: ds) ((i, []) :: seen) (qa2? nt T d v) Q) :=
  ⟨aval fun h => O_field_one hx.eq (by simpa using hd.le) hd.eq⟩
instance {s t : TypeId} {x : Operand} {f off n : Nat} {cells r c' : List AV} [ht : qak P s f off t] [h1 : TAgg P t n] [hx : Ev T x (.agg cells)] [hd : Dr cells off r] [hk : Tk r n c'] : Wk (qa3 B L P pol call fn nt R ((i, ⟨d, .field s x f, ty, pos, after, none⟩) :: rest) ds seen T Q) (qa3 B L P pol call fn nt R rest ((i, d) :: ds) ((i, []) :: seen) (qa2? nt T d (.agg c')) Q) :=
  ⟨aval fun h => O_field_agg hx.eq (by have := hd.le; have h2 := hk.le; rw [← hd.eq, List.length_drop] at h2; simp; omega) (by rw [hd.eq, hk.eq])⟩
instance {t : TypeId} {a : Operand} {r : List AV} {v : AV} [h1 : qbs P t] [ha : Ev T a (.iptr (v :: r))] : Wk (qa3 B L P pol call fn nt R ((i, ⟨d, .load t a, ty, pos, after, none⟩) :: rest) ds seen T Q) (qa3 B L P pol call fn nt R rest ((i, d) :: ds) ((i, []) :: seen) (qa2? nt T d v) Q) := ⟨aval fun h => O_load_iptr ha.eq rfl⟩
end
/-! rows -/
instance wk_load_row {t : TypeId} {a : Operand} {id ver off esz : Nat} {row r : List AV} {fix : Bool} {v : AV} [h1 : qbs P t] [ha : Ev T a (.ptr id ver off)] [hr : HasRow L W id ver esz row fix] [hd : Dr row off (v :: r)] :
    Wk (qa3 ⟨h0, X, W⟩ L P pol call fn nt R ((i, ⟨d, .load t a, ty, pos, after, none⟩) :: rest) ds seen T Q) (qa3 ⟨h0, X, W⟩ L P pol call fn nt R rest ((i, d) :: ds) ((i, [(true, id)]) :: seen) (qa2? nt T d v) Q) :=
  ⟨fun g h s e => O_load_row ha.eq (s.all _ hr.mem) hd.eq (g h s e.step)⟩
instance wk_load_agg {t : TypeId} {a : Operand} {id ver off esz n : Nat} {row r c' : List AV} {fix : Bool} [h1 : TAgg P t n] [ha : Ev T a (.ptr id ver off)] [hr : HasRow L W id ver esz row fix] [hd : Dr row off r] [hk : Tk r n c'] :
    Wk (qa3 ⟨h0, X, W⟩ L P pol call fn nt R ((i, ⟨d, .load t a, ty, pos, after, none⟩) :: rest) ds seen T Q) (qa3 ⟨h0, X, W⟩ L P pol call fn nt R rest ((i, d) :: ds) ((i, [(true, id)]) :: seen) (qa2? nt T d (.agg c')) Q) :=
  ⟨fun g h s e => qau ha.eq (s.all _ hr.mem) (by have := hd.le; have h2 := hk.le; rw [← hd.eq, List.length_drop] at h2; simp; omega) (by rw [hd.eq, hk.eq]) (g h s e.step)⟩
theorem row_new {id n : Nat} {cs : List AV} {h h1 : Hp} {B : Bs} (s : St B L h) (w : h.WF) (k : Keep h h1) (r : Row h1 id 0 n cs true) (l : h.next ≤ id) : St B (.row id 0 n cs true :: L) h1 := by
  have := s.new w k (N := [.row id 0 n cs true]) (fun c hc => by rcases List.mem_singleton.1 hc with rfl; exact r) (by simp [cids, Ck.row]) (by simp [cids, Ck.row]; exact l)
  exact this
instance wk_alloc {t : TypeId} {z : AV} {cs : List AV} {n : Nat} [hz : qam P t z] [ha : Ac L W z cs] [hn : Len cs n] :
    Wk (qa3 ⟨h0, X, W⟩ L P pol call fn nt R ((i, ⟨d, .alloc t, ty, pos, after, none⟩) :: rest) ds seen T Q) (∀ id, qa3 ⟨h0, X, W⟩ (.row id 0 n cs true :: L) P pol call fn nt R rest ((i, d) :: ds) seen (qa2? nt T d (.ptr id 0 0)) Q) :=
  ⟨fun g h s e => O_wf fun w => O_alloc fun h1 id k r l _ => g id h1 (by rw [(ha.ac h s.all).1, hn.eq] at r; exact row_new s w k r l) e.step⟩
instance wk_box {t : TypeId} {x : Operand} {v : AV} {cs : List AV} {n : Nat} [hx : Ev T x v] [ha : Ac L W v cs] [hn : Len cs n] :
    Wk (qa3 ⟨h0, X, W⟩ L P pol call fn nt R ((i, ⟨d, .box t x, ty, pos, after, none⟩) :: rest) ds seen T Q) (∀ id, qa3 ⟨h0, X, W⟩ (.row id 0 n cs true :: L) P pol call fn nt R rest ((i, d) :: ds) seen (qa2? nt T d (.ptr id 0 0)) Q) :=
  ⟨fun g h s e => O_wf fun w => O_box hx.eq (ha.ac h s.all).2 fun h1 id k r l _ => g id h1 (by rw [(ha.ac h s.all).1, hn.eq] at r; exact row_new s w k r l) e.step⟩
instance wk_makeMap {t : TypeId} : Wk (qa3 ⟨h0, X, W⟩ L P pol call fn nt R ((i, ⟨d, .makeMap t none, ty, pos, after, none⟩) :: rest) ds seen T Q) (∀ id, qa3 ⟨h0, X, W⟩ (.map id [] :: L) P pol call fn nt R rest ((i, d) :: ds) seen (qa2? nt T d (.mapv id)) Q) :=
  ⟨fun g h s e => O_wf fun w => O_makeMap fun h1 id k r l _ => g id h1 (by
    have := s.new w k (N := [.map id []]) (fun c hc => by rcases List.mem_singleton.1 hc with rfl; exact r) (by simp [cids, Ck.map]) (by simp [cids, Ck.map]; exact l)
    exact this) e.step⟩
/-- nothing is turned that was looked at and is not ordered -/
class Ok (R : Rg) (seen : Seen) (i : Nat) (C : outParam Prop) : Prop where ok : C → ∀ h h1, Undis R seen i h h1
instance {ms : List Nat} {dd : List (Option Tmp)} {seen : Seen} {i : Nat} : Ok ⟨false, ms, dd⟩ seen i True := ⟨fun _ _ _ => Undis.off rfl⟩
instance {ms : List Nat} {dd : List (Option Tmp)} {seen : Seen} {i : Nat} : Ok ⟨true, ms, dd⟩ seen i ((seen.all fun s => ahead ms s.1 i || s.2.isEmpty) = true) := ⟨fun e _ _ => Undis.ahead e⟩
theorem St.up {B : Bs} {L L' : List Ck} {c c' : Ck} {h h1 : Hp} (s : St B L h) (u : Up L c c' L') (w : h.WF) (k : KeepBut (· ∈ c.ids) h h1) (hp : c'.p h1) (hi : ∀ i ∈ c'.ids, i ∈ c.ids ∨ h.next ≤ i) (hn : c'.ids.Nodup) : St B L' h1 := by
  obtain ⟨Z, e1, e2⟩ := u.perm
  exact ((s.perm e1).put w k hp hi hn).perm e2
instance wk_store {t : TypeId} {a x : Operand} {id ver off esz n m : Nat} {row row' cs : List AV} {fix : Bool} {v : AV} {L' : List Ck} {C : Prop} [hs : TSz P t n] [ha : Ev T a (.ptr id ver off)] [hx : Ev T x v] [hr : HasRow L [] id ver esz row fix] [hc : Ac L W v cs] [hl : Len cs m] [hm : Same (Nat.beq m n) true] [ho : Ones L W cs] [sp : Spl row off cs row'] [u : Up L (.row id ver esz row fix) (.row id ver esz row' fix) L'] [ok : Ok R seen i C] :
    Wk (qa3 ⟨h0, X, W⟩ L P pol call fn nt R ((i, ⟨d, .store t a x, ty, pos, after, none⟩) :: rest) ds seen T Q) (C ∧ qa3 ⟨h0, X, W⟩ L' P pol call fn nt R rest ((i, d) :: ds) seen (qa2? nt T d (.tuple [])) Q) :=
  ⟨fun g h s e => O_wf fun w => by
    have hac := (hc.ac h s.all).1
    have hmn : m = n := Nat.eq_of_beq_eq_true hm.eq
    have hle := sp.le
    rw [hl.eq] at hle
    refine qb0 ha.eq hx.eq (s.all _ (by have := hr.mem; simp at this; exact List.mem_append.2 (.inl this))) ?_ fun h1 k r => ⟨ok.ok g.1 _ _, g.2 h1 ?_ e.step⟩
    · rw [hac, ho.ones h s.all, hl.eq, hmn]; rw [hmn] at hle; simp; exact hle
    · rw [hac, sp.eq] at r
      exact s.up u w (k.weaken (by rintro i rfl; simp [Ck.row])) r (fun i hi => .inl hi) (by simp [Ck.row])⟩

/-! slices -/
section
variable {α : Type} {f : α → List AV} {sz : Nat} {l m : List α}
instance wk_len {t e : TypeId} {x : Operand} {v : AV} [hu : TSl P t e] [hx : Ev T x v] [hr : HasRows L W v f sz l] :
    Wk (qa3 ⟨h0, X, W⟩ L P pol call fn nt R ((i, ⟨d, .call ⟨.builtin .len, [x].toArray, [t].toArray⟩, ty, pos, after, none⟩) :: rest) ds seen T Q) (qa3 ⟨h0, X, W⟩ L P pol call fn nt R rest ((i, d) :: ds) ((i, (qa4 v).map fun id => (false, id)) :: seen) (qa2? nt T d (.int .i64 (l.length : Nat))) Q) :=
  ⟨fun g h s e => O_len_v hx.eq (hr.has h s.all) (g h s e.step)⟩
instance wk_len0 {t e : TypeId} {x : Operand} [hu : TSl P t e] [hx : Ev T x (.sl .nil 0 [])] :
    Wk (qa3 ⟨h0, X, W⟩ L P pol call fn nt R ((i, ⟨d, .call ⟨.builtin .len, [x].toArray, [t].toArray⟩, ty, pos, after, none⟩) :: rest) ds seen T Q) (qa3 ⟨h0, X, W⟩ L P pol call fn nt R rest ((i, d) :: ds) ((i, []) :: seen) (qa2? nt T d (.int .i64 ((0 : Nat) : Int))) Q) :=
  ⟨fun g h s e => O_len_v hx.eq (SlV.nil (sz := 1)) (g h s e.step)⟩
instance wk_lenS {t : TypeId} {x : Operand} {l : List UInt8} [hu : TStr P t] [hx : Ev T x (.str l)] :
    Wk (qa3 ⟨h0, X, W⟩ L P pol call fn nt R ((i, ⟨d, .call ⟨.builtin .len, [x].toArray, [t].toArray⟩, ty, pos, after, none⟩) :: rest) ds seen T Q) (qa3 ⟨h0, X, W⟩ L P pol call fn nt R rest ((i, d) :: ds) ((i, []) :: seen) (qa2? nt T d (.int .i64 (l.length : Nat))) Q) :=
  ⟨fun g h s e => O_len_str hx.eq (g h s e.step)⟩
end
end
end Go.Am
namespace Go.Am
open Go AM
set_option linter.unusedVariables false
set_option synthInstance.maxHeartbeats 200000

/-- what stands at a place of a list -/
class ElAt {α : Type} (l : List α) (j : Nat) (x : outParam α) : Prop where eq : l[j]? = some x
/-- the place of an element's part -/
def elA (v : AV) (j sz off : Nat) : AV := match v with
  | .own id ver o _ => .ptr id ver (o + j * sz + off)
  | .sl _ _ cells => .iptr (cells.drop (j * sz + off))
  | _ => .undef
/-- a slice that may grow, and be written -/
def Ck.arr {α : Type} (f : α → List AV) (sz : Nat) (v : AV) (l : List α) : Ck where
  ids := qa4 v
  p h := Rows f sz h v l ∧ qcr v = true ∧ qa4 v ≠ []
  loc h h' k r := ⟨r.1.loc k, r.2⟩
  dom h r := r.1.ids.2
instance tkw_arr {α : Type} {f : α → List AV} {sz : Nat} {v : AV} {l : List α} {L : List Ck} : Tkw (.arr f sz v l :: L) (.rows f sz v l) L := tkw_imp rfl fun h r => ⟨r.1, r.2.1⟩
instance tkw_arr' {α : Type} {f : α → List AV} {sz : Nat} {v : AV} {l : List α} {L : List Ck} : Tkw (.arr f sz v l :: L) (.ro f sz v l) L := tkw_imp rfl fun h r => r.1
instance tkw_rows {α : Type} {f : α → List AV} {sz : Nat} {v : AV} {l : List α} {L : List Ck} : Tkw (.rows f sz v l :: L) (.ro f sz v l) L := tkw_imp rfl fun h r => r.1
instance hasrows_2 {L W : List Ck} {v : AV} {α : Type} {f : α → List AV} {sz : Nat} {l : List α} : HasRows (.arr f sz v l :: L) W v f sz l := ⟨fun h k => (k _ List.mem_cons_self).1⟩

section
variable {h : Hp} {v : AV} {α : Type} {f : α → List AV} {sz : Nat} {l : List α} {x : α} {j off : Nat}
theorem el_lt (hj : j < l.length) : j * sz + sz ≤ l.length * sz := by
  have := Nat.mul_le_mul_right sz (Nat.succ_le_of_lt hj)
  rwa [Nat.succ_mul] at this
theorem elA_at (hf : ∀ x, (f x).length = sz) (r : Rows f sz h v l) (hx : l[j]? = some x) (ho : off ≤ sz) : AtV h (elA v j sz off) ((f x).drop off) := by
  obtain ⟨hj, _⟩ := List.getElem?_eq_some_iff.1 hx
  have hl := el_lt (sz := sz) hj
  have hc := flat_get hf hx
  have hfl : qca f l = (qca f l).take (j * sz) ++ (f x ++ (qca f l).drop (j * sz + sz)) := by
    rw [← hc, ← List.drop_drop, List.take_append_drop, List.take_append_drop]
  have htl : ((qca f l).take (j * sz)).length = j * sz := by rw [List.length_take, qbt hf]; omega
  have hd : (qca f l).drop (j * sz + off) = (f x).drop off ++ (qca f l).drop (j * sz + sz) := by
    rw [← List.drop_drop]
    conv => lhs; rw [hfl, List.drop_left' htl]
    rw [List.drop_append_of_le_length (by rw [hf]; exact ho)]
  have r : SlV h sz v l.length (qca f l) := r
  generalize hn : l.length = n at r
  generalize hcs : qca f l = cs at r
  cases r with
  | imm k n cells e =>
    subst hcs
    show AtV h (.iptr _) _
    rw [hd]; exact .imm _ _
  | own id ver o n row fix r0 e =>
    have e2 : row.drop (o + (j * sz + off)) = (f x).drop off ++ ((qca f l).drop (j * sz + sz) ++ (row.drop o).drop (n * sz)) := by
      rw [← List.append_assoc, ← hd, ← List.drop_drop, hcs]
      conv => lhs; rw [← List.take_append_drop (n * sz) (row.drop o)]
      rw [List.drop_append_of_le_length (by rw [List.length_take, List.length_drop]; subst hn; omega)]
    refine .ptr id ver (o + j * sz + off) sz row _ ((qca f l).drop (j * sz + sz) ++ (row.drop o).drop (n * sz)) fix r0 ?_
    rw [Nat.add_assoc]; exact e2
end

section
variable {h0 : Hp} {X : List Nat} {W L : List Ck} {P : Program} {pol : Pol} {call : qa6} {fn nt : Nat} {R : Rg} {rest : List (Nat × Oper)} {ds : List (Nat × Option Tmp)} {seen : Seen} {T : qag} {Q : qag → Hp → Prop} {i : Nat} {d : Option Tmp} {ty : TypeId} {pos : String} {after : Array Edge}
variable {α : Type} {f : α → List AV} {sz : Nat} {l m : List α}

theorem aops_index {t e : TypeId} {x y : Operand} {v : AV} {ik : IntKind} {z : Int} {j : Nat} [hu : TSl P t e] [hs : TSz P e sz] [hx : Ev T x v] [hr : HasRows L W v f sz l] [hf : FL f sz] [hy : Ev T y (.int ik z)] (hz0 : sz ≠ 0) (hz : z = j) (hj : j < l.length)
    (g : qa3 ⟨h0, X, W⟩ L P pol call fn nt R rest ((i, d) :: ds) ((i, (qa4 v).map fun id => (false, id)) :: seen) (qa2? nt T d (elA v j sz 0)) Q) : qa3 ⟨h0, X, W⟩ L P pol call fn nt R ((i, ⟨d, .indexAddr t x y, ty, pos, after, none⟩) :: rest) ds seen T Q := fun h s e' => by
  subst hz
  have g := g h s e'.step
  have r : SlV h sz v l.length (qca f l) := hr.has h s.all
  have hl := el_lt (sz := sz) hj
  generalize hn : l.length = n at *
  generalize hcs : qca f l = cs at *
  have hxe := hx.eq
  have hye := hy.eq
  have hids : qbr (qaj T) ⟨d, .indexAddr t x y, ty, pos, after, none⟩ = (qa4 v).map fun id => (false, id) := by
    have h1 : qbr (qaj T) ⟨d, .indexAddr t x y, ty, pos, after, none⟩ = (qb2 (qaj T x) ++ qb2 (qaj T y)).map fun id => (false, id) := by simp [qbr, looksIn, Op.operands]
    rw [h1, hxe, hye, r.ids.1]; simp [qb2]
  cases r with
  | imm k n _ e =>
    refine O_val rfl rfl hids (v := .iptr (cs.drop (j * sz))) ?_ g
    simp only [aop, hxe, hye, aindexAddr, hu.un, hs.sz]
    have hz' : Nat.beq sz 0 = false := by cases sz with | zero => exact absurd rfl hz0 | succ n => rfl
    rw [qaa, within_nat hj, hz']
    simp [e, qar, qaa]
  | own id ver o n row fix r0 e => exact O_indexAddr_own hxe r0 hye hj e g
instance wk_index {t e : TypeId} {x y : Operand} {v : AV} {ik : IntKind} {z : Int} {j : Nat} [hu : TSl P t e] [hs : TSz P e sz] [hx : Ev T x v] [hr : HasRows L W v f sz l] [hf : FL f sz] [hy : Ev T y (.int ik z)] [hj : NatOf z j] [hz : Same (Nat.beq sz 0) false] :
    Wk (qa3 ⟨h0, X, W⟩ L P pol call fn nt R ((i, ⟨d, .indexAddr t x y, ty, pos, after, none⟩) :: rest) ds seen T Q) (j < l.length ∧ qa3 ⟨h0, X, W⟩ L P pol call fn nt R rest ((i, d) :: ds) ((i, (qa4 v).map fun id => (false, id)) :: seen) (qa2? nt T d (elA v j sz 0)) Q) :=
  ⟨fun g => aops_index (hy := hy) (by rintro rfl; cases hz.eq) hj.eq g.1 g.2⟩
instance (priority := 500) wk_indexZ {t e : TypeId} {x y : Operand} {v : AV} {ik : IntKind} {z : Int} [hu : TSl P t e] [hs : TSz P e sz] [hx : Ev T x v] [hr : HasRows L W v f sz l] [hf : FL f sz] [hy : Ev T y (.int ik z)] [hz : Same (Nat.beq sz 0) false] :
    Wk (qa3 ⟨h0, X, W⟩ L P pol call fn nt R ((i, ⟨d, .indexAddr t x y, ty, pos, after, none⟩) :: rest) ds seen T Q) (∃ j : Nat, z = j ∧ j < l.length ∧ qa3 ⟨h0, X, W⟩ L P pol call fn nt R rest ((i, d) :: ds) ((i, (qa4 v).map fun id => (false, id)) :: seen) (qa2? nt T d (elA v j sz 0)) Q) :=
  ⟨fun ⟨j, g⟩ => aops_index (hy := hy) (by rintro rfl; cases hz.eq) g.1 g.2.1 g.2.2⟩
instance wk_elField {s t : TypeId} {a : Operand} {v : AV} {j off off' fi : Nat} {x : α} {r : List AV} [ht : qak P s fi off' t] [ha : Ev T a (elA v j sz off)] [hr : HasRows L W v f sz l] [hf : FL f sz] [hx : ElAt l j x] [hd : Dr (f x) (off + off') r] :
    Wk (qa3 ⟨h0, X, W⟩ L P pol call fn nt R ((i, ⟨d, .fieldAddr s a fi, ty, pos, after, none⟩) :: rest) ds seen T Q) (qa3 ⟨h0, X, W⟩ L P pol call fn nt R rest ((i, d) :: ds) ((i, []) :: seen) (qa2? nt T d (elA v j sz (off + off'))) Q) :=
  ⟨fun g h s e => by
    have g := g h s e.step
    have r : SlV h sz v l.length (qca f l) := hr.has h s.all
    have hle := hd.le
    rw [hf.len] at hle
    have hae := ha.eq
    have hj : j < l.length := (List.getElem?_eq_some_iff.1 hx.eq).1
    have hl := el_lt (sz := sz) hj
    have hlen := qbt hf.len l
    generalize hn : l.length = n at *
    generalize hcs : qca f l = cs at *
    cases r with
    | imm k n _ e =>
      refine O_fieldAddr_iptr hae (by simp; omega) ?_
      rw [List.drop_drop]
      have : elA (.sl k n cs) j sz (off + off') = .iptr (cs.drop (j * sz + off + off')) := by show AV.iptr _ = _; rw [Nat.add_assoc]
      rw [← this]; exact g
    | own id ver o n row fix r0 e =>
      refine qc4 hae ?_
      have : elA (.own id ver o n) j sz (off + off') = .ptr id ver (o + j * sz + off + off') := by show AV.ptr _ _ _ = _; rw [Nat.add_assoc (o + j * sz)]
      rw [← this]; exact g⟩
instance wk_elLoad {t : TypeId} {a : Operand} {v u : AV} {j off : Nat} {x : α} {r : List AV} [h1 : qbs P t] [ha : Ev T a (elA v j sz off)] [hr : HasRows L W v f sz l] [hf : FL f sz] [hx : ElAt l j x] [hd : Dr (f x) off (u :: r)] :
    Wk (qa3 ⟨h0, X, W⟩ L P pol call fn nt R ((i, ⟨d, .load t a, ty, pos, after, none⟩) :: rest) ds seen T Q) (qa3 ⟨h0, X, W⟩ L P pol call fn nt R rest ((i, d) :: ds) ((i, (qb2 (elA v j sz off)).map fun id => (true, id)) :: seen) (qa2? nt T d u) Q) :=
  ⟨fun g h s e => qbx ha.eq (by have := elA_at hf.len (hr.has h s.all) hx.eq (by have := hd.le; rw [hf.len] at this; exact this); rw [hd.eq] at this; exact this) (g h s e.step)⟩
instance wk_elLoadAgg {t : TypeId} {a : Operand} {v : AV} {j off n : Nat} {x : α} {r c' : List AV} [h1 : TAgg P t n] [ha : Ev T a (elA v j sz off)] [hr : HasRows L W v f sz l] [hf : FL f sz] [hx : ElAt l j x] [hd : Dr (f x) off r] [hk : Tk r n c'] :
    Wk (qa3 ⟨h0, X, W⟩ L P pol call fn nt R ((i, ⟨d, .load t a, ty, pos, after, none⟩) :: rest) ds seen T Q) (qa3 ⟨h0, X, W⟩ L P pol call fn nt R rest ((i, d) :: ds) ((i, (qb2 (elA v j sz off)).map fun id => (true, id)) :: seen) (qa2? nt T d (.agg c')) Q) :=
  ⟨fun g h s e => qcf ha.eq (by
    have := elA_at hf.len (hr.has h s.all) hx.eq (by have := hd.le; rw [hf.len] at this; exact this)
    rw [hd.eq, ← List.take_append_drop n r, hk.eq] at this; exact this.take) (by have := hk.le; rw [← hk.eq, List.length_take, Nat.min_eq_left this]; simp) (g h s e.step)⟩

/-! append -/
theorem aops_append {args : List Operand} {t u e e' : TypeId} {bytes : Nat} {z s x : AV} {Cd : Prop} [ht : TSl P t e] [hu : TSl P u e'] [hs : TSz P e sz] [hb' : qae P e bytes] [hz' : qam P e z]
    (ha : Evs T args [s, x]) [hx : HasRows L W x f sz m] [h1 : FOne f] [hf : FL f sz] [ok : Ok R seen i Cd]
    (hz : (!(Nat.beq sz 0) && !(Nat.beq bytes 0) && Nat.beq (acells z).length sz) = true) (hb : (l.length + m.length) * bytes ≤ 140737488355328) (hc : Cd)
    (K : AV → List Ck) (hK : ∀ h, St ⟨h0, X, W⟩ L h → Rows f sz h s l ∧ qcr s = true ∧ ∀ v h1, h.WF → KeepBut (· ∈ qa4 s) h h1 → Rows f sz h1 v (l ++ m) → qcr v = true → (∀ k ∈ qa4 v, k ∈ qa4 s ∨ h.next ≤ k) → (m ≠ [] → qa4 v ≠ []) → St ⟨h0, X, W⟩ (K v) h1)
    (g : ∀ v, qa3 ⟨h0, X, W⟩ (K v) P pol call fn nt R rest ((i, d) :: ds) seen (qa2? nt T d v) Q) :
    qa3 ⟨h0, X, W⟩ L P pol call fn nt R ((i, ⟨d, .call ⟨.builtin .append, args.toArray, [t, u].toArray⟩, ty, pos, after, none⟩) :: rest) ds seen T Q := fun h s e => O_wf fun w => by
  obtain ⟨r1, r2, r3⟩ := hK h s
  refine O_append ha.eq r1 r2 (hx.has h s.all) (flat_ones m) hz hb fun v h1 k sl gb hv hne => ⟨ok.ok hc _ _, g v h1 ?_ e.step⟩
  refine r3 v h1 w k ?_ gb (fun k hk => (hv k hk).imp id fun q => q.1) (fun c => hne (by cases m <;> simp_all))
  show SlV h1 sz v (l ++ m).length _
  rw [List.length_append, flat_append]; exact sl
theorem vids_nodup (v : AV) : (qa4 v).Nodup := by cases v <;> simp [qa4]
/-- a chunk that may grow -/
class Gr (L : List Ck) (v : AV) {α : outParam Type} (f : outParam (α → List AV)) (sz : outParam Nat) (l : outParam (List α)) (c : outParam Ck) : Prop where
  mem : c ∈ L
  ids : c.ids = qa4 v
  p : ∀ h, c.p h → Rows f sz h v l ∧ qcr v = true
instance (priority := 900) gr_s {c c' : Ck} {v : AV} [a : Gr L v f sz l c] : Gr (c' :: L) v f sz l c := ⟨List.mem_cons_of_mem _ a.mem, a.ids, a.p⟩
instance gr_0 {v : AV} : Gr (.rows f sz v l :: L) v f sz l (.rows f sz v l) := ⟨List.mem_cons_self, rfl, fun h r => r⟩
instance gr_1 {v : AV} : Gr (.arr f sz v l :: L) v f sz l (.arr f sz v l) := ⟨List.mem_cons_self, rfl, fun h r => ⟨r.1, r.2.1⟩⟩
class UpF (L : List Ck) (c : Ck) (k : AV → Ck) (K : outParam (AV → List Ck)) : Prop where up : ∀ v, Up L c (k v) (K v)
instance (priority := 900) upf_s {c d : Ck} {k : AV → Ck} {K : AV → List Ck} [a : UpF L c k K] : UpF (d :: L) c k (fun v => d :: K v) := ⟨fun v => @up_s _ _ _ _ _ (a.up v)⟩
instance upf_0 {c : Ck} {k : AV → Ck} : UpF (c :: L) c k (fun v => k v :: L) := ⟨fun v => up_0⟩
theorem app_own {s v : AV} {c : Ck} {h h1 : Hp} {B : Bs} {k : AV → Ck} {K : AV → List Ck} (gr : Gr L s f sz l c) (up : UpF L c k K) (st : St B L h) (w : h.WF) (kb : KeepBut (· ∈ qa4 s) h h1) (hp : (k v).p h1) (hi : (k v).ids = qa4 v) (hv : ∀ k ∈ qa4 v, k ∈ qa4 s ∨ h.next ≤ k) : St B (K v) h1 :=
  st.up (up.up v) w (kb.weaken fun i hi => by rw [gr.ids]; exact hi) hp (fun i q => by rw [gr.ids]; exact hv i (hi ▸ q)) (by rw [hi]; exact vids_nodup v)
instance wk_append1 {x0 : α} {args : List Operand} {t u e e' : TypeId} {bytes : Nat} {z s x : AV} {c : Ck} {K : AV → List Ck} {Cd : Prop} [ht : TSl P t e] [hu : TSl P u e'] [hs : TSz P e sz] [hb' : qae P e bytes] [hz' : qam P e z]
    [ha : Evs T args [s, x]] [gr : Gr L s f sz l c] [hx : HasRows L W x f sz [x0]] [h1 : FOne f] [hf : FL f sz] [ok : Ok R seen i Cd] [up : UpF L c (fun v => .arr f sz v (l ++ [x0])) K] :
    Wk (qa3 ⟨h0, X, W⟩ L P pol call fn nt R ((i, ⟨d, .call ⟨.builtin .append, args.toArray, [t, u].toArray⟩, ty, pos, after, none⟩) :: rest) ds seen T Q)
      ((!(Nat.beq sz 0) && !(Nat.beq bytes 0) && Nat.beq (acells z).length sz) = true ∧ Cd ∧ (l.length + 1) * bytes ≤ 140737488355328 ∧ ∀ v, qa3 ⟨h0, X, W⟩ (K v) P pol call fn nt R rest ((i, d) :: ds) seen (qa2? nt T d v) Q) :=
  ⟨fun g => aops_append ha g.1 g.2.2.1 g.2.1 K (fun h st => ⟨(gr.p h (st.all c (List.mem_append.2 (.inl gr.mem)))).1, (gr.p h (st.all c (List.mem_append.2 (.inl gr.mem)))).2, fun v h1 w kb r gb hv hne => app_own gr up st w kb ⟨r, gb, hne (by simp)⟩ rfl hv⟩) g.2.2.2⟩
instance (priority := 900) wk_append {args : List Operand} {t u e e' : TypeId} {bytes : Nat} {z s x : AV} {c : Ck} {K : AV → List Ck} {Cd : Prop} [ht : TSl P t e] [hu : TSl P u e'] [hs : TSz P e sz] [hb' : qae P e bytes] [hz' : qam P e z]
    [ha : Evs T args [s, x]] [gr : Gr L s f sz l c] [hx : HasRows L W x f sz m] [h1 : FOne f] [hf : FL f sz] [ok : Ok R seen i Cd] [up : UpF L c (fun v => .rows f sz v (l ++ m)) K] :
    Wk (qa3 ⟨h0, X, W⟩ L P pol call fn nt R ((i, ⟨d, .call ⟨.builtin .append, args.toArray, [t, u].toArray⟩, ty, pos, after, none⟩) :: rest) ds seen T Q)
      ((!(Nat.beq sz 0) && !(Nat.beq bytes 0) && Nat.beq (acells z).length sz) = true ∧ Cd ∧ (l.length + m.length) * bytes ≤ 140737488355328 ∧ ∀ v, qa3 ⟨h0, X, W⟩ (K v) P pol call fn nt R rest ((i, d) :: ds) seen (qa2? nt T d v) Q) :=
  ⟨fun g => aops_append ha g.1 g.2.2.1 g.2.1 K (fun h st => ⟨(gr.p h (st.all c (List.mem_append.2 (.inl gr.mem)))).1, (gr.p h (st.all c (List.mem_append.2 (.inl gr.mem)))).2, fun v h1 w kb r gb hv hne => app_own gr up st w kb ⟨r, gb⟩ rfl hv⟩) g.2.2.2⟩
/-- nothing, that may grow -/
class Nil0 (v : AV) : Prop where eq : v = .sl .nil 0 [] ∨ v = .sl .full 0 [] ∨ v = .sl .tight 0 []
instance : Nil0 (.sl .nil 0 []) := ⟨.inl rfl⟩
instance : Nil0 (.sl .full 0 []) := ⟨.inr (.inl rfl)⟩
instance : Nil0 (.sl .tight 0 []) := ⟨.inr (.inr rfl)⟩
theorem app_new {s v : AV} [n0 : Nil0 s] {c : Ck} {h h1 : Hp} {B : Bs} (st : St B L h) (w : h.WF) (kb : KeepBut (· ∈ qa4 s) h h1) (hp : c.p h1) (hi : c.ids = qa4 v) (hv : ∀ k ∈ qa4 v, k ∈ qa4 s ∨ h.next ≤ k) : St B (c :: L) h1 := by
  have hs : qa4 s = [] := by rcases n0.eq with rfl | rfl | rfl <;> rfl
  rw [hs] at kb hv
  have := st.new w (kb.none fun i q => by cases q) (N := [c]) (fun d hd => by rcases List.mem_singleton.1 hd with rfl; exact hp) (by simp [cids, hi, vids_nodup]) (fun i q => by simp [cids, hi] at q; exact (hv i q).resolve_left (fun c => by cases c))
  exact this
theorem Nil0.rows {s : AV} [n0 : Nil0 s] {h : Hp} : Rows f sz h s [] ∧ qcr s = true := by
  rcases n0.eq with rfl | rfl | rfl <;> exact ⟨.imm _ 0 [] (by simp), rfl⟩
instance wk_appnil1 {x0 : α} {args : List Operand} {t u e e' : TypeId} {bytes : Nat} {z s x : AV} {Cd : Prop} [ht : TSl P t e] [hu : TSl P u e'] [hs : TSz P e sz] [hb' : qae P e bytes] [hz' : qam P e z]
    [ha : Evs T args [s, x]] [n0 : Nil0 s] [hx : HasRows L W x f sz [x0]] [h1 : FOne f] [hf : FL f sz] [ok : Ok R seen i Cd] :
    Wk (qa3 ⟨h0, X, W⟩ L P pol call fn nt R ((i, ⟨d, .call ⟨.builtin .append, args.toArray, [t, u].toArray⟩, ty, pos, after, none⟩) :: rest) ds seen T Q)
      ((!(Nat.beq sz 0) && !(Nat.beq bytes 0) && Nat.beq (acells z).length sz) = true ∧ Cd ∧ 1 * bytes ≤ 140737488355328 ∧ ∀ v, qa3 ⟨h0, X, W⟩ (.arr f sz v [x0] :: L) P pol call fn nt R rest ((i, d) :: ds) seen (qa2? nt T d v) Q) :=
  ⟨fun g => aops_append ha g.1 (l := []) (by simpa using g.2.2.1) g.2.1 (fun v => .arr f sz v [x0] :: L) (fun h st => ⟨n0.rows.1, n0.rows (f := f) (sz := sz) (h := h).2, fun v h1 w kb r gb hv hne => app_new st w kb ⟨r, gb, hne (by simp)⟩ rfl hv⟩) g.2.2.2⟩
instance (priority := 900) wk_appnil {args : List Operand} {t u e e' : TypeId} {bytes : Nat} {z s x : AV} {Cd : Prop} [ht : TSl P t e] [hu : TSl P u e'] [hs : TSz P e sz] [hb' : qae P e bytes] [hz' : qam P e z]
    [ha : Evs T args [s, x]] [n0 : Nil0 s] [hx : HasRows L W x f sz m] [h1 : FOne f] [hf : FL f sz] [ok : Ok R seen i Cd] :
    Wk (qa3 ⟨h0, X, W⟩ L P pol call fn nt R ((i, ⟨d, .call ⟨.builtin .append, args.toArray, [t, u].toArray⟩, ty, pos, after, none⟩) :: rest) ds seen T Q)
      ((!(Nat.beq sz 0) && !(Nat.beq bytes 0) && Nat.beq (acells z).length sz) = true ∧ Cd ∧ m.length * bytes ≤ 140737488355328 ∧ ∀ v, qa3 ⟨h0, X, W⟩ (.rows f sz v m :: L) P pol call fn nt R rest ((i, d) :: ds) seen (qa2? nt T d v) Q) :=
  ⟨fun g => aops_append ha g.1 (l := []) (by simpa using g.2.2.1) g.2.1 (fun v => .rows f sz v m :: L) (fun h st => ⟨n0.rows.1, n0.rows (f := f) (sz := sz) (h := h).2, fun v h1 w kb r gb hv hne => app_new st w kb ⟨r, gb⟩ rfl hv⟩) g.2.2.2⟩
/-! calls -/
theorem qad {fo : Operand} {args : List Operand} {ats : Array TypeId} {F : AV} {al : List AV} {Post : AV → List Ck → Prop} [hf : Ev T fo F] [hl : Evs T args al] (sp : Cal [] (L ++ W) (call F al) Post)
    (g : ∀ v N, Post v N → qa3 ⟨h0, X, W⟩ (N ++ L) P pol call fn nt R rest ((i, d) :: ds) seen (qa2? nt T d v) Q) : qa3 ⟨h0, X, W⟩ L P pol call fn nt R ((i, ⟨d, .call ⟨.value fo, args.toArray, ats⟩, ty, pos, after, none⟩) :: rest) ds seen T Q := fun h s e => O_wf fun w =>
  qbn hf.eq hl.eq ((sp h (s.into (C := []) w)).mono fun v h1 ⟨N, p, t⟩ => ⟨Keep.undis ⟨fun id o e => t.keep.same id o (fun q => by cases q) e, t.keep.next⟩, g v N p h1 (s.out (C := []) t) e.step⟩)
/-- what is handed on lies behind -/
theorem A_callT {fo : Operand} {args : List Operand} {ats : Array TypeId} {F : AV} {al : List AV} {C Rs : List Ck} {Post : AV → List Ck → Prop} {Cd : Prop} [hf : Ev T fo F] [hl : Evs T args al] [tk : Taks L C Rs] [ok : Ok R seen i Cd] (hc : Cd) (sp : Cal C (Rs ++ W) (call F al) Post)
    (g : ∀ v N, Post v N → qa3 ⟨h0, X, W⟩ (Rs ++ N) P pol call fn nt R rest ((i, d) :: ds) seen (qa2? nt T d v) Q) : qa3 ⟨h0, X, W⟩ L P pol call fn nt R ((i, ⟨d, .call ⟨.value fo, args.toArray, ats⟩, ty, pos, after, none⟩) :: rest) ds seen T Q := fun h s e => O_wf fun w =>
  qbn hf.eq hl.eq ((sp h ((s.perm tk.perm).into w)).mono fun v h1 ⟨N, p, t⟩ => ⟨ok.ok hc _ _, g v N p h1 (((s.perm tk.perm).out t).perm List.perm_append_comm) e.step⟩)
theorem A_call {fo : Operand} {args : List Operand} {ats : Array TypeId} {F : AV} {al : List AV} {C Rs : List Ck} {Post : AV → List Ck → Prop} {Cd : Prop} [hf : Ev T fo F] [hl : Evs T args al] [tk : Taks L C Rs] [ok : Ok R seen i Cd] (hc : Cd) (sp : Cal C (Rs ++ W) (call F al) Post)
    (g : ∀ v N, Post v N → qa3 ⟨h0, X, W⟩ (N ++ Rs) P pol call fn nt R rest ((i, d) :: ds) seen (qa2? nt T d v) Q) : qa3 ⟨h0, X, W⟩ L P pol call fn nt R ((i, ⟨d, .call ⟨.value fo, args.toArray, ats⟩, ty, pos, after, none⟩) :: rest) ds seen T Q := fun h s e => O_wf fun w =>
  qbn hf.eq hl.eq ((sp h ((s.perm tk.perm).into w)).mono fun v h1 ⟨N, p, t⟩ => ⟨ok.ok hc _ _, g v N p h1 ((s.perm tk.perm).out t) e.step⟩)
end
end Go.Am
namespace Go.Am
open Go AM
set_option linter.unusedVariables false
set_option synthInstance.maxHeartbeats 200000

instance (priority := 800) hasrow_f {R W : List Ck} {id ver esz : Nat} {cells : List AV} {fix : Bool} [a : HasRow [] W id ver esz cells fix] : HasRow [] (R ++ W) id ver esz cells fix := ⟨by have := a.mem; simp at this ⊢; exact .inr this⟩
instance (priority := 900) hasmap_w {c : Ck} {W : List Ck} {id : Nat} {es : List (AV × AV)} [a : HasMap (c :: W) [] id es] : HasMap [] (c :: W) id es := ⟨by have := a.mem; simpa using this⟩
instance (priority := 800) hasmap_f {R W : List Ck} {id : Nat} {es : List (AV × AV)} [a : HasMap [] W id es] : HasMap [] (R ++ W) id es := ⟨by have := a.mem; simp at this ⊢; exact .inr this⟩

instance (priority := 50) hasrow_any {L W : List Ck} {id ver esz : Nat} {cells : List AV} {fix : Bool} [a : HasRow [] W id ver esz cells fix] : HasRow L W id ver esz cells fix := ⟨by have := a.mem; simp at this ⊢; exact .inr this⟩
instance (priority := 50) hasmap_any {L W : List Ck} {id : Nat} {es : List (AV × AV)} [a : HasMap [] W id es] : HasMap L W id es := ⟨by have := a.mem; simp at this ⊢; exact .inr this⟩
instance (priority := 50) hasrows_any {L W : List Ck} {v : AV} {α : Type} {f : α → List AV} {sz : Nat} {l : List α} [a : HasRows [] W v f sz l] : HasRows L W v f sz l := ⟨fun h k => a.has h fun d hd => k d (by simp at hd ⊢; exact .inr hd)⟩
instance (priority := 40) hasrow_l {L W : List Ck} {id ver esz : Nat} {cells : List AV} {fix : Bool} [a : HasRow [] L id ver esz cells fix] : HasRow L W id ver esz cells fix := ⟨by have := a.mem; simp at this ⊢; exact .inl this⟩
instance (priority := 40) hasmap_l {L W : List Ck} {id : Nat} {es : List (AV × AV)} [a : HasMap [] L id es] : HasMap L W id es := ⟨by have := a.mem; simp at this ⊢; exact .inl this⟩
instance (priority := 40) hasrows_l {L W : List Ck} {v : AV} {α : Type} {f : α → List AV} {sz : Nat} {l : List α} [a : HasRows [] L v f sz l] : HasRows L W v f sz l := ⟨fun h k => a.has h fun d hd => k d (by simp at hd ⊢; exact .inl hd)⟩
/-- one chunk is turned, its objects stay -/
theorem St.put' {B : Bs} {L : List Ck} {h h1 : Hp} {c c' : Ck} (s : St B (c :: L) h) (k : KeepBut (· ∈ c.ids) h h1) (hp : c'.p h1) (hi : c'.ids = c.ids) : St B (c' :: L) h1 where
  wf := s.wf
  keep := ⟨fun id o hx e => k.same id o (fun q => by
      rcases s.own id (by rw [qb3]; exact List.mem_append.2 (.inl q)) with u | u
      · exact hx u
      · have := s.wf id o e; omega) (s.keep.same id o hx e), Nat.le_trans s.keep.next k.next⟩
  all := fun d hd => by
    rcases List.mem_cons.1 hd with rfl | q
    · exact hp
    · refine d.loc h h1 (fun i hi' o e => k.same i o (fun u => ?_) e) (s.all d (List.mem_cons_of_mem _ q))
      have := s.nd
      rw [List.cons_append, qb3] at this
      exact (List.nodup_append.1 this).2.2 i u i (mem_cids q hi') rfl
  nd := by have := s.nd; rw [List.cons_append, qb3] at this ⊢; rw [hi]; exact this
  own := fun i q => by rw [qb3, hi, ← qb3] at q; exact s.own i q
theorem St.up' {B : Bs} {L L' : List Ck} {c c' : Ck} {h h1 : Hp} (s : St B L h) (u : Up L c c' L') (k : KeepBut (· ∈ c.ids) h h1) (hp : c'.p h1) (hi : c'.ids = c.ids) : St B L' h1 := by
  obtain ⟨Z, e1, e2⟩ := u.perm
  exact ((s.perm e1).put' k hp hi).perm e2
theorem Up.mem {L L' : List Ck} {c c' : Ck} (u : Up L c c' L') : c ∈ L := by
  obtain ⟨Z, e1, _⟩ := u.perm
  exact e1.mem_iff.2 List.mem_cons_self

/-- the record of a range over a function -/
def LoopAt (h : Hp) (id : Nat) (fn nt : Nat) (T : qag) (ps : List Tmp) (a b : Code) (st : LoopState) (p : Option Code) : Prop := ∃ ver stamp, h.get id = some ⟨ver, stamp, .loop fn nt T ps a b st p⟩
def Ck.loop (id : Nat) (fn nt : Nat) (T : qag) (ps : List Tmp) (a b : Code) (st : LoopState) (p : Option Code) : Ck where
  ids := [id]
  p h := LoopAt h id fn nt T ps a b st p
  loc h h' k r := by obtain ⟨v, st, e⟩ := r; exact ⟨v, st, k id (by simp) _ e⟩
  dom h r i hi := by simp at hi; subst hi; obtain ⟨v, st, e⟩ := r; rw [e]; rfl
section
variable {h h1 : Hp} {id fn nt : Nat} {T : qag} {ps : List Tmp} {a b : Code} {st : LoopState} {p : Option Code}
theorem LoopAt.run (l : LoopAt h id fn nt T ps a b st p) : (loopOf id).run h = some ((fn, nt, T, ps, a, b, st, p), h) := by
  obtain ⟨v, s, e⟩ := l
  simp only [loopOf, run_bind, AM.hget, e]
  rfl
end
/-- what is owed behind the body of a round, behind its first half -/
def KRound (l fn nt : Nat) (T : qag) (ps : List Tmp) (a b : Code) (Q : AV → Hp → Prop) : Exit × qag → Hp → Prop := fun y h3 => ∃ st' p' st p, roundEnd y.1 = some (st', p') ∧ LoopAt h3 l fn nt T ps a b st p ∧ ∀ h4, KeepBut (· = l) h3 h4 → LoopAt h4 l fn nt T ps a b st' p' → Q (.bool p'.isNone) h4
def KAssign (P : Program) (pol : Pol) (call : qa6) (n l fn nt : Nat) (T : qag) (ps : List Tmp) (a b : Code) (Q : AV → Hp → Prop) : Exit × qag → Hp → Prop := fun x h1 => x.1 = .normal ∧ LoopAt h1 l fn nt T ps a b .ready none ∧
  ∀ h2, KeepBut (· = l) h1 h2 → LoopAt h2 l fn nt T ps a b .busy none → Runs (qaw P pol call fn nt n b x.2) h2 (KRound l fn nt T ps a b Q)
theorem R_yield {P : Program} {pol : Pol} {sums : Sums} {h : Hp} {l n fn nt : Nat} {T0 : qag} {ps : List Tmp} {a b : Code} {args : List AV} {Q : AV → Hp → Prop} (hl : LoopAt h l fn nt T0 ps a b .ready none) (hlen : ps.length = args.length)
    (r : Runs (qaw P pol (qat P pol sums n) fn nt n a (aparams nt ps args T0)) h (KAssign P pol (qat P pol sums n) n l fn nt T0 ps a b Q)) :
    Runs (qat P pol sums (n + 1) (.func (.yield l) [] []) args) h Q := by
  simp only [qat, List.nil_append]
  unfold around
  refine Runs.bind (Runs.of hl.run ?_)
  dsimp only
  refine Runs.bind (Runs.guard (by simpa using hlen) (Runs.bind (r.mono ?_)))
  rintro ⟨e, T1⟩ h1 ⟨rfl, hl1, k⟩
  dsimp only
  refine Runs.bind (Runs.of hl1.run ?_)
  dsimp only
  obtain ⟨v, s, e1⟩ := hl1
  refine Runs.bind (Runs.hget e1 (Runs.bind (Runs.guard rfl (Runs.bind (Runs.hput e1 (Nat.le_refl _) ?_)))))
  refine Runs.bind ((k _ (KeepBut.put _) ⟨_, _, qbm _ _ _ _⟩).mono ?_)
  rintro ⟨e2, T2⟩ h3 ⟨st', p', st, p, hr, hl3, q⟩
  dsimp only at hr ⊢
  refine Runs.bind (Runs.of hl3.run ?_)
  dsimp only
  obtain ⟨v3, s3, e3⟩ := hl3
  refine Runs.bind (Runs.hget e3 (Runs.bind (Runs.ofOption hr ?_)))
  dsimp only
  exact Runs.bind (Runs.hput e3 (Nat.le_refl _) (Runs.pure (q _ (KeepBut.put _) ⟨_, _, qbm _ _ _ _⟩)))

section
variable {B : Bs} {L L' : List Ck} {P : Program} {pol : Pol} {call : qa6} {fn nt fuel : Nat} {T T1 : qag} {Q : Exit × qag → Hp → Prop} {V : AV → Hp → Prop} {a b : Code} {l n : Nat} {ps : List Tmp}
instance wk_assign [u : Up L (.loop l fn nt T ps a b .ready none) (.loop l fn nt T ps a b .busy none) L'] : Wk (AK B L (KAssign P pol call n l fn nt T ps a b V) (.normal, T1)) (ACo B L' P pol call fn nt n b T1 (KRound l fn nt T ps a b V)) :=
  ⟨fun g h s => ⟨rfl, s.all _ (List.mem_append.2 (.inl u.mem)), fun h2 k lp => g h2 (s.up' u (k.weaken (by rintro i rfl; simp [Ck.loop])) lp rfl)⟩⟩
theorem round_end {st' : LoopState} {p' : Option Code} {e : Exit} [u : Up L (.loop l fn nt T ps a b .busy none) (.loop l fn nt T ps a b st' p') L'] (hr : roundEnd e = some (st', p')) (g : Fin B L' (.bool p'.isNone) V) : AK B L (KRound l fn nt T ps a b V) (e, T1) :=
  fun h s => ⟨st', p', .busy, none, hr, s.all _ (List.mem_append.2 (.inl u.mem)), fun h4 k lp => g h4 (s.up' u (k.weaken (by rintro i rfl; simp [Ck.loop])) lp rfl)⟩
instance wk_rend [u : Up L (.loop l fn nt T ps a b .busy none) (.loop l fn nt T ps a b .ready none) L'] : Wk (AK B L (KRound l fn nt T ps a b V) (.normal, T1)) (Fin B L' (.bool true) V) := ⟨round_end (st' := .ready) (p' := none) rfl⟩
instance wk_rret [u : Up L (.loop l fn nt T ps a b .busy none) (.loop l fn nt T ps a b .done (some .ret)) L'] : Wk (AK B L (KRound l fn nt T ps a b V) (.ret, T1)) (Fin B L' (.bool false) V) := ⟨round_end (st' := .done) (p' := some .ret) rfl⟩
instance wk_rexit {id : Nat} [u : Up L (.loop l fn nt T ps a b .busy none) (.loop l fn nt T ps a b .done (some (.exit id))) L'] : Wk (AK B L (KRound l fn nt T ps a b V) (.exit id, T1)) (Fin B L' (.bool false) V) := ⟨round_end (st' := .done) (p' := some (.exit id)) rfl⟩
theorem Cal_yield {sums : Sums} {C W : List Ck} {args : List AV} {Post : AV → List Ck → Prop} {n : Nat} (hn : 0 < n) (hlen : ps.length = args.length)
    (r : ∀ m h0, n = m + 1 → ACo ⟨h0, cids (.loop l fn nt T ps a b .ready none :: C), W⟩ (.loop l fn nt T ps a b .ready none :: C) P pol (qat P pol sums m) fn nt m a (aparams nt ps args T) (KAssign P pol (qat P pol sums m) m l fn nt T ps a b (QF ⟨h0, cids (.loop l fn nt T ps a b .ready none :: C), W⟩ Post))) :
    Cal (.loop l fn nt T ps a b .ready none :: C) W (qat P pol sums n (.func (.yield l) [] []) args) Post := fun h s => by
  obtain ⟨m, rfl⟩ : ∃ m, n = m + 1 := ⟨n - 1, by omega⟩
  exact R_yield (s.all _ List.mem_cons_self) hlen (r m h rfl h s)
class APar (nt : Nat) (ps : List Tmp) (vs : List AV) (T : qag) (T' : outParam qag) : Prop where eq : aparams nt ps vs T = T'
instance {nt : Nat} {vs : List AV} {T : qag} : APar nt [] vs T T := ⟨by cases vs <;> rfl⟩
instance {nt t : Nat} {ts : List Tmp} {v : AV} {vs : List AV} {T T' : qag} [a : APar nt ts vs (qa2? nt T (some t) v) T'] : APar nt (t :: ts) (v :: vs) T T' := ⟨a.eq⟩
instance (priority := 3000) wk_apar {vs : List AV} {T' : qag} {c : Code} [e : APar nt ps vs T T'] : Wk (ACo B L P pol call fn nt fuel c (aparams nt ps vs T) Q) (ACo B L P pol call fn nt fuel c T' Q) := ⟨fun g => by rw [e.eq]; exact g⟩
end
theorem A_range {h0 : Hp} {X : List Nat} {W L : List Ck} {P : Program} {pol : Pol} {call : qa6} {fn nt fuel : Nat} {T : qag} {Q : Exit × qag → Hp → Prop} {a b : Code} {fo : Operand} {F : AV} {params : List Tmp} {C Rs : List Ck} [hf : Ev T fo F] (hy : isYield F = false) [tk : Taks L C Rs] (A0 A1 : List Ck → Prop) (A2 : Nat → List Ck → Prop)
    (sp : ∀ id, Cal (.loop id fn nt T params a b .ready none :: C) (Rs ++ W) (call F [.func (.yield id) [] []]) fun _ N => ∃ N', (N = .loop id fn nt T params a b .ready none :: N' ∧ A0 N') ∨ (N = .loop id fn nt T params a b .done (some .ret) :: N' ∧ A1 N') ∨ ∃ j, N = .loop id fn nt T params a b .done (some (.exit j)) :: N' ∧ A2 j N')
    (g0 : ∀ N, A0 N → AK ⟨h0, X, W⟩ (N ++ Rs) Q (.normal, T)) (g1 : ∀ N, A1 N → AK ⟨h0, X, W⟩ (N ++ Rs) Q (.ret, T)) (g2 : ∀ j N, A2 j N → AK ⟨h0, X, W⟩ (N ++ Rs) Q (.exit j, T)) :
    ACo ⟨h0, X, W⟩ L P pol call fn nt fuel (.rangeFunc fo params.toArray a b) T Q := fun h s => by
  refine Runs.wf fun w => ?_
  simp only [qaw, hf.eq, hy]
  refine Runs.bind (Runs.guard rfl (Runs.bind (Runs.halloc ?_)))
  have s1 : St ⟨h0, X, W⟩ (.loop h.next fn nt T params a b .ready none :: (C ++ Rs)) ⟨h.obj.set h.next (some ⟨0, 0, .loop fn nt T params a b .ready none⟩), h.next + 1⟩ :=
    (s.perm tk.perm).new w (Keep.alloc w _) (N := [.loop h.next fn nt T params a b .ready none]) (fun c hc => by rcases List.mem_singleton.1 hc with rfl; exact ⟨_, _, qbm _ _ _ _⟩) (by simp [cids, Ck.loop]) (by simp [cids, Ck.loop])
  refine Runs.bind (Runs.wf fun w1 => (sp h.next _ (St.into (C := .loop h.next fn nt T params a b .ready none :: C) s1 w1)).mono ?_)
  rintro _ h2 ⟨N, hN, t⟩
  have s2 := St.out (C := .loop h.next fn nt T params a b .ready none :: C) s1 t
  have key : ∀ (st : LoopState) (p : Option Code) (N' : List Ck), N = .loop h.next fn nt T params a b st p :: N' → isBusy st = false → (∀ h3, St ⟨h0, X, W⟩ (N' ++ Rs) h3 → Runs (qcu p T) h3 Q) → Runs (do
      let (f', nt', T', ps, a, b, st, p) ← loopOf h.next
      let o ← AM.hget h.next
      AM.guard (!(isBusy st))
      AM.hput h.next o.ver (.loop f' nt' T' ps a b .exhausted p)
      qcu p T) h2 Q := by
    intro st p N' e hb k
    subst e
    have hl : LoopAt h2 h.next fn nt T params a b st p := s2.all _ List.mem_cons_self
    refine Runs.bind (Runs.of hl.run ?_)
    dsimp only
    obtain ⟨v, s', e⟩ := hl
    refine Runs.bind (Runs.hget e (Runs.bind (Runs.guard (by rw [hb]; rfl) (Runs.bind (Runs.hput e (Nat.le_refl _) (k _ ?_))))))
    exact (s2.put' (c' := .loop h.next fn nt T params a b .exhausted p) ((KeepBut.put _).weaken (by rintro i rfl; simp [Ck.loop])) ⟨_, _, qbm _ _ _ _⟩ rfl).sub (List.sublist_cons_self _ _)
  obtain ⟨N', ⟨e, q⟩ | ⟨e, q⟩ | ⟨j, e, q⟩⟩ := hN
  · exact key _ _ _ e rfl fun h3 s3 => Runs.pure (g0 N' q h3 s3)
  · refine key _ _ _ e rfl fun h3 s3 => ?_
    unfold qcu
    exact Runs.bind (Runs.ofOption rfl (Runs.pure (g1 N' q h3 s3)))
  · refine key _ _ _ e rfl fun h3 s3 => ?_
    unfold qcu
    exact Runs.bind (Runs.ofOption rfl (Runs.pure (g2 j N' q h3 s3)))
/-- the same, the record under a name -/
theorem A_rangeL {h0 : Hp} {X : List Nat} {W L : List Ck} {P : Program} {pol : Pol} {call : qa6} {fn nt fuel : Nat} {T : qag} {Q : Exit × qag → Hp → Prop} {a b : Code} {fo : Operand} {F : AV} {params : List Tmp} {C Rs : List Ck} [hf : Ev T fo F] (hy : isYield F = false) [tk : Taks L C Rs] (A0 A1 : List Ck → Prop) (A2 : Nat → List Ck → Prop)
    (sp : ∀ (id : Nat) (lp : LoopState → Option Code → Ck), (∀ st p, lp st p = .loop id fn nt T params a b st p) → Cal (lp .ready none :: C) (Rs ++ W) (call F [.func (.yield id) [] []]) fun _ N => ∃ N', (N = lp .ready none :: N' ∧ A0 N') ∨ (N = lp .done (some .ret) :: N' ∧ A1 N') ∨ ∃ j, N = lp .done (some (.exit j)) :: N' ∧ A2 j N')
    (g0 : ∀ N, A0 N → AK ⟨h0, X, W⟩ (N ++ Rs) Q (.normal, T)) (g1 : ∀ N, A1 N → AK ⟨h0, X, W⟩ (N ++ Rs) Q (.ret, T)) (g2 : ∀ j N, A2 j N → AK ⟨h0, X, W⟩ (N ++ Rs) Q (.exit j, T)) :
    ACo ⟨h0, X, W⟩ L P pol call fn nt fuel (.rangeFunc fo params.toArray a b) T Q :=
  A_range hy A0 A1 A2 (fun id => sp id (fun st p => .loop id fn nt T params a b st p) fun _ _ => rfl) g0 g1 g2
instance (priority := 2000) wk_akapp {B : Bs} {N M Z : List Ck} {K : Exit × qag → Hp → Prop} {x : Exit × qag} [a : App N M Z] : Wk (AK B (N ++ M) K x) (AK B Z K x) := ⟨fun g => by rw [a.eq]; exact g⟩

/-- a slice that is nothing, al a chunk -/
theorem St.nil {B : Bs} {L : List Ck} {h : Hp} {α : Type} (f : α → List AV) (sz : Nat) {v : AV} [n0 : Nil0 v] (s : St B L h) : St B (.rows f sz v [] :: L) h := by
  have hv : qa4 v = [] := by rcases n0.eq with rfl | rfl | rfl <;> rfl
  refine ⟨s.wf, s.keep, fun c hc => ?_, ?_, ?_⟩
  · rcases List.mem_cons.1 hc with rfl | q
    · exact n0.rows
    · exact s.all c q
  · rw [List.cons_append, qb3]; show (qa4 v ++ _).Nodup; rw [hv]; exact s.nd
  · intro i hi; rw [qb3] at hi; have hi : i ∈ qa4 v ++ cids L := hi; rw [hv] at hi; exact s.own i hi
theorem qc2 {B : Bs} {L : List Ck} {P : Program} {pol : Pol} {call : qa6} {fn nt fuel : Nat} {T : qag} {Q : Exit × qag → Hp → Prop} {c : Code} {α : Type} (f : α → List AV) (sz : Nat) (v : AV) [n0 : Nil0 v] (g : ACo B (.rows f sz v [] :: L) P pol call fn nt fuel c T Q) : ACo B L P pol call fn nt fuel c T Q := fun h s => g h (s.nil f sz)
/-! maps -/
section
variable {h0 : Hp} {X : List Nat} {W L : List Ck} {P : Program} {pol : Pol} {call : qa6} {fn nt : Nat} {R : Rg} {rest : List (Nat × Oper)} {ds : List (Nat × Option Tmp)} {seen : Seen} {T : qag} {Q : qag → Hp → Prop} {i : Nat} {d : Option Tmp} {ty : TypeId} {pos : String} {after : Array Edge}
/-- what is found of a key -/
class FindS (s : List UInt8) (es : List (AV × AV)) (v : outParam AV) : Prop where eq : afind (.str s) es = some (some v)
class FindN (s : List UInt8) (es : List (AV × AV)) : Prop where eq : afind (.str s) es = some none
class FindE (s : List UInt8) (es : List (AV × AV)) : Prop where ex : ∃ r, afind (.str s) es = some r
instance {s : List UInt8} {es : List (AV × AV)} {v : AV} [a : FindS s es v] : FindE s es := ⟨_, a.eq⟩
instance {s : List UInt8} {es : List (AV × AV)} [a : FindN s es] : FindE s es := ⟨_, a.eq⟩
section
variable {t kt et : TypeId} {x k : Operand} {id : Nat} {es : List (AV × AV)} {s : List UInt8} {z v : AV} [ht : TMap P t kt et] [hk' : TStr P kt] [hz : qam P et z] [hx : Ev T x (.mapv id)] [hk : Ev T k (.str s)] [hm : HasMap L W id es]
instance wk_lookupS [f : FindS s es v] : Wk (qa3 ⟨h0, X, W⟩ L P pol call fn nt R ((i, ⟨d, .lookup t x k false, ty, pos, after, none⟩) :: rest) ds seen T Q) (qa3 ⟨h0, X, W⟩ L P pol call fn nt R rest ((i, d) :: ds) ((i, [(true, id)]) :: seen) (qa2? nt T d v) Q) :=
  ⟨fun g h s e' => O_lookup hx.eq hk.eq (s.all _ hm.mem) f.eq (g h s e'.step)⟩
instance wk_lookupN [f : FindN s es] : Wk (qa3 ⟨h0, X, W⟩ L P pol call fn nt R ((i, ⟨d, .lookup t x k false, ty, pos, after, none⟩) :: rest) ds seen T Q) (qa3 ⟨h0, X, W⟩ L P pol call fn nt R rest ((i, d) :: ds) ((i, [(true, id)]) :: seen) (qa2? nt T d z) Q) :=
  ⟨fun g h s e' => O_lookup hx.eq hk.eq (s.all _ hm.mem) f.eq (g h s e'.step)⟩
instance wk_lookupS2 [f : FindS s es v] : Wk (qa3 ⟨h0, X, W⟩ L P pol call fn nt R ((i, ⟨d, .lookup t x k true, ty, pos, after, none⟩) :: rest) ds seen T Q) (qa3 ⟨h0, X, W⟩ L P pol call fn nt R rest ((i, d) :: ds) ((i, [(true, id)]) :: seen) (qa2? nt T d (.tuple [v, .bool true])) Q) :=
  ⟨fun g h s e' => O_lookup hx.eq hk.eq (s.all _ hm.mem) f.eq (g h s e'.step)⟩
instance wk_lookupN2 [f : FindN s es] : Wk (qa3 ⟨h0, X, W⟩ L P pol call fn nt R ((i, ⟨d, .lookup t x k true, ty, pos, after, none⟩) :: rest) ds seen T Q) (qa3 ⟨h0, X, W⟩ L P pol call fn nt R rest ((i, d) :: ds) ((i, [(true, id)]) :: seen) (qa2? nt T d (.tuple [z, .bool false])) Q) :=
  ⟨fun g h s e' => O_lookup hx.eq hk.eq (s.all _ hm.mem) f.eq (g h s e'.step)⟩
end
instance wk_mapUpdate {t kt et : TypeId} {m k x : Operand} {id : Nat} {es : List (AV × AV)} {s : List UInt8} {v : AV} {L' : List Ck} {C : Prop} [ht : TMap P t kt et] [hk' : TStr P kt] [hm' : Ev T m (.mapv id)] [hk : Ev T k (.str s)] [hv : Ev T x v] [hm : HasMap L [] id es] [f : FindE s es] [u : Up L (.map id es) (.map id (aupd (.str s) v es)) L'] [ok : Ok R seen i C] :
    Wk (qa3 ⟨h0, X, W⟩ L P pol call fn nt R ((i, ⟨d, .mapUpdate t m k x, ty, pos, after, none⟩) :: rest) ds seen T Q) (C ∧ qa3 ⟨h0, X, W⟩ L' P pol call fn nt R rest ((i, d) :: ds) seen (qa2? nt T d (.tuple [])) Q) :=
  ⟨fun g h s e => by
    obtain ⟨hc, g⟩ := g
    obtain ⟨res, hf⟩ := f.ex
    exact O_mapUpdate hm'.eq hk.eq hv.eq (s.all _ (by have := hm.mem; simp at this; exact List.mem_append.2 (.inl this))) hf fun h1 k r => ⟨ok.ok hc _ _, g h1 (s.up' u (k.weaken (by rintro i rfl; simp [Ck.map])) r rfl) e.step⟩⟩
/-! structs made -/
class NthF (fs : List (Nat × Nat)) (i : Nat) (off sz : outParam Nat) : Prop where eq : fs[i]? = some (off, sz)
instance nthf_0 {fs : List (Nat × Nat)} {off sz : Nat} : NthF ((off, sz) :: fs) 0 off sz := ⟨rfl⟩
instance nthf_s {fs : List (Nat × Nat)} {x : Nat × Nat} {i off sz : Nat} [a : NthF fs i off sz] : NthF (x :: fs) (i + 1) off sz := ⟨by simpa using a.eq⟩
class Fil (L W : List Ck) (fs : List (Nat × Nat)) (cells : List AV) (parts : List (Nat × AV)) (c' : outParam (List AV)) : Prop where eq : ∀ h, (∀ c ∈ L ++ W, c.p h) → afillL fs cells parts = some c'
instance fil_nil {fs : List (Nat × Nat)} {cells : List AV} : Fil L W fs cells [] cells := ⟨fun _ _ => rfl⟩
instance fil_cons {fs : List (Nat × Nat)} {cells r c' cs : List AV} {j off sz n : Nat} {v : AV} {parts : List (Nat × AV)} [a : NthF fs j off sz] [b : Ac L W v cs] [c : Len cs n] [e : Same (Nat.beq n sz) true] [sp : Spl cells off cs r] [k : Fil L W fs r parts c'] : Fil L W fs cells ((j, v) :: parts) c' := ⟨fun h q => by
  have hn : n = sz := Nat.eq_of_beq_eq_true e.eq
  have hle := sp.le
  rw [c.eq, hn] at hle
  simp only [afillL, a.eq, (b.ac h q).1, (b.ac h q).2, c.eq]
  rw [show (Nat.beq n sz && Nat.ble (off + sz) cells.length && true) = true by rw [e.eq]; simpa using hle, sp.eq]
  exact k.eq h q⟩
instance wk_build {t : TypeId} {parts : List (Nat × Operand)} {l : List (Nat × AV)} {fs : List (Nat × Nat)} {z c' : List AV} [ht : qbc P t fs z] [hl : Evp T parts l] [hf : Fil L W fs z l c'] : Wk (qa3 ⟨h0, X, W⟩ L P pol call fn nt R ((i, ⟨d, .build t parts.toArray, ty, pos, after, none⟩) :: rest) ds seen T Q) (qa3 ⟨h0, X, W⟩ L P pol call fn nt R rest ((i, d) :: ds) ((i, []) :: seen) (qa2? nt T d (.agg c')) Q) :=
  ⟨fun g h s e => O_build hl.eq (hf.eq h s.all) (g h s e.step)⟩
/-! slices made -/
instance wk_build1 {t e : TypeId} {sz : Nat} {x : Operand} {z v : AV} {cs : List AV} {n : Nat} [ht : TSl P t e] [hs : TSz P e sz] [hz' : qam P e z] [hx : Ev T x v] [hc : Ac L W v cs] [hl : Len cs n] [hn : Same (Nat.beq n sz) true] :
    Wk (qa3 ⟨h0, X, W⟩ L P pol call fn nt R ((i, ⟨d, .buildSlice t 1 [(0, x)].toArray, ty, pos, after, none⟩) :: rest) ds seen T Q) ((Nat.ble (1 * sz) 16777216 && Nat.beq (acells z).length sz) = true ∧ pol.lit fn (d.getD 0) = false ∧ qa3 ⟨h0, X, W⟩ L P pol call fn nt R rest ((i, d) :: ds) seen (qa2? nt T d (.sl .full 1 cs)) Q) :=
  ⟨fun g h s e' => by
    obtain ⟨h1, h2, g⟩ := g
    have hac := hc.ac h s.all
    have hn' : n = sz := Nat.eq_of_beq_eq_true hn.eq
    have hzl : (acells z).length = sz := by simp only [Bool.and_eq_true] at h1; simpa using h1.2
    refine qbl (c' := cs) (l := [(0, v)]) (qa0 hx.eq qbv) h1 ?_ h2 fun _ => g h s e'.step
    show afillL _ _ _ = _
    have hr : qan (acells z) 1 = acells z := by simp [qan]
    rw [hr]
    simp only [afillL, List.range, List.range.loop, List.map_cons, List.map_nil, List.getElem?_cons_zero, hac.1, hac.2]
    rw [show (Nat.beq cs.length sz && Nat.ble (0 * sz + sz) (acells z).length && true) = true by rw [hl.eq, hn', hzl]; simp]
    simp only [Nat.zero_mul]
    congr 1
    unfold splice
    rw [List.take_zero, List.nil_append, Nat.zero_add, List.drop_eq_nil_of_le (by rw [hl.eq, hn', hzl]; exact Nat.le_refl _), List.append_nil]
    rfl⟩
theorem repeat_flat {α : Type} {f : α → List AV} {x : α} {z : List AV} (e : z = f x) : ∀ n, qan z n = qca f (List.replicate n x)
  | 0 => rfl
  | n + 1 => by rw [qan, repeat_flat e n, List.replicate_succ, qch, e]
instance wk_makeSlice {α : Type} {f : α → List AV} {x0 : α} {t e : TypeId} {l c : Operand} {n sz bytes : Nat} {z : AV} {cs : List AV} [ht : TSl P t e] [hs : TSz P e sz] [hb' : qae P e bytes] [hz' : qam P e z] [hl : Ev T l (.int .i64 (n : Int))] [hc : Ev T c (.int .i64 (n : Int))] [ac : Ac L W z cs] [en : Enc cs f x0] [fl : FL f sz] :
    Wk (qa3 ⟨h0, X, W⟩ L P pol call fn nt R ((i, ⟨d, .makeSlice t l c, ty, pos, after, none⟩) :: rest) ds seen T Q)
      ((!(Nat.beq sz 0) && Nat.beq (acells z).length sz) = true ∧ n < 140737488355328 ∧ n * bytes ≤ 140737488355328 ∧ ∀ id, qa3 ⟨h0, X, W⟩ (.arr f sz (.own id 0 0 n) (List.replicate n x0) :: L) P pol call fn nt R rest ((i, d) :: ds) seen (qa2? nt T d (.own id 0 0 n)) Q) :=
  ⟨fun g h s e' => O_wf fun w => by
    obtain ⟨h1, h2, h3, g⟩ := g
    have hcs := (ac.ac h s.all).1
    refine O_makeSlice hl.eq hc.eq h1 h2 h3 fun h1 id k r l1 l2 => g id h1 ?_ e'.step
    rw [hcs, repeat_flat en.eq] at r
    have hlen : (qca f (List.replicate n x0)).length = n * sz := by rw [qbt fl.len, List.length_replicate]
    have hsl : Rows f sz h1 (.own id 0 0 n) (List.replicate n x0) := by
      have := SlV.own (sz := sz) id 0 0 n _ true r (by rw [hlen]; omega)
      rw [List.drop_zero, List.take_of_length_le (by omega)] at this
      show SlV h1 sz _ (List.replicate n x0).length _
      rw [List.length_replicate]; exact this
    have := s.new w k (N := [.arr f sz (.own id 0 0 n) (List.replicate n x0)]) (fun c hc => by rcases List.mem_singleton.1 hc with rfl; exact ⟨hsl, rfl, by simp [qa4]⟩) (by simp [cids, Ck.arr, qa4]) (by simp [cids, Ck.arr, qa4]; exact l1)
    exact this⟩
/-! an element is written -/
theorem splice_flat {α : Type} {f : α → List AV} {sz : Nat} (hf : ∀ x, (f x).length = sz) {l : List α} {j off : Nat} {x y : α} {cs : List AV} (hx : l[j]? = some x) (hc : off + cs.length ≤ sz) (e : splice (f x) off cs = f y) : splice (qca f l) (j * sz + off) cs = qca f (l.set j y) := by
  obtain ⟨hj, rfl⟩ := List.getElem?_eq_some_iff.1 hx
  have hl := el_lt (sz := sz) hj
  have h1 : qca f l = qca f (l.take j) ++ (f l[j] ++ qca f (l.drop (j + 1))) := by
    rw [← qch, ← flat_append, ← List.drop_eq_getElem_cons hj, List.take_append_drop]
  have h2 : qca f (l.set j y) = qca f (l.take j) ++ (f y ++ qca f (l.drop (j + 1))) := by
    rw [List.set_eq_take_append_cons_drop, if_pos hj, flat_append, qch]
  have hp : (qca f (l.take j)).length = j * sz := by rw [qbt hf, List.length_take]; congr 1; omega
  have hfl : (f l[j]).length = sz := hf _
  rw [h1, h2, ← e]
  unfold splice
  rw [← hp, List.take_append, List.drop_append]
  have a1 : (qca f (l.take j)).take ((qca f (l.take j)).length + off) = qca f (l.take j) := List.take_of_length_le (by omega)
  have a2 : (qca f (l.take j)).drop ((qca f (l.take j)).length + off + cs.length) = [] := List.drop_eq_nil_of_le (by omega)
  rw [a1, a2, List.nil_append]
  rw [show (qca f (l.take j)).length + off - (qca f (l.take j)).length = off by omega, show (qca f (l.take j)).length + off + cs.length - (qca f (l.take j)).length = off + cs.length by omega]
  rw [List.take_append_of_le_length (by omega), List.drop_append_of_le_length (by omega)]
  simp only [List.append_assoc]
class HasArr (L : List Ck) (v : AV) {α : outParam Type} (f : outParam (α → List AV)) (sz : outParam Nat) (l : outParam (List α)) : Prop where mem : Ck.arr f sz v l ∈ L
instance hasarr_0 {α : Type} {f : α → List AV} {sz : Nat} {l : List α} {v : AV} : HasArr (.arr f sz v l :: L) v f sz l := ⟨List.mem_cons_self⟩
instance (priority := 900) hasarr_s {α : Type} {f : α → List AV} {sz : Nat} {l : List α} {v : AV} {c : Ck} [a : HasArr L v f sz l] : HasArr (c :: L) v f sz l := ⟨List.mem_cons_of_mem _ a.mem⟩
instance wk_elStore {α : Type} {f : α → List AV} {sz : Nat} {l : List α} {t : TypeId} {a x : Operand} {v u : AV} {j off n m : Nat} {cs r : List AV} {x0 y : α} {L' : List Ck} {C : Prop} [hs : TSz P t n] [ha : Ev T a (elA v j sz off)] [hx : Ev T x u] [hr : HasArr L v f sz l] [fl : FL f sz] [at_ : ElAt l j x0] [hc : Ac L W u cs] [hl : Len cs m] [hm : Same (Nat.beq m n) true] [ho : Ones L W cs] [sp : Spl (f x0) off cs r] [en : Enc r f y] [up : Up L (.arr f sz v l) (.arr f sz v (l.set j y)) L'] [ok : Ok R seen i C] :
    Wk (qa3 ⟨h0, X, W⟩ L P pol call fn nt R ((i, ⟨d, .store t a x, ty, pos, after, none⟩) :: rest) ds seen T Q) (C ∧ qa3 ⟨h0, X, W⟩ L' P pol call fn nt R rest ((i, d) :: ds) seen (qa2? nt T d (.tuple [])) Q) :=
  ⟨fun g h s e => by
    obtain ⟨hc0, g⟩ := g
    obtain ⟨r1, r2, r3⟩ := s.all _ (List.mem_append.2 (.inl hr.mem))
    have hac := (hc.ac h s.all).1
    have hmn : m = n := Nat.eq_of_beq_eq_true hm.eq
    have hle := sp.le
    rw [hl.eq, fl.len] at hle
    have hel := ha.eq
    have hj : j < l.length := (List.getElem?_eq_some_iff.1 at_.eq).1
    have hlt := el_lt (sz := sz) hj
    have hsp := splice_flat fl.len at_.eq (by rw [hl.eq]; exact hle) (sp.eq.trans en.eq)
    have hlen := qbt fl.len l
    have hlen' := qbt fl.len (l.set j y)
    rw [List.length_set] at hlen'
    have r1 : SlV h sz v l.length (qca f l) := r1
    have key : ∀ h1, KeepBut (· ∈ qa4 v) h h1 → SlV h1 sz v l.length (qca f (l.set j y)) → St ⟨h0, X, W⟩ L' h1 := fun h1 k q =>
      s.up' up k ⟨by show SlV h1 sz v (l.set j y).length _; rw [List.length_set]; exact q, r2, r3⟩ rfl
    generalize hn : l.length = N at *
    generalize hcs : qca f l = F at r1
    cases r1 with
    | imm k n _ e => exact absurd rfl r3
    | own id ver o n row fix rw' e0 =>
      have hF : qca f l = (row.drop o).take (N * sz) := hcs
      refine qb0 (off := o + j * sz + off) hel hx.eq rw' ?_ fun h1 k q => ⟨ok.ok hc0 _ _, g h1 (key h1 (k.weaken (by rintro i rfl; simp [qa4])) ?_) e.step⟩
      · rw [hac, ho.ones h s.all, hl.eq, hmn]; simp; omega
      · rw [hac] at q
        have e1 : ((splice row (o + j * sz + off) cs).drop o).take (N * sz) = qca f (l.set j y) := by
          rw [← hsp]
          have hrow : row = row.take o ++ (qca f l ++ (row.drop o).drop (N * sz)) := by rw [hF, List.take_append_drop, List.take_append_drop]
          have htl : (row.take o).length = o := by rw [List.length_take]; omega
          have hFl : (qca f l).length = N * sz := by omega
          have h3 : splice row (o + j * sz + off) cs = row.take o ++ (splice (qca f l) (j * sz + off) cs ++ (row.drop o).drop (N * sz)) := by
            conv => lhs; rw [hrow]
            have hdn : (row.take o).drop (o + j * sz + off + cs.length) = [] := List.drop_eq_nil_of_le (by omega)
            unfold splice
            rw [List.take_append, List.drop_append, htl]
            rw [List.take_of_length_le (l := row.take o) (by omega), hdn, List.nil_append]
            rw [show o + j * sz + off - o = j * sz + off by omega, show o + j * sz + off + cs.length - o = j * sz + off + cs.length by omega]
            rw [List.take_append_of_le_length (by omega), List.drop_append_of_le_length (by rw [hl.eq]; omega)]
            simp only [List.append_assoc]
          rw [h3, List.drop_left' htl, List.take_left']
          rw [qby (by rw [hl.eq]; omega), hFl]
        have := SlV.own (sz := sz) id ver o N _ fix q (by rw [qby (by rw [hl.eq]; omega)]; exact e0)
        rw [e1] at this; exact this⟩
end
end Go.Am
namespace Go.Am
open Go Go.Proofs AM
set_option maxRecDepth 10000
variable {pol : Pol} {sums : Sums}
attribute [local irreducible] KSeq KMid KBlock KLoop KOps KFunc Runs qbq qaw aopsM aop qat qay qa2 qa2? qaj qa8 qah

structure Trm where
  kind : Int
  a : Str
  b : Str
  c : Str
  deriving DecidableEq
structure Slt where
  var : Str
  term : Trm
  deriving DecidableEq
structure Ptn where
  s : Slt
  p : Slt
  o : Slt
  deriving DecidableEq
abbrev trmC (t : Trm) : List AV := [.int .i64 t.kind, .str t.a, .str t.b, .str t.c]
abbrev sltC (x : Slt) : List AV := [.str x.var, .int .i64 x.term.kind, .str x.term.a, .str x.term.b, .str x.term.c]
abbrev qcd (p : Ptn) : List AV := [.str p.s.var, .int .i64 p.s.term.kind, .str p.s.term.a, .str p.s.term.b, .str p.s.term.c, .str p.p.var, .int .i64 p.p.term.kind, .str p.p.term.a, .str p.p.term.b, .str p.p.term.c, .str p.o.var, .int .i64 p.o.term.kind, .str p.o.term.a, .str p.o.term.b, .str p.o.term.c]
theorem sltC_len (x : Slt) : (sltC x).length = 5 := rfl
theorem ptnC_len (x : Ptn) : (qcd x).length = 15 := rfl
theorem flat_at {α : Type} {f : α → List AV} {sz : Nat} (hf : ∀ x, (f x).length = sz) : ∀ {l : List α} {i : Nat} (hi : i < l.length), ((qca f l).drop (i * sz)).take sz = f l[i]
  | [], i, hi => by cases hi
  | x :: l, 0, _ => by rw [qch, Nat.zero_mul, List.drop_zero, ← hf x, List.take_left']; rfl; rfl
  | x :: l, i + 1, hi => by
    rw [qch, Nat.succ_mul, Nat.add_comm, ← List.drop_drop, show List.drop sz (f x ++ qca f l) = qca f l by rw [← hf x, List.drop_left'];rfl]
    exact flat_at hf (by simpa using hi)

def qcj (cur : List Str) (s : Str) : List Str := if s ∈ cur then cur else cur ++ [s]
def qbj (cur : List Str) (x : Slt) : List Str := if x.var = [] then cur else qcj cur x.var
def qc0 (cur : List Str) (p : Ptn) : List Str := qbj (qbj (qbj cur p.s) p.p) p.o
def qbu (l : List Ptn) : List Str := l.foldl qc0 []
theorem meet1_length (cur : List Str) (s : Str) : (qcj cur s).length ≤ cur.length + 1 := by unfold qcj; split <;> simp
theorem slotMeet_length (cur : List Str) (x : Slt) : (qbj cur x).length ≤ cur.length + 1 := by unfold qbj; split; omega; exact meet1_length _ _
theorem ptnMeet_length (cur : List Str) (p : Ptn) : (qc0 cur p).length ≤ cur.length + 3 := by
  unfold qc0
  have := slotMeet_length (qbj (qbj cur p.s) p.p) p.o
  have := slotMeet_length (qbj cur p.s) p.p
  have := slotMeet_length cur p.s
  omega
theorem varsFrom_length (l : List Ptn) : ∀ cur, (l.foldl qc0 cur).length ≤ cur.length + 3 * l.length := by
  induction l with
  | nil => intro cur; simp
  | cons p l ih =>
    intro cur
    have := ih (qc0 cur p)
    have := ptnMeet_length cur p
    simp only [List.foldl_cons, List.length_cons]; omega
theorem qbe (l : List Ptn) : (qbu l).length ≤ 3 * l.length := by have := varsFrom_length l []; simpa [qbu] using this

/-- names that are met: an object of one cell, with a slice that may grow -/
def MetAt (h : Hp) (b id : Nat) (cur : List Str) : Prop := b ≤ id ∧ ∃ nv, Row h id 0 1 [nv] true ∧ Strs h nv cur ∧ qcr nv = true ∧ ∀ k ∈ qa4 nv, b ≤ k ∧ k ≠ id
theorem MetAt.keep {h h1 : Hp} {b id : Nat} {cur : List Str} (m : MetAt h b id cur) (k : Keep h h1) : MetAt h1 b id cur := by
  obtain ⟨h0, nv, r, s, g, hk⟩ := m
  exact ⟨h0, nv, r.keep k, s.keep k, g, hk⟩

theorem meet_spec (hp : ∀ f d, pol.lit f d = false) (hs : sums 71 = none) (hs2 : sums 67 = some qbp) {n : Nat} (hn : 3 ≤ n) {h : Hp} {b id : Nat} {cur : List Str} (m : MetAt h b id cur) (s : Str) (hw : b ≤ h.next) (hb : cur.length < 2 ^ 40) :
    Runs (qat Try.prog pol sums n (.func (.func 71) [] []) [.ptr id 0 0, .sl .full 1 [.str s]]) h (fun _ h' => KeepBut (b ≤ ·) h h' ∧ MetAt h' b id (qcj cur s)) := by
  obtain ⟨n, rfl⟩ : ∃ m, n = m + 1 := ⟨n - 1, by omega⟩
  refine qb9 (by assumption) Try.func71 rfl (by simp [Try.f71]) ?_
  have a0 : qay (qah Try.f71.ntmps (([] ++ [.ptr id 0 0, .sl .full 1 [.str s]] ++ []) : List AV)) 0 = .ptr id 0 0 := qaf rfl
  have a1 : qay (qah Try.f71.ntmps (([] ++ [.ptr id 0 0, .sl .full 1 [.str s]] ++ []) : List AV)) 1 = .sl .full 1 [.str s] := qaf rfl
  generalize qah Try.f71.ntmps (([] ++ [.ptr id 0 0, .sl .full 1 [.str s]] ++ []) : List AV) = T at *
  show Runs (qaw _ _ _ _ 30 _ _ _) _ _
  have sv : ∀ h, SlV h 1 (.sl .full 1 [.str s]) 1 [.str s] := fun h => .imm _ _ _ rfl
  have sv0 := sv h
  refine goP ?_
  apply R_loop (k := 1) (I := fun k T h1 => ∃ i, k = 1 - i ∧ i ≤ 1 ∧ qay T 0 = .ptr id 0 0 ∧ qay T 6 = .sl .full 1 [.str s] ∧ qay T 7 = .int .i64 (1 : Nat) ∧ qay T 8 = .int .i64 (i : Nat) ∧ KeepBut (b ≤ ·) h h1 ∧ MetAt h1 b id (if i = 0 then cur else qcj cur s))
  · omega
  · exact ⟨0, by omega, by omega, by exact tgP, by exact tgP, by exact tgP, by exact tgP, KeepBut.refl h, m⟩
  · rintro k T g1 ⟨i, rfl, hi, t0, t6, t7, t8, kp, hm⟩
    refine goP ?_
    apply qa9 (decide ((i : Int) < ((1 : Nat) : Int)))
    · exact evP
    · intro c
      have hlt : i < 1 := by simp at c; omega
      obtain rfl : i = 0 := by omega
      simp only [if_true] at hm
      obtain ⟨hbid, nv, r1, s1, gr1, k1⟩ := hm
      have sv1 := sv g1
      refine goP ?_
      apply qax
      · exact evP
      · exact sv1
      · exact evP
      · omega
      · rfl
      intro a ha _
      apply qbx
      · exact evP
      · exact ha
      refine goP ?_
      (apply qbn; exact evP; (repeat (apply qai; exact evP)); exact qas)
      refine (contains_spec hs2 (by omega) (.inl s1) s (by omega)).mono ?_
      rintro r g2 ⟨rfl, rfl⟩
      refine ⟨Undis.off rfl, ?_⟩
      refine goP ?_
      apply qa9 (!decide (s ∈ cur))
      · exact evP
      · intro c
        have hns : s ∉ cur := by simpa using c
        refine goP ?_
        apply qbl
        · exact qa0 (by exact evP) qbv
        · rfl
        · rfl
        · exact hp _ _
        intro hl
        apply O_wf
        intro w1
        apply O_append (new := [.str s]) (m := 1) (bytes := 16)
        · exact qai (by exact evP) (qai (by exact evP) qas)
        · exact s1
        · exact gr1
        · exact sv1
        · rfl
        · rfl
        · simp [room]; omega
        intro nv' g3 kb s2 gr2 k2 _
        refine ⟨Undis.off rfl, ?_⟩
        have hid : id ∉ qa4 nv := fun q => (k1 _ q).2 rfl
        have r2 := r1.keepBut kb hid
        have hk2 : ∀ k ∈ qa4 nv', b ≤ k ∧ k ≠ id := by
          intro k hk
          rcases k2 k hk with q | q
          · exact k1 k q
          · exact ⟨by have := kp.next; omega, by have := r1.lt w1; omega⟩
        refine goP ?_
        apply qb0
        · exact evP
        · exact evP
        · exact r2
        · simp [s2.acells, s2.one, ones]
        intro g4 kb4 r4
        refine ⟨Undis.off rfl, ?_⟩
        rw [s2.acells] at r4
        refine goP ?_
        apply K_loop 0 (by omega)
        refine ⟨1, by omega, by omega, by exact tgP, by exact tgP, by exact tgP, by exact tgP, ?_, ?_⟩
        · exact (kp.trans (kb.weaken fun i hi => (k1 i hi).1)).trans (kb4.weaken fun i hi => by subst hi; exact hbid)
        · refine ⟨hbid, nv', r4, ?_, gr2, hk2⟩
          simp only [qcj, hns, if_false]
          have := s2.keepBut kb4 fun k hk => (hk2 k hk).2
          simpa [strs, Strs] using this
      · intro c
        have hns : s ∈ cur := by simpa using c
        refine goP ?_
        apply K_loop 0 (by omega)
        refine ⟨1, by omega, by omega, by exact tgP, by exact tgP, by exact tgP, by exact tgP, kp, hbid, nv, r1, ?_, gr1, k1⟩
        simp only [qcj, hns, if_true]
        exact s1
    · intro c
      have : i = 1 := by simp at c; omega
      subst this
      refine goP ?_
      apply R_results0 rfl
      exact ⟨kp, hm⟩

theorem MetAt.keepBut {h h1 : Hp} {b id i : Nat} {cur : List Str} (m : MetAt h b id cur) (k : KeepBut (· = i) h h1) (hi : i ≠ id) (hn : h.next ≤ i) (w : h.WF) : MetAt h1 b id cur := by
  obtain ⟨h0, nv, r, s, g, hk⟩ := m
  exact ⟨h0, nv, r.keepBut k (fun e => hi e.symm), s.keepBut k (fun j hj e => by have := s.lt w j hj; omega), g, hk⟩

theorem slots_spec (hp : ∀ f d, pol.lit f d = false) (hs : sums 55 = none) (hs1 : sums 71 = none) (hs2 : sums 67 = some qbp) {n : Nat} (hn : 5 ≤ n) {h : Hp} {b id : Nat} {cur : List Str} (m : MetAt h b id cur) (x y z : Slt) (hw : b ≤ h.next) (hb : cur.length < 2 ^ 39) :
    Runs (qat Try.prog pol sums n (.func (.func 55) [] []) [.ptr id 0 0, .sl .full 3 (sltC x ++ sltC y ++ sltC z)]) h (fun _ h' => KeepBut (b ≤ ·) h h' ∧ MetAt h' b id (qbj (qbj (qbj cur x) y) z)) := by
  obtain ⟨n, rfl⟩ : ∃ m, n = m + 1 := ⟨n - 1, by omega⟩
  refine qb9 (by assumption) Try.func55 rfl (by simp [Try.f55]) ?_
  have a0 : qay (qah Try.f55.ntmps (([] ++ [.ptr id 0 0, .sl .full 3 (sltC x ++ sltC y ++ sltC z)] ++ []) : List AV)) 0 = .ptr id 0 0 := qaf rfl
  have a1 : qay (qah Try.f55.ntmps (([] ++ [.ptr id 0 0, .sl .full 3 (sltC x ++ sltC y ++ sltC z)] ++ []) : List AV)) 1 = .sl .full 3 (sltC x ++ sltC y ++ sltC z) := qaf rfl
  generalize qah Try.f55.ntmps (([] ++ [.ptr id 0 0, .sl .full 3 (sltC x ++ sltC y ++ sltC z)] ++ []) : List AV) = T at *
  show Runs (qaw _ _ _ _ 23 _ _ _) _ _
  have sv : ∀ h, SlV h 5 (.sl .full 3 (sltC x ++ sltC y ++ sltC z)) 3 (qca sltC [x, y, z]) := fun h => .imm _ _ _ rfl
  have sv0 := sv h
  refine goP ?_
  apply R_loop (k := 3) (I := fun k T h1 => ∃ i, k = 3 - i ∧ i ≤ 3 ∧ qay T 0 = .ptr id 0 0 ∧ qay T 6 = .sl .full 3 (sltC x ++ sltC y ++ sltC z) ∧ qay T 7 = .int .i64 (3 : Nat) ∧ qay T 8 = .int .i64 (i : Nat) ∧ KeepBut (b ≤ ·) h h1 ∧ MetAt h1 b id (([x, y, z].take i).foldl qbj cur))
  · omega
  · exact ⟨0, by omega, by omega, by exact tgP, by exact tgP, by exact tgP, by exact tgP, KeepBut.refl h, m⟩
  · rintro k T g1 ⟨i, rfl, hi, t0, t6, t7, t8, kp, hm⟩
    have hcl : (([x, y, z].take i).foldl qbj cur).length ≤ cur.length + 3 := by
      have h1 : ∀ (l : List Slt) (c : List Str), (l.foldl qbj c).length ≤ c.length + l.length := by
        intro l; induction l with
        | nil => intro c; simp
        | cons a l ih => intro c; have := ih (qbj c a); have := slotMeet_length c a; simp only [List.foldl_cons, List.length_cons]; omega
      have := h1 ([x, y, z].take i) cur
      simp only [List.length_take, List.length_cons, List.length_nil] at this
      omega
    refine goP ?_
    apply qa9 (decide ((i : Int) < ((3 : Nat) : Int)))
    · exact evP
    · intro c
      have hlt : i < 3 := by simp at c; omega
      have hlt' : i < [x, y, z].length := hlt
      have sv1 := sv g1
      refine goP ?_
      apply qax
      · exact evP
      · exact sv1
      · exact evP
      · omega
      · rfl
      intro a ha _
      rw [flat_at sltC_len hlt'] at ha
      have hstep : ([x, y, z].take (i + 1)).foldl qbj cur = qbj (([x, y, z].take i).foldl qbj cur) [x, y, z][i] := by
        rw [List.take_succ_eq_append_getElem hlt', List.foldl_append]; rfl
      generalize [x, y, z][i] = s at ha hstep
      apply qcf
      · exact evP
      · exact ha
      · rfl
      apply O_wf
      intro w1
      apply O_alloc
      intro g2 j kp2 r2 lj1 lj2
      apply qb0
      · exact evP
      · exact evP
      · exact r2
      · rfl
      intro g3 kb3 r3
      refine ⟨Undis.off rfl, ?_⟩
      have hidj : id < g1.next := by obtain ⟨_, nv, r, _⟩ := hm; exact r.lt w1
      have hm3 : MetAt g3 b id (([x, y, z].take i).foldl qbj cur) := by
        obtain ⟨q0, nv, q1, q2, q3, q4⟩ := hm
        exact ⟨q0, nv, (q1.keep kp2).keepBut kb3 (by omega), (q2.keep kp2).keepBut kb3 (fun k hk e => by have := q2.lt w1 k hk; omega), q3, q4⟩
      have hn3 : g1.next ≤ g3.next := Nat.le_trans kp2.next kb3.next
      have kp3 : KeepBut (b ≤ ·) h g3 := (kp.trans (kp2.but _)).trans (kb3.weaken fun k hk => by subst hk; have := kp.next; omega)
      change Row g3 j 0 _ [.str s.var, .int .i64 s.term.kind, .str s.term.a, .str s.term.b, .str s.term.c] true at r3
      refine goP ?_
      apply qa9 (!(s.var == []))
      · exact evP
      · intro c
        have hne : s.var ≠ [] := by simpa using c
        (refine R_drawn [0, 1, 2, 3, 4, 5, 6] [0, 1, 3, 0, 8, 24, 63] (by kernel_rfl) (by kernel_rfl) (by rfl) ?_; dsimp only [qci, List.map, List.getElem?_cons_zero, List.getElem?_cons_succ])
        refine goP ?_
        apply qbl
        · exact qa0 (by exact evP) qbv
        · rfl
        · rfl
        · exact hp _ _
        intro _
        (apply qbn; exact evP; (repeat (apply qai; exact evP)); exact qas)
        refine (meet_spec hp hs1 hs2 (by omega) hm3 s.var (by have := kp3.next; omega) (by omega)).mono ?_
        rintro _ g4 ⟨kb4, hm4⟩
        refine ⟨Undis.ahead (by kernel_rfl), ?_⟩
        refine goP ?_
        apply K_loop (3 - (i + 1)) (by omega)
        refine ⟨i + 1, rfl, by omega, by exact tgP, by exact tgP, by exact tgP, by exact tgP, kp3.trans kb4, ?_⟩
        rw [hstep]
        simpa [qbj, hne] using hm4
      · intro c
        have hne : s.var = [] := by simpa using c
        refine goP ?_
        apply K_loop (3 - (i + 1)) (by omega)
        refine ⟨i + 1, rfl, by omega, by exact tgP, by exact tgP, by exact tgP, by exact tgP, kp3, ?_⟩
        rw [hstep]
        simpa [qbj, hne] using hm3
    · intro c
      have : i = 3 := by simp at c; omega
      subst this
      refine goP ?_
      apply R_results0 rfl
      exact ⟨kp, hm⟩
end Go.Am
namespace Go.Am
open Go Go.Proofs AM
set_option maxRecDepth 10000
variable {pol : Pol} {sums : Sums}
attribute [local irreducible] KSeq KMid KBlock KLoop KOps KFunc Runs qbq qaw aopsM aop qat qay qa2 qa2? qaj qa8 qah

theorem KeepBut.toKeep {h h1 : Hp} (k : KeepBut (h.next ≤ ·) h h1) (w : h.WF) : Keep h h1 := k.all fun _ hi => w.get hi
theorem SlV.old {h h1 : Hp} {sz n : Nat} {v : AV} {cells : List AV} (s : SlV h sz v n cells) (w : h.WF) (k : KeepBut (h.next ≤ ·) h h1) : SlV h1 sz v n cells := s.keepBut k fun i hi => by have := s.lt w i hi; omega
theorem vars_spec (hp : ∀ f d, pol.lit f d = false) (hs : sums 27 = none) (hs0 : sums 55 = none) (hs1 : sums 71 = none) (hs2 : sums 67 = some qbp) {n : Nat} {h : Hp} {v : AV} {l : List Ptn} (hn : l.length + 7 ≤ n) (o : Rows qcd 15 h v l) (hb : l.length < 2 ^ 30) :
    Runs (qat Try.prog pol sums n (.func (.func 27) [] []) [v]) h (fun r h' => Keep h h' ∧ Strs h' r (qbu l) ∧ qcr r = true ∧ ∀ k ∈ qa4 r, h.next ≤ k) := by
  apply Runs.wf
  intro w
  obtain ⟨n, rfl⟩ : ∃ m, n = m + 1 := ⟨n - 1, by omega⟩
  refine qb9 (by assumption) Try.func27 rfl (by simp [Try.f27]) ?_
  have a0 : qay (qah Try.f27.ntmps (([] ++ [v] ++ []) : List AV)) 0 = v := qaf rfl
  generalize qah Try.f27.ntmps (([] ++ [v] ++ []) : List AV) = T at *
  show Runs (qaw _ _ _ _ 24 _ _ _) _ _
  refine goP ?_
  apply O_alloc
  intro g1 id k1 r1 l1 l2
  refine goP ?_
  have o1 := o.keep k1
  refine goP ?_
  apply R_loop (k := l.length) (I := fun k T g => ∃ i, k = l.length - i ∧ i ≤ l.length ∧ qay T 3 = .ptr id 0 0 ∧ qay T 6 = v ∧ qay T 7 = .int .i64 (l.length : Nat) ∧ qay T 8 = .int .i64 (i : Nat) ∧ KeepBut (h.next ≤ ·) h g ∧ MetAt g h.next id ((l.take i).foldl qc0 []))
  · omega
  · refine ⟨0, by omega, by omega, by exact tgP, by exact tgP, by exact tgP, by exact tgP, k1.but _, l1, _, r1, SlV.nil, rfl, ?_⟩
    simp [qa4]
  · rintro k T g2 ⟨i, rfl, hi, t3, t6, t7, t8, kp, hm⟩
    have hcl : ((l.take i).foldl qc0 []).length ≤ 3 * i := by
      have := varsFrom_length (l.take i) []
      simp only [List.length_nil, List.length_take] at this
      omega
    refine goP ?_
    apply qa9 (decide ((i : Int) < (l.length : Int)))
    · exact evP
    · intro c
      have hlt : i < l.length := by simpa using c
      refine goP ?_
      apply qax
      · exact evP
      · exact o.old w kp
      · exact evP
      · omega
      · rfl
      intro a ha _
      rw [flat_at ptnC_len hlt] at ha
      have hstep : (l.take (i + 1)).foldl qc0 [] = qc0 ((l.take i).foldl qc0 []) l[i] := by
        rw [List.take_succ_eq_append_getElem hlt, List.foldl_append]; rfl
      generalize l[i] = p at ha hstep
      apply qcf
      · exact evP
      · exact ha
      · rfl
      apply O_wf
      intro w2
      apply O_alloc
      intro g3 j k3 r3 lj1 lj2
      apply qb0
      · exact evP
      · exact evP
      · exact r3
      · rfl
      intro g4 kb4 r4
      refine ⟨Undis.off rfl, ?_⟩
      have hm4 : MetAt g4 h.next id ((l.take i).foldl qc0 []) := by
        obtain ⟨q0, nv, q1, q2, q3, q4⟩ := hm
        have := q1.lt w2
        exact ⟨q0, nv, (q1.keep k3).keepBut kb4 (by omega), (q2.keep k3).keepBut kb4 (fun k hk e => by have := q2.lt w2 k hk; omega), q3, q4⟩
      have kp4 : KeepBut (h.next ≤ ·) h g4 := (kp.trans (k3.but _)).trans (kb4.weaken fun k hk => by subst hk; have := kp.next; omega)
      change Row g4 j 0 _ (qcd p) true at r4
      refine goP ?_
      apply qau (n := 5)
      · exact evP
      · exact r4
      · rfl
      · exact rfl
      refine goP ?_
      apply qau (n := 5)
      · exact evP
      · exact r4
      · rfl
      · exact rfl
      refine goP ?_
      apply qau (n := 5)
      · exact evP
      · exact r4
      · rfl
      · exact rfl
      refine goP ?_
      apply qbl
      · exact qa0 (by exact evP) (qa0 (by exact evP) (qa0 (by exact evP) qbv))
      · rfl
      · rfl
      · exact hp _ _
      intro _
      (apply qbn; exact evP; (repeat (apply qai; exact evP)); exact qas)
      refine (slots_spec hp hs0 hs1 hs2 (by omega) hm4 p.s p.p p.o (by have := kp4.next; omega) (by omega)).mono ?_
      rintro _ g5 ⟨kb5, hm5⟩
      refine ⟨Undis.off rfl, ?_⟩
      refine goP ?_
      apply K_loop (l.length - (i + 1)) (by omega)
      refine ⟨i + 1, rfl, by omega, by exact tgP, by exact tgP, by exact tgP, by exact tgP, kp4.trans kb5, ?_⟩
      rw [hstep]
      exact hm5
    · intro c
      have : i = l.length := by
        have : ¬ i < l.length := by simpa using c
        omega
      subst this
      rw [List.take_length] at hm
      obtain ⟨q0, nv, q1, q2, q3, q4⟩ := hm
      refine goP ?_
      (apply qav rfl; exact tgP)
      exact ⟨kp.toKeep w, q2, q3, fun k hk => (q4 k hk).1⟩
end Go.Am
namespace Go.Am
open Go Go.Proofs AM
set_option maxRecDepth 10000
variable {pol : Pol} {sums : Sums}
attribute [local irreducible] KSeq KMid KBlock KLoop KOps KFunc Runs qbq qaw aopsM aop qat qay qa2 qa2? qaj qa8 qah

/-- a map from names that are known to how often they were learnt -/
def Counts (c : Nat) (es : List (AV × AV)) (l : List Str) : Prop := es.map (·.1) = strs l ∧ ∀ e ∈ es, ∃ z : Nat, e.2 = .int .i64 (z : Int) ∧ 0 < z ∧ z ≤ c
def KnownAt (h : Hp) (mid c : Nat) (l : List Str) : Prop := ∃ es, MapAt h mid es ∧ Counts c es l
theorem KnownAt.keep {h h1 : Hp} {mid c : Nat} {l : List Str} (m : KnownAt h mid c l) (k : Keep h h1) : KnownAt h1 mid c l := by
  obtain ⟨es, m, r⟩ := m; exact ⟨es, m.keep k, r⟩
theorem KnownAt.keepBut {X : Nat → Prop} {h h1 : Hp} {mid c : Nat} {l : List Str} (m : KnownAt h mid c l) (k : KeepBut X h h1) (hx : ¬ X mid) : KnownAt h1 mid c l := by
  obtain ⟨es, m, r⟩ := m; exact ⟨es, m.keepBut k hx, r⟩
theorem KnownAt.lt {h : Hp} {mid c : Nat} {l : List Str} (m : KnownAt h mid c l) (w : h.WF) : mid < h.next := by
  obtain ⟨es, m, _⟩ := m; exact m.lt w
theorem Counts.find {c : Nat} (s : Str) : ∀ {es : List (AV × AV)} {l : List Str}, Counts c es l → (s ∈ l → ∃ z : Nat, afind (.str s) es = some (some (.int .i64 (z : Int))) ∧ 0 < z ∧ z ≤ c) ∧ (s ∉ l → afind (.str s) es = some none)
  | [], [], _ => ⟨fun h => (by cases h), fun _ => rfl⟩
  | [], _ :: _, h => by cases h.1
  | _ :: _, [], h => by cases h.1
  | (k, v) :: es, x :: l, h => by
    obtain ⟨h1, h2⟩ := h
    simp only [List.map_cons, strs, List.cons.injEq] at h1
    obtain ⟨rfl, h1⟩ := h1
    have ih := Counts.find s (es := es) (l := l) ⟨h1, fun e he => h2 e (List.mem_cons_of_mem _ he)⟩
    obtain ⟨z, hz, h3⟩ := h2 _ List.mem_cons_self
    simp only at hz
    simp only [afind, keyEq]
    by_cases e : s = x
    · subst e
      simp [hz]
      exact ⟨z, rfl, h3⟩
    · have e' : (s == x) = false := by simpa using e
      rw [e']
      simp only [List.mem_cons, e, false_or]
      exact ih
theorem Counts.upd {c : Nat} (s : Str) (z : Nat) (hz : 0 < z ∧ z ≤ c + 1) : ∀ {es : List (AV × AV)} {l : List Str}, Counts c es l → Counts (c + 1) (aupd (.str s) (.int .i64 (z : Int)) es) (qcj l s)
  | [], [], _ => by
    refine ⟨by simp [aupd, qcj, strs], fun e he => ?_⟩
    simp [aupd] at he
    subst he
    exact ⟨z, rfl, hz⟩
  | [], _ :: _, h => by cases h.1
  | _ :: _, [], h => by cases h.1
  | (k, v) :: es, x :: l, h => by
    obtain ⟨h1, h2⟩ := h
    simp only [List.map_cons, strs, List.cons.injEq] at h1
    obtain ⟨rfl, h1⟩ := h1
    have ih := Counts.upd s z hz (es := es) (l := l) ⟨h1, fun e he => h2 e (List.mem_cons_of_mem _ he)⟩
    have hold : ∀ e ∈ (AV.str x, v) :: es, ∃ z : Nat, e.2 = .int .i64 (z : Int) ∧ 0 < z ∧ z ≤ c + 1 := fun e he => by
      obtain ⟨z, a, b, d⟩ := h2 e he; exact ⟨z, a, b, by omega⟩
    by_cases e : s = x
    · subst e
      refine ⟨?_, fun e he => ?_⟩
      · simp [aupd, keyEq, qcj, strs] at h1 ⊢
        exact h1
      · simp [aupd, keyEq] at he
        rcases he with rfl | he
        · exact ⟨z, rfl, hz⟩
        · exact hold e (List.mem_cons_of_mem _ he)
    · have e' : (s == x) = false := by simpa using e
      have ea : aupd (.str s) (.int .i64 (z : Int)) ((AV.str x, v) :: es) = (AV.str x, v) :: aupd (.str s) (.int .i64 (z : Int)) es := by
        simp [aupd, keyEq, e]
      have em : qcj (x :: l) s = x :: qcj l s := by
        unfold qcj
        by_cases q : s ∈ l <;> simp [q, e]
      rw [ea, em]
      refine ⟨?_, fun e he => ?_⟩
      · have := ih.1
        simp only [List.map_cons, strs, List.cons.injEq, true_and] at this ⊢
        exact this
      · rcases List.mem_cons.1 he with rfl | he
        · exact hold _ List.mem_cons_self
        · exact ih.2 e he

def qa1 (l : List Str) (p : Ptn) : List Str := (qbu [p]).filter (· ∈ l)
def fresh (l : List Str) (p : Ptn) : List Str := (qbu [p]).filter (· ∉ l)

theorem parts_spec (hp : ∀ f d, pol.lit f d = false) (hs : sums 48 = none) (hs' : sums 27 = none) (hs0 : sums 55 = none) (hs1 : sums 71 = none) (hs2 : sums 67 = some qbp) {n : Nat} (hn : 10 ≤ n) {h : Hp} {mid c : Nat} {l : List Str} (m : KnownAt h mid c l) (p : Ptn) :
    Runs (qat Try.prog pol sums n (.func (.func 48) [] []) [.agg [.mapv mid], .agg (qcd p)]) h (fun r h' => Keep h h' ∧ ∃ a b, r = .tuple [a, b] ∧ Strs h' a (qa1 l p) ∧ Strs h' b (fresh l p)) := by
  apply Runs.wf
  intro w
  obtain ⟨n, rfl⟩ : ∃ m, n = m + 1 := ⟨n - 1, by omega⟩
  refine qb9 (by assumption) Try.func48 rfl (by simp [Try.f48]) ?_
  have a0 : qay (qah Try.f48.ntmps (([] ++ [.agg [.mapv mid], .agg (qcd p)] ++ []) : List AV)) 0 = .agg [.mapv mid] := qaf rfl
  have a1 : qay (qah Try.f48.ntmps (([] ++ [.agg [.mapv mid], .agg (qcd p)] ++ []) : List AV)) 1 = .agg (qcd p) := qaf rfl
  generalize qah Try.f48.ntmps (([] ++ [.agg [.mapv mid], .agg (qcd p)] ++ []) : List AV) = T at *
  show Runs (qaw _ _ _ _ 32 _ _ _) _ _
  refine goP ?_
  apply O_box
  · exact evP
  · rfl
  intro g1 i1 k1 r1 l1 l2
  change Row g1 i1 0 _ [.mapv mid] true at r1
  apply O_box
  · exact evP
  · rfl
  intro g2 i2 k2 r2 l3 l4
  change Row g2 i2 0 _ (qcd p) true at r2
  replace r1 := r1.keep k2
  refine goP ?_
  apply qau (n := 15)
  · exact evP
  · exact r2
  · rfl
  · exact rfl
  apply qbl
  · exact qa0 (by exact evP) qbv
  · rfl
  · rfl
  · exact hp _ _
  intro _
  (apply qbn; exact evP; (repeat (apply qai; exact evP)); exact qas)
  refine (vars_spec hp hs' hs0 hs1 hs2 (l := [p]) (by simp; omega) (SlV.imm _ _ _ rfl) (by simp)).mono ?_
  rintro nv g3 ⟨k3, s3, -, hv3⟩
  refine ⟨Undis.off rfl, ?_⟩
  replace r1 := r1.keep k3
  have m3 := m.keep ((k1.trans k2).trans k3)
  have hvl : (qbu [p]).length ≤ 3 := qbe [p]
  apply O_wf
  intro w3
  refine goP ?_
  apply R_loop (k := (qbu [p]).length) (I := fun k T g => ∃ i sv fv, k = (qbu [p]).length - i ∧ i ≤ (qbu [p]).length ∧ qay T 2 = .ptr i1 0 0 ∧ qay T 10 = nv ∧ qay T 11 = .int .i64 ((qbu [p]).length : Nat) ∧ qay T 12 = .int .i64 (i : Nat) ∧ qay T 4 = sv ∧ qay T 5 = fv ∧
    KeepBut (g3.next ≤ ·) g3 g ∧ Strs g sv (((qbu [p]).take i).filter (· ∈ l)) ∧ Strs g fv (((qbu [p]).take i).filter (· ∉ l)) ∧ qcr sv = true ∧ qcr fv = true ∧ (∀ k ∈ qa4 sv, g3.next ≤ k ∧ k ∉ qa4 fv) ∧ (∀ k ∈ qa4 fv, g3.next ≤ k))
  · omega
  · refine ⟨0, _, _, by omega, by omega, by exact tgP, by exact tgP, by exact tgP, by exact tgP, by exact tgP, by exact tgP, KeepBut.refl _, SlV.nil, SlV.nil, rfl, rfl, by simp [qa4], by simp [qa4]⟩
  · rintro k T g4 ⟨i, sv, fv, rfl, hi, t2, t10, t11, t12, t4, t5, kp, ss, sf, gs, gf, ds, df⟩
    refine goP ?_
    apply qa9 (decide ((i : Int) < ((qbu [p]).length : Int)))
    · exact evP
    · intro c
      have hlt : i < (qbu [p]).length := by simpa using c
      have r4 : Row g4 i1 0 _ [.mapv mid] true := r1.keepBut kp (by have := r1.lt w3; omega)
      have m4 := m3.keepBut kp (by have := m3.lt w3; omega)
      refine goP ?_
      apply qax
      · exact evP
      · exact s3.old w3 kp
      · exact evP
      · omega
      · rfl
      intro a ha _
      rw [strs_at hlt] at ha
      apply qbx
      · exact evP
      · exact ha
      have hst : (qbu [p]).take (i + 1) = (qbu [p]).take i ++ [(qbu [p])[i]] := List.take_succ_eq_append_getElem hlt
      have hl1 : (((qbu [p]).take i).filter (· ∈ l)).length ≤ 3 := Nat.le_trans (List.length_filter_le _ _) (by simp; omega)
      have hl2 : (((qbu [p]).take i).filter (· ∉ l)).length ≤ 3 := Nat.le_trans (List.length_filter_le _ _) (by simp; omega)
      generalize (qbu [p])[i] = s at ha hst
      refine goP ?_
      obtain ⟨es, me, hc⟩ := m4
      have fnd := hc.find s
      by_cases hsl : s ∈ l
      · obtain ⟨z, hz, hz1, hz2⟩ := fnd.1 hsl
        apply O_lookup
        · exact evP
        · exact evP
        · exact me
        · exact hz
        refine goP ?_
        apply qa9 (decide ((z : Int) > 0))
        · exact evP
        · intro _
          refine goP ?_
          apply qbl
          · exact qa0 (by exact evP) qbv
          · rfl
          · rfl
          · exact hp _ _
          intro _
          apply O_wf
          intro w4
          apply O_append (new := [.str s]) (m := 1) (bytes := 16)
          · exact qai (by exact evP) (qai (by exact evP) qas)
          · exact ss
          · exact gs
          · exact SlV.imm _ _ _ rfl
          · rfl
          · rfl
          · simp only [room]; omega
          intro sv' g5 kb s5 gr5 k5 _
          refine ⟨Undis.off rfl, ?_⟩
          refine goP ?_
          apply K_loop ((qbu [p]).length - (i + 1)) (by omega)
          refine ⟨i + 1, sv', fv, rfl, by omega, by exact tgP, by exact tgP, by exact tgP, by exact tgP, by exact tgP, by exact tgP, kp.trans (kb.weaken fun k hk => (ds k hk).1), ?_, ?_, gr5, gf, ?_, df⟩
          · rw [hst, List.filter_append]
            simpa [hsl, Strs, strs] using s5
          · rw [hst, List.filter_append]
            have := sf.keepBut kb fun k hk q => (ds k q).2 hk
            simpa [hsl, Strs, strs] using this
          · intro k hk
            rcases k5 k hk with q | q
            · exact ds k q
            · refine ⟨by have := kp.next; omega, fun q' => ?_⟩
              have := sf.lt w4 k q'
              omega
        · intro c; simp at c; omega
      · apply O_lookup
        · exact evP
        · exact evP
        · exact me
        · exact fnd.2 hsl
        refine goP ?_
        apply qa9 false
        · exact evP
        · intro c; cases c
        · intro _
          refine goP ?_
          apply qbl
          · exact qa0 (by exact evP) qbv
          · rfl
          · rfl
          · exact hp _ _
          intro _
          apply O_wf
          intro w4
          apply O_append (new := [.str s]) (m := 1) (bytes := 16)
          · exact qai (by exact evP) (qai (by exact evP) qas)
          · exact sf
          · exact gf
          · exact SlV.imm _ _ _ rfl
          · rfl
          · rfl
          · simp only [room]; omega
          intro fv' g5 kb s5 gr5 k5 _
          refine ⟨Undis.off rfl, ?_⟩
          refine goP ?_
          apply K_loop ((qbu [p]).length - (i + 1)) (by omega)
          refine ⟨i + 1, sv, fv', rfl, by omega, by exact tgP, by exact tgP, by exact tgP, by exact tgP, by exact tgP, by exact tgP, kp.trans (kb.weaken fun k hk => df k hk), ?_, ?_, gs, gr5, ?_, ?_⟩
          · rw [hst, List.filter_append]
            have := ss.keepBut kb fun k hk q => (ds k hk).2 q
            simpa [hsl, Strs, strs] using this
          · rw [hst, List.filter_append]
            simpa [hsl, Strs, strs] using s5
          · intro k hk
            refine ⟨(ds k hk).1, fun q' => ?_⟩
            rcases k5 k q' with q | q
            · exact (ds k hk).2 q
            · have := ss.lt w4 k hk
              omega
          · intro k hk
            rcases k5 k hk with q | q
            · exact df k q
            · have := kp.next; omega
    · intro c
      have : i = (qbu [p]).length := by
        have : ¬ i < (qbu [p]).length := by simpa using c
        omega
      subst this
      rw [List.take_length] at ss sf
      refine goP ?_
      apply R_results2 rfl
      · exact tgP
      · exact tgP
      exact ⟨((k1.trans k2).trans k3).trans (kp.toKeep w3), sv, fv, rfl, ss, sf⟩

theorem learn_spec (hs : sums 26 = none) {n : Nat} {h : Hp} {mid c : Nat} {l names : List Str} (hn : names.length + 2 ≤ n) (m : KnownAt h mid c l) {v : AV} (o : Strs h v names) (hv : mid ∉ qa4 v) (hc : c + names.length < 2 ^ 62) :
    Runs (qat Try.prog pol sums n (.func (.func 26) [] []) [.agg [.mapv mid], v]) h (fun _ h' => KeepBut (fun i => i = mid ∨ h.next ≤ i) h h' ∧ KnownAt h' mid (c + names.length) (names.foldl qcj l)) := by
  apply Runs.wf
  intro w
  obtain ⟨n, rfl⟩ : ∃ m, n = m + 1 := ⟨n - 1, by omega⟩
  refine qb9 (by assumption) Try.func26 rfl (by simp [Try.f26]) ?_
  have a0 : qay (qah Try.f26.ntmps (([] ++ [.agg [.mapv mid], v] ++ []) : List AV)) 0 = .agg [.mapv mid] := qaf rfl
  have a1 : qay (qah Try.f26.ntmps (([] ++ [.agg [.mapv mid], v] ++ []) : List AV)) 1 = v := qaf rfl
  generalize qah Try.f26.ntmps (([] ++ [.agg [.mapv mid], v] ++ []) : List AV) = T at *
  show Runs (qaw _ _ _ _ 18 _ _ _) _ _
  refine goP ?_
  apply O_box
  · exact evP
  · rfl
  intro g1 i1 k1 r1 l1 l2
  change Row g1 i1 0 _ [.mapv mid] true at r1
  have o1 := o.keep k1
  refine goP ?_
  have hmid : mid < h.next := m.lt w
  apply R_loop (k := names.length) (I := fun k T g => ∃ i, k = names.length - i ∧ i ≤ names.length ∧ qay T 2 = .ptr i1 0 0 ∧ qay T 6 = v ∧ qay T 7 = .int .i64 (names.length : Nat) ∧ qay T 8 = .int .i64 (i : Nat) ∧
    KeepBut (· = mid) g1 g ∧ KnownAt g mid (c + i) ((names.take i).foldl qcj l))
  · omega
  · exact ⟨0, by omega, by omega, by exact tgP, by exact tgP, by exact tgP, by exact tgP, KeepBut.refl _, m.keep k1⟩
  · rintro k T g2 ⟨i, rfl, hi, t2, t6, t7, t8, kp, mk⟩
    refine goP ?_
    apply qa9 (decide ((i : Int) < (names.length : Int)))
    · exact evP
    · intro cc
      have hlt : i < names.length := by simpa using cc
      have r2 : Row g2 i1 0 _ [.mapv mid] true := r1.keepBut kp (by omega)
      refine goP ?_
      apply qax
      · exact evP
      · exact o1.keepBut kp fun k hk q => hv (q ▸ hk)
      · exact evP
      · omega
      · rfl
      intro a ha _
      rw [strs_at hlt] at ha
      apply qbx
      · exact evP
      · exact ha
      have hst : (names.take (i + 1)).foldl qcj l = qcj ((names.take i).foldl qcj l) names[i] := by rw [List.take_succ_eq_append_getElem hlt, List.foldl_append]; rfl
      generalize names[i] = s at ha hst
      refine goP ?_
      obtain ⟨es, me, hcs⟩ := mk
      have fnd := hcs.find s
      have key : ∃ (z : Nat) (r : Option AV), afind (.str s) es = some r ∧ r.getD (.int .i64 0) = .int .i64 (z : Int) ∧ z ≤ c + i := by
        by_cases hsl : s ∈ (names.take i).foldl qcj l
        · obtain ⟨z, hz, hz1, hz2⟩ := fnd.1 hsl
          exact ⟨z, _, hz, rfl, hz2⟩
        · exact ⟨0, _, fnd.2 hsl, rfl, by omega⟩
      obtain ⟨z, r, hz, hr, hzc⟩ := key
      apply O_lookup
      · exact evP
      · exact evP
      · exact me
      · exact hz
      simp only [cond_false, hr]
      refine goP ?_
      apply O_mapUpdate
      · exact evP
      · exact evP
      · exact evP
      · exact me
      · exact hz
      intro g3 kb m3
      refine ⟨Undis.off rfl, ?_⟩
      refine goP ?_
      apply K_loop (names.length - (i + 1)) (by omega)
      refine ⟨i + 1, rfl, by omega, by exact tgP, by exact tgP, by exact tgP, by exact tgP, kp.trans kb, _, m3, ?_⟩
      rw [hst]
      exact hcs.upd s (z + 1) ⟨by omega, by omega⟩
    · intro cc
      have : i = names.length := by
        have : ¬ i < names.length := by simpa using cc
        omega
      subst this
      rw [List.take_length] at mk
      refine goP ?_
      apply R_results0 rfl
      exact ⟨(k1.but _).trans (kp.weaken fun k hk => .inl hk), mk⟩
end Go.Am
namespace Go.Am
open Go Go.Proofs AM
set_option maxRecDepth 10000
variable {pol : Pol} {sums : Sums}

theorem abin_struct {P : Program} {t : TypeId} {X Y : List AV} {b : Bool} (hu : (match P.underlying t with | some (.struct _) => true | _ => false) = true) (hg : P.eqGuardType P.depth t = false) (he : aeqIn P 9 t (.agg X) (.agg Y) = some b) :
    abin P .eql t (.agg X) (.agg Y) = pure (.bool b) ∧ abin P .neq t (.agg X) (.agg Y) = pure (.bool !b) := by
  cases hq : P.underlying t with
  | none => rw [hq] at hu; cases hu
  | some d =>
    rw [hq] at hu
    cases d <;> first | cases hu | skip
    have : aequal P t (.agg X) (.agg Y) = pure b := by
      unfold aequal
      simp only [hq]
      rw [hg, he]
      rfl
    constructor
    · simp only [abin, this]; rfl
    · simp only [abin, this]; rfl
theorem trm_eqIn (a b : Trm) : aeqIn Try.prog 9 39 (.agg (trmC a)) (.agg (trmC b)) = some (decide (a = b)) := by
  obtain ⟨k, x, y, z⟩ := a
  obtain ⟨k', x', y', z'⟩ := b
  have e : aeqIn Try.prog 9 39 (.agg (trmC ⟨k, x, y, z⟩)) (.agg (trmC ⟨k', x', y', z'⟩)) = (match k == k' with
    | true => match x == x' with
      | true => match y == y' with
        | true => match z == z' with
          | true => some true
          | false => some false
        | false => some false
      | false => some false
    | false => some false) := by kernel_rfl
  rw [e]
  by_cases h1 : k = k'
  · by_cases h2 : x = x'
    · by_cases h3 : y = y'
      · by_cases h4 : z = z'
        · simp [h1, h2, h3, h4]
        · simp [h1, h2, h3, h4, show (z == z') = false by simpa using h4]
      · simp [h1, h2, h3, show (y == y') = false by simpa using h3]
    · simp [h1, h2, show (x == x') = false by simpa using h2]
  · simp [h1, show (k == k') = false by simpa using h1]
theorem trm_eql (a b : Trm) : abin Try.prog .eql 39 (.agg (trmC a)) (.agg (trmC b)) = pure (.bool (decide (a = b))) := (abin_struct (by kernel_rfl) (by kernel_rfl) (trm_eqIn a b)).1

attribute [local irreducible] KSeq KMid KBlock KLoop KOps KFunc Runs qbq qaw aopsM aop qat qay qa2 qa2? qaj qa8 qah
structure Lin where
  term : Trm
  tri : Int
  sub : Int
  obj : Int
abbrev linC (x : Lin) : List AV := [.int .i64 x.term.kind, .str x.term.a, .str x.term.b, .str x.term.c, .int .i64 x.tri, .int .i64 x.sub, .int .i64 x.obj]
theorem linC_len (x : Lin) : (linC x).length = 7 := rfl
structure Sts where
  tri : Int
  sub : Int
  pre : Int
  obj : Int
  lines : List Lin
abbrev stsC (x : Sts) (lv : AV) : List AV := [.int .i64 x.tri, .int .i64 x.sub, .int .i64 x.pre, .int .i64 x.obj, lv]
def noTrm : Trm := ⟨0, [], [], []⟩
def noLin : Lin := ⟨noTrm, 0, 0, 0⟩
def ofZ (x : Sts) (p : Slt) : Lin := if p.var ≠ [] then ⟨noTrm, x.tri, x.sub, x.obj⟩ else (x.lines.find? (fun l => decide (l.term = p.term))).getD noLin
def partZ (a b : Int) : Int := if a < 1 then 0 else IntKind.wrap .i64 (IntKind.wrap .i64 ((IntKind.wrap .i64 (a - 1)).tdiv (if 1 > b then 1 else b)) + 1)
def qcn (known : List Str) (s : Slt) : Bool := s.var == [] || decide (s.var ∈ known)
def qb6 (x : Sts) (p : Ptn) (known : List Str) : Int :=
  let l := ofZ x p.p
  let n := l.tri
  let n := if qcn known p.s then partZ n l.sub else n
  let n := if qcn known p.o then partZ n l.obj else n
  if p.p.var ≠ [] ∧ qcn known p.p = true then partZ n x.pre else n

theorem part_spec (hs : sums 69 = none) {n : Nat} (hn : 1 ≤ n) (a b : Int) (h : Hp) : Runs (qat Try.prog pol sums n (.func (.func 69) [] []) [.int .i64 a, .int .i64 b]) h (fun v h' => h = h' ∧ v = .int .i64 (partZ a b)) := by
  obtain ⟨n, rfl⟩ : ∃ m, n = m + 1 := ⟨n - 1, by omega⟩
  refine qb9 (by assumption) Try.func69 rfl (by simp [Try.f69]) ?_
  have a0 : qay (qah Try.f69.ntmps (([] ++ [.int .i64 a, .int .i64 b] ++ []) : List AV)) 0 = .int .i64 a := qaf rfl
  have a1 : qay (qah Try.f69.ntmps (([] ++ [.int .i64 a, .int .i64 b] ++ []) : List AV)) 1 = .int .i64 b := qaf rfl
  generalize qah Try.f69.ntmps (([] ++ [.int .i64 a, .int .i64 b] ++ []) : List AV) = T at *
  show Runs (qaw _ _ _ _ 14 _ _ _) _ _
  refine goP ?_
  apply qa9 (decide (a < 1))
  · exact evP
  · intro c
    refine goP ?_
    (apply qav rfl; exact tgP)
    have c : a < 1 := by simpa using c
    simp [partZ, c]
  · intro c
    have c : ¬ a < 1 := by simpa using c
    refine goP ?_
    apply O_max2
    · exact evP
    · exact evP
    refine goP ?_
    apply O_quo
    · exact evP
    · exact evP
    · split <;> omega
    refine goP ?_
    (apply qav rfl; exact tgP)
    simp [partZ, c]

theorem told_spec (hs : sums 66 = none) (hs2 : sums 67 = some qbp) {n : Nat} (hn : 2 ≤ n) {h : Hp} {id : Nat} {nv : AV} {known : List Str} (r : Row h id 0 1 [nv] true) (o : Names h nv known) (hb : known.length < 2 ^ 62) (s : Slt) :
    Runs (qat Try.prog pol sums n (.func (.func 66) [] [.ptr id 0 0]) [.agg (sltC s)]) h (fun v h' => Keep h h' ∧ v = .bool (qcn known s)) := by
  obtain ⟨n, rfl⟩ : ∃ m, n = m + 1 := ⟨n - 1, by omega⟩
  refine qb9 (by assumption) Try.func66 rfl (by simp [Try.f66]) ?_
  have a0 : qay (qah Try.f66.ntmps (([] ++ [.agg (sltC s)] ++ [.ptr id 0 0]) : List AV)) 0 = .agg (sltC s) := qaf rfl
  have a1 : qay (qah Try.f66.ntmps (([] ++ [.agg (sltC s)] ++ [.ptr id 0 0]) : List AV)) 1 = .ptr id 0 0 := qaf rfl
  generalize qah Try.f66.ntmps (([] ++ [.agg (sltC s)] ++ [.ptr id 0 0]) : List AV) = T at *
  show Runs (qaw _ _ _ _ 13 _ _ _) _ _
  refine goP ?_
  apply O_box
  · exact evP
  · rfl
  intro g1 i1 k1 r1 l1 l2
  change Row g1 i1 0 _ (sltC s) true at r1
  replace r := r.keep k1
  replace o := o.keep k1
  refine goP ?_
  cases hv : (s.var == ([] : Str)) with
  | true =>
    refine goP ?_
    (apply qav rfl; exact tgP)
    simp [qcn, hv, k1]
  | false =>
    refine goP ?_
    (apply qbn; exact evP; (repeat (apply qai; exact evP)); exact qas)
    refine (contains_spec hs2 (by omega) o s.var hb).mono ?_
    rintro r g2 ⟨rfl, rfl⟩
    refine ⟨Undis.off rfl, ?_⟩
    refine goP ?_
    (apply qav rfl; exact tgP)
    simp [qcn, hv, k1]

theorem of_spec (hs : sums 68 = none) {n : Nat} {h : Hp} {x : Sts} {lv : AV} (hn : x.lines.length + 2 ≤ n) (o : Rows linC 7 h lv x.lines) (hb : x.lines.length < 2 ^ 62) (p : Slt) :
    Runs (qat Try.prog pol sums n (.func (.func 68) [] []) [.agg (stsC x lv), .agg (sltC p)]) h (fun v h' => Keep h h' ∧ v = .agg (linC (ofZ x p))) := by
  apply Runs.wf
  intro w
  obtain ⟨n, rfl⟩ : ∃ m, n = m + 1 := ⟨n - 1, by omega⟩
  refine qb9 (by assumption) Try.func68 rfl (by simp [Try.f68]) ?_
  have a0 : qay (qah Try.f68.ntmps (([] ++ [.agg (stsC x lv), .agg (sltC p)] ++ []) : List AV)) 0 = .agg (stsC x lv) := qaf rfl
  have a1 : qay (qah Try.f68.ntmps (([] ++ [.agg (stsC x lv), .agg (sltC p)] ++ []) : List AV)) 1 = .agg (sltC p) := qaf rfl
  generalize qah Try.f68.ntmps (([] ++ [.agg (stsC x lv), .agg (sltC p)] ++ []) : List AV) = T at *
  show Runs (qaw _ _ _ _ 32 _ _ _) _ _
  refine goP ?_
  apply O_box
  · exact evP
  · rfl
  intro g1 i1 k1 r1 l1 l2
  change Row g1 i1 0 _ (stsC x lv) true at r1
  apply O_box
  · exact evP
  · rfl
  intro g2 i2 k2 r2 l3 l4
  change Row g2 i2 0 _ (sltC p) true at r2
  apply O_alloc
  intro g3 i3 k3 r3 l5 l6
  replace r1 := (r1.keep k2).keep k3
  replace r2 := r2.keep k3
  have k := (k1.trans k2).trans k3
  have o3 := o.keep k
  apply O_wf
  intro w3
  refine goP ?_
  apply qa9 (!(p.var == []))
  · exact evP
  · intro c
    have c : p.var ≠ [] := by simpa using c
    refine goP ?_
    apply O_build
    · exact qa0 (by exact evP) (qa0 (by exact evP) (qa0 (by exact evP) qbv))
    · rfl
    apply qb0
    · exact evP
    · exact evP
    · exact r3
    · rfl
    intro g4 kb r4
    refine ⟨Undis.off rfl, ?_⟩
    refine goP ?_
    apply R_res_agg rfl
    · exact tgP
    · exact r4
    · rfl
    · rfl
    refine ⟨KeepBut.keep k kb fun i hi => w.get (by have := k1.next; have := k2.next; omega), ?_⟩
    simp [ofZ, c, noTrm, splice, acells]
  · intro c
    have c : p.var = [] := by simpa using c
    refine goP ?_
    apply R_loop (k := x.lines.length) (I := fun k T g => ∃ i, k = x.lines.length - i ∧ i ≤ x.lines.length ∧ qay T 3 = .ptr i2 0 0 ∧ qay T 4 = .ptr i3 0 0 ∧ qay T 18 = lv ∧ qay T 19 = .int .i64 (x.lines.length : Nat) ∧ qay T 20 = .int .i64 (i : Nat) ∧
      Keep g3 g ∧ ∀ l ∈ x.lines.take i, l.term ≠ p.term)
    · omega
    · exact ⟨0, by omega, by omega, by exact tgP, by exact tgP, by exact tgP, by exact tgP, by exact tgP, Keep.refl _, by simp⟩
    · rintro k' T g ⟨i, rfl, hi, t3, t4, t18, t19, t20, kq, hall⟩
      refine goP ?_
      apply qa9 (decide ((i : Int) < (x.lines.length : Int)))
      · exact evP
      · intro cc
        have hlt : i < x.lines.length := by simpa using cc
        have q2 := r2.keep kq
        have q3 := r3.keep kq
        refine goP ?_
        apply qax
        · exact evP
        · exact o3.keep kq
        · exact evP
        · omega
        · rfl
        intro a ha _
        rw [flat_at linC_len hlt] at ha
        have hst : x.lines.take (i + 1) = x.lines.take i ++ [x.lines[i]] := List.take_succ_eq_append_getElem hlt
        have hdr : x.lines = x.lines.take i ++ x.lines[i] :: x.lines.drop (i + 1) := by rw [← List.drop_eq_getElem_cons hlt, List.take_append_drop]
        generalize x.lines[i] = l at ha hst hdr
        apply qcf
        · exact evP
        · exact ha
        · rfl
        apply O_wf
        intro wg
        apply O_alloc
        intro g5 j k5 r5 lj1 lj2
        apply qb0
        · exact evP
        · exact evP
        · exact r5
        · rfl
        intro g6 kb6 r6
        refine ⟨Undis.off rfl, ?_⟩
        change Row g6 j 0 _ (linC l) true at r6
        have k6 : Keep g g6 := KeepBut.keep k5 kb6 fun i hi => wg.get (by omega)
        replace q2 := q2.keep k6
        replace q3 := q3.keep k6
        refine goP ?_
        apply qau (n := 4)
        · exact evP
        · exact r6
        · rfl
        · exact rfl
        refine goP ?_
        apply qau (n := 4)
        · exact evP
        · exact q2
        · rfl
        · exact rfl
        apply O_bin (X := .agg (trmC l.term)) (Y := .agg (trmC p.term))
        · exact evP
        · exact evP
        · rfl
        · exact trm_eql _ _
        refine goP ?_
        apply qa9 (decide (l.term = p.term))
        · exact evP
        · intro e
          have e : l.term = p.term := by simpa using e
          refine goP ?_
          apply qau (n := 7)
          · exact evP
          · exact r6
          · rfl
          · exact rfl
          apply qb0
          · exact evP
          · exact evP
          · exact q3
          · rfl
          intro g7 kb7 r7
          refine ⟨Undis.off rfl, ?_⟩
          refine goP ?_
          apply R_res_agg rfl
          · exact tgP
          · exact r7
          · rfl
          · rfl
          refine ⟨KeepBut.keep ((k.trans kq).trans k6) kb7 fun i hi => w.get (by have := k1.next; have := k2.next; omega), ?_⟩
          have hf : x.lines.find? (fun l => decide (l.term = p.term)) = some l := by
            rw [hdr, List.find?_append, List.find?_eq_none.2 (fun y hy => by simpa using hall y hy)]
            simp [e]
          simp [ofZ, c, hf, splice, acells]
        · intro e
          have e : l.term ≠ p.term := by simpa using e
          refine goP ?_
          apply K_loop (x.lines.length - (i + 1)) (by omega)
          refine ⟨i + 1, rfl, by omega, by exact tgP, by exact tgP, by exact tgP, by exact tgP, by exact tgP, kq.trans k6, ?_⟩
          rw [hst]
          intro y hy
          rcases List.mem_append.1 hy with hy | hy
          · exact hall y hy
          · simp at hy; subst hy; exact e
      · intro cc
        have : i = x.lines.length := by
          have : ¬ i < x.lines.length := by simpa using cc
          omega
        subst this
        rw [List.take_length] at hall
        refine goP ?_
        apply O_build
        · exact qbv
        · rfl
        apply qb0
        · exact evP
        · exact evP
        · exact r3.keep kq
        · rfl
        intro g7 kb7 r7
        refine ⟨Undis.off rfl, ?_⟩
        refine goP ?_
        apply R_res_agg rfl
        · exact tgP
        · exact r7
        · rfl
        · rfl
        refine ⟨KeepBut.keep (k.trans kq) kb7 fun i hi => w.get (by have := k1.next; have := k2.next; omega), ?_⟩
        have hf : x.lines.find? (fun l => decide (l.term = p.term)) = none := List.find?_eq_none.2 (fun y hy => by simpa using hall y hy)
        simp [ofZ, c, hf, splice, acells, noLin, noTrm]
end Go.Am
namespace Go.Am
open Go Go.Proofs AM
set_option maxRecDepth 10000
variable {pol : Pol} {sums : Sums}
attribute [local irreducible] KSeq KMid KBlock KLoop KOps KFunc Runs qbq qaw aopsM aop qat qay qa2 qa2? qaj qa8 qah

theorem Names.acells {h : Hp} {v : AV} {l : List Str} (o : Names h v l) : acells v = [v] := by
  rcases o with o | rfl
  · exact o.acells
  · rfl
theorem Names.known {h : Hp} {v : AV} {l : List Str} (o : Names h v l) : known v = true := by
  rcases o with o | rfl
  · exact o.known
  · rfl

def GSt (h : Hp) (i1 i2 i3 i5 : Nat) (x : Sts) (lv nv : AV) (p : Ptn) (known : List Str) (L : Lin) (m : Int) (T : qag) (g : Hp) : Prop :=
  Keep h g ∧ Row g i1 0 5 (stsC x lv) true ∧ Row g i2 0 15 (qcd p) true ∧ Row g i3 0 1 [nv] true ∧ Row g i5 0 7 (linC L) true ∧ Names g nv known ∧ qay T 3 = .ptr i1 0 0 ∧ qay T 4 = .ptr i2 0 0 ∧ qay T 7 = .func (.func 66) [] [.ptr i3 0 0] ∧ qay T 8 = .ptr i5 0 0 ∧ qay T 9 = .int .i64 m
theorem guess_spec (hs : sums 51 = none) (hs1 : sums 66 = none) (hs2 : sums 67 = some qbp) (hs3 : sums 68 = none) (hs4 : sums 69 = none) {n : Nat} {h : Hp} {x : Sts} {lv nv : AV} {known : List Str} (hn : x.lines.length + 4 ≤ n) (o : Rows linC 7 h lv x.lines) (on : Names h nv known) (hb : x.lines.length < 2 ^ 62) (hb2 : known.length < 2 ^ 62) (p : Ptn) :
    Runs (qat Try.prog pol sums n (.func (.func 51) [] []) [.agg (stsC x lv), .agg (qcd p), nv]) h (fun v h' => Keep h h' ∧ v = .int .i64 (qb6 x p known)) := by
  apply Runs.wf
  intro w
  obtain ⟨n, rfl⟩ : ∃ m, n = m + 1 := ⟨n - 1, by omega⟩
  refine qb9 (by assumption) Try.func51 rfl (by simp [Try.f51]) ?_
  have a0 : qay (qah Try.f51.ntmps (([] ++ [.agg (stsC x lv), .agg (qcd p), nv] ++ []) : List AV)) 0 = .agg (stsC x lv) := qaf rfl
  have a1 : qay (qah Try.f51.ntmps (([] ++ [.agg (stsC x lv), .agg (qcd p), nv] ++ []) : List AV)) 1 = .agg (qcd p) := qaf rfl
  have a2 : qay (qah Try.f51.ntmps (([] ++ [.agg (stsC x lv), .agg (qcd p), nv] ++ []) : List AV)) 2 = nv := qaf rfl
  generalize qah Try.f51.ntmps (([] ++ [.agg (stsC x lv), .agg (qcd p), nv] ++ []) : List AV) = T at *
  show Runs (qaw _ _ _ _ 48 _ _ _) _ _
  refine goP ?_
  apply O_box
  · exact evP
  · rfl
  intro g1 i1 k1 r1 l1 l2
  change Row g1 i1 0 _ (stsC x lv) true at r1
  apply O_box
  · exact evP
  · rfl
  intro g2 i2 k2 r2 l3 l4
  change Row g2 i2 0 _ (qcd p) true at r2
  apply O_box
  · exact evP
  · exact on.known
  intro g3 i3 k3 r3 l5 l6
  rw [on.acells] at r3
  replace r1 := (r1.keep k2).keep k3
  replace r2 := r2.keep k3
  have k := (k1.trans k2).trans k3
  have o3 := o.keep k
  have on3 := on.keep k
  refine goP ?_
  apply O_makeFunc (l1 := []) (l2 := [.ptr i3 0 0])
  · exact qas
  · exact qai (by exact evP) qas
  refine goP ?_
  apply qau (n := 5)
  · exact evP
  · exact r1
  · rfl
  · exact rfl
  refine goP ?_
  apply qau (n := 5)
  · exact evP
  · exact r2
  · rfl
  · exact rfl
  (apply qbn; exact evP; (repeat (apply qai; exact evP)); exact qas)
  refine (of_spec hs3 (by omega) o3 hb p.p).mono ?_
  rintro v g4 ⟨k4, rfl⟩
  refine ⟨Undis.off rfl, ?_⟩
  apply O_wf
  intro w4
  apply O_alloc
  intro g5 i5 k5 r5 l7 l8
  apply qb0
  · exact evP
  · exact evP
  · exact r5
  · rfl
  intro g6 kb6 r6
  refine ⟨Undis.off rfl, ?_⟩
  change Row g6 i5 0 _ (linC (ofZ x p.p)) true at r6
  have k6 : Keep g3 g6 := k4.trans (KeepBut.keep k5 kb6 fun i hi => w4.get (by omega))
  replace r1 := r1.keep k6
  replace r2 := r2.keep k6
  replace r3 := r3.keep k6
  replace on3 := on3.keep k6
  refine goP ?_
  apply qau (n := 5)
  · exact evP
  · exact r2
  · rfl
  · exact rfl
  (apply qbn; exact evP; (repeat (apply qai; exact evP)); exact qas)
  refine (told_spec hs1 hs2 (by omega) r3 on3 hb2 p.s).mono ?_
  rintro v g7 ⟨k7, rfl⟩
  refine ⟨Undis.off rfl, ?_⟩
  replace r1 := r1.keep k7
  replace r2 := r2.keep k7
  replace r3 := r3.keep k7
  replace r6 := r6.keep k7
  replace on3 := on3.keep k7
  have kk := (k.trans k6).trans k7
  generalize hL : ofZ x p.p = L at *
  refine goP ?_
  apply R_mid (GSt h i1 i2 i3 i5 x lv nv p known L (if qcn known p.s then partZ L.tri L.sub else L.tri))
  · apply qa9 (qcn known p.s)
    · exact evP
    · intro c
      simp only [c]
      refine goP ?_
      (apply qbn; exact evP; (repeat (apply qai; exact evP)); exact qas)
      refine (part_spec hs4 (by omega) _ _ _).mono ?_
      rintro v g8 ⟨rfl, rfl⟩
      refine ⟨Undis.off rfl, ?_⟩
      refine goP ?_
      apply K_mid
      exact ⟨kk, r1, r2, r3, r6, on3, by exact tgP, by exact tgP, by exact tgP, by exact tgP, by exact tgP⟩
    · intro c
      simp only [c]
      refine goP ?_
      apply K_mid
      exact ⟨kk, r1, r2, r3, r6, on3, by exact tgP, by exact tgP, by exact tgP, by exact tgP, by exact tgP⟩
  rintro T g8 ⟨kk, r1, r2, r3, r6, on3, t3, t4, t7, t8, t9⟩
  generalize hm1 : (if qcn known p.s then partZ L.tri L.sub else L.tri) = m1 at *
  refine goP ?_
  apply qau (n := 5)
  · exact evP
  · exact r2
  · rfl
  · exact rfl
  (apply qbn; exact evP; (repeat (apply qai; exact evP)); exact qas)
  refine (told_spec hs1 hs2 (by omega) r3 on3 hb2 p.o).mono ?_
  rintro v g9 ⟨k9, rfl⟩
  refine ⟨Undis.off rfl, ?_⟩
  replace r1 := r1.keep k9
  replace r2 := r2.keep k9
  replace r3 := r3.keep k9
  replace r6 := r6.keep k9
  replace on3 := on3.keep k9
  replace kk := kk.trans k9
  refine goP ?_
  apply R_mid (GSt h i1 i2 i3 i5 x lv nv p known L (if qcn known p.o then partZ m1 L.obj else m1))
  · apply qa9 (qcn known p.o)
    · exact evP
    · intro c
      simp only [c]
      refine goP ?_
      (apply qbn; exact evP; (repeat (apply qai; exact evP)); exact qas)
      refine (part_spec hs4 (by omega) _ _ _).mono ?_
      rintro v g8 ⟨rfl, rfl⟩
      refine ⟨Undis.off rfl, ?_⟩
      refine goP ?_
      apply K_mid
      exact ⟨kk, r1, r2, r3, r6, on3, by exact tgP, by exact tgP, by exact tgP, by exact tgP, by exact tgP⟩
    · intro c
      simp only [c]
      refine goP ?_
      apply K_mid
      exact ⟨kk, r1, r2, r3, r6, on3, by exact tgP, by exact tgP, by exact tgP, by exact tgP, by exact tgP⟩
  rintro T g10 ⟨kk, r1, r2, r3, r6, on3, t3, t4, t7, t8, t9⟩
  generalize hm2 : (if qcn known p.o then partZ m1 L.obj else m1) = m2 at *
  have hfin : qb6 x p known = if p.p.var ≠ [] ∧ qcn known p.p = true then partZ m2 x.pre else m2 := by
    simp only [qb6, hL, hm1, hm2]
  rw [hfin]
  refine goP ?_
  cases hv : (!(p.p.var == ([] : Str))) with
  | false =>
    have hv' : p.p.var = [] := by simpa using hv
    simp only [hv', ne_eq, not_true, false_and, if_false]
    refine goP ?_
    apply qa9 false
    · exact evP
    · intro c; cases c
    intro _
    refine goP ?_
    (apply qav rfl; exact tgP)
    exact ⟨kk, rfl⟩
  | true =>
    have hv' : p.p.var ≠ [] := by simpa using hv
    simp only [hv', ne_eq, not_false_eq_true, true_and]
    refine goP ?_
    apply qau (n := 5)
    · exact evP
    · exact r2
    · rfl
    · exact rfl
    refine goP ?_
    (apply qbn; exact evP; (repeat (apply qai; exact evP)); exact qas)
    refine (told_spec hs1 hs2 (by omega) r3 on3 hb2 p.p).mono ?_
    rintro v g11 ⟨k11, rfl⟩
    refine ⟨Undis.off rfl, ?_⟩
    replace r1 := r1.keep k11
    replace r2 := r2.keep k11
    replace r3 := r3.keep k11
    replace r6 := r6.keep k11
    replace on3 := on3.keep k11
    refine goP ?_
    apply qa9 (qcn known p.p)
    · exact evP
    · intro c
      simp only [c, if_true]
      refine goP ?_
      (apply qbn; exact evP; (repeat (apply qai; exact evP)); exact qas)
      refine (part_spec hs4 (by omega) _ _ _).mono ?_
      rintro v g12 ⟨rfl, rfl⟩
      refine ⟨Undis.off rfl, ?_⟩
      refine goP ?_
      (apply qav rfl; exact tgP)
      exact ⟨kk.trans k11, rfl⟩
    · intro c
      simp only [c]
      refine goP ?_
      (apply qav rfl; exact tgP)
      exact ⟨kk.trans k11, rfl⟩
end Go.Am
namespace Go.Am
open Go Go.Proofs AM
set_option maxRecDepth 10000
variable {pol : Pol} {sums : Sums}
attribute [local irreducible] KSeq KMid KBlock KLoop KOps KFunc Runs qbq qaw aopsM aop qat qay qa2 qa2? qaj qa8 qah

def ints (l : List Int) : List AV := l.map fun i => .int .i64 i
@[simp] theorem ints_length (l : List Int) : (ints l).length = l.length := by simp [ints]
theorem ints_append (l m : List Int) : ints (l ++ m) = ints l ++ ints m := by simp [ints]
theorem ints_at {l : List Int} {i : Nat} (hi : i < l.length) : ((ints l).drop (i * 1)).take 1 = [.int .i64 l[i]] := by
  rw [Nat.mul_one, List.drop_eq_getElem_cons (by simpa using hi)]
  simp [ints]
theorem ints_ones (l : List Int) : ones (ints l) = true := by simp [ones, ints, one]
/-- a slice of numbers -/
abbrev Ints (h : Hp) (v : AV) (l : List Int) : Prop := SlV h 1 v l.length (ints l)

theorem indexFunc_spec (hs : sums 54 = none) (n : Nat) (F : AV) (R : Int → Bool → Prop) {h : Hp} {s : AV} {l : List Int} (o : Ints h s l) (hn : l.length < n) (hb : l.length < 2 ^ 62)
    (hF : ∀ h1, Keep h h1 → ∀ e ∈ l, Runs (qat Try.prog pol sums n F [.int .i64 e]) h1 fun v h2 => ∃ b, v = .bool b ∧ R e b ∧ Keep h1 h2) :
    Runs (qat Try.prog pol sums (n + 1) (.func (.func 54) [] []) [s, F]) h (fun v h' => Keep h h' ∧
      ((v = .int .i64 (-1) ∧ ∀ e ∈ l, R e false) ∨ ∃ (i : Nat) (hi : i < l.length), v = .int .i64 i ∧ R l[i] true ∧ ∀ (j : Nat) (hj : j < i), R (l[j]'(by omega)) false)) := by
  refine qb9 hs Try.func54 rfl (by simp [Try.f54]) ?_
  have h0 : qay (qah Try.f54.ntmps ([] ++ [s, F] ++ [])) 0 = s := qaf rfl
  have h1 : qay (qah Try.f54.ntmps ([] ++ [s, F] ++ [])) 1 = F := qaf rfl
  generalize qah Try.f54.ntmps ([] ++ [s, F] ++ []) = T at *
  show Runs (qaw _ _ _ _ 19 _ _ _) _ _
  refine goP ?_
  apply R_loop (k := l.length) (I := fun k T h1 => ∃ i, k = l.length - i ∧ i ≤ l.length ∧ qay T 0 = s ∧ qay T 1 = F ∧ qay T 7 = .int .i64 l.length ∧ qay T 8 = .int .i64 i ∧ Keep h h1 ∧ ∀ (j : Nat) (hj : j < i) (hl : j < l.length), R l[j] false)
  · exact hn
  · exact ⟨0, by omega, by omega, by exact tgP, by exact tgP, by exact tgP, by exact tgP, Keep.refl h, fun j hj => by omega⟩
  · rintro k T h1 ⟨i, rfl, hi, t0, t1, t7, t8, kp, hall⟩
    refine goP ?_
    apply qa9 (decide ((i : Int) < (l.length : Int)))
    · exact evP
    · intro c
      have hlt : i < l.length := by simpa using c
      refine goP ?_
      apply qax
      · exact evP
      · exact o.keep kp
      · exact evP
      · exact hlt
      · rfl
      intro a ha _
      rw [ints_at hlt] at ha
      apply qbx
      · exact evP
      · exact ha
      (apply qbn; exact evP; (repeat (apply qai; exact evP)); exact qas)
      refine (hF h1 kp l[i] (List.getElem_mem hlt)).mono ?_
      rintro v h2 ⟨b, rfl, hR, kp2⟩
      refine ⟨kp2.undis, ?_⟩
      refine goP ?_
      apply qa9 b
      · exact evP
      · rintro rfl
        refine goP ?_
        (apply qav rfl; exact tgP)
        exact ⟨kp.trans kp2, .inr ⟨i, hlt, rfl, hR, fun j hj => hall j hj (by omega)⟩⟩
      · rintro rfl
        refine goP ?_
        apply K_loop (l.length - (i + 1)) (by omega)
        refine ⟨i + 1, rfl, by omega, by exact tgP, by exact tgP, by exact tgP, by exact tgP, kp.trans kp2, fun j hj hl => ?_⟩
        by_cases e : j = i
        · subst e; exact hR
        · exact hall j (by omega) hl
    · intro c
      refine goP ?_
      (apply qav rfl; exact tgP)
      refine ⟨kp, .inl ⟨rfl, fun e he => ?_⟩⟩
      obtain ⟨j, hj, rfl⟩ := List.getElem_of_mem he
      have : ¬ i < l.length := by simpa using c
      exact hall j (by omega) hj
end Go.Am
namespace Go.Am
open Go Go.Proofs AM
set_option maxRecDepth 10000
variable {pol : Pol} {sums : Sums}
attribute [local irreducible] KSeq KMid KBlock KLoop KOps KFunc Runs qbq qaw aopsM aop qat qay qa2 qa2? qaj qa8 qah

/-- what is left of a row when some are taken out -/
inductive Filt (R : Int → Bool → Prop) : List Int → List Int → Prop
  | nil : Filt R [] []
  | keep {l l' : List Int} {e : Int} (r : R e false) (f : Filt R l l') : Filt R (l ++ [e]) (l' ++ [e])
  | drop {l l' : List Int} {e : Int} (r : R e true) (f : Filt R l l') : Filt R (l ++ [e]) l'
theorem Filt.length {R : Int → Bool → Prop} {l l' : List Int} (f : Filt R l l') : l'.length ≤ l.length := by
  induction f with
  | nil => exact Nat.le_refl _
  | keep _ _ ih => simpa using ih
  | drop _ _ ih => simp; omega
theorem Filt.all {R : Int → Bool → Prop} (l : List Int) : (∀ e ∈ l, R e false) → Filt R l l := by
  induction h : l.length generalizing l with
  | zero => intro _; rw [List.length_eq_zero_iff.1 h]; exact .nil
  | succ n ih =>
    intro hl
    have hne : l ≠ [] := by rintro rfl; cases h
    rw [← List.dropLast_concat_getLast hne]
    exact .keep (hl _ (List.getLast_mem hne)) (ih _ (by simp [h]) (fun e he => hl e (List.dropLast_subset l he)))
theorem Filt.done {R : Int → Bool → Prop} {l l' : List Int} (f : Filt R l l') (p : Int → Bool) (hR : ∀ e b, R e b → b = p e) : l' = l.filter fun e => !(p e) := by
  induction f with
  | nil => rfl
  | keep r _ ih => have := hR _ _ r; simp [ih, ← this]
  | drop r _ ih => have := hR _ _ r; simp [ih, ← this]

/-- a row of numbers that may be written: its cells from a place on -/
def RowInts (h : Hp) (id ver off : Nat) (fix : Bool) (len : Nat) (l : List Int) : Prop := ∃ row, Row h id ver 1 row fix ∧ row.length = len ∧ off + l.length ≤ len ∧ (row.drop off).take l.length = ints l
theorem RowInts.slv {h : Hp} {id ver off len : Nat} {fix : Bool} {l : List Int} (o : RowInts h id ver off fix len l) : Ints h (.own id ver off l.length) l := by
  obtain ⟨row, h1, h2, h3, h4⟩ := o
  have := SlV.own id ver off l.length row fix h1 (by omega)
  rw [Nat.mul_one, h4] at this
  exact this
theorem RowInts.keep {h h1 : Hp} {id ver off len : Nat} {fix : Bool} {l : List Int} (o : RowInts h id ver off fix len l) (k : Keep h h1) : RowInts h1 id ver off fix len l := by
  obtain ⟨row, h1, h2⟩ := o
  exact ⟨row, h1.keep k, h2⟩
theorem RowInts.pfx {h : Hp} {id ver off len : Nat} {fix : Bool} {l : List Int} (o : RowInts h id ver off fix len l) (i : Nat) : RowInts h id ver off fix len (l.take i) := by
  obtain ⟨row, h1, h2, h3, h4⟩ := o
  refine ⟨row, h1, h2, by simp; omega, ?_⟩
  have : ints (l.take i) = (ints l).take i := by simp [ints, List.map_take]
  rw [this, ← h4, List.take_take]
  simp
theorem RowInts.splice {h1 : Hp} {id ver off i : Nat} {e : Int} {fix : Bool} {l : List Int} {row : List AV} (r : Row h1 id ver 1 (splice row (off + i * 1) [.int .i64 e]) fix) (h3 : off + l.length ≤ row.length) (h4 : (row.drop off).take l.length = ints l) (hi : i < l.length) :
    RowInts h1 id ver off fix row.length (l.set i e) := by
  refine ⟨_, r, by rw [qby (by simp; omega)], by simpa using h3, ?_⟩
  rw [splice_one (by omega), List.length_set]
  have h2 : ints (l.set i e) = (ints l).set i (.int .i64 e) := by simp [ints, List.map_set]
  rw [h2, ← h4]
  apply List.ext_getElem?
  intro j
  simp only [List.getElem?_take, List.getElem?_drop, List.getElem?_set, List.length_take, List.length_drop]
  by_cases e1 : i = j
  · subst e1
    have h5 : off + i < row.length := by omega
    simp [hi, h5]
    omega
  · by_cases h3 : j < l.length
    · simp [e1, h3]
    · simp [e1, h3]

theorem deleteFunc_spec (hs : sums 24 = none) (hs2 : sums 54 = none) (n : Nat) (F : AV) (R : Int → Bool → Prop) {h : Hp} {id ver off len : Nat} {fix : Bool} {l : List Int} (o : RowInts h id ver off fix len l) (hn : l.length + 1 < n) (hb : l.length < 2 ^ 62)
    (hF : ∀ m h1, n ≤ m + 1 → KeepBut (· = id) h h1 → ∀ e ∈ l, Runs (qat Try.prog pol sums m F [.int .i64 e]) h1 fun v h2 => ∃ b, v = .bool b ∧ R e b ∧ Keep h1 h2) :
    Runs (qat Try.prog pol sums (n + 1) (.func (.func 24) [] []) [.own id ver off l.length, F]) h (fun v h' => KeepBut (· = id) h h' ∧ ∃ l', v = .own id ver off l'.length ∧ Filt R l l' ∧ RowInts h' id ver off fix len l') := by
  refine qb9 hs Try.func24 rfl (by simp [Try.f24]) ?_
  have h0 : qay (qah Try.f24.ntmps ([] ++ [AV.own id ver off l.length, F] ++ [])) 0 = .own id ver off l.length := qaf rfl
  have h1 : qay (qah Try.f24.ntmps ([] ++ [AV.own id ver off l.length, F] ++ [])) 1 = F := qaf rfl
  generalize qah Try.f24.ntmps ([] ++ [AV.own id ver off l.length, F] ++ []) = T at *
  show Runs (qaw _ _ _ _ 42 _ _ _) _ _
  obtain ⟨n, rfl⟩ : ∃ m, n = m + 1 := ⟨n - 1, by omega⟩
  refine goP ?_
  (apply qbn; exact evP; (repeat (apply qai; exact evP)); exact qas)
  refine (indexFunc_spec hs2 n F R o.slv (by omega) hb (fun h1 k e he => hF n h1 (by omega) (k.but _) e he)).mono ?_
  rintro v h1 ⟨kp, hv⟩
  refine ⟨kp.undis, ?_⟩
  rcases hv with ⟨rfl, hall⟩ | ⟨i, hi, rfl, hRi, hbef⟩
  · refine goP ?_
    apply qa9 true
    · exact evP
    · intro _
      refine goP ?_
      (apply qav rfl; exact tgP)
      exact ⟨kp.but _, l, rfl, Filt.all l hall, o.keep kp⟩
    · intro c; cases c
  · refine goP ?_
    apply qa9 ((i : Int) == -1)
    · exact evP
    · intro c; simp at c
    intro _
    refine goP ?_
    apply R_loop (k := l.length - (i + 1)) (I := fun k T h2 => ∃ (w j : Nat) (cur : List Int), k = l.length - j ∧ w < j ∧ j ≤ l.length ∧ qay T 0 = .own id ver off l.length ∧ qay T 1 = F ∧ qay T 5 = .int .i64 w ∧ qay T 6 = .int .i64 j ∧ KeepBut (· = id) h h2 ∧
      RowInts h2 id ver off fix len cur ∧ cur.length = l.length ∧ cur.drop j = l.drop j ∧ Filt R (l.take j) (cur.take w))
    · omega
    · refine ⟨i, i + 1, l, by omega, by omega, by omega, by exact tgP, by exact tgP, by exact tgP, by exact tgP, kp.but _, o.keep kp, rfl, rfl, ?_⟩
      rw [List.take_succ_eq_append_getElem hi]
      refine .drop hRi (Filt.all _ fun e he => ?_)
      obtain ⟨j, hj, rfl⟩ := List.getElem_of_mem he
      rw [List.getElem_take]
      exact hbef j (by simp at hj; omega)
    · rintro k T h2 ⟨w, j, cur, rfl, hwj, hjl, t0, t1, t5, t6, kb, oc, hcl, hcd, hf⟩
      have osl : SlV h2 1 (.own id ver off l.length) l.length (ints cur) := by rw [← hcl]; exact oc.slv
      refine goP ?_
      apply qa9 (decide ((j : Int) < (l.length : Int)))
      · exact evP
      · intro c
        have hlt : j < l.length := by simpa using c
        refine goP ?_
        apply qax
        · exact evP
        · exact osl
        · exact evP
        · exact hlt
        · rfl
        intro a ha _
        have hjc : j < cur.length := by omega
        rw [ints_at hjc] at ha
        have hcj : cur[j] = l[j] := by
          have h1 : (cur.drop j)[0]? = (l.drop j)[0]? := by rw [hcd]
          simpa [hjc, hlt] using h1
        rw [hcj] at ha
        apply qbx
        · exact evP
        · exact ha
        refine goP ?_
        (apply qbn; exact evP; (repeat (apply qai; exact evP)); exact qas)
        refine (hF (n + 1) h2 (by omega) kb l[j] (List.getElem_mem hlt)).mono ?_
        rintro v h3 ⟨b, rfl, hR, kp2⟩
        refine ⟨kp2.undis, ?_⟩
        have oc := oc.keep kp2
        refine goP ?_
        apply qa9 (!b)
        · exact evP
        · intro hb'
          have hb' : b = false := by simpa using hb'
          subst hb'
          obtain ⟨row, r1, r2, r3, r4⟩ := oc
          refine goP ?_
          apply O_indexAddr_own
          · exact evP
          · exact r1
          · exact evP
          · omega
          · omega
          apply qb0
          · exact evP
          · exact evP
          · exact r1
          · have : off + w * 1 + 1 ≤ row.length := by omega
            simp [acells, ones, one]; omega
          intro h4 kb4 r5
          refine ⟨Undis.off rfl, ?_⟩
          refine goP ?_
          apply K_loop (l.length - (j + 1)) (by omega)
          have oc' := RowInts.splice r5 (by omega) r4 (by omega)
          rw [r2] at oc'
          refine ⟨w + 1, j + 1, cur.set w l[j], rfl, by omega, by omega, by exact tgP, by exact tgP, by exact tgP, by exact tgP, (kb.trans (kp2.but _)).trans kb4, oc', by simp [hcl], ?_, ?_⟩
          · rw [List.drop_set_of_lt (by omega), ← List.drop_drop (i := 1), hcd, List.drop_drop]
          · rw [List.take_succ_eq_append_getElem hlt, List.take_succ_eq_append_getElem (by simp; omega), List.take_set_of_le (by omega)]
            simp only [List.getElem_set_self]
            exact .keep hR hf
        · intro hb'
          have hb' : b = true := by simpa using hb'
          subst hb'
          refine goP ?_
          apply K_loop (l.length - (j + 1)) (by omega)
          refine ⟨w, j + 1, cur, rfl, by omega, by omega, by exact tgP, by exact tgP, by exact tgP, by exact tgP, kb.trans (kp2.but _), oc, hcl, ?_, ?_⟩
          · rw [← List.drop_drop (i := 1), hcd, List.drop_drop]
          · rw [List.take_succ_eq_append_getElem hlt]
            exact .drop hR hf
      · intro c
        have hge : ¬ j < l.length := by simpa using c
        have hj : j = l.length := by omega
        subst hj
        rw [List.take_length] at hf
        refine goP ?_
        obtain ⟨row, r1, r2, r3, r4⟩ := oc
        apply O_slice_own (l := w) (u := l.length)
        · exact evP
        · exact r1
        · exact bounds_lo (by rw [Option.map_some]; congr 1; exact evP) (by omega)
        · omega
        apply O_clear_own
        · exact evP
        · exact r1
        · omega
        · rfl
        intro h4 row' kb4 r5 r6 r7
        refine ⟨Undis.off rfl, ?_⟩
        refine goP ?_
        apply O_slice_own (l := 0) (u := w)
        · exact evP
        · exact r5
        · exact bounds_hi (by rw [Option.map_some]; congr 1; exact evP) (by omega)
        · omega
        refine goP ?_
        (apply qav rfl; exact tgP)
        refine ⟨kb.trans kb4, cur.take w, ?_, hf, row', r5, by omega, by simp; omega, ?_⟩
        · simp; omega
        · have h5 : ints (cur.take w) = (ints cur).take w := by simp [ints, List.map_take]
          rw [h5, ← r4, List.take_take, List.length_take, Nat.min_eq_left (by omega)]
          have h6 : (row'.take (off + w)) = row.take (off + w) := by simpa using r7
          have h7 : ∀ l : List AV, (l.drop off).take w = (l.take (off + w)).drop off := fun l => by rw [List.drop_take]; congr 1; omega
          rw [h7, h7, h6]
end Go.Am
namespace Go.Am
open Go Go.Proofs AM
set_option maxRecDepth 10000
variable {pol : Pol} {sums : Sums}
attribute [local irreducible] KSeq KMid KBlock KLoop KOps KFunc Runs qbq qaw aopsM aop qat qay qa2 qa2? qaj qa8 qah

/-! ### MinFunc, Clone -/
def minZ (cmp : Int → Int → Int) : Int → List Int → Int := fun a l => l.foldl (fun m e => if cmp e m < 0 then e else m) a
theorem minZ_mem (cmp : Int → Int → Int) : ∀ (l : List Int) (a : Int), minZ cmp a l = a ∨ minZ cmp a l ∈ l
  | [], a => .inl rfl
  | e :: l, a => by
    have : minZ cmp a (e :: l) = minZ cmp (if cmp e a < 0 then e else a) l := rfl
    rw [this]
    rcases minZ_mem cmp l (if cmp e a < 0 then e else a) with h | h
    · rw [h]; split
      · exact .inr List.mem_cons_self
      · exact .inl rfl
    · exact .inr (List.mem_cons_of_mem _ h)
theorem minFunc_spec (hs : sums 52 = none) {n : Nat} (F : AV) (cmp : Int → Int → Int) {h : Hp} {s : AV} {a : Int} {l : List Int} (hn : l.length + 3 ≤ n) (o : Ints h s (a :: l)) (hb : l.length < 2 ^ 60)
    (hF : ∀ m h1, n ≤ m + 1 → Keep h h1 → ∀ e ∈ a :: l, ∀ e' ∈ a :: l, Runs (qat Try.prog pol sums m F [.int .i64 e, .int .i64 e']) h1 fun v h2 => Keep h1 h2 ∧ v = .int .i64 (cmp e e')) :
    Runs (qat Try.prog pol sums n (.func (.func 52) [] []) [s, F]) h (fun v h' => Keep h h' ∧ v = .int .i64 (minZ cmp a l)) := by
  obtain ⟨n, rfl⟩ : ∃ m, n = m + 1 := ⟨n - 1, by omega⟩
  refine qb9 (by assumption) Try.func52 rfl (by simp [Try.f52]) ?_
  have a0 : qay (qah Try.f52.ntmps (([] ++ [s, F] ++ []) : List AV)) 0 = s := qaf rfl
  have a1 : qay (qah Try.f52.ntmps (([] ++ [s, F] ++ []) : List AV)) 1 = F := qaf rfl
  generalize qah Try.f52.ntmps (([] ++ [s, F] ++ []) : List AV) = T at *
  show Runs (qaw _ _ _ _ 33 _ _ _) _ _
  refine goP ?_
  apply qa9 (decide (((a :: l).length : Int) < 1))
  · exact evP
  · intro c; simp at c; omega
  intro _
  refine goP ?_
  apply qax (j := 0)
  · exact evP
  · exact o
  · exact evP
  · simp
  · rfl
  intro p hp' _
  rw [ints_at (l := a :: l) (i := 0) (by simp)] at hp'
  apply qbx
  · exact evP
  · exact hp'
  refine goP ?_
  apply R_loop (k := l.length) (I := fun k T g => ∃ i, k = l.length - i ∧ i ≤ l.length ∧ qay T 0 = s ∧ qay T 1 = F ∧ qay T 5 = .int .i64 (minZ cmp a (l.take i)) ∧ qay T 6 = .int .i64 ((i + 1 : Nat) : Int) ∧ Keep h g)
  · omega
  · exact ⟨0, by omega, by omega, by exact tgP, by exact tgP, by exact tgP, by exact tgP, Keep.refl _⟩
  · rintro k T g ⟨i, rfl, hi, t0, t1, t5, t6, kp⟩
    have o1 := o.keep kp
    refine goP ?_
    apply qa9 (decide (((i + 1 : Nat) : Int) < ((a :: l).length : Int)))
    · exact evP
    · intro c
      have hlt : i < l.length := by simp at c; omega
      refine goP ?_
      apply qax
      · exact evP
      · exact o1
      · exact evP
      · simp; omega
      · rfl
      intro p hp' _
      rw [ints_at (l := a :: l) (i := i + 1) (by simp; omega)] at hp'
      simp only [List.getElem_cons_succ] at hp'
      apply qbx
      · exact evP
      · exact hp'
      refine goP ?_
      have hst : minZ cmp a (l.take (i + 1)) = if cmp l[i] (minZ cmp a (l.take i)) < 0 then l[i] else minZ cmp a (l.take i) := by
        rw [List.take_succ_eq_append_getElem hlt]; simp only [minZ, List.foldl_append, List.foldl_cons, List.foldl_nil]; rfl
      have hm : minZ cmp a (l.take i) ∈ a :: l := by
        rcases minZ_mem cmp (l.take i) a with h | h
        · rw [h]; exact List.mem_cons_self
        · exact List.mem_cons_of_mem _ (List.mem_of_mem_take h)
      (apply qbn; exact evP; (repeat (apply qai; exact evP)); exact qas)
      refine (hF n g (by omega) kp l[i] (List.mem_cons_of_mem _ (List.getElem_mem hlt)) _ hm).mono ?_
      rintro v g2 ⟨k2, rfl⟩
      refine ⟨k2.undis, ?_⟩
      have o2 := o1.keep k2
      refine goP ?_
      apply qa9 (decide (cmp l[i] (minZ cmp a (l.take i)) < 0))
      · exact evP
      · intro c
        have c : cmp l[i] (minZ cmp a (l.take i)) < 0 := by simpa using c
        refine goP ?_
        apply qax
        · exact evP
        · exact o2
        · exact evP
        · simp; omega
        · rfl
        intro p hp' _
        rw [ints_at (l := a :: l) (i := i + 1) (by simp; omega)] at hp'
        simp only [List.getElem_cons_succ] at hp'
        apply qbx
        · exact evP
        · exact hp'
        refine goP ?_
        apply K_loop (l.length - (i + 1)) (by omega)
        refine ⟨i + 1, rfl, by omega, by exact tgP, by exact tgP, ?_, by exact tgP, kp.trans k2⟩
        rw [hst, if_pos c]; exact tgP
      · intro c
        have c : ¬ cmp l[i] (minZ cmp a (l.take i)) < 0 := by simpa using c
        refine goP ?_
        apply K_loop (l.length - (i + 1)) (by omega)
        refine ⟨i + 1, rfl, by omega, by exact tgP, by exact tgP, ?_, by exact tgP, kp.trans k2⟩
        rw [hst, if_neg c]; exact tgP
    · intro c
      have : i = l.length := by simp at c; omega
      subst this
      rw [List.take_length] at t5
      refine goP ?_
      (apply qav rfl; exact tgP)
      exact ⟨kp, rfl⟩

theorem SlV.explicit {h : Hp} {sz n : Nat} {v : AV} {c : List AV} (s : SlV h sz v n c) (hv : qa4 v ≠ []) (hg : qcr v = true) : ∃ id ver fix row, v = .own id ver 0 n ∧ Row h id ver sz row fix ∧ n * sz ≤ row.length ∧ row.take (n * sz) = c := by
  cases s with
  | imm k n c e => exact absurd rfl hv
  | own id ver off n row fix r e =>
    have h0 : off = 0 := by simpa [qcr] using hg
    subst h0
    exact ⟨id, ver, fix, row, rfl, r, by omega, by simp⟩
theorem SlV.rowInts {h : Hp} {v : AV} {l : List Int} (s : Ints h v l) (hv : qa4 v ≠ []) (hg : qcr v = true) : ∃ id ver fix len, v = .own id ver 0 l.length ∧ RowInts h id ver 0 fix len l := by
  obtain ⟨id, ver, fix, row, rfl, r, h1, h2⟩ := s.explicit hv hg
  exact ⟨id, ver, fix, row.length, rfl, row, r, rfl, by omega, by simpa using h2⟩

theorem clone_spec (hp : ∀ f d, pol.lit f d = false) (hs : sums 18 = none) {n : Nat} (hn : 1 ≤ n) {h : Hp} {id ver len : Nat} {fix : Bool} {l : List Int} (o : RowInts h id ver 0 fix len l) (hl : l ≠ []) (hb : l.length < 2 ^ 40) :
    Runs (qat Try.prog pol sums n (.func (.func 18) [] []) [.own id ver 0 l.length]) h (fun v h' => Keep h h' ∧ ∃ id' ver' fix' len', v = .own id' ver' 0 l.length ∧ h.next ≤ id' ∧ RowInts h' id' ver' 0 fix' len' l) := by
  obtain ⟨n, rfl⟩ : ∃ m, n = m + 1 := ⟨n - 1, by omega⟩
  refine qb9 (by assumption) Try.func18 rfl (by simp [Try.f18]) ?_
  have a0 : qay (qah Try.f18.ntmps (([] ++ [.own id ver 0 l.length] ++ []) : List AV)) 0 = .own id ver 0 l.length := qaf rfl
  generalize qah Try.f18.ntmps (([] ++ [.own id ver 0 l.length] ++ []) : List AV) = T at *
  show Runs (qaw _ _ _ _ 8 _ _ _) _ _
  refine goP ?_
  obtain ⟨row, r1, r2⟩ := o
  apply O_eqNil
  · exact evP
  · exact evP
  · exact .inl ⟨rfl, rfl⟩
  · exact .inl ⟨_, _, _, _, _, _, _, rfl, r1, rfl⟩
  refine goP ?_
  apply qa9 false
  · exact evP
  · intro c; cases c
  intro _
  refine goP ?_
  apply qbl
  · exact qbv
  · rfl
  · rfl
  · exact hp _ _
  intro _
  refine goP ?_
  apply O_append (new := ints l) (m := l.length) (bytes := 8)
  · exact qai (by exact evP) (qai (by exact evP) qas)
  · exact SlV.imm _ _ _ rfl
  · rfl
  · exact RowInts.slv ⟨row, r1, r2⟩
  · exact ints_ones l
  · rfl
  · simp only [room]; omega
  intro v g kb s g1 kv hv
  have k : Keep h g := kb.none fun i hi => by cases hi
  refine ⟨k.undis, ?_⟩
  have hlp : 0 < l.length := List.length_pos_iff.2 hl
  have s' : Ints g v l := by
    have : SlV g 1 v (0 + l.length) ([] ++ ints l) := s
    simpa using this
  obtain ⟨id', ver', fix', len', rfl, ro⟩ := s'.rowInts (hv hlp) g1
  refine goP ?_
  (apply qav rfl; exact tgP)
  refine ⟨k, id', ver', fix', len', rfl, ?_, ro⟩
  rcases kv id' (by simp [qa4]) with q | q
  · cases q
  · exact q.1

/-! ### the planner -/
abbrev plC (mid : Nat) (x : Sts) (lv pv left : AV) : List AV := [.mapv mid, .int .i64 x.tri, .int .i64 x.sub, .int .i64 x.pre, .int .i64 x.obj, lv, pv, left]
structure PlAt (g : Hp) (pid mid c : Nat) (known : List Str) (x : Sts) (lv : AV) (pats : List Ptn) (pv left : AV) : Prop where
  row : Row g pid 0 8 (plC mid x lv pv left) true
  kn : KnownAt g mid c known
  li : Rows linC 7 g lv x.lines
  pa : Rows qcd 15 g pv pats
theorem PlAt.keep {g g1 : Hp} {pid mid c : Nat} {known : List Str} {x : Sts} {lv : AV} {pats : List Ptn} {pv left : AV} (a : PlAt g pid mid c known x lv pats pv left) (k : Keep g g1) : PlAt g1 pid mid c known x lv pats pv left :=
  ⟨a.row.keep k, a.kn.keep k, a.li.keep k, a.pa.keep k⟩

def farZ (known : List Str) (p : Ptn) : Bool := (qa1 known p).length == 0 && decide (0 < (fresh known p).length)
theorem far_spec (hp : ∀ f d, pol.lit f d = false) (hs : sums 70 = none) (hs3 : sums 48 = none) (hs' : sums 27 = none) (hs0 : sums 55 = none) (hs1 : sums 71 = none) (hs2 : sums 67 = some qbp) {n : Nat} (hn : 11 ≤ n) {h : Hp} {i1 pid mid c : Nat} {known : List Str} {x : Sts} {lv : AV} {pats : List Ptn} {pv left : AV}
    (a : PlAt h pid mid c known x lv pats pv left) (r1 : Row h i1 0 1 [.ptr pid 0 0] true) {i : Nat} (hi : i < pats.length) :
    Runs (qat Try.prog pol sums n (.func (.func 70) [] [.ptr i1 0 0]) [.int .i64 (i : Nat)]) h (fun v h' => Keep h h' ∧ v = .bool (farZ known pats[i])) := by
  obtain ⟨n, rfl⟩ : ∃ m, n = m + 1 := ⟨n - 1, by omega⟩
  refine qb9 (by assumption) Try.func70 rfl (by simp [Try.f70]) ?_
  have a0 : qay (qah Try.f70.ntmps (([] ++ [.int .i64 (i : Nat)] ++ [.ptr i1 0 0]) : List AV)) 0 = .int .i64 (i : Nat) := qaf rfl
  have a1 : qay (qah Try.f70.ntmps (([] ++ [.int .i64 (i : Nat)] ++ [.ptr i1 0 0]) : List AV)) 1 = .ptr i1 0 0 := qaf rfl
  generalize qah Try.f70.ntmps (([] ++ [.int .i64 (i : Nat)] ++ [.ptr i1 0 0]) : List AV) = T at *
  show Runs (qaw _ _ _ _ 29 _ _ _) _ _
  have r2 := a.row
  refine goP ?_
  (refine R_drawn [0, 1, 2, 3, 4, 5, 6, 7, 8, 9, 10, 11, 12, 13, 14, 15, 16] [0, 1, 3, 7, 0, 16, 48, 112, 0, 496, 1008, 2047, 4095, 8191, 8191, 16383, 65535] (by kernel_rfl) (by kernel_rfl) (by rfl) ?_; dsimp only [qci, List.map, List.getElem?_cons_zero, List.getElem?_cons_succ])
  refine goP ?_
  apply qau (n := 1)
  · exact evP
  · exact r2
  · rfl
  · exact rfl
  refine goP ?_
  apply qax
  · exact evP
  · exact a.pa
  · exact evP
  · exact hi
  · rfl
  intro p hat _
  rw [flat_at ptnC_len hi] at hat
  apply qcf
  · exact evP
  · exact hat
  · rfl
  (apply qbn; exact evP; (repeat (apply qai; exact evP)); exact qas)
  refine (parts_spec hp hs3 hs' hs0 hs1 hs2 (by omega) a.kn pats[i]).mono ?_
  rintro v g1 ⟨k1, sv, fv, rfl, s1, s2⟩
  refine ⟨k1.undis, ?_⟩
  refine goP ?_
  cases hv : (((qa1 known pats[i]).length : Int) == 0) with
  | true =>
    refine goP ?_
    (apply qav rfl; exact tgP)
    have e : (qa1 known pats[i]).length = 0 := by simpa using hv
    refine ⟨k1, ?_⟩
    simp [farZ, e]
  | false =>
    refine goP ?_
    (apply qav rfl; exact tgP)
    have e : (qa1 known pats[i]).length ≠ 0 := by simpa using hv
    refine ⟨k1, ?_⟩
    simp [farZ, e]
end Go.Am
namespace Go.Am
open Go Go.Proofs AM
set_option maxRecDepth 10000
variable {pol : Pol} {sums : Sums}
attribute [local irreducible] KSeq KMid KBlock KLoop KOps KFunc Runs qbq qaw aopsM aop qat qay qa2 qa2? qaj qa8 qah

/-- the machine has the summaries of two functions; all others are run -/
structure S27 (pol : Pol) (sums : Sums) : Prop where
  lit : ∀ f d, pol.lit f d = false
  has : sums 67 = some qbp
  rest : ∀ f, f ∉ [6, 41, 13, 46, 49, 67, 73] → sums f = none

theorem deleteFunc_spec' (S : S27 pol sums) {n : Nat} (F : AV) (R : Int → Bool → Prop) {h : Hp} {id ver off len : Nat} {fix : Bool} {l : List Int} (hn : l.length + 3 ≤ n) (o : RowInts h id ver off fix len l) (hb : l.length < 2 ^ 62)
    (hF : ∀ m h1, n ≤ m + 2 → KeepBut (· = id) h h1 → ∀ e ∈ l, Runs (qat Try.prog pol sums m F [.int .i64 e]) h1 fun v h2 => ∃ b, v = .bool b ∧ R e b ∧ Keep h1 h2) :
    Runs (qat Try.prog pol sums n (.func (.func 24) [] []) [.own id ver off l.length, F]) h (fun v h' => KeepBut (· = id) h h' ∧ ∃ l', v = .own id ver off l'.length ∧ Filt R l l' ∧ RowInts h' id ver off fix len l') := by
  obtain ⟨n, rfl⟩ : ∃ m, n = m + 1 := ⟨n - 1, by omega⟩
  exact deleteFunc_spec (S.rest _ (by decide)) (S.rest _ (by decide)) n F R o (by omega) hb (fun m h1 hm => hF m h1 (by omega))

def zs (l : List Nat) : List Int := l.map fun (i : Nat) => (i : Int)
@[simp] theorem qa7 (l : List Nat) : (zs l).length = l.length := by simp [zs]
def farI (known : List Str) (pats : List Ptn) (e : Int) : Bool := match pats[e.toNat]? with
  | some p => farZ known p
  | none => false
def nearZ (known : List Str) (pats : List Ptn) (left : List Nat) : List Nat :=
  let l := left.filter fun (i : Nat) => !(farI known pats (i : Int))
  if l.length = 0 ∨ left.length = pats.length then left else l

theorem RowInts.keepBut {X : Nat → Prop} {h h1 : Hp} {id ver off len : Nat} {fix : Bool} {l : List Int} (o : RowInts h id ver off fix len l) (k : KeepBut X h h1) (hx : ¬ X id) : RowInts h1 id ver off fix len l := by
  obtain ⟨row, h1, h2⟩ := o
  exact ⟨row, h1.keepBut k hx, h2⟩
theorem RowInts.lt {h : Hp} {id ver off len : Nat} {fix : Bool} {l : List Int} (o : RowInts h id ver off fix len l) (w : h.WF) : id < h.next := by
  obtain ⟨row, h1, h2⟩ := o
  exact h1.lt w

theorem near_spec (S : S27 pol sums) {n : Nat} {h : Hp} {pid mid c lid lver len : Nat} {fix : Bool} {known : List Str} {x : Sts} {lv : AV} {pats : List Ptn} {pv : AV} {left : List Nat} (hn : pats.length + 20 ≤ n) (hb : pats.length < 2 ^ 40)
    (a : PlAt h pid mid c known x lv pats pv (.own lid lver 0 left.length)) (o : RowInts h lid lver 0 fix len (zs left)) (hl : left ≠ []) (hlp : ∀ i ∈ left, i < pats.length) (hll : left.length ≤ pats.length) :
    Runs (qat Try.prog pol sums n (.func (.func 53) [] []) [.ptr pid 0 0]) h (fun v h' => Keep h h' ∧ Ints h' v (zs (nearZ known pats left))) := by
  apply Runs.wf
  intro w
  have S' := S.rest
  have s53 : sums 53 = none := S' _ (by decide)
  obtain ⟨n, rfl⟩ : ∃ m, n = m + 1 := ⟨n - 1, by omega⟩
  refine qb9 (by assumption) Try.func53 rfl (by simp [Try.f53]) ?_
  have a0 : qay (qah Try.f53.ntmps (([] ++ [.ptr pid 0 0] ++ []) : List AV)) 0 = .ptr pid 0 0 := qaf rfl
  generalize qah Try.f53.ntmps (([] ++ [.ptr pid 0 0] ++ []) : List AV) = T at *
  show Runs (qaw _ _ _ _ 34 _ _ _) _ _
  refine goP ?_
  apply O_box
  · exact evP
  · rfl
  intro g1 i1 k1 r1 l1 l2
  change Row g1 i1 0 _ [.ptr pid 0 0] true at r1
  replace a := a.keep k1
  replace o := o.keep k1
  refine goP ?_
  apply O_makeFunc (l1 := []) (l2 := [.ptr i1 0 0])
  · exact qas
  · exact qai (by exact evP) qas
  have ra := a.row
  refine goP ?_
  (apply qbn; exact evP; (repeat (apply qai; exact evP)); exact qas)
  have hzl : (zs left).length = left.length := qa7 left
  apply Runs.wf
  intro w1
  rw [← hzl] at a ⊢
  refine (clone_spec S.lit (S' _ (by decide)) (by omega) o (by simpa [zs] using hl) (by omega)).mono ?_
  rintro v g2 ⟨k2, cid, cver, cfix, clen, rfl, lc, oc⟩
  refine ⟨Undis.off rfl, ?_⟩
  refine goP ?_
  (apply qbn; exact evP; (repeat (apply qai; exact evP)); exact qas)
  have hcid : ∀ i, i = cid → g1.get i = none := fun i hi => by subst hi; exact w1.get lc
  have hloc : ∀ i ∈ left, ∀ (hi : i < pats.length), farI known pats (i : Int) = farZ known pats[i] := fun i _ hi => by simp [farI, hi]
  refine (deleteFunc_spec' S _ (fun e b => b = farI known pats e) (by omega) oc (by omega) ?_).mono ?_
  · intro m g3 hm kb e he
    obtain ⟨i, hi, rfl⟩ := List.mem_map.1 he
    have hip := hlp i hi
    have k3 : Keep g1 g3 := KeepBut.keep k2 kb hcid
    refine (far_spec S.lit (S' _ (by decide)) (S' _ (by decide)) (S' _ (by decide)) (S' _ (by decide)) (S' _ (by decide)) S.has (by omega) (a.keep k3) (r1.keep k3) hip).mono ?_
    rintro v g4 ⟨k4, rfl⟩
    exact ⟨_, rfl, (hloc i hi hip).symm, k4⟩
  rintro v g3 ⟨kb3, l', rfl, hf, o3⟩
  refine ⟨Undis.off rfl, ?_⟩
  have k3 : Keep g1 g3 := KeepBut.keep k2 kb3 hcid
  have hl' : l' = zs (left.filter fun (i : Nat) => !(farI known pats (i : Int))) := by
    rw [hf.done (farI known pats) (fun e b h => h)]
    simp only [zs, List.filter_map]
    rfl
  have ss : Ints g3 (.own cid cver 0 l'.length) l' := o3.slv
  have hnl : l'.length = (left.filter fun (i : Nat) => !(farI known pats (i : Int))).length := by rw [hl', qa7]
  generalize hfl : (left.filter fun (i : Nat) => !(farI known pats (i : Int))) = fl at *
  have hnz : nearZ known pats left = if fl.length = 0 ∨ left.length = pats.length then left else fl := by simp only [nearZ, hfl]
  replace r1 := r1.keep k3
  replace a := a.keep k3
  replace o := o.keep k3
  have ra := a.row
  have so : Ints g3 (.own lid lver 0 (zs left).length) (zs left) := o.slv
  have sp := a.pa
  refine goP ?_
  (refine R_drawn [0, 1, 2, 3, 4, 5, 6, 7, 8, 9, 10, 11, 12, 13, 14, 15] [0, 1, 3, 7, 15, 31, 63, 127, 255, 15, 527, 1551, 3599, 7695, 16383, 32767] (by kernel_rfl) (by kernel_rfl) (by rfl) ?_; dsimp only [qci, List.map, List.getElem?_cons_zero, List.getElem?_cons_succ])
  refine goP ?_
  cases hv : ((l'.length : Int) == 0) with
  | true =>
    have e : fl.length = 0 := by
      have : l'.length = 0 := by simpa using hv
      omega
    refine goP ?_
    apply qa9 true
    · exact evP
    · intro _
      refine goP ?_
      (apply qav rfl; exact tgP)
      refine ⟨k1.trans k3, ?_⟩
      rw [hnz, if_pos (.inl e)]
      exact so
    · intro c; cases c
  | false =>
    have e : fl.length ≠ 0 := by
      have : l'.length ≠ 0 := by simpa using hv
      omega
    refine goP ?_
    apply qa9 (((zs left).length : Int) == (pats.length : Int))
    · exact evP
    · intro c
      have c : left.length = pats.length := by simp at c; omega
      refine goP ?_
      (apply qav rfl; exact tgP)
      refine ⟨k1.trans k3, ?_⟩
      rw [hnz, if_pos (.inr c)]
      exact so
    · intro c
      have c : left.length ≠ pats.length := by simp at c; omega
      refine goP ?_
      (apply qav rfl; exact tgP)
      refine ⟨k1.trans k3, ?_⟩
      rw [hnz, if_neg (by omega), ← hl']
      exact ss
end Go.Am
namespace Go.Am
open Go Go.Proofs AM
set_option maxRecDepth 10000
variable {pol : Pol} {sums : Sums}

/-- what the machine takes for known's list: the keys, in no order -/
def listSum : List AV → AM AV
  | [.agg [.mapv id]] => do
    let es ← mapOf id
    AM.guard (Nat.blt es.length 1099511627776 && es.all fun e => match e.1 with | .str _ => true | _ => false)
    pure (.bag (es.map (·.1)))
  | _ => AM.fail
attribute [local irreducible] KSeq KMid KBlock KLoop KOps KFunc Runs qbq qaw aopsM aop qat qay qa2 qa2? qaj qa8 qah
theorem list_spec (hs : sums 49 = some listSum) {n : Nat} (hn : 1 ≤ n) {h : Hp} {mid c : Nat} {l : List Str} (m : KnownAt h mid c l) (hb : l.length < 2 ^ 40) :
    Runs (qat Try.prog pol sums n (.func (.func 49) [] []) [.agg [.mapv mid]]) h (fun r h' => h = h' ∧ r = .bag (strs l)) := by
  obtain ⟨n, rfl⟩ : ∃ m, n = m + 1 := ⟨n - 1, by omega⟩
  refine R_sum hs ?_
  obtain ⟨es, ⟨v, st, ho⟩, hc, _⟩ := m
  have hel : es.length = l.length := by have := congrArg List.length hc; simpa using this
  have hg : (Nat.blt es.length 1099511627776 && es.all fun e => match e.1 with | .str _ => true | _ => false) = true := by
    simp only [Bool.and_eq_true, Nat.blt_eq, List.all_eq_true]
    refine ⟨by omega, fun e he => ?_⟩
    have : e.1 ∈ strs l := by rw [← hc]; exact List.mem_map_of_mem he
    obtain ⟨s, _, hs⟩ := List.mem_map.1 this
    rw [← hs]
  refine Runs.of (h' := h) (a := .bag (es.map (·.1))) ?_ ⟨rfl, by rw [hc]⟩
  simp only [List.nil_append, List.append_nil, listSum, mapOf, run_bind, AM.hget, ho]
  simp only [run_pure]
  rw [hg]
  rfl

def cmpZ (x : Sts) (pats : List Ptn) (known : List Str) (a b : Int) : Int :=
  match pats[a.toNat]?, pats[b.toNat]? with
  | some p, some q => if qb6 x p known = qb6 x q known then a - b else if qb6 x p known < qb6 x q known then -1 else 1
  | _, _ => 0
theorem cmp_spec (S : S27 pol sums) {n : Nat} {h : Hp} {i1 i4 pid mid c : Nat} {known : List Str} {x : Sts} {lv : AV} {pats : List Ptn} {pv left : AV} (hn : x.lines.length + 6 ≤ n) (hb : x.lines.length < 2 ^ 40) (hb1 : known.length < 2 ^ 40) (hb2 : pats.length < 2 ^ 40)
    (a : PlAt h pid mid c known x lv pats pv left) (r1 : Row h i1 0 1 [.ptr pid 0 0] true) (r4 : Row h i4 0 1 [.bag (strs known)] true) {i j : Nat} (hi : i < pats.length) (hj : j < pats.length) :
    Runs (qat Try.prog pol sums n (.func (.func 50) [] [.ptr i1 0 0, .ptr i4 0 0]) [.int .i64 (i : Nat), .int .i64 (j : Nat)]) h (fun v h' => Keep h h' ∧ v = .int .i64 (cmpZ x pats known (i : Nat) (j : Nat))) := by
  have S' := S.rest
  have s50 : sums 50 = none := S' _ (by decide)
  obtain ⟨n, rfl⟩ : ∃ m, n = m + 1 := ⟨n - 1, by omega⟩
  refine qb9 (by assumption) Try.func50 rfl (by simp [Try.f50]) ?_
  have a0 : qay (qah Try.f50.ntmps (([] ++ [.int .i64 (i : Nat), .int .i64 (j : Nat)] ++ [.ptr i1 0 0, .ptr i4 0 0]) : List AV)) 0 = .int .i64 (i : Nat) := qaf rfl
  have a1 : qay (qah Try.f50.ntmps (([] ++ [.int .i64 (i : Nat), .int .i64 (j : Nat)] ++ [.ptr i1 0 0, .ptr i4 0 0]) : List AV)) 1 = .int .i64 (j : Nat) := qaf rfl
  have a2 : qay (qah Try.f50.ntmps (([] ++ [.int .i64 (i : Nat), .int .i64 (j : Nat)] ++ [.ptr i1 0 0, .ptr i4 0 0]) : List AV)) 2 = .ptr i1 0 0 := qaf rfl
  have a3 : qay (qah Try.f50.ntmps (([] ++ [.int .i64 (i : Nat), .int .i64 (j : Nat)] ++ [.ptr i1 0 0, .ptr i4 0 0]) : List AV)) 3 = .ptr i4 0 0 := qaf rfl
  generalize qah Try.f50.ntmps (([] ++ [.int .i64 (i : Nat), .int .i64 (j : Nat)] ++ [.ptr i1 0 0, .ptr i4 0 0]) : List AV) = T at *
  show Runs (qaw _ _ _ _ 44 _ _ _) _ _
  have r2 := a.row
  refine goP ?_
  (refine R_drawn [0, 1, 2, 3, 4, 5, 6, 7, 8, 9, 10, 11, 13, 14, 15, 16, 17, 18, 19, 20, 21, 22, 23, 24, 12, 25, 26, 27] [0, 1, 3, 7, 0, 16, 48, 112, 0, 496, 1008, 0, 4095, 0, 8192, 24576, 57344, 0, 131072, 393216, 917504, 0, 4063232, 8257536, 0, 33554431, 67108863, 134217727] (by kernel_rfl) (by kernel_rfl) (by rfl) ?_; dsimp only [qci, List.map, List.getElem?_cons_zero, List.getElem?_cons_succ])
  refine goP ?_
  apply qau (n := 5)
  · exact evP
  · exact r2
  · rfl
  · exact rfl
  refine goP ?_
  apply qax
  · exact evP
  · exact a.pa
  · exact evP
  · exact hi
  · rfl
  intro p hat _
  rw [flat_at ptnC_len hi] at hat
  apply qcf
  · exact evP
  · exact hat
  · rfl
  refine goP ?_
  apply qau (n := 5)
  · exact evP
  · exact r2
  · rfl
  · exact rfl
  refine goP ?_
  apply qax
  · exact evP
  · exact a.pa
  · exact evP
  · exact hj
  · rfl
  intro p2 hat2 _
  rw [flat_at ptnC_len hj] at hat2
  apply qcf
  · exact evP
  · exact hat2
  · rfl
  refine goP ?_
  (apply qbn; exact evP; (repeat (apply qai; exact evP)); exact qas)
  refine (guess_spec (S' _ (by decide)) (S' _ (by decide)) S.has (S' _ (by decide)) (S' _ (by decide)) (by omega) a.li (.inr rfl) (by omega) (by omega) pats[i]).mono ?_
  rintro v g1 ⟨k1, rfl⟩
  refine ⟨k1.undis, ?_⟩
  replace a := a.keep k1
  (apply qbn; exact evP; (repeat (apply qai; exact evP)); exact qas)
  refine (guess_spec (S' _ (by decide)) (S' _ (by decide)) S.has (S' _ (by decide)) (S' _ (by decide)) (by omega) a.li (.inr rfl) (by omega) (by omega) pats[j]).mono ?_
  rintro v g2 ⟨k2, rfl⟩
  refine ⟨k2.undis, ?_⟩
  have hz : cmpZ x pats known (i : Nat) (j : Nat) = if qb6 x pats[i] known = qb6 x pats[j] known then (i : Int) - (j : Int) else if qb6 x pats[i] known < qb6 x pats[j] known then -1 else 1 := by
    simp [cmpZ, hi, hj]
  rw [hz]
  generalize qb6 x pats[i] known = u
  generalize qb6 x pats[j] known = v
  refine goP ?_
  apply qa9 (u == v)
  · exact evP
  · intro e
    have e : u = v := by simpa using e
    refine goP ?_
    (apply qav rfl; exact tgP)
    exact ⟨k1.trans k2, by rw [if_pos e]⟩
  · intro e
    have e : ¬ u = v := by simpa using e
    rw [if_neg e]
    refine goP ?_
    apply qa9 (decide (u < v))
    · exact evP
    · intro e
      have e : u < v := by simpa using e
      refine goP ?_
      (apply qav rfl; exact tgP)
      exact ⟨k1.trans k2, by rw [if_pos e]⟩
    · intro e
      have e : ¬ u < v := by simpa using e
      refine goP ?_
      (apply qav rfl; exact tgP)
      exact ⟨k1.trans k2, by rw [if_neg e]⟩

def opZ (x : Sts) (known : List Str) (p : Ptn) : Int :=
  if (qa1 known p).length = 0 then 1 else if qb6 x p [] ≤ 64 then 2 else if (qa1 known p).length = 1 then 3 else 1
def pickZ (x : Sts) (pats : List Ptn) (known : List Str) (left : List Nat) : Int := match nearZ known pats left with
  | [] => 0
  | a :: l => minZ (cmpZ x pats known) (a : Int) (zs l)
theorem nearZ_mem {known : List Str} {pats : List Ptn} {left : List Nat} {i : Nat} (h : i ∈ nearZ known pats left) : i ∈ left := by
  unfold nearZ at h
  dsimp only at h
  split at h
  · exact h
  · exact (List.mem_filter.1 h).1
theorem nearZ_ne {known : List Str} {pats : List Ptn} {left : List Nat} (h : left ≠ []) : nearZ known pats left ≠ [] := by
  unfold nearZ
  dsimp only
  split
  · exact h
  · rename_i c
    intro e
    exact c (.inl (by rw [e]; rfl))
theorem nearZ_length (known : List Str) (pats : List Ptn) (left : List Nat) : (nearZ known pats left).length ≤ left.length := by
  unfold nearZ
  dsimp only
  split
  · exact Nat.le_refl _
  · exact List.length_filter_le _ _
theorem pickZ_mem {x : Sts} {pats : List Ptn} {known : List Str} {left : List Nat} (h : left ≠ []) : ∃ i ∈ left, pickZ x pats known left = (i : Int) := by
  unfold pickZ
  have h2 := nearZ_ne (known := known) (pats := pats) h
  have h3 : ∀ {i}, i ∈ nearZ known pats left → i ∈ left := fun {i} => nearZ_mem
  generalize nearZ known pats left = nl at *
  cases nl with
  | nil => exact absurd rfl h2
  | cons a l =>
    rcases minZ_mem (cmpZ x pats known) (zs l) (a : Int) with q | q
    · exact ⟨a, h3 List.mem_cons_self, q⟩
    · obtain ⟨i, hi, e⟩ := List.mem_map.1 q
      exact ⟨i, h3 (List.mem_cons_of_mem _ hi), e.symm⟩

theorem next_spec (S : S27 pol sums) (sl : sums 49 = some listSum) {n : Nat} {h : Hp} {pid mid c lid lver len : Nat} {fix : Bool} {known : List Str} {x : Sts} {lv : AV} {pats : List Ptn} {pv : AV} {left : List Nat} (hn : pats.length + x.lines.length + 30 ≤ n) (hb : pats.length < 2 ^ 40) (hbx : x.lines.length < 2 ^ 40) (hbk : known.length < 2 ^ 40)
    (a : PlAt h pid mid c known x lv pats pv (.own lid lver 0 left.length)) (o : RowInts h lid lver 0 fix len (zs left)) (hl : left ≠ []) (hlp : ∀ i ∈ left, i < pats.length) (hll : left.length ≤ pats.length) :
    Runs (qat Try.prog pol sums n (.func (.func 23) [] []) [.ptr pid 0 0]) h (fun v h' => Keep h h' ∧ ∃ i, ∃ (hi : i < pats.length), i ∈ left ∧ pickZ x pats known left = (i : Int) ∧ v = .tuple [.int .i64 (i : Int), .int .i64 (opZ x known pats[i])]) := by
  have S' := S.rest
  have s23 : sums 23 = none := S' _ (by decide)
  obtain ⟨n, rfl⟩ : ∃ m, n = m + 1 := ⟨n - 1, by omega⟩
  refine qb9 (by assumption) Try.func23 rfl (by simp [Try.f23]) ?_
  have a0 : qay (qah Try.f23.ntmps (([] ++ [.ptr pid 0 0] ++ []) : List AV)) 0 = .ptr pid 0 0 := qaf rfl
  generalize qah Try.f23.ntmps (([] ++ [.ptr pid 0 0] ++ []) : List AV) = T at *
  show Runs (qaw _ _ _ _ 60 _ _ _) _ _
  refine goP ?_
  apply O_box
  · exact evP
  · rfl
  intro g1 i1 k1 r1 l1 l2
  change Row g1 i1 0 _ [.ptr pid 0 0] true at r1
  replace a := a.keep k1
  replace o := o.keep k1
  have ra := a.row
  refine goP ?_
  apply qau (n := 1)
  · exact evP
  · exact ra
  · rfl
  · exact rfl
  (apply qbn; exact evP; (repeat (apply qai; exact evP)); exact qas)
  refine (list_spec sl (by omega) a.kn hbk).mono ?_
  rintro v g2 ⟨rfl, rfl⟩
  refine ⟨Undis.off rfl, ?_⟩
  apply O_wf
  intro w1
  apply O_alloc
  intro g2 i4 k2 r4 l3 l4
  apply qb0
  · exact evP
  · exact evP
  · exact r4
  · rfl
  intro g3 kb3 r4
  refine ⟨Undis.off rfl, ?_⟩
  change Row g3 i4 0 1 [.bag (strs known)] true at r4
  have k3 : Keep g1 g3 := KeepBut.keep k2 kb3 fun i hi => w1.get (by omega)
  replace r1 := r1.keep k3
  replace a := a.keep k3
  replace o := o.keep k3
  have kk := k1.trans k3
  refine goP ?_
  apply O_makeFunc (l1 := []) (l2 := [.ptr i1 0 0, .ptr i4 0 0])
  · exact qas
  · exact qai (by exact evP) (qai (by exact evP) qas)
  refine goP ?_
  (apply qbn; exact evP; (repeat (apply qai; exact evP)); exact qas)
  refine (near_spec S (by omega) hb a o hl hlp hll).mono ?_
  rintro nv g4 ⟨k4, sn⟩
  refine ⟨Undis.off rfl, ?_⟩
  replace r1 := r1.keep k4
  replace r4 := r4.keep k4
  replace a := a.keep k4
  replace kk := kk.trans k4
  obtain ⟨i, hil, hi⟩ := pickZ_mem (x := x) (pats := pats) (known := known) hl
  have hip := hlp i hil
  have hnm : ∀ j ∈ nearZ known pats left, j < pats.length := fun j hj => hlp j (nearZ_mem hj)
  have hne := nearZ_ne (known := known) (pats := pats) hl
  have hnl := nearZ_length known pats left
  have hpz : pickZ x pats known left = match nearZ known pats left with
    | [] => 0
    | a :: l => minZ (cmpZ x pats known) (a : Int) (zs l) := rfl
  rw [hi] at hpz
  generalize nearZ known pats left = nl at *
  cases nl with
  | nil => exact absurd rfl hne
  | cons b l =>
  simp only [List.length_cons] at hnl
  refine goP ?_
  (apply qbn; exact evP; (repeat (apply qai; exact evP)); exact qas)
  refine (minFunc_spec (S' _ (by decide)) _ (cmpZ x pats known) (a := (b : Int)) (l := zs l) (by simp; omega) sn (by simp; omega) ?_).mono ?_
  · intro m g5 hm k5 e he e' he'
    have hz : ∀ e ∈ (b : Int) :: zs l, ∃ j : Nat, e = (j : Int) ∧ j < pats.length := by
      intro e he
      rcases List.mem_cons.1 he with rfl | he
      · exact ⟨b, rfl, hnm b List.mem_cons_self⟩
      · obtain ⟨j, hj, rfl⟩ := List.mem_map.1 he
        exact ⟨j, rfl, hnm j (List.mem_cons_of_mem _ hj)⟩
    obtain ⟨j, rfl, hj⟩ := hz e he
    obtain ⟨j', rfl, hj'⟩ := hz e' he'
    exact cmp_spec S (by omega) hbx hbk hb (a.keep k5) (r1.keep k5) (r4.keep k5) hj hj'
  rintro v g5 ⟨k5, rfl⟩
  refine ⟨Undis.off rfl, ?_⟩
  replace r1 := r1.keep k5
  replace a := a.keep k5
  replace kk := kk.trans k5
  change (i : Int) = minZ (cmpZ x pats known) (b : Int) (zs l) at hpz
  rw [← hpz]
  have ra := a.row
  refine goP ?_
  (refine R_drawn [0, 1, 2, 3, 4, 5, 6, 7, 8, 9, 10, 11, 12, 13, 14, 15, 16] [0, 1, 3, 7, 0, 16, 48, 112, 0, 496, 1008, 2047, 4095, 8191, 8191, 16383, 65535] (by kernel_rfl) (by kernel_rfl) (by rfl) ?_; dsimp only [qci, List.map, List.getElem?_cons_zero, List.getElem?_cons_succ])
  refine goP ?_
  apply qau (n := 1)
  · exact evP
  · exact ra
  · rfl
  · exact rfl
  refine goP ?_
  apply qax
  · exact evP
  · exact a.pa
  · exact evP
  · exact hip
  · rfl
  intro p hat _
  rw [flat_at ptnC_len hip] at hat
  apply qcf
  · exact evP
  · exact hat
  · rfl
  (apply qbn; exact evP; (repeat (apply qai; exact evP)); exact qas)
  refine (parts_spec S.lit (S' _ (by decide)) (S' _ (by decide)) (S' _ (by decide)) (S' _ (by decide)) S.has (by omega) a.kn pats[i]).mono ?_
  rintro v g6 ⟨k6, sv, fv, rfl, s1, s2⟩
  refine ⟨k6.undis, ?_⟩
  replace r1 := r1.keep k6
  replace a := a.keep k6
  replace kk := kk.trans k6
  have ra := a.row
  refine goP ?_
  apply qa9 (((qa1 known pats[i]).length : Int) == 0)
  · exact evP
  · intro e
    have e : (qa1 known pats[i]).length = 0 := by simp at e; simp [e]
    refine goP ?_
    apply R_results2 rfl
    · exact tgP
    · exact tgP
    exact ⟨kk, i, hip, hil, hi, by rw [opZ, if_pos e]⟩
  intro e
  have e : ¬ (qa1 known pats[i]).length = 0 := by simp at e; simp [e]
  refine goP ?_
  (refine R_drawn [0, 1, 2, 3, 4, 5, 6, 7, 8, 9, 10, 11, 12, 13] [0, 1, 3, 7, 0, 16, 48, 112, 0, 496, 1008, 2047, 4095, 8191] (by kernel_rfl) (by kernel_rfl) (by rfl) ?_; dsimp only [qci, List.map, List.getElem?_cons_zero, List.getElem?_cons_succ])
  refine goP ?_
  apply qau (n := 5)
  · exact evP
  · exact ra
  · rfl
  · exact rfl
  refine goP ?_
  apply qax
  · exact evP
  · exact a.pa
  · exact evP
  · exact hip
  · rfl
  intro p hat _
  rw [flat_at ptnC_len hip] at hat
  apply qcf
  · exact evP
  · exact hat
  · rfl
  (apply qbn; exact evP; (repeat (apply qai; exact evP)); exact qas)
  refine (guess_spec (known := []) (S' _ (by decide)) (S' _ (by decide)) S.has (S' _ (by decide)) (S' _ (by decide)) (by omega) a.li (.inl SlV.nil) (by omega) (by simp) pats[i]).mono ?_
  rintro v g7 ⟨k7, rfl⟩
  refine ⟨k7.undis, ?_⟩
  replace r1 := r1.keep k7
  replace a := a.keep k7
  replace kk := kk.trans k7
  replace s1 := s1.keep k7
  refine goP ?_
  apply qa9 (decide (qb6 x pats[i] [] ≤ 64))
  · exact evP
  · intro e2
    have e2 : qb6 x pats[i] [] ≤ 64 := by simpa using e2
    refine goP ?_
    apply R_results2 rfl
    · exact tgP
    · exact tgP
    exact ⟨kk, i, hip, hil, hi, by rw [opZ, if_neg e, if_pos e2]⟩
  intro e2
  have e2 : ¬ qb6 x pats[i] [] ≤ 64 := by simpa using e2
  refine goP ?_
  apply qa9 (((qa1 known pats[i]).length : Int) == 1)
  · exact evP
  · intro e3
    have e3 : (qa1 known pats[i]).length = 1 := by simp at e3; omega
    refine goP ?_
    apply R_results2 rfl
    · exact tgP
    · exact tgP
    exact ⟨kk, i, hip, hil, hi, by rw [opZ, if_neg e, if_neg e2, if_pos e3]⟩
  · intro e3
    have e3 : ¬ (qa1 known pats[i]).length = 1 := by simp at e3; omega
    refine goP ?_
    apply R_results2 rfl
    · exact tgP
    · exact tgP
    exact ⟨kk, i, hip, hil, hi, by rw [opZ, if_neg e, if_neg e2, if_neg e3]⟩
end Go.Am
namespace Go.Am
open Go Go.Proofs AM
set_option maxRecDepth 10000
variable {pol : Pol} {sums : Sums}

theorem KeepBut.undis {X : Nat → Prop} {R : Rg} {seen : Seen} {i : Nat} {h h1 : Hp} (k : KeepBut X h h1) (hs : ∀ s ∈ seen, ∀ x ∈ s.2, ¬ X x.2) : Undis R seen i h h1 := fun _ s a ha => .inr fun x hx => by
  obtain ⟨o, ho⟩ := Option.isSome_iff_exists.1 (s a ha x hx)
  rw [ho]; exact k.same _ _ (hs a ha x hx) ho

theorem KBlock.mono {id : Nat} {Q Q' : Exit × qag → Hp → Prop} {x : Exit × qag} {h : Hp} (k : KBlock id Q x h) (q : ∀ x h, Q x h → Q' x h) : KBlock id Q' x h := by
  obtain ⟨e, T⟩ := x
  cases e <;> first | exact q _ _ k | skip
  rename_i id'
  change ite _ _ _ at k
  show ite _ _ _
  split
  · rename_i c; rw [if_pos c] at k; exact q _ _ k
  · rename_i c; rw [if_neg c] at k; exact q _ _ k
theorem R_midB {P : Program} {call : qa6} {fn nt fuel id : Nat} {c rest : Code} {T : qag} {h : Hp} {Q : Exit × qag → Hp → Prop} (Mid : qag → Hp → Prop) (r1 : Runs (qaw P pol call fn nt fuel c T) h (KBlock id (KMid Mid Q))) (r2 : ∀ T1 h1, Mid T1 h1 → Runs (qaw P pol call fn nt fuel rest T1) h1 Q) :
    Runs (qaw P pol call fn nt fuel c T) h (KBlock id (KSeq P pol call fn nt fuel rest Q)) := r1.mono fun x h1 q => q.mono fun x h1 q => by
  obtain ⟨e, T1⟩ := x
  cases e <;> first | exact r2 T1 h1 q | exact q

/-- what Of goes through: the places that are left, the names that are known -/
def learnZ (known : List Str) (p : Ptn) : List Str := (qbu [p]).foldl qcj known
def qcm (x : Sts) (pats : List Ptn) : Nat → List Str → List Nat → List Nat × List Int
  | 0, _, _ => ([], [])
  | n + 1, known, left => if left = [] then ([], []) else
    let i := (pickZ x pats known left).toNat
    match pats[i]? with
    | none => ([], [])
    | some p =>
      let r := qcm x pats n (learnZ known p) (left.filter (· ≠ i))
      (i :: r.1, opZ x known p :: r.2)
def qb4 (x : Sts) (pats : List Ptn) : List Nat × List Int := qcm x pats pats.length [] (List.range pats.length)
theorem learnZ_length (known : List Str) (p : Ptn) : (learnZ known p).length ≤ known.length + 3 := by
  have h1 : ∀ (l cur : List Str), (l.foldl qcj cur).length ≤ cur.length + l.length := by
    intro l; induction l with
    | nil => intro cur; simp
    | cons s l ih => intro cur; have := ih (qcj cur s); have := meet1_length cur s; simp only [List.foldl_cons, List.length_cons]; omega
  have := h1 (qbu [p]) known
  have := qbe [p]
  simp only [List.length_singleton] at this
  unfold learnZ; omega
theorem filter_ne_length {left : List Nat} {i : Nat} (h : i ∈ left) : (left.filter (· ≠ i)).length < left.length := by
  induction left with
  | nil => cases h
  | cons a l ih =>
    by_cases e : a = i
    · subst e; simp only [List.filter_cons, ne_eq, not_true, decide_false, Bool.false_eq_true, if_false, List.length_cons]
      exact Nat.lt_succ_of_le (List.length_filter_le _ _)
    · have h' : i ∈ l := by rcases List.mem_cons.1 h with q | q; exact absurd q.symm e; exact q
      have := ih h'
      simp only [ne_eq] at this
      simp only [List.filter_cons, e, ne_eq, not_false_eq_true, decide_true, if_true, List.length_cons]; omega
theorem ofLoop_more (x : Sts) (pats : List Ptn) : ∀ (n m : Nat) (known : List Str) (left : List Nat), left.length ≤ n → n ≤ m → (∀ i ∈ left, i < pats.length) → qcm x pats m known left = qcm x pats n known left
  | 0, m, known, left, h, _, _ => by
    have : left = [] := List.length_eq_zero_iff.1 (by omega)
    subst this
    cases m <;> simp [qcm]
  | n + 1, 0, _, _, _, h, _ => by omega
  | n + 1, m + 1, known, left, h1, h2, h3 => by
    simp only [qcm]
    by_cases e : left = []
    · simp [e]
    · simp only [e, if_false]
      obtain ⟨i, hi, hp⟩ := pickZ_mem (x := x) (pats := pats) (known := known) e
      rw [hp]
      simp only [Int.toNat_natCast]
      have hip := h3 i hi
      rw [List.getElem?_eq_getElem hip]
      have hl := filter_ne_length hi
      dsimp only
      rw [ofLoop_more x pats n m _ _ (by omega) (by omega) (fun j hj => h3 j (List.mem_filter.1 hj).1)]
theorem ofLoop_step (x : Sts) (pats : List Ptn) {known : List Str} {left : List Nat} {i : Nat} (hi : i ∈ left) (hip : i < pats.length) (hp : pickZ x pats known left = (i : Int)) (h3 : ∀ i ∈ left, i < pats.length) :
    qcm x pats left.length known left = (i :: (qcm x pats (left.filter (· ≠ i)).length (learnZ known pats[i]) (left.filter (· ≠ i))).1, opZ x known pats[i] :: (qcm x pats (left.filter (· ≠ i)).length (learnZ known pats[i]) (left.filter (· ≠ i))).2) := by
  have hne : left ≠ [] := by rintro rfl; cases hi
  obtain ⟨n, hn⟩ : ∃ n, left.length = n + 1 := ⟨left.length - 1, by have := List.length_pos_iff.2 hne; omega⟩
  have hl := filter_ne_length hi
  rw [hn]
  simp only [qcm, hne, if_false, hp, Int.toNat_natCast, List.getElem?_eq_getElem hip]
  rw [ofLoop_more x pats _ n _ _ (Nat.le_refl _) (by omega) (fun j hj => h3 j (List.mem_filter.1 hj).1)]

attribute [local irreducible] KSeq KMid KBlock KLoop KOps KFunc Runs qbq qaw aopsM aop qat qay qa2 qa2? qaj qa8 qah
theorem place_spec (hs : sums 25 = none) {n : Nat} (hn : 1 ≤ n) {h : Hp} {id : Nat} {i : Int} (r : Row h id 0 1 [.int .i64 i] true) (e : Int) :
    Runs (qat Try.prog pol sums n (.func (.func 25) [] [.ptr id 0 0]) [.int .i64 e]) h (fun v h' => h = h' ∧ v = .bool (e == i)) := by
  obtain ⟨n, rfl⟩ : ∃ m, n = m + 1 := ⟨n - 1, by omega⟩
  refine qb9 (by assumption) Try.func25 rfl (by simp [Try.f25]) ?_
  have a0 : qay (qah Try.f25.ntmps (([] ++ [.int .i64 e] ++ [.ptr id 0 0]) : List AV)) 0 = .int .i64 e := qaf rfl
  have a1 : qay (qah Try.f25.ntmps (([] ++ [.int .i64 e] ++ [.ptr id 0 0]) : List AV)) 1 = .ptr id 0 0 := qaf rfl
  generalize qah Try.f25.ntmps (([] ++ [.int .i64 e] ++ [.ptr id 0 0]) : List AV) = T at *
  show Runs (qaw _ _ _ _ 7 _ _ _) _ _
  refine goP ?_
  (apply qav rfl; exact tgP)
  exact ⟨rfl, rfl⟩

theorem PlAt.upd {g g1 : Hp} {X : Nat → Prop} {pid mid c : Nat} {known : List Str} {x : Sts} {lv : AV} {pats : List Ptn} {pv left left' : AV} (a : PlAt g pid mid c known x lv pats pv left) (k : KeepBut X g g1)
    (h1 : ¬ X mid) (h2 : ∀ i ∈ qa4 lv, ¬ X i) (h3 : ∀ i ∈ qa4 pv, ¬ X i) (r : Row g1 pid 0 8 (plC mid x lv pv left') true) : PlAt g1 pid mid c known x lv pats pv left' :=
  ⟨r, a.kn.keepBut k h1, a.li.keepBut k h2, a.pa.keepBut k h3⟩

structure OfSt (h g : Hp) (b pid mid oid c : Nat) (known : List Str) (x : Sts) (lv : AV) (pats : List Ptn) (pv : AV) (left : List Nat) (lw ov qv : AV) (order : List Nat) (ops : List Int) : Prop where
  kp : KeepBut (h.next ≤ ·) h g
  nx : b ≤ g.next
  pl : PlAt g pid mid c known x lv pats pv lw
  ol : Ints g lw (zs left)
  own : left ≠ [] → qa4 lw ≠ []
  grl : qcr lw = true
  row : Row g oid 0 2 [ov, qv] true
  oo : Ints g ov (zs order)
  op : Ints g qv ops
  gro : qcr ov = true
  grp : qcr qv = true
  il : ∀ k ∈ qa4 lw, b ≤ k ∧ k ∉ qa4 ov ∧ k ∉ qa4 qv
  io : ∀ k ∈ qa4 ov, b ≤ k ∧ k ∉ qa4 qv
  ip : ∀ k ∈ qa4 qv, b ≤ k
theorem of_plan_spec (S : S27 pol sums) (sl : sums 49 = some listSum) {n : Nat} {h : Hp} {x : Sts} {lv : AV} {pats : List Ptn} {pv : AV} (hn : pats.length + x.lines.length + 40 ≤ n) (hb : pats.length < 2 ^ 30) (hbx : x.lines.length < 2 ^ 40)
    (ox : Rows linC 7 h lv x.lines) (o : Rows qcd 15 h pv pats) :
    Runs (qat Try.prog pol sums n (.func (.func 8) [] []) [.agg (stsC x lv), pv]) h (fun v h' => Keep h h' ∧ ∃ ov qv, v = .agg [ov, qv] ∧ Ints h' ov (zs (qb4 x pats).1) ∧ Ints h' qv (qb4 x pats).2 ∧ (∀ k ∈ qa4 ov, h.next ≤ k ∧ k ∉ qa4 qv) ∧ (∀ k ∈ qa4 qv, h.next ≤ k)) := by
  apply Runs.wf
  intro w
  have S' := S.rest
  have s8 : sums 8 = none := S' _ (by decide)
  obtain ⟨n, rfl⟩ : ∃ m, n = m + 1 := ⟨n - 1, by omega⟩
  refine qb9 (by assumption) Try.func8 rfl (by simp [Try.f8]) ?_
  have a0 : qay (qah Try.f8.ntmps (([] ++ [.agg (stsC x lv), pv] ++ []) : List AV)) 0 = .agg (stsC x lv) := qaf rfl
  have a1 : qay (qah Try.f8.ntmps (([] ++ [.agg (stsC x lv), pv] ++ []) : List AV)) 1 = pv := qaf rfl
  generalize qah Try.f8.ntmps (([] ++ [.agg (stsC x lv), pv] ++ []) : List AV) = T at *
  show Runs (qaw _ _ _ _ 75 _ _ _) _ _
  refine goP ?_
  apply O_box
  · exact evP
  · rfl
  intro g1 i2 k1 r2 l1 l2
  change Row g1 i2 0 _ (stsC x lv) true at r2
  apply O_alloc
  intro g2 oid k2 ro l3 l4
  change Row g2 oid 0 _ [.sl .nil 0 [], .sl .nil 0 []] true at ro
  refine goP ?_
  apply O_makeMap
  intro g3 mid k3 rm l5 l6
  apply O_build (c' := [.mapv mid])
  · exact qa0 (by exact evP) qbv
  · rfl
  replace r2 := (r2.keep k2).keep k3
  replace ro := ro.keep k3
  have kk := (k1.trans k2).trans k3
  refine goP ?_
  apply qau (n := 5)
  · exact evP
  · exact r2
  · rfl
  · exact rfl
  refine goP ?_
  have ax : acells lv = [lv] := ox.acells
  have ap : acells pv = [pv] := o.acells
  apply O_build (c' := plC mid x lv pv (.sl .nil 0 []))
  · exact qa0 (by exact evP) (qa0 (by exact evP) (qa0 (by exact evP) qbv))
  · simp [afillL, splice, ap, o.known, show ∀ c, acells (.agg c) = c from fun _ => rfl, show ∀ c, Am.known (.agg c) = true from fun _ => rfl]
    rfl
  apply O_box
  · exact evP
  · rfl
  intro g4 pid k4 rp l7 l8
  change Row g4 pid 0 8 (plC mid x lv pv (.sl .nil 0 [])) true at rp
  replace rm := rm.keep k4
  replace ro := ro.keep k4
  replace kk := kk.trans k4
  have op := o.keep kk
  have okx := ox.keep kk
  have a0 : PlAt g4 pid mid 0 [] x lv pats pv (.sl .nil 0 []) := ⟨rp, ⟨[], rm, rfl, by simp⟩, okx, op⟩
  apply O_wf
  intro w4
  have hlv : ∀ k ∈ qa4 lv, k < g4.next := fun k hk => okx.lt w4 k hk
  have hpv : ∀ k ∈ qa4 pv, k < g4.next := fun k hk => op.lt w4 k hk
  have hh4 : h.next ≤ g4.next := kk.next
  refine goP ?_
  apply R_midB (fun T g => qay T 1 = pv ∧ qay T 4 = .ptr oid 0 0 ∧ qay T 5 = .ptr pid 0 0 ∧ ∃ lw, OfSt h g g4.next pid mid oid 0 [] x lv pats pv (List.range pats.length) lw (.sl .nil 0 []) (.sl .nil 0 []) [] [])
  · apply R_loop (k := pats.length) (I := fun k T g => ∃ i lw, k = pats.length - i ∧ i ≤ pats.length ∧ qay T 1 = pv ∧ qay T 4 = .ptr oid 0 0 ∧ qay T 5 = .ptr pid 0 0 ∧ qay T 16 = .int .i64 (pats.length : Nat) ∧ qay T 17 = .int .i64 (i : Nat) ∧
      OfSt h g g4.next pid mid oid 0 [] x lv pats pv (List.range i) lw (.sl .nil 0 []) (.sl .nil 0 []) [] [])
    · omega
    · refine ⟨0, .sl .nil 0 [], by omega, by omega, by exact tgP, by exact tgP, by exact tgP, by exact tgP, by exact tgP, ⟨kk.but _, Nat.le_refl _, a0, SlV.nil, fun c => absurd rfl c, rfl, ro, SlV.nil, SlV.nil, rfl, rfl, ?_, ?_, ?_⟩⟩
      · intro k hk; cases hk
      · intro k hk; cases hk
      · intro k hk; cases hk
    · rintro k T g ⟨i, lw, rfl, hi, t1, t4, t5, t16, t17, st⟩
      refine goP ?_
      apply qa9 (decide ((i : Int) < (pats.length : Int)))
      · exact evP
      · intro c
        have hlt : i < pats.length := by simpa using c
        have ra := st.pl.row
        refine goP ?_
        apply qbl
        · exact qa0 (by exact evP) qbv
        · rfl
        · rfl
        · exact S.lit _ _
        intro _
        apply O_wf
        intro wg
        apply O_append (new := [.int .i64 (i : Int)]) (m := 1) (bytes := 8)
        · exact qai (by exact evP) (qai (by exact evP) qas)
        · exact st.ol
        · exact st.grl
        · exact SlV.imm _ _ _ rfl
        · rfl
        · rfl
        · simp [room]; omega
        intro lw' g5 kb5 s5 gr5 iv5 ne5
        refine ⟨Undis.off rfl, ?_⟩
        have hx : ∀ j, j < g4.next → j ∉ qa4 lw := fun j hj hm => by have := (st.il j hm).1; omega
        replace ra := ra.keepBut kb5 (hx _ l8)
        refine goP ?_
        apply qb0
        · exact evP
        · exact evP
        · exact ra
        · simp [s5.acells, s5.one, ones]
        intro g6 kb6 r6
        refine ⟨Undis.off rfl, ?_⟩
        have r6' : Row g6 pid 0 8 (plC mid x lv pv lw') true := by
          have e : splice (plC mid x lv pv lw) (0 + 7) (acells lw') = plC mid x lv pv lw' := by rw [s5.acells]; rfl
          rw [← e]; exact r6
        have k6 : KeepBut (fun j => j = pid ∨ j ∈ qa4 lw) g g6 := (kb5.weaken fun _ h => .inr h).trans (kb6.weaken fun _ h => .inl h)
        have hg : g4.next ≤ g.next := st.nx
        have hlw' : ∀ k ∈ qa4 lw', g4.next ≤ k := fun k hk => by
          rcases iv5 k hk with q | q
          · exact (st.il k q).1
          · omega
        refine goP ?_
        apply K_loop (pats.length - (i + 1)) (by omega)
        refine ⟨i + 1, lw', rfl, by omega, by exact tgP, by exact tgP, by exact tgP, by exact tgP, by exact tgP, ⟨st.kp.trans (k6.weaken ?_), Nat.le_trans hg k6.next, st.pl.upd k6 ?_ ?_ ?_ r6', ?_, ?_, gr5, st.row.keepBut k6 ?_, SlV.nil, SlV.nil, rfl, rfl, ?_, ?_, ?_⟩⟩
        · rintro j (rfl | hj)
          · omega
          · have := (st.il j hj).1; omega
        · rintro (q | q)
          · omega
          · exact hx _ (by omega) q
        · rintro j hj (q | q)
          · have := ox.lt w j hj; omega
          · exact hx _ (hlv j hj) q
        · rintro j hj (q | q)
          · have := o.lt w j hj; omega
          · exact hx _ (hpv j hj) q
        · have := s5.keepBut kb6 fun j hj q => by have := hlw' j hj; omega
          rw [List.range_succ]
          simpa [zs, ints, Ints] using this
        · intro _; exact ne5 (by omega)
        · rintro (q | q)
          · omega
          · exact hx _ (by omega) q
        · intro j hj
          exact ⟨hlw' j hj, by simp [qa4], by simp [qa4]⟩
        · intro j hj; cases hj
        · intro j hj; cases hj
      · intro c
        have : i = pats.length := by
          have : ¬ i < pats.length := by simpa using c
          omega
        subst this
        refine goP ?_
        apply K_mid
        exact ⟨by exact tgP, by exact tgP, by exact tgP, lw, st⟩
  rintro T g ⟨t1, t4, t5, lw, st⟩
  have hrl : ∀ i ∈ List.range pats.length, i < pats.length := fun i hi => List.mem_range.1 hi
  refine goP ?_
  apply R_midB (fun T g => qay T 4 = .ptr oid 0 0 ∧ ∃ c known left lw ov qv, OfSt h g g4.next pid mid oid c known x lv pats pv left lw ov qv (qb4 x pats).1 (qb4 x pats).2)
  · apply R_loop (k := pats.length) (I := fun k T g => ∃ c known left lw ov qv order ops, left.length ≤ k ∧ qay T 1 = pv ∧ qay T 4 = .ptr oid 0 0 ∧ qay T 5 = .ptr pid 0 0 ∧
      OfSt h g g4.next pid mid oid c known x lv pats pv left lw ov qv order ops ∧ (∀ i ∈ left, i < pats.length) ∧ left.length ≤ pats.length ∧ c + 3 * left.length ≤ 3 * pats.length ∧ known.length ≤ c ∧ order.length + left.length ≤ pats.length ∧ ops.length = order.length ∧
      order ++ (qcm x pats left.length known left).1 = (qb4 x pats).1 ∧ ops ++ (qcm x pats left.length known left).2 = (qb4 x pats).2)
    · omega
    · exact ⟨0, [], List.range pats.length, lw, _, _, [], [], by simp, by exact tgP, by exact tgP, by exact tgP, st, hrl, by simp, by simp, by simp, by simp, rfl, by simp [qb4], by simp [qb4]⟩
    · rintro k T g ⟨c, known, left, lw, ov, qv, order, ops, hlk, t1, t4, t5, st, hlp, hll, hc, hkc, hol, hpl, ho1, ho2⟩
      have ra := st.pl.row
      have sol := st.ol
      refine goP ?_
      apply qa9 (decide (((zs left).length : Int) > 0))
      · exact evP
      · intro cc
        have hne : left ≠ [] := by rintro rfl; simp [zs] at cc
        obtain ⟨lid, lver, fix, len, rfl, ro2⟩ := st.ol.rowInts (st.own hne) st.grl
        have hlid := st.il lid (by simp [qa4])
        have hzl : (zs left).length = left.length := qa7 left
        have hpl2 := st.pl
        rw [hzl] at hpl2
        refine goP ?_
        (apply qbn; exact evP; (repeat (apply qai; exact evP)); exact qas)
        apply Runs.wf
        intro wg
        refine (next_spec S sl (by omega) (by omega) hbx (by omega) hpl2 ro2 hne hlp hll).mono ?_
        rintro v g5 ⟨k5, i, hip, hil, hpk, rfl⟩
        refine ⟨Undis.off rfl, ?_⟩
        refine goP ?_
        apply O_wf
        intro w5
        apply O_alloc
        intro g6 i7 k6 r7 l9 l10
        apply qb0
        · exact evP
        · exact evP
        · exact r7
        · rfl
        intro g7 kb7 r7
        refine ⟨Undis.off rfl, ?_⟩
        change Row g7 i7 0 1 [.int .i64 (i : Int)] true at r7
        have k7 : Keep g g7 := k5.trans (KeepBut.keep k6 kb7 fun j hj => w5.get (by omega))
        have ngx := st.nx
        have hi7 : g.next ≤ i7 := Nat.le_trans k5.next l9
        have ro7 := st.row.keep k7
        have oo7 := st.oo.keep k7
        have op7 := st.op.keep k7
        have pl7 := st.pl.keep k7
        replace ro2 := ro2.keep k7
        have lov : ∀ j ∈ qa4 ov, j < g.next := st.oo.lt wg
        have lqv : ∀ j ∈ qa4 qv, j < g.next := st.op.lt wg
        have llid : lid < g.next := st.ol.lt wg lid (by simp [qa4])
        have hoid : oid < g4.next := by have := k3.next; have := k4.next; omega
        have hmid : mid < g4.next := by have := k4.next; omega
        have xov : ∀ j, j < g4.next ∨ g.next ≤ j → j ∉ qa4 ov := fun j hj hm => by have := (st.io j hm).1; have := lov j hm; omega
        have xqv : ∀ j, j < g4.next ∨ g.next ≤ j → j ∉ qa4 qv := fun j hj hm => by have := st.ip j hm; have := lqv j hm; omega
        refine goP ?_
        (refine R_drawn [0, 1, 2, 5, 6, 7, 3, 4, 10, 8, 9, 11, 12, 13] [0, 1, 0, 4, 15, 0, 32, 0, 128, 511, 127, 2047, 4095, 8191] (by kernel_rfl) (by kernel_rfl) (by rfl) ?_; dsimp only [qci, List.map, List.getElem?_cons_zero, List.getElem?_cons_succ])
        refine goP ?_
        apply qbl
        · exact qa0 (by exact evP) qbv
        · rfl
        · rfl
        · exact S.lit _ _
        intro _
        apply O_wf
        intro w7
        apply O_append (new := [.int .i64 (i : Int)]) (m := 1) (bytes := 8)
        · exact qai (by exact evP) (qai (by exact evP) qas)
        · exact oo7
        · exact st.gro
        · exact SlV.imm _ _ _ rfl
        · rfl
        · rfl
        · simp [room]; omega
        intro ov' g8 kb8 so8 gro8 iv8 _
        refine ⟨kb8.undis ?_, ?_⟩
        · have h1 := xov oid (.inl hoid)
          have h2 := xov i7 (.inr hi7)
          simp [h1, h2]
        refine goP ?_
        apply qbl
        · exact qa0 (by exact evP) qbv
        · rfl
        · rfl
        · exact S.lit _ _
        intro _
        have op8 := op7.keepBut kb8 fun j hj hm => (st.io j hm).2 hj
        apply O_append (new := [.int .i64 (opZ x known pats[i])]) (m := 1) (bytes := 8)
        · exact qai (by exact evP) (qai (by exact evP) qas)
        · exact op8
        · exact st.grp
        · exact SlV.imm _ _ _ rfl
        · rfl
        · rfl
        · simp [room]; omega
        intro qv' g9 kb9 sq9 grq9 iv9 _
        refine ⟨Undis.ahead (by kernel_rfl), ?_⟩
        have n7 : g.next ≤ g7.next := k7.next
        have n8 : g7.next ≤ g8.next := kb8.next
        have ro9 := (ro7.keepBut kb8 (xov oid (.inl hoid))).keepBut kb9 (xqv oid (.inl hoid))
        have iov : ∀ j ∈ qa4 ov', g4.next ≤ j ∧ j ∉ qa4 qv ∧ (j ∈ qa4 ov ∨ g7.next ≤ j ∧ j < g8.next) := fun j hj => by
          rcases iv8 j hj with q | q
          · exact ⟨(st.io j q).1, (st.io j q).2, .inl q⟩
          · exact ⟨by omega, xqv j (.inr (by omega)), .inr q⟩
        have iqv : ∀ j ∈ qa4 qv', g4.next ≤ j ∧ (j ∈ qa4 qv ∨ g8.next ≤ j) := fun j hj => by
          rcases iv9 j hj with q | q
          · exact ⟨st.ip j q, .inl q⟩
          · exact ⟨by omega, .inr q.1⟩
        have so9 := so8.keepBut kb9 fun j hj hm => (iov j hj).2.1 hm
        refine goP ?_
        apply qb0
        · exact evP
        · exact evP
        · exact ro9
        · simp [so9.acells, so9.one, ones]
        intro g10 kb10 r10
        refine ⟨Undis.ahead (by kernel_rfl), ?_⟩
        rw [so9.acells] at r10
        change Row g10 oid 0 2 [ov', qv] true at r10
        refine goP ?_
        apply qb0
        · exact evP
        · exact evP
        · exact r10
        · simp [sq9.acells, sq9.one, ones]
        intro g11 kb11 r11
        refine ⟨Undis.ahead (by kernel_rfl), ?_⟩
        rw [sq9.acells] at r11
        change Row g11 oid 0 2 [ov', qv'] true at r11
        have kb711 : KeepBut (fun j => j ∈ qa4 ov ∨ j ∈ qa4 qv ∨ j = oid) g7 g11 := (((kb8.weaken fun _ h => .inl h).trans (kb9.weaken fun _ h => .inr (.inl h))).trans (kb10.weaken fun _ h => .inr (.inr h))).trans (kb11.weaken fun _ h => .inr (.inr h))
        have so11 := (so9.keepBut kb10 fun j hj e => by have := (iov j hj).1; omega).keepBut kb11 fun j hj e => by have := (iov j hj).1; omega
        have sq11 := (sq9.keepBut kb10 fun j hj e => by have := (iqv j hj).1; omega).keepBut kb11 fun j hj e => by have := (iqv j hj).1; omega
        have xlid : ¬ (lid ∈ qa4 ov ∨ lid ∈ qa4 qv ∨ lid = oid) := by
          rintro (q | q | q)
          · exact hlid.2.1 q
          · exact hlid.2.2 q
          · omega
        have xi7 : ¬ (i7 ∈ qa4 ov ∨ i7 ∈ qa4 qv ∨ i7 = oid) := by
          rintro (q | q | q)
          · exact xov _ (.inr hi7) q
          · exact xqv _ (.inr hi7) q
          · omega
        have xpid : ¬ (pid ∈ qa4 ov ∨ pid ∈ qa4 qv ∨ pid = oid) := by
          rintro (q | q | q)
          · exact xov _ (.inl l8) q
          · exact xqv _ (.inl l8) q
          · have := k3.next; omega
        have r7b := r7.keepBut kb711 xi7
        have ro2b := ro2.keepBut kb711 xlid
        have rp11 := pl7.row.keepBut kb711 xpid
        refine goP ?_
        apply O_makeFunc (l1 := []) (l2 := [.ptr i7 0 0])
        · exact qas
        · exact qai (by exact evP) qas
        (apply qbn; exact evP; (repeat (apply qai; exact evP)); exact qas)
        refine (deleteFunc_spec' S _ (fun e b => b = (e == (i : Int))) (by omega) ro2b (by omega) ?_).mono ?_
        · intro m g12 hm kb e he
          refine (place_spec (S' _ (by decide)) (by omega) (r7b.keepBut kb (by omega)) e).mono ?_
          rintro v _ ⟨rfl, rfl⟩
          exact ⟨_, rfl, rfl, Keep.refl _⟩
        rintro v g12 ⟨kb12, l', rfl, hf, ro12⟩
        refine ⟨Undis.off rfl, ?_⟩
        have hl' : l' = zs (left.filter (· ≠ i)) := by
          rw [hf.done (fun e => e == (i : Int)) (fun e b h => h)]
          simp only [zs, List.filter_map]
          congr 1
          apply List.filter_congr
          intro j _
          simp
          by_cases e : j = i
          · simp [e]
          · simp [e]; omega
        have sl12 := ro12.slv
        rw [hl', qa7] at sl12
        have hlen : l'.length = (left.filter (· ≠ i)).length := by rw [hl', qa7]
        rw [hlen]
        generalize hfl : left.filter (· ≠ i) = left' at *
        have rp12 := rp11.keepBut kb12 (by omega)
        refine goP ?_
        apply qb0
        · exact evP
        · exact evP
        · exact rp12
        · rfl
        intro g13 kb13 r13
        refine ⟨Undis.off rfl, ?_⟩
        change Row g13 pid 0 8 (plC mid x lv pv (.own lid lver 0 left'.length)) true at r13
        have kb713 : KeepBut (fun j => (j ∈ qa4 ov ∨ j ∈ qa4 qv ∨ j = oid) ∨ j = lid ∨ j = pid) g7 g13 := ((kb711.weaken fun _ h => .inl h).trans (kb12.weaken fun _ h => .inr (.inl h))).trans (kb13.weaken fun _ h => .inr (.inr h))
        have r7c := (r7b.keepBut kb12 (by omega)).keepBut kb13 (by omega)
        have xold : ∀ j, j < h.next → ¬ ((j ∈ qa4 ov ∨ j ∈ qa4 qv ∨ j = oid) ∨ j = lid ∨ j = pid) := by
          rintro j hj ((q | q | q) | q | q)
          · exact xov _ (.inl (by omega)) q
          · exact xqv _ (.inl (by omega)) q
          · have := k1.next; omega
          · omega
          · have := k1.next; have := k2.next; have := k3.next; omega
        have xmid : ¬ ((mid ∈ qa4 ov ∨ mid ∈ qa4 qv ∨ mid = oid) ∨ mid = lid ∨ mid = pid) := by
          rintro ((q | q | q) | q | q)
          · exact xov _ (.inl (by omega)) q
          · exact xqv _ (.inl (by omega)) q
          · omega
          · omega
          · omega
        have pl13 := pl7.upd kb713 xmid (fun j hj => xold j (ox.lt w j hj)) (fun j hj => xold j (o.lt w j hj)) r13
        refine goP ?_
        (refine R_drawn [0, 1, 2, 3, 4, 5, 6, 7, 8, 9, 10] [0, 1, 3, 7, 0, 0, 48, 112, 240, 496, 1023] (by kernel_rfl) (by kernel_rfl) (by rfl) ?_; dsimp only [qci, List.map, List.getElem?_cons_zero, List.getElem?_cons_succ])
        refine goP ?_
        apply qau (n := 1)
        · exact evP
        · exact r13
        · rfl
        · exact rfl
        refine goP ?_
        apply qax
        · exact evP
        · exact pl13.pa
        · exact evP
        · exact hip
        · rfl
        intro p hat _
        rw [flat_at ptnC_len hip] at hat
        apply qcf
        · exact evP
        · exact hat
        · rfl
        apply qbl
        · exact qa0 (by exact evP) qbv
        · rfl
        · rfl
        · exact S.lit _ _
        intro _
        (apply qbn; exact evP; (repeat (apply qai; exact evP)); exact qas)
        apply Runs.wf
        intro w13
        refine (vars_spec S.lit (S' _ (by decide)) (S' _ (by decide)) (S' _ (by decide)) S.has (l := [pats[i]]) (by simp; omega) (SlV.imm _ _ _ rfl) (by simp)).mono ?_
        rintro nv g14 ⟨k14, s14, -, hv14⟩
        refine ⟨k14.undis, ?_⟩
        have hvl := qbe [pats[i]]
        simp only [List.length_singleton] at hvl
        (apply qbn; exact evP; (repeat (apply qai; exact evP)); exact qas)
        refine (learn_spec (S' _ (by decide)) (by omega) (pl13.kn.keep k14) s14 (fun q => by have := hv14 _ q; have := pl13.kn.lt w13; omega) (by omega)).mono ?_
        rintro _ g15 ⟨kb15, kn15⟩
        refine ⟨Undis.ahead (by kernel_rfl), ?_⟩
        have hstep := ofLoop_step x pats hil hip hpk hlp
        rw [hfl] at hstep
        rw [hstep] at ho1 ho2
        simp only at ho1 ho2
        have hl1 : left'.length < left.length := by rw [← hfl]; exact filter_ne_length hil
        have n9 : g8.next ≤ g9.next := kb9.next
        have n13 : g9.next ≤ g13.next := by have := kb10.next; have := kb11.next; have := kb12.next; have := kb13.next; omega
        have n14 : g13.next ≤ g14.next := k14.next
        have hb15 : ∀ j, j < g13.next → j ≠ mid → ¬ (j = mid ∨ g14.next ≤ j) := fun j h1 h2 h3 => by omega
        have kp13 : KeepBut (h.next ≤ ·) h g13 := (st.kp.trans (k7.but _)).trans (kb713.weaken (by
          rintro j ((q | q | q) | q | q)
          · have := (st.io j q).1; omega
          · have := st.ip j q; omega
          · have := k1.next; omega
          · omega
          · have := k1.next; have := k2.next; have := k3.next; omega))
        have kp15 : KeepBut (h.next ≤ ·) h g15 := (kp13.trans (k14.but _)).trans (kb15.weaken (by
          rintro j (q | q)
          · have := k1.next; have := k2.next; omega
          · have := kp13.next; omega))
        have so13 := (so11.keepBut kb12 fun j hj e => by rcases (iov j hj).2.2 with q | q; exact xlid (.inl (e ▸ q)); omega).keepBut kb13 fun j hj e => by have := (iov j hj).1; omega
        have sq13 := (sq11.keepBut kb12 fun j hj e => by rcases (iqv j hj).2 with q | q; exact xlid (.inr (.inl (e ▸ q))); omega).keepBut kb13 fun j hj e => by have := (iqv j hj).1; omega
        have sl13 := sl12.keepBut kb13 fun j hj e => by simp [qa4] at hj; omega
        have so14 := so13.keep k14
        have sq14 := sq13.keep k14
        have sl14 := sl13.keep k14
        have r14 := (r11.keepBut kb12 (by omega)).keepBut kb13 (by have := k3.next; omega)
        have so15 := so14.keepBut kb15 fun j hj => hb15 j (by have := so13.lt w13 j hj; omega) (by have := (iov j hj).1; omega)
        have sq15 := sq14.keepBut kb15 fun j hj => hb15 j (by have := sq13.lt w13 j hj; omega) (by have := (iqv j hj).1; omega)
        have sl15 := sl14.keepBut kb15 fun j hj => hb15 j (by have := sl13.lt w13 j hj; omega) (by simp [qa4] at hj; omega)
        have r15 := (r14.keep k14).keepBut kb15 (hb15 _ (by omega) (by omega))
        have rp15 := (r13.keep k14).keepBut kb15 (hb15 _ (by omega) (by omega))
        have pl15 : PlAt g15 pid mid (c + (qbu [pats[i]]).length) (learnZ known pats[i]) x lv pats pv (.own lid lver 0 left'.length) :=
          ⟨rp15, kn15, (pl13.li.keep k14).keepBut kb15 fun j hj => hb15 j (by have := ox.lt w j hj; omega) (by have := ox.lt w j hj; have := k1.next; have := k2.next; omega), (pl13.pa.keep k14).keepBut kb15 fun j hj => hb15 j (by have := o.lt w j hj; omega) (by have := o.lt w j hj; have := k1.next; have := k2.next; omega)⟩
        have hkl := learnZ_length known pats[i]
        have hkl2 : (learnZ known pats[i]).length ≤ known.length + (qbu [pats[i]]).length := by
          have h1 : ∀ (l cur : List Str), (l.foldl qcj cur).length ≤ cur.length + l.length := by
            intro l; induction l with
            | nil => intro cur; simp
            | cons s l ih => intro cur; have := ih (qcj cur s); have := meet1_length cur s; simp only [List.foldl_cons, List.length_cons]; omega
          exact h1 _ _
        refine goP ?_
        apply K_loop (k - 1) (by omega)
        refine ⟨c + (qbu [pats[i]]).length, learnZ known pats[i], left', .own lid lver 0 left'.length, ov', qv', order ++ [i], ops ++ [opZ x known pats[i]], by omega, by exact tgP, by exact tgP, by exact tgP,
          ⟨kp15, ?_, pl15, ?_, fun _ c => (by cases c), rfl, r15, ?_, ?_, gro8, grq9, ?_, ?_, ?_⟩, ?_, by omega, by omega, by omega, by simp; omega, by simp; omega, ?_, ?_⟩
        · have := kb15.next; omega
        · rw [qa7] at sl15
          show SlV _ _ _ (zs left').length _
          rw [qa7]
          exact sl15
        · simpa [zs, ints, Ints] using so15
        · simpa [ints, Ints] using sq15
        · intro j hj
          simp [qa4] at hj
          subst hj
          refine ⟨hlid.1, fun q => ?_, fun q => ?_⟩
          · rcases (iov _ q).2.2 with q | q
            · exact hlid.2.1 q
            · omega
          · rcases (iqv _ q).2 with q | q
            · exact hlid.2.2 q
            · omega
        · intro j hj
          refine ⟨(iov j hj).1, fun q => ?_⟩
          rcases (iqv _ q).2 with q | q
          · exact (iov j hj).2.1 q
          · rcases (iov j hj).2.2 with q' | q'
            · have := lov j q'; omega
            · omega
        · intro j hj; exact (iqv j hj).1
        · intro j hj
          rw [← hfl] at hj
          exact hlp j (List.mem_filter.1 hj).1
        · simpa using ho1
        · simpa using ho2
      · intro cc
        have hne : left = [] := by cases left with
          | nil => rfl
          | cons a l => simp [zs] at cc
        subst hne
        simp only [List.length_nil, qcm, List.append_nil] at ho1 ho2
        rw [ho1, ho2] at st
        refine goP ?_
        apply K_mid
        exact ⟨by exact tgP, c, known, [], lw, ov, qv, st⟩
  rintro T g ⟨t4, c, known, left, lw, ov, qv, st⟩
  have ro := st.row
  refine goP ?_
  apply qau (n := 2)
  · exact evP
  · exact ro
  · rfl
  · exact rfl
  apply qb0
  · exact evP
  · exact evP
  · exact ro
  · simp [acells, ones, st.oo.one, st.op.one]
  intro g5 kb5 r5
  refine ⟨Undis.off rfl, ?_⟩
  refine goP ?_
  apply R_res_agg rfl (c' := [ov, qv])
  · exact tgP
  · exact r5
  · simp [splice, acells]
  · simp [splice, acells]
  have hoid : oid < g4.next := by have := k3.next; have := k4.next; omega
  refine ⟨KeepBut.toKeep (st.kp.trans (kb5.weaken fun j hj => by have := k1.next; omega)) w, ov, qv, rfl, st.oo.keepBut kb5 (fun j hj e => by have := (st.io j hj).1; omega), st.op.keepBut kb5 (fun j hj e => by have := st.ip j hj; omega), fun j hj => ⟨by have := (st.io j hj).1; omega, (st.io j hj).2⟩, fun j hj => by have := st.ip j hj; omega⟩
end Go.Am
namespace Go.Proofs
open Go.Shelf
def Try.lays189_ren : Go.Shelf.Ren := ⟨fun | 189 => 73 | 125 => 82 | 257 => 81 | 128 => 93 | 129 => 94 | 294 => 84 | 295 => 85 | 296 => 86 | 297 => 87 | 298 => 88 | 299 => 89 | 216 => 90 | 300 => 91 | 301 => 92 | 328 => 95 | 329 => 96 | 330 => 97 | 331 => 98 | 332 => 99 | 215 => 100 | 343 => 101 | n => n, fun | 28 => 27 | 3 => 3 | 46 => 136 | 0 => 0 | 51 => 147 | 53 => 149 | 4 => 4 | 183 => 140 | 182 => 139 | 131 => 144 | 5 => 5 | 9 => 9 | 218 => 150 | 222 => 154 | 228 => 156 | 229 => 157 | n => n, fun | n => n⟩
theorem Try.lays189 : Go.Proofs.Lays.n189 Try.prog Try.lays189_ren := {
  mixed := by kernel_rfl
  f125 := Try.func82.trans (congrArg some (by kernel_rfl))
  f128 := Try.func93.trans (congrArg some (by kernel_rfl))
  f129 := Try.func94.trans (congrArg some (by kernel_rfl))
  f189 := Try.func73.trans (congrArg some (by kernel_rfl))
  f215 := Try.func100.trans (congrArg some (by kernel_rfl))
  f216 := Try.func90.trans (congrArg some (by kernel_rfl))
  f257 := Try.func81.trans (congrArg some (by kernel_rfl))
  f294 := Try.func84.trans (congrArg some (by kernel_rfl))
  f295 := Try.func85.trans (congrArg some (by kernel_rfl))
  f296 := Try.func86.trans (congrArg some (by kernel_rfl))
  f297 := Try.func87.trans (congrArg some (by kernel_rfl))
  f298 := Try.func88.trans (congrArg some (by kernel_rfl))
  f299 := Try.func89.trans (congrArg some (by kernel_rfl))
  f300 := Try.func91.trans (congrArg some (by kernel_rfl))
  f301 := Try.func92.trans (congrArg some (by kernel_rfl))
  f328 := Try.func95.trans (congrArg some (by kernel_rfl))
  f329 := Try.func96.trans (congrArg some (by kernel_rfl))
  f330 := Try.func97.trans (congrArg some (by kernel_rfl))
  f331 := Try.func98.trans (congrArg some (by kernel_rfl))
  f332 := Try.func99.trans (congrArg some (by kernel_rfl))
  f343 := Try.func101.trans (congrArg some (by kernel_rfl))
  t0 := Try.underlying0
  a0 := Try.isAgg0
  z0 := Try.sizeOf0
  v0 := Try.zeroValue0
  t3 := Try.underlying3
  a3 := Try.isAgg3
  z3 := Try.sizeOf3
  v3 := Try.zeroValue3
  t4 := Try.underlying4
  a4 := Try.isAgg4
  z4 := Try.sizeOf4
  v4 := Try.zeroValue4
  t5 := Try.underlying5
  a5 := Try.isAgg5
  z5 := Try.sizeOf5
  v5 := Try.zeroValue5
  t9 := Try.underlying9
  a9 := Try.isAgg9
  z9 := Try.sizeOf9
  v9 := Try.zeroValue9
  t28 := Try.underlying27
  a28 := Try.isAgg27
  z28 := Try.sizeOf27
  v28 := Try.zeroValue27
  t46 := Try.underlying136
  a46 := Try.isAgg136
  z46 := Try.sizeOf136
  v46 := Try.zeroValue136
  t51 := Try.underlying147
  a51 := Try.isAgg147
  z51 := Try.sizeOf147
  v51 := Try.zeroValue147
  t53 := Try.underlying149
  a53 := Try.isAgg149
  z53 := Try.sizeOf149
  v53 := Try.zeroValue149
  t131 := Try.underlying144
  a131 := Try.isAgg144
  z131 := Try.sizeOf144
  v131 := Try.zeroValue144
  t182 := Try.underlying139
  a182 := Try.isAgg139
  z182 := Try.sizeOf139
  v182 := Try.zeroValue139
  t183 := Try.underlying140
  a183 := Try.isAgg140
  z183 := Try.sizeOf140
  v183 := Try.zeroValue140
  t218 := Try.underlying150
  a218 := Try.isAgg150
  z218 := Try.sizeOf150
  v218 := Try.zeroValue150
  t222 := Try.underlying154
  a222 := Try.isAgg154
  z222 := Try.sizeOf154
  v222 := Try.zeroValue154
  t228 := Try.underlying156
  a228 := Try.isAgg156
  z228 := Try.sizeOf156
  v228 := Try.zeroValue156
  t229 := Try.underlying157
  a229 := Try.isAgg157
  z229 := Try.sizeOf157
  v229 := Try.zeroValue157 }
open Go.Sort Go.RowKit in
theorem Try.slices_Sort_int (blk off cap : Nat) (zs : List Int) (w : World) (hH : Holds (Value.int .i64) w blk off zs.toArray) (hblk : blk < w.heap.size) (hsz : zs.length < 4611686018427387904) :
    Calls Try.prog 73 #[.slice (some ⟨blk, off, none⟩) zs.length cap] w fun e w' =>
      e = .returned (.tuple #[]) ∧ ∃ n os, w' = grow (putRow (Value.int .i64) (Sort.ahead w n) blk off (zs.mergeSort fun x y => decide (x ≤ y)).toArray) os := Any.slices_Sort_int Try.lays189 blk off cap zs w hH hblk hsz
open Go.RowKit Go.Sort in
/-- .. and plain. (LAID: no walk: one application.) -/
theorem Try.slices_Sort_int_none (p : Option Addr) (cap : Nat) (w : World) :
    Calls Try.prog 73 #[.slice p 0 cap] w fun e w' => e = .returned (.tuple #[]) ∧ w' = w := Any.slices_Sort_int_none Try.lays189 p cap w
end Go.Proofs
namespace Go.Am
open Go Go.Proofs AM
set_option maxRecDepth 10000

def insZ (x : Int) : List Int → List Int
  | [] => [x]
  | y :: l => cond (decide (x ≤ y)) (x :: y :: l) (y :: insZ x l)
def qcv : List Int → List Int
  | [] => []
  | x :: l => insZ x (qcv l)
theorem insZ_perm (x : Int) : ∀ l, (insZ x l).Perm (x :: l)
  | [] => .refl _
  | y :: l => by
    simp only [insZ]
    cases decide (x ≤ y) with
    | true => exact .refl _
    | false => exact ((insZ_perm x l).cons y).trans (.swap _ _ _)
theorem sortZ_perm : ∀ l, (qcv l).Perm l
  | [] => .refl _
  | x :: l => (insZ_perm x _).trans ((sortZ_perm l).cons x)
theorem insZ_sorted (x : Int) : ∀ {l}, List.Pairwise (· ≤ ·) l → List.Pairwise (· ≤ ·) (insZ x l)
  | [], _ => by simp [insZ]
  | y :: l, h => by
    simp only [insZ]
    obtain ⟨h1, h2⟩ := List.pairwise_cons.1 h
    by_cases c : x ≤ y
    · rw [decide_eq_true c]
      refine List.pairwise_cons.2 ⟨fun z hz => ?_, h⟩
      rcases List.mem_cons.1 hz with rfl | hz
      · exact c
      · exact Int.le_trans c (h1 z hz)
    · rw [decide_eq_false c]
      refine List.pairwise_cons.2 ⟨fun z hz => ?_, insZ_sorted x h2⟩
      rcases List.mem_cons.1 ((insZ_perm x l).mem_iff.1 hz) with rfl | hz
      · omega
      · exact h1 z hz
theorem sortZ_sorted : ∀ l, List.Pairwise (· ≤ ·) (qcv l)
  | [] => .nil
  | _ :: l => insZ_sorted _ (sortZ_sorted l)
theorem sorted_one : ∀ {l m : List Int}, l.Perm m → List.Pairwise (· ≤ ·) l → List.Pairwise (· ≤ ·) m → l = m
  | [], m, p, _, _ => by rw [List.nil_perm.1 p]
  | x :: l, [], p, _, _ => by have := p.length_eq; cases this
  | x :: l, y :: m, p, h, k => by
    obtain ⟨h1, h2⟩ := List.pairwise_cons.1 h
    obtain ⟨k1, k2⟩ := List.pairwise_cons.1 k
    have e : x = y := by
      have a : x ∈ y :: m := p.mem_iff.1 List.mem_cons_self
      have b : y ∈ x :: l := p.mem_iff.2 List.mem_cons_self
      rcases List.mem_cons.1 a with a | a
      · exact a
      · rcases List.mem_cons.1 b with b | b
        · exact b.symm
        · have := k1 x a; have := h1 y b; omega
    subst e
    rw [sorted_one p.cons_inv h2 k2]
theorem pw_turn {α : Type} {R S : α → α → Prop} {l : List α} (p : l.Pairwise R) (f : ∀ a b, R a b → S a b) : l.Pairwise S := by
  induction p with
  | nil => exact .nil
  | cons h _ ih => exact .cons (fun x hx => f _ _ (h x hx)) ih
theorem sortZ_merge (l : List Int) : l.mergeSort (fun x y => decide (x ≤ y)) = qcv l := by
  refine sorted_one ((List.mergeSort_perm l _).trans (sortZ_perm l).symm) ?_ (sortZ_sorted l)
  have := List.pairwise_mergeSort (le := fun x y : Int => decide (x ≤ y)) (fun a b c h1 h2 => by simp at *; omega) (fun a b => by simp; omega) l
  exact pw_turn this fun _ _ h => by simpa using h

def intsOf : List AV → Option (List Int)
  | [] => some []
  | .int .i64 n :: r => match intsOf r with
    | some l => some (n :: l)
    | none => none
  | _ :: _ => none
theorem intsOf_ints : ∀ l, intsOf (ints l) = some l
  | [] => rfl
  | x :: l => by
    have := intsOf_ints l
    simp only [ints, List.map_cons, intsOf]
    simp only [ints] at this
    rw [this]
theorem intsOf_some : ∀ {c : List AV} {l : List Int}, intsOf c = some l → c = ints l
  | [], l, h => by cases h; rfl
  | v :: r, l, h => by
    cases v <;> first | cases h | skip
    rename_i k n
    cases k <;> first | cases h | skip
    simp only [intsOf] at h
    cases hr : intsOf r with
    | none => rw [hr] at h; cases h
    | some m =>
      rw [hr] at h
      cases h
      rw [intsOf_some hr]
      rfl
/-- what the machine takes for slices.Sort of numbers -/
def sortSum : List AV → AM AV
  | [.own id ver off n] => match n with
    | 0 => do
      let _ ← rowOf id ver
      pure (.tuple [])
    | _ => do
      let (esz, cells, fix) ← rowOf id ver
      AM.guard (Nat.ble (off + n) cells.length && Nat.blt n 4611686018427387904)
      let l ← AM.ofOption (intsOf ((cells.drop off).take n))
      AM.hput id ver (.row esz (splice cells off (ints (qcv l))) fix)
      pure (.tuple [])
  | [.sl _ 0 _] => pure (.tuple [])
  | _ => AM.fail

section
variable {h h' : Hp} {μ : Nat → Nat} {w : World}
theorem SR.grow (s : SR h μ w) (os : List Obj) : SR h μ (Sort.grow w os.toArray) ∧ Stp h μ w h μ (Sort.grow w os.toArray) := by
  induction os generalizing w with
  | nil => rw [Sort.grow_empty]; exact ⟨s, Stp.refl _ _ _⟩
  | cons o os ih =>
    obtain ⟨s1, t1⟩ := s.beside o
    obtain ⟨s2, t2⟩ := ih s1
    rw [Sort.alloc_eq_grow, Sort.grow_grow] at s2 t2
    rw [Sort.alloc_eq_grow] at t1
    have e : (o :: os).toArray = #[o] ++ os.toArray := by simp
    rw [e]
    exact ⟨s2, t1.trans t2⟩
theorem putRow_row {c off : Nat} {cs : Array Value} {ty : TypeId} (hw : w.heap[c]? = some (.cells cs ty (0, 0))) (l : List Int) (hl : off + l.length ≤ cs.size) :
    Sort.putRow (Value.int .i64) w c off l.toArray = w.setRow c (cs.toList.take off ++ l.map (Value.int .i64) ++ cs.toList.drop (off + (l.map (Value.int .i64)).length)).toArray := by
  unfold Sort.putRow Sort.mapBlock World.setRow
  congr 1
  apply Array.ext_getElem?
  intro k
  simp only [Array.getElem?_modify]
  by_cases hk : c = k
  · subst hk
    rw [if_pos rfl, if_pos rfl, hw]
    simp only [Option.map_some, Sort.onCells]
    congr 2
    apply Array.ext_getElem?
    intro j
    simp only [Sort.putCells, Array.getElem?_mapIdx, List.size_toArray, List.getElem?_toArray, List.length_map]
    have hcs : cs.toList.length = cs.size := by simp
    by_cases h1 : j < off
    · rw [List.append_assoc, List.getElem?_append_left (by simp; omega), List.getElem?_take, if_pos h1]
      cases hq : cs[j]? with
      | none => simp [hq]
      | some y =>
        simp [hq]
        omega
    · by_cases h2 : j < off + l.length
      · rw [List.append_assoc, List.getElem?_append_right (by simp; omega), List.getElem?_append_left (by simp; omega)]
        have hj : j < cs.size := by omega
        have hj2 : j - off < l.length := by omega
        simp only [List.length_take, hcs, Nat.min_eq_left (show off ≤ cs.size by omega), Array.getElem?_eq_getElem hj, Option.map_some, List.getElem?_map, List.getElem?_eq_getElem hj2]
        rw [if_pos ⟨by omega, by omega⟩]
        simp [hj2]
      · rw [List.getElem?_append_right (by simp; omega)]
        simp only [List.length_append, List.length_take, hcs, List.length_map, Nat.min_eq_left (show off ≤ cs.size by omega), List.getElem?_drop]
        rw [show off + l.length + (j - (off + l.length)) = j by omega]
        cases hq : cs[j]? with
        | none => simp [hq]
        | some y =>
          simp [hq]
          omega
  · rw [if_neg hk, if_neg hk]

theorem sort_ok {args : List AV} {xs : List Value} {v : AV} (e : (sortSum args).run h = some (v, h')) (s : SR h μ w) (r : VRs h μ w args xs) :
    CallsIn Fence.wide 0 Try.prog 73 xs.toArray w (Got h μ w v h') := by
  refine callsIn_wide.2 ?_
  match args, e with
  | [.sl k 0 c], e =>
    obtain ⟨rfl, rfl⟩ := qab e
    have hl := r.1
    obtain ⟨x, rfl⟩ : ∃ x, xs = [x] := by
      cases xs with
      | nil => cases hl
      | cons x t => cases t with
        | nil => exact ⟨x, rfl⟩
        | cons _ _ => simp at hl
    have hx := r.2 0 (by simp) (by simp)
    simp only [List.getElem_cons_zero] at hx
    cases hx with
    | sl _ _ _ A cap vals =>
      refine (Try.slices_Sort_int_none A cap w).mono ?_
      rintro en w' ⟨rfl, rfl⟩
      exact ⟨μ, s, Stp.refl _ _ _, .tuple [] [] rfl (fun i h1 => absurd h1 (Nat.not_lt_zero _))⟩
  | [.own id ver off n], e =>
    have hl := r.1
    obtain ⟨x, rfl⟩ : ∃ x, xs = [x] := by
      cases xs with
      | nil => cases hl
      | cons x t => cases t with
        | nil => exact ⟨x, rfl⟩
        | cons _ _ => simp at hl
    have hx := r.2 0 (by simp) (by simp)
    simp only [List.getElem_cons_zero] at hx
    cases n with
    | zero =>
      obtain ⟨⟨esz, cells, fix⟩, h1, e1, e2⟩ := bind_some e
      obtain ⟨rfl, rfl⟩ := qab e2
      obtain ⟨rfl, o, ho, hv, hb⟩ := qbw e1
      obtain ⟨ad, cap, rfl, _, _⟩ := hx.own_live ho hv hb
      refine (Try.slices_Sort_int_none (some ad) cap w).mono ?_
      rintro en w' ⟨rfl, rfl⟩
      exact ⟨μ, s, Stp.refl _ _ _, .tuple [] [] rfl (fun i h1 => absurd h1 (Nat.not_lt_zero _))⟩
    | succ n =>
      obtain ⟨⟨esz, cells, fix⟩, h1, e1, e2⟩ := bind_some e
      obtain ⟨rfl, o, ho, hv, hb⟩ := qbw e1
      obtain ⟨_, h2, e3, e4⟩ := bind_some e2
      obtain ⟨hg, rfl⟩ := qap e3
      obtain ⟨l, h3, e5, e6⟩ := bind_some e4
      obtain ⟨hl', rfl⟩ := qbb e5
      obtain ⟨_, h4, e7, e8⟩ := bind_some e6
      obtain ⟨rfl, rfl⟩ := qab e8
      simp only [Bool.and_eq_true, Nat.blt_eq] at hg
      have hg1 : off + (n + 1) ≤ cells.length := by simpa using hg.1
      have hc := intsOf_some hl'
      have hll : l.length = n + 1 := by
        have := congrArg List.length hc
        simp at this
        omega
      obtain ⟨ad, cap, rfl, _, hex⟩ := hx.own_live ho hv hb
      obtain ⟨rfl, _⟩ := hex (.inl (Nat.succ_pos _))
      obtain ⟨cs, ty, hw, hlen, hfix, hvr⟩ := s.row ho hb
      have hcell : ∀ j (hj : j < l.length), w.cell? ⟨μ id, off + j, none⟩ = some (.int .i64 l[j]) := fun j hj => by
        have hji : off + j < cells.length := by omega
        have h1 : cells[off + j]? = some (.int .i64 l[j]) := by
          have := congrArg (·[j]?) hc
          simp only [List.getElem?_take, List.getElem?_drop] at this
          rw [if_pos (by omega)] at this
          rw [this]
          simp [ints, hj]
        obtain ⟨y, hy, hvy⟩ := hvr.get? h1
        cases hvy
        rw [List.getElem?_take, if_pos hji] at hy
        unfold World.cell?
        simp only [hw]
        simpa using hy
      have hH : Sort.Holds (Value.int .i64) w (μ id) off l.toArray := fun j hj => by
        have hj' : j < l.length := by simpa using hj
        refine ⟨?_, ?_⟩
        · rw [hcell j hj']
          simp [hj']
        · unfold World.frozen?
          simp only [hw]
          simp
      have hblk : μ id < w.heap.size := (Array.getElem?_eq_some_iff.1 hw).1
      have hcall := Try.slices_Sort_int (μ id) off cap l w hH hblk (by omega)
      rw [hll] at hcall
      refine hcall.mono ?_
      rintro en w' ⟨rfl, m, os, rfl⟩
      rw [sortZ_merge, Sort.putRow_ahead]
      have hsl : (qcv l).length = n + 1 := by rw [(sortZ_perm l).length_eq, hll]
      rw [putRow_row hw (qcv l) (by omega)]
      obtain ⟨_, hsr⟩ := s.splice (P := Try.prog) ho hb hw (off := off) (new := ints (qcv l)) (vals := (qcv l).map (Value.int .i64)) (VRs.map _ fun _ _ => .int _ _) (by intro x hx; obtain ⟨z, _, rfl⟩ := List.mem_map.1 hx; rfl) (by simp; omega)
      obtain ⟨o', ho', hle, rfl⟩ := hput_some e7
      rw [ho] at ho'
      cases ho'
      have hil : (ints (qcv l)).length = ((qcv l).map (Value.int .i64)).length := by simp
      obtain ⟨s1, t1⟩ := hsr ver (splice cells off (ints (qcv l))) fix hle (by rw [qby (by simp; omega)]; exact hlen) (fun hf => by rw [qby (by simp; omega)]; exact hfix hf) (by
        have := VRs.splice hvr (VRs.map (qcv l) (f := fun i => .int .i64 i) (g := Value.int .i64) fun _ _ => VR.int _ _) off
        rw [qby (by simp; omega), ← splice_take cs.toList _ off cells.length _ rfl (by simp; omega) (by simpa using hlen)]
        exact this)
      obtain ⟨s2, t2⟩ := s1.drawn (w' := Sort.ahead (w.setRow (μ id) (cs.toList.take off ++ (qcv l).map (Value.int .i64) ++ cs.toList.drop (off + ((qcv l).map (Value.int .i64)).length)).toArray) m) rfl rfl rfl rfl
      obtain ⟨s3, t3⟩ := s2.grow os.toList
      rw [Array.toArray_toList] at s3 t3
      exact ⟨μ, s3, (t1.trans t2).trans t3, .tuple [] [] rfl (fun i h1 => absurd h1 (Nat.not_lt_zero _))⟩
end
end Go.Am
