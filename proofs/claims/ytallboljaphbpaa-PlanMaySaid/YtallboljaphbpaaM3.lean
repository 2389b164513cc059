/- law27: guesses on the A-machine. -/
import Derived.Test.YtallboljaphbpaaM2
set_option linter.unusedVariables false
set_option linter.unusedSimpArgs false
namespace Go.Am
open Go AM
set_option linter.unusedVariables false

/-! ### chunks -/
/-- objects, and what is said of them -/
structure Ck where
  ids : List Nat
  p : Hp → Prop
  loc : ∀ h h' : Hp, (∀ i ∈ ids, ∀ o, h.get i = some o → h'.get i = some o) → p h → p h'
  dom : ∀ h, p h → ∀ i ∈ ids, (h.get i).isSome = true

/-- the cells of a row of things -/
def qc3 {α : Type} (f : α → List AV) (l : List α) : List AV := l.flatMap f
theorem flat_nil {α : Type} (f : α → List AV) : qc3 f [] = [] := rfl
theorem qc6 {α : Type} (f : α → List AV) (x : α) (l : List α) : qc3 f (x :: l) = f x ++ qc3 f l := by simp [qc3]
theorem flat_append {α : Type} (f : α → List AV) (l m : List α) : qc3 f (l ++ m) = qc3 f l ++ qc3 f m := by simp [qc3]
theorem qcu {α : Type} {f : α → List AV} {sz : Nat} (hf : ∀ x, (f x).length = sz) : ∀ l : List α, (qc3 f l).length = l.length * sz
  | [] => by simp [qc3]
  | x :: l => by rw [qc6, List.length_append, hf, qcu hf l, List.length_cons, Nat.succ_mul, Nat.add_comm]
theorem flat_drop {α : Type} {f : α → List AV} {sz : Nat} (hf : ∀ x, (f x).length = sz) : ∀ (l : List α) (i : Nat), (qc3 f l).drop (i * sz) = qc3 f (l.drop i)
  | l, 0 => by simp
  | [], i + 1 => by simp [qc3]
  | x :: l, i + 1 => by
    rw [qc6, Nat.succ_mul, Nat.add_comm, ← List.drop_drop, show List.drop sz (f x ++ qc3 f l) = qc3 f l by rw [← hf x, List.drop_left']; rfl]
    exact flat_drop hf l i
theorem flat_take {α : Type} {f : α → List AV} {sz : Nat} (hf : ∀ x, (f x).length = sz) (l : List α) (i : Nat) : (qc3 f l).take (i * sz) = qc3 f (l.take i) := by
  by_cases h : i ≤ l.length
  · have e : qc3 f l = qc3 f (l.take i) ++ qc3 f (l.drop i) := by rw [← flat_append, List.take_append_drop]
    rw [e, List.take_left']
    rw [qcu hf, List.length_take, Nat.min_eq_left h]
  · have : l.length * sz ≤ i * sz := Nat.mul_le_mul_right _ (by omega)
    rw [List.take_of_length_le (by rw [qcu hf]; exact this), List.take_of_length_le (by omega)]
theorem flat_get {α : Type} {f : α → List AV} {sz : Nat} (hf : ∀ x, (f x).length = sz) {l : List α} {i : Nat} {x : α} (hx : l[i]? = some x) : ((qc3 f l).drop (i * sz)).take sz = f x := by
  obtain ⟨hi, rfl⟩ := List.getElem?_eq_some_iff.1 hx
  rw [flat_drop hf, List.drop_eq_getElem_cons hi, qc6, ← hf l[i], List.take_left']
  rfl
/-- a slice of things -/
abbrev Rows {α : Type} (f : α → List AV) (sz : Nat) (h : Hp) (v : AV) (l : List α) : Prop := SlV h sz v l.length (qc3 f l)
class FL {α : Type} (f : α → List AV) (sz : outParam Nat) : Prop where len : ∀ x, (f x).length = sz

def Ck.row (id ver esz : Nat) (cells : List AV) (fix : Bool) : Ck where
  ids := [id]
  p h := Row h id ver esz cells fix
  loc h h' k r := by obtain ⟨st, e⟩ := r; exact ⟨st, k id (by simp) _ e⟩
  dom h r i hi := by simp at hi; subst hi; obtain ⟨st, e⟩ := r; rw [e]; rfl
def Ck.map (id : Nat) (es : List (AV × AV)) : Ck where
  ids := [id]
  p h := MapAt h id es
  loc h h' k r := by obtain ⟨v, st, e⟩ := r; exact ⟨v, st, k id (by simp) _ e⟩
  dom h r i hi := by simp at hi; subst hi; obtain ⟨v, st, e⟩ := r; rw [e]; rfl
theorem SlV.loc {h h' : Hp} {sz n : Nat} {v : AV} {cells : List AV} (s : SlV h sz v n cells) (q : ∀ i ∈ qb1 v, ∀ o, h.get i = some o → h'.get i = some o) : SlV h' sz v n cells := by
  cases s with
  | imm k n _ e => exact .imm k n _ e
  | own id ver off n row fix r e => obtain ⟨st, ho⟩ := r; exact .own id ver off n row fix ⟨st, q id (by simp [qb1]) _ ho⟩ e
/-- a slice that may grow -/
def Ck.rows {α : Type} (f : α → List AV) (sz : Nat) (v : AV) (l : List α) : Ck where
  ids := qb1 v
  p h := Rows f sz h v l ∧ qdh v = true
  loc h h' k r := ⟨r.1.loc k, r.2⟩
  dom h r := r.1.ids.2
/-- a slice -/
def Ck.ro {α : Type} (f : α → List AV) (sz : Nat) (v : AV) (l : List α) : Ck where
  ids := qb1 v
  p h := Rows f sz h v l
  loc h h' k r := r.loc k
  dom h r := r.ids.2

def cids (L : List Ck) : List Nat := L.flatMap Ck.ids
theorem qck (c : Ck) (L : List Ck) : cids (c :: L) = c.ids ++ cids L := by simp [cids]
theorem qdf (L M : List Ck) : cids (L ++ M) = cids L ++ cids M := by simp [cids]
theorem mem_cids {c : Ck} {L : List Ck} (hc : c ∈ L) {i : Nat} (hi : i ∈ c.ids) : i ∈ cids L := List.mem_flatMap.2 ⟨c, hc, hi⟩

/-- what a function holds: where it began, what it may turn, what it must leave -/
structure Bs where
  h : Hp
  X : List Nat
  W : List Ck
structure St (B : Bs) (L : List Ck) (h : Hp) : Prop where
  wf : B.h.WF
  keep : KeepBut (· ∈ B.X) B.h h
  all : ∀ c ∈ L ++ B.W, c.p h
  nd : (cids (L ++ B.W)).Nodup
  own : ∀ i ∈ cids L, i ∈ B.X ∨ B.h.next ≤ i

section
variable {B : Bs} {L M : List Ck} {h h1 : Hp} {c c' : Ck}
theorem Ck.lt (w : h.WF) (hp : c.p h) : ∀ i ∈ c.ids, i < h.next := fun i hi => by
  obtain ⟨o, ho⟩ := Option.isSome_iff_exists.1 (c.dom h hp i hi)
  exact w i o ho
theorem Ck.keep (k : Keep h h1) (hp : c.p h) : c.p h1 := c.loc h h1 (fun i _ o => k.same i o) hp
theorem St.lt (s : St B L h) (w : h.WF) : ∀ i ∈ cids (L ++ B.W), i < h.next := fun i hi => by
  obtain ⟨c, hc, hi⟩ := List.mem_flatMap.1 hi
  exact Ck.lt w (s.all c hc) i hi
theorem St.perm (s : St B L h) (e : L.Perm M) : St B M h where
  wf := s.wf
  keep := s.keep
  all := fun c hc => s.all c ((e.append_right B.W).mem_iff.2 hc)
  nd := ((e.append_right B.W).flatMap_right Ck.ids).nodup_iff.1 s.nd
  own := fun i hi => s.own i ((e.flatMap_right Ck.ids).mem_iff.2 hi)
theorem cids_sub {L M : List Ck} (e : M.Sublist L) : (cids M).Sublist (cids L) := by
  induction e with
  | slnil => exact .slnil
  | cons a _ ih => rw [qck]; exact ih.trans (List.sublist_append_right _ _)
  | cons_cons a _ ih => rw [qck, qck]; exact ih.append_left _
theorem St.sub (s : St B L h) (e : M.Sublist L) : St B M h where
  wf := s.wf
  keep := s.keep
  all := fun c hc => s.all c ((e.append_right B.W).subset hc)
  nd := s.nd.sublist (cids_sub (e.append_right B.W))
  own := fun i hi => s.own i ((cids_sub e).subset hi)
theorem St.keepH (s : St B L h) (k : Keep h h1) : St B L h1 where
  wf := s.wf
  keep := s.keep.trans (k.but _)
  all := fun c hc => Ck.keep k (s.all c hc)
  nd := s.nd
  own := s.own
/-- new chunks -/
theorem St.new (s : St B L h) (w : h.WF) (k : Keep h h1) {N : List Ck} (hN : ∀ c ∈ N, c.p h1) (hn : (cids N).Nodup) (hf : ∀ i ∈ cids N, h.next ≤ i) : St B (N ++ L) h1 where
  wf := s.wf
  keep := s.keep.trans (k.but _)
  all := fun c hc => by
    rw [List.append_assoc] at hc
    rcases List.mem_append.1 hc with q | q
    · exact hN c q
    · exact Ck.keep k (s.all c q)
  nd := by
    rw [List.append_assoc, qdf]
    refine List.nodup_append.2 ⟨hn, s.nd, fun a ha b hb e => ?_⟩
    subst e
    have := hf a ha
    have := s.lt w a hb
    omega
  own := fun i hi => by
    rw [qdf] at hi
    rcases List.mem_append.1 hi with q | q
    · have := hf i q; have := s.keep.next; right; omega
    · exact s.own i q
/-- one chunk is turned -/
theorem St.put (s : St B (c :: L) h) (w : h.WF) (k : KeepBut (· ∈ c.ids) h h1) (hp : c'.p h1) (hi : ∀ i ∈ c'.ids, i ∈ c.ids ∨ h.next ≤ i) (hn : c'.ids.Nodup) : St B (c' :: L) h1 where
  wf := s.wf
  keep := ⟨fun id o hx e => k.same id o (fun q => by
      rcases s.own id (by rw [qck]; exact List.mem_append.2 (.inl q)) with u | u
      · exact hx u
      · have := s.wf id o e; omega) (s.keep.same id o hx e), Nat.le_trans s.keep.next k.next⟩
  all := fun d hd => by
    rcases List.mem_cons.1 hd with rfl | q
    · exact hp
    · refine d.loc h h1 (fun i hi' o e => k.same i o (fun u => ?_) e) (s.all d (List.mem_cons_of_mem _ q))
      have := s.nd
      rw [List.cons_append, qck] at this
      exact (List.nodup_append.1 this).2.2 i u i (mem_cids q hi') rfl
  nd := by
    have := s.nd
    rw [List.cons_append, qck] at this ⊢
    obtain ⟨_, h2, h3⟩ := List.nodup_append.1 this
    refine List.nodup_append.2 ⟨hn, h2, fun a ha b hb e => ?_⟩
    subst e
    rcases hi a ha with q | q
    · exact h3 a q a hb rfl
    · have := s.lt w a (by rw [List.cons_append, qck]; exact List.mem_append.2 (.inr hb)); omega
  own := fun i q => by
    rw [qck] at q
    rcases List.mem_append.1 q with q | q
    · rcases hi i q with u | u
      · exact s.own i (by rw [qck]; exact List.mem_append.2 (.inl u))
      · have := s.keep.next; right; omega
    · exact s.own i (by rw [qck]; exact List.mem_append.2 (.inr q))
/-- into a call, that may turn some chunks, and out of it -/
theorem St.into {C R : List Ck} (s : St B (C ++ R) h) (w : h.WF) : St ⟨h, cids C, R ++ B.W⟩ C h where
  wf := w
  keep := KeepBut.refl _
  all := fun c hc => s.all c (by rw [List.append_assoc]; exact hc)
  nd := by have := s.nd; rw [List.append_assoc] at this; exact this
  own := fun i hi => .inl hi
theorem St.out {C R N : List Ck} (s : St B (C ++ R) h) (t : St ⟨h, cids C, R ++ B.W⟩ N h1) : St B (N ++ R) h1 where
  wf := s.wf
  keep := ⟨fun id o hx e => t.keep.same id o (fun q => by
      rcases s.own id (by rw [qdf]; exact List.mem_append.2 (.inl q)) with u | u
      · exact hx u
      · have := s.wf id o e; omega) (s.keep.same id o hx e), Nat.le_trans s.keep.next t.keep.next⟩
  all := fun d hd => t.all d (by rw [List.append_assoc] at hd; exact hd)
  nd := by have := t.nd; rw [List.append_assoc]; exact this
  own := fun i q => by
    rw [qdf] at q
    rcases List.mem_append.1 q with q | q
    · rcases t.own i q with u | u
      · exact s.own i (by rw [qdf]; exact List.mem_append.2 (.inl u))
      · have : B.h.next ≤ h.next := s.keep.next
        have : h.next ≤ i := u
        right; omega
    · exact s.own i (by rw [qdf]; exact List.mem_append.2 (.inr q))
end

/-! ### a call's contract -/
/-- what a run that holds C, and must leave W, gives: a value, and what it holds then -/
def QF (B : Bs) (Post : AV → List Ck → Prop) : AV → Hp → Prop := fun v h => ∃ N, Post v N ∧ St B N h
def Cal (C W : List Ck) (m : AM AV) (Post : AV → List Ck → Prop) : Prop := ∀ h, St ⟨h, cids C, W⟩ C h → Runs m h (QF ⟨h, cids C, W⟩ Post)
theorem Cal.mono {C W : List Ck} {m : AM AV} {P Q : AV → List Ck → Prop} (r : Cal C W m P) (k : ∀ v N, P v N → Q v N) : Cal C W m Q := fun h s => (r h s).mono fun v h' ⟨N, p, t⟩ => ⟨N, k v N p, t⟩
/-- a run that turns nothing -/
theorem Cal.of {W : List Ck} {m : AM AV} {Post : AV → List Ck → Prop} (r : ∀ h, h.WF → (∀ c ∈ W, c.p h) → Runs m h fun v h' => Keep h h' ∧ ∃ N, Post v N ∧ (∀ c ∈ N, c.p h') ∧ (cids N).Nodup ∧ ∀ i ∈ cids N, h.next ≤ i) : Cal [] W m Post := fun h s => by
  refine Runs.wf fun w => (r h w fun c hc => s.all c hc).mono fun v h' ⟨k, N, p, a, b, d⟩ => ⟨N, p, ?_⟩
  have := s.new w k a b d
  rwa [List.append_nil] at this
/-- a run that turns nothing, and makes nothing that is told -/
theorem Cal.of0 {W : List Ck} {m : AM AV} {P : AV → Prop} (r : ∀ h, h.WF → (∀ c ∈ W, c.p h) → Runs m h fun v h' => Keep h h' ∧ P v) : Cal [] W m fun v N => P v ∧ N = [] :=
  Cal.of fun h w k => (r h w k).mono fun v h' ⟨k1, p⟩ => ⟨k1, [], ⟨p, rfl⟩, (fun c hc => by cases hc), List.nodup_nil, fun i hi => by cases hi⟩
theorem Cal.keep {W : List Ck} {m : AM AV} {h : Hp} {Post : AV → List Ck → Prop} (r : Cal [] W m Post) (w : h.WF) (hW : ∀ c ∈ W, c.p h) (hn : (cids W).Nodup) : Runs m h fun v h' => Keep h h' ∧ ∃ N, Post v N ∧ (∀ c ∈ N, c.p h') ∧ ∀ i ∈ cids N, h.next ≤ i :=
  (r h ⟨w, KeepBut.refl _, hW, hn, fun i hi => by cases hi⟩).mono fun v h' ⟨N, p, t⟩ => ⟨⟨fun id o e => t.keep.same id o (fun q => by cases q) e, t.keep.next⟩, N, p, fun c hc => t.all c (List.mem_append.2 (.inl hc)), fun i hi => (t.own i hi).resolve_left (fun q => by cases q)⟩
end Go.Am
namespace Go.Am
open Go AM
set_option linter.unusedVariables false
set_option synthInstance.maxHeartbeats 200000

/-- a step: what is to be shown, and of what it follows -/
class Wk (P : Prop) (G : outParam Prop) : Prop where go : G → P

/-- a truth value that is known -/
class Is (b : Bool) (v : outParam Bool) : Prop where eq : b = v
instance : Is true true := ⟨rfl⟩
instance : Is false false := ⟨rfl⟩
instance {b : Bool} [a : Is b true] : Is (!b) false := ⟨by rw [a.eq]; rfl⟩
instance {b : Bool} [a : Is b false] : Is (!b) true := ⟨by rw [a.eq]; rfl⟩
/-! ### slots, operands -/
class Lk (T : qba) (t : Nat) (v : outParam AV) : Prop where eq : qbq T t = v
instance lk_none {nt t : Nat} {T : qba} {v w : AV} [a : Lk T t v] : Lk (qbv? nt T none w) t v := ⟨a.eq⟩
instance lk_ne {nt t u : Nat} {T : qba} {v w : AV} [e : Same (Nat.beq t u) false] [a : Lk T t v] : Lk (qbv? nt T (some u) w) t v := ⟨qaf e.eq a.eq⟩
instance lk_same {nt t : Nat} {T : qba} {v : AV} [e : Same (Nat.ble (t + 1) nt) true] : Lk (qbv? nt T (some t) v) t v := ⟨qaa e.eq⟩
class Nth (l : List AV) (t : Nat) (v : outParam AV) : Prop where eq : l[t]? = some v
instance nth_0 {l : List AV} {v : AV} : Nth (v :: l) 0 v := ⟨rfl⟩
instance nth_s {l : List AV} {v w : AV} {t : Nat} [a : Nth l t v] : Nth (w :: l) (t + 1) v := ⟨by simpa using a.eq⟩
/-- a function's arguments stand in its first slots -/
class Args (T : qba) (l : outParam (List AV)) : Prop where at_ : ∀ i v, l[i]? = some v → qbq T i = v
instance (priority := 500) lk_args {T : qba} {l : List AV} {t : Nat} {v : AV} [a : Args T l] [b : Nth l t v] : Lk T t v := ⟨a.at_ t v b.eq⟩
/-- some slots stand as they did -/
class Agr (K : outParam (List Nat)) (T0 : outParam qba) (T : qba) : Prop where eq : ∀ t ∈ K, qbq T t = qbq T0 t
class MemN (t : Nat) (K : List Nat) : Prop where mem : t ∈ K
instance memn_0 {t : Nat} {K : List Nat} : MemN t (t :: K) := ⟨List.mem_cons_self⟩
instance (priority := 900) memn_s {t u : Nat} {K : List Nat} [a : MemN t K] : MemN t (u :: K) := ⟨List.mem_cons_of_mem _ a.mem⟩
instance (priority := 400) lk_agr {T0 T : qba} {K : List Nat} {t : Nat} {v : AV} [a : Agr K T0 T] [b : MemN t K] [c : Lk T0 t v] : Lk T t v := ⟨(a.eq t b.mem).trans c.eq⟩

class Ev (T : qba) (x : Operand) (v : outParam AV) : Prop where eq : qbd T x = v
instance {T : qba} {t : Nat} {v : AV} [a : Lk T t v] : Ev T (.tmp t) v := ⟨a.eq⟩
instance {T : qba} {k : IntKind} {n : Int} : Ev T (.const (.int k n)) (.int k n) := ⟨rfl⟩
instance {T : qba} {b : Bool} : Ev T (.const (.bool b)) (.bool b) := ⟨rfl⟩
instance {T : qba} {s : ByteArray} : Ev T (.const (.string s)) (.str s.data.toList) := ⟨rfl⟩
instance {T : qba} {l : List UInt8} : Ev T (.const (.string ⟨l.toArray⟩)) (.str l) := ⟨rfl⟩
instance {T : qba} : Ev T (.const (.pointer none)) .nilptr := ⟨rfl⟩
instance {T : qba} : Ev T (.const (.slice none 0 0)) (.sl .nil 0 []) := ⟨rfl⟩
instance {T : qba} : Ev T (.const (.map none)) .nilmap := ⟨rfl⟩
instance {T : qba} : Ev T (.const .nilFunc) .nilfunc := ⟨rfl⟩
instance {T : qba} {f : FuncId} : Ev T (.func f) (.func (.func f) [] []) := ⟨rfl⟩
class qd3 (cs : List Value) (l : outParam (List AV)) : Prop where eq : cs.map ofCell = l
instance : qd3 [] [] := ⟨rfl⟩
instance {k : IntKind} {n : Int} {cs : List Value} {l : List AV} [a : qd3 cs l] : qd3 (.int k n :: cs) (.int k n :: l) := ⟨by rw [List.map_cons, a.eq]; rfl⟩
instance {b : Bool} {cs : List Value} {l : List AV} [a : qd3 cs l] : qd3 (.bool b :: cs) (.bool b :: l) := ⟨by rw [List.map_cons, a.eq]; rfl⟩
instance {s : List UInt8} {cs : List Value} {l : List AV} [a : qd3 cs l] : qd3 (.string ⟨s.toArray⟩ :: cs) (.str s :: l) := ⟨by rw [List.map_cons, a.eq]; rfl⟩
instance {cs : List Value} {l : List AV} [a : qd3 cs l] : qd3 (.slice none 0 0 :: cs) (.sl .nil 0 [] :: l) := ⟨by rw [List.map_cons, a.eq]; rfl⟩
instance {cs : List Value} {l : List AV} [a : qd3 cs l] : qd3 (.pointer none :: cs) (.nilptr :: l) := ⟨by rw [List.map_cons, a.eq]; rfl⟩
instance {cs : List Value} {l : List AV} [a : qd3 cs l] : qd3 (.map none :: cs) (.nilmap :: l) := ⟨by rw [List.map_cons, a.eq]; rfl⟩
instance {T : qba} {cs : List Value} {l : List AV} [a : qd3 cs l] : Ev T (.const (.agg cs.toArray)) (.agg l) := ⟨by show AV.agg _ = _; rw [← a.eq]⟩

class Evs (T : qba) (xs : List Operand) (vs : outParam (List AV)) : Prop where eq : xs.map (qbd T) = vs
instance {T : qba} : Evs T [] [] := ⟨rfl⟩
instance {T : qba} {x : Operand} {xs : List Operand} {v : AV} {vs : List AV} [a : Ev T x v] [b : Evs T xs vs] : Evs T (x :: xs) (v :: vs) := ⟨qbb a.eq b.eq⟩
class Evp (T : qba) (xs : List (Nat × Operand)) (vs : outParam (List (Nat × AV))) : Prop where eq : xs.map (fun (i, x) => (i, qbd T x)) = vs
instance {T : qba} : Evp T [] [] := ⟨rfl⟩
instance {T : qba} {j : Nat} {x : Operand} {xs : List (Nat × Operand)} {v : AV} {vs : List (Nat × AV)} [a : Ev T x v] [b : Evp T xs vs] : Evp T ((j, x) :: xs) ((j, v) :: vs) := ⟨qbs a.eq b.eq⟩

/-! ### lists of cells -/
class Dr (l : List AV) (n : Nat) (r : outParam (List AV)) : Prop where
  eq : l.drop n = r
  le : n ≤ l.length
instance dr_0 {l : List AV} : Dr l 0 l := ⟨rfl, Nat.zero_le _⟩
instance dr_s {l r : List AV} {v : AV} {n : Nat} [a : Dr l n r] : Dr (v :: l) (n + 1) r := ⟨a.eq, Nat.succ_le_succ a.le⟩
instance dr_add {l l' r : List AV} {a b : Nat} [x : Dr l a l'] [y : Dr l' b r] : Dr l (a + b) r := ⟨by rw [← List.drop_drop, x.eq, y.eq], by have := x.le; have h := y.le; rw [← x.eq, List.length_drop] at h; omega⟩
class Tk (l : List AV) (n : Nat) (r : outParam (List AV)) : Prop where
  eq : l.take n = r
  le : n ≤ l.length
instance tk_0 {l : List AV} : Tk l 0 [] := ⟨rfl, Nat.zero_le _⟩
instance tk_s {l r : List AV} {v : AV} {n : Nat} [a : Tk l n r] : Tk (v :: l) (n + 1) (v :: r) := ⟨by rw [List.take_succ_cons, a.eq], Nat.succ_le_succ a.le⟩
class Len (l : List AV) (n : outParam Nat) : Prop where eq : l.length = n
instance : Len [] 0 := ⟨rfl⟩
instance {l : List AV} {v : AV} {n : Nat} [a : Len l n] : Len (v :: l) (n + 1) := ⟨by rw [List.length_cons, a.eq]⟩
class Spl (l : List AV) (n : Nat) (vs : List AV) (r : outParam (List AV)) : Prop where
  eq : splice l n vs = r
  le : n + vs.length ≤ l.length
instance spl_nil {l : List AV} : Spl l 0 [] l := ⟨by simp [splice], by simp⟩
instance spl_0 {l r vs : List AV} {v w : AV} [a : Spl l 0 vs r] : Spl (v :: l) 0 (w :: vs) (w :: r) := ⟨by rw [← a.eq]; simp [splice], by have := a.le; simp at this ⊢; exact this⟩
instance spl_s {l r vs : List AV} {v : AV} {n : Nat} [a : Spl l n vs r] : Spl (v :: l) (n + 1) vs (v :: r) := ⟨by
  rw [← a.eq]; simp only [splice, List.take_succ_cons, List.cons_append]
  rw [show n + 1 + vs.length = (n + vs.length) + 1 by omega, List.drop_succ_cons], by have := a.le; simp; omega⟩
instance spl_z {l r vs : List AV} {n : Nat} [a : Spl l n vs r] : Spl l (0 + n) vs r := ⟨by rw [Nat.zero_add]; exact a.eq, by rw [Nat.zero_add]; exact a.le⟩
class VNth (l : List AV) (j : Nat) (v : outParam AV) : Prop where eq : l[j]? = some v
instance {l : List AV} {j : Nat} {v : AV} [a : Nth l j v] : VNth l j v := ⟨a.eq⟩

/-! ### chunks in lists -/
class qdu (L W : List Ck) (id : Nat) (ver esz : outParam Nat) (cells : outParam (List AV)) (fix : outParam Bool) : Prop where mem : Ck.row id ver esz cells fix ∈ L ++ W
instance (priority := 900) hasrow_s {c : Ck} {L W : List Ck} {id ver esz : Nat} {cells : List AV} {fix : Bool} [a : qdu L W id ver esz cells fix] : qdu (c :: L) W id ver esz cells fix := ⟨List.mem_cons_of_mem _ a.mem⟩
instance hasrow_0 {L W : List Ck} {id ver esz : Nat} {cells : List AV} {fix : Bool} : qdu (.row id ver esz cells fix :: L) W id ver esz cells fix := ⟨List.mem_cons_self⟩
instance (priority := 900) hasrow_w {c : Ck} {W : List Ck} {id ver esz : Nat} {cells : List AV} {fix : Bool} [a : qdu (c :: W) [] id ver esz cells fix] : qdu [] (c :: W) id ver esz cells fix := ⟨by have := a.mem; simpa using this⟩
instance (priority := 900) hasrow_a {R W : List Ck} {id ver esz : Nat} {cells : List AV} {fix : Bool} [a : qdu R W id ver esz cells fix] : qdu [] (R ++ W) id ver esz cells fix := ⟨by have := a.mem; simpa using this⟩
class HasMap (L W : List Ck) (id : Nat) (es : outParam (List (AV × AV))) : Prop where mem : Ck.map id es ∈ L ++ W
instance (priority := 900) hasmap_s {c : Ck} {L W : List Ck} {id : Nat} {es : List (AV × AV)} [a : HasMap L W id es] : HasMap (c :: L) W id es := ⟨List.mem_cons_of_mem _ a.mem⟩
instance hasmap_0 {L W : List Ck} {id : Nat} {es : List (AV × AV)} : HasMap (.map id es :: L) W id es := ⟨List.mem_cons_self⟩
instance (priority := 900) hasmap_a {R W : List Ck} {id : Nat} {es : List (AV × AV)} [a : HasMap R W id es] : HasMap [] (R ++ W) id es := ⟨by have := a.mem; simpa using this⟩
/-- a slice is there, and what it holds -/
class HasRows (L W : List Ck) (v : AV) {α : outParam Type} (f : outParam (α → List AV)) (sz : outParam Nat) (l : outParam (List α)) : Prop where has : ∀ h, (∀ c ∈ L ++ W, c.p h) → Rows f sz h v l
section
variable {L W R : List Ck} {v : AV} {α : Type} {f : α → List AV} {sz : Nat} {l : List α} {c : Ck}
instance (priority := 900) hasrows_s [a : HasRows L W v f sz l] : HasRows (c :: L) W v f sz l := ⟨fun h k => a.has h fun d hd => k d (List.mem_cons_of_mem _ hd)⟩
instance hasrows_0 : HasRows (.rows f sz v l :: L) W v f sz l := ⟨fun h k => (k _ List.mem_cons_self).1⟩
instance hasrows_1 : HasRows (.ro f sz v l :: L) W v f sz l := ⟨fun h k => k _ List.mem_cons_self⟩
instance (priority := 900) hasrows_w [a : HasRows (c :: W) [] v f sz l] : HasRows [] (c :: W) v f sz l := ⟨fun h k => a.has h fun d hd => k d (by simpa using hd)⟩
instance (priority := 900) hasrows_a [a : HasRows R W v f sz l] : HasRows [] (R ++ W) v f sz l := ⟨fun h k => a.has h fun d hd => k d (by simpa using hd)⟩
instance (priority := 800) hasrows_f [a : HasRows [] W v f sz l] : HasRows [] (R ++ W) v f sz l := ⟨fun h k => a.has h fun d hd => k d (by simp at hd ⊢; exact .inr hd)⟩
end
/-- single cells, whose encoding is known -/
class Enc (cells : List AV) {α : outParam Type} (f : outParam (α → List AV)) (x : outParam α) : Prop where eq : cells = f x
instance hasrows_lit {L W : List Ck} {k : SK} {cells : List AV} {α : Type} {f : α → List AV} {sz : Nat} {x : α} [a : Enc cells f x] [b : FL f sz] : HasRows L W (.sl k 1 cells) f sz [x] := ⟨fun h _ => by
  obtain rfl := a.eq
  have := SlV.imm (h := h) (sz := sz) k 1 (f x) (by rw [b.len, Nat.one_mul])
  show SlV h sz _ 1 (qc3 f [x])
  rw [qc6, flat_nil, List.append_nil]; exact this⟩

class Up (L : List Ck) (c c' : Ck) (L' : outParam (List Ck)) : Prop where perm : ∃ R, L.Perm (c :: R) ∧ (c' :: R).Perm L'
instance (priority := 900) up_s {d c c' : Ck} {L L' : List Ck} [a : Up L c c' L'] : Up (d :: L) c c' (d :: L') := ⟨by
  obtain ⟨R, h1, h2⟩ := a.perm
  exact ⟨d :: R, (h1.cons d).trans (.swap _ _ _), (List.Perm.swap _ _ _).trans (h2.cons d)⟩⟩
instance up_0 {c c' : Ck} {L : List Ck} : Up (c :: L) c c' (c' :: L) := ⟨L, .refl _, .refl _⟩
/-- a chunk is taken out -/
class Tak (L : List Ck) (c : Ck) (R : outParam (List Ck)) : Prop where perm : L.Perm (c :: R)
instance (priority := 900) tak_s {d c : Ck} {L R : List Ck} [a : Tak L c R] : Tak (d :: L) c (d :: R) := ⟨(a.perm.cons d).trans (.swap _ _ _)⟩
instance tak_0 {c : Ck} {L : List Ck} : Tak (c :: L) c L := ⟨.refl _⟩
class Taks (L C : List Ck) (R : outParam (List Ck)) : Prop where perm : L.Perm (C ++ R)
instance taks_nil {L : List Ck} : Taks L [] L := ⟨.refl _⟩
instance taks_cons {L R S C : List Ck} {c : Ck} [a : Tak L c S] [b : Taks S C R] : Taks L (c :: C) R := ⟨a.perm.trans (b.perm.cons c)⟩
instance (priority := 100) taks_end {C : List Ck} : Taks C C [] := ⟨by rw [List.append_nil]⟩
instance (priority := 90) taks_tail {L R C : List Ck} {c : Ck} [a : Taks L C R] : Taks (c :: L) C (c :: R) := ⟨(a.perm.cons c).trans List.perm_middle.symm⟩
/-- a chunk is taken out, or a weaker one -/
class Tkw (L : List Ck) (c : Ck) (R : outParam (List Ck)) : Prop where st : ∀ (B : Bs) (h : Hp) (Z : List Ck), St B (Z ++ L) h → St B (Z ++ c :: R) h
instance (priority := 900) tkw_s {d c : Ck} {L R : List Ck} [a : Tkw L c R] : Tkw (d :: L) c (d :: R) := ⟨fun B h Z s => by
  have h1 := a.st B h (Z ++ [d]) (by simpa using s)
  exact h1.perm (by rw [List.append_assoc]; exact (List.Perm.swap _ _ _).append_left Z)⟩
instance tkw_0 {c : Ck} {L : List Ck} : Tkw (c :: L) c L := ⟨fun B h Z s => s⟩
/-- fewer chunks -/
class Sb (L M : List Ck) : Prop where st : ∀ (B : Bs) (h : Hp) (Z : List Ck), St B (Z ++ L) h → St B (Z ++ M) h
instance sb_nil {L : List Ck} : Sb L [] := ⟨fun B h Z s => s.sub (by rw [List.append_nil]; exact List.sublist_append_left _ _)⟩
instance sb_cons {L R M : List Ck} {c : Ck} [a : Tkw L c R] [b : Sb R M] : Sb L (c :: M) := ⟨fun B h Z s => by
  have := b.st B h (Z ++ [c]) (by simpa using a.st B h Z s)
  simpa using this⟩
instance (priority := 100) sb_refl {L : List Ck} : Sb L L := ⟨fun B h Z s => s⟩
instance (priority := 50) sb_skip {L M : List Ck} {c : Ck} [a : Sb L M] : Sb (c :: L) M := ⟨fun B h Z s => a.st B h Z (s.sub ((List.sublist_cons_self _ _).append_left Z))⟩
theorem St.sb {B : Bs} {L M : List Ck} {h : Hp} (s : St B L h) (k : Sb L M) : St B M h := k.st B h [] s
theorem tkw_imp {c c' : Ck} {L : List Ck} (hi : c'.ids = c.ids) (hp : ∀ h, c.p h → c'.p h) : Tkw (c :: L) c' L := ⟨fun B h Z s => {
  wf := s.wf
  keep := s.keep
  all := fun d hd => by
    rw [List.append_assoc, List.mem_append, List.cons_append, List.mem_cons] at hd
    rcases hd with q | rfl | q
    · exact s.all d (by rw [List.append_assoc]; exact List.mem_append.2 (.inl q))
    · exact hp h (s.all c (by simp))
    · exact s.all d (by rw [List.append_assoc, List.cons_append]; exact List.mem_append.2 (.inr (List.mem_cons_of_mem _ q)))
  nd := by have := s.nd; simp only [qdf, qck, hi] at this ⊢; exact this
  own := fun i q => s.own i (by simp only [qdf, qck, hi] at q ⊢; exact q) }⟩
class App (N R : List Ck) (M : outParam (List Ck)) : Prop where eq : N ++ R = M
instance {R : List Ck} : App [] R R := ⟨rfl⟩
instance {c : Ck} {N R M : List Ck} [a : App N R M] : App (c :: N) R (c :: M) := ⟨by rw [List.cons_append, a.eq]⟩

/-- a value's cells -/
class Cell (L W : List Ck) (v : AV) : Prop where cell : ∀ h, (∀ c ∈ L ++ W, c.p h) → acells v = [v] ∧ known v = true ∧ one v = true
section
variable {L W : List Ck}
instance {b : Bool} : Cell L W (.bool b) := ⟨fun _ _ => ⟨rfl, rfl, rfl⟩⟩
instance {k : IntKind} {n : Int} : Cell L W (.int k n) := ⟨fun _ _ => ⟨rfl, rfl, rfl⟩⟩
instance {s : List UInt8} : Cell L W (.str s) := ⟨fun _ _ => ⟨rfl, rfl, rfl⟩⟩
instance : Cell L W .nilptr := ⟨fun _ _ => ⟨rfl, rfl, rfl⟩⟩
instance {a b c : Nat} : Cell L W (.ptr a b c) := ⟨fun _ _ => ⟨rfl, rfl, rfl⟩⟩
instance {l : List AV} : Cell L W (.iptr l) := ⟨fun _ _ => ⟨rfl, rfl, rfl⟩⟩
instance {k : SK} {n : Nat} {l : List AV} : Cell L W (.sl k n l) := ⟨fun _ _ => ⟨rfl, rfl, rfl⟩⟩
instance {a b c n : Nat} : Cell L W (.own a b c n) := ⟨fun _ _ => ⟨rfl, rfl, rfl⟩⟩
instance : Cell L W .nilmap := ⟨fun _ _ => ⟨rfl, rfl, rfl⟩⟩
instance {i : Nat} : Cell L W (.mapv i) := ⟨fun _ _ => ⟨rfl, rfl, rfl⟩⟩
instance : Cell L W .nilfunc := ⟨fun _ _ => ⟨rfl, rfl, rfl⟩⟩
instance {f : Fn} {a b : List AV} : Cell L W (.func f a b) := ⟨fun _ _ => ⟨rfl, rfl, rfl⟩⟩
instance {t : TypeId} {v : AV} : Cell L W (.iface t v) := ⟨fun _ _ => ⟨rfl, rfl, rfl⟩⟩
instance : Cell L W .niliface := ⟨fun _ _ => ⟨rfl, rfl, rfl⟩⟩
instance (priority := 500) cell_rows {v : AV} {α : Type} {f : α → List AV} {sz : Nat} {l : List α} [a : HasRows L W v f sz l] : Cell L W v := ⟨fun h k => ⟨(a.has h k).acells, (a.has h k).known, (a.has h k).one⟩⟩
end
class Ac (L W : List Ck) (v : AV) (cs : outParam (List AV)) : Prop where ac : ∀ h, (∀ c ∈ L ++ W, c.p h) → acells v = cs ∧ known v = true
instance ac_agg {L W : List Ck} {cs : List AV} : Ac L W (.agg cs) cs := ⟨fun _ _ => ⟨rfl, rfl⟩⟩
instance (priority := 500) ac_one {L W : List Ck} {v : AV} [a : Cell L W v] : Ac L W v [v] := ⟨fun h k => ⟨(a.cell h k).1, (a.cell h k).2.1⟩⟩
class Ones (L W : List Ck) (cs : List AV) : Prop where ones : ∀ h, (∀ c ∈ L ++ W, c.p h) → Go.Am.ones cs = true
instance {L W : List Ck} : Ones L W [] := ⟨fun _ _ => rfl⟩
instance {L W : List Ck} {v : AV} {cs : List AV} [a : Cell L W v] [b : Ones L W cs] : Ones L W (v :: cs) := ⟨fun h k => by show (one v && Go.Am.ones cs) = true; rw [(a.cell h k).2.2, b.ones h k]; rfl⟩
/-- encodings into values of one cell each -/
class FOne {α : Type} (f : α → List AV) : Prop where one : ∀ x, Go.Am.ones (f x) = true
theorem flat_ones {α : Type} {f : α → List AV} [a : FOne f] (l : List α) : ones (qc3 f l) = true := by
  induction l with
  | nil => rfl
  | cons x l ih => rw [qc6]; simp only [ones, List.all_append] at ih ⊢; rw [ih, show (f x).all one = true from a.one x]; rfl
end Go.Am
namespace Go.Am
open Go AM
set_option linter.unusedVariables false
set_option synthInstance.maxHeartbeats 200000

section
variable (B : Bs) (L : List Ck) (P : Program) (pol : Pol) (call : qb3) (fn nt fuel : Nat)
/-- whatever heap holds this: the code ends well -/
def ACo (c : Code) (T : qba) (Q : Exit × qba → Hp → Prop) : Prop := ∀ h, St B L h → Runs (qbn P pol call fn nt fuel c T) h Q
def AK (K : Exit × qba → Hp → Prop) (x : Exit × qba) : Prop := ∀ h, St B L h → K x h
def AT (K : qba → Hp → Prop) (T : qba) : Prop := ∀ h, St B L h → K T h
/-- the places of a region's values are al told -/
def DS (R : Rg) (ops : List (Nat × Oper)) (ds : List (Nat × Option Tmp)) : Prop := (∀ x ∈ ds, R.dsts[x.1]? = some x.2) ∧ ∀ x ∈ ops, R.dsts[x.1]? = some x.2.dst
def qb8 (R : Rg) (ops : List (Nat × Oper)) (ds : List (Nat × Option Tmp)) (seen : Seen) (T : qba) (Q : qba → Hp → Prop) : Prop := ∀ h, St B L h → DS R ops ds → qb9 P pol call fn nt R ops seen T h Q
/-- at a function's end -/
def KFun (P : Program) (rs : List ResultVar) (Q : AV → Hp → Prop) : Exit × qba → Hp → Prop := fun x h => (x.1 = .normal ∨ x.1 = .ret) ∧ Runs (do
  let vs ← qcv P x.2 rs
  match vs with
  | [v] => pure v
  | vs => pure (.tuple vs)) h Q
def ARs (P : Program) (rs : List ResultVar) (vs : List AV) (T : qba) (Q : AV → Hp → Prop) : Prop := ∀ h, St B L h → Runs (do
  let us ← qcv P T rs
  match vs ++ us with
  | [v] => pure v
  | vs => pure (.tuple vs)) h Q
/-- at the end -/
def Fin (v : AV) (Q : AV → Hp → Prop) : Prop := ∀ h, St B L h → Q v h
end

section
variable {R : Rg} {o : Oper} {i : Nat} {rest : List (Nat × Oper)} {ds : List (Nat × Option Tmp)}
theorem DS.step (d : DS R ((i, o) :: rest) ds) : DS R rest ((i, o.dst) :: ds) := ⟨fun x hx => by
  rcases List.mem_cons.1 hx with rfl | q
  · exact d.2 (i, o) List.mem_cons_self
  · exact d.1 x q, fun x hx => d.2 x (List.mem_cons_of_mem _ hx)⟩
theorem DS.yes (d : DS R ((i, o) :: rest) ds) : DS R ((i, { o with guard := none }) :: rest) ds := ⟨d.1, fun x hx => by
  rcases List.mem_cons.1 hx with rfl | q
  · exact d.2 (i, o) List.mem_cons_self
  · exact d.2 x (List.mem_cons_of_mem _ q)⟩
end
theorem number_get : ∀ (l : List Oper) (k : Nat), ∀ x ∈ number k l, k ≤ x.1 ∧ l[x.1 - k]? = some x.2
  | [], k, x, hx => by cases hx
  | o :: l, k, x, hx => by
    rcases List.mem_cons.1 hx with rfl | q
    · exact ⟨Nat.le_refl _, by simp⟩
    · obtain ⟨h1, h2⟩ := number_get l (k + 1) x q
      refine ⟨by omega, ?_⟩
      rw [show x.1 - k = (x.1 - (k + 1)) + 1 by omega, List.getElem?_cons_succ]; exact h2
theorem pickAll_get (ops : List Oper) : ∀ (l : List Nat), ∀ x ∈ qc1 ops l, ops[x.1]? = some x.2
  | [], x, hx => by cases hx
  | i :: l, x, hx => by
    unfold qc1 at hx
    split at hx
    · rename_i o ho
      rcases List.mem_cons.1 hx with rfl | q
      · exact ho
      · exact pickAll_get ops l x q
    · exact pickAll_get ops l x hx
section
variable {B : Bs} {L : List Ck} {P : Program} {pol : Pol} {call : qb3} {fn nt fuel : Nat} {T : qba} {Q : Exit × qba → Hp → Prop} {a b : Code} {id id' : Nat}
instance : Wk (ACo B L P pol call fn nt fuel (.seq a b) T Q) (ACo B L P pol call fn nt fuel a T (KSeq P pol call fn nt fuel b Q)) := ⟨fun g h s => R_seq (g h s)⟩
instance : Wk (ACo B L P pol call fn nt fuel (.block id b) T Q) (ACo B L P pol call fn nt fuel b T (KBlock id Q)) := ⟨fun g h s => R_block (g h s)⟩
instance : Wk (ACo B L P pol call fn nt fuel .ret T Q) (AK B L Q (.ret, T)) := ⟨fun g h s => R_ret (g h s)⟩
instance : Wk (ACo B L P pol call fn nt fuel .skip T Q) (AK B L Q (.normal, T)) := ⟨fun g h s => R_skip (g h s)⟩
instance : Wk (ACo B L P pol call fn nt fuel (.exit id) T Q) (AK B L Q (.exit id, T)) := ⟨fun g h s => R_exit (g h s)⟩
instance {ops : List Oper} {r : List (Nat × Oper)} [n : Num 0 ops r] : Wk (ACo B L P pol call fn nt fuel (.region id ops.toArray false) T Q) (qb8 B L P pol call fn nt ⟨false, [], ops.map (·.dst)⟩ r [] [] T (KOps Q)) :=
  ⟨fun g h s => R_region (by
    have := g h s ⟨(fun x hx => by cases hx), fun x hx => by
      obtain rfl := n.eq
      have := (number_get ops 0 x hx).2
      rw [Nat.sub_zero] at this
      rw [List.getElem?_map, this]; rfl⟩
    rw [← n.eq] at this; exact this)⟩
class OpN (ops : List Oper) (i : Nat) (o : outParam Oper) : Prop where eq : ops[i]? = some o
instance {ops : List Oper} {o : Oper} : OpN (o :: ops) 0 o := ⟨rfl⟩
instance {ops : List Oper} {o o' : Oper} {i : Nat} [a : OpN ops i o] : OpN (o' :: ops) (i + 1) o := ⟨by simpa using a.eq⟩
class Pk (ops : List Oper) (l : List Nat) (r : outParam (List (Nat × Oper))) : Prop where eq : qc1 ops l = r
instance {ops : List Oper} : Pk ops [] [] := ⟨rfl⟩
instance {ops : List Oper} {o : Oper} {i : Nat} {l : List Nat} {r : List (Nat × Oper)} [a : OpN ops i o] [b : Pk ops l r] : Pk ops (i :: l) ((i, o) :: r) := ⟨by rw [qc1, a.eq]; simp only [b.eq]⟩
theorem A_drawn {ops : List Oper} {r : List (Nat × Oper)} (l ms : List Nat) (hl : orderOf ops = some l) (hm : masks ops = ms) (hlt : (l.all fun i => Nat.blt i ops.length) = true) [hr : Pk ops l r]
    (g : qb8 B L P pol call fn nt ⟨true, ms, ops.map (·.dst)⟩ r [] [] T (KOps Q)) : ACo B L P pol call fn nt fuel (.region id ops.toArray true) T Q :=
  fun h s => R_drawn l ms hl hm hlt (by
    obtain rfl := hr.eq
    exact g h s ⟨(fun x hx => by cases hx), fun x hx => by rw [List.getElem?_map, pickAll_get ops l x hx]; rfl⟩)
instance (priority := 900) wk_cond {c : Operand} {v : Bool} [e : Ev T c (.bool v)] : Wk (ACo B L P pol call fn nt fuel (.cond c a b) T Q) ((v = true → ACo B L P pol call fn nt fuel a T Q) ∧ (v = false → ACo B L P pol call fn nt fuel b T Q)) :=
  ⟨fun g h s => qbx v e.eq (fun q => g.1 q h s) (fun q => g.2 q h s)⟩
instance wk_condT {c : Operand} {v : Bool} [e : Ev T c (.bool v)] [k : Is v true] : Wk (ACo B L P pol call fn nt fuel (.cond c a b) T Q) (ACo B L P pol call fn nt fuel a T Q) :=
  ⟨fun g h s => qbx v e.eq (fun q => g h s) (fun q => by rw [k.eq] at q; cases q)⟩
instance wk_condF {c : Operand} {v : Bool} [e : Ev T c (.bool v)] [k : Is v false] : Wk (ACo B L P pol call fn nt fuel (.cond c a b) T Q) (ACo B L P pol call fn nt fuel b T Q) :=
  ⟨fun g h s => qbx v e.eq (fun q => by rw [k.eq] at q; cases q) (fun q => g h s)⟩

instance : Wk (AK B L (KSeq P pol call fn nt fuel b Q) (.normal, T)) (ACo B L P pol call fn nt fuel b T Q) := ⟨fun g h s => g h s⟩
instance : Wk (AK B L (KSeq P pol call fn nt fuel b Q) (.ret, T)) (AK B L Q (.ret, T)) := ⟨fun g h s => g h s⟩
instance : Wk (AK B L (KSeq P pol call fn nt fuel b Q) (.exit id, T)) (AK B L Q (.exit id, T)) := ⟨fun g h s => g h s⟩
instance : Wk (AK B L (KBlock id Q) (.normal, T)) (AK B L Q (.normal, T)) := ⟨fun g h s => g h s⟩
instance : Wk (AK B L (KBlock id Q) (.ret, T)) (AK B L Q (.ret, T)) := ⟨fun g h s => g h s⟩
instance : Wk (AK B L (KBlock id Q) (.exit id, T)) (AK B L Q (.normal, T)) := ⟨fun g h s => K_block_exit (g h s)⟩
instance (priority := 900) [e : Same (Nat.beq id' id) false] : Wk (AK B L (KBlock id Q) (.exit id', T)) (AK B L Q (.exit id', T)) := ⟨fun g h s => K_block_other e.eq (g h s)⟩
instance {K : Exit × qba → Hp → Prop} : Wk (AT B L (KOps K) T) (AK B L K (.normal, T)) := ⟨fun g h s => g h s⟩

/-! ### the end of a function -/
variable {rs : List ResultVar} {V : AV → Hp → Prop} {vs : List AV} {v : AV}
instance : Wk (AK B L (KFun P rs V) (.normal, T)) (ARs B L P rs [] T V) := ⟨fun g h s => ⟨.inl rfl, g h s⟩⟩
instance : Wk (AK B L (KFun P rs V) (.ret, T)) (ARs B L P rs [] T V) := ⟨fun g h s => ⟨.inr rfl, g h s⟩⟩
theorem ars_step {r : ResultVar} {v : AV} (hr : ∀ h, St B L h → (aresult P T r).run h = some (v, h)) (g : ARs B L P rs (vs ++ [v]) T V) : ARs B L P (r :: rs) vs T V := fun h s => by
  have := g h s
  simp only [List.append_assoc, List.singleton_append] at this
  simp only [qcv]
  intro w
  obtain ⟨a, h', e, q⟩ := this w
  rw [run_bind] at e
  refine ⟨a, h', ?_, q⟩
  rw [run_bind, run_bind, hr h s]
  dsimp only
  rw [run_bind]
  cases hq : (qcv P T rs).run h with
  | none => rw [hq] at e; cases e
  | some p => rw [hq] at e; exact e
instance {t : Tmp} [e : Lk T t v] : Wk (ARs B L P (.tmp t :: rs) vs T V) (ARs B L P rs (vs ++ [v]) T V) := ⟨ars_step fun h s => by simp only [aresult]; rw [e.eq]; rfl⟩
instance {h0 : Hp} {X : List Nat} {W : List Ck} {t : Tmp} {ty : TypeId} {id ver off esz : Nat} {cells r' : List AV} {fix : Bool} [e : Lk T t (.ptr id ver off)] [hr : qdu L W id ver esz cells fix] [o : qca P ty] [d : Dr cells off (v :: r')] :
    Wk (ARs ⟨h0, X, W⟩ L P (.cell t ty :: rs) vs T V) (ARs ⟨h0, X, W⟩ L P rs (vs ++ [v]) T V) := ⟨ars_step fun h s => by
  obtain ⟨st, ho⟩ := s.all _ hr.mem
  simp only [aresult, e.eq, aload]
  rw [run_bind, row_run ho]
  dsimp only
  rw [d.eq, o.rd]; rfl⟩
instance {h0 : Hp} {X : List Nat} {W : List Ck} {t : Tmp} {ty : TypeId} {id ver off esz n : Nat} {cells r' c' : List AV} {fix : Bool} [e : Lk T t (.ptr id ver off)] [hr : qdu L W id ver esz cells fix] [o : TAgg P ty n] [d : Dr cells off r'] [k : Tk r' n c'] :
    Wk (ARs ⟨h0, X, W⟩ L P (.cell t ty :: rs) vs T V) (ARs ⟨h0, X, W⟩ L P rs (vs ++ [.agg c']) T V) := ⟨ars_step fun h s => by
  obtain ⟨st, ho⟩ := s.all _ hr.mem
  simp only [aresult, e.eq, aload]
  rw [run_bind, row_run ho]
  dsimp only
  rw [d.eq, o.rd _ (by simpa using k.le), k.eq]; rfl⟩
instance : Wk (ARs B L P [] ([] ++ [v]) T V) (Fin B L v V) := ⟨fun g h s => by
  simp only [qcv]
  exact Runs.bind (Runs.pure (Runs.pure (g h s)))⟩
instance {v w : AV} : Wk (ARs B L P [] ([] ++ [v] ++ [w]) T V) (Fin B L (.tuple [v, w]) V) := ⟨fun g h s => by
  simp only [qcv]
  exact Runs.bind (Runs.pure (Runs.pure (g h s)))⟩
instance {v w u : AV} : Wk (ARs B L P [] ([] ++ [v] ++ [w] ++ [u]) T V) (Fin B L (.tuple [v, w, u]) V) := ⟨fun g h s => by
  simp only [qcv]
  exact Runs.bind (Runs.pure (Runs.pure (g h s)))⟩
instance : Wk (ARs B L P [] [] T V) (Fin B L (.tuple []) V) := ⟨fun g h s => by
  simp only [qcv]
  exact Runs.bind (Runs.pure (Runs.pure (g h s)))⟩
theorem fin {Post : AV → List Ck → Prop} {N : List Ck} (p : Post v N) [k : Sb L N] : Fin B L v (QF B Post) := fun h s => ⟨N, p, s.sb k⟩

/-! ### into a function -/
class ApV (a b : List AV) (c : outParam (List AV)) : Prop where eq : a ++ b = c
instance {b : List AV} : ApV [] b b := ⟨rfl⟩
instance {x : AV} {a b c : List AV} [e : ApV a b c] : ApV (x :: a) b (x :: c) := ⟨by rw [List.cons_append, e.eq]⟩
theorem Cal_fn {sums : Sums} {f : FuncId} {fn' : Func} {c : Code} {first captured args al1 al : List AV} {n nt : Nat} {rs : List ResultVar} {C W : List Ck} {Post : AV → List Ck → Prop} (hn : 0 < n) (hs : sums f = none) (hf : P.funcs[f]? = some fn') (hc : fn'.body = some c) (hnt : fn'.ntmps = nt) (hrs : fn'.results = rs.toArray)
    [e1 : ApV args captured al1] [e2 : ApV first al1 al] (hl : Nat.ble al.length nt = true)
    (r : ∀ m h0 T, n = m + 1 → Args T al → ACo ⟨h0, cids C, W⟩ C P pol (qbt P pol sums m) f nt m c T (KFun P rs (QF ⟨h0, cids C, W⟩ Post))) : Cal C W (qbt P pol sums n (.func (.func f) first captured) args) Post := fun h s => by
  obtain ⟨m, rfl⟩ : ∃ m, n = m + 1 := ⟨n - 1, by omega⟩
  have hl' : al.length ≤ nt := by simpa using hl
  obtain rfl : first ++ args ++ captured = al := by rw [List.append_assoc, e1.eq, e2.eq]
  subst hnt
  refine qcq hs hf hc hl' ((r m h _ rfl ⟨fun i v e => qa8 e⟩ h s).mono fun x h1 k => ?_)
  obtain ⟨k1, k2⟩ := k
  refine ⟨k1, ?_⟩
  unfold qbw
  rw [hrs]
  exact k2
theorem Cal_sum {sums : Sums} {f : FuncId} {s : List AV → AM AV} {first captured args al1 al : List AV} {n : Nat} {C W : List Ck} {Post : AV → List Ck → Prop} (hn : 0 < n) (hs : sums f = some s) [e1 : ApV args captured al1] [e2 : ApV first al1 al] (r : Cal C W (s al) Post) : Cal C W (qbt P pol sums n (.func (.func f) first captured) args) Post := fun h t => by
  obtain ⟨m, rfl⟩ : ∃ m, n = m + 1 := ⟨n - 1, by omega⟩
  obtain rfl : first ++ args ++ captured = al := by rw [List.append_assoc, e1.eq, e2.eq]
  exact R_sum hs (r h t)

/-! ### loops -/
/-- what code writes -/
def wr : Code → List Nat
  | .region _ ops _ => ops.toList.filterMap (·.dst)
  | .seq a b => wr a ++ wr b
  | .cond _ a b => wr a ++ wr b
  | .block _ b => wr b
  | .loop b => wr b
  | _ => []
theorem bind_some {α β : Type} {m : AM α} {f : α → AM β} {h : Hp} {r : β × Hp} (e : (m >>= f).run h = some r) : ∃ a h1, m.run h = some (a, h1) ∧ (f a).run h1 = some r := by
  rw [run_bind] at e
  cases hm : m.run h with
  | none => rw [hm] at e; cases e
  | some p => rw [hm] at e; exact ⟨p.1, p.2, rfl, e⟩
theorem aops_wr (ops : List Oper) : ∀ (l : List Nat) (T T' : qba) (h h' : Hp), (aops P pol call fn nt ops l T).run h = some (T', h') → ∀ t, t ∉ ops.filterMap (·.dst) → qbq T' t = qbq T t
  | [], T, T', h, h', e, t, ht => by cases e; rfl
  | i :: rest, T, T', h, h', e, t, ht => by
    unfold aops at e
    cases ho : ops[i]? with
    | none => rw [ho] at e; cases e
    | some o =>
      have hd : ∀ v, qbq (qbv? nt T o.dst v) t = qbq T t := fun v => by
        cases hq : o.dst with
        | none => rfl
        | some u =>
          refine qaf (T := T) (v := v) (x := qbq T t) ?_ rfl
          cases hb : Nat.beq t u with
          | false => rfl
          | true => obtain rfl := Nat.eq_of_beq_eq_true hb; exact absurd (List.mem_filterMap.2 ⟨o, List.mem_of_getElem? ho, hq⟩) ht
      rw [ho] at e
      dsimp only at e
      rw [run_bind] at e
      cases hb : (qd1 ops T o).run h with
      | none => rw [hb] at e; cases e
      | some p =>
        obtain ⟨b, h1⟩ := p
        rw [hb] at e
        cases b with
        | false => exact (aops_wr ops rest _ _ _ _ e t ht).trans (hd _)
        | true =>
          dsimp only at e
          rw [run_bind] at e
          cases hv : (aop P pol call fn o (qbd T)).run h1 with
          | none => rw [hv] at e; cases e
          | some p =>
            obtain ⟨v, h2⟩ := p
            rw [hv] at e
            exact (aops_wr ops rest _ _ _ _ e t ht).trans (hd _)
theorem aopsD_wr (ops : List Oper) (ms : List Nat) : ∀ (l : List Nat) (seen : Seen) (T T' : qba) (h h' : Hp), (aopsD P pol call fn nt ops ms l seen T).run h = some (T', h') → ∀ t, t ∉ ops.filterMap (·.dst) → qbq T' t = qbq T t
  | [], seen, T, T', h, h', e, t, ht => by cases e; rfl
  | i :: rest, seen, T, T', h, h', e, t, ht => by
    unfold aopsD at e
    cases ho : ops[i]? with
    | none => rw [ho] at e; cases e
    | some o =>
      have hd : ∀ v, qbq (qbv? nt T o.dst v) t = qbq T t := fun v => by
        cases hq : o.dst with
        | none => rfl
        | some u =>
          refine qaf (T := T) (v := v) (x := qbq T t) ?_ rfl
          cases hb : Nat.beq t u with
          | false => rfl
          | true => obtain rfl := Nat.eq_of_beq_eq_true hb; exact absurd (List.mem_filterMap.2 ⟨o, List.mem_of_getElem? ho, hq⟩) ht
      rw [ho] at e
      dsimp only at e
      rw [run_bind] at e
      cases hb : (qd1 ops T o).run h with
      | none => rw [hb] at e; cases e
      | some p =>
        obtain ⟨b, h1⟩ := p
        rw [hb] at e
        cases b with
        | false => exact (aopsD_wr ops ms rest _ _ _ _ _ e t ht).trans (hd _)
        | true =>
          dsimp only at e
          generalize qbu o.op = c at e
          rcases c with _ | _ | c
          · obtain ⟨v, h2, _, e⟩ := bind_some e
            exact (aopsD_wr ops ms rest _ _ _ _ _ e t ht).trans (hd _)
          · obtain ⟨v, h2, _, e⟩ := bind_some e
            exact (aopsD_wr ops ms rest _ _ _ _ _ e t ht).trans (hd _)
          · obtain ⟨_, h2, _, e⟩ := bind_some e
            obtain ⟨v, h3, _, e⟩ := bind_some e
            obtain ⟨_, h4, _, e⟩ := bind_some e
            obtain ⟨_, h5, _, e⟩ := bind_some e
            exact (aopsD_wr ops ms rest _ _ _ _ _ e t ht).trans (hd _)
theorem acode_wr : ∀ (c : Code) (T : qba) (h h' : Hp) (x : Exit × qba), (qbn P pol call fn nt fuel c T).run h = some (x, h') → ∀ t, t ∉ wr c → qbq x.2 t = qbq T t := by
  intro c
  induction c with
  | region id ops draw =>
    intro T h h' x e t ht
    simp only [qbn, run_bind] at e
    cases hr : (aregion P pol call fn nt ops.toList draw T).run h with
    | none => rw [hr] at e; cases e
    | some p =>
      rw [hr] at e
      cases e
      unfold aregion at hr
      cases draw with
      | false => exact aops_wr _ _ _ _ _ _ hr t ht
      | true =>
        dsimp only at hr
        cases ho : orderOf ops.toList with
        | none => rw [ho] at hr; cases hr
        | some l => rw [ho] at hr; exact aopsD_wr _ _ _ _ _ _ _ _ hr t ht
  | seq a b iha ihb =>
    intro T h h' x e t ht
    simp only [wr, List.mem_append, not_or] at ht
    simp only [qbn, run_bind] at e
    cases hr : (qbn P pol call fn nt fuel a T).run h with
    | none => rw [hr] at e; cases e
    | some p =>
      obtain ⟨⟨ex, T1⟩, h1⟩ := p
      rw [hr] at e
      have h2 := iha T h h1 _ hr t ht.1
      cases ex with
      | normal => exact (ihb T1 h1 h' x e t ht.2).trans h2
      | _ => cases e; exact h2
  | cond c a b iha ihb =>
    intro T h h' x e t ht
    simp only [wr, List.mem_append, not_or] at ht
    simp only [qbn] at e
    split at e
    · exact iha T h h' x e t ht.1
    · exact ihb T h h' x e t ht.2
    · cases e
  | block id b ih =>
    intro T h h' x e t ht
    simp only [qbn, run_bind] at e
    cases hr : (qbn P pol call fn nt fuel b T).run h with
    | none => rw [hr] at e; cases e
    | some p =>
      obtain ⟨⟨ex, T1⟩, h1⟩ := p
      rw [hr] at e
      have h2 := ih T h h1 _ hr t ht
      cases ex with
      | exit id' =>
        dsimp only at e
        cases hb : Nat.beq id' id with
        | true => rw [hb] at e; cases e; exact h2
        | false => rw [hb] at e; cases e; exact h2
      | _ => cases e; exact h2
  | loop b ih =>
    intro T h h' x e t ht
    simp only [qbn] at e
    have key : ∀ (n : Nat) (T : qba) (h h' : Hp) (x : Exit × qba), (aloop (qbn P pol call fn nt fuel b) n T).run h = some (x, h') → qbq x.2 t = qbq T t := by
      intro n
      induction n with
      | zero => intro T h h' x e; cases e
      | succ n ihn =>
        intro T h h' x e
        simp only [aloop, run_bind] at e
        cases hr : (qbn P pol call fn nt fuel b T).run h with
        | none => rw [hr] at e; cases e
        | some p =>
          obtain ⟨⟨ex, T1⟩, h1⟩ := p
          rw [hr] at e
          have h2 := ih T h h1 _ hr t ht
          cases ex with
          | normal => exact (ihn T1 h1 h' x e).trans h2
          | _ => cases e; exact h2
    exact key fuel T h h' x e
  | rangeFunc f params assign body =>
    intro T h h' x e t ht
    simp only [qbn] at e
    obtain ⟨_, _, _, e⟩ := bind_some e
    obtain ⟨_, _, _, e⟩ := bind_some e
    obtain ⟨_, _, _, e⟩ := bind_some e
    obtain ⟨⟨_, _, _, _, _, _, _, p⟩, _, _, e⟩ := bind_some e
    obtain ⟨_, _, _, e⟩ := bind_some e
    obtain ⟨_, _, _, e⟩ := bind_some e
    obtain ⟨_, _, _, e⟩ := bind_some e
    unfold qc7 at e
    cases p with
    | none => cases e; rfl
    | some c =>
      obtain ⟨_, _, _, e⟩ := bind_some e
      cases e; rfl
  | _ => intro T h h' x e t ht; first | (cases e; rfl) | cases e
theorem Runs.wr {c : Code} {h : Hp} {Q : Exit × qba → Hp → Prop} (r : Runs (qbn P pol call fn nt fuel c T) h Q) : Runs (qbn P pol call fn nt fuel c T) h fun x h' => Q x h' ∧ ∀ t, t ∉ wr c → qbq x.2 t = qbq T t := fun w => by
  obtain ⟨x, h', e, q⟩ := r w
  exact ⟨x, h', e, q, acode_wr c T h h' x e⟩

/-- what is owed behind a round: less is left -/
def KLp (B : Bs) (I : Nat → List Ck → qba → Prop) (k : Nat) (Q : Exit × qba → Hp → Prop) : Exit × qba → Hp → Prop := fun x h1 => match x with
  | (.normal, T1) => ∃ k' L', k' < k ∧ St B L' h1 ∧ I k' L' T1
  | x => Q x h1
theorem Agr.trans' {K : List Nat} {T0 T1 T2 : qba} (a : Agr K T0 T1) (b : Agr K T1 T2) : Agr K T0 T2 := ⟨fun t h => (b.eq t h).trans (a.eq t h)⟩
theorem A_loopS {b : Code} {L0 : List Ck} (I : Nat → List Ck → qba → Prop) (K : List Nat) (k : Nat) (hk : k < fuel) (h0 : I k L0 T) [sb : Sb L L0] (hK : (K.all fun t => !(inList t (wr b))) = true)
    (round : ∀ k L T1, I k L T1 → Agr K T T1 → ACo B L P pol call fn nt fuel b T1 (KLp B I k Q)) : ACo B L P pol call fn nt fuel (.loop b) T Q := fun h s => by
  simp only [qbn]
  have hw : ∀ t ∈ K, t ∉ wr b := fun t ht hw => by
    have h1 := List.all_eq_true.1 hK t ht
    have : ∀ l : List Nat, t ∈ l → inList t l = true := by
      intro l
      induction l with
      | nil => intro h; cases h
      | cons u l ih =>
        intro h
        rcases List.mem_cons.1 h with rfl | q
        · simp [inList]
        · simp [inList, ih q]
    rw [this _ hw] at h1; cases h1
  have key : ∀ (k n : Nat) (L : List Ck) (T1 : qba) (h : Hp), k < n → St B L h → I k L T1 → Agr K T T1 → Runs (aloop (qbn P pol call fn nt fuel b) n T1) h Q := by
    intro k
    induction k using Nat.strongRecOn with
    | _ k ih =>
      intro n L T1 h hn s hI hA
      obtain ⟨m, rfl⟩ : ∃ m, n = m + 1 := ⟨n - 1, by omega⟩
      simp only [aloop]
      refine Runs.bind (((round k L T1 hI hA h s).wr).mono fun x h1 q => ?_)
      obtain ⟨e, T2⟩ := x
      obtain ⟨q, qw⟩ := q
      cases e with
      | normal =>
        obtain ⟨k', L', hk', s', hI'⟩ := q
        exact ih k' hk' m L' T2 h1 (by omega) s' hI' (hA.trans' ⟨fun t ht => qw t (hw t ht)⟩)
      | _ => exact Runs.pure q
  exact key k fuel L0 T h hk (s.sb sb) h0 ⟨fun _ _ => rfl⟩
theorem A_loop {b : Code} (I : Nat → List Ck → qba → Prop) (K : List Nat) (k : Nat) (hk : k < fuel) (h0 : I k L T) (hK : (K.all fun t => !(inList t (wr b))) = true)
    (round : ∀ k L T1, I k L T1 → Agr K T T1 → ACo B L P pol call fn nt fuel b T1 (KLp B I k Q)) : ACo B L P pol call fn nt fuel (.loop b) T Q := A_loopS I K k hk h0 hK round
/-- a loop that turns no chunk -/
theorem A_loopR {b : Code} (I : Nat → qba → Prop) (K : List Nat) (k : Nat) (hk : k < fuel) (h0 : I k T) (hK : (K.all fun t => !(inList t (wr b))) = true)
    (round : ∀ k T1, I k T1 → Agr K T T1 → ACo B L P pol call fn nt fuel b T1 (KLp B (fun k L' T => L' = L ∧ I k T) k Q)) : ACo B L P pol call fn nt fuel (.loop b) T Q :=
  A_loopS (L0 := L) (fun k L' T => L' = L ∧ I k T) K k hk ⟨rfl, h0⟩ hK (sb := ⟨fun B h Z s => s⟩) (fun k L' T1 h => by obtain ⟨rfl, h⟩ := h; exact round k T1 h)
theorem lend {I : Nat → List Ck → qba → Prop} {k : Nat} (k' : Nat) (L' : List Ck) (hk : k' < k) [e : Sb L L'] (hI : I k' L' T) : AK B L (KLp B I k Q) (.normal, T) := fun h s => ⟨k', L', hk, s.sb e, hI⟩
instance {I : Nat → List Ck → qba → Prop} {k : Nat} : Wk (AK B L (KLp B I k Q) (.ret, T)) (AK B L Q (.ret, T)) := ⟨fun g h s => g h s⟩
instance {I : Nat → List Ck → qba → Prop} {k : Nat} : Wk (AK B L (KLp B I k Q) (.exit id, T)) (AK B L Q (.exit id, T)) := ⟨fun g h s => g h s⟩
theorem lkz {t : Nat} {k : IntKind} {z z' : Int} [a : Lk T t (.int k z)] (e : z = z') : Lk T t (.int k z') := ⟨by rw [a.eq, e]⟩
theorem lkv {t : Nat} {v v' : AV} [a : Lk T t v] (e : v = v') : Lk T t v' := ⟨by rw [a.eq, e]⟩
/-- both halves of an if, where it is known which -/
theorem condT {b : Bool} {X Y : Prop} (h : b = true) (x : X) : (b = true → X) ∧ (b = false → Y) := ⟨fun _ => x, fun e => by rw [h] at e; cases e⟩
theorem condF {b : Bool} {X Y : Prop} (h : b = false) (y : Y) : (b = true → X) ∧ (b = false → Y) := ⟨(fun e => by rw [h] at e; cases e), fun _ => y⟩
end
end Go.Am
namespace Go.Am
open Go AM
set_option linter.unusedVariables false
set_option synthInstance.maxHeartbeats 200000

section
variable {h0 : Hp} {X : List Nat} {W L : List Ck} {P : Program} {pol : Pol} {call : qb3} {fn nt : Nat} {R : Rg} {rest : List (Nat × Oper)} {ds : List (Nat × Option Tmp)} {seen : Seen} {T : qba} {Q : qba → Hp → Prop} {i : Nat} {d : Option Tmp} {ty : TypeId} {pos : String} {after : Array Edge}

instance {B : Bs} : Wk (qb8 B L P pol call fn nt R [] ds seen T Q) (AT B L Q T) := ⟨fun g h s _ => O_nil (g h s)⟩
/-- chunks in front, laid out -/
instance (priority := 2000) {B : Bs} {ops : List (Nat × Oper)} {N M Z : List Ck} [a : App N M Z] : Wk (qb8 B (N ++ M) P pol call fn nt R ops ds seen T Q) (qb8 B Z P pol call fn nt R ops ds seen T Q) := ⟨fun g => by rw [a.eq]; exact g⟩

/-! guards -/
class Dl (ds : List (Nat × Option Tmp)) (j : Nat) (t : outParam Nat) : Prop where mem : (j, some t) ∈ ds
instance dl_0 {ds : List (Nat × Option Tmp)} {j t : Nat} : Dl ((j, some t) :: ds) j t := ⟨List.mem_cons_self⟩
instance (priority := 900) dl_s {ds : List (Nat × Option Tmp)} {j t : Nat} {x : Nat × Option Tmp} [a : Dl ds j t] : Dl (x :: ds) j t := ⟨List.mem_cons_of_mem _ a.mem⟩
theorem aops_yes {B : Bs} {j t : Nat} {want : Bool} {op : Op} [a : Dl ds j t] [b : Lk T t (.bool want)] (g : qb8 B L P pol call fn nt R ((i, ⟨d, op, ty, pos, after, none⟩) :: rest) ds seen T Q) :
    qb8 B L P pol call fn nt R ((i, ⟨d, op, ty, pos, after, some (j, want)⟩) :: rest) ds seen T Q := fun h s e =>
  qa2 rfl (by rw [e.1 _ a.mem]; rfl) b.eq (g h s e.yes)
theorem aops_no {B : Bs} {j t : Nat} {want b : Bool} {op : Op} [a : Dl ds j t] [hb : Lk T t (.bool b)] (hn : b = !want) (g : qb8 B L P pol call fn nt R rest ((i, d) :: ds) seen (qbv? nt T d (.tuple [])) Q) :
    qb8 B L P pol call fn nt R ((i, ⟨d, op, ty, pos, after, some (j, want)⟩) :: rest) ds seen T Q := fun h s e =>
  qbj rfl (by rw [e.1 _ a.mem]; rfl) hb.eq hn (g h s e.step)
instance {B : Bs} {j t : Nat} {op : Op} {b : Bool} [a : Dl ds j t] [hb : Lk T t (.bool b)] [k : Is b true] : Wk (qb8 B L P pol call fn nt R ((i, ⟨d, op, ty, pos, after, some (j, true)⟩) :: rest) ds seen T Q) (qb8 B L P pol call fn nt R ((i, ⟨d, op, ty, pos, after, none⟩) :: rest) ds seen T Q) := ⟨fun g => by have hb' : Lk T t (.bool true) := ⟨by rw [hb.eq, k.eq]⟩; exact aops_yes g⟩
instance {B : Bs} {j t : Nat} {op : Op} {b : Bool} [a : Dl ds j t] [hb : Lk T t (.bool b)] [k : Is b false] : Wk (qb8 B L P pol call fn nt R ((i, ⟨d, op, ty, pos, after, some (j, false)⟩) :: rest) ds seen T Q) (qb8 B L P pol call fn nt R ((i, ⟨d, op, ty, pos, after, none⟩) :: rest) ds seen T Q) := ⟨fun g => by have hb' : Lk T t (.bool false) := ⟨by rw [hb.eq, k.eq]⟩; exact aops_yes g⟩
instance {B : Bs} {j t : Nat} {op : Op} {b : Bool} [a : Dl ds j t] [hb : Lk T t (.bool b)] [k : Is b true] : Wk (qb8 B L P pol call fn nt R ((i, ⟨d, op, ty, pos, after, some (j, false)⟩) :: rest) ds seen T Q) (qb8 B L P pol call fn nt R rest ((i, d) :: ds) seen (qbv? nt T d (.tuple [])) Q) := ⟨aops_no (b := b) k.eq⟩
instance {B : Bs} {j t : Nat} {op : Op} {b : Bool} [a : Dl ds j t] [hb : Lk T t (.bool b)] [k : Is b false] : Wk (qb8 B L P pol call fn nt R ((i, ⟨d, op, ty, pos, after, some (j, true)⟩) :: rest) ds seen T Q) (qb8 B L P pol call fn nt R rest ((i, d) :: ds) seen (qbv? nt T d (.tuple [])) Q) := ⟨aops_no (b := b) k.eq⟩
/-- by cases, where a guard is not known -/
theorem guard_cases {B : Bs} {j t : Nat} {want b : Bool} {op : Op} [a : Dl ds j t] [hb : Lk T t (.bool b)]
    (g1 : b = want → qb8 B L P pol call fn nt R ((i, ⟨d, op, ty, pos, after, none⟩) :: rest) ds seen T Q) (g2 : b = !want → qb8 B L P pol call fn nt R rest ((i, d) :: ds) seen (qbv? nt T d (.tuple [])) Q) :
    qb8 B L P pol call fn nt R ((i, ⟨d, op, ty, pos, after, some (j, want)⟩) :: rest) ds seen T Q := by
  by_cases e : b = want
  · subst e; exact aops_yes (g1 rfl)
  · exact aops_no (b := b) (by cases b <;> cases want <;> simp_all) (g2 (by cases b <;> cases want <;> simp_all))

/-! values -/
section
variable {B : Bs}
theorem aval {op : Op} {v : AV} (k : ∀ h, qb9 P pol call fn nt R rest ((i, []) :: seen) (qbv? nt T d v) h Q → qb9 P pol call fn nt R ((i, ⟨d, op, ty, pos, after, none⟩) :: rest) seen T h Q)
    (g : qb8 B L P pol call fn nt R rest ((i, d) :: ds) ((i, []) :: seen) (qbv? nt T d v) Q) : qb8 B L P pol call fn nt R ((i, ⟨d, op, ty, pos, after, none⟩) :: rest) ds seen T Q := fun h s e => k h (g h s e.step)
instance {x : Operand} {v : AV} [a : Ev T x v] : Wk (qb8 B L P pol call fn nt R ((i, ⟨d, .move x, ty, pos, after, none⟩) :: rest) ds seen T Q) (qb8 B L P pol call fn nt R rest ((i, d) :: ds) ((i, []) :: seen) (qbv? nt T d v) Q) := ⟨aval fun h => qaz a.eq⟩
instance {x : Operand} {v : AV} [a : Ev T x v] : Wk (qb8 B L P pol call fn nt R ((i, ⟨d, .assign x, ty, pos, after, none⟩) :: rest) ds seen T Q) (qb8 B L P pol call fn nt R rest ((i, d) :: ds) ((i, []) :: seen) (qbv? nt T d v) Q) := ⟨aval fun h => qaw a.eq⟩
/-- numbers: what comes, without and with a condition -/
class Ar (op : BinOp) (k : IntKind) (a b : Int) (v : outParam AV) : Prop where eq : intR op k a b = some v
instance {k : IntKind} {a b : Int} : Ar .eql k a b (.bool (a == b)) := ⟨rfl⟩
instance {k : IntKind} {a b : Int} : Ar .neq k a b (.bool (a != b)) := ⟨rfl⟩
instance {k : IntKind} {a b : Int} : Ar .lss k a b (.bool (decide (a < b))) := ⟨rfl⟩
instance {k : IntKind} {a b : Int} : Ar .leq k a b (.bool (decide (a ≤ b))) := ⟨rfl⟩
instance {k : IntKind} {a b : Int} : Ar .gtr k a b (.bool (decide (a > b))) := ⟨rfl⟩
instance {k : IntKind} {a b : Int} : Ar .geq k a b (.bool (decide (a ≥ b))) := ⟨rfl⟩
class ArC (op : BinOp) (k : IntKind) (a b : Int) (v : outParam AV) (C : outParam Prop) : Prop where eq : C → intR op k a b = some v
instance arc_inc {n : Nat} : ArC .add .i64 (n : Int) 1 (.int .i64 ((n + 1 : Nat) : Int)) (n < 9223372036854775807) := ⟨qau n⟩
instance arc_addn {n m : Nat} : ArC .add .i64 (n : Int) (m : Int) (.int .i64 ((n + m : Nat) : Int)) (n + m < 9223372036854775808) := ⟨fun h => by rw [qas (by omega)]; simp⟩
instance (priority := 900) arc_add {a b : Int} : ArC .add .i64 a b (.int .i64 (a + b)) (-9223372036854775808 ≤ a + b ∧ a + b < 9223372036854775808) := ⟨fun h => qas h⟩
instance (priority := 900) arc_sub {a b : Int} : ArC .sub .i64 a b (.int .i64 (a - b)) (-9223372036854775808 ≤ a - b ∧ a - b < 9223372036854775808) := ⟨fun h => qat h⟩
instance (priority := 900) arc_mul {a b : Int} : ArC .mul .i64 a b (.int .i64 (a * b)) (-9223372036854775808 ≤ a * b ∧ a * b < 9223372036854775808) := ⟨fun h => by simp only [intR]; rw [wrap64 (y := a * b) rfl h]⟩
instance wk_ar {op : BinOp} {t t' : TypeId} {x y : Operand} {k : IntKind} {a b : Int} {v : AV} [hx : Ev T x (.int k a)] [hy : Ev T y (.int k b)] [r : Ar op k a b v] :
    Wk (qb8 B L P pol call fn nt R ((i, ⟨d, .binOp op t x y t', ty, pos, after, none⟩) :: rest) ds seen T Q) (qb8 B L P pol call fn nt R rest ((i, d) :: ds) ((i, []) :: seen) (qbv? nt T d v) Q) := ⟨aval fun h => qa1 hx.eq hy.eq r.eq⟩
instance (priority := 900) wk_arc {op : BinOp} {t t' : TypeId} {x y : Operand} {k : IntKind} {a b : Int} {v : AV} {C : Prop} [hx : Ev T x (.int k a)] [hy : Ev T y (.int k b)] [r : ArC op k a b v C] :
    Wk (qb8 B L P pol call fn nt R ((i, ⟨d, .binOp op t x y t', ty, pos, after, none⟩) :: rest) ds seen T Q) (C ∧ qb8 B L P pol call fn nt R rest ((i, d) :: ds) ((i, []) :: seen) (qbv? nt T d v) Q) := ⟨fun g => aval (fun h => qa1 hx.eq hy.eq (r.eq g.1)) g.2⟩
instance {t t' : TypeId} {x y : Operand} {k : IntKind} {a b : Int} [hx : Ev T x (.int k a)] [hy : Ev T y (.int k b)] :
    Wk (qb8 B L P pol call fn nt R ((i, ⟨d, .binOp .rem t x y t', ty, pos, after, none⟩) :: rest) ds seen T Q) (b ≠ 0 ∧ qb8 B L P pol call fn nt R rest ((i, d) :: ds) ((i, []) :: seen) (qbv? nt T d (.int k (a.tmod b))) Q) := ⟨fun g => aval (fun h => O_rem hx.eq hy.eq g.1) g.2⟩
instance {t t' : TypeId} {x y : Operand} {k : IntKind} {a b : Int} [hx : Ev T x (.int k a)] [hy : Ev T y (.int k b)] :
    Wk (qb8 B L P pol call fn nt R ((i, ⟨d, .binOp .quo t x y t', ty, pos, after, none⟩) :: rest) ds seen T Q) (b ≠ 0 ∧ qb8 B L P pol call fn nt R rest ((i, d) :: ds) ((i, []) :: seen) (qbv? nt T d (.int k (k.wrap (a.tdiv b)))) Q) := ⟨fun g => aval (fun h => O_quo hx.eq hy.eq g.1) g.2⟩
class Sr (op : BinOp) (a b : List UInt8) (v : outParam AV) : Prop where eq : strR op a b = some v
instance {a b : List UInt8} : Sr .eql a b (.bool (a == b)) := ⟨rfl⟩
instance {a b : List UInt8} : Sr .neq a b (.bool !(a == b)) := ⟨rfl⟩
instance {a b : List UInt8} : Sr .lss a b (.bool (Op.bytesLess a b)) := ⟨rfl⟩
instance wk_sr {op : BinOp} {t t' : TypeId} {x y : Operand} {a b : List UInt8} {v : AV} [hx : Ev T x (.str a)] [hy : Ev T y (.str b)] [r : Sr op a b v] :
    Wk (qb8 B L P pol call fn nt R ((i, ⟨d, .binOp op t x y t', ty, pos, after, none⟩) :: rest) ds seen T Q) (qb8 B L P pol call fn nt R rest ((i, d) :: ds) ((i, []) :: seen) (qbv? nt T d v) Q) := ⟨aval fun h => qa3 hx.eq hy.eq r.eq⟩
instance {t : TypeId} {x : Operand} {b : Bool} [hx : Ev T x (.bool b)] : Wk (qb8 B L P pol call fn nt R ((i, ⟨d, .unOp .not t x, ty, pos, after, none⟩) :: rest) ds seen T Q) (qb8 B L P pol call fn nt R rest ((i, d) :: ds) ((i, []) :: seen) (qbv? nt T d (.bool !b)) Q) := ⟨aval fun h => qa4 hx.eq⟩
instance {c x y : Operand} {v : AV} {b : Bool} [hc : Ev T c (.bool b)] [k : Is b true] [hx : Ev T x v] : Wk (qb8 B L P pol call fn nt R ((i, ⟨d, .pick c x y, ty, pos, after, none⟩) :: rest) ds seen T Q) (qb8 B L P pol call fn nt R rest ((i, d) :: ds) ((i, []) :: seen) (qbv? nt T d v) Q) := ⟨aval fun h g => qay (u := qbd T y) hc.eq hx.eq rfl (by rw [k.eq]; exact g)⟩
instance {c x y : Operand} {u : AV} {b : Bool} [hc : Ev T c (.bool b)] [k : Is b false] [hy : Ev T y u] : Wk (qb8 B L P pol call fn nt R ((i, ⟨d, .pick c x y, ty, pos, after, none⟩) :: rest) ds seen T Q) (qb8 B L P pol call fn nt R rest ((i, d) :: ds) ((i, []) :: seen) (qbv? nt T d u) Q) := ⟨aval fun h g => qay (v := qbd T x) hc.eq rfl hy.eq (by rw [k.eq]; exact g)⟩
instance (priority := 500) wk_pick {c x y : Operand} {b : Bool} {v u : AV} [hc : Ev T c (.bool b)] [hx : Ev T x v] [hy : Ev T y u] : Wk (qb8 B L P pol call fn nt R ((i, ⟨d, .pick c x y, ty, pos, after, none⟩) :: rest) ds seen T Q) (qb8 B L P pol call fn nt R rest ((i, d) :: ds) ((i, []) :: seen) (qbv? nt T d (cond b v u)) Q) := ⟨aval fun h => qay hc.eq hx.eq hy.eq⟩
instance {x y : Operand} {ats : Array TypeId} {k : IntKind} {a b : Int} [hx : Ev T x (.int k a)] [hy : Ev T y (.int k b)] : Wk (qb8 B L P pol call fn nt R ((i, ⟨d, .call ⟨.builtin .max, [x, y].toArray, ats⟩, ty, pos, after, none⟩) :: rest) ds seen T Q) (qb8 B L P pol call fn nt R rest ((i, d) :: ds) ((i, []) :: seen) (qbv? nt T d (.int k (if b > a then b else a))) Q) := ⟨aval fun h => O_max2 hx.eq hy.eq⟩
instance {x y : Operand} {ats : Array TypeId} {k : IntKind} {a b : Int} [hx : Ev T x (.int k a)] [hy : Ev T y (.int k b)] : Wk (qb8 B L P pol call fn nt R ((i, ⟨d, .call ⟨.builtin .min, [x, y].toArray, ats⟩, ty, pos, after, none⟩) :: rest) ds seen T Q) (qb8 B L P pol call fn nt R rest ((i, d) :: ds) ((i, []) :: seen) (qbv? nt T d (.int k (if b < a then b else a))) Q) := ⟨aval fun h => O_min2 hx.eq hy.eq⟩
instance {x : Operand} {j : Nat} {vs : List AV} {v : AV} [hx : Ev T x (.tuple vs)] [hv : Nth vs j v] : Wk (qb8 B L P pol call fn nt R ((i, ⟨d, .extract x j, ty, pos, after, none⟩) :: rest) ds seen T Q) (qb8 B L P pol call fn nt R rest ((i, d) :: ds) ((i, []) :: seen) (qbv? nt T d v) Q) := ⟨aval fun h => qar hx.eq hv.eq⟩
instance {a b : TypeId} {ka kb : IntKind} [ha : TInt P a ka] [hb : TInt P b kb] {x : Operand} {k : IntKind} {n : Int} [hx : Ev T x (.int k n)] : Wk (qb8 B L P pol call fn nt R ((i, ⟨d, .convert a b x, ty, pos, after, none⟩) :: rest) ds seen T Q) (qb8 B L P pol call fn nt R rest ((i, d) :: ds) ((i, []) :: seen) (qbv? nt T d (.int kb (kb.wrap n))) Q) := ⟨aval fun h => O_convert_int hx.eq⟩
instance {x : Operand} {id ver off : Nat} [hx : Ev T x (.ptr id ver off)] : Wk (qb8 B L P pol call fn nt R ((i, ⟨d, .nilCheck x, ty, pos, after, none⟩) :: rest) ds seen T Q) (qb8 B L P pol call fn nt R rest ((i, d) :: ds) ((i, []) :: seen) (qbv? nt T d (.ptr id ver off)) Q) := ⟨aval fun h => qal hx.eq⟩
instance {x : Operand} {cells : List AV} [hx : Ev T x (.iptr cells)] : Wk (qb8 B L P pol call fn nt R ((i, ⟨d, .nilCheck x, ty, pos, after, none⟩) :: rest) ds seen T Q) (qb8 B L P pol call fn nt R rest ((i, d) :: ds) ((i, []) :: seen) (qbv? nt T d (.iptr cells)) Q) := ⟨aval fun h => qak hx.eq⟩
instance {f : FuncId} {first captured : List Operand} {l1 l2 : List AV} [h1 : Evs T first l1] [h2 : Evs T captured l2] : Wk (qb8 B L P pol call fn nt R ((i, ⟨d, .makeFunc (.func f) first.toArray captured.toArray, ty, pos, after, none⟩) :: rest) ds seen T Q) (qb8 B L P pol call fn nt R rest ((i, d) :: ds) ((i, []) :: seen) (qbv? nt T d (.func (.func f) l1 l2)) Q) := ⟨aval fun h => O_makeFunc h1.eq h2.eq⟩
/-- values of several cells, compared -/
class SEq {α : Type} [DecidableEq α] (P : Program) (t : TypeId) (f : α → List AV) : Prop where
  eql : ∀ a b, abin P .eql t (.agg (f a)) (.agg (f b)) = pure (.bool (decide (a = b)))
  neq : ∀ a b, abin P .neq t (.agg (f a)) (.agg (f b)) = pure (.bool (!decide (a = b)))
instance wk_seql {α : Type} [DecidableEq α] {f : α → List AV} {t t' : TypeId} {x y : Operand} {c1 c2 : List AV} {a b : α} [hx : Ev T x (.agg c1)] [hy : Ev T y (.agg c2)] [e1 : Enc c1 f a] [e2 : Enc c2 f b] [s : SEq P t f] :
    Wk (qb8 B L P pol call fn nt R ((i, ⟨d, .binOp .eql t x y t', ty, pos, after, none⟩) :: rest) ds seen T Q) (qb8 B L P pol call fn nt R rest ((i, d) :: ds) ((i, []) :: seen) (qbv? nt T d (.bool (decide (a = b)))) Q) :=
  ⟨aval fun h => O_bin (by rw [hx.eq, e1.eq]) (by rw [hy.eq, e2.eq]) rfl (s.eql a b)⟩
instance wk_sneq {α : Type} [DecidableEq α] {f : α → List AV} {t t' : TypeId} {x y : Operand} {c1 c2 : List AV} {a b : α} [hx : Ev T x (.agg c1)] [hy : Ev T y (.agg c2)] [e1 : Enc c1 f a] [e2 : Enc c2 f b] [s : SEq P t f] :
    Wk (qb8 B L P pol call fn nt R ((i, ⟨d, .binOp .neq t x y t', ty, pos, after, none⟩) :: rest) ds seen T Q) (qb8 B L P pol call fn nt R rest ((i, d) :: ds) ((i, []) :: seen) (qbv? nt T d (.bool (!decide (a = b)))) Q) :=
  ⟨aval fun h => O_bin (by rw [hx.eq, e1.eq]) (by rw [hy.eq, e2.eq]) rfl (s.neq a b)⟩
/-! fields -/
instance (priority := 900) {s t : TypeId} {x : Operand} {f off id ver o : Nat} [ht : qbc P s f off t] [hx : Ev T x (.ptr id ver o)] : Wk (qb8 B L P pol call fn nt R ((i, ⟨d, .fieldAddr s x f, ty, pos, after, none⟩) :: rest) ds seen T Q) (qb8 B L P pol call fn nt R rest ((i, d) :: ds) ((i, []) :: seen) (qbv? nt T d (.ptr id ver (o + off))) Q) := ⟨aval fun h => qaj hx.eq⟩
instance {s t : TypeId} {x : Operand} {f off id ver : Nat} [ht : qbc P s f off t] [hx : Ev T x (.ptr id ver 0)] : Wk (qb8 B L P pol call fn nt R ((i, ⟨d, .fieldAddr s x f, ty, pos, after, none⟩) :: rest) ds seen T Q) (qb8 B L P pol call fn nt R rest ((i, d) :: ds) ((i, []) :: seen) (qbv? nt T d (.ptr id ver off)) Q) := ⟨aval fun h g => qaj hx.eq (by rw [Nat.zero_add]; exact g)⟩
instance {s t : TypeId} {x : Operand} {f id ver o : Nat} [ht : qbc P s f 0 t] [hx : Ev T x (.ptr id ver o)] : Wk (qb8 B L P pol call fn nt R ((i, ⟨d, .fieldAddr s x f, ty, pos, after, none⟩) :: rest) ds seen T Q) (qb8 B L P pol call fn nt R rest ((i, d) :: ds) ((i, []) :: seen) (qbv? nt T d (.ptr id ver o)) Q) := ⟨aval fun h g => qaj (off := 0) hx.eq g⟩
instance {s t : TypeId} {x : Operand} {f off : Nat} {cells r : List AV} [ht : qbc P s f off t] [hx : Ev T x (.iptr cells)] [hd : Dr cells off r] : Wk (qb8 B L P pol call fn nt R ((i, ⟨d, .fieldAddr s x f, ty, pos, after, none⟩) :: rest) ds seen T Q) (qb8 B L P pol call fn nt R rest ((i, d) :: ds) ((i, []) :: seen) (qbv? nt T d (.iptr r)) Q) :=
  ⟨aval fun h g => O_fieldAddr_iptr hx.eq (by simpa using hd.le) (by rw [hd.eq]; exact g)⟩
instance {s t : TypeId} {x : Operand} {f off : Nat} {cells r : List AV} {v : AV} [ht : qbc P s f off t] [h1 : qca P t] [hx : Ev T x (.agg cells)] [hd : Dr cells off (v :: r)] : Wk (qb8 B L P pol call fn nt R ((i, ⟨d, .field s x f, ty, pos, after, none⟩) :: rest) ds seen T Q) (qb8 B L P pol call fn nt R rest ((i, d) :: ds) ((i, []) :: seen) (qbv? nt T d v) Q) :=
  ⟨aval fun h => O_field_one hx.eq (by simpa using hd.le) hd.eq⟩
instance {s t : TypeId} {x : Operand} {f off n : Nat} {cells r c' : List AV} [ht : qbc P s f off t] [h1 : TAgg P t n] [hx : Ev T x (.agg cells)] [hd : Dr cells off r] [hk : Tk r n c'] : Wk (qb8 B L P pol call fn nt R ((i, ⟨d, .field s x f, ty, pos, after, none⟩) :: rest) ds seen T Q) (qb8 B L P pol call fn nt R rest ((i, d) :: ds) ((i, []) :: seen) (qbv? nt T d (.agg c')) Q) :=
  ⟨aval fun h => O_field_agg hx.eq (by have := hd.le; have h2 := hk.le; rw [← hd.eq, List.length_drop] at h2; simp; omega) (by rw [hd.eq, hk.eq])⟩
instance {t : TypeId} {a : Operand} {r : List AV} {v : AV} [h1 : qca P t] [ha : Ev T a (.iptr (v :: r))] : Wk (qb8 B L P pol call fn nt R ((i, ⟨d, .load t a, ty, pos, after, none⟩) :: rest) ds seen T Q) (qb8 B L P pol call fn nt R rest ((i, d) :: ds) ((i, []) :: seen) (qbv? nt T d v) Q) := ⟨aval fun h => O_load_iptr ha.eq rfl⟩
end
/-! rows -/
instance wk_load_row {t : TypeId} {a : Operand} {id ver off esz : Nat} {row r : List AV} {fix : Bool} {v : AV} [h1 : qca P t] [ha : Ev T a (.ptr id ver off)] [hr : qdu L W id ver esz row fix] [hd : Dr row off (v :: r)] :
    Wk (qb8 ⟨h0, X, W⟩ L P pol call fn nt R ((i, ⟨d, .load t a, ty, pos, after, none⟩) :: rest) ds seen T Q) (qb8 ⟨h0, X, W⟩ L P pol call fn nt R rest ((i, d) :: ds) ((i, [(true, id)]) :: seen) (qbv? nt T d v) Q) :=
  ⟨fun g h s e => qap ha.eq (s.all _ hr.mem) hd.eq (g h s e.step)⟩
instance wk_load_agg {t : TypeId} {a : Operand} {id ver off esz n : Nat} {row r c' : List AV} {fix : Bool} [h1 : TAgg P t n] [ha : Ev T a (.ptr id ver off)] [hr : qdu L W id ver esz row fix] [hd : Dr row off r] [hk : Tk r n c'] :
    Wk (qb8 ⟨h0, X, W⟩ L P pol call fn nt R ((i, ⟨d, .load t a, ty, pos, after, none⟩) :: rest) ds seen T Q) (qb8 ⟨h0, X, W⟩ L P pol call fn nt R rest ((i, d) :: ds) ((i, [(true, id)]) :: seen) (qbv? nt T d (.agg c')) Q) :=
  ⟨fun g h s e => qbk ha.eq (s.all _ hr.mem) (by have := hd.le; have h2 := hk.le; rw [← hd.eq, List.length_drop] at h2; simp; omega) (by rw [hd.eq, hk.eq]) (g h s e.step)⟩
theorem row_new {id n : Nat} {cs : List AV} {h h1 : Hp} {B : Bs} (s : St B L h) (w : h.WF) (k : Keep h h1) (r : Row h1 id 0 n cs true) (l : h.next ≤ id) : St B (.row id 0 n cs true :: L) h1 := by
  have := s.new w k (N := [.row id 0 n cs true]) (fun c hc => by rcases List.mem_singleton.1 hc with rfl; exact r) (by simp [cids, Ck.row]) (by simp [cids, Ck.row]; exact l)
  exact this
instance wk_alloc {t : TypeId} {z : AV} {cs : List AV} {n : Nat} [hz : qbf P t z] [ha : Ac L W z cs] [hn : Len cs n] :
    Wk (qb8 ⟨h0, X, W⟩ L P pol call fn nt R ((i, ⟨d, .alloc t, ty, pos, after, none⟩) :: rest) ds seen T Q) (∀ id, qb8 ⟨h0, X, W⟩ (.row id 0 n cs true :: L) P pol call fn nt R rest ((i, d) :: ds) seen (qbv? nt T d (.ptr id 0 0)) Q) :=
  ⟨fun g h s e => O_wf fun w => qdn fun h1 id k r l _ => g id h1 (by rw [(ha.ac h s.all).1, hn.eq] at r; exact row_new s w k r l) e.step⟩
instance wk_box {t : TypeId} {x : Operand} {v : AV} {cs : List AV} {n : Nat} [hx : Ev T x v] [ha : Ac L W v cs] [hn : Len cs n] :
    Wk (qb8 ⟨h0, X, W⟩ L P pol call fn nt R ((i, ⟨d, .box t x, ty, pos, after, none⟩) :: rest) ds seen T Q) (∀ id, qb8 ⟨h0, X, W⟩ (.row id 0 n cs true :: L) P pol call fn nt R rest ((i, d) :: ds) seen (qbv? nt T d (.ptr id 0 0)) Q) :=
  ⟨fun g h s e => O_wf fun w => O_box hx.eq (ha.ac h s.all).2 fun h1 id k r l _ => g id h1 (by rw [(ha.ac h s.all).1, hn.eq] at r; exact row_new s w k r l) e.step⟩
instance wk_makeMap {t : TypeId} : Wk (qb8 ⟨h0, X, W⟩ L P pol call fn nt R ((i, ⟨d, .makeMap t none, ty, pos, after, none⟩) :: rest) ds seen T Q) (∀ id, qb8 ⟨h0, X, W⟩ (.map id [] :: L) P pol call fn nt R rest ((i, d) :: ds) seen (qbv? nt T d (.mapv id)) Q) :=
  ⟨fun g h s e => O_wf fun w => O_makeMap fun h1 id k r l _ => g id h1 (by
    have := s.new w k (N := [.map id []]) (fun c hc => by rcases List.mem_singleton.1 hc with rfl; exact r) (by simp [cids, Ck.map]) (by simp [cids, Ck.map]; exact l)
    exact this) e.step⟩
/-- nothing is turned that was looked at and is not ordered -/
class Ok (R : Rg) (seen : Seen) (i : Nat) (C : outParam Prop) : Prop where ok : C → ∀ h h1, Undis R seen i h h1
instance {ms : List Nat} {dd : List (Option Tmp)} {seen : Seen} {i : Nat} : Ok ⟨false, ms, dd⟩ seen i True := ⟨fun _ _ _ => Undis.off rfl⟩
instance {ms : List Nat} {dd : List (Option Tmp)} {seen : Seen} {i : Nat} : Ok ⟨true, ms, dd⟩ seen i ((seen.all fun s => ahead ms s.1 i || s.2.isEmpty) = true) := ⟨fun e _ _ => Undis.ahead e⟩
theorem St.up {B : Bs} {L L' : List Ck} {c c' : Ck} {h h1 : Hp} (s : St B L h) (u : Up L c c' L') (w : h.WF) (k : KeepBut (· ∈ c.ids) h h1) (hp : c'.p h1) (hi : ∀ i ∈ c'.ids, i ∈ c.ids ∨ h.next ≤ i) (hn : c'.ids.Nodup) : St B L' h1 := by
  obtain ⟨Z, e1, e2⟩ := u.perm
  exact ((s.perm e1).put w k hp hi hn).perm e2
instance wk_store {t : TypeId} {a x : Operand} {id ver off esz n m : Nat} {row row' cs : List AV} {fix : Bool} {v : AV} {L' : List Ck} {C : Prop} [hs : TSz P t n] [ha : Ev T a (.ptr id ver off)] [hx : Ev T x v] [hr : qdu L [] id ver esz row fix] [hc : Ac L W v cs] [hl : Len cs m] [hm : Same (Nat.beq m n) true] [ho : Ones L W cs] [sp : Spl row off cs row'] [u : Up L (.row id ver esz row fix) (.row id ver esz row' fix) L'] [ok : Ok R seen i C] :
    Wk (qb8 ⟨h0, X, W⟩ L P pol call fn nt R ((i, ⟨d, .store t a x, ty, pos, after, none⟩) :: rest) ds seen T Q) (C ∧ qb8 ⟨h0, X, W⟩ L' P pol call fn nt R rest ((i, d) :: ds) seen (qbv? nt T d (.tuple [])) Q) :=
  ⟨fun g h s e => O_wf fun w => by
    have hac := (hc.ac h s.all).1
    have hmn : m = n := Nat.eq_of_beq_eq_true hm.eq
    have hle := sp.le
    rw [hl.eq] at hle
    refine qcj ha.eq hx.eq (s.all _ (by have := hr.mem; simp at this; exact List.mem_append.2 (.inl this))) ?_ fun h1 k r => ⟨ok.ok g.1 _ _, g.2 h1 ?_ e.step⟩
    · rw [hac, ho.ones h s.all, hl.eq, hmn]; rw [hmn] at hle; simp; exact hle
    · rw [hac, sp.eq] at r
      exact s.up u w (k.weaken (by rintro i rfl; simp [Ck.row])) r (fun i hi => .inl hi) (by simp [Ck.row])⟩

/-! slices -/
section
variable {α : Type} {f : α → List AV} {sz : Nat} {l m : List α}
instance wk_len {t e : TypeId} {x : Operand} {v : AV} [hu : TSl P t e] [hx : Ev T x v] [hr : HasRows L W v f sz l] :
    Wk (qb8 ⟨h0, X, W⟩ L P pol call fn nt R ((i, ⟨d, .call ⟨.builtin .len, [x].toArray, [t].toArray⟩, ty, pos, after, none⟩) :: rest) ds seen T Q) (qb8 ⟨h0, X, W⟩ L P pol call fn nt R rest ((i, d) :: ds) ((i, (qb1 v).map fun id => (false, id)) :: seen) (qbv? nt T d (.int .i64 (l.length : Nat))) Q) :=
  ⟨fun g h s e => qax hx.eq (hr.has h s.all) (g h s e.step)⟩
instance wk_len0 {t e : TypeId} {x : Operand} [hu : TSl P t e] [hx : Ev T x (.sl .nil 0 [])] :
    Wk (qb8 ⟨h0, X, W⟩ L P pol call fn nt R ((i, ⟨d, .call ⟨.builtin .len, [x].toArray, [t].toArray⟩, ty, pos, after, none⟩) :: rest) ds seen T Q) (qb8 ⟨h0, X, W⟩ L P pol call fn nt R rest ((i, d) :: ds) ((i, []) :: seen) (qbv? nt T d (.int .i64 ((0 : Nat) : Int))) Q) :=
  ⟨fun g h s e => qax hx.eq (SlV.nil (sz := 1)) (g h s e.step)⟩
instance wk_lenS {t : TypeId} {x : Operand} {l : List UInt8} [hu : TStr P t] [hx : Ev T x (.str l)] :
    Wk (qb8 ⟨h0, X, W⟩ L P pol call fn nt R ((i, ⟨d, .call ⟨.builtin .len, [x].toArray, [t].toArray⟩, ty, pos, after, none⟩) :: rest) ds seen T Q) (qb8 ⟨h0, X, W⟩ L P pol call fn nt R rest ((i, d) :: ds) ((i, []) :: seen) (qbv? nt T d (.int .i64 (l.length : Nat))) Q) :=
  ⟨fun g h s e => qaq hx.eq (g h s e.step)⟩
end
end
end Go.Am
namespace Go.Am
open Go AM
set_option linter.unusedVariables false
set_option synthInstance.maxHeartbeats 200000

/-- a number from 0 on -/
class NatOf (z : Int) (j : outParam Nat) : Prop where eq : z = (j : Int)
instance {n : Nat} : NatOf (n : Int) n := ⟨rfl⟩
instance : NatOf 0 0 := ⟨rfl⟩
instance {n : Nat} [NeZero n] : NatOf (OfNat.ofNat n : Int) (OfNat.ofNat n) := ⟨rfl⟩
/-- what stands at a place of a list -/
class ElAt {α : Type} (l : List α) (j : Nat) (x : outParam α) : Prop where eq : l[j]? = some x
/-- the place of an element's part -/
def elA (v : AV) (j sz off : Nat) : AV := match v with
  | .own id ver o _ => .ptr id ver (o + j * sz + off)
  | .sl _ _ cells => .iptr (cells.drop (j * sz + off))
  | _ => .undef
/-- a slice that may grow, and be written -/
def Ck.arr {α : Type} (f : α → List AV) (sz : Nat) (v : AV) (l : List α) : Ck where
  ids := qb1 v
  p h := Rows f sz h v l ∧ qdh v = true ∧ qb1 v ≠ []
  loc h h' k r := ⟨r.1.loc k, r.2⟩
  dom h r := r.1.ids.2
instance tkw_arr {α : Type} {f : α → List AV} {sz : Nat} {v : AV} {l : List α} {L : List Ck} : Tkw (.arr f sz v l :: L) (.rows f sz v l) L := tkw_imp rfl fun h r => ⟨r.1, r.2.1⟩
instance tkw_arr' {α : Type} {f : α → List AV} {sz : Nat} {v : AV} {l : List α} {L : List Ck} : Tkw (.arr f sz v l :: L) (.ro f sz v l) L := tkw_imp rfl fun h r => r.1
instance tkw_rows {α : Type} {f : α → List AV} {sz : Nat} {v : AV} {l : List α} {L : List Ck} : Tkw (.rows f sz v l :: L) (.ro f sz v l) L := tkw_imp rfl fun h r => r.1
instance hasrows_2 {L W : List Ck} {v : AV} {α : Type} {f : α → List AV} {sz : Nat} {l : List α} : HasRows (.arr f sz v l :: L) W v f sz l := ⟨fun h k => (k _ List.mem_cons_self).1⟩

section
variable {h : Hp} {v : AV} {α : Type} {f : α → List AV} {sz : Nat} {l : List α} {x : α} {j off : Nat}
theorem el_lt (hj : j < l.length) : j * sz + sz ≤ l.length * sz := by
  have := Nat.mul_le_mul_right sz (Nat.succ_le_of_lt hj)
  rwa [Nat.succ_mul] at this
theorem elA_at (hf : ∀ x, (f x).length = sz) (r : Rows f sz h v l) (hx : l[j]? = some x) (ho : off ≤ sz) : AtV h (elA v j sz off) ((f x).drop off) := by
  obtain ⟨hj, _⟩ := List.getElem?_eq_some_iff.1 hx
  have hl := el_lt (sz := sz) hj
  have hc := flat_get hf hx
  have hfl : qc3 f l = (qc3 f l).take (j * sz) ++ (f x ++ (qc3 f l).drop (j * sz + sz)) := by
    rw [← hc, ← List.drop_drop, List.take_append_drop, List.take_append_drop]
  have htl : ((qc3 f l).take (j * sz)).length = j * sz := by rw [List.length_take, qcu hf]; omega
  have hd : (qc3 f l).drop (j * sz + off) = (f x).drop off ++ (qc3 f l).drop (j * sz + sz) := by
    rw [← List.drop_drop]
    conv => lhs; rw [hfl, List.drop_left' htl]
    rw [List.drop_append_of_le_length (by rw [hf]; exact ho)]
  have r : SlV h sz v l.length (qc3 f l) := r
  generalize hn : l.length = n at r
  generalize hcs : qc3 f l = cs at r
  cases r with
  | imm k n cells e =>
    subst hcs
    show AtV h (.iptr _) _
    rw [hd]; exact .imm _ _
  | own id ver o n row fix r0 e =>
    have e2 : row.drop (o + (j * sz + off)) = (f x).drop off ++ ((qc3 f l).drop (j * sz + sz) ++ (row.drop o).drop (n * sz)) := by
      rw [← List.append_assoc, ← hd, ← List.drop_drop, hcs]
      conv => lhs; rw [← List.take_append_drop (n * sz) (row.drop o)]
      rw [List.drop_append_of_le_length (by rw [List.length_take, List.length_drop]; subst hn; omega)]
    refine .ptr id ver (o + j * sz + off) sz row _ ((qc3 f l).drop (j * sz + sz) ++ (row.drop o).drop (n * sz)) fix r0 ?_
    rw [Nat.add_assoc]; exact e2
end

section
variable {h0 : Hp} {X : List Nat} {W L : List Ck} {P : Program} {pol : Pol} {call : qb3} {fn nt : Nat} {R : Rg} {rest : List (Nat × Oper)} {ds : List (Nat × Option Tmp)} {seen : Seen} {T : qba} {Q : qba → Hp → Prop} {i : Nat} {d : Option Tmp} {ty : TypeId} {pos : String} {after : Array Edge}
variable {α : Type} {f : α → List AV} {sz : Nat} {l m : List α}

theorem aops_index {t e : TypeId} {x y : Operand} {v : AV} {ik : IntKind} {z : Int} {j : Nat} [hu : TSl P t e] [hs : TSz P e sz] [hx : Ev T x v] [hr : HasRows L W v f sz l] [hf : FL f sz] [hy : Ev T y (.int ik z)] (hz0 : sz ≠ 0) (hz : z = j) (hj : j < l.length)
    (g : qb8 ⟨h0, X, W⟩ L P pol call fn nt R rest ((i, d) :: ds) ((i, (qb1 v).map fun id => (false, id)) :: seen) (qbv? nt T d (elA v j sz 0)) Q) : qb8 ⟨h0, X, W⟩ L P pol call fn nt R ((i, ⟨d, .indexAddr t x y, ty, pos, after, none⟩) :: rest) ds seen T Q := fun h s e' => by
  subst hz
  have g := g h s e'.step
  have r : SlV h sz v l.length (qc3 f l) := hr.has h s.all
  have hl := el_lt (sz := sz) hj
  generalize hn : l.length = n at *
  generalize hcs : qc3 f l = cs at *
  have hxe := hx.eq
  have hye := hy.eq
  have hids : qcd (qbd T) ⟨d, .indexAddr t x y, ty, pos, after, none⟩ = (qb1 v).map fun id => (false, id) := by
    have h1 : qcd (qbd T) ⟨d, .indexAddr t x y, ty, pos, after, none⟩ = (qcl (qbd T x) ++ qcl (qbd T y)).map fun id => (false, id) := by simp [qcd, qdx, Op.operands]
    rw [h1, hxe, hye, r.ids.1]; simp [qcl]
  cases r with
  | imm k n _ e =>
    refine O_val rfl rfl hids (v := .iptr (cs.drop (j * sz))) ?_ g
    simp only [aop, hxe, hye, qdi, hu.un, hs.sz]
    have hz' : Nat.beq sz 0 = false := by cases sz with | zero => exact absurd rfl hz0 | succ n => rfl
    rw [qa6, within_nat hj, hz']
    simp [e, qbm, qa6]
  | own id ver o n row fix r0 e => exact O_indexAddr_own hxe r0 hye hj e g
instance wk_index {t e : TypeId} {x y : Operand} {v : AV} {ik : IntKind} {z : Int} {j : Nat} [hu : TSl P t e] [hs : TSz P e sz] [hx : Ev T x v] [hr : HasRows L W v f sz l] [hf : FL f sz] [hy : Ev T y (.int ik z)] [hj : NatOf z j] [hz : Same (Nat.beq sz 0) false] :
    Wk (qb8 ⟨h0, X, W⟩ L P pol call fn nt R ((i, ⟨d, .indexAddr t x y, ty, pos, after, none⟩) :: rest) ds seen T Q) (j < l.length ∧ qb8 ⟨h0, X, W⟩ L P pol call fn nt R rest ((i, d) :: ds) ((i, (qb1 v).map fun id => (false, id)) :: seen) (qbv? nt T d (elA v j sz 0)) Q) :=
  ⟨fun g => aops_index (hy := hy) (by rintro rfl; cases hz.eq) hj.eq g.1 g.2⟩
instance (priority := 500) wk_indexZ {t e : TypeId} {x y : Operand} {v : AV} {ik : IntKind} {z : Int} [hu : TSl P t e] [hs : TSz P e sz] [hx : Ev T x v] [hr : HasRows L W v f sz l] [hf : FL f sz] [hy : Ev T y (.int ik z)] [hz : Same (Nat.beq sz 0) false] :
    Wk (qb8 ⟨h0, X, W⟩ L P pol call fn nt R ((i, ⟨d, .indexAddr t x y, ty, pos, after, none⟩) :: rest) ds seen T Q) (∃ j : Nat, z = j ∧ j < l.length ∧ qb8 ⟨h0, X, W⟩ L P pol call fn nt R rest ((i, d) :: ds) ((i, (qb1 v).map fun id => (false, id)) :: seen) (qbv? nt T d (elA v j sz 0)) Q) :=
  ⟨fun ⟨j, g⟩ => aops_index (hy := hy) (by rintro rfl; cases hz.eq) g.1 g.2.1 g.2.2⟩
instance wk_elField {s t : TypeId} {a : Operand} {v : AV} {j off off' fi : Nat} {x : α} {r : List AV} [ht : qbc P s fi off' t] [ha : Ev T a (elA v j sz off)] [hr : HasRows L W v f sz l] [hf : FL f sz] [hx : ElAt l j x] [hd : Dr (f x) (off + off') r] :
    Wk (qb8 ⟨h0, X, W⟩ L P pol call fn nt R ((i, ⟨d, .fieldAddr s a fi, ty, pos, after, none⟩) :: rest) ds seen T Q) (qb8 ⟨h0, X, W⟩ L P pol call fn nt R rest ((i, d) :: ds) ((i, []) :: seen) (qbv? nt T d (elA v j sz (off + off'))) Q) :=
  ⟨fun g h s e => by
    have g := g h s e.step
    have r : SlV h sz v l.length (qc3 f l) := hr.has h s.all
    have hle := hd.le
    rw [hf.len] at hle
    have hae := ha.eq
    have hj : j < l.length := (List.getElem?_eq_some_iff.1 hx.eq).1
    have hl := el_lt (sz := sz) hj
    have hlen := qcu hf.len l
    generalize hn : l.length = n at *
    generalize hcs : qc3 f l = cs at *
    cases r with
    | imm k n _ e =>
      refine O_fieldAddr_iptr hae (by simp; omega) ?_
      rw [List.drop_drop]
      have : elA (.sl k n cs) j sz (off + off') = .iptr (cs.drop (j * sz + off + off')) := by show AV.iptr _ = _; rw [Nat.add_assoc]
      rw [← this]; exact g
    | own id ver o n row fix r0 e =>
      refine qaj hae ?_
      have : elA (.own id ver o n) j sz (off + off') = .ptr id ver (o + j * sz + off + off') := by show AV.ptr _ _ _ = _; rw [Nat.add_assoc (o + j * sz)]
      rw [← this]; exact g⟩
instance wk_elLoad {t : TypeId} {a : Operand} {v u : AV} {j off : Nat} {x : α} {r : List AV} [h1 : qca P t] [ha : Ev T a (elA v j sz off)] [hr : HasRows L W v f sz l] [hf : FL f sz] [hx : ElAt l j x] [hd : Dr (f x) off (u :: r)] :
    Wk (qb8 ⟨h0, X, W⟩ L P pol call fn nt R ((i, ⟨d, .load t a, ty, pos, after, none⟩) :: rest) ds seen T Q) (qb8 ⟨h0, X, W⟩ L P pol call fn nt R rest ((i, d) :: ds) ((i, (qcl (elA v j sz off)).map fun id => (true, id)) :: seen) (qbv? nt T d u) Q) :=
  ⟨fun g h s e => qce ha.eq (by have := elA_at hf.len (hr.has h s.all) hx.eq (by have := hd.le; rw [hf.len] at this; exact this); rw [hd.eq] at this; exact this) (g h s e.step)⟩
instance wk_elLoadAgg {t : TypeId} {a : Operand} {v : AV} {j off n : Nat} {x : α} {r c' : List AV} [h1 : TAgg P t n] [ha : Ev T a (elA v j sz off)] [hr : HasRows L W v f sz l] [hf : FL f sz] [hx : ElAt l j x] [hd : Dr (f x) off r] [hk : Tk r n c'] :
    Wk (qb8 ⟨h0, X, W⟩ L P pol call fn nt R ((i, ⟨d, .load t a, ty, pos, after, none⟩) :: rest) ds seen T Q) (qb8 ⟨h0, X, W⟩ L P pol call fn nt R rest ((i, d) :: ds) ((i, (qcl (elA v j sz off)).map fun id => (true, id)) :: seen) (qbv? nt T d (.agg c')) Q) :=
  ⟨fun g h s e => qcy ha.eq (by
    have := elA_at hf.len (hr.has h s.all) hx.eq (by have := hd.le; rw [hf.len] at this; exact this)
    rw [hd.eq, ← List.take_append_drop n r, hk.eq] at this; exact this.take) (by have := hk.le; rw [← hk.eq, List.length_take, Nat.min_eq_left this]; simp) (g h s e.step)⟩

/-! append -/
theorem aops_append {args : List Operand} {t u e e' : TypeId} {bytes : Nat} {z s x : AV} {Cd : Prop} [ht : TSl P t e] [hu : TSl P u e'] [hs : TSz P e sz] [hb' : qa7 P e bytes] [hz' : qbf P e z]
    (ha : Evs T args [s, x]) [hx : HasRows L W x f sz m] [h1 : FOne f] [hf : FL f sz] [ok : Ok R seen i Cd]
    (hz : (!(Nat.beq sz 0) && !(Nat.beq bytes 0) && Nat.beq (acells z).length sz) = true) (hb : (l.length + m.length) * bytes ≤ 140737488355328) (hc : Cd)
    (K : AV → List Ck) (hK : ∀ h, St ⟨h0, X, W⟩ L h → Rows f sz h s l ∧ qdh s = true ∧ ∀ v h1, h.WF → KeepBut (· ∈ qb1 s) h h1 → Rows f sz h1 v (l ++ m) → qdh v = true → (∀ k ∈ qb1 v, k ∈ qb1 s ∨ h.next ≤ k) → (m ≠ [] → qb1 v ≠ []) → St ⟨h0, X, W⟩ (K v) h1)
    (g : ∀ v, qb8 ⟨h0, X, W⟩ (K v) P pol call fn nt R rest ((i, d) :: ds) seen (qbv? nt T d v) Q) :
    qb8 ⟨h0, X, W⟩ L P pol call fn nt R ((i, ⟨d, .call ⟨.builtin .append, args.toArray, [t, u].toArray⟩, ty, pos, after, none⟩) :: rest) ds seen T Q := fun h s e => O_wf fun w => by
  obtain ⟨r1, r2, r3⟩ := hK h s
  refine O_append ha.eq r1 r2 (hx.has h s.all) (flat_ones m) hz hb fun v h1 k sl gb hv hne => ⟨ok.ok hc _ _, g v h1 ?_ e.step⟩
  refine r3 v h1 w k ?_ gb (fun k hk => (hv k hk).imp id fun q => q.1) (fun c => hne (by cases m <;> simp_all))
  show SlV h1 sz v (l ++ m).length _
  rw [List.length_append, flat_append]; exact sl
theorem vids_nodup (v : AV) : (qb1 v).Nodup := by cases v <;> simp [qb1]
/-- a chunk that may grow -/
class Gr (L : List Ck) (v : AV) {α : outParam Type} (f : outParam (α → List AV)) (sz : outParam Nat) (l : outParam (List α)) (c : outParam Ck) : Prop where
  mem : c ∈ L
  ids : c.ids = qb1 v
  p : ∀ h, c.p h → Rows f sz h v l ∧ qdh v = true
instance (priority := 900) gr_s {c c' : Ck} {v : AV} [a : Gr L v f sz l c] : Gr (c' :: L) v f sz l c := ⟨List.mem_cons_of_mem _ a.mem, a.ids, a.p⟩
instance gr_0 {v : AV} : Gr (.rows f sz v l :: L) v f sz l (.rows f sz v l) := ⟨List.mem_cons_self, rfl, fun h r => r⟩
instance gr_1 {v : AV} : Gr (.arr f sz v l :: L) v f sz l (.arr f sz v l) := ⟨List.mem_cons_self, rfl, fun h r => ⟨r.1, r.2.1⟩⟩
class UpF (L : List Ck) (c : Ck) (k : AV → Ck) (K : outParam (AV → List Ck)) : Prop where up : ∀ v, Up L c (k v) (K v)
instance (priority := 900) upf_s {c d : Ck} {k : AV → Ck} {K : AV → List Ck} [a : UpF L c k K] : UpF (d :: L) c k (fun v => d :: K v) := ⟨fun v => @up_s _ _ _ _ _ (a.up v)⟩
instance upf_0 {c : Ck} {k : AV → Ck} : UpF (c :: L) c k (fun v => k v :: L) := ⟨fun v => up_0⟩
theorem app_own {s v : AV} {c : Ck} {h h1 : Hp} {B : Bs} {k : AV → Ck} {K : AV → List Ck} (gr : Gr L s f sz l c) (up : UpF L c k K) (st : St B L h) (w : h.WF) (kb : KeepBut (· ∈ qb1 s) h h1) (hp : (k v).p h1) (hi : (k v).ids = qb1 v) (hv : ∀ k ∈ qb1 v, k ∈ qb1 s ∨ h.next ≤ k) : St B (K v) h1 :=
  st.up (up.up v) w (kb.weaken fun i hi => by rw [gr.ids]; exact hi) hp (fun i q => by rw [gr.ids]; exact hv i (hi ▸ q)) (by rw [hi]; exact vids_nodup v)
instance wk_append1 {x0 : α} {args : List Operand} {t u e e' : TypeId} {bytes : Nat} {z s x : AV} {c : Ck} {K : AV → List Ck} {Cd : Prop} [ht : TSl P t e] [hu : TSl P u e'] [hs : TSz P e sz] [hb' : qa7 P e bytes] [hz' : qbf P e z]
    [ha : Evs T args [s, x]] [gr : Gr L s f sz l c] [hx : HasRows L W x f sz [x0]] [h1 : FOne f] [hf : FL f sz] [ok : Ok R seen i Cd] [up : UpF L c (fun v => .arr f sz v (l ++ [x0])) K] :
    Wk (qb8 ⟨h0, X, W⟩ L P pol call fn nt R ((i, ⟨d, .call ⟨.builtin .append, args.toArray, [t, u].toArray⟩, ty, pos, after, none⟩) :: rest) ds seen T Q)
      ((!(Nat.beq sz 0) && !(Nat.beq bytes 0) && Nat.beq (acells z).length sz) = true ∧ Cd ∧ (l.length + 1) * bytes ≤ 140737488355328 ∧ ∀ v, qb8 ⟨h0, X, W⟩ (K v) P pol call fn nt R rest ((i, d) :: ds) seen (qbv? nt T d v) Q) :=
  ⟨fun g => aops_append ha g.1 g.2.2.1 g.2.1 K (fun h st => ⟨(gr.p h (st.all c (List.mem_append.2 (.inl gr.mem)))).1, (gr.p h (st.all c (List.mem_append.2 (.inl gr.mem)))).2, fun v h1 w kb r gb hv hne => app_own gr up st w kb ⟨r, gb, hne (by simp)⟩ rfl hv⟩) g.2.2.2⟩
instance (priority := 900) wk_append {args : List Operand} {t u e e' : TypeId} {bytes : Nat} {z s x : AV} {c : Ck} {K : AV → List Ck} {Cd : Prop} [ht : TSl P t e] [hu : TSl P u e'] [hs : TSz P e sz] [hb' : qa7 P e bytes] [hz' : qbf P e z]
    [ha : Evs T args [s, x]] [gr : Gr L s f sz l c] [hx : HasRows L W x f sz m] [h1 : FOne f] [hf : FL f sz] [ok : Ok R seen i Cd] [up : UpF L c (fun v => .rows f sz v (l ++ m)) K] :
    Wk (qb8 ⟨h0, X, W⟩ L P pol call fn nt R ((i, ⟨d, .call ⟨.builtin .append, args.toArray, [t, u].toArray⟩, ty, pos, after, none⟩) :: rest) ds seen T Q)
      ((!(Nat.beq sz 0) && !(Nat.beq bytes 0) && Nat.beq (acells z).length sz) = true ∧ Cd ∧ (l.length + m.length) * bytes ≤ 140737488355328 ∧ ∀ v, qb8 ⟨h0, X, W⟩ (K v) P pol call fn nt R rest ((i, d) :: ds) seen (qbv? nt T d v) Q) :=
  ⟨fun g => aops_append ha g.1 g.2.2.1 g.2.1 K (fun h st => ⟨(gr.p h (st.all c (List.mem_append.2 (.inl gr.mem)))).1, (gr.p h (st.all c (List.mem_append.2 (.inl gr.mem)))).2, fun v h1 w kb r gb hv hne => app_own gr up st w kb ⟨r, gb⟩ rfl hv⟩) g.2.2.2⟩
/-- nothing, that may grow -/
class Nil0 (v : AV) : Prop where eq : v = .sl .nil 0 [] ∨ v = .sl .full 0 [] ∨ v = .sl .tight 0 []
instance : Nil0 (.sl .nil 0 []) := ⟨.inl rfl⟩
instance : Nil0 (.sl .full 0 []) := ⟨.inr (.inl rfl)⟩
instance : Nil0 (.sl .tight 0 []) := ⟨.inr (.inr rfl)⟩
theorem app_new {s v : AV} [n0 : Nil0 s] {c : Ck} {h h1 : Hp} {B : Bs} (st : St B L h) (w : h.WF) (kb : KeepBut (· ∈ qb1 s) h h1) (hp : c.p h1) (hi : c.ids = qb1 v) (hv : ∀ k ∈ qb1 v, k ∈ qb1 s ∨ h.next ≤ k) : St B (c :: L) h1 := by
  have hs : qb1 s = [] := by rcases n0.eq with rfl | rfl | rfl <;> rfl
  rw [hs] at kb hv
  have := st.new w (kb.none fun i q => by cases q) (N := [c]) (fun d hd => by rcases List.mem_singleton.1 hd with rfl; exact hp) (by simp [cids, hi, vids_nodup]) (fun i q => by simp [cids, hi] at q; exact (hv i q).resolve_left (fun c => by cases c))
  exact this
theorem Nil0.rows {s : AV} [n0 : Nil0 s] {h : Hp} : Rows f sz h s [] ∧ qdh s = true := by
  rcases n0.eq with rfl | rfl | rfl <;> exact ⟨.imm _ 0 [] (by simp), rfl⟩
instance wk_appnil1 {x0 : α} {args : List Operand} {t u e e' : TypeId} {bytes : Nat} {z s x : AV} {Cd : Prop} [ht : TSl P t e] [hu : TSl P u e'] [hs : TSz P e sz] [hb' : qa7 P e bytes] [hz' : qbf P e z]
    [ha : Evs T args [s, x]] [n0 : Nil0 s] [hx : HasRows L W x f sz [x0]] [h1 : FOne f] [hf : FL f sz] [ok : Ok R seen i Cd] :
    Wk (qb8 ⟨h0, X, W⟩ L P pol call fn nt R ((i, ⟨d, .call ⟨.builtin .append, args.toArray, [t, u].toArray⟩, ty, pos, after, none⟩) :: rest) ds seen T Q)
      ((!(Nat.beq sz 0) && !(Nat.beq bytes 0) && Nat.beq (acells z).length sz) = true ∧ Cd ∧ 1 * bytes ≤ 140737488355328 ∧ ∀ v, qb8 ⟨h0, X, W⟩ (.arr f sz v [x0] :: L) P pol call fn nt R rest ((i, d) :: ds) seen (qbv? nt T d v) Q) :=
  ⟨fun g => aops_append ha g.1 (l := []) (by simpa using g.2.2.1) g.2.1 (fun v => .arr f sz v [x0] :: L) (fun h st => ⟨n0.rows.1, n0.rows (f := f) (sz := sz) (h := h).2, fun v h1 w kb r gb hv hne => app_new st w kb ⟨r, gb, hne (by simp)⟩ rfl hv⟩) g.2.2.2⟩
instance (priority := 900) wk_appnil {args : List Operand} {t u e e' : TypeId} {bytes : Nat} {z s x : AV} {Cd : Prop} [ht : TSl P t e] [hu : TSl P u e'] [hs : TSz P e sz] [hb' : qa7 P e bytes] [hz' : qbf P e z]
    [ha : Evs T args [s, x]] [n0 : Nil0 s] [hx : HasRows L W x f sz m] [h1 : FOne f] [hf : FL f sz] [ok : Ok R seen i Cd] :
    Wk (qb8 ⟨h0, X, W⟩ L P pol call fn nt R ((i, ⟨d, .call ⟨.builtin .append, args.toArray, [t, u].toArray⟩, ty, pos, after, none⟩) :: rest) ds seen T Q)
      ((!(Nat.beq sz 0) && !(Nat.beq bytes 0) && Nat.beq (acells z).length sz) = true ∧ Cd ∧ m.length * bytes ≤ 140737488355328 ∧ ∀ v, qb8 ⟨h0, X, W⟩ (.rows f sz v m :: L) P pol call fn nt R rest ((i, d) :: ds) seen (qbv? nt T d v) Q) :=
  ⟨fun g => aops_append ha g.1 (l := []) (by simpa using g.2.2.1) g.2.1 (fun v => .rows f sz v m :: L) (fun h st => ⟨n0.rows.1, n0.rows (f := f) (sz := sz) (h := h).2, fun v h1 w kb r gb hv hne => app_new st w kb ⟨r, gb⟩ rfl hv⟩) g.2.2.2⟩
/-! calls -/
theorem qcr {fo : Operand} {args : List Operand} {ats : Array TypeId} {F : AV} {al : List AV} {Post : AV → List Ck → Prop} [hf : Ev T fo F] [hl : Evs T args al] (sp : Cal [] (L ++ W) (call F al) Post)
    (g : ∀ v N, Post v N → qb8 ⟨h0, X, W⟩ (N ++ L) P pol call fn nt R rest ((i, d) :: ds) seen (qbv? nt T d v) Q) : qb8 ⟨h0, X, W⟩ L P pol call fn nt R ((i, ⟨d, .call ⟨.value fo, args.toArray, ats⟩, ty, pos, after, none⟩) :: rest) ds seen T Q := fun h s e => O_wf fun w =>
  qb5 hf.eq hl.eq ((sp h (s.into (C := []) w)).mono fun v h1 ⟨N, p, t⟩ => ⟨Keep.undis ⟨fun id o e => t.keep.same id o (fun q => by cases q) e, t.keep.next⟩, g v N p h1 (s.out (C := []) t) e.step⟩)
/-- what is handed on lies behind -/
theorem A_callT {fo : Operand} {args : List Operand} {ats : Array TypeId} {F : AV} {al : List AV} {C Rs : List Ck} {Post : AV → List Ck → Prop} {Cd : Prop} [hf : Ev T fo F] [hl : Evs T args al] [tk : Taks L C Rs] [ok : Ok R seen i Cd] (hc : Cd) (sp : Cal C (Rs ++ W) (call F al) Post)
    (g : ∀ v N, Post v N → qb8 ⟨h0, X, W⟩ (Rs ++ N) P pol call fn nt R rest ((i, d) :: ds) seen (qbv? nt T d v) Q) : qb8 ⟨h0, X, W⟩ L P pol call fn nt R ((i, ⟨d, .call ⟨.value fo, args.toArray, ats⟩, ty, pos, after, none⟩) :: rest) ds seen T Q := fun h s e => O_wf fun w =>
  qb5 hf.eq hl.eq ((sp h ((s.perm tk.perm).into w)).mono fun v h1 ⟨N, p, t⟩ => ⟨ok.ok hc _ _, g v N p h1 (((s.perm tk.perm).out t).perm List.perm_append_comm) e.step⟩)
theorem A_call {fo : Operand} {args : List Operand} {ats : Array TypeId} {F : AV} {al : List AV} {C Rs : List Ck} {Post : AV → List Ck → Prop} {Cd : Prop} [hf : Ev T fo F] [hl : Evs T args al] [tk : Taks L C Rs] [ok : Ok R seen i Cd] (hc : Cd) (sp : Cal C (Rs ++ W) (call F al) Post)
    (g : ∀ v N, Post v N → qb8 ⟨h0, X, W⟩ (N ++ Rs) P pol call fn nt R rest ((i, d) :: ds) seen (qbv? nt T d v) Q) : qb8 ⟨h0, X, W⟩ L P pol call fn nt R ((i, ⟨d, .call ⟨.value fo, args.toArray, ats⟩, ty, pos, after, none⟩) :: rest) ds seen T Q := fun h s e => O_wf fun w =>
  qb5 hf.eq hl.eq ((sp h ((s.perm tk.perm).into w)).mono fun v h1 ⟨N, p, t⟩ => ⟨ok.ok hc _ _, g v N p h1 ((s.perm tk.perm).out t) e.step⟩)
end
end Go.Am
namespace Go.Am
open Go AM
set_option linter.unusedVariables false
set_option synthInstance.maxHeartbeats 200000

instance (priority := 800) hasrow_f {R W : List Ck} {id ver esz : Nat} {cells : List AV} {fix : Bool} [a : qdu [] W id ver esz cells fix] : qdu [] (R ++ W) id ver esz cells fix := ⟨by have := a.mem; simp at this ⊢; exact .inr this⟩
instance (priority := 900) hasmap_w {c : Ck} {W : List Ck} {id : Nat} {es : List (AV × AV)} [a : HasMap (c :: W) [] id es] : HasMap [] (c :: W) id es := ⟨by have := a.mem; simpa using this⟩
instance (priority := 800) hasmap_f {R W : List Ck} {id : Nat} {es : List (AV × AV)} [a : HasMap [] W id es] : HasMap [] (R ++ W) id es := ⟨by have := a.mem; simp at this ⊢; exact .inr this⟩

instance (priority := 50) hasrow_any {L W : List Ck} {id ver esz : Nat} {cells : List AV} {fix : Bool} [a : qdu [] W id ver esz cells fix] : qdu L W id ver esz cells fix := ⟨by have := a.mem; simp at this ⊢; exact .inr this⟩
instance (priority := 50) hasmap_any {L W : List Ck} {id : Nat} {es : List (AV × AV)} [a : HasMap [] W id es] : HasMap L W id es := ⟨by have := a.mem; simp at this ⊢; exact .inr this⟩
instance (priority := 50) hasrows_any {L W : List Ck} {v : AV} {α : Type} {f : α → List AV} {sz : Nat} {l : List α} [a : HasRows [] W v f sz l] : HasRows L W v f sz l := ⟨fun h k => a.has h fun d hd => k d (by simp at hd ⊢; exact .inr hd)⟩
instance (priority := 40) hasrow_l {L W : List Ck} {id ver esz : Nat} {cells : List AV} {fix : Bool} [a : qdu [] L id ver esz cells fix] : qdu L W id ver esz cells fix := ⟨by have := a.mem; simp at this ⊢; exact .inl this⟩
instance (priority := 40) hasmap_l {L W : List Ck} {id : Nat} {es : List (AV × AV)} [a : HasMap [] L id es] : HasMap L W id es := ⟨by have := a.mem; simp at this ⊢; exact .inl this⟩
instance (priority := 40) hasrows_l {L W : List Ck} {v : AV} {α : Type} {f : α → List AV} {sz : Nat} {l : List α} [a : HasRows [] L v f sz l] : HasRows L W v f sz l := ⟨fun h k => a.has h fun d hd => k d (by simp at hd ⊢; exact .inl hd)⟩
/-- one chunk is turned, its objects stay -/
theorem St.put' {B : Bs} {L : List Ck} {h h1 : Hp} {c c' : Ck} (s : St B (c :: L) h) (k : KeepBut (· ∈ c.ids) h h1) (hp : c'.p h1) (hi : c'.ids = c.ids) : St B (c' :: L) h1 where
  wf := s.wf
  keep := ⟨fun id o hx e => k.same id o (fun q => by
      rcases s.own id (by rw [qck]; exact List.mem_append.2 (.inl q)) with u | u
      · exact hx u
      · have := s.wf id o e; omega) (s.keep.same id o hx e), Nat.le_trans s.keep.next k.next⟩
  all := fun d hd => by
    rcases List.mem_cons.1 hd with rfl | q
    · exact hp
    · refine d.loc h h1 (fun i hi' o e => k.same i o (fun u => ?_) e) (s.all d (List.mem_cons_of_mem _ q))
      have := s.nd
      rw [List.cons_append, qck] at this
      exact (List.nodup_append.1 this).2.2 i u i (mem_cids q hi') rfl
  nd := by have := s.nd; rw [List.cons_append, qck] at this ⊢; rw [hi]; exact this
  own := fun i q => by rw [qck, hi, ← qck] at q; exact s.own i q
theorem St.up' {B : Bs} {L L' : List Ck} {c c' : Ck} {h h1 : Hp} (s : St B L h) (u : Up L c c' L') (k : KeepBut (· ∈ c.ids) h h1) (hp : c'.p h1) (hi : c'.ids = c.ids) : St B L' h1 := by
  obtain ⟨Z, e1, e2⟩ := u.perm
  exact ((s.perm e1).put' k hp hi).perm e2
theorem Up.mem {L L' : List Ck} {c c' : Ck} (u : Up L c c' L') : c ∈ L := by
  obtain ⟨Z, e1, _⟩ := u.perm
  exact e1.mem_iff.2 List.mem_cons_self

/-- the record of a range over a function -/
def LoopAt (h : Hp) (id : Nat) (fn nt : Nat) (T : qba) (ps : List Tmp) (a b : Code) (st : LoopState) (p : Option Code) : Prop := ∃ ver stamp, h.get id = some ⟨ver, stamp, .loop fn nt T ps a b st p⟩
def Ck.loop (id : Nat) (fn nt : Nat) (T : qba) (ps : List Tmp) (a b : Code) (st : LoopState) (p : Option Code) : Ck where
  ids := [id]
  p h := LoopAt h id fn nt T ps a b st p
  loc h h' k r := by obtain ⟨v, st, e⟩ := r; exact ⟨v, st, k id (by simp) _ e⟩
  dom h r i hi := by simp at hi; subst hi; obtain ⟨v, st, e⟩ := r; rw [e]; rfl
section
variable {h h1 : Hp} {id fn nt : Nat} {T : qba} {ps : List Tmp} {a b : Code} {st : LoopState} {p : Option Code}
theorem LoopAt.run (l : LoopAt h id fn nt T ps a b st p) : (loopOf id).run h = some ((fn, nt, T, ps, a, b, st, p), h) := by
  obtain ⟨v, s, e⟩ := l
  simp only [loopOf, run_bind, AM.hget, e]
  rfl
end
/-- what is owed behind the body of a round, behind its first half -/
def KRound (l fn nt : Nat) (T : qba) (ps : List Tmp) (a b : Code) (Q : AV → Hp → Prop) : Exit × qba → Hp → Prop := fun y h3 => ∃ st' p' st p, roundEnd y.1 = some (st', p') ∧ LoopAt h3 l fn nt T ps a b st p ∧ ∀ h4, KeepBut (· = l) h3 h4 → LoopAt h4 l fn nt T ps a b st' p' → Q (.bool p'.isNone) h4
def KAssign (P : Program) (pol : Pol) (call : qb3) (n l fn nt : Nat) (T : qba) (ps : List Tmp) (a b : Code) (Q : AV → Hp → Prop) : Exit × qba → Hp → Prop := fun x h1 => x.1 = .normal ∧ LoopAt h1 l fn nt T ps a b .ready none ∧
  ∀ h2, KeepBut (· = l) h1 h2 → LoopAt h2 l fn nt T ps a b .busy none → Runs (qbn P pol call fn nt n b x.2) h2 (KRound l fn nt T ps a b Q)
theorem R_yield {P : Program} {pol : Pol} {sums : Sums} {h : Hp} {l n fn nt : Nat} {T0 : qba} {ps : List Tmp} {a b : Code} {args : List AV} {Q : AV → Hp → Prop} (hl : LoopAt h l fn nt T0 ps a b .ready none) (hlen : ps.length = args.length)
    (r : Runs (qbn P pol (qbt P pol sums n) fn nt n a (aparams nt ps args T0)) h (KAssign P pol (qbt P pol sums n) n l fn nt T0 ps a b Q)) :
    Runs (qbt P pol sums (n + 1) (.func (.yield l) [] []) args) h Q := by
  simp only [qbt, List.nil_append]
  unfold around
  refine Runs.bind (Runs.of hl.run ?_)
  dsimp only
  refine Runs.bind (Runs.guard (by simpa using hlen) (Runs.bind (r.mono ?_)))
  rintro ⟨e, T1⟩ h1 ⟨rfl, hl1, k⟩
  dsimp only
  refine Runs.bind (Runs.of hl1.run ?_)
  dsimp only
  obtain ⟨v, s, e1⟩ := hl1
  refine Runs.bind (Runs.hget e1 (Runs.bind (Runs.guard rfl (Runs.bind (Runs.hput e1 (Nat.le_refl _) ?_)))))
  refine Runs.bind ((k _ (KeepBut.put _) ⟨_, _, qb7 _ _ _ _⟩).mono ?_)
  rintro ⟨e2, T2⟩ h3 ⟨st', p', st, p, hr, hl3, q⟩
  dsimp only at hr ⊢
  refine Runs.bind (Runs.of hl3.run ?_)
  dsimp only
  obtain ⟨v3, s3, e3⟩ := hl3
  refine Runs.bind (Runs.hget e3 (Runs.bind (Runs.ofOption hr ?_)))
  dsimp only
  exact Runs.bind (Runs.hput e3 (Nat.le_refl _) (Runs.pure (q _ (KeepBut.put _) ⟨_, _, qb7 _ _ _ _⟩)))

section
variable {B : Bs} {L L' : List Ck} {P : Program} {pol : Pol} {call : qb3} {fn nt fuel : Nat} {T T1 : qba} {Q : Exit × qba → Hp → Prop} {V : AV → Hp → Prop} {a b : Code} {l n : Nat} {ps : List Tmp}
instance wk_assign [u : Up L (.loop l fn nt T ps a b .ready none) (.loop l fn nt T ps a b .busy none) L'] : Wk (AK B L (KAssign P pol call n l fn nt T ps a b V) (.normal, T1)) (ACo B L' P pol call fn nt n b T1 (KRound l fn nt T ps a b V)) :=
  ⟨fun g h s => ⟨rfl, s.all _ (List.mem_append.2 (.inl u.mem)), fun h2 k lp => g h2 (s.up' u (k.weaken (by rintro i rfl; simp [Ck.loop])) lp rfl)⟩⟩
theorem round_end {st' : LoopState} {p' : Option Code} {e : Exit} [u : Up L (.loop l fn nt T ps a b .busy none) (.loop l fn nt T ps a b st' p') L'] (hr : roundEnd e = some (st', p')) (g : Fin B L' (.bool p'.isNone) V) : AK B L (KRound l fn nt T ps a b V) (e, T1) :=
  fun h s => ⟨st', p', .busy, none, hr, s.all _ (List.mem_append.2 (.inl u.mem)), fun h4 k lp => g h4 (s.up' u (k.weaken (by rintro i rfl; simp [Ck.loop])) lp rfl)⟩
instance wk_rend [u : Up L (.loop l fn nt T ps a b .busy none) (.loop l fn nt T ps a b .ready none) L'] : Wk (AK B L (KRound l fn nt T ps a b V) (.normal, T1)) (Fin B L' (.bool true) V) := ⟨round_end (st' := .ready) (p' := none) rfl⟩
instance wk_rret [u : Up L (.loop l fn nt T ps a b .busy none) (.loop l fn nt T ps a b .done (some .ret)) L'] : Wk (AK B L (KRound l fn nt T ps a b V) (.ret, T1)) (Fin B L' (.bool false) V) := ⟨round_end (st' := .done) (p' := some .ret) rfl⟩
instance wk_rexit {id : Nat} [u : Up L (.loop l fn nt T ps a b .busy none) (.loop l fn nt T ps a b .done (some (.exit id))) L'] : Wk (AK B L (KRound l fn nt T ps a b V) (.exit id, T1)) (Fin B L' (.bool false) V) := ⟨round_end (st' := .done) (p' := some (.exit id)) rfl⟩
theorem Cal_yield {sums : Sums} {C W : List Ck} {args : List AV} {Post : AV → List Ck → Prop} {n : Nat} (hn : 0 < n) (hlen : ps.length = args.length)
    (r : ∀ m h0, n = m + 1 → ACo ⟨h0, cids (.loop l fn nt T ps a b .ready none :: C), W⟩ (.loop l fn nt T ps a b .ready none :: C) P pol (qbt P pol sums m) fn nt m a (aparams nt ps args T) (KAssign P pol (qbt P pol sums m) m l fn nt T ps a b (QF ⟨h0, cids (.loop l fn nt T ps a b .ready none :: C), W⟩ Post))) :
    Cal (.loop l fn nt T ps a b .ready none :: C) W (qbt P pol sums n (.func (.yield l) [] []) args) Post := fun h s => by
  obtain ⟨m, rfl⟩ : ∃ m, n = m + 1 := ⟨n - 1, by omega⟩
  exact R_yield (s.all _ List.mem_cons_self) hlen (r m h rfl h s)
class APar (nt : Nat) (ps : List Tmp) (vs : List AV) (T : qba) (T' : outParam qba) : Prop where eq : aparams nt ps vs T = T'
instance {nt : Nat} {vs : List AV} {T : qba} : APar nt [] vs T T := ⟨by cases vs <;> rfl⟩
instance {nt t : Nat} {ts : List Tmp} {v : AV} {vs : List AV} {T T' : qba} [a : APar nt ts vs (qbv? nt T (some t) v) T'] : APar nt (t :: ts) (v :: vs) T T' := ⟨a.eq⟩
instance (priority := 3000) wk_apar {vs : List AV} {T' : qba} {c : Code} [e : APar nt ps vs T T'] : Wk (ACo B L P pol call fn nt fuel c (aparams nt ps vs T) Q) (ACo B L P pol call fn nt fuel c T' Q) := ⟨fun g => by rw [e.eq]; exact g⟩
end
theorem A_range {h0 : Hp} {X : List Nat} {W L : List Ck} {P : Program} {pol : Pol} {call : qb3} {fn nt fuel : Nat} {T : qba} {Q : Exit × qba → Hp → Prop} {a b : Code} {fo : Operand} {F : AV} {params : List Tmp} {C Rs : List Ck} [hf : Ev T fo F] (hy : isYield F = false) [tk : Taks L C Rs] (A0 A1 : List Ck → Prop) (A2 : Nat → List Ck → Prop)
    (sp : ∀ id, Cal (.loop id fn nt T params a b .ready none :: C) (Rs ++ W) (call F [.func (.yield id) [] []]) fun _ N => ∃ N', (N = .loop id fn nt T params a b .ready none :: N' ∧ A0 N') ∨ (N = .loop id fn nt T params a b .done (some .ret) :: N' ∧ A1 N') ∨ ∃ j, N = .loop id fn nt T params a b .done (some (.exit j)) :: N' ∧ A2 j N')
    (g0 : ∀ N, A0 N → AK ⟨h0, X, W⟩ (N ++ Rs) Q (.normal, T)) (g1 : ∀ N, A1 N → AK ⟨h0, X, W⟩ (N ++ Rs) Q (.ret, T)) (g2 : ∀ j N, A2 j N → AK ⟨h0, X, W⟩ (N ++ Rs) Q (.exit j, T)) :
    ACo ⟨h0, X, W⟩ L P pol call fn nt fuel (.rangeFunc fo params.toArray a b) T Q := fun h s => by
  refine Runs.wf fun w => ?_
  simp only [qbn, hf.eq, hy]
  refine Runs.bind (Runs.guard rfl (Runs.bind (Runs.halloc ?_)))
  have s1 : St ⟨h0, X, W⟩ (.loop h.next fn nt T params a b .ready none :: (C ++ Rs)) ⟨h.obj.set h.next (some ⟨0, 0, .loop fn nt T params a b .ready none⟩), h.next + 1⟩ :=
    (s.perm tk.perm).new w (Keep.alloc w _) (N := [.loop h.next fn nt T params a b .ready none]) (fun c hc => by rcases List.mem_singleton.1 hc with rfl; exact ⟨_, _, qb7 _ _ _ _⟩) (by simp [cids, Ck.loop]) (by simp [cids, Ck.loop])
  refine Runs.bind (Runs.wf fun w1 => (sp h.next _ (St.into (C := .loop h.next fn nt T params a b .ready none :: C) s1 w1)).mono ?_)
  rintro _ h2 ⟨N, hN, t⟩
  have s2 := St.out (C := .loop h.next fn nt T params a b .ready none :: C) s1 t
  have key : ∀ (st : LoopState) (p : Option Code) (N' : List Ck), N = .loop h.next fn nt T params a b st p :: N' → isBusy st = false → (∀ h3, St ⟨h0, X, W⟩ (N' ++ Rs) h3 → Runs (qc7 p T) h3 Q) → Runs (do
      let (f', nt', T', ps, a, b, st, p) ← loopOf h.next
      let o ← AM.hget h.next
      AM.guard (!(isBusy st))
      AM.hput h.next o.ver (.loop f' nt' T' ps a b .exhausted p)
      qc7 p T) h2 Q := by
    intro st p N' e hb k
    subst e
    have hl : LoopAt h2 h.next fn nt T params a b st p := s2.all _ List.mem_cons_self
    refine Runs.bind (Runs.of hl.run ?_)
    dsimp only
    obtain ⟨v, s', e⟩ := hl
    refine Runs.bind (Runs.hget e (Runs.bind (Runs.guard (by rw [hb]; rfl) (Runs.bind (Runs.hput e (Nat.le_refl _) (k _ ?_))))))
    exact (s2.put' (c' := .loop h.next fn nt T params a b .exhausted p) ((KeepBut.put _).weaken (by rintro i rfl; simp [Ck.loop])) ⟨_, _, qb7 _ _ _ _⟩ rfl).sub (List.sublist_cons_self _ _)
  obtain ⟨N', ⟨e, q⟩ | ⟨e, q⟩ | ⟨j, e, q⟩⟩ := hN
  · exact key _ _ _ e rfl fun h3 s3 => Runs.pure (g0 N' q h3 s3)
  · refine key _ _ _ e rfl fun h3 s3 => ?_
    unfold qc7
    exact Runs.bind (Runs.ofOption rfl (Runs.pure (g1 N' q h3 s3)))
  · refine key _ _ _ e rfl fun h3 s3 => ?_
    unfold qc7
    exact Runs.bind (Runs.ofOption rfl (Runs.pure (g2 j N' q h3 s3)))
/-- the same, the record under a name -/
theorem A_rangeL {h0 : Hp} {X : List Nat} {W L : List Ck} {P : Program} {pol : Pol} {call : qb3} {fn nt fuel : Nat} {T : qba} {Q : Exit × qba → Hp → Prop} {a b : Code} {fo : Operand} {F : AV} {params : List Tmp} {C Rs : List Ck} [hf : Ev T fo F] (hy : isYield F = false) [tk : Taks L C Rs] (A0 A1 : List Ck → Prop) (A2 : Nat → List Ck → Prop)
    (sp : ∀ (id : Nat) (lp : LoopState → Option Code → Ck), (∀ st p, lp st p = .loop id fn nt T params a b st p) → Cal (lp .ready none :: C) (Rs ++ W) (call F [.func (.yield id) [] []]) fun _ N => ∃ N', (N = lp .ready none :: N' ∧ A0 N') ∨ (N = lp .done (some .ret) :: N' ∧ A1 N') ∨ ∃ j, N = lp .done (some (.exit j)) :: N' ∧ A2 j N')
    (g0 : ∀ N, A0 N → AK ⟨h0, X, W⟩ (N ++ Rs) Q (.normal, T)) (g1 : ∀ N, A1 N → AK ⟨h0, X, W⟩ (N ++ Rs) Q (.ret, T)) (g2 : ∀ j N, A2 j N → AK ⟨h0, X, W⟩ (N ++ Rs) Q (.exit j, T)) :
    ACo ⟨h0, X, W⟩ L P pol call fn nt fuel (.rangeFunc fo params.toArray a b) T Q :=
  A_range hy A0 A1 A2 (fun id => sp id (fun st p => .loop id fn nt T params a b st p) fun _ _ => rfl) g0 g1 g2
instance (priority := 2000) wk_akapp {B : Bs} {N M Z : List Ck} {K : Exit × qba → Hp → Prop} {x : Exit × qba} [a : App N M Z] : Wk (AK B (N ++ M) K x) (AK B Z K x) := ⟨fun g => by rw [a.eq]; exact g⟩

/-- a slice that is nothing, al a chunk -/
theorem St.nil {B : Bs} {L : List Ck} {h : Hp} {α : Type} (f : α → List AV) (sz : Nat) {v : AV} [n0 : Nil0 v] (s : St B L h) : St B (.rows f sz v [] :: L) h := by
  have hv : qb1 v = [] := by rcases n0.eq with rfl | rfl | rfl <;> rfl
  refine ⟨s.wf, s.keep, fun c hc => ?_, ?_, ?_⟩
  · rcases List.mem_cons.1 hc with rfl | q
    · exact n0.rows
    · exact s.all c q
  · rw [List.cons_append, qck]; show (qb1 v ++ _).Nodup; rw [hv]; exact s.nd
  · intro i hi; rw [qck] at hi; have hi : i ∈ qb1 v ++ cids L := hi; rw [hv] at hi; exact s.own i hi
theorem aco_nil {B : Bs} {L : List Ck} {P : Program} {pol : Pol} {call : qb3} {fn nt fuel : Nat} {T : qba} {Q : Exit × qba → Hp → Prop} {c : Code} {α : Type} (f : α → List AV) (sz : Nat) (v : AV) [n0 : Nil0 v] (g : ACo B (.rows f sz v [] :: L) P pol call fn nt fuel c T Q) : ACo B L P pol call fn nt fuel c T Q := fun h s => g h (s.nil f sz)
/-! maps -/
section
variable {h0 : Hp} {X : List Nat} {W L : List Ck} {P : Program} {pol : Pol} {call : qb3} {fn nt : Nat} {R : Rg} {rest : List (Nat × Oper)} {ds : List (Nat × Option Tmp)} {seen : Seen} {T : qba} {Q : qba → Hp → Prop} {i : Nat} {d : Option Tmp} {ty : TypeId} {pos : String} {after : Array Edge}
/-- what is found of a key -/
class FindS (s : List UInt8) (es : List (AV × AV)) (v : outParam AV) : Prop where eq : afind (.str s) es = some (some v)
class FindN (s : List UInt8) (es : List (AV × AV)) : Prop where eq : afind (.str s) es = some none
class FindE (s : List UInt8) (es : List (AV × AV)) : Prop where ex : ∃ r, afind (.str s) es = some r
instance {s : List UInt8} {es : List (AV × AV)} {v : AV} [a : FindS s es v] : FindE s es := ⟨_, a.eq⟩
instance {s : List UInt8} {es : List (AV × AV)} [a : FindN s es] : FindE s es := ⟨_, a.eq⟩
section
variable {t kt et : TypeId} {x k : Operand} {id : Nat} {es : List (AV × AV)} {s : List UInt8} {z v : AV} [ht : TMap P t kt et] [hk' : TStr P kt] [hz : qbf P et z] [hx : Ev T x (.mapv id)] [hk : Ev T k (.str s)] [hm : HasMap L W id es]
instance wk_lookupS [f : FindS s es v] : Wk (qb8 ⟨h0, X, W⟩ L P pol call fn nt R ((i, ⟨d, .lookup t x k false, ty, pos, after, none⟩) :: rest) ds seen T Q) (qb8 ⟨h0, X, W⟩ L P pol call fn nt R rest ((i, d) :: ds) ((i, [(true, id)]) :: seen) (qbv? nt T d v) Q) :=
  ⟨fun g h s e' => O_lookup hx.eq hk.eq (s.all _ hm.mem) f.eq (g h s e'.step)⟩
instance wk_lookupN [f : FindN s es] : Wk (qb8 ⟨h0, X, W⟩ L P pol call fn nt R ((i, ⟨d, .lookup t x k false, ty, pos, after, none⟩) :: rest) ds seen T Q) (qb8 ⟨h0, X, W⟩ L P pol call fn nt R rest ((i, d) :: ds) ((i, [(true, id)]) :: seen) (qbv? nt T d z) Q) :=
  ⟨fun g h s e' => O_lookup hx.eq hk.eq (s.all _ hm.mem) f.eq (g h s e'.step)⟩
instance wk_lookupS2 [f : FindS s es v] : Wk (qb8 ⟨h0, X, W⟩ L P pol call fn nt R ((i, ⟨d, .lookup t x k true, ty, pos, after, none⟩) :: rest) ds seen T Q) (qb8 ⟨h0, X, W⟩ L P pol call fn nt R rest ((i, d) :: ds) ((i, [(true, id)]) :: seen) (qbv? nt T d (.tuple [v, .bool true])) Q) :=
  ⟨fun g h s e' => O_lookup hx.eq hk.eq (s.all _ hm.mem) f.eq (g h s e'.step)⟩
instance wk_lookupN2 [f : FindN s es] : Wk (qb8 ⟨h0, X, W⟩ L P pol call fn nt R ((i, ⟨d, .lookup t x k true, ty, pos, after, none⟩) :: rest) ds seen T Q) (qb8 ⟨h0, X, W⟩ L P pol call fn nt R rest ((i, d) :: ds) ((i, [(true, id)]) :: seen) (qbv? nt T d (.tuple [z, .bool false])) Q) :=
  ⟨fun g h s e' => O_lookup hx.eq hk.eq (s.all _ hm.mem) f.eq (g h s e'.step)⟩
end
instance wk_mapUpdate {t kt et : TypeId} {m k x : Operand} {id : Nat} {es : List (AV × AV)} {s : List UInt8} {v : AV} {L' : List Ck} {C : Prop} [ht : TMap P t kt et] [hk' : TStr P kt] [hm' : Ev T m (.mapv id)] [hk : Ev T k (.str s)] [hv : Ev T x v] [hm : HasMap L [] id es] [f : FindE s es] [u : Up L (.map id es) (.map id (aupd (.str s) v es)) L'] [ok : Ok R seen i C] :
    Wk (qb8 ⟨h0, X, W⟩ L P pol call fn nt R ((i, ⟨d, .mapUpdate t m k x, ty, pos, after, none⟩) :: rest) ds seen T Q) (C ∧ qb8 ⟨h0, X, W⟩ L' P pol call fn nt R rest ((i, d) :: ds) seen (qbv? nt T d (.tuple [])) Q) :=
  ⟨fun g h s e => by
    obtain ⟨hc, g⟩ := g
    obtain ⟨res, hf⟩ := f.ex
    exact O_mapUpdate hm'.eq hk.eq hv.eq (s.all _ (by have := hm.mem; simp at this; exact List.mem_append.2 (.inl this))) hf fun h1 k r => ⟨ok.ok hc _ _, g h1 (s.up' u (k.weaken (by rintro i rfl; simp [Ck.map])) r rfl) e.step⟩⟩
/-! structs made -/
class NthF (fs : List (Nat × Nat)) (i : Nat) (off sz : outParam Nat) : Prop where eq : fs[i]? = some (off, sz)
instance nthf_0 {fs : List (Nat × Nat)} {off sz : Nat} : NthF ((off, sz) :: fs) 0 off sz := ⟨rfl⟩
instance nthf_s {fs : List (Nat × Nat)} {x : Nat × Nat} {i off sz : Nat} [a : NthF fs i off sz] : NthF (x :: fs) (i + 1) off sz := ⟨by simpa using a.eq⟩
class Fil (L W : List Ck) (fs : List (Nat × Nat)) (cells : List AV) (parts : List (Nat × AV)) (c' : outParam (List AV)) : Prop where eq : ∀ h, (∀ c ∈ L ++ W, c.p h) → afillL fs cells parts = some c'
instance fil_nil {fs : List (Nat × Nat)} {cells : List AV} : Fil L W fs cells [] cells := ⟨fun _ _ => rfl⟩
instance fil_cons {fs : List (Nat × Nat)} {cells r c' cs : List AV} {j off sz n : Nat} {v : AV} {parts : List (Nat × AV)} [a : NthF fs j off sz] [b : Ac L W v cs] [c : Len cs n] [e : Same (Nat.beq n sz) true] [sp : Spl cells off cs r] [k : Fil L W fs r parts c'] : Fil L W fs cells ((j, v) :: parts) c' := ⟨fun h q => by
  have hn : n = sz := Nat.eq_of_beq_eq_true e.eq
  have hle := sp.le
  rw [c.eq, hn] at hle
  simp only [afillL, a.eq, (b.ac h q).1, (b.ac h q).2, c.eq]
  rw [show (Nat.beq n sz && Nat.ble (off + sz) cells.length && true) = true by rw [e.eq]; simpa using hle, sp.eq]
  exact k.eq h q⟩
instance wk_build {t : TypeId} {parts : List (Nat × Operand)} {l : List (Nat × AV)} {fs : List (Nat × Nat)} {z c' : List AV} [ht : qb0 P t fs z] [hl : Evp T parts l] [hf : Fil L W fs z l c'] : Wk (qb8 ⟨h0, X, W⟩ L P pol call fn nt R ((i, ⟨d, .build t parts.toArray, ty, pos, after, none⟩) :: rest) ds seen T Q) (qb8 ⟨h0, X, W⟩ L P pol call fn nt R rest ((i, d) :: ds) ((i, []) :: seen) (qbv? nt T d (.agg c')) Q) :=
  ⟨fun g h s e => O_build hl.eq (hf.eq h s.all) (g h s e.step)⟩
/-! slices made -/
instance wk_build1 {t e : TypeId} {sz : Nat} {x : Operand} {z v : AV} {cs : List AV} {n : Nat} [ht : TSl P t e] [hs : TSz P e sz] [hz' : qbf P e z] [hx : Ev T x v] [hc : Ac L W v cs] [hl : Len cs n] [hn : Same (Nat.beq n sz) true] :
    Wk (qb8 ⟨h0, X, W⟩ L P pol call fn nt R ((i, ⟨d, .buildSlice t 1 [(0, x)].toArray, ty, pos, after, none⟩) :: rest) ds seen T Q) ((Nat.ble (1 * sz) 16777216 && Nat.beq (acells z).length sz) = true ∧ pol.lit fn (d.getD 0) = false ∧ qb8 ⟨h0, X, W⟩ L P pol call fn nt R rest ((i, d) :: ds) seen (qbv? nt T d (.sl .full 1 cs)) Q) :=
  ⟨fun g h s e' => by
    obtain ⟨h1, h2, g⟩ := g
    have hac := hc.ac h s.all
    have hn' : n = sz := Nat.eq_of_beq_eq_true hn.eq
    have hzl : (acells z).length = sz := by simp only [Bool.and_eq_true] at h1; simpa using h1.2
    refine qcb (c' := cs) (l := [(0, v)]) (qbs hx.eq qcc) h1 ?_ h2 fun _ => g h s e'.step
    show afillL _ _ _ = _
    have hr : qbh (acells z) 1 = acells z := by simp [qbh]
    rw [hr]
    simp only [afillL, List.range, List.range.loop, List.map_cons, List.map_nil, List.getElem?_cons_zero, hac.1, hac.2]
    rw [show (Nat.beq cs.length sz && Nat.ble (0 * sz + sz) (acells z).length && true) = true by rw [hl.eq, hn', hzl]; simp]
    simp only [Nat.zero_mul]
    congr 1
    unfold splice
    rw [List.take_zero, List.nil_append, Nat.zero_add, List.drop_eq_nil_of_le (by rw [hl.eq, hn', hzl]; exact Nat.le_refl _), List.append_nil]
    rfl⟩
theorem repeat_flat {α : Type} {f : α → List AV} {x : α} {z : List AV} (e : z = f x) : ∀ n, qbh z n = qc3 f (List.replicate n x)
  | 0 => rfl
  | n + 1 => by rw [qbh, repeat_flat e n, List.replicate_succ, qc6, e]
instance wk_makeSlice {α : Type} {f : α → List AV} {x0 : α} {t e : TypeId} {l c : Operand} {n sz bytes : Nat} {z : AV} {cs : List AV} [ht : TSl P t e] [hs : TSz P e sz] [hb' : qa7 P e bytes] [hz' : qbf P e z] [hl : Ev T l (.int .i64 (n : Int))] [hc : Ev T c (.int .i64 (n : Int))] [ac : Ac L W z cs] [en : Enc cs f x0] [fl : FL f sz] :
    Wk (qb8 ⟨h0, X, W⟩ L P pol call fn nt R ((i, ⟨d, .makeSlice t l c, ty, pos, after, none⟩) :: rest) ds seen T Q)
      ((!(Nat.beq sz 0) && Nat.beq (acells z).length sz) = true ∧ n < 140737488355328 ∧ n * bytes ≤ 140737488355328 ∧ ∀ id, qb8 ⟨h0, X, W⟩ (.arr f sz (.own id 0 0 n) (List.replicate n x0) :: L) P pol call fn nt R rest ((i, d) :: ds) seen (qbv? nt T d (.own id 0 0 n)) Q) :=
  ⟨fun g h s e' => O_wf fun w => by
    obtain ⟨h1, h2, h3, g⟩ := g
    have hcs := (ac.ac h s.all).1
    refine O_makeSlice hl.eq hc.eq h1 h2 h3 fun h1 id k r l1 l2 => g id h1 ?_ e'.step
    rw [hcs, repeat_flat en.eq] at r
    have hlen : (qc3 f (List.replicate n x0)).length = n * sz := by rw [qcu fl.len, List.length_replicate]
    have hsl : Rows f sz h1 (.own id 0 0 n) (List.replicate n x0) := by
      have := SlV.own (sz := sz) id 0 0 n _ true r (by rw [hlen]; omega)
      rw [List.drop_zero, List.take_of_length_le (by omega)] at this
      show SlV h1 sz _ (List.replicate n x0).length _
      rw [List.length_replicate]; exact this
    have := s.new w k (N := [.arr f sz (.own id 0 0 n) (List.replicate n x0)]) (fun c hc => by rcases List.mem_singleton.1 hc with rfl; exact ⟨hsl, rfl, by simp [qb1]⟩) (by simp [cids, Ck.arr, qb1]) (by simp [cids, Ck.arr, qb1]; exact l1)
    exact this⟩
/-! an element is written -/
theorem splice_flat {α : Type} {f : α → List AV} {sz : Nat} (hf : ∀ x, (f x).length = sz) {l : List α} {j off : Nat} {x y : α} {cs : List AV} (hx : l[j]? = some x) (hc : off + cs.length ≤ sz) (e : splice (f x) off cs = f y) : splice (qc3 f l) (j * sz + off) cs = qc3 f (l.set j y) := by
  obtain ⟨hj, rfl⟩ := List.getElem?_eq_some_iff.1 hx
  have hl := el_lt (sz := sz) hj
  have h1 : qc3 f l = qc3 f (l.take j) ++ (f l[j] ++ qc3 f (l.drop (j + 1))) := by
    rw [← qc6, ← flat_append, ← List.drop_eq_getElem_cons hj, List.take_append_drop]
  have h2 : qc3 f (l.set j y) = qc3 f (l.take j) ++ (f y ++ qc3 f (l.drop (j + 1))) := by
    rw [List.set_eq_take_append_cons_drop, if_pos hj, flat_append, qc6]
  have hp : (qc3 f (l.take j)).length = j * sz := by rw [qcu hf, List.length_take]; congr 1; omega
  have hfl : (f l[j]).length = sz := hf _
  rw [h1, h2, ← e]
  unfold splice
  rw [← hp, List.take_append, List.drop_append]
  have a1 : (qc3 f (l.take j)).take ((qc3 f (l.take j)).length + off) = qc3 f (l.take j) := List.take_of_length_le (by omega)
  have a2 : (qc3 f (l.take j)).drop ((qc3 f (l.take j)).length + off + cs.length) = [] := List.drop_eq_nil_of_le (by omega)
  rw [a1, a2, List.nil_append]
  rw [show (qc3 f (l.take j)).length + off - (qc3 f (l.take j)).length = off by omega, show (qc3 f (l.take j)).length + off + cs.length - (qc3 f (l.take j)).length = off + cs.length by omega]
  rw [List.take_append_of_le_length (by omega), List.drop_append_of_le_length (by omega)]
  simp only [List.append_assoc]
class HasArr (L : List Ck) (v : AV) {α : outParam Type} (f : outParam (α → List AV)) (sz : outParam Nat) (l : outParam (List α)) : Prop where mem : Ck.arr f sz v l ∈ L
instance hasarr_0 {α : Type} {f : α → List AV} {sz : Nat} {l : List α} {v : AV} : HasArr (.arr f sz v l :: L) v f sz l := ⟨List.mem_cons_self⟩
instance (priority := 900) hasarr_s {α : Type} {f : α → List AV} {sz : Nat} {l : List α} {v : AV} {c : Ck} [a : HasArr L v f sz l] : HasArr (c :: L) v f sz l := ⟨List.mem_cons_of_mem _ a.mem⟩
instance wk_elStore {α : Type} {f : α → List AV} {sz : Nat} {l : List α} {t : TypeId} {a x : Operand} {v u : AV} {j off n m : Nat} {cs r : List AV} {x0 y : α} {L' : List Ck} {C : Prop} [hs : TSz P t n] [ha : Ev T a (elA v j sz off)] [hx : Ev T x u] [hr : HasArr L v f sz l] [fl : FL f sz] [at_ : ElAt l j x0] [hc : Ac L W u cs] [hl : Len cs m] [hm : Same (Nat.beq m n) true] [ho : Ones L W cs] [sp : Spl (f x0) off cs r] [en : Enc r f y] [up : Up L (.arr f sz v l) (.arr f sz v (l.set j y)) L'] [ok : Ok R seen i C] :
    Wk (qb8 ⟨h0, X, W⟩ L P pol call fn nt R ((i, ⟨d, .store t a x, ty, pos, after, none⟩) :: rest) ds seen T Q) (C ∧ qb8 ⟨h0, X, W⟩ L' P pol call fn nt R rest ((i, d) :: ds) seen (qbv? nt T d (.tuple [])) Q) :=
  ⟨fun g h s e => by
    obtain ⟨hc0, g⟩ := g
    obtain ⟨r1, r2, r3⟩ := s.all _ (List.mem_append.2 (.inl hr.mem))
    have hac := (hc.ac h s.all).1
    have hmn : m = n := Nat.eq_of_beq_eq_true hm.eq
    have hle := sp.le
    rw [hl.eq, fl.len] at hle
    have hel := ha.eq
    have hj : j < l.length := (List.getElem?_eq_some_iff.1 at_.eq).1
    have hlt := el_lt (sz := sz) hj
    have hsp := splice_flat fl.len at_.eq (by rw [hl.eq]; exact hle) (sp.eq.trans en.eq)
    have hlen := qcu fl.len l
    have hlen' := qcu fl.len (l.set j y)
    rw [List.length_set] at hlen'
    have r1 : SlV h sz v l.length (qc3 f l) := r1
    have key : ∀ h1, KeepBut (· ∈ qb1 v) h h1 → SlV h1 sz v l.length (qc3 f (l.set j y)) → St ⟨h0, X, W⟩ L' h1 := fun h1 k q =>
      s.up' up k ⟨by show SlV h1 sz v (l.set j y).length _; rw [List.length_set]; exact q, r2, r3⟩ rfl
    generalize hn : l.length = N at *
    generalize hcs : qc3 f l = F at r1
    cases r1 with
    | imm k n _ e => exact absurd rfl r3
    | own id ver o n row fix rw' e0 =>
      have hF : qc3 f l = (row.drop o).take (N * sz) := hcs
      refine qcj (off := o + j * sz + off) hel hx.eq rw' ?_ fun h1 k q => ⟨ok.ok hc0 _ _, g h1 (key h1 (k.weaken (by rintro i rfl; simp [qb1])) ?_) e.step⟩
      · rw [hac, ho.ones h s.all, hl.eq, hmn]; simp; omega
      · rw [hac] at q
        have e1 : ((splice row (o + j * sz + off) cs).drop o).take (N * sz) = qc3 f (l.set j y) := by
          rw [← hsp]
          have hrow : row = row.take o ++ (qc3 f l ++ (row.drop o).drop (N * sz)) := by rw [hF, List.take_append_drop, List.take_append_drop]
          have htl : (row.take o).length = o := by rw [List.length_take]; omega
          have hFl : (qc3 f l).length = N * sz := by omega
          have h3 : splice row (o + j * sz + off) cs = row.take o ++ (splice (qc3 f l) (j * sz + off) cs ++ (row.drop o).drop (N * sz)) := by
            conv => lhs; rw [hrow]
            have hdn : (row.take o).drop (o + j * sz + off + cs.length) = [] := List.drop_eq_nil_of_le (by omega)
            unfold splice
            rw [List.take_append, List.drop_append, htl]
            rw [List.take_of_length_le (l := row.take o) (by omega), hdn, List.nil_append]
            rw [show o + j * sz + off - o = j * sz + off by omega, show o + j * sz + off + cs.length - o = j * sz + off + cs.length by omega]
            rw [List.take_append_of_le_length (by omega), List.drop_append_of_le_length (by rw [hl.eq]; omega)]
            simp only [List.append_assoc]
          rw [h3, List.drop_left' htl, List.take_left']
          rw [qcn (by rw [hl.eq]; omega), hFl]
        have := SlV.own (sz := sz) id ver o N _ fix q (by rw [qcn (by rw [hl.eq]; omega)]; exact e0)
        rw [e1] at this; exact this⟩
end
end Go.Am
namespace Go.Am
open Go Go.Proofs AM
set_option maxRecDepth 10000
variable {pol : Pol} {sums : Sums}
attribute [local irreducible] KSeq KMid KBlock KLoop KOps KFunc Runs qb9 qbn qdl aop qbt qbq qbv qbv? qbd qbw qa9

structure Trm where
  kind : Int
  a : Str
  b : Str
  c : Str
  deriving DecidableEq
structure Slt where
  var : Str
  term : Trm
  deriving DecidableEq
structure Ptn where
  s : Slt
  p : Slt
  o : Slt
  deriving DecidableEq
abbrev trmC (t : Trm) : List AV := [.int .i64 t.kind, .str t.a, .str t.b, .str t.c]
abbrev sltC (x : Slt) : List AV := [.str x.var, .int .i64 x.term.kind, .str x.term.a, .str x.term.b, .str x.term.c]
abbrev ptnC (p : Ptn) : List AV := [.str p.s.var, .int .i64 p.s.term.kind, .str p.s.term.a, .str p.s.term.b, .str p.s.term.c, .str p.p.var, .int .i64 p.p.term.kind, .str p.p.term.a, .str p.p.term.b, .str p.p.term.c, .str p.o.var, .int .i64 p.o.term.kind, .str p.o.term.a, .str p.o.term.b, .str p.o.term.c]
theorem sltC_len (x : Slt) : (sltC x).length = 5 := rfl
theorem ptnC_len (x : Ptn) : (ptnC x).length = 15 := rfl
theorem flat_at {α : Type} {f : α → List AV} {sz : Nat} (hf : ∀ x, (f x).length = sz) : ∀ {l : List α} {i : Nat} (hi : i < l.length), ((qc3 f l).drop (i * sz)).take sz = f l[i]
  | [], i, hi => by cases hi
  | x :: l, 0, _ => by rw [qc6, Nat.zero_mul, List.drop_zero, ← hf x, List.take_left']; rfl; rfl
  | x :: l, i + 1, hi => by
    rw [qc6, Nat.succ_mul, Nat.add_comm, ← List.drop_drop, show List.drop sz (f x ++ qc3 f l) = qc3 f l by rw [← hf x, List.drop_left'];rfl]
    exact flat_at hf (by simpa using hi)

def qdb (cur : List Str) (s : Str) : List Str := if s ∈ cur then cur else cur ++ [s]
def qcg (cur : List Str) (x : Slt) : List Str := if x.var = [] then cur else qdb cur x.var
def qdj (cur : List Str) (p : Ptn) : List Str := qcg (qcg (qcg cur p.s) p.p) p.o
def qcz (l : List Ptn) : List Str := l.foldl qdj []
theorem meet1_length (cur : List Str) (s : Str) : (qdb cur s).length ≤ cur.length + 1 := by unfold qdb; split <;> simp
theorem qdw (cur : List Str) (x : Slt) : (qcg cur x).length ≤ cur.length + 1 := by unfold qcg; split; omega; exact meet1_length _ _
theorem ptnMeet_length (cur : List Str) (p : Ptn) : (qdj cur p).length ≤ cur.length + 3 := by
  unfold qdj
  have := qdw (qcg (qcg cur p.s) p.p) p.o
  have := qdw (qcg cur p.s) p.p
  have := qdw cur p.s
  omega
theorem varsFrom_length (l : List Ptn) : ∀ cur, (l.foldl qdj cur).length ≤ cur.length + 3 * l.length := by
  induction l with
  | nil => intro cur; simp
  | cons p l ih =>
    intro cur
    have := ih (qdj cur p)
    have := ptnMeet_length cur p
    simp only [List.foldl_cons, List.length_cons]; omega
theorem qct (l : List Ptn) : (qcz l).length ≤ 3 * l.length := by have := varsFrom_length l []; simpa [qcz] using this

/-- names that are met: an object of one cell, with a slice that may grow -/
def MetAt (h : Hp) (b id : Nat) (cur : List Str) : Prop := b ≤ id ∧ ∃ nv, Row h id 0 1 [nv] true ∧ Strs h nv cur ∧ qdh nv = true ∧ ∀ k ∈ qb1 nv, b ≤ k ∧ k ≠ id
theorem MetAt.keep {h h1 : Hp} {b id : Nat} {cur : List Str} (m : MetAt h b id cur) (k : Keep h h1) : MetAt h1 b id cur := by
  obtain ⟨h0, nv, r, s, g, hk⟩ := m
  exact ⟨h0, nv, r.keep k, s.keep k, g, hk⟩

theorem meet_spec (hp : ∀ f d, pol.lit f d = false) (hs : sums 71 = none) (hs2 : sums 67 = some qb6) {n : Nat} (hn : 3 ≤ n) {h : Hp} {b id : Nat} {cur : List Str} (m : MetAt h b id cur) (s : Str) (hw : b ≤ h.next) (hb : cur.length < 2 ^ 40) :
    Runs (qbt Try.prog pol sums n (.func (.func 71) [] []) [.ptr id 0 0, .sl .full 1 [.str s]]) h (fun _ h' => KeepBut (b ≤ ·) h h' ∧ MetAt h' b id (qdb cur s)) := by
  obtain ⟨n, rfl⟩ : ∃ m, n = m + 1 := ⟨n - 1, by omega⟩
  refine qcq (by assumption) Try.func71 rfl (by simp [Try.f71]) ?_
  have a0 : qbq (qa9 Try.f71.ntmps (([] ++ [.ptr id 0 0, .sl .full 1 [.str s]] ++ []) : List AV)) 0 = .ptr id 0 0 := qa8 rfl
  have a1 : qbq (qa9 Try.f71.ntmps (([] ++ [.ptr id 0 0, .sl .full 1 [.str s]] ++ []) : List AV)) 1 = .sl .full 1 [.str s] := qa8 rfl
  generalize qa9 Try.f71.ntmps (([] ++ [.ptr id 0 0, .sl .full 1 [.str s]] ++ []) : List AV) = T at *
  show Runs (qbn _ _ _ _ 30 _ _ _) _ _
  have sv : ∀ h, SlV h 1 (.sl .full 1 [.str s]) 1 [.str s] := fun h => .imm _ _ _ rfl
  have sv0 := sv h
  (repeat (first|refine KW.go ?_|((first|apply qaw|apply qaz|apply qa1|apply qa4|apply qay|apply qax|apply qar|apply qal|apply qaj|apply qap)<;>first|(apply qam;(repeat' first|assumption|exact qaa rfl|apply qaf rfl|apply qab);done)|exact qao _ _|exact qai _|exact qan _|exact qad|exact qag|exact qae|exact qac|exact qah _|exact qau _ (by omega)|exact qat (by omega)|exact qas (by omega)|exact rfl|assumption|apply qav)|((first|apply qa3|apply qaq|apply qak)<;>first|(apply qam;(repeat' first|assumption|exact qaa rfl|apply qaf rfl|apply qab);done)|exact qao _ _|exact qai _|exact qan _|exact qad|exact qag|exact qae|exact qac|exact qah _|exact qau _ (by omega)|exact qat (by omega)|exact qas (by omega)|exact rfl|assumption|apply qav)|(apply qa2 rfl rfl;(focus (repeat' first|assumption|exact qaa rfl|apply qaf rfl|apply qab);done))|(apply qbj rfl rfl;(focus (repeat' first|assumption|exact qaa rfl|apply qaf rfl|apply qab);done);exact rfl)))
  apply R_loop (k := 1) (I := fun k T h1 => ∃ i, k = 1 - i ∧ i ≤ 1 ∧ qbq T 0 = .ptr id 0 0 ∧ qbq T 6 = .sl .full 1 [.str s] ∧ qbq T 7 = .int .i64 (1 : Nat) ∧ qbq T 8 = .int .i64 (i : Nat) ∧ KeepBut (b ≤ ·) h h1 ∧ MetAt h1 b id (if i = 0 then cur else qdb cur s))
  · omega
  · exact ⟨0, by omega, by omega, by (repeat' first|assumption|exact qaa rfl|apply qaf rfl|apply qab), by (repeat' first|assumption|exact qaa rfl|apply qaf rfl|apply qab), by (repeat' first|assumption|exact qaa rfl|apply qaf rfl|apply qab), by (repeat' first|assumption|exact qaa rfl|apply qaf rfl|apply qab), KeepBut.refl h, m⟩
  · rintro k T g1 ⟨i, rfl, hi, t0, t6, t7, t8, kp, hm⟩
    (repeat (first|refine KW.go ?_|((first|apply qaw|apply qaz|apply qa1|apply qa4|apply qay|apply qax|apply qar|apply qal|apply qaj|apply qap)<;>first|(apply qam;(repeat' first|assumption|exact qaa rfl|apply qaf rfl|apply qab);done)|exact qao _ _|exact qai _|exact qan _|exact qad|exact qag|exact qae|exact qac|exact qah _|exact qau _ (by omega)|exact qat (by omega)|exact qas (by omega)|exact rfl|assumption|apply qav)|((first|apply qa3|apply qaq|apply qak)<;>first|(apply qam;(repeat' first|assumption|exact qaa rfl|apply qaf rfl|apply qab);done)|exact qao _ _|exact qai _|exact qan _|exact qad|exact qag|exact qae|exact qac|exact qah _|exact qau _ (by omega)|exact qat (by omega)|exact qas (by omega)|exact rfl|assumption|apply qav)|(apply qa2 rfl rfl;(focus (repeat' first|assumption|exact qaa rfl|apply qaf rfl|apply qab);done))|(apply qbj rfl rfl;(focus (repeat' first|assumption|exact qaa rfl|apply qaf rfl|apply qab);done);exact rfl)))
    apply qbx (decide ((i : Int) < ((1 : Nat) : Int)))
    · (focus first|(apply qam;(repeat' first|assumption|exact qaa rfl|apply qaf rfl|apply qab);done)|exact qao _ _|exact qai _|exact qan _|exact qad|exact qag|exact qae|exact qac|exact qah _)
    · intro c
      have hlt : i < 1 := by simp at c; omega
      obtain rfl : i = 0 := by omega
      simp only [if_true] at hm
      obtain ⟨hbid, nv, r1, s1, gr1, k1⟩ := hm
      have sv1 := sv g1
      (repeat (first|refine KW.go ?_|((first|apply qaw|apply qaz|apply qa1|apply qa4|apply qay|apply qax|apply qar|apply qal|apply qaj|apply qap)<;>first|(apply qam;(repeat' first|assumption|exact qaa rfl|apply qaf rfl|apply qab);done)|exact qao _ _|exact qai _|exact qan _|exact qad|exact qag|exact qae|exact qac|exact qah _|exact qau _ (by omega)|exact qat (by omega)|exact qas (by omega)|exact rfl|assumption|apply qav)|((first|apply qa3|apply qaq|apply qak)<;>first|(apply qam;(repeat' first|assumption|exact qaa rfl|apply qaf rfl|apply qab);done)|exact qao _ _|exact qai _|exact qan _|exact qad|exact qag|exact qae|exact qac|exact qah _|exact qau _ (by omega)|exact qat (by omega)|exact qas (by omega)|exact rfl|assumption|apply qav)|(apply qa2 rfl rfl;(focus (repeat' first|assumption|exact qaa rfl|apply qaf rfl|apply qab);done))|(apply qbj rfl rfl;(focus (repeat' first|assumption|exact qaa rfl|apply qaf rfl|apply qab);done);exact rfl)))
      apply qbp
      · (focus first|(apply qam;(repeat' first|assumption|exact qaa rfl|apply qaf rfl|apply qab);done)|exact qao _ _|exact qai _|exact qan _|exact qad|exact qag|exact qae|exact qac|exact qah _)
      · exact sv1
      · (focus first|(apply qam;(repeat' first|assumption|exact qaa rfl|apply qaf rfl|apply qab);done)|exact qao _ _|exact qai _|exact qan _|exact qad|exact qag|exact qae|exact qac|exact qah _)
      · omega
      · rfl
      intro a ha _
      apply qce
      · (focus first|(apply qam;(repeat' first|assumption|exact qaa rfl|apply qaf rfl|apply qab);done)|exact qao _ _|exact qai _|exact qan _|exact qad|exact qag|exact qae|exact qac|exact qah _)
      · exact ha
      (repeat (first|refine KW.go ?_|((first|apply qaw|apply qaz|apply qa1|apply qa4|apply qay|apply qax|apply qar|apply qal|apply qaj|apply qap)<;>first|(apply qam;(repeat' first|assumption|exact qaa rfl|apply qaf rfl|apply qab);done)|exact qao _ _|exact qai _|exact qan _|exact qad|exact qag|exact qae|exact qac|exact qah _|exact qau _ (by omega)|exact qat (by omega)|exact qas (by omega)|exact rfl|assumption|apply qav)|((first|apply qa3|apply qaq|apply qak)<;>first|(apply qam;(repeat' first|assumption|exact qaa rfl|apply qaf rfl|apply qab);done)|exact qao _ _|exact qai _|exact qan _|exact qad|exact qag|exact qae|exact qac|exact qah _|exact qau _ (by omega)|exact qat (by omega)|exact qas (by omega)|exact rfl|assumption|apply qav)|(apply qa2 rfl rfl;(focus (repeat' first|assumption|exact qaa rfl|apply qaf rfl|apply qab);done))|(apply qbj rfl rfl;(focus (repeat' first|assumption|exact qaa rfl|apply qaf rfl|apply qab);done);exact rfl)))
      (apply qb5; (focus first|(apply qam;(repeat' first|assumption|exact qaa rfl|apply qaf rfl|apply qab);done)|exact qao _ _|exact qai _|exact qan _|exact qad|exact qag|exact qae|exact qac|exact qah _); (repeat (apply qbb; (focus first|(apply qam;(repeat' first|assumption|exact qaa rfl|apply qaf rfl|apply qab);done)|exact qao _ _|exact qai _|exact qan _|exact qad|exact qag|exact qae|exact qac|exact qah _))); exact qbi)
      refine (contains_spec hs2 (by omega) (.inl s1) s (by omega)).mono ?_
      rintro r g2 ⟨rfl, rfl⟩
      refine ⟨Undis.off rfl, ?_⟩
      (repeat (first|refine KW.go ?_|((first|apply qaw|apply qaz|apply qa1|apply qa4|apply qay|apply qax|apply qar|apply qal|apply qaj|apply qap)<;>first|(apply qam;(repeat' first|assumption|exact qaa rfl|apply qaf rfl|apply qab);done)|exact qao _ _|exact qai _|exact qan _|exact qad|exact qag|exact qae|exact qac|exact qah _|exact qau _ (by omega)|exact qat (by omega)|exact qas (by omega)|exact rfl|assumption|apply qav)|((first|apply qa3|apply qaq|apply qak)<;>first|(apply qam;(repeat' first|assumption|exact qaa rfl|apply qaf rfl|apply qab);done)|exact qao _ _|exact qai _|exact qan _|exact qad|exact qag|exact qae|exact qac|exact qah _|exact qau _ (by omega)|exact qat (by omega)|exact qas (by omega)|exact rfl|assumption|apply qav)|(apply qa2 rfl rfl;(focus (repeat' first|assumption|exact qaa rfl|apply qaf rfl|apply qab);done))|(apply qbj rfl rfl;(focus (repeat' first|assumption|exact qaa rfl|apply qaf rfl|apply qab);done);exact rfl)))
      apply qbx (!decide (s ∈ cur))
      · (focus first|(apply qam;(repeat' first|assumption|exact qaa rfl|apply qaf rfl|apply qab);done)|exact qao _ _|exact qai _|exact qan _|exact qad|exact qag|exact qae|exact qac|exact qah _)
      · intro c
        have hns : s ∉ cur := by simpa using c
        (repeat (first|refine KW.go ?_|((first|apply qaw|apply qaz|apply qa1|apply qa4|apply qay|apply qax|apply qar|apply qal|apply qaj|apply qap)<;>first|(apply qam;(repeat' first|assumption|exact qaa rfl|apply qaf rfl|apply qab);done)|exact qao _ _|exact qai _|exact qan _|exact qad|exact qag|exact qae|exact qac|exact qah _|exact qau _ (by omega)|exact qat (by omega)|exact qas (by omega)|exact rfl|assumption|apply qav)|((first|apply qa3|apply qaq|apply qak)<;>first|(apply qam;(repeat' first|assumption|exact qaa rfl|apply qaf rfl|apply qab);done)|exact qao _ _|exact qai _|exact qan _|exact qad|exact qag|exact qae|exact qac|exact qah _|exact qau _ (by omega)|exact qat (by omega)|exact qas (by omega)|exact rfl|assumption|apply qav)|(apply qa2 rfl rfl;(focus (repeat' first|assumption|exact qaa rfl|apply qaf rfl|apply qab);done))|(apply qbj rfl rfl;(focus (repeat' first|assumption|exact qaa rfl|apply qaf rfl|apply qab);done);exact rfl)))
        apply qcb
        · exact qbs (by (focus first|(apply qam;(repeat' first|assumption|exact qaa rfl|apply qaf rfl|apply qab);done)|exact qao _ _|exact qai _|exact qan _|exact qad|exact qag|exact qae|exact qac|exact qah _)) qcc
        · rfl
        · rfl
        · exact hp _ _
        intro hl
        apply O_wf
        intro w1
        apply O_append (new := [.str s]) (m := 1) (bytes := 16)
        · exact qbb (by (focus first|(apply qam;(repeat' first|assumption|exact qaa rfl|apply qaf rfl|apply qab);done)|exact qao _ _|exact qai _|exact qan _|exact qad|exact qag|exact qae|exact qac|exact qah _)) (qbb (by (focus first|(apply qam;(repeat' first|assumption|exact qaa rfl|apply qaf rfl|apply qab);done)|exact qao _ _|exact qai _|exact qan _|exact qad|exact qag|exact qae|exact qac|exact qah _)) qbi)
        · exact s1
        · exact gr1
        · exact sv1
        · rfl
        · rfl
        · simp [room]; omega
        intro nv' g3 kb s2 gr2 k2 _
        refine ⟨Undis.off rfl, ?_⟩
        have hid : id ∉ qb1 nv := fun q => (k1 _ q).2 rfl
        have r2 := r1.keepBut kb hid
        have hk2 : ∀ k ∈ qb1 nv', b ≤ k ∧ k ≠ id := by
          intro k hk
          rcases k2 k hk with q | q
          · exact k1 k q
          · exact ⟨by have := kp.next; omega, by have := r1.lt w1; omega⟩
        (repeat (first|refine KW.go ?_|((first|apply qaw|apply qaz|apply qa1|apply qa4|apply qay|apply qax|apply qar|apply qal|apply qaj|apply qap)<;>first|(apply qam;(repeat' first|assumption|exact qaa rfl|apply qaf rfl|apply qab);done)|exact qao _ _|exact qai _|exact qan _|exact qad|exact qag|exact qae|exact qac|exact qah _|exact qau _ (by omega)|exact qat (by omega)|exact qas (by omega)|exact rfl|assumption|apply qav)|((first|apply qa3|apply qaq|apply qak)<;>first|(apply qam;(repeat' first|assumption|exact qaa rfl|apply qaf rfl|apply qab);done)|exact qao _ _|exact qai _|exact qan _|exact qad|exact qag|exact qae|exact qac|exact qah _|exact qau _ (by omega)|exact qat (by omega)|exact qas (by omega)|exact rfl|assumption|apply qav)|(apply qa2 rfl rfl;(focus (repeat' first|assumption|exact qaa rfl|apply qaf rfl|apply qab);done))|(apply qbj rfl rfl;(focus (repeat' first|assumption|exact qaa rfl|apply qaf rfl|apply qab);done);exact rfl)))
        apply qcj
        · (focus first|(apply qam;(repeat' first|assumption|exact qaa rfl|apply qaf rfl|apply qab);done)|exact qao _ _|exact qai _|exact qan _|exact qad|exact qag|exact qae|exact qac|exact qah _)
        · (focus first|(apply qam;(repeat' first|assumption|exact qaa rfl|apply qaf rfl|apply qab);done)|exact qao _ _|exact qai _|exact qan _|exact qad|exact qag|exact qae|exact qac|exact qah _)
        · exact r2
        · simp [s2.acells, s2.one, ones]
        intro g4 kb4 r4
        refine ⟨Undis.off rfl, ?_⟩
        rw [s2.acells] at r4
        (repeat (first|refine KW.go ?_|((first|apply qaw|apply qaz|apply qa1|apply qa4|apply qay|apply qax|apply qar|apply qal|apply qaj|apply qap)<;>first|(apply qam;(repeat' first|assumption|exact qaa rfl|apply qaf rfl|apply qab);done)|exact qao _ _|exact qai _|exact qan _|exact qad|exact qag|exact qae|exact qac|exact qah _|exact qau _ (by omega)|exact qat (by omega)|exact qas (by omega)|exact rfl|assumption|apply qav)|((first|apply qa3|apply qaq|apply qak)<;>first|(apply qam;(repeat' first|assumption|exact qaa rfl|apply qaf rfl|apply qab);done)|exact qao _ _|exact qai _|exact qan _|exact qad|exact qag|exact qae|exact qac|exact qah _|exact qau _ (by omega)|exact qat (by omega)|exact qas (by omega)|exact rfl|assumption|apply qav)|(apply qa2 rfl rfl;(focus (repeat' first|assumption|exact qaa rfl|apply qaf rfl|apply qab);done))|(apply qbj rfl rfl;(focus (repeat' first|assumption|exact qaa rfl|apply qaf rfl|apply qab);done);exact rfl)))
        apply qdg 0 (by omega)
        refine ⟨1, by omega, by omega, by (repeat' first|assumption|exact qaa rfl|apply qaf rfl|apply qab), by (repeat' first|assumption|exact qaa rfl|apply qaf rfl|apply qab), by (repeat' first|assumption|exact qaa rfl|apply qaf rfl|apply qab), by (repeat' first|assumption|exact qaa rfl|apply qaf rfl|apply qab), ?_, ?_⟩
        · exact (kp.trans (kb.weaken fun i hi => (k1 i hi).1)).trans (kb4.weaken fun i hi => by subst hi; exact hbid)
        · refine ⟨hbid, nv', r4, ?_, gr2, hk2⟩
          simp only [qdb, hns, if_false]
          have := s2.keepBut kb4 fun k hk => (hk2 k hk).2
          simpa [strs, Strs] using this
      · intro c
        have hns : s ∈ cur := by simpa using c
        (repeat (first|refine KW.go ?_|((first|apply qaw|apply qaz|apply qa1|apply qa4|apply qay|apply qax|apply qar|apply qal|apply qaj|apply qap)<;>first|(apply qam;(repeat' first|assumption|exact qaa rfl|apply qaf rfl|apply qab);done)|exact qao _ _|exact qai _|exact qan _|exact qad|exact qag|exact qae|exact qac|exact qah _|exact qau _ (by omega)|exact qat (by omega)|exact qas (by omega)|exact rfl|assumption|apply qav)|((first|apply qa3|apply qaq|apply qak)<;>first|(apply qam;(repeat' first|assumption|exact qaa rfl|apply qaf rfl|apply qab);done)|exact qao _ _|exact qai _|exact qan _|exact qad|exact qag|exact qae|exact qac|exact qah _|exact qau _ (by omega)|exact qat (by omega)|exact qas (by omega)|exact rfl|assumption|apply qav)|(apply qa2 rfl rfl;(focus (repeat' first|assumption|exact qaa rfl|apply qaf rfl|apply qab);done))|(apply qbj rfl rfl;(focus (repeat' first|assumption|exact qaa rfl|apply qaf rfl|apply qab);done);exact rfl)))
        apply qdg 0 (by omega)
        refine ⟨1, by omega, by omega, by (repeat' first|assumption|exact qaa rfl|apply qaf rfl|apply qab), by (repeat' first|assumption|exact qaa rfl|apply qaf rfl|apply qab), by (repeat' first|assumption|exact qaa rfl|apply qaf rfl|apply qab), by (repeat' first|assumption|exact qaa rfl|apply qaf rfl|apply qab), kp, hbid, nv, r1, ?_, gr1, k1⟩
        simp only [qdb, hns, if_true]
        exact s1
    · intro c
      have : i = 1 := by simp at c; omega
      subst this
      (repeat (first|refine KW.go ?_|((first|apply qaw|apply qaz|apply qa1|apply qa4|apply qay|apply qax|apply qar|apply qal|apply qaj|apply qap)<;>first|(apply qam;(repeat' first|assumption|exact qaa rfl|apply qaf rfl|apply qab);done)|exact qao _ _|exact qai _|exact qan _|exact qad|exact qag|exact qae|exact qac|exact qah _|exact qau _ (by omega)|exact qat (by omega)|exact qas (by omega)|exact rfl|assumption|apply qav)|((first|apply qa3|apply qaq|apply qak)<;>first|(apply qam;(repeat' first|assumption|exact qaa rfl|apply qaf rfl|apply qab);done)|exact qao _ _|exact qai _|exact qan _|exact qad|exact qag|exact qae|exact qac|exact qah _|exact qau _ (by omega)|exact qat (by omega)|exact qas (by omega)|exact rfl|assumption|apply qav)|(apply qa2 rfl rfl;(focus (repeat' first|assumption|exact qaa rfl|apply qaf rfl|apply qab);done))|(apply qbj rfl rfl;(focus (repeat' first|assumption|exact qaa rfl|apply qaf rfl|apply qab);done);exact rfl)))
      apply R_results0 rfl
      exact ⟨kp, hm⟩

theorem MetAt.keepBut {h h1 : Hp} {b id i : Nat} {cur : List Str} (m : MetAt h b id cur) (k : KeepBut (· = i) h h1) (hi : i ≠ id) (hn : h.next ≤ i) (w : h.WF) : MetAt h1 b id cur := by
  obtain ⟨h0, nv, r, s, g, hk⟩ := m
  exact ⟨h0, nv, r.keepBut k (fun e => hi e.symm), s.keepBut k (fun j hj e => by have := s.lt w j hj; omega), g, hk⟩

theorem slots_spec (hp : ∀ f d, pol.lit f d = false) (hs : sums 55 = none) (hs1 : sums 71 = none) (hs2 : sums 67 = some qb6) {n : Nat} (hn : 5 ≤ n) {h : Hp} {b id : Nat} {cur : List Str} (m : MetAt h b id cur) (x y z : Slt) (hw : b ≤ h.next) (hb : cur.length < 2 ^ 39) :
    Runs (qbt Try.prog pol sums n (.func (.func 55) [] []) [.ptr id 0 0, .sl .full 3 (sltC x ++ sltC y ++ sltC z)]) h (fun _ h' => KeepBut (b ≤ ·) h h' ∧ MetAt h' b id (qcg (qcg (qcg cur x) y) z)) := by
  obtain ⟨n, rfl⟩ : ∃ m, n = m + 1 := ⟨n - 1, by omega⟩
  refine qcq (by assumption) Try.func55 rfl (by simp [Try.f55]) ?_
  have a0 : qbq (qa9 Try.f55.ntmps (([] ++ [.ptr id 0 0, .sl .full 3 (sltC x ++ sltC y ++ sltC z)] ++ []) : List AV)) 0 = .ptr id 0 0 := qa8 rfl
  have a1 : qbq (qa9 Try.f55.ntmps (([] ++ [.ptr id 0 0, .sl .full 3 (sltC x ++ sltC y ++ sltC z)] ++ []) : List AV)) 1 = .sl .full 3 (sltC x ++ sltC y ++ sltC z) := qa8 rfl
  generalize qa9 Try.f55.ntmps (([] ++ [.ptr id 0 0, .sl .full 3 (sltC x ++ sltC y ++ sltC z)] ++ []) : List AV) = T at *
  show Runs (qbn _ _ _ _ 23 _ _ _) _ _
  have sv : ∀ h, SlV h 5 (.sl .full 3 (sltC x ++ sltC y ++ sltC z)) 3 (qc3 sltC [x, y, z]) := fun h => .imm _ _ _ rfl
  have sv0 := sv h
  (repeat (first|refine KW.go ?_|((first|apply qaw|apply qaz|apply qa1|apply qa4|apply qay|apply qax|apply qar|apply qal|apply qaj|apply qap)<;>first|(apply qam;(repeat' first|assumption|exact qaa rfl|apply qaf rfl|apply qab);done)|exact qao _ _|exact qai _|exact qan _|exact qad|exact qag|exact qae|exact qac|exact qah _|exact qau _ (by omega)|exact qat (by omega)|exact qas (by omega)|exact rfl|assumption|apply qav)|((first|apply qa3|apply qaq|apply qak)<;>first|(apply qam;(repeat' first|assumption|exact qaa rfl|apply qaf rfl|apply qab);done)|exact qao _ _|exact qai _|exact qan _|exact qad|exact qag|exact qae|exact qac|exact qah _|exact qau _ (by omega)|exact qat (by omega)|exact qas (by omega)|exact rfl|assumption|apply qav)|(apply qa2 rfl rfl;(focus (repeat' first|assumption|exact qaa rfl|apply qaf rfl|apply qab);done))|(apply qbj rfl rfl;(focus (repeat' first|assumption|exact qaa rfl|apply qaf rfl|apply qab);done);exact rfl)))
  apply R_loop (k := 3) (I := fun k T h1 => ∃ i, k = 3 - i ∧ i ≤ 3 ∧ qbq T 0 = .ptr id 0 0 ∧ qbq T 6 = .sl .full 3 (sltC x ++ sltC y ++ sltC z) ∧ qbq T 7 = .int .i64 (3 : Nat) ∧ qbq T 8 = .int .i64 (i : Nat) ∧ KeepBut (b ≤ ·) h h1 ∧ MetAt h1 b id (([x, y, z].take i).foldl qcg cur))
  · omega
  · exact ⟨0, by omega, by omega, by (repeat' first|assumption|exact qaa rfl|apply qaf rfl|apply qab), by (repeat' first|assumption|exact qaa rfl|apply qaf rfl|apply qab), by (repeat' first|assumption|exact qaa rfl|apply qaf rfl|apply qab), by (repeat' first|assumption|exact qaa rfl|apply qaf rfl|apply qab), KeepBut.refl h, m⟩
  · rintro k T g1 ⟨i, rfl, hi, t0, t6, t7, t8, kp, hm⟩
    have hcl : (([x, y, z].take i).foldl qcg cur).length ≤ cur.length + 3 := by
      have h1 : ∀ (l : List Slt) (c : List Str), (l.foldl qcg c).length ≤ c.length + l.length := by
        intro l; induction l with
        | nil => intro c; simp
        | cons a l ih => intro c; have := ih (qcg c a); have := qdw c a; simp only [List.foldl_cons, List.length_cons]; omega
      have := h1 ([x, y, z].take i) cur
      simp only [List.length_take, List.length_cons, List.length_nil] at this
      omega
    (repeat (first|refine KW.go ?_|((first|apply qaw|apply qaz|apply qa1|apply qa4|apply qay|apply qax|apply qar|apply qal|apply qaj|apply qap)<;>first|(apply qam;(repeat' first|assumption|exact qaa rfl|apply qaf rfl|apply qab);done)|exact qao _ _|exact qai _|exact qan _|exact qad|exact qag|exact qae|exact qac|exact qah _|exact qau _ (by omega)|exact qat (by omega)|exact qas (by omega)|exact rfl|assumption|apply qav)|((first|apply qa3|apply qaq|apply qak)<;>first|(apply qam;(repeat' first|assumption|exact qaa rfl|apply qaf rfl|apply qab);done)|exact qao _ _|exact qai _|exact qan _|exact qad|exact qag|exact qae|exact qac|exact qah _|exact qau _ (by omega)|exact qat (by omega)|exact qas (by omega)|exact rfl|assumption|apply qav)|(apply qa2 rfl rfl;(focus (repeat' first|assumption|exact qaa rfl|apply qaf rfl|apply qab);done))|(apply qbj rfl rfl;(focus (repeat' first|assumption|exact qaa rfl|apply qaf rfl|apply qab);done);exact rfl)))
    apply qbx (decide ((i : Int) < ((3 : Nat) : Int)))
    · (focus first|(apply qam;(repeat' first|assumption|exact qaa rfl|apply qaf rfl|apply qab);done)|exact qao _ _|exact qai _|exact qan _|exact qad|exact qag|exact qae|exact qac|exact qah _)
    · intro c
      have hlt : i < 3 := by simp at c; omega
      have hlt' : i < [x, y, z].length := hlt
      have sv1 := sv g1
      (repeat (first|refine KW.go ?_|((first|apply qaw|apply qaz|apply qa1|apply qa4|apply qay|apply qax|apply qar|apply qal|apply qaj|apply qap)<;>first|(apply qam;(repeat' first|assumption|exact qaa rfl|apply qaf rfl|apply qab);done)|exact qao _ _|exact qai _|exact qan _|exact qad|exact qag|exact qae|exact qac|exact qah _|exact qau _ (by omega)|exact qat (by omega)|exact qas (by omega)|exact rfl|assumption|apply qav)|((first|apply qa3|apply qaq|apply qak)<;>first|(apply qam;(repeat' first|assumption|exact qaa rfl|apply qaf rfl|apply qab);done)|exact qao _ _|exact qai _|exact qan _|exact qad|exact qag|exact qae|exact qac|exact qah _|exact qau _ (by omega)|exact qat (by omega)|exact qas (by omega)|exact rfl|assumption|apply qav)|(apply qa2 rfl rfl;(focus (repeat' first|assumption|exact qaa rfl|apply qaf rfl|apply qab);done))|(apply qbj rfl rfl;(focus (repeat' first|assumption|exact qaa rfl|apply qaf rfl|apply qab);done);exact rfl)))
      apply qbp
      · (focus first|(apply qam;(repeat' first|assumption|exact qaa rfl|apply qaf rfl|apply qab);done)|exact qao _ _|exact qai _|exact qan _|exact qad|exact qag|exact qae|exact qac|exact qah _)
      · exact sv1
      · (focus first|(apply qam;(repeat' first|assumption|exact qaa rfl|apply qaf rfl|apply qab);done)|exact qao _ _|exact qai _|exact qan _|exact qad|exact qag|exact qae|exact qac|exact qah _)
      · omega
      · rfl
      intro a ha _
      rw [flat_at sltC_len hlt'] at ha
      have hstep : ([x, y, z].take (i + 1)).foldl qcg cur = qcg (([x, y, z].take i).foldl qcg cur) [x, y, z][i] := by
        rw [List.take_succ_eq_append_getElem hlt', List.foldl_append]; rfl
      generalize [x, y, z][i] = s at ha hstep
      apply qcy
      · (focus first|(apply qam;(repeat' first|assumption|exact qaa rfl|apply qaf rfl|apply qab);done)|exact qao _ _|exact qai _|exact qan _|exact qad|exact qag|exact qae|exact qac|exact qah _)
      · exact ha
      · rfl
      apply O_wf
      intro w1
      apply qdn
      intro g2 j kp2 r2 lj1 lj2
      apply qcj
      · (focus first|(apply qam;(repeat' first|assumption|exact qaa rfl|apply qaf rfl|apply qab);done)|exact qao _ _|exact qai _|exact qan _|exact qad|exact qag|exact qae|exact qac|exact qah _)
      · (focus first|(apply qam;(repeat' first|assumption|exact qaa rfl|apply qaf rfl|apply qab);done)|exact qao _ _|exact qai _|exact qan _|exact qad|exact qag|exact qae|exact qac|exact qah _)
      · exact r2
      · rfl
      intro g3 kb3 r3
      refine ⟨Undis.off rfl, ?_⟩
      have hidj : id < g1.next := by obtain ⟨_, nv, r, _⟩ := hm; exact r.lt w1
      have hm3 : MetAt g3 b id (([x, y, z].take i).foldl qcg cur) := by
        obtain ⟨q0, nv, q1, q2, q3, q4⟩ := hm
        exact ⟨q0, nv, (q1.keep kp2).keepBut kb3 (by omega), (q2.keep kp2).keepBut kb3 (fun k hk e => by have := q2.lt w1 k hk; omega), q3, q4⟩
      have hn3 : g1.next ≤ g3.next := Nat.le_trans kp2.next kb3.next
      have kp3 : KeepBut (b ≤ ·) h g3 := (kp.trans (kp2.but _)).trans (kb3.weaken fun k hk => by subst hk; have := kp.next; omega)
      change Row g3 j 0 _ [.str s.var, .int .i64 s.term.kind, .str s.term.a, .str s.term.b, .str s.term.c] true at r3
      (repeat (first|refine KW.go ?_|((first|apply qaw|apply qaz|apply qa1|apply qa4|apply qay|apply qax|apply qar|apply qal|apply qaj|apply qap)<;>first|(apply qam;(repeat' first|assumption|exact qaa rfl|apply qaf rfl|apply qab);done)|exact qao _ _|exact qai _|exact qan _|exact qad|exact qag|exact qae|exact qac|exact qah _|exact qau _ (by omega)|exact qat (by omega)|exact qas (by omega)|exact rfl|assumption|apply qav)|((first|apply qa3|apply qaq|apply qak)<;>first|(apply qam;(repeat' first|assumption|exact qaa rfl|apply qaf rfl|apply qab);done)|exact qao _ _|exact qai _|exact qan _|exact qad|exact qag|exact qae|exact qac|exact qah _|exact qau _ (by omega)|exact qat (by omega)|exact qas (by omega)|exact rfl|assumption|apply qav)|(apply qa2 rfl rfl;(focus (repeat' first|assumption|exact qaa rfl|apply qaf rfl|apply qab);done))|(apply qbj rfl rfl;(focus (repeat' first|assumption|exact qaa rfl|apply qaf rfl|apply qab);done);exact rfl)))
      apply qbx (!(s.var == []))
      · (focus first|(apply qam;(repeat' first|assumption|exact qaa rfl|apply qaf rfl|apply qab);done)|exact qao _ _|exact qai _|exact qan _|exact qad|exact qag|exact qae|exact qac|exact qah _)
      · intro c
        have hne : s.var ≠ [] := by simpa using c
        (refine R_drawn [0, 1, 2, 3, 4, 5, 6] [0, 1, 3, 0, 8, 24, 63] (by kernel_rfl) (by kernel_rfl) (by rfl) ?_; dsimp only [qc1, List.map, List.getElem?_cons_zero, List.getElem?_cons_succ])
        (repeat (first|refine KW.go ?_|((first|apply qaw|apply qaz|apply qa1|apply qa4|apply qay|apply qax|apply qar|apply qal|apply qaj|apply qap)<;>first|(apply qam;(repeat' first|assumption|exact qaa rfl|apply qaf rfl|apply qab);done)|exact qao _ _|exact qai _|exact qan _|exact qad|exact qag|exact qae|exact qac|exact qah _|exact qau _ (by omega)|exact qat (by omega)|exact qas (by omega)|exact rfl|assumption|apply qav)|((first|apply qa3|apply qaq|apply qak)<;>first|(apply qam;(repeat' first|assumption|exact qaa rfl|apply qaf rfl|apply qab);done)|exact qao _ _|exact qai _|exact qan _|exact qad|exact qag|exact qae|exact qac|exact qah _|exact qau _ (by omega)|exact qat (by omega)|exact qas (by omega)|exact rfl|assumption|apply qav)|(apply qa2 rfl rfl;(focus (repeat' first|assumption|exact qaa rfl|apply qaf rfl|apply qab);done))|(apply qbj rfl rfl;(focus (repeat' first|assumption|exact qaa rfl|apply qaf rfl|apply qab);done);exact rfl)))
        apply qcb
        · exact qbs (by (focus first|(apply qam;(repeat' first|assumption|exact qaa rfl|apply qaf rfl|apply qab);done)|exact qao _ _|exact qai _|exact qan _|exact qad|exact qag|exact qae|exact qac|exact qah _)) qcc
        · rfl
        · rfl
        · exact hp _ _
        intro _
        (apply qb5; (focus first|(apply qam;(repeat' first|assumption|exact qaa rfl|apply qaf rfl|apply qab);done)|exact qao _ _|exact qai _|exact qan _|exact qad|exact qag|exact qae|exact qac|exact qah _); (repeat (apply qbb; (focus first|(apply qam;(repeat' first|assumption|exact qaa rfl|apply qaf rfl|apply qab);done)|exact qao _ _|exact qai _|exact qan _|exact qad|exact qag|exact qae|exact qac|exact qah _))); exact qbi)
        refine (meet_spec hp hs1 hs2 (by omega) hm3 s.var (by have := kp3.next; omega) (by omega)).mono ?_
        rintro _ g4 ⟨kb4, hm4⟩
        refine ⟨Undis.ahead (by kernel_rfl), ?_⟩
        (repeat (first|refine KW.go ?_|((first|apply qaw|apply qaz|apply qa1|apply qa4|apply qay|apply qax|apply qar|apply qal|apply qaj|apply qap)<;>first|(apply qam;(repeat' first|assumption|exact qaa rfl|apply qaf rfl|apply qab);done)|exact qao _ _|exact qai _|exact qan _|exact qad|exact qag|exact qae|exact qac|exact qah _|exact qau _ (by omega)|exact qat (by omega)|exact qas (by omega)|exact rfl|assumption|apply qav)|((first|apply qa3|apply qaq|apply qak)<;>first|(apply qam;(repeat' first|assumption|exact qaa rfl|apply qaf rfl|apply qab);done)|exact qao _ _|exact qai _|exact qan _|exact qad|exact qag|exact qae|exact qac|exact qah _|exact qau _ (by omega)|exact qat (by omega)|exact qas (by omega)|exact rfl|assumption|apply qav)|(apply qa2 rfl rfl;(focus (repeat' first|assumption|exact qaa rfl|apply qaf rfl|apply qab);done))|(apply qbj rfl rfl;(focus (repeat' first|assumption|exact qaa rfl|apply qaf rfl|apply qab);done);exact rfl)))
        apply qdg (3 - (i + 1)) (by omega)
        refine ⟨i + 1, rfl, by omega, by (repeat' first|assumption|exact qaa rfl|apply qaf rfl|apply qab), by (repeat' first|assumption|exact qaa rfl|apply qaf rfl|apply qab), by (repeat' first|assumption|exact qaa rfl|apply qaf rfl|apply qab), by (repeat' first|assumption|exact qaa rfl|apply qaf rfl|apply qab), kp3.trans kb4, ?_⟩
        rw [hstep]
        simpa [qcg, hne] using hm4
      · intro c
        have hne : s.var = [] := by simpa using c
        (repeat (first|refine KW.go ?_|((first|apply qaw|apply qaz|apply qa1|apply qa4|apply qay|apply qax|apply qar|apply qal|apply qaj|apply qap)<;>first|(apply qam;(repeat' first|assumption|exact qaa rfl|apply qaf rfl|apply qab);done)|exact qao _ _|exact qai _|exact qan _|exact qad|exact qag|exact qae|exact qac|exact qah _|exact qau _ (by omega)|exact qat (by omega)|exact qas (by omega)|exact rfl|assumption|apply qav)|((first|apply qa3|apply qaq|apply qak)<;>first|(apply qam;(repeat' first|assumption|exact qaa rfl|apply qaf rfl|apply qab);done)|exact qao _ _|exact qai _|exact qan _|exact qad|exact qag|exact qae|exact qac|exact qah _|exact qau _ (by omega)|exact qat (by omega)|exact qas (by omega)|exact rfl|assumption|apply qav)|(apply qa2 rfl rfl;(focus (repeat' first|assumption|exact qaa rfl|apply qaf rfl|apply qab);done))|(apply qbj rfl rfl;(focus (repeat' first|assumption|exact qaa rfl|apply qaf rfl|apply qab);done);exact rfl)))
        apply qdg (3 - (i + 1)) (by omega)
        refine ⟨i + 1, rfl, by omega, by (repeat' first|assumption|exact qaa rfl|apply qaf rfl|apply qab), by (repeat' first|assumption|exact qaa rfl|apply qaf rfl|apply qab), by (repeat' first|assumption|exact qaa rfl|apply qaf rfl|apply qab), by (repeat' first|assumption|exact qaa rfl|apply qaf rfl|apply qab), kp3, ?_⟩
        rw [hstep]
        simpa [qcg, hne] using hm3
    · intro c
      have : i = 3 := by simp at c; omega
      subst this
      (repeat (first|refine KW.go ?_|((first|apply qaw|apply qaz|apply qa1|apply qa4|apply qay|apply qax|apply qar|apply qal|apply qaj|apply qap)<;>first|(apply qam;(repeat' first|assumption|exact qaa rfl|apply qaf rfl|apply qab);done)|exact qao _ _|exact qai _|exact qan _|exact qad|exact qag|exact qae|exact qac|exact qah _|exact qau _ (by omega)|exact qat (by omega)|exact qas (by omega)|exact rfl|assumption|apply qav)|((first|apply qa3|apply qaq|apply qak)<;>first|(apply qam;(repeat' first|assumption|exact qaa rfl|apply qaf rfl|apply qab);done)|exact qao _ _|exact qai _|exact qan _|exact qad|exact qag|exact qae|exact qac|exact qah _|exact qau _ (by omega)|exact qat (by omega)|exact qas (by omega)|exact rfl|assumption|apply qav)|(apply qa2 rfl rfl;(focus (repeat' first|assumption|exact qaa rfl|apply qaf rfl|apply qab);done))|(apply qbj rfl rfl;(focus (repeat' first|assumption|exact qaa rfl|apply qaf rfl|apply qab);done);exact rfl)))
      apply R_results0 rfl
      exact ⟨kp, hm⟩
end Go.Am
namespace Go.Am
open Go Go.Proofs AM
set_option maxRecDepth 10000
variable {pol : Pol} {sums : Sums}
attribute [local irreducible] KSeq KMid KBlock KLoop KOps KFunc Runs qb9 qbn qdl aop qbt qbq qbv qbv? qbd qbw qa9

theorem KeepBut.toKeep {h h1 : Hp} (k : KeepBut (h.next ≤ ·) h h1) (w : h.WF) : Keep h h1 := k.all fun _ hi => w.get hi
theorem SlV.old {h h1 : Hp} {sz n : Nat} {v : AV} {cells : List AV} (s : SlV h sz v n cells) (w : h.WF) (k : KeepBut (h.next ≤ ·) h h1) : SlV h1 sz v n cells := s.keepBut k fun i hi => by have := s.lt w i hi; omega
theorem vars_spec (hp : ∀ f d, pol.lit f d = false) (hs : sums 27 = none) (hs0 : sums 55 = none) (hs1 : sums 71 = none) (hs2 : sums 67 = some qb6) {n : Nat} {h : Hp} {v : AV} {l : List Ptn} (hn : l.length + 7 ≤ n) (o : Rows ptnC 15 h v l) (hb : l.length < 2 ^ 30) :
    Runs (qbt Try.prog pol sums n (.func (.func 27) [] []) [v]) h (fun r h' => Keep h h' ∧ Strs h' r (qcz l) ∧ qdh r = true ∧ ∀ k ∈ qb1 r, h.next ≤ k) := by
  apply Runs.wf
  intro w
  obtain ⟨n, rfl⟩ : ∃ m, n = m + 1 := ⟨n - 1, by omega⟩
  refine qcq (by assumption) Try.func27 rfl (by simp [Try.f27]) ?_
  have a0 : qbq (qa9 Try.f27.ntmps (([] ++ [v] ++ []) : List AV)) 0 = v := qa8 rfl
  generalize qa9 Try.f27.ntmps (([] ++ [v] ++ []) : List AV) = T at *
  show Runs (qbn _ _ _ _ 24 _ _ _) _ _
  (repeat (first|refine KW.go ?_|((first|apply qaw|apply qaz|apply qa1|apply qa4|apply qay|apply qax|apply qar|apply qal|apply qaj|apply qap)<;>first|(apply qam;(repeat' first|assumption|exact qaa rfl|apply qaf rfl|apply qab);done)|exact qao _ _|exact qai _|exact qan _|exact qad|exact qag|exact qae|exact qac|exact qah _|exact qau _ (by omega)|exact qat (by omega)|exact qas (by omega)|exact rfl|assumption|apply qav)|((first|apply qa3|apply qaq|apply qak)<;>first|(apply qam;(repeat' first|assumption|exact qaa rfl|apply qaf rfl|apply qab);done)|exact qao _ _|exact qai _|exact qan _|exact qad|exact qag|exact qae|exact qac|exact qah _|exact qau _ (by omega)|exact qat (by omega)|exact qas (by omega)|exact rfl|assumption|apply qav)|(apply qa2 rfl rfl;(focus (repeat' first|assumption|exact qaa rfl|apply qaf rfl|apply qab);done))|(apply qbj rfl rfl;(focus (repeat' first|assumption|exact qaa rfl|apply qaf rfl|apply qab);done);exact rfl)))
  apply qdn
  intro g1 id k1 r1 l1 l2
  (repeat (first|refine KW.go ?_|((first|apply qaw|apply qaz|apply qa1|apply qa4|apply qay|apply qax|apply qar|apply qal|apply qaj|apply qap)<;>first|(apply qam;(repeat' first|assumption|exact qaa rfl|apply qaf rfl|apply qab);done)|exact qao _ _|exact qai _|exact qan _|exact qad|exact qag|exact qae|exact qac|exact qah _|exact qau _ (by omega)|exact qat (by omega)|exact qas (by omega)|exact rfl|assumption|apply qav)|((first|apply qa3|apply qaq|apply qak)<;>first|(apply qam;(repeat' first|assumption|exact qaa rfl|apply qaf rfl|apply qab);done)|exact qao _ _|exact qai _|exact qan _|exact qad|exact qag|exact qae|exact qac|exact qah _|exact qau _ (by omega)|exact qat (by omega)|exact qas (by omega)|exact rfl|assumption|apply qav)|(apply qa2 rfl rfl;(focus (repeat' first|assumption|exact qaa rfl|apply qaf rfl|apply qab);done))|(apply qbj rfl rfl;(focus (repeat' first|assumption|exact qaa rfl|apply qaf rfl|apply qab);done);exact rfl)))
  have o1 := o.keep k1
  (repeat (first|refine KW.go ?_|((first|apply qaw|apply qaz|apply qa1|apply qa4|apply qay|apply qax|apply qar|apply qal|apply qaj|apply qap)<;>first|(apply qam;(repeat' first|assumption|exact qaa rfl|apply qaf rfl|apply qab);done)|exact qao _ _|exact qai _|exact qan _|exact qad|exact qag|exact qae|exact qac|exact qah _|exact qau _ (by omega)|exact qat (by omega)|exact qas (by omega)|exact rfl|assumption|apply qav)|((first|apply qa3|apply qaq|apply qak)<;>first|(apply qam;(repeat' first|assumption|exact qaa rfl|apply qaf rfl|apply qab);done)|exact qao _ _|exact qai _|exact qan _|exact qad|exact qag|exact qae|exact qac|exact qah _|exact qau _ (by omega)|exact qat (by omega)|exact qas (by omega)|exact rfl|assumption|apply qav)|(apply qa2 rfl rfl;(focus (repeat' first|assumption|exact qaa rfl|apply qaf rfl|apply qab);done))|(apply qbj rfl rfl;(focus (repeat' first|assumption|exact qaa rfl|apply qaf rfl|apply qab);done);exact rfl)))
  apply R_loop (k := l.length) (I := fun k T g => ∃ i, k = l.length - i ∧ i ≤ l.length ∧ qbq T 3 = .ptr id 0 0 ∧ qbq T 6 = v ∧ qbq T 7 = .int .i64 (l.length : Nat) ∧ qbq T 8 = .int .i64 (i : Nat) ∧ KeepBut (h.next ≤ ·) h g ∧ MetAt g h.next id ((l.take i).foldl qdj []))
  · omega
  · refine ⟨0, by omega, by omega, by (repeat' first|assumption|exact qaa rfl|apply qaf rfl|apply qab), by (repeat' first|assumption|exact qaa rfl|apply qaf rfl|apply qab), by (repeat' first|assumption|exact qaa rfl|apply qaf rfl|apply qab), by (repeat' first|assumption|exact qaa rfl|apply qaf rfl|apply qab), k1.but _, l1, _, r1, SlV.nil, rfl, ?_⟩
    simp [qb1]
  · rintro k T g2 ⟨i, rfl, hi, t3, t6, t7, t8, kp, hm⟩
    have hcl : ((l.take i).foldl qdj []).length ≤ 3 * i := by
      have := varsFrom_length (l.take i) []
      simp only [List.length_nil, List.length_take] at this
      omega
    (repeat (first|refine KW.go ?_|((first|apply qaw|apply qaz|apply qa1|apply qa4|apply qay|apply qax|apply qar|apply qal|apply qaj|apply qap)<;>first|(apply qam;(repeat' first|assumption|exact qaa rfl|apply qaf rfl|apply qab);done)|exact qao _ _|exact qai _|exact qan _|exact qad|exact qag|exact qae|exact qac|exact qah _|exact qau _ (by omega)|exact qat (by omega)|exact qas (by omega)|exact rfl|assumption|apply qav)|((first|apply qa3|apply qaq|apply qak)<;>first|(apply qam;(repeat' first|assumption|exact qaa rfl|apply qaf rfl|apply qab);done)|exact qao _ _|exact qai _|exact qan _|exact qad|exact qag|exact qae|exact qac|exact qah _|exact qau _ (by omega)|exact qat (by omega)|exact qas (by omega)|exact rfl|assumption|apply qav)|(apply qa2 rfl rfl;(focus (repeat' first|assumption|exact qaa rfl|apply qaf rfl|apply qab);done))|(apply qbj rfl rfl;(focus (repeat' first|assumption|exact qaa rfl|apply qaf rfl|apply qab);done);exact rfl)))
    apply qbx (decide ((i : Int) < (l.length : Int)))
    · (focus first|(apply qam;(repeat' first|assumption|exact qaa rfl|apply qaf rfl|apply qab);done)|exact qao _ _|exact qai _|exact qan _|exact qad|exact qag|exact qae|exact qac|exact qah _)
    · intro c
      have hlt : i < l.length := by simpa using c
      (repeat (first|refine KW.go ?_|((first|apply qaw|apply qaz|apply qa1|apply qa4|apply qay|apply qax|apply qar|apply qal|apply qaj|apply qap)<;>first|(apply qam;(repeat' first|assumption|exact qaa rfl|apply qaf rfl|apply qab);done)|exact qao _ _|exact qai _|exact qan _|exact qad|exact qag|exact qae|exact qac|exact qah _|exact qau _ (by omega)|exact qat (by omega)|exact qas (by omega)|exact rfl|assumption|apply qav)|((first|apply qa3|apply qaq|apply qak)<;>first|(apply qam;(repeat' first|assumption|exact qaa rfl|apply qaf rfl|apply qab);done)|exact qao _ _|exact qai _|exact qan _|exact qad|exact qag|exact qae|exact qac|exact qah _|exact qau _ (by omega)|exact qat (by omega)|exact qas (by omega)|exact rfl|assumption|apply qav)|(apply qa2 rfl rfl;(focus (repeat' first|assumption|exact qaa rfl|apply qaf rfl|apply qab);done))|(apply qbj rfl rfl;(focus (repeat' first|assumption|exact qaa rfl|apply qaf rfl|apply qab);done);exact rfl)))
      apply qbp
      · (focus first|(apply qam;(repeat' first|assumption|exact qaa rfl|apply qaf rfl|apply qab);done)|exact qao _ _|exact qai _|exact qan _|exact qad|exact qag|exact qae|exact qac|exact qah _)
      · exact o.old w kp
      · (focus first|(apply qam;(repeat' first|assumption|exact qaa rfl|apply qaf rfl|apply qab);done)|exact qao _ _|exact qai _|exact qan _|exact qad|exact qag|exact qae|exact qac|exact qah _)
      · omega
      · rfl
      intro a ha _
      rw [flat_at ptnC_len hlt] at ha
      have hstep : (l.take (i + 1)).foldl qdj [] = qdj ((l.take i).foldl qdj []) l[i] := by
        rw [List.take_succ_eq_append_getElem hlt, List.foldl_append]; rfl
      generalize l[i] = p at ha hstep
      apply qcy
      · (focus first|(apply qam;(repeat' first|assumption|exact qaa rfl|apply qaf rfl|apply qab);done)|exact qao _ _|exact qai _|exact qan _|exact qad|exact qag|exact qae|exact qac|exact qah _)
      · exact ha
      · rfl
      apply O_wf
      intro w2
      apply qdn
      intro g3 j k3 r3 lj1 lj2
      apply qcj
      · (focus first|(apply qam;(repeat' first|assumption|exact qaa rfl|apply qaf rfl|apply qab);done)|exact qao _ _|exact qai _|exact qan _|exact qad|exact qag|exact qae|exact qac|exact qah _)
      · (focus first|(apply qam;(repeat' first|assumption|exact qaa rfl|apply qaf rfl|apply qab);done)|exact qao _ _|exact qai _|exact qan _|exact qad|exact qag|exact qae|exact qac|exact qah _)
      · exact r3
      · rfl
      intro g4 kb4 r4
      refine ⟨Undis.off rfl, ?_⟩
      have hm4 : MetAt g4 h.next id ((l.take i).foldl qdj []) := by
        obtain ⟨q0, nv, q1, q2, q3, q4⟩ := hm
        have := q1.lt w2
        exact ⟨q0, nv, (q1.keep k3).keepBut kb4 (by omega), (q2.keep k3).keepBut kb4 (fun k hk e => by have := q2.lt w2 k hk; omega), q3, q4⟩
      have kp4 : KeepBut (h.next ≤ ·) h g4 := (kp.trans (k3.but _)).trans (kb4.weaken fun k hk => by subst hk; have := kp.next; omega)
      change Row g4 j 0 _ (ptnC p) true at r4
      (repeat (first|refine KW.go ?_|((first|apply qaw|apply qaz|apply qa1|apply qa4|apply qay|apply qax|apply qar|apply qal|apply qaj|apply qap)<;>first|(apply qam;(repeat' first|assumption|exact qaa rfl|apply qaf rfl|apply qab);done)|exact qao _ _|exact qai _|exact qan _|exact qad|exact qag|exact qae|exact qac|exact qah _|exact qau _ (by omega)|exact qat (by omega)|exact qas (by omega)|exact rfl|assumption|apply qav)|((first|apply qa3|apply qaq|apply qak)<;>first|(apply qam;(repeat' first|assumption|exact qaa rfl|apply qaf rfl|apply qab);done)|exact qao _ _|exact qai _|exact qan _|exact qad|exact qag|exact qae|exact qac|exact qah _|exact qau _ (by omega)|exact qat (by omega)|exact qas (by omega)|exact rfl|assumption|apply qav)|(apply qa2 rfl rfl;(focus (repeat' first|assumption|exact qaa rfl|apply qaf rfl|apply qab);done))|(apply qbj rfl rfl;(focus (repeat' first|assumption|exact qaa rfl|apply qaf rfl|apply qab);done);exact rfl)))
      apply qbk (n := 5)
      · (focus first|(apply qam;(repeat' first|assumption|exact qaa rfl|apply qaf rfl|apply qab);done)|exact qao _ _|exact qai _|exact qan _|exact qad|exact qag|exact qae|exact qac|exact qah _)
      · exact r4
      · rfl
      · exact rfl
      (repeat (first|refine KW.go ?_|((first|apply qaw|apply qaz|apply qa1|apply qa4|apply qay|apply qax|apply qar|apply qal|apply qaj|apply qap)<;>first|(apply qam;(repeat' first|assumption|exact qaa rfl|apply qaf rfl|apply qab);done)|exact qao _ _|exact qai _|exact qan _|exact qad|exact qag|exact qae|exact qac|exact qah _|exact qau _ (by omega)|exact qat (by omega)|exact qas (by omega)|exact rfl|assumption|apply qav)|((first|apply qa3|apply qaq|apply qak)<;>first|(apply qam;(repeat' first|assumption|exact qaa rfl|apply qaf rfl|apply qab);done)|exact qao _ _|exact qai _|exact qan _|exact qad|exact qag|exact qae|exact qac|exact qah _|exact qau _ (by omega)|exact qat (by omega)|exact qas (by omega)|exact rfl|assumption|apply qav)|(apply qa2 rfl rfl;(focus (repeat' first|assumption|exact qaa rfl|apply qaf rfl|apply qab);done))|(apply qbj rfl rfl;(focus (repeat' first|assumption|exact qaa rfl|apply qaf rfl|apply qab);done);exact rfl)))
      apply qbk (n := 5)
      · (focus first|(apply qam;(repeat' first|assumption|exact qaa rfl|apply qaf rfl|apply qab);done)|exact qao _ _|exact qai _|exact qan _|exact qad|exact qag|exact qae|exact qac|exact qah _)
      · exact r4
      · rfl
      · exact rfl
      (repeat (first|refine KW.go ?_|((first|apply qaw|apply qaz|apply qa1|apply qa4|apply qay|apply qax|apply qar|apply qal|apply qaj|apply qap)<;>first|(apply qam;(repeat' first|assumption|exact qaa rfl|apply qaf rfl|apply qab);done)|exact qao _ _|exact qai _|exact qan _|exact qad|exact qag|exact qae|exact qac|exact qah _|exact qau _ (by omega)|exact qat (by omega)|exact qas (by omega)|exact rfl|assumption|apply qav)|((first|apply qa3|apply qaq|apply qak)<;>first|(apply qam;(repeat' first|assumption|exact qaa rfl|apply qaf rfl|apply qab);done)|exact qao _ _|exact qai _|exact qan _|exact qad|exact qag|exact qae|exact qac|exact qah _|exact qau _ (by omega)|exact qat (by omega)|exact qas (by omega)|exact rfl|assumption|apply qav)|(apply qa2 rfl rfl;(focus (repeat' first|assumption|exact qaa rfl|apply qaf rfl|apply qab);done))|(apply qbj rfl rfl;(focus (repeat' first|assumption|exact qaa rfl|apply qaf rfl|apply qab);done);exact rfl)))
      apply qbk (n := 5)
      · (focus first|(apply qam;(repeat' first|assumption|exact qaa rfl|apply qaf rfl|apply qab);done)|exact qao _ _|exact qai _|exact qan _|exact qad|exact qag|exact qae|exact qac|exact qah _)
      · exact r4
      · rfl
      · exact rfl
      (repeat (first|refine KW.go ?_|((first|apply qaw|apply qaz|apply qa1|apply qa4|apply qay|apply qax|apply qar|apply qal|apply qaj|apply qap)<;>first|(apply qam;(repeat' first|assumption|exact qaa rfl|apply qaf rfl|apply qab);done)|exact qao _ _|exact qai _|exact qan _|exact qad|exact qag|exact qae|exact qac|exact qah _|exact qau _ (by omega)|exact qat (by omega)|exact qas (by omega)|exact rfl|assumption|apply qav)|((first|apply qa3|apply qaq|apply qak)<;>first|(apply qam;(repeat' first|assumption|exact qaa rfl|apply qaf rfl|apply qab);done)|exact qao _ _|exact qai _|exact qan _|exact qad|exact qag|exact qae|exact qac|exact qah _|exact qau _ (by omega)|exact qat (by omega)|exact qas (by omega)|exact rfl|assumption|apply qav)|(apply qa2 rfl rfl;(focus (repeat' first|assumption|exact qaa rfl|apply qaf rfl|apply qab);done))|(apply qbj rfl rfl;(focus (repeat' first|assumption|exact qaa rfl|apply qaf rfl|apply qab);done);exact rfl)))
      apply qcb
      · exact qbs (by (focus first|(apply qam;(repeat' first|assumption|exact qaa rfl|apply qaf rfl|apply qab);done)|exact qao _ _|exact qai _|exact qan _|exact qad|exact qag|exact qae|exact qac|exact qah _)) (qbs (by (focus first|(apply qam;(repeat' first|assumption|exact qaa rfl|apply qaf rfl|apply qab);done)|exact qao _ _|exact qai _|exact qan _|exact qad|exact qag|exact qae|exact qac|exact qah _)) (qbs (by (focus first|(apply qam;(repeat' first|assumption|exact qaa rfl|apply qaf rfl|apply qab);done)|exact qao _ _|exact qai _|exact qan _|exact qad|exact qag|exact qae|exact qac|exact qah _)) qcc))
      · rfl
      · rfl
      · exact hp _ _
      intro _
      (apply qb5; (focus first|(apply qam;(repeat' first|assumption|exact qaa rfl|apply qaf rfl|apply qab);done)|exact qao _ _|exact qai _|exact qan _|exact qad|exact qag|exact qae|exact qac|exact qah _); (repeat (apply qbb; (focus first|(apply qam;(repeat' first|assumption|exact qaa rfl|apply qaf rfl|apply qab);done)|exact qao _ _|exact qai _|exact qan _|exact qad|exact qag|exact qae|exact qac|exact qah _))); exact qbi)
      refine (slots_spec hp hs0 hs1 hs2 (by omega) hm4 p.s p.p p.o (by have := kp4.next; omega) (by omega)).mono ?_
      rintro _ g5 ⟨kb5, hm5⟩
      refine ⟨Undis.off rfl, ?_⟩
      (repeat (first|refine KW.go ?_|((first|apply qaw|apply qaz|apply qa1|apply qa4|apply qay|apply qax|apply qar|apply qal|apply qaj|apply qap)<;>first|(apply qam;(repeat' first|assumption|exact qaa rfl|apply qaf rfl|apply qab);done)|exact qao _ _|exact qai _|exact qan _|exact qad|exact qag|exact qae|exact qac|exact qah _|exact qau _ (by omega)|exact qat (by omega)|exact qas (by omega)|exact rfl|assumption|apply qav)|((first|apply qa3|apply qaq|apply qak)<;>first|(apply qam;(repeat' first|assumption|exact qaa rfl|apply qaf rfl|apply qab);done)|exact qao _ _|exact qai _|exact qan _|exact qad|exact qag|exact qae|exact qac|exact qah _|exact qau _ (by omega)|exact qat (by omega)|exact qas (by omega)|exact rfl|assumption|apply qav)|(apply qa2 rfl rfl;(focus (repeat' first|assumption|exact qaa rfl|apply qaf rfl|apply qab);done))|(apply qbj rfl rfl;(focus (repeat' first|assumption|exact qaa rfl|apply qaf rfl|apply qab);done);exact rfl)))
      apply qdg (l.length - (i + 1)) (by omega)
      refine ⟨i + 1, rfl, by omega, by (repeat' first|assumption|exact qaa rfl|apply qaf rfl|apply qab), by (repeat' first|assumption|exact qaa rfl|apply qaf rfl|apply qab), by (repeat' first|assumption|exact qaa rfl|apply qaf rfl|apply qab), by (repeat' first|assumption|exact qaa rfl|apply qaf rfl|apply qab), kp4.trans kb5, ?_⟩
      rw [hstep]
      exact hm5
    · intro c
      have : i = l.length := by
        have : ¬ i < l.length := by simpa using c
        omega
      subst this
      rw [List.take_length] at hm
      obtain ⟨q0, nv, q1, q2, q3, q4⟩ := hm
      (repeat (first|refine KW.go ?_|((first|apply qaw|apply qaz|apply qa1|apply qa4|apply qay|apply qax|apply qar|apply qal|apply qaj|apply qap)<;>first|(apply qam;(repeat' first|assumption|exact qaa rfl|apply qaf rfl|apply qab);done)|exact qao _ _|exact qai _|exact qan _|exact qad|exact qag|exact qae|exact qac|exact qah _|exact qau _ (by omega)|exact qat (by omega)|exact qas (by omega)|exact rfl|assumption|apply qav)|((first|apply qa3|apply qaq|apply qak)<;>first|(apply qam;(repeat' first|assumption|exact qaa rfl|apply qaf rfl|apply qab);done)|exact qao _ _|exact qai _|exact qan _|exact qad|exact qag|exact qae|exact qac|exact qah _|exact qau _ (by omega)|exact qat (by omega)|exact qas (by omega)|exact rfl|assumption|apply qav)|(apply qa2 rfl rfl;(focus (repeat' first|assumption|exact qaa rfl|apply qaf rfl|apply qab);done))|(apply qbj rfl rfl;(focus (repeat' first|assumption|exact qaa rfl|apply qaf rfl|apply qab);done);exact rfl)))
      (apply qbl rfl; (repeat' first|assumption|exact qaa rfl|apply qaf rfl|apply qab))
      exact ⟨kp.toKeep w, q2, q3, fun k hk => (q4 k hk).1⟩
end Go.Am
namespace Go.Am
open Go Go.Proofs AM
set_option maxRecDepth 10000
variable {pol : Pol} {sums : Sums}
attribute [local irreducible] KSeq KMid KBlock KLoop KOps KFunc Runs qb9 qbn qdl aop qbt qbq qbv qbv? qbd qbw qa9

/-- a map from names that are known to how often they were learnt -/
def Counts (c : Nat) (es : List (AV × AV)) (l : List Str) : Prop := es.map (·.1) = strs l ∧ ∀ e ∈ es, ∃ z : Nat, e.2 = .int .i64 (z : Int) ∧ 0 < z ∧ z ≤ c
def KnownAt (h : Hp) (mid c : Nat) (l : List Str) : Prop := ∃ es, MapAt h mid es ∧ Counts c es l
theorem KnownAt.keep {h h1 : Hp} {mid c : Nat} {l : List Str} (m : KnownAt h mid c l) (k : Keep h h1) : KnownAt h1 mid c l := by
  obtain ⟨es, m, r⟩ := m; exact ⟨es, m.keep k, r⟩
theorem KnownAt.keepBut {X : Nat → Prop} {h h1 : Hp} {mid c : Nat} {l : List Str} (m : KnownAt h mid c l) (k : KeepBut X h h1) (hx : ¬ X mid) : KnownAt h1 mid c l := by
  obtain ⟨es, m, r⟩ := m; exact ⟨es, m.keepBut k hx, r⟩
theorem KnownAt.lt {h : Hp} {mid c : Nat} {l : List Str} (m : KnownAt h mid c l) (w : h.WF) : mid < h.next := by
  obtain ⟨es, m, _⟩ := m; exact m.lt w
theorem Counts.find {c : Nat} (s : Str) : ∀ {es : List (AV × AV)} {l : List Str}, Counts c es l → (s ∈ l → ∃ z : Nat, afind (.str s) es = some (some (.int .i64 (z : Int))) ∧ 0 < z ∧ z ≤ c) ∧ (s ∉ l → afind (.str s) es = some none)
  | [], [], _ => ⟨fun h => (by cases h), fun _ => rfl⟩
  | [], _ :: _, h => by cases h.1
  | _ :: _, [], h => by cases h.1
  | (k, v) :: es, x :: l, h => by
    obtain ⟨h1, h2⟩ := h
    simp only [List.map_cons, strs, List.cons.injEq] at h1
    obtain ⟨rfl, h1⟩ := h1
    have ih := Counts.find s (es := es) (l := l) ⟨h1, fun e he => h2 e (List.mem_cons_of_mem _ he)⟩
    obtain ⟨z, hz, h3⟩ := h2 _ List.mem_cons_self
    simp only at hz
    simp only [afind, keyEq]
    by_cases e : s = x
    · subst e
      simp [hz]
      exact ⟨z, rfl, h3⟩
    · have e' : (s == x) = false := by simpa using e
      rw [e']
      simp only [List.mem_cons, e, false_or]
      exact ih
theorem Counts.upd {c : Nat} (s : Str) (z : Nat) (hz : 0 < z ∧ z ≤ c + 1) : ∀ {es : List (AV × AV)} {l : List Str}, Counts c es l → Counts (c + 1) (aupd (.str s) (.int .i64 (z : Int)) es) (qdb l s)
  | [], [], _ => by
    refine ⟨by simp [aupd, qdb, strs], fun e he => ?_⟩
    simp [aupd] at he
    subst he
    exact ⟨z, rfl, hz⟩
  | [], _ :: _, h => by cases h.1
  | _ :: _, [], h => by cases h.1
  | (k, v) :: es, x :: l, h => by
    obtain ⟨h1, h2⟩ := h
    simp only [List.map_cons, strs, List.cons.injEq] at h1
    obtain ⟨rfl, h1⟩ := h1
    have ih := Counts.upd s z hz (es := es) (l := l) ⟨h1, fun e he => h2 e (List.mem_cons_of_mem _ he)⟩
    have hold : ∀ e ∈ (AV.str x, v) :: es, ∃ z : Nat, e.2 = .int .i64 (z : Int) ∧ 0 < z ∧ z ≤ c + 1 := fun e he => by
      obtain ⟨z, a, b, d⟩ := h2 e he; exact ⟨z, a, b, by omega⟩
    by_cases e : s = x
    · subst e
      refine ⟨?_, fun e he => ?_⟩
      · simp [aupd, keyEq, qdb, strs] at h1 ⊢
        exact h1
      · simp [aupd, keyEq] at he
        rcases he with rfl | he
        · exact ⟨z, rfl, hz⟩
        · exact hold e (List.mem_cons_of_mem _ he)
    · have e' : (s == x) = false := by simpa using e
      have ea : aupd (.str s) (.int .i64 (z : Int)) ((AV.str x, v) :: es) = (AV.str x, v) :: aupd (.str s) (.int .i64 (z : Int)) es := by
        simp [aupd, keyEq, e]
      have em : qdb (x :: l) s = x :: qdb l s := by
        unfold qdb
        by_cases q : s ∈ l <;> simp [q, e]
      rw [ea, em]
      refine ⟨?_, fun e he => ?_⟩
      · have := ih.1
        simp only [List.map_cons, strs, List.cons.injEq, true_and] at this ⊢
        exact this
      · rcases List.mem_cons.1 he with rfl | he
        · exact hold _ List.mem_cons_self
        · exact ih.2 e he

def qb4 (l : List Str) (p : Ptn) : List Str := (qcz [p]).filter (· ∈ l)
def fresh (l : List Str) (p : Ptn) : List Str := (qcz [p]).filter (· ∉ l)

theorem parts_spec (hp : ∀ f d, pol.lit f d = false) (hs : sums 48 = none) (hs' : sums 27 = none) (hs0 : sums 55 = none) (hs1 : sums 71 = none) (hs2 : sums 67 = some qb6) {n : Nat} (hn : 10 ≤ n) {h : Hp} {mid c : Nat} {l : List Str} (m : KnownAt h mid c l) (p : Ptn) :
    Runs (qbt Try.prog pol sums n (.func (.func 48) [] []) [.agg [.mapv mid], .agg (ptnC p)]) h (fun r h' => Keep h h' ∧ ∃ a b, r = .tuple [a, b] ∧ Strs h' a (qb4 l p) ∧ Strs h' b (fresh l p)) := by
  apply Runs.wf
  intro w
  obtain ⟨n, rfl⟩ : ∃ m, n = m + 1 := ⟨n - 1, by omega⟩
  refine qcq (by assumption) Try.func48 rfl (by simp [Try.f48]) ?_
  have a0 : qbq (qa9 Try.f48.ntmps (([] ++ [.agg [.mapv mid], .agg (ptnC p)] ++ []) : List AV)) 0 = .agg [.mapv mid] := qa8 rfl
  have a1 : qbq (qa9 Try.f48.ntmps (([] ++ [.agg [.mapv mid], .agg (ptnC p)] ++ []) : List AV)) 1 = .agg (ptnC p) := qa8 rfl
  generalize qa9 Try.f48.ntmps (([] ++ [.agg [.mapv mid], .agg (ptnC p)] ++ []) : List AV) = T at *
  show Runs (qbn _ _ _ _ 32 _ _ _) _ _
  (repeat (first|refine KW.go ?_|((first|apply qaw|apply qaz|apply qa1|apply qa4|apply qay|apply qax|apply qar|apply qal|apply qaj|apply qap)<;>first|(apply qam;(repeat' first|assumption|exact qaa rfl|apply qaf rfl|apply qab);done)|exact qao _ _|exact qai _|exact qan _|exact qad|exact qag|exact qae|exact qac|exact qah _|exact qau _ (by omega)|exact qat (by omega)|exact qas (by omega)|exact rfl|assumption|apply qav)|((first|apply qa3|apply qaq|apply qak)<;>first|(apply qam;(repeat' first|assumption|exact qaa rfl|apply qaf rfl|apply qab);done)|exact qao _ _|exact qai _|exact qan _|exact qad|exact qag|exact qae|exact qac|exact qah _|exact qau _ (by omega)|exact qat (by omega)|exact qas (by omega)|exact rfl|assumption|apply qav)|(apply qa2 rfl rfl;(focus (repeat' first|assumption|exact qaa rfl|apply qaf rfl|apply qab);done))|(apply qbj rfl rfl;(focus (repeat' first|assumption|exact qaa rfl|apply qaf rfl|apply qab);done);exact rfl)))
  apply O_box
  · (focus first|(apply qam;(repeat' first|assumption|exact qaa rfl|apply qaf rfl|apply qab);done)|exact qao _ _|exact qai _|exact qan _|exact qad|exact qag|exact qae|exact qac|exact qah _)
  · rfl
  intro g1 i1 k1 r1 l1 l2
  change Row g1 i1 0 _ [.mapv mid] true at r1
  apply O_box
  · (focus first|(apply qam;(repeat' first|assumption|exact qaa rfl|apply qaf rfl|apply qab);done)|exact qao _ _|exact qai _|exact qan _|exact qad|exact qag|exact qae|exact qac|exact qah _)
  · rfl
  intro g2 i2 k2 r2 l3 l4
  change Row g2 i2 0 _ (ptnC p) true at r2
  replace r1 := r1.keep k2
  (repeat (first|refine KW.go ?_|((first|apply qaw|apply qaz|apply qa1|apply qa4|apply qay|apply qax|apply qar|apply qal|apply qaj|apply qap)<;>first|(apply qam;(repeat' first|assumption|exact qaa rfl|apply qaf rfl|apply qab);done)|exact qao _ _|exact qai _|exact qan _|exact qad|exact qag|exact qae|exact qac|exact qah _|exact qau _ (by omega)|exact qat (by omega)|exact qas (by omega)|exact rfl|assumption|apply qav)|((first|apply qa3|apply qaq|apply qak)<;>first|(apply qam;(repeat' first|assumption|exact qaa rfl|apply qaf rfl|apply qab);done)|exact qao _ _|exact qai _|exact qan _|exact qad|exact qag|exact qae|exact qac|exact qah _|exact qau _ (by omega)|exact qat (by omega)|exact qas (by omega)|exact rfl|assumption|apply qav)|(apply qa2 rfl rfl;(focus (repeat' first|assumption|exact qaa rfl|apply qaf rfl|apply qab);done))|(apply qbj rfl rfl;(focus (repeat' first|assumption|exact qaa rfl|apply qaf rfl|apply qab);done);exact rfl)))
  apply qbk (n := 15)
  · (focus first|(apply qam;(repeat' first|assumption|exact qaa rfl|apply qaf rfl|apply qab);done)|exact qao _ _|exact qai _|exact qan _|exact qad|exact qag|exact qae|exact qac|exact qah _)
  · exact r2
  · rfl
  · exact rfl
  apply qcb
  · exact qbs (by (focus first|(apply qam;(repeat' first|assumption|exact qaa rfl|apply qaf rfl|apply qab);done)|exact qao _ _|exact qai _|exact qan _|exact qad|exact qag|exact qae|exact qac|exact qah _)) qcc
  · rfl
  · rfl
  · exact hp _ _
  intro _
  (apply qb5; (focus first|(apply qam;(repeat' first|assumption|exact qaa rfl|apply qaf rfl|apply qab);done)|exact qao _ _|exact qai _|exact qan _|exact qad|exact qag|exact qae|exact qac|exact qah _); (repeat (apply qbb; (focus first|(apply qam;(repeat' first|assumption|exact qaa rfl|apply qaf rfl|apply qab);done)|exact qao _ _|exact qai _|exact qan _|exact qad|exact qag|exact qae|exact qac|exact qah _))); exact qbi)
  refine (vars_spec hp hs' hs0 hs1 hs2 (l := [p]) (by simp; omega) (SlV.imm _ _ _ rfl) (by simp)).mono ?_
  rintro nv g3 ⟨k3, s3, -, hv3⟩
  refine ⟨Undis.off rfl, ?_⟩
  replace r1 := r1.keep k3
  have m3 := m.keep ((k1.trans k2).trans k3)
  have hvl : (qcz [p]).length ≤ 3 := qct [p]
  apply O_wf
  intro w3
  (repeat (first|refine KW.go ?_|((first|apply qaw|apply qaz|apply qa1|apply qa4|apply qay|apply qax|apply qar|apply qal|apply qaj|apply qap)<;>first|(apply qam;(repeat' first|assumption|exact qaa rfl|apply qaf rfl|apply qab);done)|exact qao _ _|exact qai _|exact qan _|exact qad|exact qag|exact qae|exact qac|exact qah _|exact qau _ (by omega)|exact qat (by omega)|exact qas (by omega)|exact rfl|assumption|apply qav)|((first|apply qa3|apply qaq|apply qak)<;>first|(apply qam;(repeat' first|assumption|exact qaa rfl|apply qaf rfl|apply qab);done)|exact qao _ _|exact qai _|exact qan _|exact qad|exact qag|exact qae|exact qac|exact qah _|exact qau _ (by omega)|exact qat (by omega)|exact qas (by omega)|exact rfl|assumption|apply qav)|(apply qa2 rfl rfl;(focus (repeat' first|assumption|exact qaa rfl|apply qaf rfl|apply qab);done))|(apply qbj rfl rfl;(focus (repeat' first|assumption|exact qaa rfl|apply qaf rfl|apply qab);done);exact rfl)))
  apply R_loop (k := (qcz [p]).length) (I := fun k T g => ∃ i sv fv, k = (qcz [p]).length - i ∧ i ≤ (qcz [p]).length ∧ qbq T 2 = .ptr i1 0 0 ∧ qbq T 10 = nv ∧ qbq T 11 = .int .i64 ((qcz [p]).length : Nat) ∧ qbq T 12 = .int .i64 (i : Nat) ∧ qbq T 4 = sv ∧ qbq T 5 = fv ∧
    KeepBut (g3.next ≤ ·) g3 g ∧ Strs g sv (((qcz [p]).take i).filter (· ∈ l)) ∧ Strs g fv (((qcz [p]).take i).filter (· ∉ l)) ∧ qdh sv = true ∧ qdh fv = true ∧ (∀ k ∈ qb1 sv, g3.next ≤ k ∧ k ∉ qb1 fv) ∧ (∀ k ∈ qb1 fv, g3.next ≤ k))
  · omega
  · refine ⟨0, _, _, by omega, by omega, by (repeat' first|assumption|exact qaa rfl|apply qaf rfl|apply qab), by (repeat' first|assumption|exact qaa rfl|apply qaf rfl|apply qab), by (repeat' first|assumption|exact qaa rfl|apply qaf rfl|apply qab), by (repeat' first|assumption|exact qaa rfl|apply qaf rfl|apply qab), by (repeat' first|assumption|exact qaa rfl|apply qaf rfl|apply qab), by (repeat' first|assumption|exact qaa rfl|apply qaf rfl|apply qab), KeepBut.refl _, SlV.nil, SlV.nil, rfl, rfl, by simp [qb1], by simp [qb1]⟩
  · rintro k T g4 ⟨i, sv, fv, rfl, hi, t2, t10, t11, t12, t4, t5, kp, ss, sf, gs, gf, ds, df⟩
    (repeat (first|refine KW.go ?_|((first|apply qaw|apply qaz|apply qa1|apply qa4|apply qay|apply qax|apply qar|apply qal|apply qaj|apply qap)<;>first|(apply qam;(repeat' first|assumption|exact qaa rfl|apply qaf rfl|apply qab);done)|exact qao _ _|exact qai _|exact qan _|exact qad|exact qag|exact qae|exact qac|exact qah _|exact qau _ (by omega)|exact qat (by omega)|exact qas (by omega)|exact rfl|assumption|apply qav)|((first|apply qa3|apply qaq|apply qak)<;>first|(apply qam;(repeat' first|assumption|exact qaa rfl|apply qaf rfl|apply qab);done)|exact qao _ _|exact qai _|exact qan _|exact qad|exact qag|exact qae|exact qac|exact qah _|exact qau _ (by omega)|exact qat (by omega)|exact qas (by omega)|exact rfl|assumption|apply qav)|(apply qa2 rfl rfl;(focus (repeat' first|assumption|exact qaa rfl|apply qaf rfl|apply qab);done))|(apply qbj rfl rfl;(focus (repeat' first|assumption|exact qaa rfl|apply qaf rfl|apply qab);done);exact rfl)))
    apply qbx (decide ((i : Int) < ((qcz [p]).length : Int)))
    · (focus first|(apply qam;(repeat' first|assumption|exact qaa rfl|apply qaf rfl|apply qab);done)|exact qao _ _|exact qai _|exact qan _|exact qad|exact qag|exact qae|exact qac|exact qah _)
    · intro c
      have hlt : i < (qcz [p]).length := by simpa using c
      have r4 : Row g4 i1 0 _ [.mapv mid] true := r1.keepBut kp (by have := r1.lt w3; omega)
      have m4 := m3.keepBut kp (by have := m3.lt w3; omega)
      (repeat (first|refine KW.go ?_|((first|apply qaw|apply qaz|apply qa1|apply qa4|apply qay|apply qax|apply qar|apply qal|apply qaj|apply qap)<;>first|(apply qam;(repeat' first|assumption|exact qaa rfl|apply qaf rfl|apply qab);done)|exact qao _ _|exact qai _|exact qan _|exact qad|exact qag|exact qae|exact qac|exact qah _|exact qau _ (by omega)|exact qat (by omega)|exact qas (by omega)|exact rfl|assumption|apply qav)|((first|apply qa3|apply qaq|apply qak)<;>first|(apply qam;(repeat' first|assumption|exact qaa rfl|apply qaf rfl|apply qab);done)|exact qao _ _|exact qai _|exact qan _|exact qad|exact qag|exact qae|exact qac|exact qah _|exact qau _ (by omega)|exact qat (by omega)|exact qas (by omega)|exact rfl|assumption|apply qav)|(apply qa2 rfl rfl;(focus (repeat' first|assumption|exact qaa rfl|apply qaf rfl|apply qab);done))|(apply qbj rfl rfl;(focus (repeat' first|assumption|exact qaa rfl|apply qaf rfl|apply qab);done);exact rfl)))
      apply qbp
      · (focus first|(apply qam;(repeat' first|assumption|exact qaa rfl|apply qaf rfl|apply qab);done)|exact qao _ _|exact qai _|exact qan _|exact qad|exact qag|exact qae|exact qac|exact qah _)
      · exact s3.old w3 kp
      · (focus first|(apply qam;(repeat' first|assumption|exact qaa rfl|apply qaf rfl|apply qab);done)|exact qao _ _|exact qai _|exact qan _|exact qad|exact qag|exact qae|exact qac|exact qah _)
      · omega
      · rfl
      intro a ha _
      rw [strs_at hlt] at ha
      apply qce
      · (focus first|(apply qam;(repeat' first|assumption|exact qaa rfl|apply qaf rfl|apply qab);done)|exact qao _ _|exact qai _|exact qan _|exact qad|exact qag|exact qae|exact qac|exact qah _)
      · exact ha
      have hst : (qcz [p]).take (i + 1) = (qcz [p]).take i ++ [(qcz [p])[i]] := List.take_succ_eq_append_getElem hlt
      have hl1 : (((qcz [p]).take i).filter (· ∈ l)).length ≤ 3 := Nat.le_trans (List.length_filter_le _ _) (by simp; omega)
      have hl2 : (((qcz [p]).take i).filter (· ∉ l)).length ≤ 3 := Nat.le_trans (List.length_filter_le _ _) (by simp; omega)
      generalize (qcz [p])[i] = s at ha hst
      (repeat (first|refine KW.go ?_|((first|apply qaw|apply qaz|apply qa1|apply qa4|apply qay|apply qax|apply qar|apply qal|apply qaj|apply qap)<;>first|(apply qam;(repeat' first|assumption|exact qaa rfl|apply qaf rfl|apply qab);done)|exact qao _ _|exact qai _|exact qan _|exact qad|exact qag|exact qae|exact qac|exact qah _|exact qau _ (by omega)|exact qat (by omega)|exact qas (by omega)|exact rfl|assumption|apply qav)|((first|apply qa3|apply qaq|apply qak)<;>first|(apply qam;(repeat' first|assumption|exact qaa rfl|apply qaf rfl|apply qab);done)|exact qao _ _|exact qai _|exact qan _|exact qad|exact qag|exact qae|exact qac|exact qah _|exact qau _ (by omega)|exact qat (by omega)|exact qas (by omega)|exact rfl|assumption|apply qav)|(apply qa2 rfl rfl;(focus (repeat' first|assumption|exact qaa rfl|apply qaf rfl|apply qab);done))|(apply qbj rfl rfl;(focus (repeat' first|assumption|exact qaa rfl|apply qaf rfl|apply qab);done);exact rfl)))
      obtain ⟨es, me, hc⟩ := m4
      have fnd := hc.find s
      by_cases hsl : s ∈ l
      · obtain ⟨z, hz, hz1, hz2⟩ := fnd.1 hsl
        apply O_lookup
        · (focus first|(apply qam;(repeat' first|assumption|exact qaa rfl|apply qaf rfl|apply qab);done)|exact qao _ _|exact qai _|exact qan _|exact qad|exact qag|exact qae|exact qac|exact qah _)
        · (focus first|(apply qam;(repeat' first|assumption|exact qaa rfl|apply qaf rfl|apply qab);done)|exact qao _ _|exact qai _|exact qan _|exact qad|exact qag|exact qae|exact qac|exact qah _)
        · exact me
        · exact hz
        (repeat (first|refine KW.go ?_|((first|apply qaw|apply qaz|apply qa1|apply qa4|apply qay|apply qax|apply qar|apply qal|apply qaj|apply qap)<;>first|(apply qam;(repeat' first|assumption|exact qaa rfl|apply qaf rfl|apply qab);done)|exact qao _ _|exact qai _|exact qan _|exact qad|exact qag|exact qae|exact qac|exact qah _|exact qau _ (by omega)|exact qat (by omega)|exact qas (by omega)|exact rfl|assumption|apply qav)|((first|apply qa3|apply qaq|apply qak)<;>first|(apply qam;(repeat' first|assumption|exact qaa rfl|apply qaf rfl|apply qab);done)|exact qao _ _|exact qai _|exact qan _|exact qad|exact qag|exact qae|exact qac|exact qah _|exact qau _ (by omega)|exact qat (by omega)|exact qas (by omega)|exact rfl|assumption|apply qav)|(apply qa2 rfl rfl;(focus (repeat' first|assumption|exact qaa rfl|apply qaf rfl|apply qab);done))|(apply qbj rfl rfl;(focus (repeat' first|assumption|exact qaa rfl|apply qaf rfl|apply qab);done);exact rfl)))
        apply qbx (decide ((z : Int) > 0))
        · (focus first|(apply qam;(repeat' first|assumption|exact qaa rfl|apply qaf rfl|apply qab);done)|exact qao _ _|exact qai _|exact qan _|exact qad|exact qag|exact qae|exact qac|exact qah _)
        · intro _
          (repeat (first|refine KW.go ?_|((first|apply qaw|apply qaz|apply qa1|apply qa4|apply qay|apply qax|apply qar|apply qal|apply qaj|apply qap)<;>first|(apply qam;(repeat' first|assumption|exact qaa rfl|apply qaf rfl|apply qab);done)|exact qao _ _|exact qai _|exact qan _|exact qad|exact qag|exact qae|exact qac|exact qah _|exact qau _ (by omega)|exact qat (by omega)|exact qas (by omega)|exact rfl|assumption|apply qav)|((first|apply qa3|apply qaq|apply qak)<;>first|(apply qam;(repeat' first|assumption|exact qaa rfl|apply qaf rfl|apply qab);done)|exact qao _ _|exact qai _|exact qan _|exact qad|exact qag|exact qae|exact qac|exact qah _|exact qau _ (by omega)|exact qat (by omega)|exact qas (by omega)|exact rfl|assumption|apply qav)|(apply qa2 rfl rfl;(focus (repeat' first|assumption|exact qaa rfl|apply qaf rfl|apply qab);done))|(apply qbj rfl rfl;(focus (repeat' first|assumption|exact qaa rfl|apply qaf rfl|apply qab);done);exact rfl)))
          apply qcb
          · exact qbs (by (focus first|(apply qam;(repeat' first|assumption|exact qaa rfl|apply qaf rfl|apply qab);done)|exact qao _ _|exact qai _|exact qan _|exact qad|exact qag|exact qae|exact qac|exact qah _)) qcc
          · rfl
          · rfl
          · exact hp _ _
          intro _
          apply O_wf
          intro w4
          apply O_append (new := [.str s]) (m := 1) (bytes := 16)
          · exact qbb (by (focus first|(apply qam;(repeat' first|assumption|exact qaa rfl|apply qaf rfl|apply qab);done)|exact qao _ _|exact qai _|exact qan _|exact qad|exact qag|exact qae|exact qac|exact qah _)) (qbb (by (focus first|(apply qam;(repeat' first|assumption|exact qaa rfl|apply qaf rfl|apply qab);done)|exact qao _ _|exact qai _|exact qan _|exact qad|exact qag|exact qae|exact qac|exact qah _)) qbi)
          · exact ss
          · exact gs
          · exact SlV.imm _ _ _ rfl
          · rfl
          · rfl
          · simp only [room]; omega
          intro sv' g5 kb s5 gr5 k5 _
          refine ⟨Undis.off rfl, ?_⟩
          (repeat (first|refine KW.go ?_|((first|apply qaw|apply qaz|apply qa1|apply qa4|apply qay|apply qax|apply qar|apply qal|apply qaj|apply qap)<;>first|(apply qam;(repeat' first|assumption|exact qaa rfl|apply qaf rfl|apply qab);done)|exact qao _ _|exact qai _|exact qan _|exact qad|exact qag|exact qae|exact qac|exact qah _|exact qau _ (by omega)|exact qat (by omega)|exact qas (by omega)|exact rfl|assumption|apply qav)|((first|apply qa3|apply qaq|apply qak)<;>first|(apply qam;(repeat' first|assumption|exact qaa rfl|apply qaf rfl|apply qab);done)|exact qao _ _|exact qai _|exact qan _|exact qad|exact qag|exact qae|exact qac|exact qah _|exact qau _ (by omega)|exact qat (by omega)|exact qas (by omega)|exact rfl|assumption|apply qav)|(apply qa2 rfl rfl;(focus (repeat' first|assumption|exact qaa rfl|apply qaf rfl|apply qab);done))|(apply qbj rfl rfl;(focus (repeat' first|assumption|exact qaa rfl|apply qaf rfl|apply qab);done);exact rfl)))
          apply qdg ((qcz [p]).length - (i + 1)) (by omega)
          refine ⟨i + 1, sv', fv, rfl, by omega, by (repeat' first|assumption|exact qaa rfl|apply qaf rfl|apply qab), by (repeat' first|assumption|exact qaa rfl|apply qaf rfl|apply qab), by (repeat' first|assumption|exact qaa rfl|apply qaf rfl|apply qab), by (repeat' first|assumption|exact qaa rfl|apply qaf rfl|apply qab), by (repeat' first|assumption|exact qaa rfl|apply qaf rfl|apply qab), by (repeat' first|assumption|exact qaa rfl|apply qaf rfl|apply qab), kp.trans (kb.weaken fun k hk => (ds k hk).1), ?_, ?_, gr5, gf, ?_, df⟩
          · rw [hst, List.filter_append]
            simpa [hsl, Strs, strs] using s5
          · rw [hst, List.filter_append]
            have := sf.keepBut kb fun k hk q => (ds k q).2 hk
            simpa [hsl, Strs, strs] using this
          · intro k hk
            rcases k5 k hk with q | q
            · exact ds k q
            · refine ⟨by have := kp.next; omega, fun q' => ?_⟩
              have := sf.lt w4 k q'
              omega
        · intro c; simp at c; omega
      · apply O_lookup
        · (focus first|(apply qam;(repeat' first|assumption|exact qaa rfl|apply qaf rfl|apply qab);done)|exact qao _ _|exact qai _|exact qan _|exact qad|exact qag|exact qae|exact qac|exact qah _)
        · (focus first|(apply qam;(repeat' first|assumption|exact qaa rfl|apply qaf rfl|apply qab);done)|exact qao _ _|exact qai _|exact qan _|exact qad|exact qag|exact qae|exact qac|exact qah _)
        · exact me
        · exact fnd.2 hsl
        (repeat (first|refine KW.go ?_|((first|apply qaw|apply qaz|apply qa1|apply qa4|apply qay|apply qax|apply qar|apply qal|apply qaj|apply qap)<;>first|(apply qam;(repeat' first|assumption|exact qaa rfl|apply qaf rfl|apply qab);done)|exact qao _ _|exact qai _|exact qan _|exact qad|exact qag|exact qae|exact qac|exact qah _|exact qau _ (by omega)|exact qat (by omega)|exact qas (by omega)|exact rfl|assumption|apply qav)|((first|apply qa3|apply qaq|apply qak)<;>first|(apply qam;(repeat' first|assumption|exact qaa rfl|apply qaf rfl|apply qab);done)|exact qao _ _|exact qai _|exact qan _|exact qad|exact qag|exact qae|exact qac|exact qah _|exact qau _ (by omega)|exact qat (by omega)|exact qas (by omega)|exact rfl|assumption|apply qav)|(apply qa2 rfl rfl;(focus (repeat' first|assumption|exact qaa rfl|apply qaf rfl|apply qab);done))|(apply qbj rfl rfl;(focus (repeat' first|assumption|exact qaa rfl|apply qaf rfl|apply qab);done);exact rfl)))
        apply qbx false
        · (focus first|(apply qam;(repeat' first|assumption|exact qaa rfl|apply qaf rfl|apply qab);done)|exact qao _ _|exact qai _|exact qan _|exact qad|exact qag|exact qae|exact qac|exact qah _)
        · intro c; cases c
        · intro _
          (repeat (first|refine KW.go ?_|((first|apply qaw|apply qaz|apply qa1|apply qa4|apply qay|apply qax|apply qar|apply qal|apply qaj|apply qap)<;>first|(apply qam;(repeat' first|assumption|exact qaa rfl|apply qaf rfl|apply qab);done)|exact qao _ _|exact qai _|exact qan _|exact qad|exact qag|exact qae|exact qac|exact qah _|exact qau _ (by omega)|exact qat (by omega)|exact qas (by omega)|exact rfl|assumption|apply qav)|((first|apply qa3|apply qaq|apply qak)<;>first|(apply qam;(repeat' first|assumption|exact qaa rfl|apply qaf rfl|apply qab);done)|exact qao _ _|exact qai _|exact qan _|exact qad|exact qag|exact qae|exact qac|exact qah _|exact qau _ (by omega)|exact qat (by omega)|exact qas (by omega)|exact rfl|assumption|apply qav)|(apply qa2 rfl rfl;(focus (repeat' first|assumption|exact qaa rfl|apply qaf rfl|apply qab);done))|(apply qbj rfl rfl;(focus (repeat' first|assumption|exact qaa rfl|apply qaf rfl|apply qab);done);exact rfl)))
          apply qcb
          · exact qbs (by (focus first|(apply qam;(repeat' first|assumption|exact qaa rfl|apply qaf rfl|apply qab);done)|exact qao _ _|exact qai _|exact qan _|exact qad|exact qag|exact qae|exact qac|exact qah _)) qcc
          · rfl
          · rfl
          · exact hp _ _
          intro _
          apply O_wf
          intro w4
          apply O_append (new := [.str s]) (m := 1) (bytes := 16)
          · exact qbb (by (focus first|(apply qam;(repeat' first|assumption|exact qaa rfl|apply qaf rfl|apply qab);done)|exact qao _ _|exact qai _|exact qan _|exact qad|exact qag|exact qae|exact qac|exact qah _)) (qbb (by (focus first|(apply qam;(repeat' first|assumption|exact qaa rfl|apply qaf rfl|apply qab);done)|exact qao _ _|exact qai _|exact qan _|exact qad|exact qag|exact qae|exact qac|exact qah _)) qbi)
          · exact sf
          · exact gf
          · exact SlV.imm _ _ _ rfl
          · rfl
          · rfl
          · simp only [room]; omega
          intro fv' g5 kb s5 gr5 k5 _
          refine ⟨Undis.off rfl, ?_⟩
          (repeat (first|refine KW.go ?_|((first|apply qaw|apply qaz|apply qa1|apply qa4|apply qay|apply qax|apply qar|apply qal|apply qaj|apply qap)<;>first|(apply qam;(repeat' first|assumption|exact qaa rfl|apply qaf rfl|apply qab);done)|exact qao _ _|exact qai _|exact qan _|exact qad|exact qag|exact qae|exact qac|exact qah _|exact qau _ (by omega)|exact qat (by omega)|exact qas (by omega)|exact rfl|assumption|apply qav)|((first|apply qa3|apply qaq|apply qak)<;>first|(apply qam;(repeat' first|assumption|exact qaa rfl|apply qaf rfl|apply qab);done)|exact qao _ _|exact qai _|exact qan _|exact qad|exact qag|exact qae|exact qac|exact qah _|exact qau _ (by omega)|exact qat (by omega)|exact qas (by omega)|exact rfl|assumption|apply qav)|(apply qa2 rfl rfl;(focus (repeat' first|assumption|exact qaa rfl|apply qaf rfl|apply qab);done))|(apply qbj rfl rfl;(focus (repeat' first|assumption|exact qaa rfl|apply qaf rfl|apply qab);done);exact rfl)))
          apply qdg ((qcz [p]).length - (i + 1)) (by omega)
          refine ⟨i + 1, sv, fv', rfl, by omega, by (repeat' first|assumption|exact qaa rfl|apply qaf rfl|apply qab), by (repeat' first|assumption|exact qaa rfl|apply qaf rfl|apply qab), by (repeat' first|assumption|exact qaa rfl|apply qaf rfl|apply qab), by (repeat' first|assumption|exact qaa rfl|apply qaf rfl|apply qab), by (repeat' first|assumption|exact qaa rfl|apply qaf rfl|apply qab), by (repeat' first|assumption|exact qaa rfl|apply qaf rfl|apply qab), kp.trans (kb.weaken fun k hk => df k hk), ?_, ?_, gs, gr5, ?_, ?_⟩
          · rw [hst, List.filter_append]
            have := ss.keepBut kb fun k hk q => (ds k hk).2 q
            simpa [hsl, Strs, strs] using this
          · rw [hst, List.filter_append]
            simpa [hsl, Strs, strs] using s5
          · intro k hk
            refine ⟨(ds k hk).1, fun q' => ?_⟩
            rcases k5 k q' with q | q
            · exact (ds k hk).2 q
            · have := ss.lt w4 k hk
              omega
          · intro k hk
            rcases k5 k hk with q | q
            · exact df k q
            · have := kp.next; omega
    · intro c
      have : i = (qcz [p]).length := by
        have : ¬ i < (qcz [p]).length := by simpa using c
        omega
      subst this
      rw [List.take_length] at ss sf
      (repeat (first|refine KW.go ?_|((first|apply qaw|apply qaz|apply qa1|apply qa4|apply qay|apply qax|apply qar|apply qal|apply qaj|apply qap)<;>first|(apply qam;(repeat' first|assumption|exact qaa rfl|apply qaf rfl|apply qab);done)|exact qao _ _|exact qai _|exact qan _|exact qad|exact qag|exact qae|exact qac|exact qah _|exact qau _ (by omega)|exact qat (by omega)|exact qas (by omega)|exact rfl|assumption|apply qav)|((first|apply qa3|apply qaq|apply qak)<;>first|(apply qam;(repeat' first|assumption|exact qaa rfl|apply qaf rfl|apply qab);done)|exact qao _ _|exact qai _|exact qan _|exact qad|exact qag|exact qae|exact qac|exact qah _|exact qau _ (by omega)|exact qat (by omega)|exact qas (by omega)|exact rfl|assumption|apply qav)|(apply qa2 rfl rfl;(focus (repeat' first|assumption|exact qaa rfl|apply qaf rfl|apply qab);done))|(apply qbj rfl rfl;(focus (repeat' first|assumption|exact qaa rfl|apply qaf rfl|apply qab);done);exact rfl)))
      apply R_results2 rfl
      · (repeat' first|assumption|exact qaa rfl|apply qaf rfl|apply qab)
      · (repeat' first|assumption|exact qaa rfl|apply qaf rfl|apply qab)
      exact ⟨((k1.trans k2).trans k3).trans (kp.toKeep w3), sv, fv, rfl, ss, sf⟩

theorem learn_spec (hs : sums 26 = none) {n : Nat} {h : Hp} {mid c : Nat} {l names : List Str} (hn : names.length + 2 ≤ n) (m : KnownAt h mid c l) {v : AV} (o : Strs h v names) (hv : mid ∉ qb1 v) (hc : c + names.length < 2 ^ 62) :
    Runs (qbt Try.prog pol sums n (.func (.func 26) [] []) [.agg [.mapv mid], v]) h (fun _ h' => KeepBut (fun i => i = mid ∨ h.next ≤ i) h h' ∧ KnownAt h' mid (c + names.length) (names.foldl qdb l)) := by
  apply Runs.wf
  intro w
  obtain ⟨n, rfl⟩ : ∃ m, n = m + 1 := ⟨n - 1, by omega⟩
  refine qcq (by assumption) Try.func26 rfl (by simp [Try.f26]) ?_
  have a0 : qbq (qa9 Try.f26.ntmps (([] ++ [.agg [.mapv mid], v] ++ []) : List AV)) 0 = .agg [.mapv mid] := qa8 rfl
  have a1 : qbq (qa9 Try.f26.ntmps (([] ++ [.agg [.mapv mid], v] ++ []) : List AV)) 1 = v := qa8 rfl
  generalize qa9 Try.f26.ntmps (([] ++ [.agg [.mapv mid], v] ++ []) : List AV) = T at *
  show Runs (qbn _ _ _ _ 18 _ _ _) _ _
  (repeat (first|refine KW.go ?_|((first|apply qaw|apply qaz|apply qa1|apply qa4|apply qay|apply qax|apply qar|apply qal|apply qaj|apply qap)<;>first|(apply qam;(repeat' first|assumption|exact qaa rfl|apply qaf rfl|apply qab);done)|exact qao _ _|exact qai _|exact qan _|exact qad|exact qag|exact qae|exact qac|exact qah _|exact qau _ (by omega)|exact qat (by omega)|exact qas (by omega)|exact rfl|assumption|apply qav)|((first|apply qa3|apply qaq|apply qak)<;>first|(apply qam;(repeat' first|assumption|exact qaa rfl|apply qaf rfl|apply qab);done)|exact qao _ _|exact qai _|exact qan _|exact qad|exact qag|exact qae|exact qac|exact qah _|exact qau _ (by omega)|exact qat (by omega)|exact qas (by omega)|exact rfl|assumption|apply qav)|(apply qa2 rfl rfl;(focus (repeat' first|assumption|exact qaa rfl|apply qaf rfl|apply qab);done))|(apply qbj rfl rfl;(focus (repeat' first|assumption|exact qaa rfl|apply qaf rfl|apply qab);done);exact rfl)))
  apply O_box
  · (focus first|(apply qam;(repeat' first|assumption|exact qaa rfl|apply qaf rfl|apply qab);done)|exact qao _ _|exact qai _|exact qan _|exact qad|exact qag|exact qae|exact qac|exact qah _)
  · rfl
  intro g1 i1 k1 r1 l1 l2
  change Row g1 i1 0 _ [.mapv mid] true at r1
  have o1 := o.keep k1
  (repeat (first|refine KW.go ?_|((first|apply qaw|apply qaz|apply qa1|apply qa4|apply qay|apply qax|apply qar|apply qal|apply qaj|apply qap)<;>first|(apply qam;(repeat' first|assumption|exact qaa rfl|apply qaf rfl|apply qab);done)|exact qao _ _|exact qai _|exact qan _|exact qad|exact qag|exact qae|exact qac|exact qah _|exact qau _ (by omega)|exact qat (by omega)|exact qas (by omega)|exact rfl|assumption|apply qav)|((first|apply qa3|apply qaq|apply qak)<;>first|(apply qam;(repeat' first|assumption|exact qaa rfl|apply qaf rfl|apply qab);done)|exact qao _ _|exact qai _|exact qan _|exact qad|exact qag|exact qae|exact qac|exact qah _|exact qau _ (by omega)|exact qat (by omega)|exact qas (by omega)|exact rfl|assumption|apply qav)|(apply qa2 rfl rfl;(focus (repeat' first|assumption|exact qaa rfl|apply qaf rfl|apply qab);done))|(apply qbj rfl rfl;(focus (repeat' first|assumption|exact qaa rfl|apply qaf rfl|apply qab);done);exact rfl)))
  have hmid : mid < h.next := m.lt w
  apply R_loop (k := names.length) (I := fun k T g => ∃ i, k = names.length - i ∧ i ≤ names.length ∧ qbq T 2 = .ptr i1 0 0 ∧ qbq T 6 = v ∧ qbq T 7 = .int .i64 (names.length : Nat) ∧ qbq T 8 = .int .i64 (i : Nat) ∧
    KeepBut (· = mid) g1 g ∧ KnownAt g mid (c + i) ((names.take i).foldl qdb l))
  · omega
  · exact ⟨0, by omega, by omega, by (repeat' first|assumption|exact qaa rfl|apply qaf rfl|apply qab), by (repeat' first|assumption|exact qaa rfl|apply qaf rfl|apply qab), by (repeat' first|assumption|exact qaa rfl|apply qaf rfl|apply qab), by (repeat' first|assumption|exact qaa rfl|apply qaf rfl|apply qab), KeepBut.refl _, m.keep k1⟩
  · rintro k T g2 ⟨i, rfl, hi, t2, t6, t7, t8, kp, mk⟩
    (repeat (first|refine KW.go ?_|((first|apply qaw|apply qaz|apply qa1|apply qa4|apply qay|apply qax|apply qar|apply qal|apply qaj|apply qap)<;>first|(apply qam;(repeat' first|assumption|exact qaa rfl|apply qaf rfl|apply qab);done)|exact qao _ _|exact qai _|exact qan _|exact qad|exact qag|exact qae|exact qac|exact qah _|exact qau _ (by omega)|exact qat (by omega)|exact qas (by omega)|exact rfl|assumption|apply qav)|((first|apply qa3|apply qaq|apply qak)<;>first|(apply qam;(repeat' first|assumption|exact qaa rfl|apply qaf rfl|apply qab);done)|exact qao _ _|exact qai _|exact qan _|exact qad|exact qag|exact qae|exact qac|exact qah _|exact qau _ (by omega)|exact qat (by omega)|exact qas (by omega)|exact rfl|assumption|apply qav)|(apply qa2 rfl rfl;(focus (repeat' first|assumption|exact qaa rfl|apply qaf rfl|apply qab);done))|(apply qbj rfl rfl;(focus (repeat' first|assumption|exact qaa rfl|apply qaf rfl|apply qab);done);exact rfl)))
    apply qbx (decide ((i : Int) < (names.length : Int)))
    · (focus first|(apply qam;(repeat' first|assumption|exact qaa rfl|apply qaf rfl|apply qab);done)|exact qao _ _|exact qai _|exact qan _|exact qad|exact qag|exact qae|exact qac|exact qah _)
    · intro cc
      have hlt : i < names.length := by simpa using cc
      have r2 : Row g2 i1 0 _ [.mapv mid] true := r1.keepBut kp (by omega)
      (repeat (first|refine KW.go ?_|((first|apply qaw|apply qaz|apply qa1|apply qa4|apply qay|apply qax|apply qar|apply qal|apply qaj|apply qap)<;>first|(apply qam;(repeat' first|assumption|exact qaa rfl|apply qaf rfl|apply qab);done)|exact qao _ _|exact qai _|exact qan _|exact qad|exact qag|exact qae|exact qac|exact qah _|exact qau _ (by omega)|exact qat (by omega)|exact qas (by omega)|exact rfl|assumption|apply qav)|((first|apply qa3|apply qaq|apply qak)<;>first|(apply qam;(repeat' first|assumption|exact qaa rfl|apply qaf rfl|apply qab);done)|exact qao _ _|exact qai _|exact qan _|exact qad|exact qag|exact qae|exact qac|exact qah _|exact qau _ (by omega)|exact qat (by omega)|exact qas (by omega)|exact rfl|assumption|apply qav)|(apply qa2 rfl rfl;(focus (repeat' first|assumption|exact qaa rfl|apply qaf rfl|apply qab);done))|(apply qbj rfl rfl;(focus (repeat' first|assumption|exact qaa rfl|apply qaf rfl|apply qab);done);exact rfl)))
      apply qbp
      · (focus first|(apply qam;(repeat' first|assumption|exact qaa rfl|apply qaf rfl|apply qab);done)|exact qao _ _|exact qai _|exact qan _|exact qad|exact qag|exact qae|exact qac|exact qah _)
      · exact o1.keepBut kp fun k hk q => hv (q ▸ hk)
      · (focus first|(apply qam;(repeat' first|assumption|exact qaa rfl|apply qaf rfl|apply qab);done)|exact qao _ _|exact qai _|exact qan _|exact qad|exact qag|exact qae|exact qac|exact qah _)
      · omega
      · rfl
      intro a ha _
      rw [strs_at hlt] at ha
      apply qce
      · (focus first|(apply qam;(repeat' first|assumption|exact qaa rfl|apply qaf rfl|apply qab);done)|exact qao _ _|exact qai _|exact qan _|exact qad|exact qag|exact qae|exact qac|exact qah _)
      · exact ha
      have hst : (names.take (i + 1)).foldl qdb l = qdb ((names.take i).foldl qdb l) names[i] := by rw [List.take_succ_eq_append_getElem hlt, List.foldl_append]; rfl
      generalize names[i] = s at ha hst
      (repeat (first|refine KW.go ?_|((first|apply qaw|apply qaz|apply qa1|apply qa4|apply qay|apply qax|apply qar|apply qal|apply qaj|apply qap)<;>first|(apply qam;(repeat' first|assumption|exact qaa rfl|apply qaf rfl|apply qab);done)|exact qao _ _|exact qai _|exact qan _|exact qad|exact qag|exact qae|exact qac|exact qah _|exact qau _ (by omega)|exact qat (by omega)|exact qas (by omega)|exact rfl|assumption|apply qav)|((first|apply qa3|apply qaq|apply qak)<;>first|(apply qam;(repeat' first|assumption|exact qaa rfl|apply qaf rfl|apply qab);done)|exact qao _ _|exact qai _|exact qan _|exact qad|exact qag|exact qae|exact qac|exact qah _|exact qau _ (by omega)|exact qat (by omega)|exact qas (by omega)|exact rfl|assumption|apply qav)|(apply qa2 rfl rfl;(focus (repeat' first|assumption|exact qaa rfl|apply qaf rfl|apply qab);done))|(apply qbj rfl rfl;(focus (repeat' first|assumption|exact qaa rfl|apply qaf rfl|apply qab);done);exact rfl)))
      obtain ⟨es, me, hcs⟩ := mk
      have fnd := hcs.find s
      have key : ∃ (z : Nat) (r : Option AV), afind (.str s) es = some r ∧ r.getD (.int .i64 0) = .int .i64 (z : Int) ∧ z ≤ c + i := by
        by_cases hsl : s ∈ (names.take i).foldl qdb l
        · obtain ⟨z, hz, hz1, hz2⟩ := fnd.1 hsl
          exact ⟨z, _, hz, rfl, hz2⟩
        · exact ⟨0, _, fnd.2 hsl, rfl, by omega⟩
      obtain ⟨z, r, hz, hr, hzc⟩ := key
      apply O_lookup
      · (focus first|(apply qam;(repeat' first|assumption|exact qaa rfl|apply qaf rfl|apply qab);done)|exact qao _ _|exact qai _|exact qan _|exact qad|exact qag|exact qae|exact qac|exact qah _)
      · (focus first|(apply qam;(repeat' first|assumption|exact qaa rfl|apply qaf rfl|apply qab);done)|exact qao _ _|exact qai _|exact qan _|exact qad|exact qag|exact qae|exact qac|exact qah _)
      · exact me
      · exact hz
      simp only [cond_false, hr]
      (repeat (first|refine KW.go ?_|((first|apply qaw|apply qaz|apply qa1|apply qa4|apply qay|apply qax|apply qar|apply qal|apply qaj|apply qap)<;>first|(apply qam;(repeat' first|assumption|exact qaa rfl|apply qaf rfl|apply qab);done)|exact qao _ _|exact qai _|exact qan _|exact qad|exact qag|exact qae|exact qac|exact qah _|exact qau _ (by omega)|exact qat (by omega)|exact qas (by omega)|exact rfl|assumption|apply qav)|((first|apply qa3|apply qaq|apply qak)<;>first|(apply qam;(repeat' first|assumption|exact qaa rfl|apply qaf rfl|apply qab);done)|exact qao _ _|exact qai _|exact qan _|exact qad|exact qag|exact qae|exact qac|exact qah _|exact qau _ (by omega)|exact qat (by omega)|exact qas (by omega)|exact rfl|assumption|apply qav)|(apply qa2 rfl rfl;(focus (repeat' first|assumption|exact qaa rfl|apply qaf rfl|apply qab);done))|(apply qbj rfl rfl;(focus (repeat' first|assumption|exact qaa rfl|apply qaf rfl|apply qab);done);exact rfl)))
      apply O_mapUpdate
      · (focus first|(apply qam;(repeat' first|assumption|exact qaa rfl|apply qaf rfl|apply qab);done)|exact qao _ _|exact qai _|exact qan _|exact qad|exact qag|exact qae|exact qac|exact qah _)
      · (focus first|(apply qam;(repeat' first|assumption|exact qaa rfl|apply qaf rfl|apply qab);done)|exact qao _ _|exact qai _|exact qan _|exact qad|exact qag|exact qae|exact qac|exact qah _)
      · (focus first|(apply qam;(repeat' first|assumption|exact qaa rfl|apply qaf rfl|apply qab);done)|exact qao _ _|exact qai _|exact qan _|exact qad|exact qag|exact qae|exact qac|exact qah _)
      · exact me
      · exact hz
      intro g3 kb m3
      refine ⟨Undis.off rfl, ?_⟩
      (repeat (first|refine KW.go ?_|((first|apply qaw|apply qaz|apply qa1|apply qa4|apply qay|apply qax|apply qar|apply qal|apply qaj|apply qap)<;>first|(apply qam;(repeat' first|assumption|exact qaa rfl|apply qaf rfl|apply qab);done)|exact qao _ _|exact qai _|exact qan _|exact qad|exact qag|exact qae|exact qac|exact qah _|exact qau _ (by omega)|exact qat (by omega)|exact qas (by omega)|exact rfl|assumption|apply qav)|((first|apply qa3|apply qaq|apply qak)<;>first|(apply qam;(repeat' first|assumption|exact qaa rfl|apply qaf rfl|apply qab);done)|exact qao _ _|exact qai _|exact qan _|exact qad|exact qag|exact qae|exact qac|exact qah _|exact qau _ (by omega)|exact qat (by omega)|exact qas (by omega)|exact rfl|assumption|apply qav)|(apply qa2 rfl rfl;(focus (repeat' first|assumption|exact qaa rfl|apply qaf rfl|apply qab);done))|(apply qbj rfl rfl;(focus (repeat' first|assumption|exact qaa rfl|apply qaf rfl|apply qab);done);exact rfl)))
      apply qdg (names.length - (i + 1)) (by omega)
      refine ⟨i + 1, rfl, by omega, by (repeat' first|assumption|exact qaa rfl|apply qaf rfl|apply qab), by (repeat' first|assumption|exact qaa rfl|apply qaf rfl|apply qab), by (repeat' first|assumption|exact qaa rfl|apply qaf rfl|apply qab), by (repeat' first|assumption|exact qaa rfl|apply qaf rfl|apply qab), kp.trans kb, _, m3, ?_⟩
      rw [hst]
      exact hcs.upd s (z + 1) ⟨by omega, by omega⟩
    · intro cc
      have : i = names.length := by
        have : ¬ i < names.length := by simpa using cc
        omega
      subst this
      rw [List.take_length] at mk
      (repeat (first|refine KW.go ?_|((first|apply qaw|apply qaz|apply qa1|apply qa4|apply qay|apply qax|apply qar|apply qal|apply qaj|apply qap)<;>first|(apply qam;(repeat' first|assumption|exact qaa rfl|apply qaf rfl|apply qab);done)|exact qao _ _|exact qai _|exact qan _|exact qad|exact qag|exact qae|exact qac|exact qah _|exact qau _ (by omega)|exact qat (by omega)|exact qas (by omega)|exact rfl|assumption|apply qav)|((first|apply qa3|apply qaq|apply qak)<;>first|(apply qam;(repeat' first|assumption|exact qaa rfl|apply qaf rfl|apply qab);done)|exact qao _ _|exact qai _|exact qan _|exact qad|exact qag|exact qae|exact qac|exact qah _|exact qau _ (by omega)|exact qat (by omega)|exact qas (by omega)|exact rfl|assumption|apply qav)|(apply qa2 rfl rfl;(focus (repeat' first|assumption|exact qaa rfl|apply qaf rfl|apply qab);done))|(apply qbj rfl rfl;(focus (repeat' first|assumption|exact qaa rfl|apply qaf rfl|apply qab);done);exact rfl)))
      apply R_results0 rfl
      exact ⟨(k1.but _).trans (kp.weaken fun k hk => .inl hk), mk⟩
end Go.Am
namespace Go.Am
open Go Go.Proofs AM
set_option maxRecDepth 10000
variable {pol : Pol} {sums : Sums}

theorem abin_struct {P : Program} {t : TypeId} {X Y : List AV} {b : Bool} (hu : (match P.underlying t with | some (.struct _) => true | _ => false) = true) (hg : P.eqGuardType P.depth t = false) (he : aeqIn P 9 t (.agg X) (.agg Y) = some b) :
    abin P .eql t (.agg X) (.agg Y) = pure (.bool b) ∧ abin P .neq t (.agg X) (.agg Y) = pure (.bool !b) := by
  cases hq : P.underlying t with
  | none => rw [hq] at hu; cases hu
  | some d =>
    rw [hq] at hu
    cases d <;> first | cases hu | skip
    have : aequal P t (.agg X) (.agg Y) = pure b := by
      unfold aequal
      simp only [hq]
      rw [hg, he]
      rfl
    constructor
    · simp only [abin, this]; rfl
    · simp only [abin, this]; rfl
theorem trm_eqIn (a b : Trm) : aeqIn Try.prog 9 39 (.agg (trmC a)) (.agg (trmC b)) = some (decide (a = b)) := by
  obtain ⟨k, x, y, z⟩ := a
  obtain ⟨k', x', y', z'⟩ := b
  have e : aeqIn Try.prog 9 39 (.agg (trmC ⟨k, x, y, z⟩)) (.agg (trmC ⟨k', x', y', z'⟩)) = (match k == k' with
    | true => match x == x' with
      | true => match y == y' with
        | true => match z == z' with
          | true => some true
          | false => some false
        | false => some false
      | false => some false
    | false => some false) := by kernel_rfl
  rw [e]
  by_cases h1 : k = k'
  · by_cases h2 : x = x'
    · by_cases h3 : y = y'
      · by_cases h4 : z = z'
        · simp [h1, h2, h3, h4]
        · simp [h1, h2, h3, h4, show (z == z') = false by simpa using h4]
      · simp [h1, h2, h3, show (y == y') = false by simpa using h3]
    · simp [h1, h2, show (x == x') = false by simpa using h2]
  · simp [h1, show (k == k') = false by simpa using h1]
theorem trm_eql (a b : Trm) : abin Try.prog .eql 39 (.agg (trmC a)) (.agg (trmC b)) = pure (.bool (decide (a = b))) := (abin_struct (by kernel_rfl) (by kernel_rfl) (trm_eqIn a b)).1

attribute [local irreducible] KSeq KMid KBlock KLoop KOps KFunc Runs qb9 qbn qdl aop qbt qbq qbv qbv? qbd qbw qa9
structure Lin where
  term : Trm
  tri : Int
  sub : Int
  obj : Int
abbrev linC (x : Lin) : List AV := [.int .i64 x.term.kind, .str x.term.a, .str x.term.b, .str x.term.c, .int .i64 x.tri, .int .i64 x.sub, .int .i64 x.obj]
theorem linC_len (x : Lin) : (linC x).length = 7 := rfl
structure Sts where
  tri : Int
  sub : Int
  pre : Int
  obj : Int
  lines : List Lin
abbrev stsC (x : Sts) (lv : AV) : List AV := [.int .i64 x.tri, .int .i64 x.sub, .int .i64 x.pre, .int .i64 x.obj, lv]
def noTrm : Trm := ⟨0, [], [], []⟩
def noLin : Lin := ⟨noTrm, 0, 0, 0⟩
def ofZ (x : Sts) (p : Slt) : Lin := if p.var ≠ [] then ⟨noTrm, x.tri, x.sub, x.obj⟩ else (x.lines.find? (fun l => decide (l.term = p.term))).getD noLin
def partZ (a b : Int) : Int := if a < 1 then 0 else IntKind.wrap .i64 (IntKind.wrap .i64 ((IntKind.wrap .i64 (a - 1)).tdiv (if 1 > b then 1 else b)) + 1)
def toldZ (known : List Str) (s : Slt) : Bool := s.var == [] || decide (s.var ∈ known)
def guessZ (x : Sts) (p : Ptn) (known : List Str) : Int :=
  let l := ofZ x p.p
  let n := l.tri
  let n := if toldZ known p.s then partZ n l.sub else n
  let n := if toldZ known p.o then partZ n l.obj else n
  if p.p.var ≠ [] ∧ toldZ known p.p = true then partZ n x.pre else n

theorem part_spec (hs : sums 69 = none) {n : Nat} (hn : 1 ≤ n) (a b : Int) (h : Hp) : Runs (qbt Try.prog pol sums n (.func (.func 69) [] []) [.int .i64 a, .int .i64 b]) h (fun v h' => h = h' ∧ v = .int .i64 (partZ a b)) := by
  obtain ⟨n, rfl⟩ : ∃ m, n = m + 1 := ⟨n - 1, by omega⟩
  refine qcq (by assumption) Try.func69 rfl (by simp [Try.f69]) ?_
  have a0 : qbq (qa9 Try.f69.ntmps (([] ++ [.int .i64 a, .int .i64 b] ++ []) : List AV)) 0 = .int .i64 a := qa8 rfl
  have a1 : qbq (qa9 Try.f69.ntmps (([] ++ [.int .i64 a, .int .i64 b] ++ []) : List AV)) 1 = .int .i64 b := qa8 rfl
  generalize qa9 Try.f69.ntmps (([] ++ [.int .i64 a, .int .i64 b] ++ []) : List AV) = T at *
  show Runs (qbn _ _ _ _ 14 _ _ _) _ _
  (repeat (first|refine KW.go ?_|((first|apply qaw|apply qaz|apply qa1|apply qa4|apply qay|apply qax|apply qar|apply qal|apply qaj|apply qap)<;>first|(apply qam;(repeat' first|assumption|exact qaa rfl|apply qaf rfl|apply qab);done)|exact qao _ _|exact qai _|exact qan _|exact qad|exact qag|exact qae|exact qac|exact qah _|exact qau _ (by omega)|exact qat (by omega)|exact qas (by omega)|exact rfl|assumption|apply qav)|((first|apply qa3|apply qaq|apply qak)<;>first|(apply qam;(repeat' first|assumption|exact qaa rfl|apply qaf rfl|apply qab);done)|exact qao _ _|exact qai _|exact qan _|exact qad|exact qag|exact qae|exact qac|exact qah _|exact qau _ (by omega)|exact qat (by omega)|exact qas (by omega)|exact rfl|assumption|apply qav)|(apply qa2 rfl rfl;(focus (repeat' first|assumption|exact qaa rfl|apply qaf rfl|apply qab);done))|(apply qbj rfl rfl;(focus (repeat' first|assumption|exact qaa rfl|apply qaf rfl|apply qab);done);exact rfl)))
  apply qbx (decide (a < 1))
  · (focus first|(apply qam;(repeat' first|assumption|exact qaa rfl|apply qaf rfl|apply qab);done)|exact qao _ _|exact qai _|exact qan _|exact qad|exact qag|exact qae|exact qac|exact qah _)
  · intro c
    (repeat (first|refine KW.go ?_|((first|apply qaw|apply qaz|apply qa1|apply qa4|apply qay|apply qax|apply qar|apply qal|apply qaj|apply qap)<;>first|(apply qam;(repeat' first|assumption|exact qaa rfl|apply qaf rfl|apply qab);done)|exact qao _ _|exact qai _|exact qan _|exact qad|exact qag|exact qae|exact qac|exact qah _|exact qau _ (by omega)|exact qat (by omega)|exact qas (by omega)|exact rfl|assumption|apply qav)|((first|apply qa3|apply qaq|apply qak)<;>first|(apply qam;(repeat' first|assumption|exact qaa rfl|apply qaf rfl|apply qab);done)|exact qao _ _|exact qai _|exact qan _|exact qad|exact qag|exact qae|exact qac|exact qah _|exact qau _ (by omega)|exact qat (by omega)|exact qas (by omega)|exact rfl|assumption|apply qav)|(apply qa2 rfl rfl;(focus (repeat' first|assumption|exact qaa rfl|apply qaf rfl|apply qab);done))|(apply qbj rfl rfl;(focus (repeat' first|assumption|exact qaa rfl|apply qaf rfl|apply qab);done);exact rfl)))
    (apply qbl rfl; (repeat' first|assumption|exact qaa rfl|apply qaf rfl|apply qab))
    have c : a < 1 := by simpa using c
    simp [partZ, c]
  · intro c
    have c : ¬ a < 1 := by simpa using c
    (repeat (first|refine KW.go ?_|((first|apply qaw|apply qaz|apply qa1|apply qa4|apply qay|apply qax|apply qar|apply qal|apply qaj|apply qap)<;>first|(apply qam;(repeat' first|assumption|exact qaa rfl|apply qaf rfl|apply qab);done)|exact qao _ _|exact qai _|exact qan _|exact qad|exact qag|exact qae|exact qac|exact qah _|exact qau _ (by omega)|exact qat (by omega)|exact qas (by omega)|exact rfl|assumption|apply qav)|((first|apply qa3|apply qaq|apply qak)<;>first|(apply qam;(repeat' first|assumption|exact qaa rfl|apply qaf rfl|apply qab);done)|exact qao _ _|exact qai _|exact qan _|exact qad|exact qag|exact qae|exact qac|exact qah _|exact qau _ (by omega)|exact qat (by omega)|exact qas (by omega)|exact rfl|assumption|apply qav)|(apply qa2 rfl rfl;(focus (repeat' first|assumption|exact qaa rfl|apply qaf rfl|apply qab);done))|(apply qbj rfl rfl;(focus (repeat' first|assumption|exact qaa rfl|apply qaf rfl|apply qab);done);exact rfl)))
    apply O_max2
    · (focus first|(apply qam;(repeat' first|assumption|exact qaa rfl|apply qaf rfl|apply qab);done)|exact qao _ _|exact qai _|exact qan _|exact qad|exact qag|exact qae|exact qac|exact qah _)
    · (focus first|(apply qam;(repeat' first|assumption|exact qaa rfl|apply qaf rfl|apply qab);done)|exact qao _ _|exact qai _|exact qan _|exact qad|exact qag|exact qae|exact qac|exact qah _)
    (repeat (first|refine KW.go ?_|((first|apply qaw|apply qaz|apply qa1|apply qa4|apply qay|apply qax|apply qar|apply qal|apply qaj|apply qap)<;>first|(apply qam;(repeat' first|assumption|exact qaa rfl|apply qaf rfl|apply qab);done)|exact qao _ _|exact qai _|exact qan _|exact qad|exact qag|exact qae|exact qac|exact qah _|exact qau _ (by omega)|exact qat (by omega)|exact qas (by omega)|exact rfl|assumption|apply qav)|((first|apply qa3|apply qaq|apply qak)<;>first|(apply qam;(repeat' first|assumption|exact qaa rfl|apply qaf rfl|apply qab);done)|exact qao _ _|exact qai _|exact qan _|exact qad|exact qag|exact qae|exact qac|exact qah _|exact qau _ (by omega)|exact qat (by omega)|exact qas (by omega)|exact rfl|assumption|apply qav)|(apply qa2 rfl rfl;(focus (repeat' first|assumption|exact qaa rfl|apply qaf rfl|apply qab);done))|(apply qbj rfl rfl;(focus (repeat' first|assumption|exact qaa rfl|apply qaf rfl|apply qab);done);exact rfl)))
    apply O_quo
    · (focus first|(apply qam;(repeat' first|assumption|exact qaa rfl|apply qaf rfl|apply qab);done)|exact qao _ _|exact qai _|exact qan _|exact qad|exact qag|exact qae|exact qac|exact qah _)
    · (focus first|(apply qam;(repeat' first|assumption|exact qaa rfl|apply qaf rfl|apply qab);done)|exact qao _ _|exact qai _|exact qan _|exact qad|exact qag|exact qae|exact qac|exact qah _)
    · split <;> omega
    (repeat (first|refine KW.go ?_|((first|apply qaw|apply qaz|apply qa1|apply qa4|apply qay|apply qax|apply qar|apply qal|apply qaj|apply qap)<;>first|(apply qam;(repeat' first|assumption|exact qaa rfl|apply qaf rfl|apply qab);done)|exact qao _ _|exact qai _|exact qan _|exact qad|exact qag|exact qae|exact qac|exact qah _|exact qau _ (by omega)|exact qat (by omega)|exact qas (by omega)|exact rfl|assumption|apply qav)|((first|apply qa3|apply qaq|apply qak)<;>first|(apply qam;(repeat' first|assumption|exact qaa rfl|apply qaf rfl|apply qab);done)|exact qao _ _|exact qai _|exact qan _|exact qad|exact qag|exact qae|exact qac|exact qah _|exact qau _ (by omega)|exact qat (by omega)|exact qas (by omega)|exact rfl|assumption|apply qav)|(apply qa2 rfl rfl;(focus (repeat' first|assumption|exact qaa rfl|apply qaf rfl|apply qab);done))|(apply qbj rfl rfl;(focus (repeat' first|assumption|exact qaa rfl|apply qaf rfl|apply qab);done);exact rfl)))
    (apply qbl rfl; (repeat' first|assumption|exact qaa rfl|apply qaf rfl|apply qab))
    simp [partZ, c]

theorem told_spec (hs : sums 66 = none) (hs2 : sums 67 = some qb6) {n : Nat} (hn : 2 ≤ n) {h : Hp} {id : Nat} {nv : AV} {known : List Str} (r : Row h id 0 1 [nv] true) (o : Names h nv known) (hb : known.length < 2 ^ 62) (s : Slt) :
    Runs (qbt Try.prog pol sums n (.func (.func 66) [] [.ptr id 0 0]) [.agg (sltC s)]) h (fun v h' => Keep h h' ∧ v = .bool (toldZ known s)) := by
  obtain ⟨n, rfl⟩ : ∃ m, n = m + 1 := ⟨n - 1, by omega⟩
  refine qcq (by assumption) Try.func66 rfl (by simp [Try.f66]) ?_
  have a0 : qbq (qa9 Try.f66.ntmps (([] ++ [.agg (sltC s)] ++ [.ptr id 0 0]) : List AV)) 0 = .agg (sltC s) := qa8 rfl
  have a1 : qbq (qa9 Try.f66.ntmps (([] ++ [.agg (sltC s)] ++ [.ptr id 0 0]) : List AV)) 1 = .ptr id 0 0 := qa8 rfl
  generalize qa9 Try.f66.ntmps (([] ++ [.agg (sltC s)] ++ [.ptr id 0 0]) : List AV) = T at *
  show Runs (qbn _ _ _ _ 13 _ _ _) _ _
  (repeat (first|refine KW.go ?_|((first|apply qaw|apply qaz|apply qa1|apply qa4|apply qay|apply qax|apply qar|apply qal|apply qaj|apply qap)<;>first|(apply qam;(repeat' first|assumption|exact qaa rfl|apply qaf rfl|apply qab);done)|exact qao _ _|exact qai _|exact qan _|exact qad|exact qag|exact qae|exact qac|exact qah _|exact qau _ (by omega)|exact qat (by omega)|exact qas (by omega)|exact rfl|assumption|apply qav)|((first|apply qa3|apply qaq|apply qak)<;>first|(apply qam;(repeat' first|assumption|exact qaa rfl|apply qaf rfl|apply qab);done)|exact qao _ _|exact qai _|exact qan _|exact qad|exact qag|exact qae|exact qac|exact qah _|exact qau _ (by omega)|exact qat (by omega)|exact qas (by omega)|exact rfl|assumption|apply qav)|(apply qa2 rfl rfl;(focus (repeat' first|assumption|exact qaa rfl|apply qaf rfl|apply qab);done))|(apply qbj rfl rfl;(focus (repeat' first|assumption|exact qaa rfl|apply qaf rfl|apply qab);done);exact rfl)))
  apply O_box
  · (focus first|(apply qam;(repeat' first|assumption|exact qaa rfl|apply qaf rfl|apply qab);done)|exact qao _ _|exact qai _|exact qan _|exact qad|exact qag|exact qae|exact qac|exact qah _)
  · rfl
  intro g1 i1 k1 r1 l1 l2
  change Row g1 i1 0 _ (sltC s) true at r1
  replace r := r.keep k1
  replace o := o.keep k1
  (repeat (first|refine KW.go ?_|((first|apply qaw|apply qaz|apply qa1|apply qa4|apply qay|apply qax|apply qar|apply qal|apply qaj|apply qap)<;>first|(apply qam;(repeat' first|assumption|exact qaa rfl|apply qaf rfl|apply qab);done)|exact qao _ _|exact qai _|exact qan _|exact qad|exact qag|exact qae|exact qac|exact qah _|exact qau _ (by omega)|exact qat (by omega)|exact qas (by omega)|exact rfl|assumption|apply qav)|((first|apply qa3|apply qaq|apply qak)<;>first|(apply qam;(repeat' first|assumption|exact qaa rfl|apply qaf rfl|apply qab);done)|exact qao _ _|exact qai _|exact qan _|exact qad|exact qag|exact qae|exact qac|exact qah _|exact qau _ (by omega)|exact qat (by omega)|exact qas (by omega)|exact rfl|assumption|apply qav)|(apply qa2 rfl rfl;(focus (repeat' first|assumption|exact qaa rfl|apply qaf rfl|apply qab);done))|(apply qbj rfl rfl;(focus (repeat' first|assumption|exact qaa rfl|apply qaf rfl|apply qab);done);exact rfl)))
  cases hv : (s.var == ([] : Str)) with
  | true =>
    (repeat (first|refine KW.go ?_|((first|apply qaw|apply qaz|apply qa1|apply qa4|apply qay|apply qax|apply qar|apply qal|apply qaj|apply qap)<;>first|(apply qam;(repeat' first|assumption|exact qaa rfl|apply qaf rfl|apply qab);done)|exact qao _ _|exact qai _|exact qan _|exact qad|exact qag|exact qae|exact qac|exact qah _|exact qau _ (by omega)|exact qat (by omega)|exact qas (by omega)|exact rfl|assumption|apply qav)|((first|apply qa3|apply qaq|apply qak)<;>first|(apply qam;(repeat' first|assumption|exact qaa rfl|apply qaf rfl|apply qab);done)|exact qao _ _|exact qai _|exact qan _|exact qad|exact qag|exact qae|exact qac|exact qah _|exact qau _ (by omega)|exact qat (by omega)|exact qas (by omega)|exact rfl|assumption|apply qav)|(apply qa2 rfl rfl;(focus (repeat' first|assumption|exact qaa rfl|apply qaf rfl|apply qab);done))|(apply qbj rfl rfl;(focus (repeat' first|assumption|exact qaa rfl|apply qaf rfl|apply qab);done);exact rfl)))
    (apply qbl rfl; (repeat' first|assumption|exact qaa rfl|apply qaf rfl|apply qab))
    simp [toldZ, hv, k1]
  | false =>
    (repeat (first|refine KW.go ?_|((first|apply qaw|apply qaz|apply qa1|apply qa4|apply qay|apply qax|apply qar|apply qal|apply qaj|apply qap)<;>first|(apply qam;(repeat' first|assumption|exact qaa rfl|apply qaf rfl|apply qab);done)|exact qao _ _|exact qai _|exact qan _|exact qad|exact qag|exact qae|exact qac|exact qah _|exact qau _ (by omega)|exact qat (by omega)|exact qas (by omega)|exact rfl|assumption|apply qav)|((first|apply qa3|apply qaq|apply qak)<;>first|(apply qam;(repeat' first|assumption|exact qaa rfl|apply qaf rfl|apply qab);done)|exact qao _ _|exact qai _|exact qan _|exact qad|exact qag|exact qae|exact qac|exact qah _|exact qau _ (by omega)|exact qat (by omega)|exact qas (by omega)|exact rfl|assumption|apply qav)|(apply qa2 rfl rfl;(focus (repeat' first|assumption|exact qaa rfl|apply qaf rfl|apply qab);done))|(apply qbj rfl rfl;(focus (repeat' first|assumption|exact qaa rfl|apply qaf rfl|apply qab);done);exact rfl)))
    (apply qb5; (focus first|(apply qam;(repeat' first|assumption|exact qaa rfl|apply qaf rfl|apply qab);done)|exact qao _ _|exact qai _|exact qan _|exact qad|exact qag|exact qae|exact qac|exact qah _); (repeat (apply qbb; (focus first|(apply qam;(repeat' first|assumption|exact qaa rfl|apply qaf rfl|apply qab);done)|exact qao _ _|exact qai _|exact qan _|exact qad|exact qag|exact qae|exact qac|exact qah _))); exact qbi)
    refine (contains_spec hs2 (by omega) o s.var hb).mono ?_
    rintro r g2 ⟨rfl, rfl⟩
    refine ⟨Undis.off rfl, ?_⟩
    (repeat (first|refine KW.go ?_|((first|apply qaw|apply qaz|apply qa1|apply qa4|apply qay|apply qax|apply qar|apply qal|apply qaj|apply qap)<;>first|(apply qam;(repeat' first|assumption|exact qaa rfl|apply qaf rfl|apply qab);done)|exact qao _ _|exact qai _|exact qan _|exact qad|exact qag|exact qae|exact qac|exact qah _|exact qau _ (by omega)|exact qat (by omega)|exact qas (by omega)|exact rfl|assumption|apply qav)|((first|apply qa3|apply qaq|apply qak)<;>first|(apply qam;(repeat' first|assumption|exact qaa rfl|apply qaf rfl|apply qab);done)|exact qao _ _|exact qai _|exact qan _|exact qad|exact qag|exact qae|exact qac|exact qah _|exact qau _ (by omega)|exact qat (by omega)|exact qas (by omega)|exact rfl|assumption|apply qav)|(apply qa2 rfl rfl;(focus (repeat' first|assumption|exact qaa rfl|apply qaf rfl|apply qab);done))|(apply qbj rfl rfl;(focus (repeat' first|assumption|exact qaa rfl|apply qaf rfl|apply qab);done);exact rfl)))
    (apply qbl rfl; (repeat' first|assumption|exact qaa rfl|apply qaf rfl|apply qab))
    simp [toldZ, hv, k1]

theorem of_spec (hs : sums 68 = none) {n : Nat} {h : Hp} {x : Sts} {lv : AV} (hn : x.lines.length + 2 ≤ n) (o : Rows linC 7 h lv x.lines) (hb : x.lines.length < 2 ^ 62) (p : Slt) :
    Runs (qbt Try.prog pol sums n (.func (.func 68) [] []) [.agg (stsC x lv), .agg (sltC p)]) h (fun v h' => Keep h h' ∧ v = .agg (linC (ofZ x p))) := by
  apply Runs.wf
  intro w
  obtain ⟨n, rfl⟩ : ∃ m, n = m + 1 := ⟨n - 1, by omega⟩
  refine qcq (by assumption) Try.func68 rfl (by simp [Try.f68]) ?_
  have a0 : qbq (qa9 Try.f68.ntmps (([] ++ [.agg (stsC x lv), .agg (sltC p)] ++ []) : List AV)) 0 = .agg (stsC x lv) := qa8 rfl
  have a1 : qbq (qa9 Try.f68.ntmps (([] ++ [.agg (stsC x lv), .agg (sltC p)] ++ []) : List AV)) 1 = .agg (sltC p) := qa8 rfl
  generalize qa9 Try.f68.ntmps (([] ++ [.agg (stsC x lv), .agg (sltC p)] ++ []) : List AV) = T at *
  show Runs (qbn _ _ _ _ 32 _ _ _) _ _
  (repeat (first|refine KW.go ?_|((first|apply qaw|apply qaz|apply qa1|apply qa4|apply qay|apply qax|apply qar|apply qal|apply qaj|apply qap)<;>first|(apply qam;(repeat' first|assumption|exact qaa rfl|apply qaf rfl|apply qab);done)|exact qao _ _|exact qai _|exact qan _|exact qad|exact qag|exact qae|exact qac|exact qah _|exact qau _ (by omega)|exact qat (by omega)|exact qas (by omega)|exact rfl|assumption|apply qav)|((first|apply qa3|apply qaq|apply qak)<;>first|(apply qam;(repeat' first|assumption|exact qaa rfl|apply qaf rfl|apply qab);done)|exact qao _ _|exact qai _|exact qan _|exact qad|exact qag|exact qae|exact qac|exact qah _|exact qau _ (by omega)|exact qat (by omega)|exact qas (by omega)|exact rfl|assumption|apply qav)|(apply qa2 rfl rfl;(focus (repeat' first|assumption|exact qaa rfl|apply qaf rfl|apply qab);done))|(apply qbj rfl rfl;(focus (repeat' first|assumption|exact qaa rfl|apply qaf rfl|apply qab);done);exact rfl)))
  apply O_box
  · (focus first|(apply qam;(repeat' first|assumption|exact qaa rfl|apply qaf rfl|apply qab);done)|exact qao _ _|exact qai _|exact qan _|exact qad|exact qag|exact qae|exact qac|exact qah _)
  · rfl
  intro g1 i1 k1 r1 l1 l2
  change Row g1 i1 0 _ (stsC x lv) true at r1
  apply O_box
  · (focus first|(apply qam;(repeat' first|assumption|exact qaa rfl|apply qaf rfl|apply qab);done)|exact qao _ _|exact qai _|exact qan _|exact qad|exact qag|exact qae|exact qac|exact qah _)
  · rfl
  intro g2 i2 k2 r2 l3 l4
  change Row g2 i2 0 _ (sltC p) true at r2
  apply qdn
  intro g3 i3 k3 r3 l5 l6
  replace r1 := (r1.keep k2).keep k3
  replace r2 := r2.keep k3
  have k := (k1.trans k2).trans k3
  have o3 := o.keep k
  apply O_wf
  intro w3
  (repeat (first|refine KW.go ?_|((first|apply qaw|apply qaz|apply qa1|apply qa4|apply qay|apply qax|apply qar|apply qal|apply qaj|apply qap)<;>first|(apply qam;(repeat' first|assumption|exact qaa rfl|apply qaf rfl|apply qab);done)|exact qao _ _|exact qai _|exact qan _|exact qad|exact qag|exact qae|exact qac|exact qah _|exact qau _ (by omega)|exact qat (by omega)|exact qas (by omega)|exact rfl|assumption|apply qav)|((first|apply qa3|apply qaq|apply qak)<;>first|(apply qam;(repeat' first|assumption|exact qaa rfl|apply qaf rfl|apply qab);done)|exact qao _ _|exact qai _|exact qan _|exact qad|exact qag|exact qae|exact qac|exact qah _|exact qau _ (by omega)|exact qat (by omega)|exact qas (by omega)|exact rfl|assumption|apply qav)|(apply qa2 rfl rfl;(focus (repeat' first|assumption|exact qaa rfl|apply qaf rfl|apply qab);done))|(apply qbj rfl rfl;(focus (repeat' first|assumption|exact qaa rfl|apply qaf rfl|apply qab);done);exact rfl)))
  apply qbx (!(p.var == []))
  · (focus first|(apply qam;(repeat' first|assumption|exact qaa rfl|apply qaf rfl|apply qab);done)|exact qao _ _|exact qai _|exact qan _|exact qad|exact qag|exact qae|exact qac|exact qah _)
  · intro c
    have c : p.var ≠ [] := by simpa using c
    (repeat (first|refine KW.go ?_|((first|apply qaw|apply qaz|apply qa1|apply qa4|apply qay|apply qax|apply qar|apply qal|apply qaj|apply qap)<;>first|(apply qam;(repeat' first|assumption|exact qaa rfl|apply qaf rfl|apply qab);done)|exact qao _ _|exact qai _|exact qan _|exact qad|exact qag|exact qae|exact qac|exact qah _|exact qau _ (by omega)|exact qat (by omega)|exact qas (by omega)|exact rfl|assumption|apply qav)|((first|apply qa3|apply qaq|apply qak)<;>first|(apply qam;(repeat' first|assumption|exact qaa rfl|apply qaf rfl|apply qab);done)|exact qao _ _|exact qai _|exact qan _|exact qad|exact qag|exact qae|exact qac|exact qah _|exact qau _ (by omega)|exact qat (by omega)|exact qas (by omega)|exact rfl|assumption|apply qav)|(apply qa2 rfl rfl;(focus (repeat' first|assumption|exact qaa rfl|apply qaf rfl|apply qab);done))|(apply qbj rfl rfl;(focus (repeat' first|assumption|exact qaa rfl|apply qaf rfl|apply qab);done);exact rfl)))
    apply O_build
    · exact qbs (by (focus first|(apply qam;(repeat' first|assumption|exact qaa rfl|apply qaf rfl|apply qab);done)|exact qao _ _|exact qai _|exact qan _|exact qad|exact qag|exact qae|exact qac|exact qah _)) (qbs (by (focus first|(apply qam;(repeat' first|assumption|exact qaa rfl|apply qaf rfl|apply qab);done)|exact qao _ _|exact qai _|exact qan _|exact qad|exact qag|exact qae|exact qac|exact qah _)) (qbs (by (focus first|(apply qam;(repeat' first|assumption|exact qaa rfl|apply qaf rfl|apply qab);done)|exact qao _ _|exact qai _|exact qan _|exact qad|exact qag|exact qae|exact qac|exact qah _)) qcc))
    · rfl
    apply qcj
    · (focus first|(apply qam;(repeat' first|assumption|exact qaa rfl|apply qaf rfl|apply qab);done)|exact qao _ _|exact qai _|exact qan _|exact qad|exact qag|exact qae|exact qac|exact qah _)
    · (focus first|(apply qam;(repeat' first|assumption|exact qaa rfl|apply qaf rfl|apply qab);done)|exact qao _ _|exact qai _|exact qan _|exact qad|exact qag|exact qae|exact qac|exact qah _)
    · exact r3
    · rfl
    intro g4 kb r4
    refine ⟨Undis.off rfl, ?_⟩
    (repeat (first|refine KW.go ?_|((first|apply qaw|apply qaz|apply qa1|apply qa4|apply qay|apply qax|apply qar|apply qal|apply qaj|apply qap)<;>first|(apply qam;(repeat' first|assumption|exact qaa rfl|apply qaf rfl|apply qab);done)|exact qao _ _|exact qai _|exact qan _|exact qad|exact qag|exact qae|exact qac|exact qah _|exact qau _ (by omega)|exact qat (by omega)|exact qas (by omega)|exact rfl|assumption|apply qav)|((first|apply qa3|apply qaq|apply qak)<;>first|(apply qam;(repeat' first|assumption|exact qaa rfl|apply qaf rfl|apply qab);done)|exact qao _ _|exact qai _|exact qan _|exact qad|exact qag|exact qae|exact qac|exact qah _|exact qau _ (by omega)|exact qat (by omega)|exact qas (by omega)|exact rfl|assumption|apply qav)|(apply qa2 rfl rfl;(focus (repeat' first|assumption|exact qaa rfl|apply qaf rfl|apply qab);done))|(apply qbj rfl rfl;(focus (repeat' first|assumption|exact qaa rfl|apply qaf rfl|apply qab);done);exact rfl)))
    apply R_res_agg rfl
    · (repeat' first|assumption|exact qaa rfl|apply qaf rfl|apply qab)
    · exact r4
    · rfl
    · rfl
    refine ⟨KeepBut.keep k kb fun i hi => w.get (by have := k1.next; have := k2.next; omega), ?_⟩
    simp [ofZ, c, noTrm, splice, acells]
  · intro c
    have c : p.var = [] := by simpa using c
    (repeat (first|refine KW.go ?_|((first|apply qaw|apply qaz|apply qa1|apply qa4|apply qay|apply qax|apply qar|apply qal|apply qaj|apply qap)<;>first|(apply qam;(repeat' first|assumption|exact qaa rfl|apply qaf rfl|apply qab);done)|exact qao _ _|exact qai _|exact qan _|exact qad|exact qag|exact qae|exact qac|exact qah _|exact qau _ (by omega)|exact qat (by omega)|exact qas (by omega)|exact rfl|assumption|apply qav)|((first|apply qa3|apply qaq|apply qak)<;>first|(apply qam;(repeat' first|assumption|exact qaa rfl|apply qaf rfl|apply qab);done)|exact qao _ _|exact qai _|exact qan _|exact qad|exact qag|exact qae|exact qac|exact qah _|exact qau _ (by omega)|exact qat (by omega)|exact qas (by omega)|exact rfl|assumption|apply qav)|(apply qa2 rfl rfl;(focus (repeat' first|assumption|exact qaa rfl|apply qaf rfl|apply qab);done))|(apply qbj rfl rfl;(focus (repeat' first|assumption|exact qaa rfl|apply qaf rfl|apply qab);done);exact rfl)))
    apply R_loop (k := x.lines.length) (I := fun k T g => ∃ i, k = x.lines.length - i ∧ i ≤ x.lines.length ∧ qbq T 3 = .ptr i2 0 0 ∧ qbq T 4 = .ptr i3 0 0 ∧ qbq T 18 = lv ∧ qbq T 19 = .int .i64 (x.lines.length : Nat) ∧ qbq T 20 = .int .i64 (i : Nat) ∧
      Keep g3 g ∧ ∀ l ∈ x.lines.take i, l.term ≠ p.term)
    · omega
    · exact ⟨0, by omega, by omega, by (repeat' first|assumption|exact qaa rfl|apply qaf rfl|apply qab), by (repeat' first|assumption|exact qaa rfl|apply qaf rfl|apply qab), by (repeat' first|assumption|exact qaa rfl|apply qaf rfl|apply qab), by (repeat' first|assumption|exact qaa rfl|apply qaf rfl|apply qab), by (repeat' first|assumption|exact qaa rfl|apply qaf rfl|apply qab), Keep.refl _, by simp⟩
    · rintro k' T g ⟨i, rfl, hi, t3, t4, t18, t19, t20, kq, hall⟩
      (repeat (first|refine KW.go ?_|((first|apply qaw|apply qaz|apply qa1|apply qa4|apply qay|apply qax|apply qar|apply qal|apply qaj|apply qap)<;>first|(apply qam;(repeat' first|assumption|exact qaa rfl|apply qaf rfl|apply qab);done)|exact qao _ _|exact qai _|exact qan _|exact qad|exact qag|exact qae|exact qac|exact qah _|exact qau _ (by omega)|exact qat (by omega)|exact qas (by omega)|exact rfl|assumption|apply qav)|((first|apply qa3|apply qaq|apply qak)<;>first|(apply qam;(repeat' first|assumption|exact qaa rfl|apply qaf rfl|apply qab);done)|exact qao _ _|exact qai _|exact qan _|exact qad|exact qag|exact qae|exact qac|exact qah _|exact qau _ (by omega)|exact qat (by omega)|exact qas (by omega)|exact rfl|assumption|apply qav)|(apply qa2 rfl rfl;(focus (repeat' first|assumption|exact qaa rfl|apply qaf rfl|apply qab);done))|(apply qbj rfl rfl;(focus (repeat' first|assumption|exact qaa rfl|apply qaf rfl|apply qab);done);exact rfl)))
      apply qbx (decide ((i : Int) < (x.lines.length : Int)))
      · (focus first|(apply qam;(repeat' first|assumption|exact qaa rfl|apply qaf rfl|apply qab);done)|exact qao _ _|exact qai _|exact qan _|exact qad|exact qag|exact qae|exact qac|exact qah _)
      · intro cc
        have hlt : i < x.lines.length := by simpa using cc
        have q2 := r2.keep kq
        have q3 := r3.keep kq
        (repeat (first|refine KW.go ?_|((first|apply qaw|apply qaz|apply qa1|apply qa4|apply qay|apply qax|apply qar|apply qal|apply qaj|apply qap)<;>first|(apply qam;(repeat' first|assumption|exact qaa rfl|apply qaf rfl|apply qab);done)|exact qao _ _|exact qai _|exact qan _|exact qad|exact qag|exact qae|exact qac|exact qah _|exact qau _ (by omega)|exact qat (by omega)|exact qas (by omega)|exact rfl|assumption|apply qav)|((first|apply qa3|apply qaq|apply qak)<;>first|(apply qam;(repeat' first|assumption|exact qaa rfl|apply qaf rfl|apply qab);done)|exact qao _ _|exact qai _|exact qan _|exact qad|exact qag|exact qae|exact qac|exact qah _|exact qau _ (by omega)|exact qat (by omega)|exact qas (by omega)|exact rfl|assumption|apply qav)|(apply qa2 rfl rfl;(focus (repeat' first|assumption|exact qaa rfl|apply qaf rfl|apply qab);done))|(apply qbj rfl rfl;(focus (repeat' first|assumption|exact qaa rfl|apply qaf rfl|apply qab);done);exact rfl)))
        apply qbp
        · (focus first|(apply qam;(repeat' first|assumption|exact qaa rfl|apply qaf rfl|apply qab);done)|exact qao _ _|exact qai _|exact qan _|exact qad|exact qag|exact qae|exact qac|exact qah _)
        · exact o3.keep kq
        · (focus first|(apply qam;(repeat' first|assumption|exact qaa rfl|apply qaf rfl|apply qab);done)|exact qao _ _|exact qai _|exact qan _|exact qad|exact qag|exact qae|exact qac|exact qah _)
        · omega
        · rfl
        intro a ha _
        rw [flat_at linC_len hlt] at ha
        have hst : x.lines.take (i + 1) = x.lines.take i ++ [x.lines[i]] := List.take_succ_eq_append_getElem hlt
        have hdr : x.lines = x.lines.take i ++ x.lines[i] :: x.lines.drop (i + 1) := by rw [← List.drop_eq_getElem_cons hlt, List.take_append_drop]
        generalize x.lines[i] = l at ha hst hdr
        apply qcy
        · (focus first|(apply qam;(repeat' first|assumption|exact qaa rfl|apply qaf rfl|apply qab);done)|exact qao _ _|exact qai _|exact qan _|exact qad|exact qag|exact qae|exact qac|exact qah _)
        · exact ha
        · rfl
        apply O_wf
        intro wg
        apply qdn
        intro g5 j k5 r5 lj1 lj2
        apply qcj
        · (focus first|(apply qam;(repeat' first|assumption|exact qaa rfl|apply qaf rfl|apply qab);done)|exact qao _ _|exact qai _|exact qan _|exact qad|exact qag|exact qae|exact qac|exact qah _)
        · (focus first|(apply qam;(repeat' first|assumption|exact qaa rfl|apply qaf rfl|apply qab);done)|exact qao _ _|exact qai _|exact qan _|exact qad|exact qag|exact qae|exact qac|exact qah _)
        · exact r5
        · rfl
        intro g6 kb6 r6
        refine ⟨Undis.off rfl, ?_⟩
        change Row g6 j 0 _ (linC l) true at r6
        have k6 : Keep g g6 := KeepBut.keep k5 kb6 fun i hi => wg.get (by omega)
        replace q2 := q2.keep k6
        replace q3 := q3.keep k6
        (repeat (first|refine KW.go ?_|((first|apply qaw|apply qaz|apply qa1|apply qa4|apply qay|apply qax|apply qar|apply qal|apply qaj|apply qap)<;>first|(apply qam;(repeat' first|assumption|exact qaa rfl|apply qaf rfl|apply qab);done)|exact qao _ _|exact qai _|exact qan _|exact qad|exact qag|exact qae|exact qac|exact qah _|exact qau _ (by omega)|exact qat (by omega)|exact qas (by omega)|exact rfl|assumption|apply qav)|((first|apply qa3|apply qaq|apply qak)<;>first|(apply qam;(repeat' first|assumption|exact qaa rfl|apply qaf rfl|apply qab);done)|exact qao _ _|exact qai _|exact qan _|exact qad|exact qag|exact qae|exact qac|exact qah _|exact qau _ (by omega)|exact qat (by omega)|exact qas (by omega)|exact rfl|assumption|apply qav)|(apply qa2 rfl rfl;(focus (repeat' first|assumption|exact qaa rfl|apply qaf rfl|apply qab);done))|(apply qbj rfl rfl;(focus (repeat' first|assumption|exact qaa rfl|apply qaf rfl|apply qab);done);exact rfl)))
        apply qbk (n := 4)
        · (focus first|(apply qam;(repeat' first|assumption|exact qaa rfl|apply qaf rfl|apply qab);done)|exact qao _ _|exact qai _|exact qan _|exact qad|exact qag|exact qae|exact qac|exact qah _)
        · exact r6
        · rfl
        · exact rfl
        (repeat (first|refine KW.go ?_|((first|apply qaw|apply qaz|apply qa1|apply qa4|apply qay|apply qax|apply qar|apply qal|apply qaj|apply qap)<;>first|(apply qam;(repeat' first|assumption|exact qaa rfl|apply qaf rfl|apply qab);done)|exact qao _ _|exact qai _|exact qan _|exact qad|exact qag|exact qae|exact qac|exact qah _|exact qau _ (by omega)|exact qat (by omega)|exact qas (by omega)|exact rfl|assumption|apply qav)|((first|apply qa3|apply qaq|apply qak)<;>first|(apply qam;(repeat' first|assumption|exact qaa rfl|apply qaf rfl|apply qab);done)|exact qao _ _|exact qai _|exact qan _|exact qad|exact qag|exact qae|exact qac|exact qah _|exact qau _ (by omega)|exact qat (by omega)|exact qas (by omega)|exact rfl|assumption|apply qav)|(apply qa2 rfl rfl;(focus (repeat' first|assumption|exact qaa rfl|apply qaf rfl|apply qab);done))|(apply qbj rfl rfl;(focus (repeat' first|assumption|exact qaa rfl|apply qaf rfl|apply qab);done);exact rfl)))
        apply qbk (n := 4)
        · (focus first|(apply qam;(repeat' first|assumption|exact qaa rfl|apply qaf rfl|apply qab);done)|exact qao _ _|exact qai _|exact qan _|exact qad|exact qag|exact qae|exact qac|exact qah _)
        · exact q2
        · rfl
        · exact rfl
        apply O_bin (X := .agg (trmC l.term)) (Y := .agg (trmC p.term))
        · (focus first|(apply qam;(repeat' first|assumption|exact qaa rfl|apply qaf rfl|apply qab);done)|exact qao _ _|exact qai _|exact qan _|exact qad|exact qag|exact qae|exact qac|exact qah _)
        · (focus first|(apply qam;(repeat' first|assumption|exact qaa rfl|apply qaf rfl|apply qab);done)|exact qao _ _|exact qai _|exact qan _|exact qad|exact qag|exact qae|exact qac|exact qah _)
        · rfl
        · exact trm_eql _ _
        (repeat (first|refine KW.go ?_|((first|apply qaw|apply qaz|apply qa1|apply qa4|apply qay|apply qax|apply qar|apply qal|apply qaj|apply qap)<;>first|(apply qam;(repeat' first|assumption|exact qaa rfl|apply qaf rfl|apply qab);done)|exact qao _ _|exact qai _|exact qan _|exact qad|exact qag|exact qae|exact qac|exact qah _|exact qau _ (by omega)|exact qat (by omega)|exact qas (by omega)|exact rfl|assumption|apply qav)|((first|apply qa3|apply qaq|apply qak)<;>first|(apply qam;(repeat' first|assumption|exact qaa rfl|apply qaf rfl|apply qab);done)|exact qao _ _|exact qai _|exact qan _|exact qad|exact qag|exact qae|exact qac|exact qah _|exact qau _ (by omega)|exact qat (by omega)|exact qas (by omega)|exact rfl|assumption|apply qav)|(apply qa2 rfl rfl;(focus (repeat' first|assumption|exact qaa rfl|apply qaf rfl|apply qab);done))|(apply qbj rfl rfl;(focus (repeat' first|assumption|exact qaa rfl|apply qaf rfl|apply qab);done);exact rfl)))
        apply qbx (decide (l.term = p.term))
        · (focus first|(apply qam;(repeat' first|assumption|exact qaa rfl|apply qaf rfl|apply qab);done)|exact qao _ _|exact qai _|exact qan _|exact qad|exact qag|exact qae|exact qac|exact qah _)
        · intro e
          have e : l.term = p.term := by simpa using e
          (repeat (first|refine KW.go ?_|((first|apply qaw|apply qaz|apply qa1|apply qa4|apply qay|apply qax|apply qar|apply qal|apply qaj|apply qap)<;>first|(apply qam;(repeat' first|assumption|exact qaa rfl|apply qaf rfl|apply qab);done)|exact qao _ _|exact qai _|exact qan _|exact qad|exact qag|exact qae|exact qac|exact qah _|exact qau _ (by omega)|exact qat (by omega)|exact qas (by omega)|exact rfl|assumption|apply qav)|((first|apply qa3|apply qaq|apply qak)<;>first|(apply qam;(repeat' first|assumption|exact qaa rfl|apply qaf rfl|apply qab);done)|exact qao _ _|exact qai _|exact qan _|exact qad|exact qag|exact qae|exact qac|exact qah _|exact qau _ (by omega)|exact qat (by omega)|exact qas (by omega)|exact rfl|assumption|apply qav)|(apply qa2 rfl rfl;(focus (repeat' first|assumption|exact qaa rfl|apply qaf rfl|apply qab);done))|(apply qbj rfl rfl;(focus (repeat' first|assumption|exact qaa rfl|apply qaf rfl|apply qab);done);exact rfl)))
          apply qbk (n := 7)
          · (focus first|(apply qam;(repeat' first|assumption|exact qaa rfl|apply qaf rfl|apply qab);done)|exact qao _ _|exact qai _|exact qan _|exact qad|exact qag|exact qae|exact qac|exact qah _)
          · exact r6
          · rfl
          · exact rfl
          apply qcj
          · (focus first|(apply qam;(repeat' first|assumption|exact qaa rfl|apply qaf rfl|apply qab);done)|exact qao _ _|exact qai _|exact qan _|exact qad|exact qag|exact qae|exact qac|exact qah _)
          · (focus first|(apply qam;(repeat' first|assumption|exact qaa rfl|apply qaf rfl|apply qab);done)|exact qao _ _|exact qai _|exact qan _|exact qad|exact qag|exact qae|exact qac|exact qah _)
          · exact q3
          · rfl
          intro g7 kb7 r7
          refine ⟨Undis.off rfl, ?_⟩
          (repeat (first|refine KW.go ?_|((first|apply qaw|apply qaz|apply qa1|apply qa4|apply qay|apply qax|apply qar|apply qal|apply qaj|apply qap)<;>first|(apply qam;(repeat' first|assumption|exact qaa rfl|apply qaf rfl|apply qab);done)|exact qao _ _|exact qai _|exact qan _|exact qad|exact qag|exact qae|exact qac|exact qah _|exact qau _ (by omega)|exact qat (by omega)|exact qas (by omega)|exact rfl|assumption|apply qav)|((first|apply qa3|apply qaq|apply qak)<;>first|(apply qam;(repeat' first|assumption|exact qaa rfl|apply qaf rfl|apply qab);done)|exact qao _ _|exact qai _|exact qan _|exact qad|exact qag|exact qae|exact qac|exact qah _|exact qau _ (by omega)|exact qat (by omega)|exact qas (by omega)|exact rfl|assumption|apply qav)|(apply qa2 rfl rfl;(focus (repeat' first|assumption|exact qaa rfl|apply qaf rfl|apply qab);done))|(apply qbj rfl rfl;(focus (repeat' first|assumption|exact qaa rfl|apply qaf rfl|apply qab);done);exact rfl)))
          apply R_res_agg rfl
          · (repeat' first|assumption|exact qaa rfl|apply qaf rfl|apply qab)
          · exact r7
          · rfl
          · rfl
          refine ⟨KeepBut.keep ((k.trans kq).trans k6) kb7 fun i hi => w.get (by have := k1.next; have := k2.next; omega), ?_⟩
          have hf : x.lines.find? (fun l => decide (l.term = p.term)) = some l := by
            rw [hdr, List.find?_append, List.find?_eq_none.2 (fun y hy => by simpa using hall y hy)]
            simp [e]
          simp [ofZ, c, hf, splice, acells]
        · intro e
          have e : l.term ≠ p.term := by simpa using e
          (repeat (first|refine KW.go ?_|((first|apply qaw|apply qaz|apply qa1|apply qa4|apply qay|apply qax|apply qar|apply qal|apply qaj|apply qap)<;>first|(apply qam;(repeat' first|assumption|exact qaa rfl|apply qaf rfl|apply qab);done)|exact qao _ _|exact qai _|exact qan _|exact qad|exact qag|exact qae|exact qac|exact qah _|exact qau _ (by omega)|exact qat (by omega)|exact qas (by omega)|exact rfl|assumption|apply qav)|((first|apply qa3|apply qaq|apply qak)<;>first|(apply qam;(repeat' first|assumption|exact qaa rfl|apply qaf rfl|apply qab);done)|exact qao _ _|exact qai _|exact qan _|exact qad|exact qag|exact qae|exact qac|exact qah _|exact qau _ (by omega)|exact qat (by omega)|exact qas (by omega)|exact rfl|assumption|apply qav)|(apply qa2 rfl rfl;(focus (repeat' first|assumption|exact qaa rfl|apply qaf rfl|apply qab);done))|(apply qbj rfl rfl;(focus (repeat' first|assumption|exact qaa rfl|apply qaf rfl|apply qab);done);exact rfl)))
          apply qdg (x.lines.length - (i + 1)) (by omega)
          refine ⟨i + 1, rfl, by omega, by (repeat' first|assumption|exact qaa rfl|apply qaf rfl|apply qab), by (repeat' first|assumption|exact qaa rfl|apply qaf rfl|apply qab), by (repeat' first|assumption|exact qaa rfl|apply qaf rfl|apply qab), by (repeat' first|assumption|exact qaa rfl|apply qaf rfl|apply qab), by (repeat' first|assumption|exact qaa rfl|apply qaf rfl|apply qab), kq.trans k6, ?_⟩
          rw [hst]
          intro y hy
          rcases List.mem_append.1 hy with hy | hy
          · exact hall y hy
          · simp at hy; subst hy; exact e
      · intro cc
        have : i = x.lines.length := by
          have : ¬ i < x.lines.length := by simpa using cc
          omega
        subst this
        rw [List.take_length] at hall
        (repeat (first|refine KW.go ?_|((first|apply qaw|apply qaz|apply qa1|apply qa4|apply qay|apply qax|apply qar|apply qal|apply qaj|apply qap)<;>first|(apply qam;(repeat' first|assumption|exact qaa rfl|apply qaf rfl|apply qab);done)|exact qao _ _|exact qai _|exact qan _|exact qad|exact qag|exact qae|exact qac|exact qah _|exact qau _ (by omega)|exact qat (by omega)|exact qas (by omega)|exact rfl|assumption|apply qav)|((first|apply qa3|apply qaq|apply qak)<;>first|(apply qam;(repeat' first|assumption|exact qaa rfl|apply qaf rfl|apply qab);done)|exact qao _ _|exact qai _|exact qan _|exact qad|exact qag|exact qae|exact qac|exact qah _|exact qau _ (by omega)|exact qat (by omega)|exact qas (by omega)|exact rfl|assumption|apply qav)|(apply qa2 rfl rfl;(focus (repeat' first|assumption|exact qaa rfl|apply qaf rfl|apply qab);done))|(apply qbj rfl rfl;(focus (repeat' first|assumption|exact qaa rfl|apply qaf rfl|apply qab);done);exact rfl)))
        apply O_build
        · exact qcc
        · rfl
        apply qcj
        · (focus first|(apply qam;(repeat' first|assumption|exact qaa rfl|apply qaf rfl|apply qab);done)|exact qao _ _|exact qai _|exact qan _|exact qad|exact qag|exact qae|exact qac|exact qah _)
        · (focus first|(apply qam;(repeat' first|assumption|exact qaa rfl|apply qaf rfl|apply qab);done)|exact qao _ _|exact qai _|exact qan _|exact qad|exact qag|exact qae|exact qac|exact qah _)
        · exact r3.keep kq
        · rfl
        intro g7 kb7 r7
        refine ⟨Undis.off rfl, ?_⟩
        (repeat (first|refine KW.go ?_|((first|apply qaw|apply qaz|apply qa1|apply qa4|apply qay|apply qax|apply qar|apply qal|apply qaj|apply qap)<;>first|(apply qam;(repeat' first|assumption|exact qaa rfl|apply qaf rfl|apply qab);done)|exact qao _ _|exact qai _|exact qan _|exact qad|exact qag|exact qae|exact qac|exact qah _|exact qau _ (by omega)|exact qat (by omega)|exact qas (by omega)|exact rfl|assumption|apply qav)|((first|apply qa3|apply qaq|apply qak)<;>first|(apply qam;(repeat' first|assumption|exact qaa rfl|apply qaf rfl|apply qab);done)|exact qao _ _|exact qai _|exact qan _|exact qad|exact qag|exact qae|exact qac|exact qah _|exact qau _ (by omega)|exact qat (by omega)|exact qas (by omega)|exact rfl|assumption|apply qav)|(apply qa2 rfl rfl;(focus (repeat' first|assumption|exact qaa rfl|apply qaf rfl|apply qab);done))|(apply qbj rfl rfl;(focus (repeat' first|assumption|exact qaa rfl|apply qaf rfl|apply qab);done);exact rfl)))
        apply R_res_agg rfl
        · (repeat' first|assumption|exact qaa rfl|apply qaf rfl|apply qab)
        · exact r7
        · rfl
        · rfl
        refine ⟨KeepBut.keep (k.trans kq) kb7 fun i hi => w.get (by have := k1.next; have := k2.next; omega), ?_⟩
        have hf : x.lines.find? (fun l => decide (l.term = p.term)) = none := List.find?_eq_none.2 (fun y hy => by simpa using hall y hy)
        simp [ofZ, c, hf, splice, acells, noLin, noTrm]
end Go.Am
