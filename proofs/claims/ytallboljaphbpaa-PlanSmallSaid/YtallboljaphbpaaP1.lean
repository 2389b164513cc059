/- The A-machine: calls. It holds no program. -/
import GoSem.Step
import Derived.Control
import Derived.CallsIn
import Derived.Below
import Derived.Laws.World
import Derived.Deep.Draws
import Derived.RangeFuncRecord
import Derived.Laws.Cells
import Derived.Laws.Sem
import Derived.Laws.Entries
import Derived.Laws.CopyRow
import Derived.ChangeKeysEq
import Derived.MapKept
import Derived.Laws.StructEq
import Derived.Laws.AppendOwn
import Derived.Laws.MakeOwn
import Derived.OrdersIn
import Derived.RangeFuncNested
set_option linter.unusedVariables false
set_option linter.unusedSimpArgs false
namespace Go.Am
open Go

/-! ### A map from numbers, as a tree (quick for the kernel) -/
inductive Tm (α : Type) where
  | leaf
  | node (l : Tm α) (v : Option α) (r : Tm α)

def even (m : Nat) : Bool := Nat.beq (m % 2) 0
theorem even_iff (m : Nat) : even m = true ↔ m % 2 = 0 := by simp [even]
theorem even_false (m : Nat) : even m = false ↔ m % 2 = 1 := by
  rw [← Bool.not_eq_true, even_iff]; omega

namespace Tm
variable {α : Type}
def get : Tm α → Nat → Option α
  | .leaf, _ => none
  | .node _ v _, 0 => v
  | .node l _ r, m + 1 => cond (even m) (l.get (m / 2)) (r.get (m / 2))
def put : Nat → Tm α → Nat → Option α → Tm α
  | _, .leaf, 0, x => .node .leaf x .leaf
  | _, .node l _ r, 0, x => .node l x r
  | 0, t, _ + 1, _ => t
  | f + 1, .leaf, m + 1, x => cond (even m) (.node (put f .leaf (m / 2) x) none .leaf) (.node .leaf none (put f .leaf (m / 2) x))
  | f + 1, .node l v r, m + 1, x => cond (even m) (.node (put f l (m / 2) x) v r) (.node l v (put f r (m / 2) x))
def set (t : Tm α) (n : Nat) (x : Option α) : Tm α := put n t n x
theorem get_leaf (n : Nat) : (leaf : Tm α).get n = none := by cases n <;> rfl
theorem get_put (f : Nat) : ∀ (t : Tm α) (n : Nat) (x : Option α) (m : Nat), n ≤ f → (put f t n x).get m = if m = n then x else t.get m := by
  induction f with
  | zero =>
    intro t n x m hn
    obtain rfl : n = 0 := by omega
    cases t <;> cases m <;> simp [put, get]
  | succ f ih =>
    intro t n x m hn
    cases n with
    | zero => cases t <;> cases m <;> simp [put, get]
    | succ n =>
      have hd : n / 2 ≤ f := by omega
      have key : ∀ (l r : Tm α) (v : Option α), (cond (even n) (Tm.node (put f l (n / 2) x) v r) (Tm.node l v (put f r (n / 2) x))).get m = if m = n + 1 then x else (Tm.node l v r).get m := by
        intro l r v
        cases hb : even n <;> simp only [cond_true, cond_false]
        · rw [even_false] at hb
          cases m with
          | zero => simp [get]
          | succ m =>
            simp only [get, ih _ _ _ _ hd]
            cases hc : even m <;> simp only [cond_true, cond_false]
            · rw [even_false] at hc
              by_cases e : m = n
              · subst e; simp
              · rw [if_neg (by omega), if_neg (by omega)]
            · rw [even_iff] at hc
              rw [if_neg (by omega)]
        · rw [even_iff] at hb
          cases m with
          | zero => simp [get]
          | succ m =>
            simp only [get, ih _ _ _ _ hd]
            cases hc : even m <;> simp only [cond_true, cond_false]
            · rw [even_false] at hc
              rw [if_neg (by omega)]
            · rw [even_iff] at hc
              by_cases e : m = n
              · subst e; simp
              · rw [if_neg (by omega), if_neg (by omega)]
      cases t with
      | leaf =>
        have := key .leaf .leaf none
        rw [put, this]
        cases m <;> simp [get]
      | node l v r => rw [put]; exact key l r v
theorem get_set (t : Tm α) (n : Nat) (x : Option α) (m : Nat) : (t.set n x).get m = if m = n then x else t.get m := get_put n t n x m (Nat.le_refl n)
end Tm

/-! ### Abstract values -/
/-- what is known of a slice that nobody writes any more: it is nil; it is not nil, and has no room; it has no room; nothing -/
inductive SK where
  | nil | full | tight | any
  deriving DecidableEq

inductive AV where
  | undef
  | bool (b : Bool)
  | int (k : IntKind) (n : Int)
  | str (s : List UInt8)
  | nilptr
  | ptr (id ver off : Nat)
  | iptr (cells : List AV)
  | sl (k : SK) (n : Nat) (cells : List AV)
  /-- a slice of values of one cell each, of which the order is not known -/
  | bag (cells : List AV)
  | own (id ver off n : Nat)
  | nilmap
  | mapv (id : Nat)
  | nilfunc
  | func (fn : Fn) (first captured : List AV)
  | niliface
  | iface (t : TypeId) (v : AV)
  | agg (cells : List AV)
  | tuple (vs : List AV)

instance : Inhabited AV := ⟨.undef⟩

inductive Body where
  | row (esz : Nat) (cells : List AV) (fix : Bool)
  | map (es : List (AV × AV))
  | loop (fn : FuncId) (nt : Nat) (T : Tm AV) (params : List Tmp) (assign body : Code) (st : LoopState) (pending : Option Code)
  | siter (s : List UInt8) (pos : Nat)

structure AObj where
  ver : Nat
  stamp : Nat
  body : Body

structure Hp where
  obj : Tm AObj
  next : Nat

abbrev Hp.get (h : Hp) (id : Nat) : Option AObj := h.obj.get id

def Hp.WF (h : Hp) : Prop := ∀ id o, h.get id = some o → id < h.next

/-- what is not written is as it was -/
def Fr (h h' : Hp) : Prop := ∀ id o o', h.get id = some o → h'.get id = some o' → o.stamp ≤ o'.stamp ∧ o.ver ≤ o'.ver ∧ (o.stamp = o'.stamp → o = o')

/-- the numbers that a run hands out are free -/
def Fresh (h h' : Hp) : Prop := ∀ id, h.next ≤ id → id < h'.next → h.get id = none

/-- of whatever heap: nothing goes, and what comes has a number of its own -/
structure Dom (h h' : Hp) : Prop where
  next : h.next ≤ h'.next
  dom : ∀ id o', h'.get id = some o' → (∃ o, h.get id = some o) ∨ (h.next ≤ id ∧ id < h'.next)
  pers : ∀ id o, h.get id = some o → ∃ o', h'.get id = some o'

theorem Dom.refl (h : Hp) : Dom h h := ⟨Nat.le_refl _, fun _ o' ho => .inl ⟨o', ho⟩, fun _ o ho => ⟨o, ho⟩⟩
theorem Dom.trans {h h1 h2 : Hp} (a : Dom h h1) (b : Dom h1 h2) : Dom h h2 where
  next := Nat.le_trans a.next b.next
  dom := fun id o' ho => by
    have := a.next
    have := b.next
    rcases b.dom id o' ho with ⟨o, h1'⟩ | h1'
    · rcases a.dom id o h1' with h2' | h2'
      · exact .inl h2'
      · exact .inr ⟨h2'.1, by omega⟩
    · exact .inr ⟨by omega, h1'.2⟩
  pers := fun id o ho => by obtain ⟨o1, h1'⟩ := a.pers id o ho; exact b.pers id o1 h1'

/-- what lies beside is kept, and does not matter -/
def Beside {α : Type} (run : Hp → Option (α × Hp)) (h : Hp) (a : α) (h' : Hp) : Prop :=
  ∀ g : Hp, g.next = h.next → (∀ id o, h.get id = some o → g.get id = some o) →
    ∃ g', run g = some (a, g') ∧ g'.next = h'.next ∧ ∀ id, g'.get id = if (h.get id).isSome ∨ (h.next ≤ id ∧ id < h'.next) then h'.get id else g.get id

def Good {α : Type} (run : Hp → Option (α × Hp)) : Prop :=
  (∀ h a h', run h = some (a, h') → Dom h h') ∧ ∀ h a h', run h = some (a, h') → Fresh h h' → Fr h h' ∧ Beside run h a h'

structure AM (α : Type) where
  run : Hp → Option (α × Hp)
  good : Good run

theorem Fr.refl (h : Hp) : Fr h h := fun id o o' h1 h2 => by rw [h1] at h2; cases h2; exact ⟨Nat.le_refl _, Nat.le_refl _, fun _ => rfl⟩

theorem Fr.trans {h h1 h2 : Hp} (d : Dom h h1) (a : Fr h h1) (b : Fr h1 h2) : Fr h h2 := fun id o o' ho ho' => by
  obtain ⟨o1, h1'⟩ := d.pers id o ho
  have s1 := a id o o1 ho h1'
  have s2 := b id o1 o' h1' ho'
  refine ⟨Nat.le_trans s1.1 s2.1, Nat.le_trans s1.2.1 s2.2.1, fun e => ?_⟩
  have e1 : o.stamp = o1.stamp := by omega
  have e2 : o1.stamp = o'.stamp := by omega
  rw [s1.2.2 e1, s2.2.2 e2]

theorem Fresh.left {h h1 h2 : Hp} (F : Fresh h h2) (n : h1.next ≤ h2.next) : Fresh h h1 := fun id a b => F id a (Nat.lt_of_lt_of_le b n)
theorem Fresh.right {h h1 h2 : Hp} (F : Fresh h h2) (d : Dom h h1) : Fresh h1 h2 := fun id a b => by
  cases hq : h1.get id with
  | none => rfl
  | some o =>
    have := d.next
    rcases d.dom id o hq with ⟨o', ho'⟩ | ⟨_, h2⟩
    · rw [F id (by omega) b] at ho'; cases ho'
    · omega

namespace AM
variable {α β : Type}
protected def pure (a : α) : AM α where
  run h := some (a, h)
  good := ⟨fun h b h' e => by cases e; exact Dom.refl _, fun h b h' e _ => by
    simp only [Option.some.injEq, Prod.mk.injEq] at e
    obtain ⟨rfl, rfl⟩ := e
    refine ⟨Fr.refl _, fun g hn hg => ⟨g, rfl, hn, fun id => ?_⟩⟩
    split
    · rename_i hc
      rcases hc with hc | hc
      · obtain ⟨o, ho⟩ := Option.isSome_iff_exists.1 hc
        rw [ho, hg id o ho]
      · omega
    · rfl⟩
def fail : AM α where
  run _ := none
  good := ⟨fun _ _ _ e => (by cases e), fun _ _ _ e _ => (by cases e)⟩
protected def bind (m : AM α) (f : α → AM β) : AM β where
  run h := match m.run h with
    | none => none
    | some (a, h') => (f a).run h'
  good := ⟨fun h b h2 e => by
    dsimp only at e
    cases hm : m.run h with
    | none => rw [hm] at e; cases e
    | some p =>
      rw [hm] at e
      exact (m.good.1 h p.1 p.2 hm).trans ((f p.1).good.1 p.2 b h2 e), fun h b h2 e hF => by
    dsimp only at e
    cases hm : m.run h with
    | none => rw [hm] at e; cases e
    | some p =>
      obtain ⟨a, h1⟩ := p
      rw [hm] at e
      dsimp only at e
      have d1 := m.good.1 h a h1 hm
      have d2 := (f a).good.1 h1 b h2 e
      have := d1.next
      have := d2.next
      obtain ⟨f1, b1⟩ := m.good.2 h a h1 hm (hF.left d2.next)
      obtain ⟨f2, b2⟩ := (f a).good.2 h1 b h2 e (hF.right d1)
      refine ⟨f1.trans d1 f2, fun g hn hg => ?_⟩
      obtain ⟨g1, r1, n1, c1⟩ := b1 g hn hg
      have hg1 : ∀ id o, h1.get id = some o → g1.get id = some o := fun id o ho => by
        rw [c1 id, if_pos, ho]
        rcases d1.dom id o ho with ⟨o0, h0⟩ | h0
        · exact .inl (by rw [h0]; rfl)
        · exact .inr h0
      obtain ⟨g2, r2, n2, c2⟩ := b2 g1 n1 hg1
      refine ⟨g2, by dsimp only; rw [r1]; exact r2, n2, fun id => ?_⟩
      rw [c2 id]
      by_cases hA : (h1.get id).isSome = true ∨ h1.next ≤ id ∧ id < h2.next
      · rw [if_pos hA, if_pos]
        rcases hA with hA | hA
        · obtain ⟨o, ho⟩ := Option.isSome_iff_exists.1 hA
          rcases d1.dom id o ho with ⟨o0, h0⟩ | h0
          · exact .inl (by rw [h0]; rfl)
          · exact .inr ⟨h0.1, by omega⟩
        · exact .inr ⟨by omega, hA.2⟩
      · rw [if_neg hA, c1 id]
        have h1n : h1.get id = none := by
          cases hq : h1.get id with
          | none => rfl
          | some o => exact absurd (.inl (by rw [hq]; rfl)) hA
        have h2n : h2.get id = none := by
          cases hq : h2.get id with
          | none => rfl
          | some o =>
            rcases d2.dom id o hq with ⟨o0, h0⟩ | h0
            · rw [h1n] at h0; cases h0
            · exact absurd (.inr h0) hA
        by_cases hB : (h.get id).isSome = true ∨ h.next ≤ id ∧ id < h1.next
        · rw [if_pos hB, if_pos, h1n, h2n]
          rcases hB with hB | hB
          · exact .inl hB
          · exact .inr ⟨hB.1, by omega⟩
        · rw [if_neg hB, if_neg]
          rintro (hC | hC)
          · exact hB (.inl hC)
          · by_cases hlt : id < h1.next
            · exact hB (.inr ⟨hC.1, hlt⟩)
            · exact hA (.inr ⟨by omega, hC.2⟩)⟩

instance : Monad AM where
  pure := AM.pure
  bind := AM.bind

theorem run_pure (a : α) (h : Hp) : (pure a : AM α).run h = some (a, h) := rfl
theorem run_bind (m : AM α) (f : α → AM β) (h : Hp) : (m >>= f).run h = match m.run h with
    | none => none
    | some (a, h') => (f a).run h' := rfl
theorem run_fail (h : Hp) : (fail : AM α).run h = none := rfl

def ofOption : Option α → AM α
  | some a => AM.pure a
  | none => fail
def guard (b : Bool) : AM Unit := cond b (AM.pure ()) fail

/-- reads an object -/
def hget (id : Nat) : AM AObj where
  run h := match h.get id with
    | some o => some (o, h)
    | none => none
  good := ⟨fun h a h' e => by
    dsimp only at e
    cases ho : h.get id with
    | none => rw [ho] at e; cases e
    | some o => rw [ho] at e; cases e; exact Dom.refl _, fun h a h' e _ => by
    dsimp only at e
    cases ho : h.get id with
    | none => rw [ho] at e; cases e
    | some o =>
      rw [ho] at e
      simp only [Option.some.injEq, Prod.mk.injEq] at e
      obtain ⟨rfl, rfl⟩ := e
      refine ⟨Fr.refl _, fun g hn hg => ⟨g, by dsimp only; rw [hg id o ho], hn, fun id' => ?_⟩⟩
      split
      · rename_i hc
        rcases hc with hc | hc
        · obtain ⟨o, ho⟩ := Option.isSome_iff_exists.1 hc
          rw [ho, hg id' o ho]
        · omega
      · rfl⟩

/-- writes an object that is there -/
def hput (id ver : Nat) (b : Body) : AM Unit where
  run h := match h.get id with
    | some o => cond (Nat.ble o.ver ver) (some ((), ⟨h.obj.set id (some ⟨ver, o.stamp + 1, b⟩), h.next⟩)) none
    | none => none
  good := ⟨fun h a h' e => by
    dsimp only at e
    cases ho : h.get id with
    | none => rw [ho] at e; cases e
    | some o =>
      rw [ho] at e
      dsimp only at e
      cases hv : Nat.ble o.ver ver with
      | false => rw [hv] at e; cases e
      | true =>
        rw [hv] at e
        cases e
        have hget : ∀ i, (⟨h.obj.set id (some ⟨ver, o.stamp + 1, b⟩), h.next⟩ : Hp).get i = if i = id then some ⟨ver, o.stamp + 1, b⟩ else h.get i := fun i => Tm.get_set _ _ _ _
        refine ⟨Nat.le_refl _, fun i o' h' => ?_, fun i o' h' => ?_⟩
        · rw [hget] at h'
          split at h'
          · rename_i e; subst e; exact .inl ⟨o, ho⟩
          · exact .inl ⟨o', h'⟩
        · rw [hget]
          split
          · exact ⟨_, rfl⟩
          · exact ⟨o', h'⟩, fun h a h' e _ => by
    dsimp only at e
    cases ho : h.get id with
    | none => rw [ho] at e; cases e
    | some o =>
      rw [ho] at e
      dsimp only at e
      cases hv : Nat.ble o.ver ver with
      | false => rw [hv] at e; cases e
      | true =>
        rw [hv] at e
        simp only [cond_true, Option.some.injEq, Prod.mk.injEq] at e
        obtain ⟨-, rfl⟩ := e
        have hget : ∀ i, (⟨h.obj.set id (some ⟨ver, o.stamp + 1, b⟩), h.next⟩ : Hp).get i = if i = id then some ⟨ver, o.stamp + 1, b⟩ else h.get i := fun i => Tm.get_set _ _ _ _
        refine ⟨fun i o1 o2 h1 h2 => ?_, fun g hn hg => ?_⟩
        · rw [hget] at h2
          split at h2
          · rename_i e; subst e
            rw [ho] at h1
            cases h1; cases h2
            refine ⟨by simp, by simpa using hv, fun e => ?_⟩
            simp at e
          · rw [h1] at h2; cases h2; exact ⟨Nat.le_refl _, Nat.le_refl _, fun _ => rfl⟩
        · refine ⟨⟨g.obj.set id (some ⟨ver, o.stamp + 1, b⟩), g.next⟩, ?_, hn, fun i => ?_⟩
          · dsimp only; rw [hg id o ho]; dsimp only; rw [hv]; rfl
          · show (g.obj.set id _).get i = _
            rw [Tm.get_set, hget]
            by_cases e : i = id
            · subst e
              rw [if_pos rfl, if_pos rfl, if_pos]
              exact .inl (by rw [ho]; rfl)
            · rw [if_neg e, if_neg e]
              split
              · rename_i hc
                rcases hc with hc | hc
                · obtain ⟨o, ho⟩ := Option.isSome_iff_exists.1 hc
                  rw [ho]; exact hg i o ho
                · simp only at hc; omega
              · rfl⟩

/-- makes an object -/
def halloc (b : Body) : AM Nat where
  run h := some (h.next, ⟨h.obj.set h.next (some ⟨0, 0, b⟩), h.next + 1⟩)
  good := ⟨fun h a h' e => by
    cases e
    have hget : ∀ i, (⟨h.obj.set h.next (some ⟨0, 0, b⟩), h.next + 1⟩ : Hp).get i = if i = h.next then some ⟨0, 0, b⟩ else h.get i := fun i => Tm.get_set _ _ _ _
    refine ⟨Nat.le_succ _, fun i o' h' => ?_, fun i o' h' => ?_⟩
    · rw [hget] at h'
      split at h'
      · rename_i e; subst e; exact .inr ⟨Nat.le_refl _, Nat.lt_succ_self _⟩
      · exact .inl ⟨o', h'⟩
    · rw [hget]
      split
      · exact ⟨_, rfl⟩
      · exact ⟨o', h'⟩, fun h a h' e hF => by
    dsimp only at e
    simp only [Option.some.injEq, Prod.mk.injEq] at e
    obtain ⟨rfl, rfl⟩ := e
    have hget : ∀ i, (⟨h.obj.set h.next (some ⟨0, 0, b⟩), h.next + 1⟩ : Hp).get i = if i = h.next then some ⟨0, 0, b⟩ else h.get i := fun i => Tm.get_set _ _ _ _
    refine ⟨fun i o1 o2 h1 h2 => ?_, fun g hn hg => ?_⟩
    · rw [hget] at h2
      split at h2
      · rename_i e; subst e; rw [hF _ (Nat.le_refl _) (Nat.lt_succ_self _)] at h1; cases h1
      · rw [h1] at h2; cases h2; exact ⟨Nat.le_refl _, Nat.le_refl _, fun _ => rfl⟩
    · refine ⟨⟨g.obj.set g.next (some ⟨0, 0, b⟩), g.next + 1⟩, by dsimp only; rw [hn], by dsimp only; rw [hn], fun i => ?_⟩
      show (g.obj.set g.next _).get i = _
      rw [Tm.get_set, hget, hn]
      by_cases e : i = h.next
      · subst e; rw [if_pos rfl, if_pos rfl, if_pos]; exact .inr ⟨Nat.le_refl _, Nat.lt_succ_self _⟩
      · rw [if_neg e, if_neg e]
        split
        · rename_i hc
          rcases hc with hc | hc
          · obtain ⟨o, ho⟩ := Option.isSome_iff_exists.1 hc
            rw [ho]; exact hg i o ho
          · simp only at hc; omega
        · rfl⟩
end AM
end Go.Am
namespace Go.Am
open Go

def ofCell : Value → AV
  | .bool b => .bool b
  | .int k n => .int k n
  | .string s => .str s.data.toList
  | .pointer none => .nilptr
  | .slice none 0 0 => .sl .nil 0 []
  | .map none => .nilmap
  | .nilFunc => .nilfunc
  | .func (.func f) ⟨[]⟩ ⟨[]⟩ => .func (.func f) [] []
  | .nilIface => .niliface
  | .tuple ⟨[]⟩ => .tuple []
  | _ => .undef
def ofVal : Value → AV
  | .agg cs => .agg (cs.toList.map ofCell)
  | .iface t v => .iface t (ofCell v)
  | v => ofCell v

abbrev qag := Tm AV
def qay (T : qag) (t : Nat) : AV := (T.get t).getD (.tuple [])
def qa2 (nt : Nat) (T : qag) (t : Nat) (v : AV) : qag := cond (Nat.blt t nt) (T.set t (some v)) T
def qa2? (nt : Nat) (T : qag) (t : Option Nat) (v : AV) : qag := match t with
  | some t => qa2 nt T t v
  | none => T
def qaj (T : qag) : Operand → AV
  | .tmp t => qay T t
  | .const v => ofVal v
  | .global _ => .undef
  | .func f => .func (.func f) [] []

def acells : AV → List AV
  | .agg cs => cs
  | v => [v]

def szOf (P : Program) (t : TypeId) : AM Nat := AM.ofOption ((P.info? t).map (·.size))
def bytesOf (P : Program) (t : TypeId) : AM Nat := AM.ofOption ((P.info? t).map (·.bytes))
def underOf (P : Program) (t : TypeId) : AM TypeDesc := AM.ofOption (P.underlying t)
def elemOf (P : Program) (t : TypeId) : AM TypeId := match P.underlying t with
  | some (.slice e) => pure e
  | _ => AM.fail
def aggB : TypeDesc → Bool
  | .struct _ | .array _ _ => true
  | _ => false
def zeroOf (P : Program) (t : TypeId) : AM AV := match P.info? t with
  | some i => match i.zero with
    | some v => pure (ofVal v)
    | none => AM.fail
  | none => AM.fail

/-- values of one cell, of which it is known -/
def one : AV → Bool
  | .agg _ | .tuple _ | .undef => false
  | _ => true
def ones (l : List AV) : Bool := l.all one
def known : AV → Bool
  | .undef => false
  | _ => true

/-- the value of a variable of a type at the head of some cells -/
def aread (P : Program) (t : TypeId) (cells : List AV) : AM AV := do
  let d ← underOf P t
  match aggB d with
  | true => do
    let n ← szOf P t
    AM.guard (Nat.ble n cells.length)
    pure (.agg (cells.take n))
  | false => AM.ofOption cells.head?

/-- the row of an object that is not stale, and its object -/
def rowOf (id ver : Nat) : AM (Nat × List AV × Bool) := do
  let o ← AM.hget id
  AM.guard (Nat.beq o.ver ver)
  match o.body with
  | .row esz cells fix => pure (esz, cells, fix)
  | _ => AM.fail

def splice (cells : List AV) (off : Nat) (vs : List AV) : List AV := cells.take off ++ vs ++ cells.drop (off + vs.length)

def aload (P : Program) (t : TypeId) : AV → AM AV
  | .iptr cells => aread P t cells
  | .ptr id ver off => do
    let (_, cells, _) ← rowOf id ver
    aread P t (cells.drop off)
  | _ => AM.fail

def astore (P : Program) (t : TypeId) (a v : AV) : AM Unit :=
  match a with
  | .ptr id ver off => do
    let (esz, cells, fix) ← rowOf id ver
    let n ← szOf P t
    AM.guard (Nat.beq (acells v).length n && Nat.ble (off + n) cells.length && ones (acells v))
    AM.hput id ver (.row esz (splice cells off (acells v)) fix)
  | _ => AM.fail

def afill (place : Nat → Option (Nat × Nat)) (cells : List AV) : List (Nat × AV) → AM (List AV)
  | [] => pure cells
  | (i, v) :: rest =>
    match place i with
    | none => AM.fail
    | some (off, size) => do
      AM.guard (Nat.beq (acells v).length size && Nat.ble (off + size) cells.length && known v)
      afill place (splice cells off (acells v)) rest

def fieldAt (P : Program) (t : TypeId) (f : Nat) : AM Field := match P.underlying t with
  | some (.struct fs) => AM.ofOption fs.toList[f]?
  | _ => AM.fail

def abuild (P : Program) (t : TypeId) (parts : List (Nat × AV)) : AM AV := do
  let z ← zeroOf P t
  match P.underlying t with
  | some (.struct fs) => do
    AM.guard (fs.toList.all fun f => (P.info? f.type).isSome)
    let cells ← afill (fun i => (fs.toList[i]?).bind fun f => (P.info? f.type).map fun n => (f.offset, n.size)) (acells z) parts
    pure (.agg cells)
  | some (.array _ e) => do
    let n ← szOf P e
    let cells ← afill (fun i => some (i * n, n)) (acells z) parts
    pure (.agg cells)
  | _ => AM.fail

def qan (z : List AV) : Nat → List AV
  | 0 => []
  | n + 1 => z ++ qan z n

def zeroUnless (P : Program) (e : TypeId) : Nat → AM AV
  | 0 => pure (.agg [])
  | _ => zeroOf P e
def qc3 (P : Program) (t : TypeId) (len : Nat) (parts : List (Nat × AV)) : AM (Nat × List AV) := do
  let e ← elemOf P t
  let n ← szOf P e
  AM.guard (Nat.ble (len * n) 16777216)
  let z ← zeroUnless P e len
  AM.guard (Nat.beq len 0 || Nat.beq (acells z).length n)
  let cells ← afill (fun i => some (i * n, n)) (qan (acells z) len) parts
  pure (n, cells)

def aintop (op : BinOp) (k : IntKind) (x y : Int) : AM AV :=
  match op with
  | .add => pure (.int k (k.wrap (x + y)))
  | .sub => pure (.int k (k.wrap (x - y)))
  | .mul => pure (.int k (k.wrap (x * y)))
  | .quo => if y = 0 then AM.fail else pure (.int k (k.wrap (x.tdiv y)))
  | .rem => if y = 0 then AM.fail else pure (.int k (x.tmod y))
  | .and => pure (.int k (k.wrap (BitVec.ofInt k.bits x &&& BitVec.ofInt k.bits y).toNat))
  | .or => pure (.int k (k.wrap (BitVec.ofInt k.bits x ||| BitVec.ofInt k.bits y).toNat))
  | .xor => pure (.int k (k.wrap (BitVec.ofInt k.bits x ^^^ BitVec.ofInt k.bits y).toNat))
  | .andNot => pure (.int k (k.wrap (BitVec.ofInt k.bits x &&& ~~~BitVec.ofInt k.bits y).toNat))
  | .eql => pure (.bool (x == y))
  | .neq => pure (.bool (x != y))
  | .lss => pure (.bool (decide (x < y)))
  | .leq => pure (.bool (decide (x ≤ y)))
  | .gtr => pure (.bool (decide (x > y)))
  | .geq => pure (.bool (decide (x ≥ y)))
  | _ => AM.fail
def ashift (op : BinOp) (k : IntKind) (x y : Int) : AM AV :=
  if y < 0 then AM.fail else
  match op with
  | .shl => pure (.int k (k.wrap (x * 2 ^ (min y.toNat k.bits))))
  | .shr => pure (.int k (x.fdiv (2 ^ (min y.toNat k.bits))))
  | _ => AM.fail
def maxInt : Nat := 9223372036854775807
def astrop (op : BinOp) (x y : List UInt8) : AM AV :=
  match op with
  | .add => do
    AM.guard (Nat.ble (x.length + y.length) maxInt)
    pure (.str (x ++ y))
  | .eql => pure (.bool (x == y))
  | .neq => pure (.bool !(x == y))
  | .lss => pure (.bool (Op.bytesLess x y))
  | .leq => pure (.bool (Op.bytesLess x y || x == y))
  | .gtr => pure (.bool !(Op.bytesLess x y || x == y))
  | .geq => pure (.bool !(Op.bytesLess x y))
  | _ => AM.fail

/-- a part of a struct or an array -/
def apart (P : Program) (t : TypeId) (cells : List AV) (off : Nat) : Option AV := match P.underlying t with
  | some d => match aggB d with
    | true => match P.info? t with
      | some i => some (.agg ((cells.drop off).take i.size))
      | none => none
    | false => cells[off]?
  | none => none
def aeqFields (P : Program) (eq : TypeId → AV → AV → Option Bool) (xs ys : List AV) : List Field → Option Bool
  | [] => some true
  | f :: r => match f.name == "_", apart P f.type xs f.offset, apart P f.type ys f.offset with
    | false, some a, some b => match eq f.type a b with
      | some true => aeqFields P eq xs ys r
      | some false => some false
      | none => none
    | _, _, _ => none
def aeqIn (P : Program) : Nat → TypeId → AV → AV → Option Bool
  | 0, _, _, _ => none
  | d + 1, t, x, y => match P.underlying t, x, y with
    | some .bool, .bool a, .bool b => some (a == b)
    | some (.int _), .int k a, .int k' b => if k = k' then some (a == b) else none
    | some .string, .str a, .str b => some (a == b)
    | some (.struct fs), .agg xs, .agg ys => cond (P.stoodInHeld t) none (aeqFields P (aeqIn P d) xs ys fs.toList)
    | _, _, _ => none

def isNil : AV → Bool
  | .nilptr | .nilmap | .nilfunc | .sl .nil _ _ => true
  | _ => false
/-- is a value of a kind that has a nil it? -/
def nilKind : TypeDesc → AV → AM Bool
  | .pointer _, .nilptr => pure true
  | .pointer _, .iptr _ => pure false
  | .pointer _, .ptr id ver _ => do let _ ← rowOf id ver; pure false
  | .slice _, .sl .nil _ _ => pure true
  | .slice _, .sl .full _ _ => pure false
  | .slice _, .sl _ n _ => match n with
    | 0 => AM.fail
    | _ => pure false
  | .slice _, .own id ver _ _ => do let _ ← rowOf id ver; pure false
  | .map _ _, .nilmap => pure true
  | .map _ _, .mapv id => do let _ ← AM.hget id; pure false
  | .func _ _ _, .nilfunc => pure true
  | .func _ _ _, .func (.func _) _ _ => pure false
  | _, _ => AM.fail

def aequal (P : Program) (t : TypeId) (x y : AV) : AM Bool :=
  match P.underlying t with
  | some .bool | some (.struct _) => do
    AM.guard (!(P.eqGuardType P.depth t))
    AM.ofOption (aeqIn P 9 t x y)
  | some d => do
    let a ← nilKind d x
    let b ← nilKind d y
    AM.guard (isNil x || isNil y)
    pure (a == b)
  | none => AM.fail

def abin (P : Program) (op : BinOp) (t : TypeId) (x y : AV) : AM AV :=
  match op, x, y with
  | .shl, .int k a, .int _ b => ashift .shl k a b
  | .shr, .int k a, .int _ b => ashift .shr k a b
  | op, .int k a, .int k' b => if k = k' then aintop op k a b else AM.fail
  | op, .str a, .str b => astrop op a b
  | .eql, x, y => do let b ← aequal P t x y; pure (.bool b)
  | .neq, x, y => do let b ← aequal P t x y; pure (.bool !b)
  | _, _, _ => AM.fail

def aun (op : UnOp) : AV → AM AV
  | .bool b => match op with
    | .not => pure (.bool !b)
    | _ => AM.fail
  | .int k n => match op with
    | .neg => pure (.int k (k.wrap (0 - n)))
    | .xor => aintop .xor k (if k.signed then -1 else k.max) n
    | _ => AM.fail
  | _ => AM.fail

def bytesAV (s : List UInt8) : List AV := s.map fun b => .int .u8 b.toNat
def avByte : AV → Option UInt8
  | .int .u8 n => some (UInt8.ofNat n.toNat)
  | _ => none
def avBytes : List AV → Option (List UInt8)
  | [] => some []
  | x :: r => match avByte x, avBytes r with
    | some b, some l => some (b :: l)
    | _, _ => none

def aconvert (P : Program) (src dst : TypeId) (x : AV) : AM AV :=
  match P.underlying src, P.underlying dst, x with
  | some _, some (.int k), .int _ n => pure (.int k (k.wrap n))
  | some _, some .string, .str s => pure (.str s)
  | _, _, _ => AM.fail

def afieldAddr (P : Program) (s : TypeId) (x : AV) (f : Nat) : AM AV := do
  let fd ← fieldAt P s f
  let n ← szOf P fd.type
  AM.guard (!(Nat.beq n 0))
  match x with
  | .ptr id ver off => pure (.ptr id ver (off + fd.offset))
  | .iptr cells => do
    AM.guard (Nat.ble fd.offset cells.length)
    pure (.iptr (cells.drop fd.offset))
  | _ => AM.fail

def afield (P : Program) (s : TypeId) (x : AV) (f : Nat) : AM AV := do
  let fd ← fieldAt P s f
  match x with
  | .agg cells => do
    AM.guard (Nat.ble fd.offset cells.length)
    aread P fd.type (cells.drop fd.offset)
  | _ => AM.fail

def within (i : Int) (n : Nat) : Bool := decide (0 ≤ i ∧ i < n)

def aindexAddr (P : Program) (t : TypeId) (x i : AV) : AM AV :=
  match i with
  | .int _ i => match P.underlying t, x with
    | some (.slice e), .sl _ n cells => do
      let sz ← szOf P e
      AM.guard (within i n && Nat.beq (n * sz) cells.length && !(Nat.beq sz 0))
      pure (.iptr (cells.drop (i.toNat * sz)))
    | some (.slice e), .own id ver off n => do
      let sz ← szOf P e
      let (_, cells, _) ← rowOf id ver
      AM.guard (within i n && Nat.ble (off + n * sz) cells.length)
      pure (.ptr id ver (off + i.toNat * sz))
    | some (.array n e), .iptr cells => do
      let sz ← szOf P e
      AM.guard (within i n && Nat.ble (n * sz) cells.length)
      pure (.iptr (cells.drop (i.toNat * sz)))
    | some (.array n e), .ptr id ver off => do
      let sz ← szOf P e
      AM.guard (within i n)
      pure (.ptr id ver (off + i.toNat * sz))
    | _, _ => AM.fail
  | _ => AM.fail

def aindex (P : Program) (t : TypeId) (x i : AV) : AM AV :=
  match i with
  | .int _ i => match P.underlying t, x with
    | some (.array n e), .agg cells => do
      let sz ← szOf P e
      AM.guard (within i n && Nat.ble (i.toNat * sz) cells.length)
      aread P e (cells.drop (i.toNat * sz))
    | some .string, .str s => do
      AM.guard (within i s.length)
      let b ← AM.ofOption s[i.toNat]?
      pure (.int .u8 b.toNat)
    | _, _ => AM.fail
  | _ => AM.fail

/-- a bound of a slice, or what it is if there is none -/
def abound (most other : Nat) : Option AV → AM Nat
  | some (.int _ i) => do
    AM.guard (decide (0 ≤ i ∧ i ≤ most))
    pure i.toNat
  | none => pure other
  | _ => AM.fail
/-- low and high bounds, up to a length that is known -/
def qcb (n m : Nat) (lo hi : Option AV) : AM (Nat × Nat) := do
  let h ← abound m n hi
  let l ← abound h 0 lo
  pure (l, h)

/-- up to which length a slice may be taken, of so many cells that are known -/
def roomIn (n off sz len : Nat) : Nat := cond (Nat.ble 1 n || Nat.beq off 0) (max n ((len - off) / sz)) n
def aslice (P : Program) (t : TypeId) (x : AV) (lo hi mx : Option AV) : AM AV :=
  match x, mx with
  | .str s, none => do
    let (l, h) ← qcb s.length s.length lo hi
    match P.underlying t with
    | some .string => pure (.str ((s.drop l).take (h - l)))
    | _ => AM.fail
  | .sl k n cells, none => do
    let e ← elemOf P t
    let sz ← szOf P e
    AM.guard (Nat.beq (n * sz) cells.length)
    let (l, h) ← qcb n n lo hi
    pure (.sl (match k with | .nil => .nil | .full => cond (Nat.beq h n) .full .any | .tight => cond (Nat.beq h n) .tight .any | .any => .any) (h - l) ((cells.drop (l * sz)).take ((h - l) * sz)))
  | .own id ver off n, none => do
    let e ← elemOf P t
    let sz ← szOf P e
    let (esz, cells, _) ← rowOf id ver
    AM.guard (Nat.beq esz sz && Nat.ble (off + n * sz) cells.length)
    let (l, h) ← qcb n (roomIn n off sz cells.length) lo hi
    pure (.own id ver (off + l * sz) (h - l))
  | .sl k _ _, some (.int _ 0) => match lo, hi with
    | none, some (.int _ 0) => do
      let e ← elemOf P t
      let _ ← szOf P e
      pure (.sl (match k with | .nil => .nil | _ => .tight) 0 [])
    | _, _ => AM.fail
  | .own id ver _ _, some (.int _ 0) => match lo, hi with
    | none, some (.int _ 0) => do
      let e ← elemOf P t
      let _ ← szOf P e
      let _ ← rowOf id ver
      pure (.sl .tight 0 [])
    | _, _ => AM.fail
  | _, _ => AM.fail

/-- keys of maps: texts and numbers -/
def keyEq : AV → AV → Option Bool
  | .int k a, .int k' b => if k = k' then some (a == b) else none
  | .str a, .str b => some (a == b)
  | .bool a, .bool b => some (a == b)
  | _, _ => none
def afind (k : AV) : List (AV × AV) → Option (Option AV)
  | [] => some none
  | (x, v) :: r => match keyEq k x with
    | some true => some (some v)
    | some false => afind k r
    | none => none
def aupd (k v : AV) : List (AV × AV) → List (AV × AV)
  | [] => [(k, v)]
  | (x, y) :: r => match keyEq k x with
    | some true => (k, v) :: r
    | _ => (x, y) :: aupd k v r
def adel (k : AV) : List (AV × AV) → List (AV × AV)
  | [] => []
  | (x, y) :: r => match keyEq k x with
    | some true => r
    | _ => (x, y) :: adel k r
def goodKey (P : Program) (t : TypeId) (k : AV) : Bool := match P.underlying t, k with
  | some (.int j), .int k _ => decide (j = k)
  | some .string, .str _ => true
  | _, _ => false

def mapOf (id : Nat) : AM (List (AV × AV)) := do
  let o ← AM.hget id
  match o.body with
  | .map es => pure es
  | _ => AM.fail

def entriesOf : AV → AM (List (AV × AV))
  | .nilmap => pure []
  | .mapv id => mapOf id
  | _ => AM.fail
def alookup (P : Program) (t : TypeId) (x k : AV) (ok : Bool) : AM AV :=
  match P.underlying t with
  | some (.map kt et) => do
    AM.guard (goodKey P kt k)
    let es ← entriesOf x
    let r ← AM.ofOption (afind k es)
    let z ← zeroOf P et
    let v := r.getD z
    pure (cond ok (.tuple [v, .bool r.isSome]) v)
  | _ => AM.fail

def amapUpdate (P : Program) (t : TypeId) (m k v : AV) : AM Unit :=
  match P.underlying t, m with
  | some (.map kt _), .mapv id => do
    AM.guard (goodKey P kt k)
    let o ← AM.hget id
    match o.body with
    | .map es => do
      let _ ← AM.ofOption (afind k es)
      AM.hput id o.ver (.map (aupd k v es))
    | _ => AM.fail
  | _, _ => AM.fail

/-! ### builtins -/
def alen (P : Program) (t : TypeId) (x : AV) : AM AV :=
  match P.underlying t with
  | some (.array n _) => pure (.int .i64 n)
  | some (.pointer a) => match P.underlying a with
    | some (.array n _) => pure (.int .i64 n)
    | _ => AM.fail
  | some .string => match x with
    | .str s => pure (.int .i64 s.length)
    | _ => AM.fail
  | some (.slice _) => match x with
    | .sl _ n _ => pure (.int .i64 n)
    | .own id ver _ n => do
      let _ ← rowOf id ver
      pure (.int .i64 n)
    | _ => AM.fail
  | some (.map _ _) => match x with
    | .nilmap => pure (.int .i64 0)
    | .mapv id => do
      let es ← mapOf id
      pure (.int .i64 es.length)
    | _ => AM.fail
  | _ => AM.fail

/-- the cells of a slice -/
def qb7 (sz : Nat) : AV → AM (Nat × List AV)
  | .sl _ n cells => do
    AM.guard (Nat.beq (n * sz) cells.length)
    pure (n, cells)
  | .own id ver off n => do
    let (_, cells, _) ← rowOf id ver
    AM.guard (Nat.ble (off + n * sz) cells.length)
    pure (n, (cells.drop off).take (n * sz))
  | _ => AM.fail

/-- the cells of what is appended, copied: a slice's, a text's -/
def qco (P : Program) (e : TypeId) (sz : Nat) : AV → AM (Nat × List AV)
  | .str l => do
    AM.guard (match P.underlying e with | some (.int .u8) => Nat.beq sz 1 | _ => false)
    pure (l.length, bytesAV l)
  | x => qb7 sz x

def room : Nat := 140737488355328

def aappend (sz bytes : Nat) (s : AV) (m : Nat) (new : List AV) : AM AV :=
  match s with
  | .sl k n cells => match m with
    | 0 => pure s
    | _ => do
      AM.guard (Nat.beq (n * sz) cells.length && Nat.ble ((n + m) * bytes) room && Nat.ble (n + m) maxInt && (match k with | .any => false | _ => true) && Nat.beq new.length (m * sz))
      let id ← AM.halloc (.row sz (cells ++ new) false)
      pure (.own id 0 0 (n + m))
  | .own id ver off n => do
    let (esz, cells, fix) ← rowOf id ver
    AM.guard (Nat.beq esz sz)
    match m with
    | 0 => pure s
    | _ => do
      AM.guard (Nat.beq off 0 && Nat.ble (n * sz) cells.length && Nat.ble ((n + m) * bytes) room && Nat.ble (n + m) maxInt && Nat.beq new.length (m * sz) && ones new)
      match Nat.ble ((n + m) * sz) cells.length with
      | true => do
        AM.hput id ver (.row esz (splice cells (n * sz) new) fix)
        pure (.own id ver 0 (n + m))
      | false => do
        AM.hput id (ver + 1) (.row esz (cells.take (n * sz) ++ new) false)
        pure (.own id (ver + 1) 0 (n + m))
  | _ => AM.fail

def aappendOp (P : Program) (types : List TypeId) (args : List AV) : AM AV :=
  match types, args with
  | t :: u :: _, s :: x :: _ => do
    let e ← elemOf P t
    let sz ← szOf P e
    let bytes ← bytesOf P e
    AM.guard (!(Nat.beq sz 0) && !(Nat.beq bytes 0))
    AM.guard (match P.underlying u with | some (.int _) => false | some _ => true | none => false)
    let z ← zeroOf P e
    AM.guard (Nat.beq (acells z).length sz)
    let (m, new) ← qco P e sz x
    aappend sz bytes s m new
  | _, _ => AM.fail

def aclear (P : Program) (types : List TypeId) (args : List AV) : AM AV :=
  match types, args with
  | t :: _, d :: _ => match P.underlying t, d with
    | some (.slice e), .own id ver off n => do
      let sz ← szOf P e
      let z ← zeroOf P e
      let (esz, cells, fix) ← rowOf id ver
      match n with
      | 0 => pure (.tuple [])
      | _ => do
        AM.guard (Nat.beq esz sz && Nat.ble (off + n * sz) cells.length && Nat.beq (acells z).length sz && ones (acells z))
        AM.hput id ver (.row esz (splice cells off (qan (acells z) n)) fix)
        pure (.tuple [])
    | some (.slice _), .sl _ n _ => match n with
      | 0 => pure (.tuple [])
      | _ => AM.fail
    | _, _ => AM.fail
  | _, _ => AM.fail

def amax2 (mx : Bool) : AV → AV → AM AV
  | .int k x, .int k' y => do
    AM.guard (decide (k = k'))
    pure (.int k (cond mx (if y > x then y else x) (if y < x then y else x)))
  | _, _ => AM.fail
def afold (mx : Bool) : AV → List AV → AM AV
  | x, [] => pure x
  | x, y :: r => do
    let z ← amax2 mx x y
    afold mx z r

def qck (P : Program) (b : Builtin) (types : List TypeId) (args : List AV) : AM AV :=
  match b, types, args with
  | .len, t :: _, x :: _ => alen P t x
  | .append, ts, xs => aappendOp P ts xs
  | .clear, ts, xs => aclear P ts xs
  | .max, _, x :: r => afold true x r
  | .min, _, x :: r => afold false x r
  | .cap, t :: _, x :: _ => match P.underlying t, x with
    | some (.slice _), .sl .nil _ _ => pure (.int .i64 0)
    | some (.slice _), .sl .full n _ => pure (.int .i64 n)
    | some (.slice _), .sl .tight n _ => pure (.int .i64 n)
    | some (.slice _), .own id ver off n => do
      let (esz, cells, fix) ← rowOf id ver
      AM.guard (fix && Nat.ble (off + n * esz) cells.length && !(Nat.beq esz 0) && (Nat.ble 1 n || Nat.beq off 0))
      pure (.int .i64 ((cells.length - off) / esz : Nat))
    | _, _ => AM.fail
  | _, _, _ => AM.fail

/-! ### one operation -/
structure Pol where
  /-- literals that are written later: the function, the slot -/
  lit : FuncId → Nat → Bool

abbrev qa6 := AV → List AV → AM AV

def aop (P : Program) (pol : Pol) (call : qa6) (fn : FuncId) (o : Oper) (ρ : Operand → AV) : AM AV :=
  match o.op with
  | .move x | .assign x => pure (ρ x)
  | .pick c a b => match ρ c with
    | .bool true => pure (ρ a)
    | .bool false => pure (ρ b)
    | _ => AM.fail
  | .alloc t => do
    let z ← zeroOf P t
    let id ← AM.halloc (.row (acells z).length (acells z) true)
    pure (.ptr id 0 0)
  | .box _ x => do
    AM.guard (known (ρ x))
    let id ← AM.halloc (.row (acells (ρ x)).length (acells (ρ x)) true)
    pure (.ptr id 0 0)
  | .build t parts => abuild P t (parts.toList.map fun (i, x) => (i, ρ x))
  | .buildSlice t len parts => do
    let (n, cells) ← qc3 P t len (parts.toList.map fun (i, x) => (i, ρ x))
    match pol.lit fn (o.dst.getD 0) with
    | true => do
      let id ← AM.halloc (.row n cells true)
      pure (.own id 0 0 len)
    | false => pure (.sl .full len cells)
  | .load t a => aload P t (ρ a)
  | .store t a x => do
    astore P t (ρ a) (ρ x)
    pure (.tuple [])
  | .nilCheck x => match ρ x with
    | .ptr id ver off => pure (.ptr id ver off)
    | .iptr cells => pure (.iptr cells)
    | _ => AM.fail
  | .binOp op t x y _ => abin P op t (ρ x) (ρ y)
  | .unOp op _ x => aun op (ρ x)
  | .convert s d x => aconvert P s d (ρ x)
  | .makeInterface t x => match P.underlying t with
    | some (.interface _) => AM.fail
    | some _ => pure (.iface t (ρ x))
    | none => AM.fail
  | .makeFunc (.func f) first captured => pure (.func (.func f) (first.toList.map ρ) (captured.toList.map ρ))
  | .makeMap _ none => do
    let id ← AM.halloc (.map [])
    pure (.mapv id)
  | .makeSlice t l c => match ρ l, ρ c with
    | .int .i64 l, .int .i64 c => do
      let e ← elemOf P t
      let sz ← szOf P e
      let bytes ← bytesOf P e
      let z ← zeroOf P e
      AM.guard (decide (0 ≤ l ∧ l ≤ c) && Nat.ble (c.toNat * bytes) room && Nat.ble c.toNat maxInt && Nat.beq (acells z).length sz && !(Nat.beq sz 0))
      let id ← AM.halloc (.row sz (qan (acells z) c.toNat) true)
      pure (.own id 0 0 l.toNat)
    | _, _ => AM.fail
  | .slice t x lo hi mx => aslice P t (ρ x) (lo.map ρ) (hi.map ρ) (mx.map ρ)
  | .fieldAddr s x f => afieldAddr P s (ρ x) f
  | .field s x f => afield P s (ρ x) f
  | .indexAddr t x i => aindexAddr P t (ρ x) (ρ i)
  | .index t x i => aindex P t (ρ x) (ρ i)
  | .lookup t x i ok => alookup P t (ρ x) (ρ i) ok
  | .mapUpdate t m k x | .insert t m k x => do
    amapUpdate P t (ρ m) (ρ k) (ρ x)
    pure (.tuple [])
  | .extract t i => match ρ t with
    | .tuple vs => AM.ofOption vs[i]?
    | _ => AM.fail
  | .call c => match c.callee with
    | .value f => call (ρ f) (c.args.toList.map ρ)
    | .builtin b => qck P b c.argTypes.toList (c.args.toList.map ρ)
    | .invoke _ _ => AM.fail
  | _ => AM.fail
end Go.Am
namespace Go.Am
open Go

/-! ### the order of a region's operations -/
/-- 0: reads at most; 1: makes an object at most; 2: whatever it likes -/
def qa5 (o : Op) : Nat := match o with
  | .alloc _ | .box _ _ | .makeMap _ _ | .makeSlice _ _ _ | .buildSlice _ _ _ => 1
  | .store _ _ _ | .mapUpdate _ _ _ _ | .insert _ _ _ _ => 2
  | .call c => match c.callee with
    | .builtin .len | .builtin .cap | .builtin .max | .builtin .min => 0
    | _ => 2
  | _ => 0

/-- which operations come ahead of an operation in whatever order: a number's digits -/
def edgeMask (acc : List Nat) (e : Edge) : Nat := cond (Region.binds .any e) (Nat.lor (2 ^ e.on) (acc.getD e.on 0)) 0
def maskOf (acc : List Nat) (o : Oper) : Nat := o.after.toList.foldl (fun s e => Nat.lor s (edgeMask acc e)) 0
def masks (ops : List Oper) : List Nat := ops.foldl (fun acc o => acc ++ [maskOf acc o]) []
def ahead (ms : List Nat) (i j : Nat) : Bool := Nat.testBit (ms.getD j 0) i

/-- the place of the first operation of a class that is left and may be taken -/
def pick1 (ops : List Oper) (ms : List Nat) (done : Nat) (c : Nat) (left : List Nat) : Option Nat :=
  left.find? fun i => (match ops[i]? with | some o => Nat.beq (qa5 o.op) c | none => false) && Nat.beq (Nat.land (ms.getD i 0) done) (ms.getD i 0)
def canonFrom (ops : List Oper) (ms : List Nat) : Nat → Nat → List Nat → List Nat
  | 0, _, _ => []
  | n + 1, done, left =>
    match pick1 ops ms done 0 left <|> pick1 ops ms done 2 left <|> pick1 ops ms done 1 left with
    | some i => i :: canonFrom ops ms n (Nat.lor done (2 ^ i)) (left.filter fun j => !(Nat.beq j i))
    | none => []
def canon (ops : List Oper) (ms : List Nat) : List Nat := canonFrom ops ms ops.length 0 (List.range ops.length)

def clsAt (ops : List Oper) (i : Nat) : Nat := match ops[i]? with
  | some o => qa5 o.op
  | none => 2
/-- may two operations that are not ordered stand so, the first ahead of the second? -/
def mayStand (ops : List Oper) (ms : List Nat) (i j : Nat) : Bool :=
  ahead ms i j || (match clsAt ops i, clsAt ops j with
    | 0, _ => true
    | _, 1 => true
    | _, _ => false)
/-- what an operation looks at -/
def looksAt (ops : List Oper) (o : Oper) : List Tmp :=
  (o.op.operands.toList.filterMap fun | .tmp t => some t | _ => none) ++
  (match o.guard with
   | some (g, _) => ((ops[g]?).bind (·.dst)).toList
   | none => [])
def inList (t : Tmp) : List Tmp → Bool
  | [] => false
  | u :: r => Nat.beq u t || inList t r
def dstIn (o : Oper) (l : List Tmp) : Bool := match o.dst with
  | some d => inList d l
  | none => false
/-- the second is taken after the first: what the first looked at stays, what it gave stays, and who looks at it is ordered -/
def tidy (ops : List Oper) (ms : List Nat) (i j : Nat) : Bool := match ops[i]?, ops[j]? with
  | some a, some b => !(dstIn b (looksAt ops a)) && !(dstIn b a.dst.toList) && (!(dstIn a (looksAt ops b)) || ahead ms i j)
  | _, _ => false
def standsFrom (ops : List Oper) (ms : List Nat) : List Nat → Bool
  | [] => true
  | i :: r => r.all (fun j => mayStand ops ms i j && !(ahead ms j i) && tidy ops ms i j && !(Nat.beq i j)) && standsFrom ops ms r
/-- what must come first comes first -/
def closedFrom (ops : List Oper) : List Nat → List Nat → Bool
  | _, [] => true
  | done, i :: r => (match ops[i]? with
    | some o => o.after.toList.all fun e => !(Region.binds .any e) || inList e.on done
    | none => false) && closedFrom ops (i :: done) r
/-- the order that is taken, if it may be -/
def orderOf (ops : List Oper) : Option (List Nat) :=
  let ms := masks ops
  let l := canon ops ms
  cond ((List.range ops.length).all (fun i => inList i l) && standsFrom ops ms l && closedFrom ops [] l) (some l) none

/-! ### regions -/
def qb2 : AV → List Nat
  | .ptr id _ _ | .own id _ _ _ | .mapv id => [id]
  | _ => []
/-- does an operation look at no object, at how long it is alone (false), at what it holds (true)? -/
def looksIn : Op → Option Bool
  | .load _ _ | .lookup _ _ _ _ => some true
  | .indexAddr _ _ _ | .slice _ _ _ _ _ | .binOp _ _ _ _ _ => some false
  | .call c => match c.callee with
    | .builtin .len => some false
    | .builtin .cap => some true
    | _ => none
  | _ => none
def qbr (ρ : Operand → AV) (o : Oper) : List (Bool × Nat) := match looksIn o.op with
  | some c => o.op.operands.toList.flatMap fun x => (qb2 (ρ x)).map fun id => (c, id)
  | none => []
/-- what must stay of an object that an operation has looked at -/
def signOf (c : Bool) (o : AObj) : List Nat := match c, o.body with
  | false, .row esz cells _ => [o.ver, esz, cells.length]
  | _, _ => [o.stamp]

/-- is an operation carried out? -/
def awanted (ops : List Oper) (T : qag) (o : Oper) : AM Bool := match o.guard with
  | none => pure true
  | some (j, want) => match (ops[j]?).bind (·.dst) with
    | none => pure false
    | some t => match qay T t with
      | .bool b => pure (b == want)
      | .undef => AM.fail
      | _ => pure false

def astamps : List (Bool × Nat) → AM (List (List Nat))
  | [] => pure []
  | (c, id) :: r => do
    let o ← AM.hget id
    let l ← astamps r
    pure (signOf c o :: l)

section
variable (P : Program) (pol : Pol) (call : qa6) (fn : FuncId) (nt : Nat)

def aops (ops : List Oper) : List Nat → qag → AM qag
  | [], T => pure T
  | i :: rest, T => match ops[i]? with
    | none => AM.fail
    | some o => do
      let b ← awanted ops T o
      match b with
      | true => do
        let v ← aop P pol call fn o (qaj T)
        aops ops rest (qa2? nt T o.dst v)
      | false => aops ops rest (qa2? nt T o.dst (.tuple []))

/-- with its order open: what was read ahead of a change that is not ordered stays as it was -/
def aopsD (ops : List Oper) (ms : List Nat) : List Nat → List (Nat × List (Bool × Nat)) → qag → AM qag
  | [], _, T => pure T
  | i :: rest, seen, T => match ops[i]? with
    | none => AM.fail
    | some o => do
      let b ← awanted ops T o
      match b with
      | false => aopsD ops ms rest seen (qa2? nt T o.dst (.tuple []))
      | true => match qa5 o.op with
        | 0 => do
          let v ← aop P pol call fn o (qaj T)
          aopsD ops ms rest ((i, qbr (qaj T) o) :: seen) (qa2? nt T o.dst v)
        | 1 => do
          let v ← aop P pol call fn o (qaj T)
          aopsD ops ms rest seen (qa2? nt T o.dst v)
        | _ => do
          let ids := (seen.filter fun s => !(ahead ms s.1 i)).flatMap (·.2)
          let before ← astamps ids
          let v ← aop P pol call fn o (qaj T)
          let after ← astamps ids
          AM.guard (before == after)
          aopsD ops ms rest seen (qa2? nt T o.dst v)

def aregion (ops : List Oper) (draw : Bool) (T : qag) : AM qag := match draw with
  | false => aops P pol call fn nt ops (List.range ops.length) T
  | true => match orderOf ops with
    | some l => aopsD P pol call fn nt ops (masks ops) l [] T
    | none => AM.fail

/-! ### code -/
def aloop (body : qag → AM (Exit × qag)) : Nat → qag → AM (Exit × qag)
  | 0, _ => AM.fail
  | n + 1, T => do
    let (e, T) ← body T
    match e with
    | .normal => aloop body n T
    | e => pure (e, T)

def isYield : AV → Bool
  | .func (.yield _) _ _ => true
  | _ => false

def jumpExit : Code → Option Exit
  | .ret => some .ret
  | .exit id => some (.exit id)
  | _ => none

def isBusy : LoopState → Bool
  | .busy => true
  | _ => false
def isReady : LoopState → Bool
  | .ready => true
  | _ => false
def qcu (p : Option Code) (T : qag) : AM (Exit × qag) := match p with
  | none => pure (.normal, T)
  | some c => do
    let e ← AM.ofOption (jumpExit c)
    pure (e, T)

def loopOf (id : Nat) : AM (FuncId × Nat × qag × List Tmp × Code × Code × LoopState × Option Code) := do
  let o ← AM.hget id
  match o.body with
  | .loop f nt T ps a b st p => pure (f, nt, T, ps, a, b, st, p)
  | _ => AM.fail

def qaw (fuel : Nat) : Code → qag → AM (Exit × qag)
  | .skip, T => pure (.normal, T)
  | .label _, T => pure (.normal, T)
  | .region _ ops draw, T => do
    let T ← aregion P pol call fn nt ops.toList draw T
    pure (.normal, T)
  | .seq a b, T => do
    let (e, T) ← qaw fuel a T
    match e with
    | .normal => qaw fuel b T
    | e => pure (e, T)
  | .cond c a b, T => match qaj T c with
    | .bool true => qaw fuel a T
    | .bool false => qaw fuel b T
    | _ => AM.fail
  | .block id b, T => do
    let (e, T) ← qaw fuel b T
    match e with
    | .exit id' => match Nat.beq id' id with
      | true => pure (.normal, T)
      | false => pure (.exit id', T)
    | e => pure (e, T)
  | .loop b, T => aloop (qaw fuel b) fuel T
  | .scope _, _ => AM.fail
  | .exit id, T => pure (.exit id, T)
  | .ret, T => pure (.ret, T)
  | .rangeFunc f params assign body, T => do
    AM.guard (!(isYield (qaj T f)))
    let id ← AM.halloc (.loop fn nt T params.toList assign body .ready none)
    let _ ← call (qaj T f) [.func (.yield id) [] []]
    let (f', nt', T', ps, a, b, st, p) ← loopOf id
    let o ← AM.hget id
    AM.guard (!(isBusy st))
    AM.hput id o.ver (.loop f' nt' T' ps a b .exhausted p)
    qcu p T
  | .goto _, _ => AM.fail
  | .refuse _, _ => AM.fail

end

/-! ### calls -/
def tempsFrom : Nat → List AV → qag → qag
  | _, [], T => T
  | i, v :: r, T => tempsFrom (i + 1) r (T.set i (some v))
def qah (nt : Nat) (args : List AV) : qag := tempsFrom 0 (args.take (max nt args.length)) .leaf

def aresult (P : Program) (T : qag) : ResultVar → AM AV
  | .tmp t => pure (qay T t)
  | .cell a ty => aload P ty (qay T a)
def qce (P : Program) (T : qag) : List ResultVar → AM (List AV)
  | [] => pure []
  | r :: rs => do
    let v ← aresult P T r
    let vs ← qce P T rs
    pure (v :: vs)
def qa8 (P : Program) (f : Func) (T : qag) : AM AV := do
  let vs ← qce P T f.results.toList
  match vs with
  | [v] => pure v
  | vs => pure (.tuple vs)

def aparams (nt : Nat) : List Tmp → List AV → qag → qag
  | t :: ts, v :: vs, T => aparams nt ts vs (qa2 nt T t v)
  | _, _, T => T

abbrev Sums := FuncId → Option (List AV → AM AV)

section
variable (P : Program) (pol : Pol) (sums : Sums)

def afunc (call : qa6) (n : Nat) (f : FuncId) (args : List AV) : AM AV :=
  match sums f with
  | some s => s args
  | none => match P.funcs[f]? with
    | none => AM.fail
    | some fn => match fn.body with
      | none => AM.fail
      | some c => do
        AM.guard (Nat.ble args.length fn.ntmps)
        let (e, T) ← qaw P pol call f fn.ntmps n c (qah fn.ntmps args)
        match e with
        | .normal | .ret => qa8 P fn T
        | _ => AM.fail

/-- what a round's end leaves of its record -/
def roundEnd : Exit → Option (LoopState × Option Code)
  | .normal => some (.ready, none)
  | .ret => some (.done, some .ret)
  | .exit id => some (.done, some (.exit id))
  | _ => none

def around (call : qa6) (n : Nat) (l : Nat) (args : List AV) : AM AV := do
  let (f, nt, T, ps, a, b, _, _) ← loopOf l
  AM.guard (Nat.beq ps.length args.length)
  let (e, T1) ← qaw P pol call f nt n a (aparams nt ps args T)
  match e with
  | .normal => do
    let (f', nt', T', ps', a', b', st, p) ← loopOf l
    let o ← AM.hget l
    AM.guard (isReady st)
    AM.hput l o.ver (.loop f' nt' T' ps' a' b' .busy p)
    let (e2, _) ← qaw P pol call f nt n b T1
    let (f', nt', T', ps', a', b', _, _) ← loopOf l
    let o ← AM.hget l
    let (st, p) ← AM.ofOption (roundEnd e2)
    AM.hput l o.ver (.loop f' nt' T' ps' a' b' st p)
    pure (.bool p.isNone)
  | _ => AM.fail

def qat : Nat → qa6
  | 0, _, _ => AM.fail
  | n + 1, v, args => match v with
    | .func (.func f) first captured => afunc P pol sums (qat n) n f (first ++ args ++ captured)
    | .func (.yield l) first _ => around P pol (qat n) n l (first ++ args)
    | _ => AM.fail
end
end Go.Am
namespace Go.Am
open Go

/-- a block of the world that an object that may be written stands for -/
def Held (h : Hp) (μ : Nat → Nat) (c : Nat) : Prop := ∃ id o, h.get id = some o ∧ μ id = c

def Body.isRow : Body → Bool
  | .row .. => true
  | _ => false

inductive VR (h : Hp) (μ : Nat → Nat) (w : World) : AV → Value → Prop
  | undef (v : Value) : VR h μ w .undef v
  | bool (b : Bool) : VR h μ w (.bool b) (.bool b)
  | int (k : IntKind) (n : Int) : VR h μ w (.int k n) (.int k n)
  | str (s : ByteArray) (l : List UInt8) (e : s.data.toList = l) : VR h μ w (.str l) (.string s)
  | nilptr : VR h μ w .nilptr (.pointer none)
  | ptr (id ver off : Nat) (o : AObj) (ho : h.get id = some o) (hv : o.ver = ver) : VR h μ w (.ptr id ver off) (.pointer (some ⟨μ id, off, none⟩))
  | ptrOld (id ver off : Nat) (a : Addr) (o : AObj) (ho : h.get id = some o) (hv : ver < o.ver) : VR h μ w (.ptr id ver off) (.pointer (some a))
  | iptr (cells : List AV) (ad : Addr) (vals : List Value) (hh : ¬ Held h μ ad.block) (hb : ad.block < w.heap.size) (hl : cells.length = vals.length)
      (hc : ∀ i (hi : i < vals.length), w.cell? (ad.add i) = some vals[i])
      (hr : ∀ i (h1 : i < cells.length) (h2 : i < vals.length), VR h μ w cells[i] vals[i]) : VR h μ w (.iptr cells) (.pointer (some ad))
  | sl (k : SK) (n : Nat) (cells : List AV) (A : Option Addr) (cap : Nat) (vals : List Value) (hn : n ≤ cap)
      (hnil : k = .nil → A = none ∧ cap = 0) (hfull : k = .full → A.isSome = true ∧ cap = n) (htight : k = .tight → cap = n) (hpos : 0 < n → A.isSome = true)
      (hh : ∀ ad, A = some ad → cells ≠ [] → ¬ Held h μ ad.block ∧ ad.block < w.heap.size) (hl : cells.length = vals.length)
      (hs : cells ≠ [] → A.isSome = true)
      (hc : ∀ ad, A = some ad → ∀ i (hi : i < vals.length), w.cell? (ad.add i) = some vals[i])
      (hr : ∀ i (h1 : i < cells.length) (h2 : i < vals.length), VR h μ w cells[i] vals[i]) : VR h μ w (.sl k n cells) (.slice A n cap)
  | bag (cells cells' : List AV) (x : Value) (p : cells'.Perm cells) (r : VR h μ w (.sl .any cells'.length cells') x) : VR h μ w (.bag cells) x
  | own (id ver off n : Nat) (o : AObj) (ho : h.get id = some o) (hv : o.ver = ver) (esz : Nat) (cells : List AV) (fix : Bool) (hbody : o.body = .row esz cells fix)
      (ad : Addr) (cap : Nat) (hn : n ≤ cap)
      (hex : (0 < n ∨ off = 0) → ad = ⟨μ id, off, none⟩ ∧ ∃ cs e, w.heap[μ id]? = some (.cells cs e (0, 0)) ∧ off + cap * esz = cs.size) :
      VR h μ w (.own id ver off n) (.slice (some ad) n cap)
  | ownOld (id ver off n : Nat) (a : Option Addr) (m cap : Nat) (o : AObj) (ho : h.get id = some o) (hv : ver < o.ver) : VR h μ w (.own id ver off n) (.slice a m cap)
  | nilmap : VR h μ w .nilmap (.map none)
  | mapv (id : Nat) (o : AObj) (ho : h.get id = some o) (es : List (AV × AV)) (hbody : o.body = .map es) : VR h μ w (.mapv id) (.map (some (μ id)))
  | nilfunc : VR h μ w .nilfunc .nilFunc
  | func (f : FuncId) (first captured : List AV) (vf vc : List Value) (hl1 : first.length = vf.length) (hl2 : captured.length = vc.length)
      (hr1 : ∀ i (h1 : i < first.length) (h2 : i < vf.length), VR h μ w first[i] vf[i])
      (hr2 : ∀ i (h1 : i < captured.length) (h2 : i < vc.length), VR h μ w captured[i] vc[i]) : VR h μ w (.func (.func f) first captured) (.func (.func f) vf.toArray vc.toArray)
  | yield (l : Nat) (o : AObj) (ho : h.get l = some o) (hbody : o.body.isRow = false) : VR h μ w (.func (.yield l) [] []) (.func (.yield (μ l)) #[] #[])
  | niliface : VR h μ w .niliface .nilIface
  | iface (t : TypeId) (v : AV) (v' : Value) (hr : VR h μ w v v') : VR h μ w (.iface t v) (.iface t v')
  | agg (cells : List AV) (vals : List Value) (hl : cells.length = vals.length)
      (hr : ∀ i (h1 : i < cells.length) (h2 : i < vals.length), VR h μ w cells[i] vals[i]) : VR h μ w (.agg cells) (.agg vals.toArray)
  | tuple (cells : List AV) (vals : List Value) (hl : cells.length = vals.length)
      (hr : ∀ i (h1 : i < cells.length) (h2 : i < vals.length), VR h μ w cells[i] vals[i]) : VR h μ w (.tuple cells) (.tuple vals.toArray)

def VRs (h : Hp) (μ : Nat → Nat) (w : World) (l : List AV) (vs : List Value) : Prop :=
  l.length = vs.length ∧ ∀ i (h1 : i < l.length) (h2 : i < vs.length), VR h μ w l[i] vs[i]

def TR (h : Hp) (μ : Nat → Nat) (w : World) (nt : Nat) (T : qag) (tmps : Array Value) : Prop :=
  tmps.size = nt ∧ ∀ t, VR h μ w (qay T t) (tmps.getD t undef)

/-- the entries of a map were laid in one behind the other -/
def Born (ms : Array MapEntry) (clock : Nat) : Prop := (ms.toList.map (·.born)).Nodup ∧ ∀ x ∈ ms.toList, x.born < clock
theorem Born.none : Born #[] 0 := ⟨by simp, by simp⟩
/-- an object of the world is as an abstract one says -/
def OR (h : Hp) (μ : Nat → Nat) (w : World) (b : Body) (o : Obj) : Prop := match b with
  | .row _ cells fix => ∃ cs e, o = .cells cs e (0, 0) ∧ cells.length ≤ cs.size ∧ (fix = true → cs.size = cells.length) ∧ VRs h μ w cells (cs.toList.take cells.length)
  | .map es => ∃ ms clock, o = .map ms clock ∧ VRs h μ w (es.map (·.1)) (ms.toList.map (·.key)) ∧ VRs h μ w (es.map (·.2)) (ms.toList.map (·.val)) ∧ Born ms clock
  | .loop _ nt T ps a b st p => ∃ L : Loop, o = .loop L ∧ TR h μ w nt T L.tmps ∧ L.params.toList = ps ∧ L.assign = a ∧ L.body = b ∧ L.state = st ∧ L.pending = p
  | .siter s pos => ∃ b : ByteArray, o = .stringIter b pos ∧ b.data.toList = s

structure SR (h : Hp) (μ : Nat → Nat) (w : World) : Prop where
  blk : ∀ id o, h.get id = some o → ∃ obj, w.heap[μ id]? = some obj ∧ OR h μ w o.body obj
  inj : ∀ i j o o', h.get i = some o → h.get j = some o' → μ i = μ j → i = j

/-- bodies of one kind: rows of one size of elements -/
def Body.like : Body → Body → Prop
  | .row e _ _, .row e' _ _ => e = e'
  | .map _, .map _ => True
  | .loop .., .loop .. => True
  | .siter .., .siter .. => True
  | _, _ => False

structure Stp (h : Hp) (μ : Nat → Nat) (w : World) (h' : Hp) (μ' : Nat → Nat) (w' : World) : Prop where
  size : w.heap.size ≤ w'.heap.size
  live : ∀ id o, h.get id = some o → ∃ o', h'.get id = some o' ∧ o.ver ≤ o'.ver ∧ o.body.like o'.body ∧ (o.ver = o'.ver ∨ o.body.isRow = false → μ' id = μ id ∧
    ∀ cs e, w.heap[μ id]? = some (.cells cs e (0, 0)) → ∃ cs' : Array Value, w'.heap[μ id]? = some (.cells cs' e (0, 0)) ∧ cs'.size = cs.size)
  old : ∀ c, c < w.heap.size → ¬ Held h μ c → w'.heap[c]? = w.heap[c]?
  held : ∀ c, c < w.heap.size → Held h' μ' c → Held h μ c
  os : w'.os = w.os
  tape : w'.tape = w.tape
  output : w'.output = w.output

theorem Body.like_isRow {a b : Body} (h : a.like b) : a.isRow = b.isRow := by cases a <;> cases b <;> simp_all [Body.like, Body.isRow]
theorem Body.like_refl (b : Body) : b.like b := by cases b <;> simp [Body.like]
theorem Body.like_trans {a b c : Body} (h : a.like b) (k : b.like c) : a.like c := by
  cases a <;> cases b <;> simp [Body.like] at h <;> cases c <;> simp [Body.like] at k ⊢
  rw [h, k]

section
variable {h h' h2 : Hp} {μ μ' μ2 : Nat → Nat} {w w' w2 : World}

theorem Stp.refl (h : Hp) (μ : Nat → Nat) (w : World) : Stp h μ w h μ w :=
  ⟨Nat.le_refl _, fun _ o ho => ⟨o, ho, Nat.le_refl _, Body.like_refl _, fun _ => ⟨rfl, fun cs _ hc => ⟨cs, hc, rfl⟩⟩⟩, fun _ _ _ => rfl, fun _ _ hc => hc, rfl, rfl, rfl⟩

theorem cell?_of_heap {a : Addr} (e : w'.heap[a.block]? = w.heap[a.block]?) : w'.cell? a = w.cell? a := by
  unfold World.cell?; rw [e]

theorem add_block (a : Addr) (i : Nat) : (a.add i).block = a.block := by unfold Addr.add; split <;> rfl

theorem VR.mono (s : Stp h μ w h' μ' w') {v : AV} {x : Value} (r : VR h μ w v x) : VR h' μ' w' v x := by
  have hcell : ∀ ad : Addr, ¬ Held h μ ad.block → ad.block < w.heap.size → ∀ i x, w.cell? (ad.add i) = some x → w'.cell? (ad.add i) = some x := by
    intro ad hh hb i x hx
    rw [cell?_of_heap (w := w), hx]
    rw [add_block]; exact s.old _ hb hh
  have hheld : ∀ c, ¬ Held h μ c → c < w.heap.size → ¬ Held h' μ' c ∧ c < w'.heap.size := fun c hh hb =>
    ⟨fun hc => hh (s.held c hb hc), Nat.lt_of_lt_of_le hb s.size⟩
  induction r with
  | undef v => exact .undef v
  | bool b => exact .bool b
  | int k n => exact .int k n
  | str s l e => exact .str s l e
  | nilptr => exact .nilptr
  | ptr id ver off o ho hv =>
    obtain ⟨o', ho', hle, _, heq⟩ := s.live id o ho
    by_cases e : o.ver = o'.ver
    · rw [← (heq (.inl e)).1]; exact .ptr id ver off o' ho' (by omega)
    · exact .ptrOld id ver off _ o' ho' (by omega)
  | ptrOld id ver off x o ho hv =>
    obtain ⟨o', ho', hle, _⟩ := s.live id o ho
    exact .ptrOld id ver off x o' ho' (by omega)
  | iptr cells ad vals hh hb hl hc hr ih =>
    obtain ⟨a, b⟩ := hheld _ hh hb
    exact .iptr cells ad vals a b hl (fun i hi => hcell ad hh hb i _ (hc i hi)) ih
  | sl k n cells A cap vals hn hnil hfull htight hpos hh hl hs hc hr ih =>
    refine .sl k n cells A cap vals hn hnil hfull htight hpos (fun ad e hne => ?_) hl hs (fun ad e i hi => ?_) ih
    · obtain ⟨a, b⟩ := hh ad e hne; exact hheld _ a b
    · have hne : cells ≠ [] := by rintro rfl; simp at hl; omega
      obtain ⟨a, b⟩ := hh ad e hne
      exact hcell ad a b i _ (hc ad e i hi)
  | bag cells cells' x p r ih => exact .bag cells cells' x p ih
  | own id ver off n o ho hv esz cells fix hbody ad cap hn hex =>
    obtain ⟨o', ho', hle, hlike, heq⟩ := s.live id o ho
    by_cases e : o.ver = o'.ver
    · obtain ⟨hm, hsz⟩ := heq (.inl e)
      rw [hbody] at hlike
      cases hb' : o'.body with
      | row esz' cells' fix' =>
        rw [hb'] at hlike
        simp only [Body.like] at hlike
        subst hlike
        refine .own id ver off n o' ho' (by omega) esz cells' fix' hb' ad cap hn (fun hc => ?_)
        obtain ⟨had, cs, e', hcs, hs⟩ := hex hc
        obtain ⟨cs', hcs', hsz'⟩ := hsz cs e' hcs
        exact ⟨by rw [had, hm], cs', e', by rw [hm]; exact hcs', by rw [hs, hsz']⟩
      | map _ => rw [hb'] at hlike; exact hlike.elim
      | loop _ _ _ _ _ _ _ _ => rw [hb'] at hlike; exact hlike.elim
      | siter _ _ => rw [hb'] at hlike; exact hlike.elim
    · exact .ownOld id ver off n _ _ _ o' ho' (by omega)
  | ownOld id ver off n x m cap o ho hv =>
    obtain ⟨o', ho', hle, _⟩ := s.live id o ho
    exact .ownOld id ver off n x m cap o' ho' (by omega)
  | nilmap => exact .nilmap
  | mapv id o ho es hbody =>
    obtain ⟨o', ho', hle, hlike, heq⟩ := s.live id o ho
    rw [hbody] at hlike
    rw [← (heq (.inr (by rw [hbody]; rfl))).1]
    cases hb' : o'.body with
    | map es' => exact .mapv id o' ho' es' hb'
    | row _ _ _ => rw [hb'] at hlike; exact hlike.elim
    | loop _ _ _ _ _ _ _ _ => rw [hb'] at hlike; exact hlike.elim
    | siter _ _ => rw [hb'] at hlike; exact hlike.elim
  | nilfunc => exact .nilfunc
  | func f first captured vf vc hl1 hl2 hr1 hr2 ih1 ih2 => exact .func f first captured vf vc hl1 hl2 ih1 ih2
  | yield l o ho hbody =>
    obtain ⟨o', ho', hle, hlike, heq⟩ := s.live l o ho
    rw [← (heq (.inr hbody)).1]
    exact .yield l o' ho' (by rw [← Body.like_isRow hlike]; exact hbody)
  | niliface => exact .niliface
  | iface t v v' hr ih => exact .iface t v v' ih
  | agg cells vals hl hr ih => exact .agg cells vals hl ih
  | tuple cells vals hl hr ih => exact .tuple cells vals hl ih

theorem VRs.mono (s : Stp h μ w h' μ' w') {l : List AV} {x : List Value} (r : VRs h μ w l x) : VRs h' μ' w' l x :=
  ⟨r.1, fun i h1 h2 => (r.2 i h1 h2).mono s⟩
theorem TR.mono (s : Stp h μ w h' μ' w') {nt : Nat} {T : qag} {x : Array Value} (r : TR h μ w nt T x) : TR h' μ' w' nt T x :=
  ⟨r.1, fun t => (r.2 t).mono s⟩
theorem OR.mono (s : Stp h μ w h' μ' w') {b : Body} {o : Obj} (r : OR h μ w b o) : OR h' μ' w' b o := by
  cases b with
  | row esz cells fix => obtain ⟨cs, e, h1, h2, h3, h4⟩ := r; exact ⟨cs, e, h1, h2, h3, h4.mono s⟩
  | map es => obtain ⟨ms, c, h1, h2, h3, h4⟩ := r; exact ⟨ms, c, h1, h2.mono s, h3.mono s, h4⟩
  | loop f nt T ps a b st p => obtain ⟨L, h1, h3, h4⟩ := r; exact ⟨L, h1, h3.mono s, h4⟩
  | siter _ _ => exact r

theorem Stp.trans (a : Stp h μ w h' μ' w') (b : Stp h' μ' w' h2 μ2 w2) : Stp h μ w h2 μ2 w2 where
  size := Nat.le_trans a.size b.size
  live := fun id o ho => by
    obtain ⟨o1, ho1, hle, hl, he⟩ := a.live id o ho
    obtain ⟨o2, ho2, hle1, hl1, he1⟩ := b.live id o1 ho1
    refine ⟨o2, ho2, Nat.le_trans hle hle1, Body.like_trans hl hl1, fun hc => ?_⟩
    have c1 : o.ver = o1.ver ∨ o.body.isRow = false := by
      rcases hc with hc | hc
      · left; omega
      · exact .inr hc
    have c2 : o1.ver = o2.ver ∨ o1.body.isRow = false := by
      rcases hc with hc | hc
      · left; omega
      · right; rw [← Body.like_isRow hl]; exact hc
    obtain ⟨m1, s1⟩ := he c1
    obtain ⟨m2, s2⟩ := he1 c2
    refine ⟨by rw [m2, m1], fun cs e hcs => ?_⟩
    obtain ⟨cs', hcs', hz⟩ := s1 cs e hcs
    rw [← m1] at hcs'
    obtain ⟨cs2, hcs2, hz2⟩ := s2 cs' e hcs'
    rw [m1] at hcs2
    exact ⟨cs2, hcs2, by rw [hz2, hz]⟩
  old := fun c hc hh => by
    rw [b.old c (Nat.lt_of_lt_of_le hc a.size) (fun k => hh (a.held c hc k)), a.old c hc hh]
  held := fun c hc k => a.held c hc (b.held c (Nat.lt_of_lt_of_le hc a.size) k)
  os := b.os.trans a.os
  tape := b.tape.trans a.tape
  output := b.output.trans a.output
end
end Go.Am
namespace Go.Am
open Go

theorem qcg (w : World) (obj : Obj) (c : Nat) (hc : c < w.heap.size) : (w.alloc obj).heap[c]? = w.heap[c]? := by
  show (w.heap.push obj)[c]? = w.heap[c]?
  rw [Array.getElem?_push, if_neg (Nat.ne_of_lt hc)]

section
variable {h h' : Hp} {μ μ' : Nat → Nat} {w w' : World}

/-- the world's count of draws does not matter -/
theorem SR.drawn (s : SR h μ w) (hh : w'.heap = w.heap) (ho : w'.os = w.os) (ht : w'.tape = w.tape) (hp : w'.output = w.output) : SR h μ w' ∧ Stp h μ w h μ w' := by
  have st : Stp h μ w h μ w' := ⟨by rw [hh]; exact Nat.le_refl _, fun _ o' ho' => ⟨o', ho', Nat.le_refl _, Body.like_refl _, fun _ => ⟨rfl, fun cs _ hc => ⟨cs, by rw [hh]; exact hc, rfl⟩⟩⟩,
    fun c _ _ => by rw [hh], fun _ _ hc => hc, ho, ht, hp⟩
  exact ⟨⟨fun id o ho => by obtain ⟨obj, h1, h2⟩ := s.blk id o ho; exact ⟨obj, by rw [hh]; exact h1, h2.mono st⟩, s.inj⟩, st⟩

/-- a new block that nothing abstract stands for -/
theorem SR.beside (s : SR h μ w) (obj : Obj) : SR h μ (w.alloc obj) ∧ Stp h μ w h μ (w.alloc obj) := by
  have hold : ∀ c, c < w.heap.size → (w.alloc obj).heap[c]? = w.heap[c]? := fun c hc => qcg w obj c hc
  have hlt : ∀ id o, h.get id = some o → μ id < w.heap.size := fun id o ho => by
    obtain ⟨x, h1, _⟩ := s.blk id o ho; exact (Array.getElem?_eq_some_iff.1 h1).1
  have st : Stp h μ w h μ (w.alloc obj) := ⟨by simp, fun id o' ho' => ⟨o', ho', Nat.le_refl _, Body.like_refl _, fun _ => ⟨rfl, fun cs _ hc => ⟨cs, by rw [hold _ (hlt id o' ho')]; exact hc, rfl⟩⟩⟩,
    fun c hc _ => hold c hc, fun _ _ hc => hc, rfl, rfl, rfl⟩
  exact ⟨⟨fun id o ho => by obtain ⟨x, h1, h2⟩ := s.blk id o ho; exact ⟨x, by rw [hold _ (hlt id o ho)]; exact h1, h2.mono st⟩, s.inj⟩, st⟩

def upd (μ : Nat → Nat) (i c : Nat) : Nat → Nat := fun j => if j = i then c else μ j

/-- an object is made -/
theorem SR.alloc (s : SR h μ w) (hf : h.get h.next = none) (obj : Obj) (b : Body) (hor : OR h μ w b obj) :
    SR ⟨h.obj.set h.next (some ⟨0, 0, b⟩), h.next + 1⟩ (upd μ h.next w.heap.size) (w.alloc obj) ∧
    Stp h μ w ⟨h.obj.set h.next (some ⟨0, 0, b⟩), h.next + 1⟩ (upd μ h.next w.heap.size) (w.alloc obj) := by
  have hold : ∀ c, c < w.heap.size → (w.alloc obj).heap[c]? = w.heap[c]? := fun c hc => qcg w obj c hc
  have hlt : ∀ id o, h.get id = some o → μ id < w.heap.size := fun id o ho => by
    obtain ⟨x, h1, _⟩ := s.blk id o ho; exact (Array.getElem?_eq_some_iff.1 h1).1
  have hget : ∀ i, (⟨h.obj.set h.next (some ⟨0, 0, b⟩), h.next + 1⟩ : Hp).get i = if i = h.next then some ⟨0, 0, b⟩ else h.get i := fun i => Tm.get_set _ _ _ _
  have hmu : ∀ i, i ≠ h.next → upd μ h.next w.heap.size i = μ i := fun i hi => by simp [upd, hi]
  have hmu2 : upd μ h.next w.heap.size h.next = w.heap.size := by simp [upd]
  have hne : ∀ id o, h.get id = some o → id ≠ h.next := fun id o ho e => by rw [e, hf] at ho; cases ho
  have st : Stp h μ w ⟨h.obj.set h.next (some ⟨0, 0, b⟩), h.next + 1⟩ (upd μ h.next w.heap.size) (w.alloc obj) := by
    refine ⟨by simp, fun id o ho => ?_, fun c hc _ => hold c hc, fun c hc hh => ?_, rfl, rfl, rfl⟩
    · exact ⟨o, by rw [hget, if_neg (hne id o ho)]; exact ho, Nat.le_refl _, Body.like_refl _, fun _ => ⟨hmu id (hne id o ho), fun cs _ hc => ⟨cs, by rw [hold _ (hlt id o ho)]; exact hc, rfl⟩⟩⟩
    · obtain ⟨id, o, ho, hm⟩ := hh
      rw [hget] at ho
      split at ho
      · rename_i e; subst e; rw [hmu2] at hm; omega
      · rename_i e; rw [hmu id e] at hm; exact ⟨id, o, ho, hm⟩
  refine ⟨⟨fun id o ho => ?_, fun i j o o' hi hj e => ?_⟩, st⟩
  · rw [hget] at ho
    split at ho
    · rename_i e; subst e
      cases ho
      exact ⟨obj, by rw [hmu2]; exact World.alloc_heap_new w obj, hor.mono st⟩
    · rename_i e
      obtain ⟨x, h1, h2⟩ := s.blk id o ho
      exact ⟨x, by rw [hmu id e, hold _ (hlt id o ho)]; exact h1, h2.mono st⟩
  · rw [hget] at hi hj
    by_cases ei : i = h.next <;> by_cases ej : j = h.next
    · omega
    · rw [if_neg ej] at hj
      rw [ei, hmu2, hmu j ej] at e
      have := hlt j o' hj; omega
    · rw [if_neg ei] at hi
      rw [ej, hmu2, hmu i ei] at e
      have := hlt i o hi; omega
    · rw [if_neg ei] at hi
      rw [if_neg ej] at hj
      rw [hmu i ei, hmu j ej] at e
      exact s.inj i j o o' hi hj e

/-- an object is written where it lies -/
theorem SR.put (s : SR h μ w) {id ver : Nat} {o : AObj} {b : Body} {obj : Obj} (ho : h.get id = some o) (hle : o.ver ≤ ver) (hlike : o.body.like b)
    (hsz : w'.heap.size = w.heap.size) (hoth : ∀ c, c ≠ μ id → w'.heap[c]? = w.heap[c]?) (hobj : w'.heap[μ id]? = some obj)
    (hor : OR h μ w b obj) (hcells : ∀ cs e, w.heap[μ id]? = some (.cells cs e (0, 0)) → ∃ cs' : Array Value, obj = .cells cs' e (0, 0) ∧ cs'.size = cs.size)
    (hos : w'.os = w.os) (ht : w'.tape = w.tape) (hout : w'.output = w.output) :
    SR ⟨h.obj.set id (some ⟨ver, o.stamp + 1, b⟩), h.next⟩ μ w' ∧ Stp h μ w ⟨h.obj.set id (some ⟨ver, o.stamp + 1, b⟩), h.next⟩ μ w' := by
  have hget : ∀ i, (⟨h.obj.set id (some ⟨ver, o.stamp + 1, b⟩), h.next⟩ : Hp).get i = if i = id then some ⟨ver, o.stamp + 1, b⟩ else h.get i := fun i => Tm.get_set _ _ _ _
  have hne : ∀ i o', h.get i = some o' → i ≠ id → μ i ≠ μ id := fun i o' hi hn e => hn (s.inj i id o' o hi ho e)
  have st : Stp h μ w ⟨h.obj.set id (some ⟨ver, o.stamp + 1, b⟩), h.next⟩ μ w' := by
    refine ⟨by omega, fun i o' ho' => ?_, fun c hc hh => ?_, fun c hc hh => ?_, hos, ht, hout⟩
    · by_cases e : i = id
      · subst e
        rw [ho] at ho'; cases ho'
        exact ⟨_, by rw [hget, if_pos rfl], hle, hlike, fun _ => ⟨rfl, fun cs e hc => by obtain ⟨cs', h1, h2⟩ := hcells cs e hc; exact ⟨cs', by rw [hobj, h1], h2⟩⟩⟩
      · exact ⟨o', by rw [hget, if_neg e]; exact ho', Nat.le_refl _, Body.like_refl _, fun _ => ⟨rfl, fun cs _ hc => ⟨cs, by rw [hoth _ (hne i o' ho' e)]; exact hc, rfl⟩⟩⟩
    · exact hoth c (fun e => hh ⟨id, o, ho, e.symm⟩)
    · obtain ⟨i, o', hi, hm⟩ := hh
      rw [hget] at hi
      split at hi
      · rename_i e; subst e; exact ⟨i, o, ho, hm⟩
      · exact ⟨i, o', hi, hm⟩
  refine ⟨⟨fun i o' hi => ?_, fun i j o1 o2 hi hj e => ?_⟩, st⟩
  · rw [hget] at hi
    split at hi
    · rename_i e; subst e; cases hi
      exact ⟨obj, hobj, hor.mono st⟩
    · rename_i e
      obtain ⟨x, h1, h2⟩ := s.blk i o' hi
      exact ⟨x, by rw [hoth _ (hne i o' hi e)]; exact h1, h2.mono st⟩
  · have f : ∀ k o', (⟨h.obj.set id (some ⟨ver, o.stamp + 1, b⟩), h.next⟩ : Hp).get k = some o' → ∃ o2, h.get k = some o2 := fun k o' hk => by
      rw [hget] at hk
      split at hk
      · rename_i e; subst e; exact ⟨o, ho⟩
      · exact ⟨o', hk⟩
    obtain ⟨a, ha⟩ := f i o1 hi
    obtain ⟨c, hc⟩ := f j o2 hj
    exact s.inj i j a c ha hc e

/-- an object is written anew, elsewhere -/
theorem SR.move (s : SR h μ w) {id ver : Nat} {o : AObj} {b : Body} {obj : Obj} (ho : h.get id = some o) (hlt : o.ver < ver) (hrow : o.body.isRow = true) (hlike : o.body.like b) (hor : OR h μ w b obj) :
    SR ⟨h.obj.set id (some ⟨ver, o.stamp + 1, b⟩), h.next⟩ (upd μ id w.heap.size) (w.alloc obj) ∧ Stp h μ w ⟨h.obj.set id (some ⟨ver, o.stamp + 1, b⟩), h.next⟩ (upd μ id w.heap.size) (w.alloc obj) := by
  have hold : ∀ c, c < w.heap.size → (w.alloc obj).heap[c]? = w.heap[c]? := fun c hc => qcg w obj c hc
  have hsz : ∀ id o, h.get id = some o → μ id < w.heap.size := fun id o ho => by
    obtain ⟨x, h1, _⟩ := s.blk id o ho; exact (Array.getElem?_eq_some_iff.1 h1).1
  have hget : ∀ i, (⟨h.obj.set id (some ⟨ver, o.stamp + 1, b⟩), h.next⟩ : Hp).get i = if i = id then some ⟨ver, o.stamp + 1, b⟩ else h.get i := fun i => Tm.get_set _ _ _ _
  have hmu : ∀ i, i ≠ id → upd μ id w.heap.size i = μ i := fun i hi => by simp [upd, hi]
  have hmu2 : upd μ id w.heap.size id = w.heap.size := by simp [upd]
  have st : Stp h μ w ⟨h.obj.set id (some ⟨ver, o.stamp + 1, b⟩), h.next⟩ (upd μ id w.heap.size) (w.alloc obj) := by
    refine ⟨by simp, fun i o' ho' => ?_, fun c hc _ => hold c hc, fun c hc hh => ?_, rfl, rfl, rfl⟩
    · by_cases e : i = id
      · subst e
        rw [ho] at ho'; cases ho'
        refine ⟨_, by rw [hget, if_pos rfl], Nat.le_of_lt hlt, hlike, fun hc => ?_⟩
        rcases hc with hc | hc
        · simp only at hc; omega
        · rw [hrow] at hc; cases hc
      · exact ⟨o', by rw [hget, if_neg e]; exact ho', Nat.le_refl _, Body.like_refl _, fun _ => ⟨hmu i e, fun cs _ hc => ⟨cs, by rw [hold _ (hsz i o' ho')]; exact hc, rfl⟩⟩⟩
    · obtain ⟨i, o', hi, hm⟩ := hh
      rw [hget] at hi
      split at hi
      · rename_i e; subst e; rw [hmu2] at hm; omega
      · rename_i e; rw [hmu i e] at hm; exact ⟨i, o', hi, hm⟩
  refine ⟨⟨fun i o' hi => ?_, fun i j o1 o2 hi hj e => ?_⟩, st⟩
  · rw [hget] at hi
    split at hi
    · rename_i e; subst e; cases hi
      exact ⟨obj, by rw [hmu2]; exact World.alloc_heap_new w obj, hor.mono st⟩
    · rename_i e
      obtain ⟨x, h1, h2⟩ := s.blk i o' hi
      exact ⟨x, by rw [hmu i e, hold _ (hsz i o' hi)]; exact h1, h2.mono st⟩
  · rw [hget] at hi hj
    by_cases ei : i = id <;> by_cases ej : j = id
    · omega
    · rw [if_neg ej] at hj
      rw [ei, hmu2, hmu j ej] at e
      have := hsz j o2 hj; omega
    · rw [if_neg ei] at hi
      rw [ej, hmu2, hmu i ei] at e
      have := hsz i o1 hi; omega
    · rw [if_neg ei] at hi
      rw [if_neg ej] at hj
      rw [hmu i ei, hmu j ej] at e
      exact s.inj i j o1 o2 hi hj e

/-- only what lies in the heap counts -/
theorem SR.ext (s : SR h μ w) (e : ∀ id, h'.get id = h.get id) : SR h' μ w ∧ Stp h μ w h' μ w := by
  have st : Stp h μ w h' μ w := ⟨Nat.le_refl _, fun id o ho => ⟨o, by rw [e]; exact ho, Nat.le_refl _, Body.like_refl _, fun _ => ⟨rfl, fun cs _ hc => ⟨cs, hc, rfl⟩⟩⟩, fun _ _ _ => rfl,
    fun c _ ⟨i, o, hi, hm⟩ => ⟨i, o, by rw [← e]; exact hi, hm⟩, rfl, rfl, rfl⟩
  exact ⟨⟨fun id o ho => by rw [e] at ho; obtain ⟨x, h1, h2⟩ := s.blk id o ho; exact ⟨x, h1, h2.mono st⟩, fun i j o o' hi hj => by rw [e] at hi hj; exact s.inj i j o o' hi hj⟩, st⟩
end
end Go.Am
namespace Go.Am
open Go

namespace AM
variable {α β : Type} {h h' : Hp}
theorem bind_some {m : AM α} {f : α → AM β} {r : β × Hp} (e : (m >>= f).run h = some r) : ∃ a h1, m.run h = some (a, h1) ∧ (f a).run h1 = some r := by
  rw [run_bind] at e
  cases hm : m.run h with
  | none => rw [hm] at e; cases e
  | some p => rw [hm] at e; exact ⟨p.1, p.2, rfl, e⟩
theorem qab {a b : α} (e : (pure a : AM α).run h = some (b, h')) : b = a ∧ h' = h := by
  rw [run_pure] at e; cases e; exact ⟨rfl, rfl⟩
theorem qap {b : Bool} {u : Unit} (e : (guard b).run h = some (u, h')) : b = true ∧ h' = h := by
  cases b with
  | true => exact ⟨rfl, (qab e).2⟩
  | false => cases e
theorem qbb {o : Option α} {a : α} (e : (ofOption o).run h = some (a, h')) : o = some a ∧ h' = h := by
  cases o with
  | none => cases e
  | some b => obtain ⟨rfl, rfl⟩ := qab e; exact ⟨rfl, rfl⟩
theorem fail_some {a : α} (e : (fail : AM α).run h = some (a, h')) : False := by cases e
theorem hget_some {id : Nat} {o : AObj} (e : (hget id).run h = some (o, h')) : h.get id = some o ∧ h' = h := by
  simp only [hget] at e
  cases ho : h.get id with
  | none => rw [ho] at e; cases e
  | some o' => rw [ho] at e; cases e; exact ⟨rfl, rfl⟩
theorem hput_some {id ver : Nat} {b : Body} {u : Unit} (e : (hput id ver b).run h = some (u, h')) :
    ∃ o, h.get id = some o ∧ o.ver ≤ ver ∧ h' = ⟨h.obj.set id (some ⟨ver, o.stamp + 1, b⟩), h.next⟩ := by
  simp only [hput] at e
  cases ho : h.get id with
  | none => rw [ho] at e; cases e
  | some o =>
    rw [ho] at e
    dsimp only at e
    cases hv : Nat.ble o.ver ver with
    | false => rw [hv] at e; cases e
    | true => rw [hv] at e; cases e; exact ⟨o, rfl, by simpa using hv, rfl⟩
theorem qcq {b : Body} {id : Nat} (e : (halloc b).run h = some (id, h')) : id = h.next ∧ h' = ⟨h.obj.set h.next (some ⟨0, 0, b⟩), h.next + 1⟩ := by
  simp only [halloc] at e; cases e; exact ⟨rfl, rfl⟩
end AM
open AM

section
variable {P : Program} {h h' : Hp} {μ : Nat → Nat} {w : World}

theorem qb5 {t n : Nat} (e : (szOf P t).run h = some (n, h')) : h' = h ∧ ∃ i, P.info? t = some i ∧ i.size = n := by
  obtain ⟨e1, rfl⟩ := qbb e
  cases hi : P.info? t with
  | none => rw [hi] at e1; cases e1
  | some i => rw [hi] at e1; cases e1; exact ⟨rfl, i, rfl, rfl⟩
theorem bytesOf_some {t n : Nat} (e : (bytesOf P t).run h = some (n, h')) : h' = h ∧ ∃ i, P.info? t = some i ∧ i.bytes = n := by
  obtain ⟨e1, rfl⟩ := qbb e
  cases hi : P.info? t with
  | none => rw [hi] at e1; cases e1
  | some i => rw [hi] at e1; cases e1; exact ⟨rfl, i, rfl, rfl⟩
theorem underOf_some {t : Nat} {d : TypeDesc} (e : (underOf P t).run h = some (d, h')) : h' = h ∧ P.underlying t = some d := by
  obtain ⟨e1, rfl⟩ := qbb e; exact ⟨rfl, e1⟩
theorem elemOf_some {t e : Nat} (q : (elemOf P t).run h = some (e, h')) : h' = h ∧ P.underlying t = some (.slice e) := by
  unfold elemOf at q
  split at q
  · rename_i hu; obtain ⟨rfl, rfl⟩ := qab q; exact ⟨rfl, hu⟩
  · cases q
theorem zeroOf_some {t : Nat} {v : AV} (e : (zeroOf P t).run h = some (v, h')) : h' = h ∧ ∃ i z, P.info? t = some i ∧ i.zero = some z ∧ v = ofVal z := by
  unfold zeroOf at e
  split at e
  · rename_i i hi
    split at e
    · rename_i z hz; obtain ⟨rfl, rfl⟩ := qab e; exact ⟨rfl, i, z, hi, hz, rfl⟩
    · cases e
  · cases e
theorem qbw {id ver esz : Nat} {cells : List AV} {fix : Bool} (e : (rowOf id ver).run h = some ((esz, cells, fix), h')) :
    h' = h ∧ ∃ o, h.get id = some o ∧ o.ver = ver ∧ o.body = .row esz cells fix := by
  obtain ⟨o, h1, e1, e2⟩ := bind_some e
  obtain ⟨ho, rfl⟩ := hget_some e1
  obtain ⟨_, h2, e3, e4⟩ := bind_some e2
  obtain ⟨hv, rfl⟩ := qap e3
  split at e4
  · rename_i hb
    obtain ⟨he, rfl⟩ := qab e4
    simp only [Prod.mk.injEq] at he
    obtain ⟨rfl, rfl, rfl⟩ := he
    exact ⟨rfl, o, ho, by simpa using hv, hb⟩
  · cases e4
theorem mapOf_some {id : Nat} {es : List (AV × AV)} (e : (mapOf id).run h = some (es, h')) : h' = h ∧ ∃ o, h.get id = some o ∧ o.body = .map es := by
  obtain ⟨o, h1, e1, e2⟩ := bind_some e
  obtain ⟨ho, rfl⟩ := hget_some e1
  split at e2
  · rename_i hb; obtain ⟨rfl, rfl⟩ := qab e2; exact ⟨rfl, o, ho, hb⟩
  · cases e2
theorem fieldAt_some {t f : Nat} {fd : Field} (e : (fieldAt P t f).run h = some (fd, h')) : h' = h ∧ ∃ fs, P.underlying t = some (.struct fs) ∧ fs[f]? = some fd := by
  unfold fieldAt at e
  split at e
  · rename_i fs hu; obtain ⟨e1, rfl⟩ := qbb e; exact ⟨rfl, fs, hu, by simpa using e1⟩
  · cases e

/-! ### constants -/
theorem VR_ofCell (v : Value) : VR h μ w (ofCell v) v := by
  unfold ofCell
  split
  · exact .bool _
  · exact .int _ _
  · exact .str _ _ rfl
  · exact .nilptr
  · exact .sl .nil 0 [] none 0 [] (Nat.le_refl _) (fun _ => ⟨rfl, rfl⟩) (fun e => by cases e) (fun e => by cases e) (fun e => absurd e (Nat.lt_irrefl _)) (fun _ e => by cases e) rfl (fun e => absurd rfl e) (fun _ e => by cases e)
      (fun _ h1 => absurd h1 (Nat.not_lt_zero _))
  · exact .nilmap
  · exact .nilfunc
  · exact .func _ [] [] [] [] rfl rfl (fun _ h1 => absurd h1 (Nat.not_lt_zero _)) (fun _ h1 => absurd h1 (Nat.not_lt_zero _))
  · exact .niliface
  · exact .tuple [] [] rfl (fun _ h1 => absurd h1 (Nat.not_lt_zero _))
  · exact .undef _
theorem VR_ofVal (v : Value) : VR h μ w (ofVal v) v := by
  unfold ofVal
  split
  · rename_i cs
    have := VR.agg (h := h) (μ := μ) (w := w) (cs.toList.map ofCell) cs.toList (by simp) (fun i h1 h2 => by simpa using VR_ofCell _)
    simpa using this
  · exact .iface _ _ _ (VR_ofCell _)
  · exact VR_ofCell _
theorem VR_undef : VR h μ w (.tuple []) Go.undef := .tuple [] [] rfl (fun _ h1 => absurd h1 (Nat.not_lt_zero _))

theorem TR.eval {nt : Nat} {T : qag} {a : Act} (r : TR h μ w nt T a.tmps) (x : Operand) : VR h μ w (qaj T x) (a.eval x) := by
  cases x with
  | tmp t => exact r.2 t
  | const v => exact VR_ofVal v
  | global g => exact .undef _
  | func f => exact .func f [] [] [] [] rfl rfl (fun _ h1 => absurd h1 (Nat.not_lt_zero _)) (fun _ h1 => absurd h1 (Nat.not_lt_zero _))

theorem tget_tput (nt : Nat) (T : qag) (t : Nat) (v : AV) (u : Nat) : qay (qa2 nt T t v) u = if t < nt ∧ u = t then v else qay T u := by
  unfold qay qa2
  cases hb : Nat.blt t nt with
  | false =>
    have : ¬ t < nt := by intro hc; rw [← Nat.blt_eq] at hc; rw [hb] at hc; cases hc
    simp [this]
  | true =>
    have : t < nt := by rw [← Nat.blt_eq]; exact hb
    simp only [cond_true, Tm.get_set]
    by_cases e : u = t <;> simp [this, e]

theorem TR.put {nt : Nat} {T : qag} {tmps : Array Value} (r : TR h μ w nt T tmps) (t : Nat) {v : AV} {x : Value} (hv : VR h μ w v x) : TR h μ w nt (qa2 nt T t v) (tmps.setIfInBounds t x) := by
  refine ⟨by simpa using r.1, fun u => ?_⟩
  rw [tget_tput]
  by_cases e : t < nt ∧ u = t
  · obtain ⟨e1, rfl⟩ := e
    rw [if_pos ⟨e1, rfl⟩]
    have : u < tmps.size := by rw [r.1]; exact e1
    simpa [Array.getD, this] using hv
  · rw [if_neg e]
    have := r.2 u
    by_cases hu : u = t
    · subst hu
      have h1 : ¬ u < nt := fun k => e ⟨k, rfl⟩
      have h2 : ¬ u < tmps.size := by rw [r.1]; exact h1
      simpa [Array.getD, h2] using this
    · have : (tmps.setIfInBounds t x).getD u Go.undef = tmps.getD u Go.undef := by
        simp only [Array.getD_eq_getD_getElem?, Array.getElem?_setIfInBounds]
        rw [if_neg (fun e => hu e.symm)]
      rw [this]; exact r.2 u
theorem TR.put? {nt : Nat} {T : qag} {a : Act} (r : TR h μ w nt T a.tmps) (t : Option Nat) {v : AV} {x : Value} (hv : VR h μ w v x) : TR h μ w nt (qa2? nt T t v) (a.put t x).tmps := by
  cases t with
  | none => exact r
  | some t => exact r.put t hv

/-! ### lists of values -/
theorem VRs.nil : VRs h μ w [] [] := ⟨rfl, fun _ h1 => absurd h1 (Nat.not_lt_zero _)⟩
theorem VRs.cons {v : AV} {x : Value} {l : List AV} {xs : List Value} (a : VR h μ w v x) (b : VRs h μ w l xs) : VRs h μ w (v :: l) (x :: xs) :=
  ⟨by simp [b.1], fun i h1 h2 => by
    cases i with
    | zero => exact a
    | succ i => exact b.2 i (by simpa using h1) (by simpa using h2)⟩
theorem VRs.get? {l : List AV} {xs : List Value} (r : VRs h μ w l xs) {i : Nat} {v : AV} (e : l[i]? = some v) : ∃ x, xs[i]? = some x ∧ VR h μ w v x := by
  obtain ⟨h1, rfl⟩ := List.getElem?_eq_some_iff.1 e
  have h2 : i < xs.length := by rw [← r.1]; exact h1
  exact ⟨xs[i], List.getElem?_eq_getElem h2, r.2 i h1 h2⟩
theorem VRs.take {l : List AV} {xs : List Value} (r : VRs h μ w l xs) (n : Nat) : VRs h μ w (l.take n) (xs.take n) :=
  ⟨by simp [r.1], fun i h1 h2 => by simp at h1 h2; simpa using r.2 i (by omega) (by omega)⟩
theorem VRs.drop {l : List AV} {xs : List Value} (r : VRs h μ w l xs) (n : Nat) : VRs h μ w (l.drop n) (xs.drop n) :=
  ⟨by simp [r.1], fun i h1 h2 => by simp at h1 h2; simpa using r.2 (n + i) (by omega) (by omega)⟩
theorem VRs.append {l l' : List AV} {xs xs' : List Value} (r : VRs h μ w l xs) (r' : VRs h μ w l' xs') : VRs h μ w (l ++ l') (xs ++ xs') := by
  refine ⟨by simp [r.1, r'.1], fun i h1 h2 => ?_⟩
  by_cases hi : i < l.length
  · rw [List.getElem_append_left hi, List.getElem_append_left (by rw [← r.1]; exact hi)]
    exact r.2 i hi (by rw [← r.1]; exact hi)
  · simp only [List.length_append] at h1 h2
    rw [List.getElem_append_right (by omega), List.getElem_append_right (by rw [← r.1]; omega)]
    have := r'.2 (i - l.length) (by omega) (by have := r'.1; omega)
    simpa [r.1] using this
theorem VRs.splice {l l' : List AV} {xs xs' : List Value} (r : VRs h μ w l xs) (r' : VRs h μ w l' xs') (off : Nat) : VRs h μ w (splice l off l') (xs.take off ++ xs' ++ xs.drop (off + xs'.length)) := by
  unfold Am.splice
  rw [← r'.1]
  exact ((r.take off).append r').append (r.drop _)
theorem VRs.map {ι : Type} (l : List ι) {f : ι → AV} {g : ι → Value} (r : ∀ i ∈ l, VR h μ w (f i) (g i)) : VRs h μ w (l.map f) (l.map g) :=
  ⟨by simp, fun i h1 h2 => by simp at h1; simpa using r _ (List.getElem_mem h1)⟩
theorem VR.cells {v : AV} {x : Value} (r : VR h μ w v x) (hu : v ≠ .undef) : VRs h μ w (acells v) x.cells.toList := by
  cases r with
  | undef => exact absurd rfl hu
  | agg cells vals hl hr => exact ⟨hl, fun i h1 h2 => hr i h1 h2⟩
  | bag cells cells' _ p r =>
    have r' := r
    cases r'
    exact VRs.cons (.bag cells cells' _ p r) VRs.nil
  | _ => exact VRs.cons (by first | exact .bool _ | exact .int _ _ | exact .str _ _ ‹_› | exact .nilptr | exact .ptr _ _ _ _ ‹_› ‹_› | exact .ptrOld _ _ _ _ _ ‹_› ‹_› | (constructor <;> assumption)) .nil
end
end Go.Am
namespace Go.Am
open Go AM

section
variable {P : Program} {h h' : Hp} {μ : Nat → Nat} {w : World}

theorem run_isAgg {t : Nat} {d : TypeDesc} (hu : P.underlying t = some d) : (isAgg t).run P w = .ok (aggB d) w := by
  unfold isAgg
  rw [Sem.run_bind, run_underlying hu w]
  cases d <;> rfl
theorem qbg {t : Nat} {i : TypeInfo} (hi : P.info? t = some i) : (sizeOf t).run P w = .ok i.size w := by
  simp [sizeOf, typeInfo, hi]
theorem run_typeInfo' {t : Nat} {i : TypeInfo} (hi : P.info? t = some i) : (typeInfo t).run P w = .ok i w := by
  simp [typeInfo, hi]
theorem qb8 {t : Nat} {i : TypeInfo} {z : Value} (hi : P.info? t = some i) (hz : i.zero = some z) : (zeroValue t).run P w = .ok z w := by
  simp [zeroValue, typeInfo, hi, hz]

/-- cells lie at an address -/
def At (w : World) (ad : Addr) (vals : List Value) : Prop := ∀ i (hi : i < vals.length), w.cell? (ad.add i) = some vals[i]

theorem add_of_add (a : Addr) (i j : Nat) : (a.add i).add j = a.add (i + j) := by
  unfold Addr.add
  by_cases hi : i = 0 <;> by_cases hj : j = 0 <;> simp [hi, hj, Nat.add_assoc]
theorem add_zero (a : Addr) : a.add 0 = a := rfl
theorem add_plain (b off i : Nat) : (⟨b, off, none⟩ : Addr).add i = ⟨b, off + i, none⟩ := by
  unfold Addr.add; split
  · rename_i e; subst e; rfl
  · rfl
theorem At.drop {ad : Addr} {vals : List Value} (a : At w ad vals) (n : Nat) : At w (ad.add n) (vals.drop n) := fun i hi => by
  simp at hi
  rw [add_of_add, a (n + i) (by omega)]
  simp
theorem At.take {ad : Addr} {vals : List Value} (a : At w ad vals) (n : Nat) : At w ad (vals.take n) := fun i hi => by
  simp at hi
  rw [a i (by omega)]
  simp
theorem At.row {b off : Nat} {cs : Array Value} {e : TypeId} (hb : w.heap[b]? = some (.cells cs e (0, 0))) (n : Nat) : At w ⟨b, off, none⟩ ((cs.toList.take n).drop off) := fun i hi => by
  simp at hi
  rw [add_plain]
  simp only [World.cell?, hb]
  simp
theorem At.load {ad : Addr} {vals : List Value} (a : At w ad vals) : (loadCells ad vals.length).run P w = .ok vals.toArray w :=
  run_loadCells_list w ad vals fun j v hv => by
    obtain ⟨h1, rfl⟩ := List.getElem?_eq_some_iff.1 hv
    exact a j h1

theorem aread_sim {t : Nat} {cells : List AV} {v : AV} {ad : Addr} {vals : List Value} (e : (aread P t cells).run h = some (v, h')) (a : At w ad vals) (r : VRs h μ w cells vals) :
    h' = h ∧ ∃ x, (loadVar t ad).run P w = .ok x w ∧ VR h μ w v x := by
  obtain ⟨d, h1, e1, e2⟩ := bind_some e
  obtain ⟨rfl, hu⟩ := underOf_some e1
  cases hd : aggB d with
  | true =>
    rw [hd] at e2
    obtain ⟨n, h2, e3, e4⟩ := bind_some e2
    obtain ⟨rfl, i, hi, hn⟩ := qb5 e3
    obtain ⟨_, h3, e5, e6⟩ := bind_some e4
    obtain ⟨hg, rfl⟩ := qap e5
    obtain ⟨rfl, rfl⟩ := qab e6
    have hle : n ≤ cells.length := by simpa using hg
    have hl : (vals.take n).length = n := by have := r.1; simp; omega
    refine ⟨rfl, .agg (vals.take n).toArray, ?_, .agg _ _ (r.take n).1 (r.take n).2⟩
    have hld := (a.take n).load (P := P)
    rw [hl] at hld
    simp only [loadVar, Sem.run_bind, run_isAgg hu, hd, Result.andThen, qbg hi, hn, if_true, hld, Sem.run_pure]
  | false =>
    rw [hd] at e2
    obtain ⟨e3, rfl⟩ := qbb e2
    have e4 : cells[0]? = some v := by rw [← List.head?_eq_getElem?]; exact e3
    clear e2
    obtain ⟨x, hx, hr⟩ := r.get? e4
    obtain ⟨hlt, rfl⟩ := List.getElem?_eq_some_iff.1 hx
    refine ⟨rfl, _, ?_, hr⟩
    have := a 0 hlt
    rw [add_zero] at this
    simp [loadVar, run_isAgg hu, hd, run_load, this]

/-- a live row, in the world -/
theorem SR.row (s : SR h μ w) {id : Nat} {o : AObj} {esz : Nat} {cells : List AV} {fix : Bool} (ho : h.get id = some o) (hb : o.body = .row esz cells fix) :
    ∃ cs e, w.heap[μ id]? = some (.cells cs e (0, 0)) ∧ cells.length ≤ cs.size ∧ (fix = true → cs.size = cells.length) ∧ VRs h μ w cells (cs.toList.take cells.length) := by
  obtain ⟨obj, h1, h2⟩ := s.blk id o ho
  rw [hb] at h2
  obtain ⟨cs, e, rfl, h3, h4, h5⟩ := h2
  exact ⟨cs, e, h1, h3, h4, h5⟩

theorem VR.ptr_live {id ver off : Nat} {x : Value} (r : VR h μ w (.ptr id ver off) x) {o : AObj} (ho : h.get id = some o) (hv : o.ver = ver) : x = .pointer (some ⟨μ id, off, none⟩) := by
  cases r with
  | ptr _ _ _ _ _ _ => rfl
  | ptrOld _ _ _ _ o2 ho2 hd => rw [ho] at ho2; cases ho2; omega
theorem VR.own_live {id ver off n : Nat} {x : Value} (r : VR h μ w (.own id ver off n) x) {o : AObj} (ho : h.get id = some o) (hv : o.ver = ver) {esz : Nat} {cells : List AV} {fix : Bool} (hb : o.body = .row esz cells fix) :
    ∃ ad cap, x = .slice (some ad) n cap ∧ n ≤ cap ∧ ((0 < n ∨ off = 0) → ad = ⟨μ id, off, none⟩ ∧ ∃ cs e, w.heap[μ id]? = some (.cells cs e (0, 0)) ∧ off + cap * esz = cs.size) := by
  cases r with
  | own _ _ _ _ o2 ho2 _ esz2 cells2 fix2 hb2 ad cap hn hex =>
    rw [ho] at ho2; cases ho2
    rw [hb] at hb2
    injection hb2 with e1 e2 e3
    subst e1
    exact ⟨ad, cap, rfl, hn, hex⟩
  | ownOld _ _ _ _ _ _ _ o2 ho2 hd => rw [ho] at ho2; cases ho2; omega
theorem VR.map_live {id : Nat} {x : Value} (r : VR h μ w (.mapv id) x) : x = .map (some (μ id)) := by
  cases r with
  | mapv _ _ _ _ _ => rfl

theorem aload_sim (s : SR h μ w) {t : Nat} {a v : AV} {x : Value} (e : (aload P t a).run h = some (v, h')) (r : VR h μ w a x) :
    h' = h ∧ ∃ y, (Instr.loadAt t x).run P w = .ok y w ∧ VR h μ w v y := by
  cases a with
  | iptr cells =>
    cases r with
    | iptr _ ad vals hh hb hl hc hr =>
      obtain ⟨rfl, y, h1, h2⟩ := aread_sim (ad := ad) e hc ⟨hl, hr⟩
      exact ⟨rfl, y, by simpa [Instr.loadAt, Instr.sureAddr] using h1, h2⟩
  | ptr id ver off =>
    obtain ⟨⟨esz, cells, fix⟩, h1, e1, e2⟩ := bind_some e
    obtain ⟨rfl, o, ho, hv, hbody⟩ := qbw e1
    obtain ⟨cs, ty, hw, hle, _, hr⟩ := s.row ho hbody
    obtain rfl := r.ptr_live ho hv
    obtain ⟨rfl, y, h1, h2⟩ := aread_sim (ad := ⟨μ id, off, none⟩) e2 (At.row hw cells.length) (hr.drop off)
    exact ⟨rfl, y, by simpa [Instr.loadAt, Instr.sureAddr] using h1, h2⟩
  | _ => cases e

theorem VR.oneCell {v : AV} {x : Value} (r : VR h μ w v x) (ho : one v = true) : x.oneCell' = true := by
  cases r
  case bag r => cases r; rfl
  all_goals first | rfl | (simp [one] at ho; done)
theorem VRs.oneCells {l : List AV} {xs : List Value} (r : VRs h μ w l xs) (ho : ones l = true) : ∀ x ∈ xs, x.oneCell' = true := by
  intro x hx
  obtain ⟨i, hi, rfl⟩ := List.getElem_of_mem hx
  have h1 : i < l.length := by rw [r.1]; exact hi
  refine (r.2 i h1 hi).oneCell ?_
  exact List.all_eq_true.1 ho _ (List.getElem_mem h1)

/-- cells of a row that is live are written -/
theorem SR.splice (s : SR h μ w) {id : Nat} {o : AObj} {esz : Nat} {cells : List AV} {fix : Bool} {cs : Array Value} {ty : TypeId} (ho : h.get id = some o) (hb : o.body = .row esz cells fix)
    (hw : w.heap[μ id]? = some (.cells cs ty (0, 0))) {off : Nat} {new : List AV} {vals : List Value} (r : VRs h μ w new vals) (h1 : ∀ x ∈ vals, x.oneCell' = true) (hfit : off + vals.length ≤ cs.size) :
    (storeCells ⟨μ id, off, none⟩ vals).run P w = .ok () (w.setRow (μ id) (cs.toList.take off ++ vals ++ cs.toList.drop (off + vals.length)).toArray) ∧
    ∀ (ver : Nat) (cells' : List AV) (fix' : Bool), o.ver ≤ ver → cells'.length ≤ cs.size → (fix' = true → cs.size = cells'.length) →
      VRs h μ w cells' ((cs.toList.take off ++ vals ++ cs.toList.drop (off + vals.length)).take cells'.length) →
      SR ⟨h.obj.set id (some ⟨ver, o.stamp + 1, .row esz cells' fix'⟩), h.next⟩ μ (w.setRow (μ id) (cs.toList.take off ++ vals ++ cs.toList.drop (off + vals.length)).toArray) ∧
      Stp h μ w ⟨h.obj.set id (some ⟨ver, o.stamp + 1, .row esz cells' fix'⟩), h.next⟩ μ (w.setRow (μ id) (cs.toList.take off ++ vals ++ cs.toList.drop (off + vals.length)).toArray) := by
  have hst := run_storeCells_at (P := P) (μ id) off ty vals 0 cs w hw (by simpa using hfit) h1
  simp only [Nat.add_zero] at hst
  have hlen : (cs.toList.take off ++ vals ++ cs.toList.drop (off + vals.length)).toArray.size = cs.size := by simp; omega
  refine ⟨hst, fun ver cells' fix' hle h2 h3 h4 => ?_⟩
  refine s.put ho hle (by rw [hb]; rfl) (by simp [World.setRow]) (fun c hc => ?_) (setRow_heap w (μ id) cs _ ty _ hw) ?_ (fun cs2 e2 hc => ?_) rfl rfl rfl
  · simp only [World.setRow, Array.getElem?_modify]
    rw [if_neg (fun e => hc e.symm)]
  · exact ⟨_, ty, rfl, by rw [hlen]; exact h2, fun hf => by rw [hlen]; exact h3 hf, h4⟩
  · rw [hw] at hc
    injection hc with hc
    injection hc with c1 c2
    subst c1 c2
    exact ⟨_, rfl, hlen⟩

theorem splice_take (xs ys : List Value) (off k n : Nat) (hn : ys.length = n) (h1 : off + n ≤ k) (h2 : k ≤ xs.length) :
    (xs.take k).take off ++ ys ++ (xs.take k).drop (off + ys.length) = (xs.take off ++ ys ++ xs.drop (off + ys.length)).take k := by
  subst hn
  have b1 : (xs.take off).length = off := by rw [List.length_take]; omega
  rw [List.take_take, List.drop_take, List.take_append, List.take_append, b1, Nat.min_eq_left (by omega)]
  rw [List.take_of_length_le (l := xs.take off) (by omega), List.take_of_length_le (l := ys) (by omega)]
  congr 2
  rw [List.length_append, b1]

theorem length_splice {cells vs : List AV} {off : Nat} (h : off + vs.length ≤ cells.length) : (Am.splice cells off vs).length = cells.length := by
  simp [Am.splice]; omega

theorem astore_sim (s : SR h μ w) {t : Nat} {a v : AV} {x y : Value} {u : Unit} (e : (astore P t a v).run h = some (u, h')) (r : VR h μ w a x) (r2 : VR h μ w v y) :
    ∃ w', (Instr.storeAt t x y).run P w = .ok () w' ∧ SR h' μ w' ∧ Stp h μ w h' μ w' := by
  cases a with
  | ptr id ver off =>
    obtain ⟨⟨esz, cells, fix⟩, h1, e1, e2⟩ := bind_some e
    obtain ⟨rfl, o, ho, hv, hbody⟩ := qbw e1
    obtain ⟨n, h2, e3, e4⟩ := bind_some e2
    obtain ⟨rfl, i, hi, hn⟩ := qb5 e3
    obtain ⟨_, h3, e5, e6⟩ := bind_some e4
    obtain ⟨hg, rfl⟩ := qap e5
    obtain ⟨o2, ho2, hle, rfl⟩ := hput_some e6
    rw [ho] at ho2; cases ho2
    simp only [Bool.and_eq_true, Nat.beq_eq, Nat.ble_eq] at hg
    obtain ⟨⟨hlen, hfit⟩, hone⟩ := hg
    obtain ⟨cs, ty, hw, hcs, hfix, hr⟩ := s.row ho hbody
    obtain rfl := r.ptr_live ho hv
    have hu : v ≠ .undef := by rintro rfl; simp [acells, ones, one] at hone
    have rc := r2.cells hu
    have hyl : y.cells.toList.length = n := by rw [← rc.1]; exact hlen
    obtain ⟨hst, hsr⟩ := s.splice (P := P) ho hbody hw (off := off) rc (rc.oneCells hone) (by omega)
    have hl : (Am.splice cells off (acells v)).length = cells.length := length_splice (by omega)
    obtain ⟨s1, s2⟩ := hsr ver (Am.splice cells off (acells v)) fix hle (by omega) (fun hf => by rw [hfix hf, hl]) (by
      have hsp := hr.splice rc off
      rw [splice_take _ _ _ _ _ hyl hfit (by simpa using hcs)] at hsp
      rw [hl]; exact hsp)
    refine ⟨_, ?_, s1, s2⟩
    have hsz : y.cells.size = n := by rw [← hyl]; simp
    simp only [Instr.storeAt, Instr.sureAddr, Sem.run_bind, Sem.run_pure, Result.andThen, storeVar, qbg hi, hn, hsz, ne_eq, not_true_eq_false, if_false, hst]
  | _ => cases e
end
end Go.Am
namespace Go.Am
open Go AM

section
variable {P : Program} {h h' : Hp} {μ : Nat → Nat} {w : World}

/-- an operation that leaves all as it is -/
def PSim (P : Program) (h : Hp) (μ : Nat → Nat) (w : World) (m : AM AV) (s : Sem Value) : Prop :=
  ∀ v h', m.run h = some (v, h') → h' = h ∧ ∃ x, s.run P w = .ok x w ∧ VR h μ w v x

theorem PSim.pure {v : AV} {x : Value} (r : VR h μ w v x) {s : Sem Value} (e : s.run P w = .ok x w) : PSim P h μ w (pure v) s := fun v' h' q => by
  obtain ⟨rfl, rfl⟩ := qab q; exact ⟨rfl, x, e, r⟩

theorem qcx (s : ByteArray) : s.toList = s.data.toList := by
  have hsz : s.data.toList.length = s.size := by rw [Array.length_toList]; rfl
  have : ∀ (i : Nat) (r : List UInt8), ByteArray.toList.loop s i r = r.reverse ++ s.data.toList.drop i := by
    intro i r
    induction hn : s.size - i generalizing i r with
    | zero =>
      rw [ByteArray.toList.loop]
      have hi : ¬ i < s.size := by omega
      rw [if_neg hi, List.drop_of_length_le (by omega)]
      simp
    | succ n ih =>
      rw [ByteArray.toList.loop]
      have hi : i < s.size := by omega
      rw [if_pos hi, ih (i + 1) _ (by omega)]
      have h2 : i < s.data.toList.length := by omega
      rw [List.drop_eq_getElem_cons h2]
      have : s.get! i = s.data.toList[i] := by
        simp only [ByteArray.get!]
        rw [getElem!_pos s.data i (by simpa using hi)]
        simp
      simp [this]
  rw [ByteArray.toList, this]; simp

theorem aintop_sim (op : BinOp) (k : IntKind) (a b : Int) (hne : op ≠ .shl ∧ op ≠ .shr) (t : TypeId) : PSim P h μ w (aintop op k a b) (binOp op t (.int k a) (.int k b)) := by
  cases op <;> first
    | (refine PSim.pure (.int _ _) ?_; simp [binOp, Op.intArith]; done)
    | (refine PSim.pure (.int _ _) ?_; show Sem.run P (if k ≠ k then _ else _) w = _; rw [if_neg (by simp)]; rfl)
    | (refine PSim.pure (.bool _) ?_; simp [binOp, Op.intCmp]; done)
    | skip
  · by_cases hb : b = 0
    · intro v h' e; simp only [aintop, hb, if_true] at e; cases e
    · simp only [aintop, hb, if_false]; exact PSim.pure (.int _ _) (by simp [binOp, Op.intDiv, hb])
  · by_cases hb : b = 0
    · intro v h' e; simp only [aintop, hb, if_true] at e; cases e
    · simp only [aintop, hb, if_false]; exact PSim.pure (.int _ _) (by simp [binOp, Op.intDiv, hb])
  · exact absurd rfl hne.1
  · exact absurd rfl hne.2

theorem ashift_sim (op : BinOp) (ho : op = .shl ∨ op = .shr) (k k' : IntKind) (a b : Int) (t : TypeId) : PSim P h μ w (ashift op k a b) (binOp op t (.int k a) (.int k' b)) := by
  unfold ashift
  by_cases hb : b < 0
  · intro v h' e; simp only [hb, if_true] at e; cases e
  · simp only [hb, if_false]
    rcases ho with rfl | rfl <;> exact PSim.pure (.int _ _) (by simp [binOp, Op.shift, hb])

theorem astrop_sim (op : BinOp) (x y : ByteArray) (hne : op ≠ .shl ∧ op ≠ .shr) (t : TypeId) : PSim P h μ w (astrop op x.data.toList y.data.toList) (binOp op t (.string x) (.string y)) := by
  cases op <;> first
    | (refine PSim.pure (.bool _) ?_; simp [binOp, Op.stringOp, qcx]; done)
    | (intro v h' e; cases e; done)
    | skip
  intro v h' e
  obtain ⟨_, h1, e1, e2⟩ := bind_some e
  obtain ⟨hg, rfl⟩ := qap e1
  obtain ⟨rfl, rfl⟩ := qab e2
  have hle : x.size + y.size ≤ 9223372036854775807 := by simpa [maxInt] using hg
  refine ⟨rfl, .string (x ++ y), ?_, .str _ _ (by simp)⟩
  have : ¬ (((x.size + y.size : Nat) : Int) > IntKind.i64.max) := by
    have : IntKind.i64.max = 9223372036854775807 := by decide
    rw [this]; omega
  simp only [binOp, Op.stringOp, this, if_false, Sem.run_pure]

theorem aun_sim (op : UnOp) {v : AV} {x : Value} (r : VR h μ w v x) : PSim P h μ w (aun op v) (Op.unary op x) := by
  cases r <;> try (intro v h' e; cases e; done)
  · cases op <;> first
      | (refine PSim.pure (.bool _) ?_; simp [Op.unary]; done)
      | (intro v h' e; cases e; done)
  · rename_i k n
    cases op with
    | neg => exact PSim.pure (.int _ _) (by simp [Op.unary, Op.intArith])
    | xor => exact PSim.pure (.int _ _) (by simp [Op.unary, Op.intBits])
    | not => intro v h' e; cases e
    | plus => intro v h' e; cases e

theorem extract_sim {vs : List AV} {x : Value} (r : VR h μ w (.tuple vs) x) (i : Nat) : PSim P h μ w (AM.ofOption vs[i]?) (Instr.extract x i) := by
  cases r with
  | tuple _ vals hl hr =>
    intro v h' e
    obtain ⟨e1, rfl⟩ := qbb e
    obtain ⟨y, hy, r⟩ := VRs.get? ⟨hl, hr⟩ e1
    refine ⟨rfl, y, ?_, r⟩
    have : vals.toArray[i]? = some y := by simpa using hy
    simp [Instr.extract, hy]
end
end Go.Am
namespace Go.Am
open Go AM

section
variable {P : Program} {h h' : Hp} {μ : Nat → Nat} {w : World}

theorem run_part_agg {t : Nat} {d : TypeDesc} {i : TypeInfo} {cs : Array Value} {off : Nat} (hu : P.underlying t = some d) (hd : aggB d = true) (hi : P.info? t = some i) :
    (part t cs off).run P w = .ok (.agg (cs.extract off (off + i.size))) w := by
  simp only [part, Sem.run_bind, run_isAgg hu, hd, Result.andThen, qbg hi, if_true, Sem.run_pure]
theorem run_part_cell {t : Nat} {d : TypeDesc} {cs : Array Value} {off : Nat} {x : Value} (hu : P.underlying t = some d) (hd : aggB d = false) (hx : cs[off]? = some x) :
    (part t cs off).run P w = .ok x w := by
  simp [part, Sem.run_bind, run_isAgg hu, hd, Result.andThen, hx]

theorem apart_sim {t off : Nat} {cells : List AV} {vals : List Value} {v : AV} (r : VRs h μ w cells vals) (e : apart P t cells off = some v) :
    ∃ x, (part t vals.toArray off).run P w = .ok x w ∧ VR h μ w v x := by
  unfold apart at e
  split at e
  · rename_i d hu
    split at e
    · rename_i hd
      split at e
      · rename_i i hi
        cases e
        refine ⟨_, run_part_agg hu hd hi, ?_⟩
        have hh := (r.drop off).take i.size
        have : vals.toArray.extract off (off + i.size) = ((vals.drop off).take i.size).toArray := by
          simp [List.take_drop]
        rw [this]
        exact .agg _ _ hh.1 hh.2
      · cases e
    · rename_i hd
      obtain ⟨x, hx, hr⟩ := r.get? e
      exact ⟨x, run_part_cell hu hd (by simpa using hx), hr⟩
  · cases e

theorem aeqIn_sim (d : Nat) : ∀ (t : Nat) (a b : AV) (x y : Value) (r : Bool) (D : Nat), d ≤ D → VR h μ w a x → VR h μ w b y → aeqIn P d t a b = some r → (Op.equalIn D t x y).run P w = .ok r w := by
  induction d with
  | zero => intro t a b x y r D _ _ _ e; cases e
  | succ d ih =>
    intro t a b x y r D hD ra rb e
    obtain ⟨D, rfl⟩ : ∃ D', D = D' + 1 := ⟨D - 1, by omega⟩
    unfold aeqIn at e
    split at e
    · rename_i hu; cases ra; cases rb; cases e; exact run_equalIn_bool' w D t _ _ hu
    · rename_i hu; cases ra; cases rb
      split at e
      · rename_i hk; subst hk; cases e; exact run_equalIn_int w D t _ _ _ _ hu
      · cases e
    · rename_i hu
      cases ra with | str s _ e1 => cases rb with | str s2 _ e2 =>
      cases e
      rw [run_equalIn_string w D t _ _ hu, qcx, qcx, e1, e2]
    · rename_i fs xs ys hu
      cases ra with | agg _ v1 l1 r1 => cases rb with | agg _ v2 l2 r2 =>
      cases hs : P.stoodInHeld t with
      | true => rw [hs] at e; cases e
      | false =>
        rw [hs] at e
        simp only [cond_false] at e
        have hfo : P.fieldsOf t = fs := by simp [Program.fieldsOf, hu]
        rw [run_equalIn_struct w D t _ _ (by rw [hfo]; exact hu) hs, hfo]
        clear hu hfo hs
        generalize fs.toList = l at e ⊢
        induction l with
        | nil => cases e; simp [Op.eqFields]
        | cons f l ihl =>
          rw [aeqFields] at e
          split at e
          · rename_i a' b' hname ha hb
            have hne : f.name ≠ "_" := by simpa using hname
            obtain ⟨xa, ha1, ha2⟩ := apart_sim ⟨l1, r1⟩ ha
            obtain ⟨xb, hb1, hb2⟩ := apart_sim ⟨l2, r2⟩ hb
            simp only [Op.eqFields, ne_eq, hne, not_false_eq_true, if_true, Sem.run_bind, ha1, hb1, Result.andThen]
            split at e
            · rename_i he
              simp only [ih _ _ _ _ _ _ D (by omega) ha2 hb2 he, Bool.not_true, Bool.false_eq_true, if_false]
              exact ihl e
            · rename_i he
              cases e
              simp only [ih _ _ _ _ _ _ D (by omega) ha2 hb2 he, Bool.not_false, if_true, Sem.run_pure]
            · cases e
          · cases e
    · cases e

theorem eq_nil_pointer (d : Nat) {t u : Nat} (hu : P.underlying t = some (.pointer u)) (o o' : Option Addr) (hn : o = none ∨ o' = none) : (Op.equalIn (d + 1) t (.pointer o) (.pointer o')).run P w = .ok (o.isNone == o'.isNone) w := by
  cases o <;> cases o' <;> first | (simp at hn; done) | simp [Op.equalIn, run_underlying hu]
theorem eq_nil_slice (d : Nat) {t u : Nat} (hu : P.underlying t = some (.slice u)) (o o' : Option Addr) (n c n' c' : Nat) (hn : o = none ∨ o' = none) : (Op.equalIn (d + 1) t (.slice o n c) (.slice o' n' c')).run P w = .ok (o.isNone == o'.isNone) w := by
  cases o <;> cases o' <;> first | (simp at hn; done) | simp [Op.equalIn, run_underlying hu]
theorem eq_nil_map (d : Nat) {t u v : Nat} (hu : P.underlying t = some (.map u v)) (o o' : Option Nat) (hn : o = none ∨ o' = none) : (Op.equalIn (d + 1) t (.map o) (.map o')).run P w = .ok (o.isNone == o'.isNone) w := by
  cases o <;> cases o' <;> first | (simp at hn; done) | simp [Op.equalIn, run_underlying hu]
theorem eq_nil_func (d : Nat) {t : Nat} {p q : Array TypeId} {z : Bool} (hu : P.underlying t = some (.func p q z)) (f : Fn) (a b : Array Value) :
    (Op.equalIn (d + 1) t .nilFunc .nilFunc).run P w = .ok true w ∧ (Op.equalIn (d + 1) t .nilFunc (.func f a b)).run P w = .ok false w ∧ (Op.equalIn (d + 1) t (.func f a b) .nilFunc).run P w = .ok false w := by
  simp [Op.equalIn, run_underlying hu]

/-- what a value of a kind that has a nil is -/
theorem nilKind_sim {d : TypeDesc} {a : AV} {x : Value} {b : Bool} (e : (nilKind d a).run h = some (b, h')) (r : VR h μ w a x) (s : SR h μ w) :
    h' = h ∧ ((∃ t o, d = .pointer t ∧ x = .pointer o ∧ b = o.isNone) ∨ (∃ t o n c, d = .slice t ∧ x = .slice o n c ∧ b = o.isNone) ∨ (∃ k t o, d = .map k t ∧ x = .map o ∧ b = o.isNone) ∨
      (∃ p q z, d = .func p q z ∧ ((x = .nilFunc ∧ b = true) ∨ (∃ f u v, x = .func f u v ∧ b = false)))) := by
  unfold nilKind at e
  split at e
  · obtain ⟨rfl, rfl⟩ := qab e; cases r; exact ⟨rfl, .inl ⟨_, _, rfl, rfl, rfl⟩⟩
  · obtain ⟨rfl, rfl⟩ := qab e; cases r; exact ⟨rfl, .inl ⟨_, _, rfl, rfl, rfl⟩⟩
  · obtain ⟨⟨_, _, _⟩, h1, e1, e2⟩ := bind_some e
    obtain ⟨rfl, o, ho, hv, _⟩ := qbw e1
    obtain ⟨rfl, rfl⟩ := qab e2
    obtain rfl := r.ptr_live ho hv
    exact ⟨rfl, .inl ⟨_, _, rfl, rfl, rfl⟩⟩
  · obtain ⟨rfl, rfl⟩ := qab e
    cases r with | sl _ _ _ A cap vals hn hnil => obtain ⟨rfl, rfl⟩ := hnil rfl; exact ⟨rfl, .inr (.inl ⟨_, _, _, _, rfl, rfl, rfl⟩)⟩
  · obtain ⟨rfl, rfl⟩ := qab e
    cases r with | sl _ _ _ A cap vals hn hnil hfull =>
      refine ⟨rfl, .inr (.inl ⟨_, _, _, _, rfl, rfl, ?_⟩)⟩
      have := (hfull rfl).1
      cases A <;> simp_all
  · split at e
    · cases e
    · rename_i n hn0
      obtain ⟨rfl, rfl⟩ := qab e
      cases r with | sl _ _ _ A cap vals hn hnil hfull htight hpos =>
        refine ⟨rfl, .inr (.inl ⟨_, _, _, _, rfl, rfl, ?_⟩)⟩
        have := hpos (Nat.pos_of_ne_zero hn0)
        cases A <;> simp_all
  · obtain ⟨⟨_, _, _⟩, h1, e1, e2⟩ := bind_some e
    obtain ⟨rfl, o, ho, hv, hb⟩ := qbw e1
    obtain ⟨rfl, rfl⟩ := qab e2
    obtain ⟨ad, cap, rfl, _⟩ := r.own_live ho hv hb
    exact ⟨rfl, .inr (.inl ⟨_, _, _, _, rfl, rfl, rfl⟩)⟩
  · obtain ⟨rfl, rfl⟩ := qab e; cases r; exact ⟨rfl, .inr (.inr (.inl ⟨_, _, _, rfl, rfl, rfl⟩))⟩
  · obtain ⟨_, h1, e1, e2⟩ := bind_some e
    obtain ⟨ho, rfl⟩ := hget_some e1
    obtain ⟨rfl, rfl⟩ := qab e2
    obtain rfl := r.map_live
    exact ⟨rfl, .inr (.inr (.inl ⟨_, _, _, rfl, rfl, rfl⟩))⟩
  · obtain ⟨rfl, rfl⟩ := qab e; cases r; exact ⟨rfl, .inr (.inr (.inr ⟨_, _, _, rfl, .inl ⟨rfl, rfl⟩⟩))⟩
  · obtain ⟨rfl, rfl⟩ := qab e; cases r; exact ⟨rfl, .inr (.inr (.inr ⟨_, _, _, rfl, .inr ⟨_, _, _, rfl, rfl⟩⟩))⟩
  · cases e

theorem isNil_sim {a : AV} {x : Value} (hn : isNil a = true) (r : VR h μ w a x) : x = .pointer none ∨ x = .slice none 0 0 ∨ x = .map none ∨ x = .nilFunc := by
  cases r with
  | nilptr => exact .inl rfl
  | sl k n cells A cap vals hle hnil =>
    cases k <;> simp [isNil] at hn
    obtain ⟨rfl, hc0⟩ := hnil rfl
    subst hc0
    obtain rfl : n = 0 := Nat.le_zero.1 hle
    exact .inr (.inl rfl)
  | nilmap => exact .inr (.inr (.inl rfl))
  | nilfunc => exact .inr (.inr (.inr rfl))
  | _ => simp [isNil] at hn

/-- two values that '==' compares by their type -/
def eqShape (x y : Value) : Prop := (∃ a b, x = .bool a ∧ y = .bool b) ∨ (∃ a b, x = .agg a ∧ y = .agg b) ∨ (∃ a b, x = .pointer a ∧ y = .pointer b) ∨ (∃ a n c b n' c', x = .slice a n c ∧ y = .slice b n' c') ∨
  (∃ a b, x = .map a ∧ y = .map b) ∨ ((x = .nilFunc ∨ ∃ f a b, x = .func f a b) ∧ (y = .nilFunc ∨ ∃ f a b, y = .func f a b))
theorem binOp_shape {t : Nat} {x y : Value} {r : Bool} (hs : eqShape x y) (e : (Op.equal t x y).run P w = .ok r w) :
    (binOp .eql t x y).run P w = .ok (.bool r) w ∧ (binOp .neq t x y).run P w = .ok (.bool !r) w := by
  rcases hs with ⟨a, b, rfl, rfl⟩ | ⟨a, b, rfl, rfl⟩ | ⟨a, b, rfl, rfl⟩ | ⟨a, n, c, b, n', c', rfl, rfl⟩ | ⟨a, b, rfl, rfl⟩ | ⟨rfl | ⟨f, a, b, rfl⟩, rfl | ⟨f', a', b', rfl⟩⟩ <;>
    simp only [binOp, Sem.run_bind, e, Result.andThen, Sem.run_pure, and_self]

theorem aequal_sim (s : SR h μ w) {t : Nat} {a b : AV} {x y : Value} {r : Bool} (e : (aequal P t a b).run h = some (r, h')) (ra : VR h μ w a x) (rb : VR h μ w b y) (o1 o2 : Operand) (op : BinOp) (hop : op = .eql ∨ op = .neq) :
    h' = h ∧ (eqGuard op t o1 o2 x y).run P w = .ok () w ∧ (Op.equal t x y).run P w = .ok r w ∧ eqShape x y := by
  unfold aequal at e
  have struct : ∀ (u : Unit) (h1 : Hp), (P.underlying t = some .bool ∨ ∃ fs, P.underlying t = some (.struct fs)) → (AM.guard (!(P.eqGuardType P.depth t))).run h = some (u, h1) → (AM.ofOption (aeqIn P 9 t a b)).run h1 = some (r, h') →
      h' = h ∧ (eqGuard op t o1 o2 x y).run P w = .ok () w ∧ (Op.equal t x y).run P w = .ok r w ∧ eqShape x y := by
    intro u h1 hk e1 e2
    obtain ⟨hg, rfl⟩ := qap e1
    obtain ⟨e3, rfl⟩ := qbb e2
    have hm : P.eqGuardType P.depth t = false := by simpa using hg
    have hsh : (∃ a b, x = .bool a ∧ y = .bool b) ∨ (∃ a b, x = .agg a ∧ y = .agg b) := by
      unfold aeqIn at e3
      split at e3
      · cases ra; cases rb; exact .inl ⟨_, _, rfl, rfl⟩
      · rename_i hu; rw [hu] at hk; simp at hk
      · rename_i hu; rw [hu] at hk; simp at hk
      · cases ra; cases rb; exact .inr ⟨_, _, rfl, rfl⟩
      · cases e3
    refine ⟨rfl, ?_, aeqIn_sim 9 t a b x y r 10000 (by omega) ra rb e3, ?_⟩
    · rcases hsh with ⟨a, b, rfl, rfl⟩ | ⟨a, b, rfl, rfl⟩
      · rcases hop with rfl | rfl <;> simp [eqGuard]
      · exact run_eqGuard_agg w op t o1 o2 _ _ hm
    · rcases hsh with hh | hh
      · exact .inl hh
      · exact .inr (.inl hh)
  split at e
  · rename_i hu; obtain ⟨u, h1, e1, e2⟩ := bind_some e; exact struct u h1 (.inl hu) e1 e2
  · rename_i fs hu; obtain ⟨u, h1, e1, e2⟩ := bind_some e; exact struct u h1 (.inr ⟨fs, hu⟩) e1 e2
  · rename_i d hd1 hd2 hu
    obtain ⟨ba, h1, e1, e2⟩ := bind_some e
    obtain ⟨bb, h2, e3, e4⟩ := bind_some e2
    obtain ⟨u, h3, e5, e6⟩ := bind_some e4
    obtain ⟨rfl, k1⟩ := nilKind_sim e1 ra s
    obtain ⟨rfl, k2⟩ := nilKind_sim e3 rb s
    obtain ⟨hg, rfl⟩ := qap e5
    obtain ⟨rfl, rfl⟩ := qab e6
    refine ⟨rfl, ?_, ?_, ?_⟩
    · rcases k1 with ⟨_, _, rfl, rfl, _⟩ | ⟨_, _, _, _, rfl, rfl, _⟩ | ⟨_, _, _, rfl, rfl, _⟩ | ⟨_, _, _, rfl, ⟨rfl, _⟩ | ⟨_, _, _, rfl, _⟩⟩ <;> rcases hop with rfl | rfl <;> simp [eqGuard]
    · have hnil : isNil a = true ∨ isNil b = true := by simpa using hg
      have hx := fun hn : isNil a = true => isNil_sim hn ra
      have hy := fun hn : isNil b = true => isNil_sim hn rb
      show (Op.equalIn (9999 + 1) t x y).run P w = _
      rcases k1 with ⟨t', o, rfl, rfl, rfl⟩ | ⟨t', o, n, c, rfl, rfl, rfl⟩ | ⟨k', t', o, rfl, rfl, rfl⟩ | ⟨p, q, z, rfl, k1⟩
      · rcases k2 with ⟨_, o', hd, rfl, rfl⟩ | ⟨_, _, _, _, hd, _⟩ | ⟨_, _, _, hd, _⟩ | ⟨_, _, _, hd, _⟩ <;> try (cases hd; done)
        refine eq_nil_pointer 9999 hu o o' ?_
        rcases hnil with hn | hn
        · exact .inl (by simpa using hx hn)
        · exact .inr (by simpa using hy hn)
      · rcases k2 with ⟨_, _, hd, _⟩ | ⟨_, o', n', c', hd, rfl, rfl⟩ | ⟨_, _, _, hd, _⟩ | ⟨_, _, _, hd, _⟩ <;> try (cases hd; done)
        refine eq_nil_slice 9999 hu o o' n c n' c' ?_
        rcases hnil with hn | hn
        · have := hx hn; simp at this; exact .inl this.1
        · have := hy hn; simp at this; exact .inr this.1
      · rcases k2 with ⟨_, _, hd, _⟩ | ⟨_, _, _, _, hd, _⟩ | ⟨_, _, o', hd, rfl, rfl⟩ | ⟨_, _, _, hd, _⟩ <;> try (cases hd; done)
        refine eq_nil_map 9999 hu o o' ?_
        rcases hnil with hn | hn
        · exact .inl (by simpa using hx hn)
        · exact .inr (by simpa using hy hn)
      · rcases k2 with ⟨_, _, hd, _⟩ | ⟨_, _, _, _, hd, _⟩ | ⟨_, _, _, hd, _⟩ | ⟨_, _, _, hd, k2⟩ <;> try (cases hd; done)
        rcases k1 with ⟨rfl, rfl⟩ | ⟨f, u, v, rfl, rfl⟩ <;> rcases k2 with ⟨rfl, rfl⟩ | ⟨f', u', v', rfl, rfl⟩
        · exact (eq_nil_func 9999 hu (.func 0) #[] #[]).1
        · exact (eq_nil_func 9999 hu f' u' v').2.1
        · exact (eq_nil_func 9999 hu f u v).2.2
        · rcases hnil with hn | hn
          · have := hx hn; simp at this
          · have := hy hn; simp at this
    · rcases k1 with ⟨_, _, rfl, rfl, _⟩ | ⟨_, _, _, _, rfl, rfl, _⟩ | ⟨_, _, _, rfl, rfl, _⟩ | ⟨_, _, _, rfl, k1⟩ <;> rcases k2 with ⟨_, _, hd, rfl, _⟩ | ⟨_, _, _, _, hd, rfl, _⟩ | ⟨_, _, _, hd, rfl, _⟩ | ⟨_, _, _, hd, k2⟩ <;> try (cases hd; done)
      · exact .inr (.inr (.inl ⟨_, _, rfl, rfl⟩))
      · exact .inr (.inr (.inr (.inl ⟨_, _, _, _, _, _, rfl, rfl⟩)))
      · exact .inr (.inr (.inr (.inr (.inl ⟨_, _, rfl, rfl⟩))))
      · refine .inr (.inr (.inr (.inr (.inr ⟨?_, ?_⟩))))
        · rcases k1 with ⟨rfl, _⟩ | ⟨f, u, v, rfl, _⟩
          · exact .inl rfl
          · exact .inr ⟨_, _, _, rfl⟩
        · rcases k2 with ⟨rfl, _⟩ | ⟨f, u, v, rfl, _⟩
          · exact .inl rfl
          · exact .inr ⟨_, _, _, rfl⟩
  · cases e
end
end Go.Am
namespace Go.Am
open Go AM

section
variable {P : Program} {h h' : Hp} {μ : Nat → Nat} {w : World}

theorem VRs.length {l : List AV} {xs : List Value} (r : VRs h μ w l xs) : xs.length = l.length := r.1.symm

theorem abin_sim (s : SR h μ w) (op : BinOp) (t : TypeId) (o1 o2 : Operand) {a b : AV} {x y : Value} (ra : VR h μ w a x) (rb : VR h μ w b y) :
    PSim P h μ w (abin P op t a b) (do eqGuard op t o1 o2 x y; binOp op t x y) := by
  intro v h' e
  have scalar : ∀ (m : AM AV), (∀ v h', m.run h = some (v, h') → h' = h ∧ ∃ z, (binOp op t x y).run P w = .ok z w ∧ VR h μ w v z) → (eqGuard op t o1 o2 x y).run P w = .ok () w →
      m.run h = some (v, h') → h' = h ∧ ∃ z, ((do eqGuard op t o1 o2 x y; binOp op t x y : Sem Value)).run P w = .ok z w ∧ VR h μ w v z := by
    intro m hm hg e
    obtain ⟨rfl, z, h1, h2⟩ := hm v h' e
    exact ⟨rfl, z, by simp only [Sem.run_bind, hg, Result.andThen]; exact h1, h2⟩
  have guardInt : ∀ (k k' : IntKind) (i j : Int), x = .int k i → y = .int k' j → (eqGuard op t o1 o2 x y).run P w = .ok () w := by
    rintro k k' i j rfl rfl; cases op <;> simp [eqGuard]
  have guardStr : ∀ (i j : ByteArray), x = .string i → y = .string j → (eqGuard op t o1 o2 x y).run P w = .ok () w := by
    rintro i j rfl rfl; cases op <;> simp [eqGuard]
  unfold abin at e
  split at e
  · cases ra; cases rb; exact scalar _ (ashift_sim .shl (.inl rfl) _ _ _ _ t) (guardInt _ _ _ _ rfl rfl) e
  · cases ra; cases rb; exact scalar _ (ashift_sim .shr (.inr rfl) _ _ _ _ t) (guardInt _ _ _ _ rfl rfl) e
  · rename_i k i k' j n1 n2
    cases ra; cases rb
    split at e
    · rename_i hk; subst hk
      refine scalar _ (aintop_sim _ k i j ⟨?_, ?_⟩ t) (guardInt _ _ _ _ rfl rfl) e
      · rintro rfl; exact n1 rfl
      · rintro rfl; exact n2 rfl
    · cases e
  · cases ra with | str s1 _ e1 => cases rb with | str s2 _ e2 =>
    subst e1 e2
    by_cases hne : op = .shl ∨ op = .shr
    · rcases hne with rfl | rfl <;> cases e
    · exact scalar _ (astrop_sim op s1 s2 (by simpa using hne) t) (guardStr _ _ rfl rfl) e
  · obtain ⟨r, h1, e1, e2⟩ := bind_some e
    obtain ⟨rfl, hg, hq⟩ := aequal_sim s e1 ra rb o1 o2 .eql (.inl rfl)
    obtain ⟨rfl, rfl⟩ := qab e2
    exact ⟨rfl, .bool r, by simp only [Sem.run_bind, hg, Result.andThen, (binOp_shape hq.2 hq.1).1], .bool r⟩
  · obtain ⟨r, h1, e1, e2⟩ := bind_some e
    obtain ⟨rfl, hg, hq⟩ := aequal_sim s e1 ra rb o1 o2 .neq (.inr rfl)
    obtain ⟨rfl, rfl⟩ := qab e2
    exact ⟨rfl, .bool !r, by simp only [Sem.run_bind, hg, Result.andThen, (binOp_shape hq.2 hq.1).2], .bool _⟩
  · cases e

theorem fieldAddr_sim {t f : Nat} {a : AV} {x : Value} (s : SR h μ w) (r : VR h μ w a x) : PSim P h μ w (afieldAddr P t a f) (Instr.fieldAt t x f) := by
  intro v h' e
  obtain ⟨fd, h1, e1, e2⟩ := bind_some e
  obtain ⟨rfl, fs, hu, hf⟩ := fieldAt_some e1
  obtain ⟨n, h2, e3, e4⟩ := bind_some e2
  obtain ⟨rfl, i, hi, hn⟩ := qb5 e3
  obtain ⟨_, h3, e5, e6⟩ := bind_some e4
  obtain ⟨hg, rfl⟩ := qap e5
  have hn0 : i.size ≠ 0 := by intro h0; rw [← hn, h0] at hg; simp at hg
  have hrun : ∀ ad : Addr, (Instr.fieldAt t (.pointer (some ad)) f).run P w = .ok (.pointer (some (ad.add fd.offset))) w := fun ad => by
    simp [Instr.fieldAt, Sem.run_bind, run_underlying hu, hf, Instr.sureAddr, fieldPlace, qbg hi, hn0]
  split at e6
  · rename_i id ver off
    obtain ⟨rfl, rfl⟩ := qab e6
    cases r with
    | ptr _ _ _ o ho hv =>
      refine ⟨rfl, _, hrun _, ?_⟩
      rw [add_plain]; exact .ptr _ _ _ o ho hv
    | ptrOld _ _ _ ad o ho hv => exact ⟨rfl, _, hrun _, .ptrOld _ _ _ _ o ho hv⟩
  · rename_i cells
    obtain ⟨_, h4, e7, e8⟩ := bind_some e6
    obtain ⟨hg2, rfl⟩ := qap e7
    obtain ⟨rfl, rfl⟩ := qab e8
    cases r with
    | iptr _ ad vals hh hb hl hc hr =>
      refine ⟨rfl, _, hrun _, ?_⟩
      have rr := VRs.drop (h := h') (μ := μ) (w := w) ⟨hl, hr⟩ fd.offset
      exact .iptr _ _ (vals.drop fd.offset) (by rw [add_block]; exact hh) (by rw [add_block]; exact hb) rr.1 (At.drop hc _) rr.2
  · cases e6

theorem VRs.toAgg {cells : List AV} {x : Value} (r : VR h μ w (.agg cells) x) : ∃ vals : List Value, x = .agg vals.toArray ∧ VRs h μ w cells vals := by
  cases r with | agg _ vals hl hr => exact ⟨vals, rfl, hl, hr⟩

/-- a part of some cells, read -/
theorem aread_part {t : Nat} {cells : List AV} {v : AV} {vals : List Value} {off : Nat} (e : (aread P t (cells.drop off)).run h = some (v, h')) (r : VRs h μ w cells vals) :
    h' = h ∧ ∃ x, (part t vals.toArray off).run P w = .ok x w ∧ VR h μ w v x := by
  obtain ⟨d, h1, e1, e2⟩ := bind_some e
  obtain ⟨rfl, hu⟩ := underOf_some e1
  cases hd : aggB d with
  | true =>
    rw [hd] at e2
    obtain ⟨n, h2, e3, e4⟩ := bind_some e2
    obtain ⟨rfl, i, hi, hn⟩ := qb5 e3
    obtain ⟨_, h3, e5, e6⟩ := bind_some e4
    obtain ⟨hg, rfl⟩ := qap e5
    obtain ⟨rfl, rfl⟩ := qab e6
    refine ⟨rfl, _, run_part_agg hu hd hi, ?_⟩
    have hh := (r.drop off).take n
    have : vals.toArray.extract off (off + i.size) = ((vals.drop off).take n).toArray := by
      rw [← hn]; simp [List.take_drop]
    rw [this]
    exact .agg _ _ hh.1 hh.2
  | false =>
    rw [hd] at e2
    obtain ⟨e3, rfl⟩ := qbb e2
    have e4 : cells[off]? = some v := by rw [List.head?_drop] at e3; exact e3
    clear e2
    obtain ⟨x, hx, hr⟩ := r.get? e4
    exact ⟨rfl, x, run_part_cell hu hd (by simpa using hx), hr⟩

theorem field_sim {t f : Nat} {a : AV} {x : Value} (r : VR h μ w a x) : PSim P h μ w (afield P t a f) (Instr.field t x f) := by
  intro v h' e
  obtain ⟨fd, h1, e1, e2⟩ := bind_some e
  obtain ⟨rfl, fs, hu, hf⟩ := fieldAt_some e1
  split at e2
  · rename_i cells
    obtain ⟨_, h2, e3, e4⟩ := bind_some e2
    obtain ⟨hg, rfl⟩ := qap e3
    obtain ⟨vals, rfl, rr⟩ := VRs.toAgg r
    obtain ⟨rfl, y, hy, ry⟩ := aread_part e4 rr
    exact ⟨rfl, y, by simp [Instr.field, Sem.run_bind, run_underlying hu, hf, asAgg, hy], ry⟩
  · cases e2

theorem within_iff {i : Int} {n : Nat} : within i n = true ↔ 0 ≤ i ∧ i < n := by simp [within]

theorem indexAddr_sim (s : SR h μ w) {t : Nat} {a b : AV} {x y : Value} (r : VR h μ w a x) (r2 : VR h μ w b y) : PSim P h μ w (aindexAddr P t a b) (Instr.indexAt t x y) := by
  intro v h' e
  unfold aindexAddr at e
  split at e
  · rename_i k i
    cases r2
    split at e
    · rename_i el kk n cells hu
      obtain ⟨sz, h1, e1, e2⟩ := bind_some e
      obtain ⟨rfl, inf, hi, hn⟩ := qb5 e1
      obtain ⟨_, h2, e3, e4⟩ := bind_some e2
      obtain ⟨hg, rfl⟩ := qap e3
      obtain ⟨rfl, rfl⟩ := qab e4
      simp only [Bool.and_eq_true, within_iff, Nat.beq_eq, Bool.not_eq_true', Bool.eq_false_iff, ne_eq] at hg
      obtain ⟨⟨hw, hlen⟩, hsz⟩ := hg
      cases r with
      | sl _ _ _ A cap vals hle hnil hfull htight hpos hh hl hs hc hr =>
        have hA := hpos (by omega)
        obtain ⟨ad, rfl⟩ := Option.isSome_iff_exists.1 hA
        have hlt : i.toNat < n := by omega
        refine ⟨rfl, .pointer (some (ad.add (i.toNat * sz))), ?_, ?_⟩
        · simp [Instr.indexAt, Sem.run_bind, asIntOf, run_underlying hu, hw.1, hw.2, qbg hi, hn]
        · have hne : cells ≠ [] := by
            intro h0
            rw [h0] at hlen
            rcases Nat.mul_eq_zero.1 hlen with h0 | h0 <;> omega
          obtain ⟨q1, q2⟩ := hh ad rfl hne
          have rr := VRs.drop (h := h') (μ := μ) (w := w) ⟨hl, hr⟩ (i.toNat * sz)
          exact .iptr _ _ (vals.drop (i.toNat * sz)) (by rw [add_block]; exact q1) (by rw [add_block]; exact q2) rr.1 (At.drop (hc ad rfl) _) rr.2
    · rename_i el id ver off n hu
      obtain ⟨sz, h1, e1, e2⟩ := bind_some e
      obtain ⟨rfl, inf, hi, hn⟩ := qb5 e1
      obtain ⟨⟨esz, cells, fix⟩, h2, e3, e4⟩ := bind_some e2
      obtain ⟨rfl, o, ho, hv, hbody⟩ := qbw e3
      obtain ⟨_, h3, e5, e6⟩ := bind_some e4
      obtain ⟨hg, rfl⟩ := qap e5
      obtain ⟨rfl, rfl⟩ := qab e6
      simp only [Bool.and_eq_true, within_iff, Nat.ble_eq] at hg
      obtain ⟨hw, hlen⟩ := hg
      obtain ⟨ad, cap, rfl, hcap, hex⟩ := r.own_live ho hv hbody
      obtain ⟨rfl, _⟩ := hex (.inl (by omega))
      refine ⟨rfl, .pointer (some ((⟨μ id, off, none⟩ : Addr).add (i.toNat * sz))), ?_, ?_⟩
      · simp [Instr.indexAt, Sem.run_bind, asIntOf, run_underlying hu, hw.1, hw.2, qbg hi, hn]
      · rw [add_plain]; exact .ptr _ _ _ o ho hv
    · rename_i n el cells hu
      obtain ⟨sz, h1, e1, e2⟩ := bind_some e
      obtain ⟨rfl, inf, hi, hn⟩ := qb5 e1
      obtain ⟨_, h2, e3, e4⟩ := bind_some e2
      obtain ⟨hg, rfl⟩ := qap e3
      obtain ⟨rfl, rfl⟩ := qab e4
      simp only [Bool.and_eq_true, within_iff, Nat.ble_eq] at hg
      obtain ⟨hw, hlen⟩ := hg
      cases r with
      | iptr _ ad vals hh hb hl hc hr =>
        refine ⟨rfl, .pointer (some (ad.add (i.toNat * sz))), ?_, ?_⟩
        · simp [Instr.indexAt, Sem.run_bind, asIntOf, run_underlying hu, hw.1, hw.2, qbg hi, hn, Instr.sureAddr]
        · have rr := VRs.drop (h := h') (μ := μ) (w := w) ⟨hl, hr⟩ (i.toNat * sz)
          exact .iptr _ _ (vals.drop (i.toNat * sz)) (by rw [add_block]; exact hh) (by rw [add_block]; exact hb) rr.1 (At.drop hc _) rr.2
    · rename_i n el id ver off hu
      obtain ⟨sz, h1, e1, e2⟩ := bind_some e
      obtain ⟨rfl, inf, hi, hn⟩ := qb5 e1
      obtain ⟨_, h2, e3, e4⟩ := bind_some e2
      obtain ⟨hg, rfl⟩ := qap e3
      obtain ⟨rfl, rfl⟩ := qab e4
      have hw := within_iff.1 hg
      have hrun : ∀ ad : Addr, (Instr.indexAt t (.pointer (some ad)) (.int k i)).run P w = .ok (.pointer (some (ad.add (i.toNat * sz)))) w := fun ad => by
        simp [Instr.indexAt, Sem.run_bind, asIntOf, run_underlying hu, hw.1, hw.2, qbg hi, hn, Instr.sureAddr]
      cases r with
      | ptr _ _ _ o ho hv => exact ⟨rfl, _, hrun _, by rw [add_plain]; exact .ptr _ _ _ o ho hv⟩
      | ptrOld _ _ _ ad o ho hv => exact ⟨rfl, _, hrun _, .ptrOld _ _ _ _ o ho hv⟩
    · cases e
  · cases e

theorem index_sim {t : Nat} {a b : AV} {x y : Value} (r : VR h μ w a x) (r2 : VR h μ w b y) : PSim P h μ w (aindex P t a b) (Instr.index t x y) := by
  intro v h' e
  unfold aindex at e
  split at e
  · rename_i k i
    cases r2
    split at e
    · rename_i n el cells hu
      obtain ⟨sz, h1, e1, e2⟩ := bind_some e
      obtain ⟨rfl, inf, hi, hn⟩ := qb5 e1
      obtain ⟨_, h2, e3, e4⟩ := bind_some e2
      obtain ⟨hg, rfl⟩ := qap e3
      simp only [Bool.and_eq_true, within_iff, Nat.ble_eq] at hg
      obtain ⟨hw, hlen⟩ := hg
      obtain ⟨vals, rfl, rr⟩ := VRs.toAgg r
      obtain ⟨rfl, z, hz, rz⟩ := aread_part e4 rr
      exact ⟨rfl, z, by simp [Instr.index, Sem.run_bind, asIntOf, run_underlying hu, hw.1, hw.2, qbg hi, hn, hz], rz⟩
    · rename_i s hu
      obtain ⟨_, h2, e3, e4⟩ := bind_some e
      obtain ⟨hg, rfl⟩ := qap e3
      obtain ⟨b, h3, e5, e6⟩ := bind_some e4
      obtain ⟨hb, rfl⟩ := qbb e5
      obtain ⟨rfl, rfl⟩ := qab e6
      have hw := within_iff.1 hg
      cases r with | str s' _ e' =>
      subst e'
      have hsz : s'.data.toList.length = s'.size := by rw [Array.length_toList]; rfl
      have hlt : i.toNat < s'.size := by omega
      have hb' : s'[i.toNat]? = some b := by
        rw [getElem?_pos s' i.toNat hlt]
        rw [List.getElem?_eq_getElem (by omega)] at hb
        cases hb
        rfl
      exact ⟨rfl, .int .u8 b.toNat, by simp [Instr.index, Sem.run_bind, asIntOf, run_underlying hu, hw.1, hb'], .int _ _⟩
    · cases e
  · cases e
end
end Go.Am
namespace Go.Am
open Go AM

section
variable {P : Program} {h h' : Hp} {μ : Nat → Nat} {w : World}

def OVR (h : Hp) (μ : Nat → Nat) (w : World) : Option AV → Option Value → Prop
  | none, none => True
  | some a, some x => VR h μ w a x
  | _, _ => False

theorem abound_sim {most other : Nat} {b : Option AV} {b' : Option Value} {u : Nat} (e : (abound most other b).run h = some (u, h')) (r : OVR h μ w b b') :
    h' = h ∧ ((b = none ∧ b' = none ∧ u = other) ∨ (u ≤ most ∧ ∃ y, b' = some y ∧ ∀ (cap : Nat) (c : BoundsCode), most ≤ cap → (Instr.sliceBound y cap c).run P w = .ok u w)) := by
  unfold abound at e
  split at e
  · rename_i k i
    obtain ⟨_, h3, e5, e6⟩ := bind_some e
    obtain ⟨hg, rfl⟩ := qap e5
    obtain ⟨rfl, rfl⟩ := qab e6
    have hg := of_decide_eq_true hg
    cases b' with
    | none => exact r.elim
    | some x =>
      cases r
      refine ⟨rfl, .inr ⟨by omega, _, rfl, fun cap c hc => ?_⟩⟩
      have : 0 ≤ i ∧ i ≤ (cap : Int) := by omega
      simp [Instr.sliceBound, asIntOf, this.1, this.2]
  · obtain ⟨rfl, rfl⟩ := qab e
    cases b' with
    | none => exact ⟨rfl, .inl ⟨rfl, rfl, rfl⟩⟩
    | some x => exact r.elim
  · cases e

theorem abounds_sim {n m : Nat} {lo hi : Option AV} {lo' hi' : Option Value} {l u : Nat} (e : (qcb n m lo hi).run h = some ((l, u), h')) (r1 : OVR h μ w lo lo') (r2 : OVR h μ w hi hi') (hnm : n ≤ m) :
    h' = h ∧ l ≤ u ∧ u ≤ m ∧ (hi = none → u = n) ∧ ∀ (isS : Bool) (cap : Nat), m ≤ cap → (Instr.sliceBounds isS n cap lo' hi' none).run P w = .ok (l, u, cap) w := by
  obtain ⟨u', h1, e1, e2⟩ := bind_some e
  obtain ⟨l', h2, e3, e4⟩ := bind_some e2
  obtain ⟨rfl, k1⟩ := abound_sim (P := P) e1 r2
  obtain ⟨rfl, k2⟩ := abound_sim (P := P) e3 r1
  obtain ⟨he, rfl⟩ := qab e4
  simp only [Prod.mk.injEq] at he
  obtain ⟨rfl, rfl⟩ := he
  refine ⟨rfl, ?_, ?_, ?_, fun isS cap hc => ?_⟩
  · rcases k2 with ⟨_, _, h0⟩ | ⟨h0, _⟩ <;> omega
  · rcases k1 with ⟨_, _, h0⟩ | ⟨h0, _⟩ <;> omega
  · rintro rfl
    rcases k1 with ⟨_, _, h0⟩ | ⟨_, y, rfl, _⟩
    · exact h0
    · exact r2.elim
  · rcases k1 with ⟨_, rfl, rfl⟩ | ⟨_, y, rfl, hy⟩ <;> rcases k2 with ⟨_, rfl, rfl⟩ | ⟨_, z, rfl, hz⟩
    · simp [Instr.sliceBounds]
    · simp [Instr.sliceBounds, hz _ _ (Nat.le_refl _)]
    · simp [Instr.sliceBounds, hy _ _ hc]
    · simp [Instr.sliceBounds, hy _ _ hc, hz _ _ (Nat.le_refl _)]

theorem slice_sim (s : SR h μ w) {t : Nat} {a : AV} {x : Value} {lo hi mx : Option AV} {lo' hi' mx' : Option Value} (r : VR h μ w a x) (r1 : OVR h μ w lo lo') (r2 : OVR h μ w hi hi') (r3 : OVR h μ w mx mx') :
    PSim P h μ w (aslice P t a lo hi mx) (Instr.sliceAt t x lo' hi' mx') := by
  intro v h' e
  unfold aslice at e
  split at e
  · -- texts
    rename_i str
    obtain ⟨⟨l, u⟩, h1, e1, e2⟩ := bind_some e
    cases mx' with
    | some _ => exact r3.elim
    | none =>
    cases r with | str s' _ e' =>
    subst e'
    obtain ⟨rfl, hlu, hum, _, hrun⟩ := abounds_sim (P := P) e1 r1 r2 (Nat.le_refl _)
    dsimp only at e2
    split at e2
    · rename_i hu
      obtain ⟨rfl, rfl⟩ := qab e2
      have hsz : s'.data.toList.length = s'.size := by rw [Array.length_toList]; rfl
      have := hrun false s'.size (by omega)
      rw [hsz] at this
      refine ⟨rfl, .string (s'.extract l u), ?_, .str _ _ ?_⟩
      · simp [Instr.sliceAt, Instr.slice, Sem.run_bind, run_underlying hu, this]
      · simp [List.take_drop, show l + (u - l) = u by omega]
    · cases e2
  · -- slices that nobody writes
    rename_i k n cells
    obtain ⟨el, h1, e1, e2⟩ := bind_some e
    obtain ⟨rfl, hu⟩ := elemOf_some e1
    obtain ⟨sz, h2, e3, e4⟩ := bind_some e2
    obtain ⟨rfl, inf, hi2, hn⟩ := qb5 e3
    obtain ⟨_, h3, e5, e6⟩ := bind_some e4
    obtain ⟨hg, rfl⟩ := qap e5
    obtain ⟨⟨l, u⟩, h4, e7, e8⟩ := bind_some e6
    obtain ⟨rfl, rfl⟩ := qab e8
    cases mx' with
    | some _ => exact r3.elim
    | none =>
    obtain ⟨rfl, hlu, hum, _, hrun⟩ := abounds_sim (P := P) e7 r1 r2 (Nat.le_refl _)
    have hlen : n * sz = cells.length := by simpa using hg
    cases r with
    | sl _ _ _ A cap vals hle hnil hfull htight hpos hh hl hs hc hr =>
      have hb := hrun true cap hle
      refine ⟨rfl, .slice (if cap = l then A else A.map (·.add (l * sz))) (u - l) (cap - l), ?_, ?_⟩
      · simp [Instr.sliceAt, Instr.slice, Sem.run_bind, run_underlying hu, hb, qbg hi2, hn]
      · have rr := ((VRs.drop (μ := μ) (w := w) ⟨hl, hr⟩ (l * sz)).take ((u - l) * sz))
        have hA : ∀ ad', (if cap = l then A else A.map (·.add (l * sz))) = some ad' → ∃ ad, A = some ad ∧ ((cap = l ∧ ad' = ad) ∨ ad' = ad.add (l * sz)) := by
          intro ad' he
          by_cases hcl : cap = l
          · rw [if_pos hcl] at he; exact ⟨ad', he, .inl ⟨hcl, rfl⟩⟩
          · rw [if_neg hcl] at he
            cases A with
            | none => cases he
            | some ad => cases he; exact ⟨ad, rfl, .inr rfl⟩
        have hS : A.isSome = true → (if cap = l then A else A.map (·.add (l * sz))).isSome = true := by
          intro hA'; split <;> simp [hA']
        have hz : cap = l → u - l = 0 := by omega
        refine .sl _ _ _ _ _ ((vals.drop (l * sz)).take ((u - l) * sz)) (by omega) ?_ ?_ ?_ (fun h0 => hS (hpos (by omega))) ?_ rr.1 ?_ ?_ rr.2
        · intro hk
          have : k = .nil := by cases k <;> simp at hk ⊢ <;> (cases hb2 : Nat.beq u n <;> rw [hb2] at hk <;> cases hk)
          obtain ⟨h1, h2⟩ := hnil this
          exact ⟨by rw [h1]; split <;> rfl, by omega⟩
        · intro hk
          have : k = .full ∧ u = n := by
            cases k <;> simp at hk ⊢ <;> (cases hb2 : Nat.beq u n <;> rw [hb2] at hk <;> first | (cases hk; done) | exact Nat.eq_of_beq_eq_true hb2)
          obtain ⟨h1, h2⟩ := hfull this.1
          exact ⟨hS h1, by omega⟩
        · intro hk
          have : k = .tight ∧ u = n := by
            cases k <;> simp at hk ⊢ <;> (cases hb2 : Nat.beq u n <;> rw [hb2] at hk <;> first | (cases hk; done) | exact Nat.eq_of_beq_eq_true hb2)
          have := htight this.1
          omega
        · intro ad' he hne
          obtain ⟨ad, rfl, hd⟩ := hA ad' he
          have hne2 : cells ≠ [] := by rintro rfl; simp at hne
          obtain ⟨q1, q2⟩ := hh ad rfl hne2
          rcases hd with ⟨_, rfl⟩ | rfl
          · exact ⟨q1, q2⟩
          · rw [add_block]; exact ⟨q1, q2⟩
        · intro hne
          have hne2 : cells ≠ [] := by rintro rfl; simp at hne
          exact hS (hs hne2)
        · intro ad' he
          obtain ⟨ad, rfl, hd⟩ := hA ad' he
          rcases hd with ⟨hcl, rfl⟩ | rfl
          · intro i hi
            simp [hz hcl] at hi
          · exact At.take (At.drop (hc ad rfl) (l * sz)) _
  · -- slices that are written
    rename_i id ver off n
    obtain ⟨el, h1, e1, e2⟩ := bind_some e
    obtain ⟨rfl, hu⟩ := elemOf_some e1
    obtain ⟨sz, h2, e3, e4⟩ := bind_some e2
    obtain ⟨rfl, inf, hi2, hn⟩ := qb5 e3
    obtain ⟨⟨esz, cells, fix⟩, h3, e5, e6⟩ := bind_some e4
    obtain ⟨rfl, o, ho, hv, hbody⟩ := qbw e5
    obtain ⟨_, h4, e7, e8⟩ := bind_some e6
    obtain ⟨hg, rfl⟩ := qap e7
    obtain ⟨⟨l, u⟩, h5, e9, e10⟩ := bind_some e8
    obtain ⟨rfl, rfl⟩ := qab e10
    cases mx' with
    | some _ => exact r3.elim
    | none =>
    have hnm : n ≤ roomIn n off sz cells.length := by unfold roomIn; cases (Nat.ble 1 n || Nat.beq off 0) <;> simp <;> omega
    obtain ⟨rfl, hlu, hum, _, hrun⟩ := abounds_sim (P := P) e9 r1 r2 hnm
    simp only [Bool.and_eq_true, Nat.beq_eq, Nat.ble_eq] at hg
    obtain ⟨rfl, hfit⟩ := hg
    obtain ⟨ad, cap, rfl, hcap, hex⟩ := r.own_live ho hv hbody
    have hroom : roomIn n off esz cells.length ≤ cap ∧ (roomIn n off esz cells.length = n ∨ 0 < n ∨ off = 0) := by
      unfold roomIn
      cases hq : (Nat.ble 1 n || Nat.beq off 0) with
      | false => exact ⟨hcap, .inl rfl⟩
      | true =>
        have hcond : 0 < n ∨ off = 0 := by
          rcases Bool.or_eq_true_iff.1 hq with q | q
          · left; exact Nat.lt_of_succ_le (by simpa using q)
          · right; simpa using q
        obtain ⟨_, cs, ty, hw, hsz⟩ := hex hcond
        obtain ⟨cs2, ty2, hw2, hcs, _, _⟩ := s.row ho hbody
        rw [hw] at hw2
        injection hw2 with hw2
        injection hw2 with c1 c2
        subst c1
        refine ⟨?_, .inr hcond⟩
        simp only [cond_true]
        have h1 : (cells.length - off) / esz ≤ cap := by
          rcases Nat.eq_zero_or_pos esz with h0 | h0
          · rw [h0, Nat.div_zero]; omega
          · exact Nat.le_of_lt_succ ((Nat.div_lt_iff_lt_mul h0).2 (by rw [Nat.succ_mul]; omega))
        omega
    have hb := hrun true cap hroom.1
    refine ⟨rfl, .slice (some (if cap = l then ad else ad.add (l * esz))) (u - l) (cap - l), ?_, ?_⟩
    · simp [Instr.sliceAt, Instr.slice, Sem.run_bind, run_underlying hu, hb, qbg hi2, hn]
      split <;> rfl
    · refine .own _ _ _ _ o ho hv esz cells fix hbody _ _ (by omega) (fun hcond => ?_)
      by_cases hcl : cap = l
      · -- nothing behind: an offset 0
        have hul : u - l = 0 := by omega
        have hoff : off + l * esz = 0 := by omega
        have : off = 0 := by omega
        subst this
        have hle0 : l * esz = 0 := by omega
        obtain ⟨rfl, cs, ty, hw, hsz⟩ := hex (.inr rfl)
        rw [if_pos hcl]
        refine ⟨by rw [hle0], cs, ty, hw, ?_⟩
        rw [← hsz, hcl]; simp [hle0]
      · rw [if_neg hcl]
        have hcond2 : 0 < n ∨ off = 0 := by
          rcases hroom.2 with hr | hr
          · rcases hcond with hc | hc
            · left; omega
            · right; omega
          · exact hr
        obtain ⟨rfl, cs, ty, hw, hsz⟩ := hex hcond2
        refine ⟨add_plain _ _ _, cs, ty, hw, ?_⟩
        rw [← hsz, Nat.add_assoc, ← Nat.add_mul]
        congr 2
        omega
  · -- s[:0:0]
    rename_i k n cells k2
    split at e
    · rename_i k3
      obtain ⟨el, h1, e1, e2⟩ := bind_some e
      obtain ⟨rfl, hu⟩ := elemOf_some e1
      obtain ⟨sz, h2, e3, e4⟩ := bind_some e2
      obtain ⟨rfl, inf, hi2, hn⟩ := qb5 e3
      obtain ⟨rfl, rfl⟩ := qab e4
      cases lo' with
      | some _ => exact r1.elim
      | none =>
      cases hi' with
      | none => exact r2.elim
      | some y =>
      cases mx' with
      | none => exact r3.elim
      | some z =>
      cases r2; cases r3
      cases r with
      | sl _ _ _ A cap vals hle hnil hfull htight hpos hh hl hs hc hr =>
        refine ⟨rfl, .slice A 0 0, ?_, .sl _ _ _ _ _ [] (Nat.le_refl _) ?_ ?_ (fun _ => rfl) (fun h0 => absurd h0 (Nat.lt_irrefl _)) (fun _ _ hne => absurd rfl hne) rfl (fun hne => absurd rfl hne) (fun _ _ i hi => absurd hi (Nat.not_lt_zero _)) (fun i hi => absurd hi (Nat.not_lt_zero _))⟩
        · simp [Instr.sliceAt, Instr.slice, run_underlying hu, Instr.sliceBounds, Instr.sliceBound, asIntOf, qbg hi2]
        · intro hk; cases k <;> simp at hk
          exact ⟨(hnil rfl).1, rfl⟩
        · intro hk; cases k <;> simp at hk
    · cases e
  · rename_i id ver off n k2
    split at e
    · obtain ⟨el, h1, e1, e2⟩ := bind_some e
      obtain ⟨rfl, hu⟩ := elemOf_some e1
      obtain ⟨sz, h2, e3, e4⟩ := bind_some e2
      obtain ⟨rfl, inf, hi2, hn⟩ := qb5 e3
      obtain ⟨⟨esz, cells, fix⟩, h3, e5, e6⟩ := bind_some e4
      obtain ⟨rfl, o, ho, hv, hbody⟩ := qbw e5
      obtain ⟨rfl, rfl⟩ := qab e6
      cases lo' with
      | some _ => exact r1.elim
      | none =>
      cases hi' with
      | none => exact r2.elim
      | some y =>
      cases mx' with
      | none => exact r3.elim
      | some z =>
      cases r2; cases r3
      obtain ⟨ad, cap, rfl, hcap, hex⟩ := r.own_live ho hv hbody
      refine ⟨rfl, .slice (some ad) 0 0, ?_, .sl _ _ _ _ _ [] (Nat.le_refl _) (fun hk => by cases hk) (fun hk => by cases hk) (fun _ => rfl) (fun h0 => absurd h0 (Nat.lt_irrefl _)) (fun _ _ hne => absurd rfl hne) rfl (fun hne => absurd rfl hne) (fun _ _ i hi => absurd hi (Nat.not_lt_zero _)) (fun i hi => absurd hi (Nat.not_lt_zero _))⟩
      simp [Instr.sliceAt, Instr.slice, run_underlying hu, Instr.sliceBounds, Instr.sliceBound, asIntOf, qbg hi2]
    · cases e
  · cases e

/-! ### maps, lengths -/
theorem SR.mapBorn (s : SR h μ w) {id : Nat} {o : AObj} {es : List (AV × AV)} (ho : h.get id = some o) (hb : o.body = .map es) :
    ∃ ms clock, w.heap[μ id]? = some (.map ms clock) ∧ VRs h μ w (es.map (·.1)) (ms.toList.map (·.key)) ∧ VRs h μ w (es.map (·.2)) (ms.toList.map (·.val)) ∧ Born ms clock := by
  obtain ⟨obj, h1, h2⟩ := s.blk id o ho
  rw [hb] at h2
  obtain ⟨ms, c, rfl, h3, h4, h5⟩ := h2
  exact ⟨ms, c, h1, h3, h4, h5⟩
theorem SR.map (s : SR h μ w) {id : Nat} {o : AObj} {es : List (AV × AV)} (ho : h.get id = some o) (hb : o.body = .map es) :
    ∃ ms clock, w.heap[μ id]? = some (.map ms clock) ∧ VRs h μ w (es.map (·.1)) (ms.toList.map (·.key)) ∧ VRs h μ w (es.map (·.2)) (ms.toList.map (·.val)) := by
  obtain ⟨obj, h1, h2⟩ := s.blk id o ho
  rw [hb] at h2
  obtain ⟨ms, c, rfl, h3, h4, _⟩ := h2
  exact ⟨ms, c, h1, h3, h4⟩

theorem goodKey_sim {kt : Nat} {k : AV} {y : Value} (hg : goodKey P kt k = true) (r : VR h μ w k y) : (∃ j n, P.underlying kt = some (.int j) ∧ k = .int j n ∧ y = .int j n) ∨
    (∃ s : ByteArray, P.underlying kt = some .string ∧ k = .str s.data.toList ∧ y = .string s) := by
  unfold goodKey at hg
  split at hg
  · rename_i j k' n hu
    cases r
    obtain rfl := of_decide_eq_true hg
    exact .inl ⟨_, _, hu, rfl, rfl⟩
  · rename_i l hu
    cases r with | str s _ e => subst e; exact .inr ⟨s, hu, rfl, rfl⟩
  · cases hg

theorem checkKey_sim {kt : Nat} {k : AV} {y : Value} (hg : goodKey P kt k = true) (r : VR h μ w k y) (em : Bool) : (Instr.checkKey em 10000 kt y).run P w = .ok () w := by
  have key : ∀ d : Nat, (Instr.checkKey em (d + 1) kt y).run P w = .ok () w := by
    intro d
    rcases goodKey_sim hg r with ⟨j, n, hu, rfl, rfl⟩ | ⟨s, hu, rfl, rfl⟩ <;> simp [Instr.checkKey, run_underlying hu]
  exact key 9999

theorem findNow_sim {kt : Nat} {k : AV} {y : Value} {d : TypeDesc} (hu : P.underlying kt = some d) (hg : goodKey P kt k = true) (r : VR h μ w k y) :
    ∀ (es : List (AV × AV)) (ms : List MapEntry) (i : Nat) (res : Option AV), VRs h μ w (es.map (·.1)) (ms.map (·.key)) → VRs h μ w (es.map (·.2)) (ms.map (·.val)) → afind k es = some res →
      ∃ q, Instr.findNow d y ms i = some q ∧ match res with
        | none => q = none
        | some v => ∃ (j : Nat) (e : MapEntry), q = some (i + j, e.val) ∧ ms[j]? = some e ∧ VR h μ w v e.val := by
  intro es
  induction es with
  | nil =>
    intro ms i res r1 r2 e
    cases e
    have : ms = [] := by have := r1.1; simp at this; exact List.eq_nil_of_length_eq_zero this.symm
    subst this
    exact ⟨none, rfl, rfl⟩
  | cons p es ih =>
    intro ms i res r1 r2 e
    obtain ⟨x, v⟩ := p
    cases ms with
    | nil => have := r1.1; simp at this
    | cons m ms =>
      have hk : VR h μ w x m.key := r1.2 0 (by simp) (by simp)
      have hv : VR h μ w v m.val := r2.2 0 (by simp) (by simp)
      have r1' : VRs h μ w (es.map (·.1)) (ms.map (·.key)) := ⟨by have := r1.1; simpa using this, fun j h1 h2 => by simpa using r1.2 (j + 1) (by simpa using h1) (by simpa using h2)⟩
      have r2' : VRs h μ w (es.map (·.2)) (ms.map (·.val)) := ⟨by have := r2.1; simpa using this, fun j h1 h2 => by simpa using r2.2 (j + 1) (by simpa using h1) (by simpa using h2)⟩
      have same : ∀ b, keyEq k x = some b → Instr.sameNow d y m.key = some b := by
        intro b hb
        generalize m.key = mk at hk ⊢
        rcases goodKey_sim hg r with ⟨j, n, hu', rfl, rfl⟩ | ⟨s, hu', rfl, rfl⟩
        · rw [hu] at hu'; cases hu'
          unfold keyEq at hb
          split at hb
          · rename_i heq; cases heq; cases hk
            exact hb
          · rename_i heq; cases heq
          · rename_i heq; cases heq
          · cases hb
        · rw [hu] at hu'; cases hu'
          unfold keyEq at hb
          split at hb
          · rename_i heq; cases heq
          · rename_i heq; cases heq
            cases hk with | str s2 _ e2 =>
            subst e2
            cases hb
            simp only [Instr.sameNow]
            rw [beq_toListBytes, qcx, qcx]
          · rename_i heq; cases heq
          · cases hb
      rw [afind] at e
      split at e
      · rename_i hb
        cases e
        exact ⟨some (i, m.val), by simp [Instr.findNow, same true hb], 0, m, rfl, rfl, hv⟩
      · rename_i hb
        obtain ⟨q, hq, hres⟩ := ih ms (i + 1) res r1' r2' e
        refine ⟨q, by simp [Instr.findNow, same false hb, hq], ?_⟩
        cases res with
        | none => exact hres
        | some v' =>
          obtain ⟨j, e', h1, h2, h3⟩ := hres
          exact ⟨j + 1, e', by rw [h1]; congr 2; omega, by simpa using h2, h3⟩
      · cases e

theorem findKey_sim {kt : Nat} {k : AV} {y : Value} (hg : goodKey P kt k = true) (r : VR h μ w k y) {es : List (AV × AV)} {ms : List MapEntry} {res : Option AV}
    (r1 : VRs h μ w (es.map (·.1)) (ms.map (·.key))) (r2 : VRs h μ w (es.map (·.2)) (ms.map (·.val))) (e : afind k es = some res) :
    match res with
    | none => (Instr.findKey kt y ms).run P w = .ok none w
    | some v => ∃ (j : Nat) (e : MapEntry), (Instr.findKey kt y ms).run P w = .ok (some (j, e.val)) w ∧ ms[j]? = some e ∧ VR h μ w v e.val := by
  have hu : ∃ d, P.underlying kt = some d := by
    rcases goodKey_sim hg r with ⟨j, n, hu, _⟩ | ⟨s, hu, _⟩ <;> exact ⟨_, hu⟩
  obtain ⟨d, hu⟩ := hu
  obtain ⟨q, hq, hres⟩ := findNow_sim hu hg r es ms 0 res r1 r2 e
  have hrun : (Instr.findKey kt y ms).run P w = .ok q w := by simp [Instr.findKey, run_underlying hu, hq]
  cases res with
  | none => rw [hrun, hres]
  | some v =>
    obtain ⟨j, e', h1, h2, h3⟩ := hres
    exact ⟨j, e', by rw [hrun, h1]; simp, h2, h3⟩

theorem entriesOf_sim (s : SR h μ w) {a : AV} {x : Value} {es : List (AV × AV)} (e : (entriesOf a).run h = some (es, h')) (r : VR h μ w a x) :
    h' = h ∧ ∃ ms : Array MapEntry, VRs h μ w (es.map (·.1)) (ms.toList.map (·.key)) ∧ VRs h μ w (es.map (·.2)) (ms.toList.map (·.val)) ∧
      ((a = .nilmap ∧ x = .map none ∧ ms = #[]) ∨ (∃ id clock, a = .mapv id ∧ x = .map (some (μ id)) ∧ w.heap[μ id]? = some (.map ms clock))) := by
  unfold entriesOf at e
  split at e
  · obtain ⟨rfl, rfl⟩ := qab e
    cases r
    exact ⟨rfl, #[], VRs.nil, VRs.nil, .inl ⟨rfl, rfl, rfl⟩⟩
  · obtain ⟨rfl, o, ho, hb⟩ := mapOf_some e
    obtain ⟨ms, c, h1, h2, h3⟩ := s.map ho hb
    obtain rfl := r.map_live
    exact ⟨rfl, ms, h2, h3, .inr ⟨_, c, rfl, rfl, h1⟩⟩
  · cases e

theorem lookup_sim (s : SR h μ w) {t : Nat} {a k : AV} {x y : Value} {ok : Bool} (r : VR h μ w a x) (r2 : VR h μ w k y) : PSim P h μ w (alookup P t a k ok) (Instr.lookup t x y ok) := by
  intro v h' e
  unfold alookup at e
  split at e
  · rename_i kt et hu
    obtain ⟨_, h1, e1, e2⟩ := bind_some e
    obtain ⟨hg, rfl⟩ := qap e1
    obtain ⟨es, h2, e3, e4⟩ := bind_some e2
    obtain ⟨rfl, ms, q1, q2, hx⟩ := entriesOf_sim s e3 r
    obtain ⟨res, h3, e5, e6⟩ := bind_some e4
    obtain ⟨hf, rfl⟩ := qbb e5
    obtain ⟨z, h4, e7, e8⟩ := bind_some e6
    obtain ⟨rfl, inf, z', hi, hz, rfl⟩ := zeroOf_some e7
    obtain ⟨rfl, rfl⟩ := qab e8
    have hck : ∀ em, (Instr.checkKey em 10000 kt y).run P w = .ok () w := fun em => checkKey_sim hg r2 em
    have hfk := findKey_sim hg r2 q1 q2 hf
    have hrun : ∀ (val : Value) (isS : Bool) (q : Option (Nat × Value)), (Instr.findKey kt y ms.toList).run P w = .ok q w → (match q with | some (_, v) => val = v ∧ isS = true | none => val = z' ∧ isS = false) →
        (Instr.lookup t x y ok).run P w = .ok (if ok then .tuple #[val, .bool isS] else val) w := by
      intro val isS q hq hm
      rcases hx with ⟨_, rfl, rfl⟩ | ⟨id, c, _, rfl, hw⟩
      · cases q with
        | none => obtain ⟨rfl, rfl⟩ := hm; simp at hck hq; simp [Instr.lookup, run_underlying hu, hck, hq, qb8 hi hz]
        | some p => obtain ⟨rfl, rfl⟩ := hm; simp at hck hq; simp [Instr.lookup, run_underlying hu, hck, hq]
      · cases q with
        | none => obtain ⟨rfl, rfl⟩ := hm; simp [Instr.lookup, run_underlying hu, getObj, Sem.run, hw, hck, hq, qb8 hi hz]
        | some p => obtain ⟨rfl, rfl⟩ := hm; simp [Instr.lookup, run_underlying hu, getObj, Sem.run, hw, hck, hq]
    cases res with
    | none =>
      refine ⟨rfl, _, hrun z' false none hfk ⟨rfl, rfl⟩, ?_⟩
      cases ok
      · exact VR_ofVal _
      · exact .tuple [_, _] [_, _] rfl (VRs.cons (VR_ofVal _) (VRs.cons (.bool _) .nil)).2
    | some v' =>
      obtain ⟨j, e', h1, h2, h3⟩ := hfk
      refine ⟨rfl, _, hrun e'.val true _ h1 ⟨rfl, rfl⟩, ?_⟩
      cases ok
      · exact h3
      · exact .tuple [_, _] [_, _] rfl (VRs.cons h3 (VRs.cons (.bool _) .nil)).2
  · cases e

theorem len_sim (s : SR h μ w) {t ty : Nat} {ts : List TypeId} {a : AV} {x : Value} {xs : List Value} (r : VR h μ w a x) : PSim P h μ w (alen P t a) (Builtin.len_ (t :: ts).toArray ty (x :: xs).toArray) := by
  intro v h' e
  unfold alen at e
  have hd : ∀ d, P.underlying t = some d → (Builtin.len_ (t :: ts).toArray ty (x :: xs).toArray).run P w = (Builtin.len_ #[t] ty #[x]).run P w := by
    intro d hd; simp [Builtin.len_]
  split at e
  · rename_i n el hu; obtain ⟨rfl, rfl⟩ := qab e; exact ⟨rfl, _, by rw [hd _ hu]; simp [Builtin.len_, run_underlying hu, goInt], .int _ _⟩
  · rename_i ar hu
    split at e
    · rename_i n el hu2; obtain ⟨rfl, rfl⟩ := qab e; exact ⟨rfl, _, by rw [hd _ hu]; simp [Builtin.len_, run_underlying hu, run_underlying hu2, goInt], .int _ _⟩
    · cases e
  · rename_i hu
    split at e
    · obtain ⟨rfl, rfl⟩ := qab e
      cases r with | str s' _ e' =>
      subst e'
      have hsz : s'.data.toList.length = s'.size := by rw [Array.length_toList]; rfl
      exact ⟨rfl, .int .i64 s'.size, by rw [hd _ hu]; simp [Builtin.len_, run_underlying hu, goInt], by rw [hsz]; exact .int _ _⟩
    · cases e
  · rename_i el hu
    split at e
    · obtain ⟨rfl, rfl⟩ := qab e
      cases r
      exact ⟨rfl, _, by rw [hd _ hu]; simp [Builtin.len_, run_underlying hu, goInt], .int _ _⟩
    · obtain ⟨⟨esz, cells, fix⟩, h3, e5, e6⟩ := bind_some e
      obtain ⟨rfl, o, ho, hv, hbody⟩ := qbw e5
      obtain ⟨rfl, rfl⟩ := qab e6
      obtain ⟨ad, cap, rfl, _⟩ := r.own_live ho hv hbody
      exact ⟨rfl, _, by rw [hd _ hu]; simp [Builtin.len_, run_underlying hu, goInt], .int _ _⟩
    · cases e
  · rename_i kt et hu
    split at e
    · obtain ⟨rfl, rfl⟩ := qab e
      cases r
      exact ⟨rfl, _, by rw [hd _ hu]; simp [Builtin.len_, run_underlying hu, goInt], .int _ _⟩
    · obtain ⟨es, h1, e1, e2⟩ := bind_some e
      obtain ⟨rfl, o, ho, hb⟩ := mapOf_some e1
      obtain ⟨ms, c, q1, q2, q3⟩ := s.map ho hb
      obtain ⟨rfl, rfl⟩ := qab e2
      obtain rfl := r.map_live
      have hl : es.length = ms.size := by have := q2.1; simpa using this
      exact ⟨rfl, .int .i64 ms.size, by rw [hd _ hu]; simp [Builtin.len_, run_underlying hu, goInt, getObj, Sem.run, q1], by rw [hl]; exact .int _ _⟩
    · cases e
  · cases e
end
end Go.Am
namespace Go.Am
open Go AM

section
variable {P : Program} {h h' : Hp} {μ : Nat → Nat} {w : World}

def MSim (P : Program) (h : Hp) (μ : Nat → Nat) (w : World) (m : AM AV) (s : Sem Value) : Prop :=
  ∀ v h', m.run h = some (v, h') → Fresh h h' → ∃ μ' w' x, s.run P w = .ok x w' ∧ SR h' μ' w' ∧ Stp h μ w h' μ' w' ∧ VR h' μ' w' v x

theorem PSim.m (s : SR h μ w) {m : AM AV} {q : Sem Value} (p : PSim P h μ w m q) : MSim P h μ w m q := fun v h' e _ => by
  obtain ⟨rfl, x, h1, h2⟩ := p v h' e
  exact ⟨μ, w, x, h1, s, Stp.refl _ _ _, h2⟩

theorem VRs_ofVal (z : Value) : VRs h μ w (acells (ofVal z)) z.cells.toList := by
  unfold ofVal
  split
  · rename_i cs
    have : VRs h μ w (cs.toList.map ofCell) (cs.toList.map id) := VRs.map _ fun i _ => VR_ofCell _
    simpa [acells, Value.cells] using this
  · exact VRs.cons (.iface _ _ _ (VR_ofCell _)) .nil
  · rename_i h1 h2
    have : z.cells = #[z] := by cases z <;> first | rfl | (exact absurd rfl (h1 _))
    rw [this]
    have hc : acells (ofCell z) = [ofCell z] := by
      unfold ofCell; split <;> rfl
    rw [hc]
    exact VRs.cons (VR_ofCell z) .nil

theorem known_ne {v : AV} (hk : known v = true) : v ≠ .undef := by rintro rfl; cases hk

theorem Fresh.new {b : Body} (hf : Fresh h ⟨h.obj.set h.next (some ⟨0, 0, b⟩), h.next + 1⟩) : h.get h.next = none := hf _ (Nat.le_refl _) (Nat.lt_succ_self _)

/-- a row is made -/
theorem SR.newRow (s : SR h μ w) (hf : h.get h.next = none) (ty : TypeId) (esz : Nat) {cells : List AV} {cs : Array Value} (r : VRs h μ w cells (cs.toList.take cells.length)) (hle : cells.length ≤ cs.size) (fix : Bool) (hfix : fix = true → cs.size = cells.length) :
    SR ⟨h.obj.set h.next (some ⟨0, 0, .row esz cells fix⟩), h.next + 1⟩ (upd μ h.next w.heap.size) (w.alloc (.cells cs ty)) ∧
    Stp h μ w ⟨h.obj.set h.next (some ⟨0, 0, .row esz cells fix⟩), h.next + 1⟩ (upd μ h.next w.heap.size) (w.alloc (.cells cs ty)) :=
  s.alloc hf _ _ ⟨cs, ty, rfl, hle, hfix, r⟩

theorem get_new (b : Body) : (⟨h.obj.set h.next (some ⟨0, 0, b⟩), h.next + 1⟩ : Hp).get h.next = some ⟨0, 0, b⟩ := by
  show (h.obj.set _ _).get _ = _
  rw [Tm.get_set, if_pos rfl]

theorem VR_newPtr (b : Body) (w' : World) : VR ⟨h.obj.set h.next (some ⟨0, 0, b⟩), h.next + 1⟩ (upd μ h.next w.heap.size) w' (.ptr h.next 0 0) (.pointer (some ⟨w.heap.size, 0, none⟩)) := by
  have := VR.ptr (h := ⟨h.obj.set h.next (some ⟨0, 0, b⟩), h.next + 1⟩) (μ := upd μ h.next w.heap.size) (w := w') h.next 0 0 _ (get_new b) rfl
  simpa [upd] using this

theorem alloc_sim (s : SR h μ w) (t : TypeId) : MSim P h μ w (do let z ← zeroOf P t; let id ← AM.halloc (.row (acells z).length (acells z) true); pure (.ptr id 0 0)) (Instr.alloc t true (.tuple #[])) := by
  intro v h' e hF
  obtain ⟨z, h1, e1, e2⟩ := bind_some e
  obtain ⟨rfl, i, z', hi, hz, rfl⟩ := zeroOf_some e1
  obtain ⟨id, h2, e3, e4⟩ := bind_some e2
  obtain ⟨rfl, rfl⟩ := qcq e3
  obtain ⟨rfl, rfl⟩ := qab e4
  have r := VRs_ofVal (h := h1) (μ := μ) (w := w) z'
  obtain ⟨s1, s2⟩ := s.newRow hF.new t (acells (ofVal z')).length (cs := z'.cells) (by rw [r.1, List.take_of_length_le (Nat.le_refl _)]; exact r) (by have := r.1; simp at this; omega) true (fun _ => by have := r.1; simp at this; omega)
  exact ⟨_, _, _, by simp [Instr.alloc, qb8 hi hz, newVar, newRow], s1, s2, VR_newPtr _ _⟩

theorem box_sim (s : SR h μ w) (t : TypeId) {a : AV} {x : Value} (r : VR h μ w a x) : MSim P h μ w (do AM.guard (known a); let id ← AM.halloc (.row (acells a).length (acells a) true); pure (.ptr id 0 0)) (Instr.box t x) := by
  intro v h' e hF
  obtain ⟨_, h1, e1, e2⟩ := bind_some e
  obtain ⟨hg, rfl⟩ := qap e1
  obtain ⟨id, h2, e3, e4⟩ := bind_some e2
  obtain ⟨rfl, rfl⟩ := qcq e3
  obtain ⟨rfl, rfl⟩ := qab e4
  have r := r.cells (known_ne hg)
  obtain ⟨s1, s2⟩ := s.newRow hF.new t (acells a).length (cs := x.cells) (by rw [r.1, List.take_of_length_le (Nat.le_refl _)]; exact r) (by have := r.1; simp at this; omega) true (fun _ => by have := r.1; simp at this; omega)
  exact ⟨_, _, _, by simp [Instr.box, newVar, newRow], s1, s2, VR_newPtr _ _⟩

theorem makeMap_sim (s : SR h μ w) (t : TypeId) : MSim P h μ w (do let id ← AM.halloc (.map []); pure (.mapv id)) (Instr.makeMap t none) := by
  intro v h' e hF
  obtain ⟨id, h2, e3, e4⟩ := bind_some e
  obtain ⟨rfl, rfl⟩ := qcq e3
  obtain ⟨rfl, rfl⟩ := qab e4
  obtain ⟨s1, s2⟩ := s.alloc hF.new (.map #[] 0) (.map []) ⟨#[], 0, rfl, VRs.nil, VRs.nil, Born.none⟩
  refine ⟨_, _, .map (some w.heap.size), by simp [Instr.makeMap], s1, s2, ?_⟩
  have := VR.mapv (h := ⟨h.obj.set h.next (some ⟨0, 0, .map []⟩), h.next + 1⟩) (μ := upd μ h.next w.heap.size) (w := w.alloc (.map #[] 0)) h.next _ (get_new _) [] rfl
  simpa [upd] using this

/-! ### literals -/
theorem foldl_set (vs : List Value) : ∀ (off : Nat) (cs : Array Value), off + vs.length ≤ cs.size →
    (vs.zipIdx.foldl (fun (cs : Array Value) (p : Value × Nat) => cs.setIfInBounds (off + p.2) p.1) cs).toList = cs.toList.take off ++ vs ++ cs.toList.drop (off + vs.length) := by
  have gen : ∀ (vs : List Value) (k off : Nat) (cs : Array Value), off + k + vs.length ≤ cs.size →
      ((vs.zipIdx k).foldl (fun (cs : Array Value) (p : Value × Nat) => cs.setIfInBounds (off + p.2) p.1) cs).toList = cs.toList.take (off + k) ++ vs ++ cs.toList.drop (off + k + vs.length) := by
    intro vs
    induction vs with
    | nil => intro k off cs _; simp
    | cons v vs ih =>
      intro k off cs hle
      simp only [List.zipIdx_cons, List.foldl_cons]
      rw [ih (k + 1) off _ (by simp at hle ⊢; omega)]
      have := list_seg_step cs.toList (off + k) v vs (by simp at hle ⊢; omega)
      simpa [Array.toList_setIfInBounds, Nat.add_assoc] using this
  intro off cs hle
  exact gen vs 0 off cs (by simpa using hle)

theorem afill_sim {place : Nat → Option (Nat × Nat)} {place' : Nat → Option (Nat × Nat)} (hp : ∀ i q, place i = some q → place' i = some q) :
    ∀ (parts : List (Nat × AV)) (parts' : List (Nat × Value)) (cells : List AV) (cs : Array Value) (out : List AV), parts.map (·.1) = parts'.map (·.1) → VRs h μ w (parts.map (·.2)) (parts'.map (·.2)) → VRs h μ w cells cs.toList →
      (afill place cells parts).run h = some (out, h') → h' = h ∧ ∃ cs' : Array Value, Instr.fill place' cs parts' = some cs' ∧ VRs h μ w out cs'.toList := by
  intro parts
  induction parts with
  | nil =>
    intro parts' cells cs out h1 h2 h3 e
    obtain ⟨rfl, rfl⟩ := qab e
    have : parts' = [] := by simpa using h1.symm
    subst this
    exact ⟨rfl, cs, rfl, h3⟩
  | cons p parts ih =>
    intro parts' cells cs out h1 h2 h3 e
    obtain ⟨i, v⟩ := p
    cases parts' with
    | nil => simp at h1
    | cons q parts' =>
      obtain ⟨i', x⟩ := q
      simp only [List.map_cons, List.cons.injEq] at h1
      obtain ⟨rfl, h1⟩ := h1
      have hv : VR h μ w v x := h2.2 0 (by simp) (by simp)
      have h2' : VRs h μ w (parts.map (·.2)) (parts'.map (·.2)) := ⟨by have := h2.1; simpa using this, fun j a b => by simpa using h2.2 (j + 1) (by simpa using a) (by simpa using b)⟩
      rw [afill] at e
      cases hpl : place i with
      | none => rw [hpl] at e; cases e
      | some os =>
        obtain ⟨off, size⟩ := os
        rw [hpl] at e
        obtain ⟨_, h4, e1, e2⟩ := bind_some e
        obtain ⟨hg, rfl⟩ := qap e1
        simp only [Bool.and_eq_true, Nat.beq_eq, Nat.ble_eq] at hg
        obtain ⟨⟨hl, hfit⟩, hk⟩ := hg
        have rc := hv.cells (known_ne hk)
        have hxl : x.cells.toList.length = size := by rw [← rc.1]; exact hl
        have hxs : x.cells.size = size := by simpa using hxl
        have hcs : cs.size = cells.length := by have := h3.1; simp at this; omega
        have hf := foldl_set x.cells.toList off cs (by omega)
        have hsp := h3.splice rc off
        rw [← hf] at hsp
        obtain ⟨rfl, cs', hfill, hr⟩ := ih parts' _ _ out h1 h2' hsp e2
        refine ⟨rfl, cs', ?_, hr⟩
        rw [Instr.fill, hp _ _ hpl]
        have hno : ¬ ((decide (x.cells.size ≠ size) || decide (off + x.cells.size > cs.size)) = true) := by simp; omega
        dsimp only
        rw [if_neg hno]
        rw [← hfill]
        congr 1
        rw [← Array.foldl_toList]
        simp
end
end Go.Am
namespace Go.Am
open Go AM

section
variable {P : Program} {h h' : Hp} {μ : Nat → Nat} {w : World}

theorem run_mapM_list {α β : Type} (f : α → Sem β) (g : α → β) : ∀ (l : List α), (∀ x ∈ l, (f x).run P w = .ok (g x) w) → (l.mapM f).run P w = .ok (l.map g) w
  | [], _ => by simp
  | x :: l, hx => by
    have := run_mapM_list f g l (fun y hy => hx y (by simp [hy]))
    simp [List.mapM_cons, hx x (by simp), this]
theorem run_mapM_array {α β : Type} (f : α → Sem β) (g : α → β) (l : Array α) (hx : ∀ x ∈ l, (f x).run P w = .ok (g x) w) : (l.mapM f).run P w = .ok (l.map g) w := by
  obtain ⟨l⟩ := l
  rw [List.mapM_toArray]
  have := run_mapM_list (P := P) (w := w) f g l (fun x hx' => hx x (by simpa using hx'))
  simp [this]

theorem parts_map (ps : Array (Nat × Operand)) (ρ : Operand → AV) (ρ' : Operand → Value) (hρ : ∀ x, VR h μ w (ρ x) (ρ' x)) :
    ((ps.toList.map fun (i, x) => (i, ρ x)).map (·.1)) = (((ps.map fun (i, x) => (i, ρ' x)).toList).map (·.1)) ∧
    VRs h μ w ((ps.toList.map fun (i, x) => (i, ρ x)).map (·.2)) (((ps.map fun (i, x) => (i, ρ' x)).toList).map (·.2)) := by
  constructor
  · simp
  · simp only [Array.toList_map, List.map_map]
    exact VRs.map _ fun p _ => hρ p.2

theorem build_sim {t : TypeId} {parts : List (Nat × AV)} {parts' : Array (Nat × Value)} (h1 : parts.map (·.1) = parts'.toList.map (·.1)) (h2 : VRs h μ w (parts.map (·.2)) (parts'.toList.map (·.2))) :
    PSim P h μ w (abuild P t parts) (Instr.build t parts') := by
  intro v h' e
  obtain ⟨z, h3, e1, e2⟩ := bind_some e
  obtain ⟨rfl, i, z', hi, hz, rfl⟩ := zeroOf_some e1
  have rz := VRs_ofVal (h := h3) (μ := μ) (w := w) z'
  split at e2
  · rename_i fs hu
    obtain ⟨_, h4, e3, e4⟩ := bind_some e2
    obtain ⟨hg, rfl⟩ := qap e3
    obtain ⟨out, h5, e5, e6⟩ := bind_some e4
    obtain ⟨rfl, rfl⟩ := qab e6
    have hall : ∀ f ∈ fs, ∃ inf, P.info? f.type = some inf := fun f hf => by
      have := List.all_eq_true.1 hg f (by simpa using hf)
      exact Option.isSome_iff_exists.1 this
    obtain ⟨rfl, cs', hfill, hr⟩ := afill_sim (place' := ((fs.map fun f => (f.offset, P.cellsOf f.type))[·]?)) (fun i q hq => by
      cases hf : fs.toList[i]? with
      | none => rw [hf] at hq; cases hq
      | some f =>
        rw [hf] at hq
        simp only [Option.bind_some, Option.map_eq_some_iff] at hq
        obtain ⟨inf, hinf, rfl⟩ := hq
        have hf' : fs[i]? = some f := by simpa using hf
        simp [hf', Program.cellsOf, hinf]) parts parts'.toList _ _ out h1 h2 rz e5
    refine ⟨rfl, .agg cs', ?_, ?_⟩
    · have hm : (fs.mapM fun f => (do pure (f.offset, ← sizeOf f.type) : Sem (Nat × Nat))).run P w = .ok (fs.map fun f => (f.offset, P.cellsOf f.type)) w :=
        run_mapM_array _ _ fs fun f hf => by
          obtain ⟨inf, hinf⟩ := hall f hf
          simp [qbg hinf, Program.cellsOf, hinf]
      simp only [Instr.build, Sem.run_bind, qb8 hi hz, Result.andThen, run_underlying hu, hm, hfill, Sem.run_pure]
    · have : cs' = cs'.toList.toArray := by simp
      rw [this]; exact .agg _ _ hr.1 hr.2
  · rename_i n el hu
    obtain ⟨sz, h4, e3, e4⟩ := bind_some e2
    obtain ⟨rfl, inf, hinf, hn⟩ := qb5 e3
    obtain ⟨out, h5, e5, e6⟩ := bind_some e4
    obtain ⟨rfl, rfl⟩ := qab e6
    obtain ⟨rfl, cs', hfill, hr⟩ := afill_sim (place' := fun i => some (i * sz, sz)) (fun i q hq => hq) parts parts'.toList _ _ out h1 h2 rz e5
    refine ⟨rfl, .agg cs', ?_, ?_⟩
    · simp only [Instr.build, Sem.run_bind, qb8 hi hz, Result.andThen, run_underlying hu, qbg hinf, hn, hfill, Sem.run_pure]
    · have : cs' = cs'.toList.toArray := by simp
      rw [this]; exact .agg _ _ hr.1 hr.2
  · cases e2

theorem length_repeat (z : List AV) (n : Nat) : (qan z n).length = n * z.length := by
  induction n with
  | zero => simp [qan]
  | succ n ih => simp [qan, ih, Nat.succ_mul, Nat.add_comm]

/-- the model's row of zeros -/
def qcl (z : Array Value) (n : Nat) : List Value := (List.range (n * z.size)).map fun i => z[i % z.size]!
theorem zerosOf_succ (z : Array Value) (n : Nat) : qcl z (n + 1) = z.toList ++ qcl z n := by
  apply List.ext_getElem
  · simp [qcl, Nat.succ_mul, Nat.add_comm]
  · intro i h1 h2
    simp only [qcl, List.length_map, List.length_range] at h1
    have hz : 0 < z.size := by
      rcases Nat.eq_zero_or_pos z.size with h0 | h0
      · rw [h0] at h1; simp at h1
      · exact h0
    by_cases hi : i < z.size
    · rw [List.getElem_append_left (by simpa using hi)]
      simp [qcl, Nat.mod_eq_of_lt hi, hi]
    · rw [List.getElem_append_right (by simp; omega)]
      simp only [qcl, List.getElem_map, List.getElem_range, Array.length_toList]
      congr 1
      rw [Nat.mod_eq_sub_mod (by omega)]
theorem VRs_zeros (z : Value) (n : Nat) : VRs h μ w (qan (acells (ofVal z)) n) (qcl z.cells n) := by
  induction n with
  | zero => simpa [qan, qcl] using VRs.nil
  | succ n ih => rw [zerosOf_succ]; exact (VRs_ofVal z).append ih

theorem buildSlice_sim {t : TypeId} {len : Nat} {parts : List (Nat × AV)} {parts' : Array (Nat × Value)} {n : Nat} {out : List AV} (h1 : parts.map (·.1) = parts'.toList.map (·.1)) (h2 : VRs h μ w (parts.map (·.2)) (parts'.toList.map (·.2)))
    (e : (qc3 P t len parts).run h = some ((n, out), h')) :
    h' = h ∧ ∃ (cs : Array Value) (el : TypeId), (Instr.buildSlice t len parts').run P w = .ok (.slice (some ⟨w.heap.size, 0, none⟩) len len) (w.alloc (.cells cs el)) ∧ VRs h μ w out cs.toList ∧ P.underlying t = some (.slice el) ∧
      (∃ inf, P.info? el = some inf ∧ inf.size = n) ∧ out.length = len * n := by
  obtain ⟨el, h3, e1, e2⟩ := bind_some e
  obtain ⟨rfl, hu⟩ := elemOf_some e1
  obtain ⟨sz, h4, e3, e4⟩ := bind_some e2
  obtain ⟨rfl, inf, hinf, hn⟩ := qb5 e3
  obtain ⟨_, h5, e5, e6⟩ := bind_some e4
  obtain ⟨hg, rfl⟩ := qap e5
  obtain ⟨z, h6, e7, e8⟩ := bind_some e6
  obtain ⟨_, h8, e11, e12⟩ := bind_some e8
  obtain ⟨hg2, rfl⟩ := qap e11
  obtain ⟨out', h7, e9, e10⟩ := bind_some e12
  obtain ⟨he, rfl⟩ := qab e10
  simp only [Prod.mk.injEq] at he
  obtain ⟨rfl, rfl⟩ := he
  have hle : ¬ len * n > 16777216 := by have := hg; simp at this; omega
  have hz : h8 = h5 ∧ ∃ zero : Array Value, ((len * n = 0 ∧ zero = #[]) ∨ (len * n ≠ 0 ∧ ∃ z', (zeroValue el).run P w = .ok z' w ∧ zero = z'.cells)) ∧
      VRs h5 μ w (qan (acells z) len) ((Array.range (len * n)).map (zero[· % zero.size]!)).toList ∧ (qan (acells z) len).length = len * n := by
    cases len with
    | zero =>
      obtain ⟨rfl, rfl⟩ := qab e7
      exact ⟨rfl, #[], .inl ⟨by simp, rfl⟩, by simpa [qan] using VRs.nil, by simp [qan]⟩
    | succ k =>
      obtain ⟨rfl, i, z', hi, hz', rfl⟩ := zeroOf_some e7
      have hlen : (acells (ofVal z')).length = n := by simpa using hg2
      have rz := VRs_ofVal (h := h8) (μ := μ) (w := w) z'
      have hsz : z'.cells.size = n := by have := rz.1; simp at this; omega
      have hv := VRs_zeros (h := h8) (μ := μ) (w := w) z' (k + 1)
      have hlr : (qan (acells (ofVal z')) (k + 1)).length = (k + 1) * n := by rw [length_repeat, hlen]
      by_cases h0 : (k + 1) * n = 0
      · refine ⟨rfl, #[], .inl ⟨h0, rfl⟩, ?_, hlr⟩
        have : qcl z'.cells (k + 1) = [] := by simp [qcl, hsz, h0]
        rw [this] at hv
        simpa [h0] using hv
      · refine ⟨rfl, z'.cells, .inr ⟨h0, z', qb8 hi hz', rfl⟩, ?_, hlr⟩
        have : ((Array.range ((k + 1) * n)).map (z'.cells[· % z'.cells.size]!)).toList = qcl z'.cells (k + 1) := by
          simp [qcl, hsz]
        rw [this]; exact hv
  obtain ⟨rfl, zero, hzero, hr0, hl0⟩ := hz
  obtain ⟨rfl, cs', hfill, hr⟩ := afill_sim (place' := fun i => some (i * n, n)) (fun i q hq => hq) parts parts'.toList _ _ out h1 h2 hr0 e9
  have hout : out.length = len * n := by
    have h3 := hr.1
    have h4 : ∀ (ps : List (Nat × Value)) (cs cs' : Array Value), Instr.fill (fun i => some (i * n, n)) cs ps = some cs' → cs'.size = cs.size := by
      intro ps
      induction ps with
      | nil => intro cs cs' e; cases e; rfl
      | cons q ps ih =>
        intro cs cs' e
        rw [Instr.fill] at e
        dsimp only at e
        split at e
        · cases e
        · rename_i hno
          rw [ih _ _ e, ← Array.foldl_toList]
          have : ∀ (l : List (Value × Nat)) (cs : Array Value), (l.foldl (fun (cs : Array Value) (p : Value × Nat) => cs.setIfInBounds (q.1 * n + p.2) p.1) cs).size = cs.size := by
            intro l
            induction l with
            | nil => intro cs; rfl
            | cons p l ih => intro cs; rw [List.foldl_cons, ih]; simp
          exact this _ _
    have h5 := h4 _ _ _ hfill
    have h6 := hr0.1
    simp at h3 h5 h6
    omega
  refine ⟨rfl, cs', el, ?_, hr, hu, ⟨inf, hinf, hn⟩, hout⟩
  rcases hzero with ⟨h0, rfl⟩ | ⟨h0, z', hz', rfl⟩
  · have hf2 : Instr.fill (fun i => some (i * n, n)) #[] parts'.toList = some cs' := by
      have : ((Array.range (len * n)).map fun i => (#[] : Array Value)[i % (#[] : Array Value).size]!) = #[] := by simp [h0]
      rw [this] at hfill; exact hfill
    have hf3 : Instr.fill (fun i => some (i * n, n)) ((Array.range 0).map fun _ => (default : Value)) parts'.toList = some cs' := by
      rw [show ((Array.range 0).map fun _ => (default : Value)) = #[] from Array.eq_empty_of_size_eq_zero (by simp)]; exact hf2
    simp [Instr.buildSlice, run_underlying hu, qbg hinf, hn, h0, hf3, newRow]
  · simp [Instr.buildSlice, run_underlying hu, qbg hinf, hn, hle, h0, hz', hfill, newRow]
end
end Go.Am
namespace Go.Am
open Go AM

section
variable {P : Program} {h h' : Hp} {μ : Nat → Nat} {w : World}

theorem At.heap {wd : World} {ad : Addr} {vals : List Value} (a : At w ad vals) (hh : wd.heap = w.heap) : At wd ad vals := fun i hi => by
  have := a i hi
  unfold World.cell? at this ⊢
  rw [hh]; exact this

/-- what the model reads of a slice's first cells -/
theorem sliceCells_sim (s : SR h μ w) {sz m : Nat} {a : AV} {x : Value} {cells : List AV} (e : (qb7 sz a).run h = some ((m, cells), h')) (r : VR h μ w a x) :
    h' = h ∧ cells.length = m * sz ∧ (Builtin.lenOf x).run P w = .ok m w ∧ (∃ A cap, x = .slice A m cap) ∧ ∀ k, k * sz ≤ cells.length → ∃ vals : List Value, (∀ wd : World, wd.heap = w.heap → (Builtin.firstCells sz k x).run P wd = .ok vals.toArray wd) ∧ VRs h μ w (cells.take (k * sz)) vals := by
  unfold qb7 at e
  split at e
  · rename_i kk n cl
    obtain ⟨_, h1, e1, e2⟩ := bind_some e
    obtain ⟨hg, rfl⟩ := qap e1
    obtain ⟨he, rfl⟩ := qab e2
    simp only [Prod.mk.injEq] at he
    obtain ⟨rfl, rfl⟩ := he
    cases r with
    | sl _ _ _ A cap vals hle hnil hfull htight hpos hh hl hs hc hr =>
      refine ⟨rfl, by have := hg; simp at this; omega, by simp [Builtin.lenOf], ⟨_, _, rfl⟩, fun k hk => ?_⟩
      have rr := VRs.take (h := h') (μ := μ) (w := w) ⟨hl, hr⟩ (k * sz)
      refine ⟨vals.take (k * sz), fun wd hwd => ?_, rr⟩
      cases A with
      | none =>
        have hc0 : cells = [] := by
          rcases List.eq_nil_or_concat cells with h0 | ⟨_, _, h0⟩
          · exact h0
          · have := hs (by rw [h0]; simp); cases this
        have hv0 : vals = [] := by subst hc0; exact List.eq_nil_of_length_eq_zero hl.symm
        subst hv0
        simp [Builtin.firstCells]
      | some ad =>
        have hlen : (vals.take (k * sz)).length = k * sz := by simp; omega
        have := ((At.take (hc ad rfl) (k * sz)).heap hwd).load (P := P)
        rw [hlen] at this
        simpa [Builtin.firstCells] using this
  · rename_i id ver off n
    obtain ⟨⟨esz, cl, fix⟩, h1, e1, e2⟩ := bind_some e
    obtain ⟨rfl, o, ho, hv, hbody⟩ := qbw e1
    obtain ⟨_, h2, e3, e4⟩ := bind_some e2
    obtain ⟨hg, rfl⟩ := qap e3
    obtain ⟨he, rfl⟩ := qab e4
    simp only [Prod.mk.injEq] at he
    obtain ⟨rfl, rfl⟩ := he
    have hg' : off + m * sz ≤ cl.length := by simpa using hg
    obtain ⟨ad, cap, rfl, hcap, hex⟩ := r.own_live ho hv hbody
    have hlen : ((cl.drop off).take (m * sz)).length = m * sz := by simp; omega
    refine ⟨rfl, hlen, by simp [Builtin.lenOf], ⟨_, _, rfl⟩, fun k hk => ?_⟩
    obtain ⟨cs, ty, hw, hle, _, hr⟩ := s.row ho hbody
    by_cases hm : 0 < m ∨ off = 0
    · obtain ⟨rfl, _⟩ := hex hm
      have rr := ((hr.drop off).take (m * sz)).take (k * sz)
      refine ⟨_, fun wd hwd => ?_, rr⟩
      have hat : At w ⟨μ id, off, none⟩ ((((cs.toList.take cl.length).drop off).take (m * sz)).take (k * sz)) := At.take (At.take (At.row hw cl.length) _) _
      have hl2 : ((((cs.toList.take cl.length).drop off).take (m * sz)).take (k * sz)).length = k * sz := by rw [← rr.1]; simp at hlen hk ⊢; omega
      have := (hat.heap hwd).load (P := P)
      rw [hl2] at this
      simpa [Builtin.firstCells] using this
    · have hm0 : m = 0 := by omega
      have hk0 : k * sz = 0 := by rw [hlen, hm0] at hk; simpa using hk
      refine ⟨[], fun wd _ => ?_, by rw [hk0]; simpa using VRs.nil⟩
      simp [Builtin.firstCells, hk0, loadCells, loadCellsFrom]
  · cases e

theorem run_firstCells_bytes {s : ByteArray} : (Builtin.firstCells 1 s.data.toList.length (.string s)).run P w = .ok ((s.data.toList.map fun b => Value.int .u8 b.toNat).toArray) w := by
  have hsz : s.data.toList.length = s.size := by rw [Array.length_toList]; rfl
  have : s.extract 0 s.size = s := by simp
  simp only [Builtin.firstCells, hsz, this, Sem.run_pure]
  congr 1
  apply Array.ext'
  simp

theorem VRs_bytes (l : List UInt8) : VRs h μ w (bytesAV l) (l.map fun b => Value.int .u8 b.toNat) := VRs.map l fun _ _ => .int _ _

theorem sourceCells_sim (s : SR h μ w) {el sz m : Nat} {a : AV} {x : Value} {cells : List AV} (e : (qco P el sz a).run h = some ((m, cells), h')) (r : VR h μ w a x) :
    h' = h ∧ cells.length = m * sz ∧ (Builtin.lenOf x).run P w = .ok m w ∧ ((∃ A cap, x = .slice A m cap) ∨ ∃ b, x = .string b) ∧ ∃ vals : List Value, (∀ wd : World, wd.heap = w.heap → (Builtin.firstCells sz m x).run P wd = .ok vals.toArray wd) ∧ VRs h μ w cells vals := by
  unfold qco at e
  split at e
  · rename_i l
    obtain ⟨_, h1, e1, e2⟩ := bind_some e
    obtain ⟨hg, rfl⟩ := qap e1
    obtain ⟨he, rfl⟩ := qab e2
    simp only [Prod.mk.injEq] at he
    obtain ⟨rfl, rfl⟩ := he
    have h1 : sz = 1 := by
      split at hg
      · simpa using hg
      · cases hg
    subst h1
    cases r with | str b _ e' =>
    subst e'
    have hsz : b.data.toList.length = b.size := by rw [Array.length_toList]; rfl
    exact ⟨rfl, by simp [bytesAV], by simp [Builtin.lenOf], .inr ⟨b, rfl⟩, _, fun _ _ => run_firstCells_bytes, VRs_bytes _⟩
  · obtain ⟨rfl, h1, h2, h3, h4⟩ := sliceCells_sim (P := P) s e r
    obtain ⟨vals, h5, h6⟩ := h4 m (by omega)
    exact ⟨rfl, h1, h2, .inl h3, vals, h5, by rw [← h1, List.take_length] at h6; exact h6⟩

theorem notInt (d : TypeDesc) (hd : ∀ k, d ≠ .int k) : (match d with | .int _ => true | _ => false) = false := by cases d <;> first | rfl | exact absurd rfl (hd _)

theorem run_append_room {t u ty el n m cap : Nat} {i : TypeInfo} {d : TypeDesc} {A : Option Addr} {x : Value} {news : List Value} {ts : List TypeId} {xs : List Value} (ht : P.underlying t = some (.slice el)) (hu : P.underlying u = some d) (hd : ∀ k, d ≠ .int k)
    (hi : P.info? el = some i) (hl : (Builtin.lenOf x).run P w = .ok m w) (hf : (Builtin.firstCells i.size m x).run P w = .ok news.toArray w) (hroom : n + m ≤ cap) :
    (Builtin.append_ (t :: u :: ts).toArray ty (.slice A n cap :: x :: xs).toArray).run P w = match A with
      | none => .ok (.slice A (n + m) cap) w
      | some a => ((storeCells (a.add (n * i.size)) news).run P w).andThen fun _ w' => .ok (.slice A (n + m) cap) w' := by
  cases A <;> simp [Builtin.append_, run_underlying ht, run_underlying hu, qbg hi, hl, hf, hroom]

theorem run_append_grown {t u ty el n m cap : Nat} {i : TypeInfo} {z : Value} {d : TypeDesc} {A : Option Addr} {x : Value} {olds news : List Value} {ts : List TypeId} {xs : List Value} (ht : P.underlying t = some (.slice el)) (hu : P.underlying u = some d) (hd : ∀ k, d ≠ .int k)
    (hi : P.info? el = some i) (hz : i.zero = some z) (hl : (Builtin.lenOf x).run P w = .ok m w) (hf : (Builtin.firstCells i.size m x).run P w.drew = .ok news.toArray w.drew)
    (ho : (Builtin.firstCells i.size n (.slice A n cap)).run P w.drew = .ok olds.toArray w.drew) (hb0 : i.bytes ≠ 0) (hbytes : (n + m) * i.bytes ≤ 140737488355328) (hroom : cap < n + m) :
    (Builtin.append_ (t :: u :: ts).toArray ty (.slice A n cap :: x :: xs).toArray).run P w =
      .ok (.slice (some ⟨w.heap.size, 0, none⟩) (n + m) (grownCap w (n + m) cap el)) (w.drew.alloc (.cells (olds.toArray ++ news.toArray ++ Builtin.zeroCells z.cells (grownCap w (n + m) cap el - (n + m))) el)) := by
  have hfit := growslice_fits hroom hbytes
  have hno : ¬ n + m ≤ cap := by omega
  have hfit' : ¬ (Builtin.nextslicecap (n + m) cap * i.bytes > 2 ^ 48) := by omega
  simp [Builtin.append_, run_underlying ht, run_underlying hu, qbg hi, run_typeInfo' hi, hl, hno, hb0, hfit', ho, hf, qb8 hi hz, newRow]
  simp [Question.forced, grownCap]
  rw [show (olds ++ news).toArray = olds.toArray ++ news.toArray from by simp, Array.append_assoc]

theorem ones_new {cells new : List AV} {vals : List Value} (r : VRs h μ w new vals) (hl : new.length = cells.length) : vals.length = cells.length := by rw [← r.1, hl]

theorem append_sim (s : SR h μ w) {ts : List TypeId} {ty : TypeId} {args : List AV} {vs : List Value} (r : VRs h μ w args vs) : MSim P h μ w (aappendOp P ts args) (Builtin.append_ ts.toArray ty vs.toArray) := by
  intro v h' e hF
  unfold aappendOp at e
  split at e
  · rename_i t u ts a b as
    obtain ⟨x, vs, rfl⟩ : ∃ x vs', vs = x :: vs' := by cases vs with | nil => have := r.1; simp at this | cons x vs => exact ⟨x, vs, rfl⟩
    obtain ⟨y, vs, rfl⟩ : ∃ y vs', vs = y :: vs' := by cases vs with | nil => have := r.1; simp at this | cons x vs => exact ⟨x, vs, rfl⟩
    have ra : VR h μ w a x := r.2 0 (by simp) (by simp)
    have rb : VR h μ w b y := r.2 1 (by simp) (by simp)
    clear r
    obtain ⟨el, h1, e1, e2⟩ := bind_some e
    obtain ⟨rfl, ht⟩ := elemOf_some e1
    obtain ⟨sz, h2, e3, e4⟩ := bind_some e2
    obtain ⟨rfl, i, hi, hn⟩ := qb5 e3
    obtain ⟨bytes, h3, e5, e6⟩ := bind_some e4
    obtain ⟨rfl, i2, hi2, hb⟩ := bytesOf_some e5
    rw [hi] at hi2; cases hi2
    obtain ⟨_, h4, e7, e8⟩ := bind_some e6
    obtain ⟨hg, rfl⟩ := qap e7
    obtain ⟨_, h5, e9, e10⟩ := bind_some e8
    obtain ⟨hg2, rfl⟩ := qap e9
    obtain ⟨z, h6, e11, e12⟩ := bind_some e10
    obtain ⟨rfl, i3, z', hi3, hz, rfl⟩ := zeroOf_some e11
    rw [hi] at hi3; cases hi3
    obtain ⟨_, h7, e13, e14⟩ := bind_some e12
    obtain ⟨hg3, rfl⟩ := qap e13
    obtain ⟨⟨m, new⟩, h8, e15, e16⟩ := bind_some e14
    obtain ⟨rfl, hnl, hlen, hshape, news, hf, rn⟩ := sourceCells_sim (P := P) s e15 rb
    dsimp only at e16
    have hu : ∃ d, P.underlying u = some d ∧ ∀ k, d ≠ .int k := by
      split at hg2
      · cases hg2
      · rename_i d hne hd; exact ⟨d, hd, fun k hk => by subst hk; exact hne k rfl⟩
      · cases hg2
    obtain ⟨d, hu, hd⟩ := hu
    simp only [Bool.and_eq_true, Bool.not_eq_true', Bool.eq_false_iff, ne_eq, Nat.beq_eq] at hg hg3
    have hzl : z'.cells.size = sz := by
      have := (VRs_ofVal (h := h8) (μ := μ) (w := w) z').1; simp at this; omega
    subst hn hb
    have hnewl : news.length = m * i.size := by rw [← rn.1, hnl]
    -- growing: the new row
    have grown : ∀ (A : Option Addr) (n cap : Nat) (cells : List AV) (olds : List Value), x = .slice A n cap → VRs h8 μ w cells olds → cells.length = n * i.size →
        (∀ wd : World, wd.heap = w.heap → (Builtin.firstCells i.size n (.slice A n cap)).run P wd = .ok olds.toArray wd) →
        (n + m) * i.bytes ≤ 140737488355328 → cap < n + m →
        ∃ (cs : Array Value) (C : Nat), (Builtin.append_ (t :: u :: ts).toArray ty (x :: y :: vs).toArray).run P w = .ok (.slice (some ⟨w.heap.size, 0, none⟩) (n + m) C) (w.drew.alloc (.cells cs el)) ∧ n + m ≤ C ∧ C * i.size = cs.size ∧
          VRs h8 μ w (cells ++ new) (cs.toList.take (cells ++ new).length) ∧ (cells ++ new).length ≤ cs.size := by
      intro A n cap cells olds hx ro hcl hfo hbd hcap
      subst hx
      have hrun := run_append_grown (P := P) (w := w) (ty := ty) (ts := ts) (xs := vs) ht hu hd hi hz hlen (hf w.drew rfl) (hfo w.drew rfl) hg.2 hbd hcap
      have hge := grownCap_ge w (n + m) cap el
      have hol : olds.length = n * i.size := by rw [← ro.1, hcl]
      refine ⟨_, _, hrun, hge, ?_, ?_, ?_⟩
      · simp only [Array.size_append, List.size_toArray, hol, hnewl, size_zeroCells, hzl, ← Nat.add_mul]
        congr 1; omega
      · have hh := ro.append rn
        have : (olds.toArray ++ news.toArray ++ Builtin.zeroCells z'.cells (grownCap w (n + m) cap el - (n + m))).toList.take (cells ++ new).length = olds ++ news := by
          rw [hh.1, Array.toList_append]
          have h2 : (olds.toArray ++ news.toArray).toList = olds ++ news := by simp
          rw [h2]; exact List.take_left
        rw [this]; exact hh
      · rw [(ro.append rn).1]; simp
    have grownSR : SR h8 μ w.drew ∧ Stp h8 μ w h8 μ w.drew := s.drawn rfl rfl rfl rfl
    unfold aappend at e16
    split at e16
    · -- a slice that nobody writes
      rename_i k n cells
      split at e16
      · -- nothing is appended
        obtain ⟨rfl, rfl⟩ := qab e16
        have hn0 : news = [] := List.eq_nil_of_length_eq_zero (by rw [hnewl]; simp)
        subst hn0
        cases ra with
        | sl _ _ _ A cap vals hle hnil hfull htight hpos hh hl hs hc hr =>
          refine ⟨μ, w, _, ?_, s, Stp.refl _ _ _, .sl _ _ _ A cap vals hle hnil hfull htight hpos hh hl hs hc hr⟩
          rw [run_append_room (P := P) (w := w) ht hu hd hi hlen (hf w rfl) (by omega)]
          cases A <;> simp [storeCells]
      · rename_i hm0
        obtain ⟨_, h9, e17, e18⟩ := bind_some e16
        obtain ⟨hg4, rfl⟩ := qap e17
        obtain ⟨id, h10, e19, e20⟩ := bind_some e18
        obtain ⟨rfl, rfl⟩ := qcq e19
        obtain ⟨rfl, rfl⟩ := qab e20
        simp only [Bool.and_eq_true, Nat.beq_eq, Nat.ble_eq] at hg4
        obtain ⟨⟨⟨⟨hcl, hbd⟩, hmx⟩, hk⟩, _⟩ := hg4
        have hra := ra
        cases ra with
        | sl _ _ _ A cap vals hle hnil hfull htight hpos hh hl hs hc hr =>
          have hcap : cap = n := by
            cases k with
            | nil => obtain ⟨_, h0⟩ := hnil rfl; omega
            | full => exact (hfull rfl).2
            | tight => exact htight rfl
            | any => cases hk
          subst hcap
          have hsc : (qb7 i.size (.sl k cap cells)).run h9 = some ((cap, cells), h9) := by
            simp only [qb7]
            rw [AM.run_bind]
            have : (AM.guard (Nat.beq (cap * i.size) cells.length)).run h9 = some ((), h9) := by rw [show Nat.beq (cap * i.size) cells.length = true by simpa using hcl]; rfl
            rw [this]; rfl
          obtain ⟨_, h1, _, _, h4⟩ := sliceCells_sim (P := P) s hsc hra
          obtain ⟨olds, ho1, ho2⟩ := h4 cap (by omega)
          rw [← h1, List.take_length] at ho2
          obtain ⟨cs, C, q1, q2, q3, q4, q5⟩ := grown A cap cap cells olds rfl ho2 h1 ho1 (by simpa [room] using hbd) (by have := Nat.pos_of_ne_zero hm0; omega)
          obtain ⟨s1, s2⟩ := grownSR
          have q4' : VRs h9 μ w.drew (cells ++ new) (cs.toList.take (cells ++ new).length) := q4.mono s2
          obtain ⟨s3, s4⟩ := s1.newRow hF.new el i.size q4' q5 false (fun hf => by cases hf)
          refine ⟨_, _, _, q1, s3, Stp.trans s2 s4, ?_⟩
          refine .own _ _ _ _ _ (get_new _) rfl i.size (cells ++ new) false rfl _ _ q2 (fun _ => ?_)
          refine ⟨by simp [upd], cs, el, ?_, by simpa using q3⟩
          have := World.alloc_heap_new w.drew (.cells cs el)
          simpa [upd] using this
    · -- a slice that is written
      rename_i id ver off n
      obtain ⟨⟨esz, cells, fix⟩, h9, e17, e18⟩ := bind_some e16
      obtain ⟨rfl, o, ho, hv, hbody⟩ := qbw e17
      obtain ⟨_, h10, e19, e20⟩ := bind_some e18
      obtain ⟨hg4, rfl⟩ := qap e19
      obtain rfl : esz = i.size := by simpa using hg4
      obtain ⟨ad, cap, rfl, hcap, hex⟩ := ra.own_live ho hv hbody
      split at e20
      · obtain ⟨rfl, rfl⟩ := qab e20
        have hn0 : news = [] := List.eq_nil_of_length_eq_zero (by rw [hnewl]; simp)
        subst hn0
        refine ⟨μ, w, _, ?_, s, Stp.refl _ _ _, ra⟩
        rw [run_append_room (P := P) (w := w) ht hu hd hi hlen (hf w rfl) (by omega)]
        simp [storeCells]
      · rename_i hm0
        have hm1 := Nat.pos_of_ne_zero hm0
        obtain ⟨_, h11, e21, e22⟩ := bind_some e20
        obtain ⟨hg5, rfl⟩ := qap e21
        simp only [Bool.and_eq_true, Nat.beq_eq, Nat.ble_eq] at hg5
        obtain ⟨⟨⟨⟨⟨rfl, hfit⟩, hbd⟩, hmx⟩, hnl2⟩, hone⟩ := hg5
        obtain ⟨rfl, cs, ty', hw, hsz⟩ := hex (.inr rfl)
        obtain ⟨cs2, ty2, hw2, hcs, hfix, hr⟩ := s.row ho hbody
        rw [hw] at hw2
        injection hw2 with hw2
        injection hw2 with c1 c2
        subst c1 c2
        have hs0 : 0 < i.size := Nat.pos_of_ne_zero hg.1
        have hcz : cap * i.size = cs.size := by omega
        have hadd : (⟨μ id, 0, none⟩ : Addr).add (n * i.size) = ⟨μ id, n * i.size, none⟩ := by rw [add_plain]; simp
        have hmul : (n + m) * i.size = n * i.size + m * i.size := Nat.add_mul _ _ _
        -- in place
        have inplace : n + m ≤ cap → ∀ (ver' : Nat) (cells' : List AV) (fix' : Bool), o.ver ≤ ver' → cells'.length ≤ cs.size → (fix' = true → cs.size = cells'.length) →
            VRs h11 μ w cells' ((cs.toList.take (n * i.size) ++ news ++ cs.toList.drop (n * i.size + news.length)).take cells'.length) → ∃ w', (Builtin.append_ (t :: u :: ts).toArray ty (.slice (some ⟨μ id, 0, none⟩) n cap :: y :: vs).toArray).run P w = .ok (.slice (some ⟨μ id, 0, none⟩) (n + m) cap) w' ∧
              SR ⟨h11.obj.set id (some ⟨ver', o.stamp + 1, .row i.size cells' fix'⟩), h11.next⟩ μ w' ∧ Stp h11 μ w ⟨h11.obj.set id (some ⟨ver', o.stamp + 1, .row i.size cells' fix'⟩), h11.next⟩ μ w' ∧
              ∃ cs' : Array Value, w'.heap[μ id]? = some (.cells cs' ty' (0, 0)) ∧ 0 + cap * i.size = cs'.size := by
          intro hroom ver' cells' fix' q1 q2 q3 q4
          have hfit2 : n * i.size + news.length ≤ cs.size := by rw [hnewl, ← hmul, ← hcz]; exact Nat.mul_le_mul_right _ hroom
          obtain ⟨hst, hsr⟩ := s.splice (P := P) ho hbody hw rn (rn.oneCells hone) hfit2
          obtain ⟨s1, s2⟩ := hsr ver' cells' fix' q1 q2 q3 q4
          refine ⟨_, ?_, s1, s2, _, setRow_heap w (μ id) cs _ ty' _ hw, by simp; omega⟩
          rw [run_append_room (P := P) (w := w) ht hu hd hi hlen (hf w rfl) hroom]
          dsimp only
          rw [hadd, hst]
          rfl
        split at e22
        · -- there are so many cells already
          rename_i hble
          have hble : (n + m) * i.size ≤ cells.length := by simpa using hble
          obtain ⟨_, h12, e23, e24⟩ := bind_some e22
          obtain ⟨o2, ho2, hle2, rfl⟩ := hput_some e23
          rw [ho] at ho2; cases ho2
          obtain ⟨rfl, rfl⟩ := qab e24
          have hroom : n + m ≤ cap := by
            have : (n + m) * i.size ≤ cap * i.size := by rw [hcz]; omega
            exact Nat.le_of_mul_le_mul_right this hs0
          have hl : (Am.splice cells (n * i.size) new).length = cells.length := length_splice (by rw [hnl]; omega)
          obtain ⟨w', q1, s1, s2, q2⟩ := inplace hroom ver (Am.splice cells (n * i.size) new) fix hle2 (by omega) (fun hf => by rw [hl]; exact hfix hf) (by
            have hsp := hr.splice rn (n * i.size)
            rw [splice_take _ _ _ _ _ hnewl (by omega) (by simpa using hcs)] at hsp
            rw [hl]; exact hsp)
          refine ⟨μ, w', _, q1, s1, s2, ?_⟩
          have hg' : (⟨h11.obj.set id (some ⟨ver, o.stamp + 1, .row i.size (Am.splice cells (n * i.size) new) fix⟩), h11.next⟩ : Hp).get id = some ⟨ver, o.stamp + 1, .row i.size (Am.splice cells (n * i.size) new) fix⟩ := by
            show (h11.obj.set _ _).get _ = _
            rw [Tm.get_set, if_pos rfl]
          exact .own _ _ _ _ _ hg' rfl i.size _ fix rfl _ _ hroom (fun _ => ⟨rfl, q2.elim fun cs' hc => ⟨cs', ty', hc⟩⟩)
        · -- more cells than there are
          rename_i hble
          have hble : ¬ (n + m) * i.size ≤ cells.length := by intro hc; rw [← Nat.ble_eq] at hc; rw [hc] at hble; cases hble
          obtain ⟨_, h12, e23, e24⟩ := bind_some e22
          obtain ⟨o2, ho2, hle2, rfl⟩ := hput_some e23
          rw [ho] at ho2; cases ho2
          obtain ⟨rfl, rfl⟩ := qab e24
          have hcl : (cells.take (n * i.size)).length = n * i.size := by simp; omega
          have hlen2 : (cells.take (n * i.size) ++ new).length = (n + m) * i.size := by rw [List.length_append, hcl, hnl, hmul]
          have hg' : (⟨h11.obj.set id (some ⟨ver + 1, o.stamp + 1, .row i.size (cells.take (n * i.size) ++ new) false⟩), h11.next⟩ : Hp).get id = some ⟨ver + 1, o.stamp + 1, .row i.size (cells.take (n * i.size) ++ new) false⟩ := by
            show (h11.obj.set _ _).get _ = _
            rw [Tm.get_set, if_pos rfl]
          have hr2 := (hr.take (n * i.size))
          rw [List.take_take, Nat.min_eq_left (by omega)] at hr2
          by_cases hroom : n + m ≤ cap
          · obtain ⟨w', q1, s1, s2, q2⟩ := inplace hroom (ver + 1) (cells.take (n * i.size) ++ new) false (by omega) (by rw [hlen2, ← hcz]; exact Nat.mul_le_mul_right _ hroom) (fun hf => by cases hf) (by
              have hh := hr2.append rn
              have hcsz : (cs.toList.take (n * i.size)).length = n * i.size := by rw [← hr2.1, hcl]
              rw [hlen2, List.take_append, List.take_append, hcsz]
              have : (n + m) * i.size - n * i.size = news.length := by rw [hnewl, hmul]; omega
              rw [List.take_of_length_le (l := cs.toList.take (n * i.size)) (by rw [hcsz, hmul]; omega), this, List.take_length]
              have : (n + m) * i.size - (cs.toList.take (n * i.size) ++ news).length = 0 := by rw [List.length_append, hcsz, hnewl, hmul]; omega
              rw [this, List.take_zero, List.append_nil]
              exact hh)
            refine ⟨μ, w', _, q1, s1, s2, ?_⟩
            exact .own _ _ _ _ _ hg' rfl i.size _ false rfl _ _ hroom (fun _ => ⟨rfl, q2.elim fun cs' hc => ⟨cs', ty', hc⟩⟩)
          · -- grown
            have hsc : (qb7 i.size (.own id ver 0 n)).run h11 = some ((n, (cells.drop 0).take (n * i.size)), h11) := by
              simp only [qb7]
              rw [AM.run_bind]
              rw [e17]
              dsimp only
              rw [AM.run_bind]
              have : (AM.guard (Nat.ble (0 + n * i.size) cells.length)).run h11 = some ((), h11) := by rw [show Nat.ble (0 + n * i.size) cells.length = true by simpa using hfit]; rfl
              rw [this]; rfl
            obtain ⟨_, q1, _, _, q4⟩ := sliceCells_sim (P := P) s hsc ra
            obtain ⟨olds, ho1, ho2⟩ := q4 n (by omega)
            rw [List.drop_zero, List.take_take, Nat.min_self] at ho2
            obtain ⟨cs', C, p1, p2, p3, p4, p5⟩ := grown _ n cap _ olds rfl ho2 (by simpa using hcl) ho1 (by simpa [room] using hbd) (by omega)
            obtain ⟨s1, s2⟩ := grownSR
            have p4' : VRs h11 μ w.drew (cells.take (n * i.size) ++ new) (cs'.toList.take (cells.take (n * i.size) ++ new).length) := p4.mono s2
            obtain ⟨s3, s4⟩ := s1.move (ver := ver + 1) (b := .row i.size (cells.take (n * i.size) ++ new) false) (obj := .cells cs' el) ho (by omega) (by rw [hbody]; rfl) (by rw [hbody]; rfl) ⟨cs', el, rfl, p5, (fun hf => by cases hf), p4'⟩
            refine ⟨_, _, _, p1, s3, Stp.trans s2 s4, ?_⟩
            refine .own _ _ _ _ _ hg' rfl i.size _ false rfl _ _ p2 (fun _ => ?_)
            refine ⟨by simp [upd], cs', el, ?_, by simpa using p3⟩
            have := World.alloc_heap_new w.drew (.cells cs' el)
            simpa [upd] using this
    · cases e16
  · cases e
end
end Go.Am
namespace Go.Am
open Go AM

section
variable {P : Program} {h h' : Hp} {μ : Nat → Nat} {w : World}

theorem heap_putObj_other {r c : Nat} {o : Obj} (hc : c ≠ r) : (w.putObj r o).heap[c]? = w.heap[c]? := World.putObj_heap_other hc

theorem run_setObj_map' {r : Nat} {ms : Array MapEntry} {c : Nat} (o : Obj) (hw : w.heap[r]? = some (.map ms c)) : (setObj r o).run P w = .ok () (w.putObj r o) := by
  simp [setObj, Sem.run, hw, World.putObj]
theorem run_getObj_map' {r : Nat} {ms : Array MapEntry} {c : Nat} (hw : w.heap[r]? = some (.map ms c)) : (getObj r).run P w = .ok (.map ms c) w := by
  simp [getObj, Sem.run, hw]

theorem Born.push {ms : Array MapEntry} {c : Nat} (b : Born ms c) (y x : Value) : Born (ms.push ⟨y, x, c⟩) (c + 1) := by
  refine ⟨?_, fun z hz => ?_⟩
  · simp only [Array.toList_push, List.map_append, List.map_cons, List.map_nil]
    rw [List.nodup_append]
    refine ⟨b.1, by simp, fun u hu v hv => ?_⟩
    simp at hv
    obtain ⟨z, hz, rfl⟩ := List.mem_map.1 hu
    have := b.2 z hz
    omega
  · simp only [Array.toList_push, List.mem_append, List.mem_singleton] at hz
    rcases hz with hz | rfl
    · have := b.2 z hz; omega
    · exact Nat.lt_succ_self _
theorem Born.modify {ms : Array MapEntry} {c : Nat} (b : Born ms c) {f : MapEntry → MapEntry} (j : Nat) (hf : ∀ e, (f e).born = e.born) : Born (ms.modify j f) c := by
  have h1 : (ms.modify j f).toList.map (·.born) = ms.toList.map (·.born) := by
    apply List.ext_getElem?
    intro i
    simp only [List.getElem?_map, Array.getElem?_toList, Array.getElem?_modify]
    split
    · cases ms[i]? <;> simp [hf]
    · rfl
  refine ⟨by rw [h1]; exact b.1, fun z hz => ?_⟩
  have h2 : z.born ∈ (ms.modify j f).toList.map (·.born) := List.mem_map_of_mem hz
  rw [h1] at h2
  obtain ⟨y, hy, e⟩ := List.mem_map.1 h2
  rw [← e]; exact b.2 y hy
/-- a map is written -/
theorem SR.putMap (s : SR h μ w) {id : Nat} {o : AObj} {es es' : List (AV × AV)} {ms ms' : Array MapEntry} {c c' : Nat} (ho : h.get id = some o) (hb : o.body = .map es) (hw : w.heap[μ id]? = some (.map ms c))
    (r1 : VRs h μ w (es'.map (·.1)) (ms'.toList.map (·.key))) (r2 : VRs h μ w (es'.map (·.2)) (ms'.toList.map (·.val))) (hbn : Born ms' c') :
    SR ⟨h.obj.set id (some ⟨o.ver, o.stamp + 1, .map es'⟩), h.next⟩ μ (w.putObj (μ id) (.map ms' c')) ∧ Stp h μ w ⟨h.obj.set id (some ⟨o.ver, o.stamp + 1, .map es'⟩), h.next⟩ μ (w.putObj (μ id) (.map ms' c')) := by
  have hlt : μ id < w.heap.size := (Array.getElem?_eq_some_iff.1 hw).1
  exact s.put ho (Nat.le_refl _) (by rw [hb]; trivial) (by simp) (fun k hk => heap_putObj_other hk) (World.putObj_heap_same hlt) ⟨ms', c', rfl, r1, r2, hbn⟩ (fun cs e hc => by rw [hw] at hc; cases hc) rfl rfl rfl

theorem sameBits_key {kt : Nat} {k : AV} {y : Value} {x : AV} {z : Value} (hg : goodKey P kt k = true) (r : VR h μ w k y) (hk : keyEq k x = some true) (rx : VR h μ w x z) (d : Nat) : Instr.sameBits d z y = true ∧ z = y := by
  rcases goodKey_sim hg r with ⟨j, n, _, rfl, rfl⟩ | ⟨s, _, rfl, rfl⟩
  · unfold keyEq at hk
    split at hk
    · rename_i heq; cases heq; cases rx
      split at hk
      · rename_i hj; subst hj
        simp at hk
        subst hk
        exact ⟨by cases d <;> simp [Instr.sameBits], rfl⟩
      · cases hk
    · rename_i heq; cases heq
    · rename_i heq; cases heq
    · cases hk
  · unfold keyEq at hk
    split at hk
    · rename_i heq; cases heq
    · rename_i heq; cases heq
      cases rx with | str s2 _ e2 =>
      subst e2
      have h1 : s.data.toList = s2.data.toList := by simpa using hk
      have : s2 = s := by
        obtain ⟨⟨a⟩⟩ := s; obtain ⟨⟨b⟩⟩ := s2
        simp at h1; rw [h1]
      subst this
      refine ⟨?_, rfl⟩
      have hb : (s2 == s2) = true := by rw [beq_toListBytes]; simp
      cases d <;> simp [Instr.sameBits, hb]
    · rename_i heq; cases heq
    · cases hk

theorem sameNow_sim {kt : Nat} {k x : AV} {y z : Value} {d : TypeDesc} {b : Bool} (hu : P.underlying kt = some d) (hg : goodKey P kt k = true) (r : VR h μ w k y) (rx : VR h μ w x z) (hb : keyEq k x = some b) : Instr.sameNow d y z = some b := by
  rcases goodKey_sim hg r with ⟨j, n, hu', rfl, rfl⟩ | ⟨s, hu', rfl, rfl⟩
  · rw [hu] at hu'; cases hu'
    unfold keyEq at hb
    split at hb
    · rename_i heq; cases heq; cases rx
      exact hb
    · rename_i heq; cases heq
    · rename_i heq; cases heq
    · cases hb
  · rw [hu] at hu'; cases hu'
    unfold keyEq at hb
    split at hb
    · rename_i heq; cases heq
    · rename_i heq; cases heq
      cases rx with | str s2 _ e2 =>
      subst e2
      cases hb
      simp only [Instr.sameNow]
      rw [beq_toListBytes, qcx, qcx]
    · rename_i heq; cases heq
    · cases hb

def keysOf (ms : List MapEntry) : List Value := ms.map (·.key)
def valsOf (ms : List MapEntry) : List Value := ms.map (·.val)

theorem VRs.tail {a : AV} {x : Value} {l : List AV} {xs : List Value} (r : VRs h μ w (a :: l) (x :: xs)) : VRs h μ w l xs :=
  ⟨by have := r.1; simpa using this, fun j h1 h2 => r.2 (j + 1) (Nat.succ_lt_succ h1) (Nat.succ_lt_succ h2)⟩
theorem VRs.head {a : AV} {x : Value} {l : List AV} {xs : List Value} (r : VRs h μ w (a :: l) (x :: xs)) : VR h μ w a x := r.2 0 (by simp) (by simp)

/-- the place of an entry, and the entries when it is written -/
theorem findUpd_sim {kt : Nat} {k v : AV} {y x : Value} {d : TypeDesc} (hu : P.underlying kt = some d) (hg : goodKey P kt k = true) (r : VR h μ w k y) (rv : VR h μ w v x) :
    ∀ (es : List (AV × AV)) (ms : List MapEntry) (i : Nat) (res : Option AV) (c : Nat), VRs h μ w (es.map (·.1)) (keysOf ms) → VRs h μ w (es.map (·.2)) (valsOf ms) → afind k es = some res →
      match res with
      | none => Instr.findNow d y ms i = some none ∧ VRs h μ w ((aupd k v es).map (·.1)) (keysOf (ms ++ [⟨y, x, c⟩])) ∧ VRs h μ w ((aupd k v es).map (·.2)) (valsOf (ms ++ [⟨y, x, c⟩]))
      | some _ => ∃ (j : Nat) (e : MapEntry), Instr.findNow d y ms i = some (some (i + j, e.val)) ∧ ms[j]? = some e ∧ e.key = y ∧
          VRs h μ w ((aupd k v es).map (·.1)) (keysOf (ms.modify j fun e => { e with key := y, val := x })) ∧ VRs h μ w ((aupd k v es).map (·.2)) (valsOf (ms.modify j fun e => { e with key := y, val := x })) := by
  intro es
  induction es with
  | nil =>
    intro ms i res c r1 r2 e
    cases e
    have : ms = [] := by have := r1.1; simp [keysOf] at this; exact List.eq_nil_of_length_eq_zero this.symm
    subst this
    exact ⟨rfl, VRs.cons r .nil, VRs.cons rv .nil⟩
  | cons p es ih =>
    intro ms i res c r1 r2 e
    obtain ⟨xk, xv⟩ := p
    cases ms with
    | nil => have := r1.1; simp [keysOf] at this
    | cons m ms =>
      have hk : VR h μ w xk m.key := r1.head
      have hv : VR h μ w xv m.val := r2.head
      rw [afind] at e
      split at e
      · rename_i hb
        cases e
        refine ⟨0, m, by simp [Instr.findNow, sameNow_sim hu hg r hk hb], rfl, (sameBits_key hg r hb hk 0).2, ?_, ?_⟩
        · simp only [aupd, hb]; exact VRs.cons r r1.tail
        · simp only [aupd, hb]; exact VRs.cons rv r2.tail
      · rename_i hb
        have hrec := ih ms (i + 1) res c r1.tail r2.tail e
        cases res with
        | none =>
          obtain ⟨h1, h2, h3⟩ := hrec
          refine ⟨by simp [Instr.findNow, sameNow_sim hu hg r hk hb, h1], ?_, ?_⟩
          · simp only [aupd, hb]; exact VRs.cons hk h2
          · simp only [aupd, hb]; exact VRs.cons hv h3
        | some v' =>
          obtain ⟨j, e', h1, h2, h3, h4, h5⟩ := hrec
          refine ⟨j + 1, e', by simp [Instr.findNow, sameNow_sim hu hg r hk hb, h1]; omega, by simpa using h2, h3, ?_, ?_⟩
          · simp only [aupd, hb]; exact VRs.cons hk h4
          · simp only [aupd, hb]; exact VRs.cons hv h5
      · cases e

theorem mapUpdate_sim (s : SR h μ w) {t : Nat} {a k v : AV} {z y x : Value} {u : Unit} (e : (amapUpdate P t a k v).run h = some (u, h')) (ra : VR h μ w a z) (r : VR h μ w k y) (rv : VR h μ w v x) :
    ∃ w', (Instr.mapUpdate t z y x).run P w = .ok () w' ∧ SR h' μ w' ∧ Stp h μ w h' μ w' := by
  unfold amapUpdate at e
  split at e
  · rename_i kt et id hut
    obtain ⟨_, h1, e1, e2⟩ := bind_some e
    obtain ⟨hg, rfl⟩ := qap e1
    obtain ⟨o, h2, e3, e4⟩ := bind_some e2
    obtain ⟨ho, rfl⟩ := hget_some e3
    split at e4
    · rename_i es hb
      obtain ⟨res, h3, e5, e6⟩ := bind_some e4
      obtain ⟨hf, rfl⟩ := qbb e5
      obtain ⟨o2, ho2, _, rfl⟩ := hput_some e6
      rw [ho] at ho2; cases ho2
      obtain ⟨ms, c, hw, q1, q2, hbn⟩ := s.mapBorn ho hb
      obtain rfl := ra.map_live
      have hud : ∃ d, P.underlying kt = some d := by
        rcases goodKey_sim hg r with ⟨j, n, hu, _⟩ | ⟨s, hu, _⟩ <;> exact ⟨_, hu⟩
      obtain ⟨d, hud⟩ := hud
      have hck : (Instr.checkKey false 10000 kt y).run P w = .ok () w := checkKey_sim hg r false
      have hrec := findUpd_sim hud hg r rv es ms.toList 0 res c q1 q2 hf
      cases res with
      | none =>
        obtain ⟨h1, h2, h4⟩ := hrec
        have hfk : (Instr.findKey kt y ms.toList).run P w = .ok none w := by simp [Instr.findKey, run_underlying hud, h1]
        obtain ⟨s1, s2⟩ := s.putMap (ms' := ms.push ⟨y, x, c⟩) (c' := c + 1) ho hb hw (by simpa [keysOf] using h2) (by simpa [valsOf] using h4) (hbn.push _ _)
        refine ⟨_, ?_, s1, s2⟩
        simp [Instr.mapUpdate, run_underlying hut, run_getObj_map' hw, hck, hfk, run_setObj_map' _ hw]
      | some v' =>
        obtain ⟨j, e', h1, h2, h4, h5, h6⟩ := hrec
        have hfk : (Instr.findKey kt y ms.toList).run P w = .ok (some (j, e'.val)) w := by simp [Instr.findKey, run_underlying hud, h1]
        obtain ⟨s1, s2⟩ := s.putMap (ms' := ms.modify j fun e => { e with key := y, val := x }) (c' := c) ho hb hw (by simpa [keysOf] using h5) (by simpa [valsOf] using h6) (hbn.modify _ (fun _ => rfl))
        refine ⟨_, ?_, s1, s2⟩
        have hms : ms[j]? = some e' := by simpa using h2
        have hsb : ∀ n, Instr.sameBits n y y = true := by
          intro n
          rcases goodKey_sim hg r with ⟨_, _, _, _, rfl⟩ | ⟨st, _, _, rfl⟩
          · cases n <;> simp [Instr.sameBits]
          · have hb : (st == st) = true := by rw [beq_toListBytes]; simp
            cases n <;> simp [Instr.sameBits, hb]
        have hkt : (Instr.keyThatStays y y).run P w = .ok y w := by simp [Instr.keyThatStays, hsb]
        simp [Instr.mapUpdate, run_underlying hut, run_getObj_map' hw, hck, hfk, run_setObj_map' _ hw, hms, h4, hkt]
    · cases e4
  · cases e

def mm : Bool → Value → Value → Sem Value
  | true => Builtin.max2
  | false => Builtin.min2
theorem amax2_sim {mx : Bool} {a b : AV} {x y : Value} (ra : VR h μ w a x) (rb : VR h μ w b y) : PSim P h μ w (amax2 mx a b) (mm mx x y) := by
  intro v h' e
  unfold amax2 at e
  split at e
  · rename_i k i k' j
    obtain ⟨_, h1, e1, e2⟩ := bind_some e
    obtain ⟨hg, rfl⟩ := qap e1
    obtain ⟨rfl, rfl⟩ := qab e2
    cases ra; cases rb
    cases mx
    · exact ⟨rfl, _, by simp [mm, Builtin.min2], .int _ _⟩
    · exact ⟨rfl, _, by simp [mm, Builtin.max2], .int _ _⟩
  · cases e
theorem afold_sim (mx : Bool) (l : List AV) : ∀ (xs : List Value) (a : AV) (x : Value), VR h μ w a x → VRs h μ w l xs → PSim P h μ w (afold mx a l) (xs.foldlM (mm mx) x) := by
  induction l with
  | nil =>
    intro xs a x ra r
    have : xs = [] := by have := r.1; simp at this; exact List.eq_nil_of_length_eq_zero this.symm
    subst this
    exact PSim.pure ra (by simp)
  | cons b l ih =>
    intro xs a x ra r
    cases xs with
    | nil => have := r.1; simp at this
    | cons y xs =>
      intro v h' e
      obtain ⟨z, h1, e1, e2⟩ := bind_some e
      obtain ⟨rfl, z', q1, q2⟩ := amax2_sim (P := P) ra r.head z h1 e1
      obtain ⟨rfl, v', q3, q4⟩ := ih xs z z' q2 r.tail v h' e2
      refine ⟨rfl, v', ?_, q4⟩
      rw [List.foldlM_cons, Sem.run_bind, q1]
      exact q3

theorem makeSlice_sim (s : SR h μ w) {t : TypeId} {l c : Int} : MSim P h μ w (do
      let e ← elemOf P t
      let sz ← szOf P e
      let bytes ← bytesOf P e
      let z ← zeroOf P e
      AM.guard (decide (0 ≤ l ∧ l ≤ c) && Nat.ble (c.toNat * bytes) room && Nat.ble c.toNat maxInt && Nat.beq (acells z).length sz && !(Nat.beq sz 0))
      let id ← AM.halloc (.row sz (qan (acells z) c.toNat) true)
      pure (.own id 0 0 l.toNat)) (Instr.makeSlice t (.int .i64 l) (.int .i64 c)) := by
  intro v h' e hF
  obtain ⟨el, h1, e1, e2⟩ := bind_some e
  obtain ⟨rfl, hu⟩ := elemOf_some e1
  obtain ⟨sz, h2, e3, e4⟩ := bind_some e2
  obtain ⟨rfl, i, hi, hn⟩ := qb5 e3
  obtain ⟨bytes, h3, e5, e6⟩ := bind_some e4
  obtain ⟨rfl, i2, hi2, hb⟩ := bytesOf_some e5
  rw [hi] at hi2; cases hi2
  obtain ⟨z, h4, e7, e8⟩ := bind_some e6
  obtain ⟨rfl, i3, z', hi3, hz, rfl⟩ := zeroOf_some e7
  rw [hi] at hi3; cases hi3
  obtain ⟨_, h5, e9, e10⟩ := bind_some e8
  obtain ⟨hg, rfl⟩ := qap e9
  obtain ⟨id, h6, e11, e12⟩ := bind_some e10
  obtain ⟨rfl, rfl⟩ := qcq e11
  obtain ⟨rfl, rfl⟩ := qab e12
  simp only [Bool.and_eq_true, Nat.beq_eq, Nat.ble_eq, Bool.not_eq_true', Bool.eq_false_iff, ne_eq, decide_eq_true_eq] at hg
  obtain ⟨⟨⟨⟨⟨hl0, hlc⟩, hroom⟩, hmx⟩, hzl⟩, hsz⟩ := hg
  have hc0 : 0 ≤ c := Int.le_trans hl0 hlc
  subst hn hb
  have hzs : z'.cells.size = i.size := by have := (VRs_ofVal (h := h5) (μ := μ) (w := w) z').1; simp at this; omega
  have hv := VRs_zeros (h := h5) (μ := μ) (w := w) z' c.toNat
  have hlr : (qan (acells (ofVal z')) c.toNat).length = c.toNat * i.size := by rw [length_repeat, hzl]
  obtain ⟨s1, s2⟩ := s.newRow hF.new el i.size (cs := (qcl z'.cells c.toNat).toArray) (cells := qan (acells (ofVal z')) c.toNat) (by rw [hv.1]; simpa using hv) (by rw [hv.1]; simp) true (fun _ => by rw [hv.1]; simp)
  have hmade : qcl z'.cells c.toNat = (madeCells z'.cells (c.toNat * i.size)).toList := by
    rw [← hzs]; simp [qcl, madeCells]
  refine ⟨_, _, .slice (some ⟨w.heap.size, 0, none⟩) l.toNat c.toNat, ?_, s1, s2, ?_⟩
  · have hbig : ((i.bytes : Int) * c ≤ 281474976710656) ∧ c ≤ 9223372036854775807 := by
      have h1 : ((c.toNat * i.bytes : Nat) : Int) ≤ 140737488355328 := by simp only [room] at hroom; omega
      rw [Int.natCast_mul, Int.toNat_of_nonneg hc0, Int.mul_comm] at h1
      simp only [maxInt] at hmx
      omega
    rw [run_make (P := P) w t el i z' hu hi hz .i64 .i64 l c hl0 hlc hbig.1 hbig.2, hmade]
  · refine .own _ _ _ _ _ (get_new _) rfl i.size _ true rfl _ _ (by omega) (fun _ => ⟨by simp [upd], (qcl z'.cells c.toNat).toArray, el, ?_, ?_⟩)
    · have := World.alloc_heap_new w (.cells (qcl z'.cells c.toNat).toArray el)
      simpa [upd] using this
    · rw [Nat.zero_add, ← hlr, hv.1]; simp
end
end Go.Am
namespace Go.Am
open Go AM

section
variable {P : Program} {h h' : Hp} {μ : Nat → Nat} {w : World}

theorem zeroCells_zeros (z : Array Value) (n : Nat) : (Builtin.zeroCells z n).toList = qcl z n := by simp [Builtin.zeroCells, qcl]

theorem ones_repeat {z : List AV} (hz : ones z = true) (n : Nat) : ones (qan z n) = true := by
  induction n with
  | zero => rfl
  | succ n ih =>
    unfold ones at *
    rw [qan, List.all_append, hz, ih]; rfl

theorem clear_sim (s : SR h μ w) {ts : List TypeId} {ty : TypeId} {args : List AV} {vs : List Value} (r : VRs h μ w args vs) : MSim P h μ w (aclear P ts args) (Builtin.clear_ ts.toArray ty vs.toArray) := by
  intro v h' e _
  unfold aclear at e
  split at e
  · rename_i t ts d ds
    obtain ⟨x, vs, rfl⟩ : ∃ x vs', vs = x :: vs' := by cases vs with | nil => have := r.1; simp at this | cons x vs => exact ⟨x, vs, rfl⟩
    have ra := r.head
    split at e
    · rename_i el id ver off n hu
      obtain ⟨sz, h2, e3, e4⟩ := bind_some e
      obtain ⟨rfl, i, hi, hn⟩ := qb5 e3
      obtain ⟨z, h4, e7, e8⟩ := bind_some e4
      obtain ⟨rfl, i3, z', hi3, hz, rfl⟩ := zeroOf_some e7
      rw [hi] at hi3; cases hi3
      obtain ⟨⟨esz, cells, fix⟩, h9, e17, e18⟩ := bind_some e8
      obtain ⟨rfl, o, ho, hv, hbody⟩ := qbw e17
      obtain ⟨ad, cap, rfl, hcap, hex⟩ := ra.own_live ho hv hbody
      dsimp only at e18
      split at e18
      · obtain ⟨rfl, rfl⟩ := qab e18
        exact ⟨μ, w, .tuple #[], by simp [Builtin.clear_, run_underlying hu], s, Stp.refl _ _ _, .tuple [] [] rfl (fun _ h1 => absurd h1 (Nat.not_lt_zero _))⟩
      · rename_i hn0
        obtain ⟨_, h10, e19, e20⟩ := bind_some e18
        obtain ⟨hg, rfl⟩ := qap e19
        obtain ⟨_, h11, e21, e22⟩ := bind_some e20
        obtain ⟨o2, ho2, hle, rfl⟩ := hput_some e21
        rw [ho] at ho2; cases ho2
        obtain ⟨rfl, rfl⟩ := qab e22
        simp only [Bool.and_eq_true, Nat.beq_eq, Nat.ble_eq] at hg
        obtain ⟨⟨⟨rfl, hfit⟩, hzl⟩, hone⟩ := hg
        have hn1 := Nat.pos_of_ne_zero hn0
        obtain ⟨rfl, _⟩ := hex (.inl hn1)
        obtain ⟨cs, ty', hw, hcs, hfix, hr⟩ := s.row ho hbody
        have rz := VRs_zeros (h := h10) (μ := μ) (w := w) z' n
        have hrl : (qan (acells (ofVal z')) n).length = n * esz := by rw [length_repeat, hzl]
        have hzn : (qcl z'.cells n).length = n * esz := by rw [← rz.1, hrl]
        have hones := ones_repeat hone n
        obtain ⟨hst, hsr⟩ := s.splice (P := P) ho hbody hw (off := off) rz (rz.oneCells hones) (by rw [hzn]; omega)
        have hl : (Am.splice cells off (qan (acells (ofVal z')) n)).length = cells.length := length_splice (by rw [hrl]; omega)
        obtain ⟨s1, s2⟩ := hsr ver (Am.splice cells off (qan (acells (ofVal z')) n)) fix hle (by omega) (fun hf => by rw [hfix hf, hl]) (by
          have hsp := hr.splice rz off
          rw [splice_take _ _ _ _ _ hzn hfit (by simpa using hcs)] at hsp
          rw [hl]; exact hsp)
        refine ⟨μ, _, .tuple #[], ?_, s1, s2, .tuple [] [] rfl (fun _ h1 => absurd h1 (Nat.not_lt_zero _))⟩
        obtain ⟨k, rfl⟩ : ∃ k, n = k + 1 := ⟨n - 1, by omega⟩
        simp [Builtin.clear_, run_underlying hu, qb8 hi hz, zeroCells_zeros, hst]
    · rename_i el k n cells hu
      split at e
      · obtain ⟨rfl, rfl⟩ := qab e
        refine ⟨μ, w, .tuple #[], ?_, s, Stp.refl _ _ _, .tuple [] [] rfl (fun _ h1 => absurd h1 (Nat.not_lt_zero _))⟩
        cases ra with | sl _ _ _ A cap => cases A <;> simp [Builtin.clear_, run_underlying hu]
      · cases e
    · cases e
  · cases e

theorem convert_sim {src dst : TypeId} {a : AV} {x : Value} (r : VR h μ w a x) : PSim P h μ w (aconvert P src dst a) (convert src dst x) := by
  intro v h' e
  unfold aconvert at e
  split at e
  · rename_i d k k' n hs hd
    obtain ⟨rfl, rfl⟩ := qab e
    cases r
    refine ⟨rfl, .int k (k.wrap n), ?_, .int _ _⟩
    simp only [convert, Sem.run_bind, run_underlying hs, run_underlying hd, Result.andThen]
    simp [Conv.intToInt]
  · rename_i d l hs hd
    obtain ⟨rfl, rfl⟩ := qab e
    cases r with | str s' _ e' =>
    refine ⟨rfl, .string s', ?_, .str _ _ e'⟩
    simp only [convert, Sem.run_bind, run_underlying hs, run_underlying hd, Result.andThen]
    simp
  · cases e

theorem cap_sim (s : SR h μ w) {t ty : Nat} {ts : List TypeId} {args : List AV} {vs : List Value} (r : VRs h μ w args vs) : PSim P h μ w (qck P .cap (t :: ts) args) (Builtin.cap_ (t :: ts).toArray ty vs.toArray) := by
  intro v h' e
  cases args with
  | nil => cases e
  | cons a args =>
  obtain ⟨x, vs, rfl⟩ : ∃ x vs', vs = x :: vs' := by cases vs with | nil => have := r.1; simp at this | cons x vs => exact ⟨x, vs, rfl⟩
  have ra := r.head
  simp only [qck] at e
  split at e
  · rename_i hu
    obtain ⟨rfl, rfl⟩ := qab e
    cases ra with | sl _ _ _ A cap vals hn hnil =>
      obtain ⟨rfl, rfl⟩ := hnil rfl
      exact ⟨rfl, .int .i64 0, by simp [Builtin.cap_, run_underlying hu, goInt], .int _ _⟩
  · rename_i hu
    obtain ⟨rfl, rfl⟩ := qab e
    cases ra with | sl _ n _ A cap vals hn hnil hfull =>
      obtain ⟨_, rfl⟩ := hfull rfl
      exact ⟨rfl, .int .i64 cap, by simp [Builtin.cap_, run_underlying hu, goInt], .int _ _⟩
  · rename_i hu
    obtain ⟨rfl, rfl⟩ := qab e
    cases ra with | sl _ n _ A cap vals hn hnil hfull htight =>
      obtain rfl := htight rfl
      exact ⟨rfl, .int .i64 cap, by simp [Builtin.cap_, run_underlying hu, goInt], .int _ _⟩
  · rename_i el id ver off n hu
    obtain ⟨⟨esz, cells, fix⟩, h9, e17, e18⟩ := bind_some e
    obtain ⟨rfl, o, ho, hv, hbody⟩ := qbw e17
    obtain ⟨_, h10, e19, e20⟩ := bind_some e18
    obtain ⟨hg, rfl⟩ := qap e19
    obtain ⟨rfl, rfl⟩ := qab e20
    simp only [Bool.and_eq_true, Nat.beq_eq, Nat.ble_eq, Bool.not_eq_true', Bool.eq_false_iff, ne_eq, Bool.or_eq_true] at hg
    obtain ⟨⟨⟨rfl, hlen⟩, hsz⟩, h0⟩ := hg
    obtain ⟨ad, cap, rfl, hcap, hex⟩ := ra.own_live ho hv hbody
    obtain ⟨rfl, cs, ty', hw, hcz⟩ := hex (by omega)
    obtain ⟨cs2, ty2, hw2, hcs, hfix, hr⟩ := s.row ho hbody
    rw [hw] at hw2
    injection hw2 with hw2
    injection hw2 with c1 c2
    subst c1 c2
    have : cells.length - off = cap * esz := by have := hfix rfl; omega
    have : (cells.length - off) / esz = cap := by rw [this]; exact Nat.mul_div_cancel _ (Nat.pos_of_ne_zero hsz)
    rw [this]
    exact ⟨rfl, .int .i64 cap, by simp [Builtin.cap_, run_underlying hu, goInt], .int _ _⟩
  · cases e

theorem VRs.toArray_get {l : List AV} {xs : List Value} (r : VRs h μ w l xs) : xs.length = l.length := r.1.symm

theorem builtin_sim (s : SR h μ w) {b : Builtin} {ts : List TypeId} {ty : TypeId} {cs : Array Bool} {args : List AV} {vs : List Value} (r : VRs h μ w args vs) {v : AV} (e : (qck P b ts args).run h = some (v, h')) (hF : Fresh h h') :
    ∃ μ' w' x, (builtin b ts.toArray ty cs vs.toArray).run P w = .ok (.value x) w' ∧ SR h' μ' w' ∧ Stp h μ w h' μ' w' ∧ VR h' μ' w' v x := by
  have fin : ∀ (q : Sem Value), (∃ μ' w' x, q.run P w = .ok x w' ∧ SR h' μ' w' ∧ Stp h μ w h' μ' w' ∧ VR h' μ' w' v x) → (builtin b ts.toArray ty cs vs.toArray) = (do pure (.value (← q))) →
      ∃ μ' w' x, (builtin b ts.toArray ty cs vs.toArray).run P w = .ok (.value x) w' ∧ SR h' μ' w' ∧ Stp h μ w h' μ' w' ∧ VR h' μ' w' v x := by
    rintro q ⟨μ', w', x, h1, h2⟩ hq
    exact ⟨μ', w', x, by rw [hq]; simp [h1], h2⟩
  unfold qck at e
  split at e
  · rename_i t ts a args
    obtain ⟨x, vs, rfl⟩ : ∃ x vs', vs = x :: vs' := by cases vs with | nil => have := r.1; simp at this | cons x vs => exact ⟨x, vs, rfl⟩
    exact fin _ ((len_sim s r.head).m s v h' e hF) rfl
  · exact fin _ (append_sim s r v h' e hF) rfl
  · exact fin _ (clear_sim s r v h' e hF) rfl
  · rename_i a args
    obtain ⟨x, vs, rfl⟩ : ∃ x vs', vs = x :: vs' := by cases vs with | nil => have := r.1; simp at this | cons x vs => exact ⟨x, vs, rfl⟩
    exact fin (vs.foldlM (mm true) x) ((afold_sim true args vs a x r.head r.tail).m s v h' e hF) rfl
  · rename_i a args
    obtain ⟨x, vs, rfl⟩ : ∃ x vs', vs = x :: vs' := by cases vs with | nil => have := r.1; simp at this | cons x vs => exact ⟨x, vs, rfl⟩
    exact fin (vs.foldlM (mm false) x) ((afold_sim false args vs a x r.head r.tail).m s v h' e hF) rfl
  · rename_i t ts a args
    have := (cap_sim (P := P) (ty := ty) (ts := ts) s r).m s v h' (by simp only [qck]; exact e) hF
    exact fin _ this rfl
  · cases e

def plainCall (o : Oper) : Bool := match o.op with
  | .call c => match c.callee with
    | .builtin _ => true
    | _ => false
  | _ => true

theorem OVR_map {ρ : Operand → AV} {ρ' : Operand → Value} (hρ : ∀ x, VR h μ w (ρ x) (ρ' x)) (x : Option Operand) : OVR h μ w (x.map ρ) (x.map ρ') := by
  cases x with
  | none => trivial
  | some x => exact hρ x

theorem VRs_operands {ρ : Operand → AV} {ρ' : Operand → Value} (hρ : ∀ x, VR h μ w (ρ x) (ρ' x)) (l : Array Operand) : VRs h μ w (l.toList.map ρ) (l.map ρ').toList := by
  simp only [Array.toList_map]
  exact VRs.map _ fun x _ => hρ x

/-- ONE OPERATION THAT CALLS NO FUNCTION -/
theorem aop_sim (s : SR h μ w) {pol : Pol} {call : qa6} {fn : FuncId} {o : Oper} {ρ : Operand → AV} {ρ' : Operand → Value} (hρ : ∀ x, VR h μ w (ρ x) (ρ' x)) (hc : plainCall o = true) {v : AV} (e : (aop P pol call fn o ρ).run h = some (v, h')) (hF : Fresh h h') :
    ∃ μ' w' x, ((execOp ρ' o).run P w = .ok (.value x) w' ∨ ((execOp ρ' o).run P w = .ok .skip w' ∧ x = Go.undef)) ∧ SR h' μ' w' ∧ Stp h μ w h' μ' w' ∧ VR h' μ' w' v x := by
  have val : ∀ (q : Sem Value), (∃ μ' w' x, q.run P w = .ok x w' ∧ SR h' μ' w' ∧ Stp h μ w h' μ' w' ∧ VR h' μ' w' v x) → (execOp ρ' o) = (do pure (.value (← q))) →
      ∃ μ' w' x, ((execOp ρ' o).run P w = .ok (.value x) w' ∨ ((execOp ρ' o).run P w = .ok .skip w' ∧ x = Go.undef)) ∧ SR h' μ' w' ∧ Stp h μ w h' μ' w' ∧ VR h' μ' w' v x := by
    rintro q ⟨μ', w', x, h1, h2⟩ hq
    exact ⟨μ', w', x, .inl (by rw [hq]; simp [h1]), h2⟩
  have unit : ∀ (q : Sem Unit), (∃ w', q.run P w = .ok () w' ∧ SR h' μ w' ∧ Stp h μ w h' μ w') → v = .tuple [] → (execOp ρ' o) = (do q; pure .skip) →
      ∃ μ' w' x, ((execOp ρ' o).run P w = .ok (.value x) w' ∨ ((execOp ρ' o).run P w = .ok .skip w' ∧ x = Go.undef)) ∧ SR h' μ' w' ∧ Stp h μ w h' μ' w' ∧ VR h' μ' w' v x := by
    rintro q ⟨w', h1, h2, h3⟩ rfl hq
    exact ⟨μ, w', Go.undef, .inr ⟨by rw [hq]; simp [h1], rfl⟩, h2, h3, VR_undef⟩
  obtain ⟨dst, op, ty, pos, after, gd⟩ := o
  cases op with
  | move x =>
    obtain ⟨rfl, rfl⟩ := qab e
    exact ⟨μ, w, ρ' x, .inl rfl, s, Stp.refl _ _ _, hρ x⟩
  | assign x =>
    obtain ⟨rfl, rfl⟩ := qab e
    exact ⟨μ, w, ρ' x, .inl rfl, s, Stp.refl _ _ _, hρ x⟩
  | pick c a b =>
    have hcv := hρ c
    simp only [aop] at e
    split at e
    · rename_i hcb
      rw [hcb] at hcv
      obtain ⟨rfl, rfl⟩ := qab e
      refine ⟨μ, w, ρ' a, .inl ?_, s, Stp.refl _ _ _, hρ a⟩
      generalize hx : ρ' c = x at hcv
      cases hcv
      simp [execOp, hx, asBool]
    · rename_i hcb
      rw [hcb] at hcv
      obtain ⟨rfl, rfl⟩ := qab e
      refine ⟨μ, w, ρ' b, .inl ?_, s, Stp.refl _ _ _, hρ b⟩
      generalize hx : ρ' c = x at hcv
      cases hcv
      simp [execOp, hx, asBool]
    · cases e
  | alloc t => exact val _ (alloc_sim s t v h' e hF) rfl
  | box t x => exact val _ (box_sim s t (hρ x) v h' e hF) rfl
  | build t parts =>
    obtain ⟨h1, h2⟩ := parts_map parts ρ ρ' hρ
    exact val _ ((build_sim h1 h2).m s v h' e hF) rfl
  | buildSlice t len parts =>
    obtain ⟨h1, h2⟩ := parts_map parts ρ ρ' hρ
    simp only [aop] at e
    obtain ⟨⟨n, cells⟩, h3, e1, e2⟩ := bind_some e
    obtain ⟨rfl, cs, el, hrun, hr, hu, ⟨inf, hinf, hn⟩, hlen⟩ := buildSlice_sim (P := P) h1 h2 e1
    dsimp only at e2
    split at e2
    · obtain ⟨id, h4, e3, e4⟩ := bind_some e2
      obtain ⟨rfl, rfl⟩ := qcq e3
      obtain ⟨rfl, rfl⟩ := qab e4
      have hcs : cs.size = cells.length := by have := hr.1; simp at this; omega
      obtain ⟨s1, s2⟩ := s.newRow hF.new el n (cs := cs) (cells := cells) (by rw [← hcs, List.take_of_length_le (by simp)]; exact hr) (by omega) true (fun _ => hcs)
      refine val _ ⟨_, _, _, hrun, s1, s2, ?_⟩ rfl
      refine .own _ _ _ _ _ (get_new _) rfl n _ true rfl _ _ (Nat.le_refl _) (fun _ => ⟨by simp [upd], cs, el, ?_, by omega⟩)
      have := World.alloc_heap_new w (.cells cs el)
      simpa [upd] using this
    · obtain ⟨rfl, rfl⟩ := qab e2
      obtain ⟨s1, s2⟩ := s.beside (.cells cs el)
      refine val _ ⟨μ, _, _, hrun, s1, s2, ?_⟩ rfl
      have hr' := hr.mono s2
      have hnew := World.alloc_heap_new w (.cells cs el)
      have hnh : ¬ Held h' μ w.heap.size := by
        rintro ⟨id, o, ho, hm⟩
        obtain ⟨obj, hb, _⟩ := s.blk id o ho
        have := (Array.getElem?_eq_some_iff.1 hb).1
        omega
      refine .sl .full len cells _ len cs.toList (Nat.le_refl _) (fun hk => by cases hk) (fun _ => ⟨rfl, rfl⟩) (fun hk => by cases hk) (fun _ => rfl) (fun ad had _ => ?_) hr'.1 (fun _ => rfl) (fun ad had => ?_) hr'.2
      · cases had; exact ⟨hnh, by simp⟩
      · cases had
        have := At.row (off := 0) hnew cs.size
        rw [List.take_of_length_le (by simp), List.drop_zero] at this
        exact this
  | load t a =>
    obtain ⟨rfl, y, h1, h2⟩ := aload_sim s e (hρ a)
    exact val _ ⟨μ, w, y, h1, s, Stp.refl _ _ _, h2⟩ rfl
  | store t a x =>
    obtain ⟨u, h1, e1, e2⟩ := bind_some e
    obtain ⟨rfl, rfl⟩ := qab e2
    exact unit _ (astore_sim s e1 (hρ a) (hρ x)) rfl rfl
  | nilCheck x =>
    have hx := hρ x
    simp only [aop] at e
    split at e
    · rename_i hr
      obtain ⟨rfl, rfl⟩ := qab e
      rw [hr] at hx
      refine ⟨μ, w, ρ' x, .inl ?_, s, Stp.refl _ _ _, hx⟩
      generalize hy : ρ' x = y at hx
      cases hx <;> simp [execOp, hy]
    · rename_i hr
      obtain ⟨rfl, rfl⟩ := qab e
      rw [hr] at hx
      refine ⟨μ, w, ρ' x, .inl ?_, s, Stp.refl _ _ _, hx⟩
      generalize hy : ρ' x = y at hx
      cases hx
      simp [execOp, hy]
    · cases e
  | binOp op t x y u => exact val _ ((abin_sim s op t x y (hρ x) (hρ y)).m s v h' e hF) rfl
  | unOp op t x => exact val _ ((aun_sim op (hρ x)).m s v h' e hF) rfl
  | convert a b x => exact val _ ((convert_sim (hρ x)).m s v h' e hF) rfl
  | makeInterface t x =>
    simp only [aop] at e
    split at e
    · cases e
    · rename_i d hne hu
      obtain ⟨rfl, rfl⟩ := qab e
      refine val _ ⟨μ, w, .iface t (ρ' x), ?_, s, Stp.refl _ _ _, .iface _ _ _ (hρ x)⟩ rfl
      simp only [Instr.makeInterface, Sem.run_bind, run_underlying hu, Result.andThen]
      cases d <;> first | rfl | exact absurd rfl (hne _)
    · cases e
  | makeFunc f first captured =>
    cases f with
    | func f =>
      obtain ⟨rfl, rfl⟩ := qab e
      have r1 := VRs_operands hρ first
      have r2 := VRs_operands hρ captured
      refine val _ ⟨μ, w, .func (.func f) (first.map ρ') (captured.map ρ'), rfl, s, Stp.refl _ _ _, ?_⟩ rfl
      have := VR.func (h := h') (μ := μ) (w := w) f _ _ _ _ r1.1 r2.1 r1.2 r2.2
      rw [Array.toArray_toList, Array.toArray_toList] at this
      exact this
    | _ => cases e
  | makeMap t r =>
    cases r with
    | none => exact val _ (makeMap_sim s t v h' e hF) rfl
    | some _ => cases e
  | makeSlice t l c =>
    have hl := hρ l
    have hcc := hρ c
    simp only [aop] at e
    split at e
    · rename_i l' c' hl' hc'
      rw [hl'] at hl
      rw [hc'] at hcc
      refine val (Instr.makeSlice t (ρ' l) (ρ' c)) ?_ rfl
      generalize ρ' l = x at hl
      generalize ρ' c = y at hcc
      cases hl; cases hcc
      exact makeSlice_sim s v h' e hF
    · cases e
  | slice t x lo hi mx => exact val _ ((slice_sim s (hρ x) (OVR_map hρ lo) (OVR_map hρ hi) (OVR_map hρ mx)).m s v h' e hF) rfl
  | fieldAddr t x f => exact val _ ((fieldAddr_sim s (hρ x)).m s v h' e hF) rfl
  | field t x f => exact val _ ((field_sim (hρ x)).m s v h' e hF) rfl
  | indexAddr t x i => exact val _ ((indexAddr_sim s (hρ x) (hρ i)).m s v h' e hF) rfl
  | index t x i => exact val _ ((index_sim (hρ x) (hρ i)).m s v h' e hF) rfl
  | lookup t x i ok => exact val _ ((lookup_sim s (hρ x) (hρ i)).m s v h' e hF) rfl
  | mapUpdate t m k x =>
    obtain ⟨u, h1, e1, e2⟩ := bind_some e
    obtain ⟨rfl, rfl⟩ := qab e2
    exact unit _ (mapUpdate_sim s e1 (hρ m) (hρ k) (hρ x)) rfl rfl
  | insert t m k x =>
    obtain ⟨u, h1, e1, e2⟩ := bind_some e
    obtain ⟨rfl, rfl⟩ := qab e2
    exact unit _ (mapUpdate_sim s e1 (hρ m) (hρ k) (hρ x)) rfl rfl
  | extract t i =>
    have ht := hρ t
    simp only [aop] at e
    split at e
    · rename_i vs ht'
      rw [ht'] at ht
      exact val _ ((extract_sim ht i).m s v h' e hF) rfl
    · cases e
  | call c =>
    simp only [plainCall] at hc
    split at hc
    · rename_i b hb
      simp only [aop, hb] at e
      obtain ⟨μ', w', x, h1, h2⟩ := builtin_sim (P := P) (ty := ty) (cs := (c.args.map fun | .const _ => true | _ => false)) s (VRs_operands hρ c.args) e hF
      refine ⟨μ', w', x, .inl ?_, h2⟩
      simp only [Array.toArray_toList] at h1
      simp [execOp, resolve, hb, invoke]
      exact h1
    · cases hc
  | _ => cases e
end
end Go.Am
namespace Go.Am
open Go AM

/-- the fence of an activation, of a round -/
def fen (ro : Option Nat) : Fence := { Fence.wide with round := ro }

def callSem (x : Value) (xs : Array Value) : Sem Next := do
  let d ← Deferred.ofValue x xs
  invoke d.target d.args

section
variable (P : Program)

/-- how a call ends that an abstract one tells -/
def Got (h : Hp) (μ : Nat → Nat) (w : World) (v : AV) (h' : Hp) : Ending → World → Prop
  | .returned x, w' => ∃ μ', SR h' μ' w' ∧ Stp h μ w h' μ' w' ∧ VR h' μ' w' v x
  | _, _ => False

def Meets (v : AV) (R : Ending → World → Prop) (w : World) : Result Next → Prop
  | .ok (.enter f as) w' => w' = w ∧ CallsIn Fence.wide 0 P f as w R
  | .ok (.round l f t a b) w' => isYield v = true ∧ w' = w ∧ RoundIn Fence.wide 0 P l f t a b w R
  | _ => False

def CallOk (call : qa6) : Prop :=
  ∀ (v : AV) (args : List AV) (h : Hp) (μ : Nat → Nat) (w : World) (r : AV) (h' : Hp) (x : Value) (xs : List Value),
    SR h μ w → VR h μ w v x → VRs h μ w args xs → (call v args).run h = some (r, h') → Fresh h h' →
    Meets P v (Got h μ w r h') w ((callSem x xs.toArray).run P w)
end

section
variable {P : Program} {pol : Pol} {call : qa6} {fn : FuncId} {h h' : Hp} {μ : Nat → Nat} {w : World}

/-- what lies behind an operation -/
def Next1 (h : Hp) (μ : Nat → Nat) (w : World) (a : Act) (o : Oper) (v : AV) (h' : Hp) (a' : Act) (w' : World) : Prop :=
  ∃ μ' x, SR h' μ' w' ∧ Stp h μ w h' μ' w' ∧ VR h' μ' w' v x ∧ a' = a.put o.dst x

theorem aop_defer {o : Oper} {ρ : Operand → AV} {r : AV × Hp} (e : (aop P pol call fn o ρ).run h = some r) : ∀ c, o.op ≠ .defer c := by
  intro c hc
  simp only [aop, hc] at e
  cases e

theorem aop_wp (hcall : CallOk P call) (ro : Option Nat) (s : SR h μ w) {o : Oper} {ρ : Operand → AV} {a : Act} (hρ : ∀ x, VR h μ w (ρ x) (a.eval x)) {v : AV}
    (e : (aop P pol call fn o ρ).run h = some (v, h')) (hF : Fresh h h') (Q : Exit → Act → World → Prop) :
    o.wpIn (fen ro) 0 P a w (Next1 h μ w a o v h') Q := by
  refine ⟨fun _ _ => trivial, ?_⟩
  rw [Oper.semAt_eq _ _ _ (aop_defer e)]
  by_cases hc : plainCall o = true
  · obtain ⟨μ', w', x, h1, h2, h3, h4⟩ := aop_sim (P := P) s hρ hc e hF
    rcases h1 with h1 | ⟨h1, rfl⟩
    · rw [h1, Oper.uponIn_value]; exact ⟨μ', x, h2, h3, h4, rfl⟩
    · rw [h1, Oper.uponIn_skip]; exact ⟨μ', _, h2, h3, h4, rfl⟩
  · obtain ⟨dst, op, ty, pos, after, gd⟩ := o
    cases op with
    | call c =>
      simp only [plainCall] at hc
      cases hcal : c.callee with
      | builtin b => rw [hcal] at hc; exact absurd rfl hc
      | invoke r n => simp only [aop, hcal] at e; cases e
      | value f =>
        simp only [aop, hcal] at e
        have hk := hcall _ _ h μ w v h' _ _ s (hρ f) (VRs_operands hρ c.args) e hF
        have hx : execOp a.eval ⟨dst, .call c, ty, pos, after, gd⟩ = callSem (a.eval f) (c.args.map a.eval).toList.toArray := by
          simp only [execOp, resolve, hcal, callSem, Array.toArray_toList]
        rw [hx]
        generalize (callSem (a.eval f) (c.args.map a.eval).toList.toArray).run P w = res at hk
        unfold Meets at hk
        split at hk
        · obtain ⟨rfl, hk⟩ := hk
          rw [Oper.uponIn_enter]
          refine ⟨(fun hd => by cases hd), CallsIn.mono (F := fen ro) hk fun e' w' hg => ?_⟩
          cases e' with
          | returned x => obtain ⟨μ', g1, g2, g3⟩ := hg; exact ⟨μ', x, g1, g2, g3, rfl⟩
          | panicked _ => exact hg.elim
          | outgrown => exact hg.elim
        · obtain ⟨_, rfl, hk⟩ := hk
          rw [Oper.uponIn_round]
          refine ⟨(fun hd => by cases hd), RoundIn.mono (F := fen ro) hk fun e' w' hg => ?_⟩
          cases e' with
          | returned x => obtain ⟨μ', g1, g2, g3⟩ := hg; exact ⟨μ', x, g1, g2, g3, rfl⟩
          | panicked _ => exact hg.elim
          | outgrown => exact hg.elim
        · exact hk.elim
    | _ => exact absurd rfl hc

/-- whether an operation is carried out -/
theorem awanted_sim {ops : Array Oper} {nt : Nat} {T : qag} {a : Act} (tr : TR h μ w nt T a.tmps) (o : Oper) {b : Bool} (e : (awanted ops.toList T o).run h = some (b, h')) :
    h' = h ∧ Region.wanted o (yielded ops a.tmps) = b := by
  unfold awanted at e
  unfold Region.wanted
  split at e
  · rename_i hg
    obtain ⟨rfl, rfl⟩ := qab e
    rw [hg]; exact ⟨rfl, rfl⟩
  · rename_i j want hg
    rw [hg]
    simp only [yielded]
    rw [Array.getElem?_toList] at e
    cases hd : (ops[j]?).bind (·.dst) with
    | none =>
      rw [hd] at e
      obtain ⟨rfl, rfl⟩ := qab e
      exact ⟨rfl, rfl⟩
    | some t =>
      rw [hd] at e
      dsimp only at e
      simp only [Option.bind_some]
      have hv := tr.2 t
      have hget : a.tmps[t]? = some (a.tmps.getD t Go.undef) ∨ (a.tmps[t]? = none ∧ a.tmps.getD t Go.undef = Go.undef) := by
        by_cases hlt : t < a.tmps.size
        · left; simp [Array.getD, hlt]
        · right; simp [Array.getD, hlt]
      split at e
      · rename_i c hT
        obtain ⟨rfl, rfl⟩ := qab e
        rw [hT] at hv
        rcases hget with hget | ⟨_, hu⟩
        · rw [hget]
          generalize a.tmps.getD t Go.undef = x at hv
          cases hv
          refine ⟨rfl, ?_⟩
          cases c <;> cases want <;> rfl
        · rw [hu] at hv; cases hv
      · cases e
      · rename_i hn1 hn2
        obtain ⟨rfl, rfl⟩ := qab e
        refine ⟨rfl, ?_⟩
        rcases hget with hget | ⟨hget, _⟩
        · rw [hget]
          generalize a.tmps.getD t Go.undef = x at hv
          cases x <;> first | rfl | skip
          rename_i c
          generalize qay T t = y at hv hn1 hn2
          cases hv
          · exact absurd rfl hn2
          · exact absurd rfl (hn1 _)
          · rename_i r; cases r
        · rw [hget]; rfl
end
end Go.Am
namespace Go.Am
open Go AM

theorem AM.dom {α : Type} (m : AM α) {h h' : Hp} {a : α} (e : m.run h = some (a, h')) : Dom h h' := m.good.1 h a h' e

/-- A BIND, TAKEN APART -/
theorem qba {α β : Type} {m : AM α} {f : α → AM β} {h h' : Hp} {r : β} (e : (m >>= f).run h = some (r, h')) (F : Fresh h h') :
    ∃ a h1, m.run h = some (a, h1) ∧ (f a).run h1 = some (r, h') ∧ Fresh h h1 ∧ Fresh h1 h' := by
  obtain ⟨a, h1, e1, e2⟩ := bind_some e
  exact ⟨a, h1, e1, e2, F.left (AM.dom _ e2).next, F.right (AM.dom _ e1)⟩

section
variable {P : Program} {pol : Pol} {call : qa6} {fn : FuncId} {h h' : Hp} {μ μ' : Nat → Nat} {w w' : World}

/-! ### a region in its own order -/
def OpsPost (h : Hp) (μ : Nat → Nat) (w : World) (nt : Nat) (T' : qag) (h' : Hp) (ds : List Deferred) (e1 : Exit) (a1 : Act) (w1 : World) : Prop :=
  e1 = .normal ∧ ∃ μ', SR h' μ' w1 ∧ Stp h μ w h' μ' w1 ∧ TR h' μ' w1 nt T' a1.tmps ∧ a1.defers = ds

theorem OpsPost.trans {h1 : Hp} {μ1 : Nat → Nat} {w1 : World} {nt : Nat} {T' : qag} {ds : List Deferred} (s : Stp h μ w h1 μ1 w1) {e1 : Exit} {a2 : Act} {w2 : World}
    (p : OpsPost h1 μ1 w1 nt T' h' ds e1 a2 w2) : OpsPost h μ w nt T' h' ds e1 a2 w2 := by
  obtain ⟨p1, μ2, p2, p3, p4⟩ := p
  exact ⟨p1, μ2, p2, s.trans p3, p4⟩

theorem wpOpsIn_mono {F : Fence} {n : Nat} {ops : Array Oper} {Q Q' : Exit → Act → World → Prop} (hq : ∀ e a w, Q e a w → Q' e a w) (l : List Nat) : ∀ (a : Act) (w : World),
    wpOpsIn F n P ops Q l a w → wpOpsIn F n P ops Q' l a w := by
  induction l with
  | nil => exact fun a w hh => hq _ _ _ hh
  | cons i rest ih =>
    intro a w hh
    simp only [wpOpsIn] at hh ⊢
    split
    · rename_i ho; simp only [ho] at hh; exact ih _ _ hh
    · rename_i o ho
      simp only [ho] at hh
      split
      · rename_i hw
        simp only [hw, if_true] at hh
        have h2 := Oper.wpIn_mono (K' := wpOpsIn F n P ops Q' rest) ih hh
        refine ⟨h2.1, ?_⟩
        have h3 := h2.2
        generalize (o.semAt F.round a.eval).run P w = r at *
        cases r with
        | ok x w' =>
          cases x <;> simp only [Oper.uponIn] at h3 ⊢ <;>
            first
              | exact h3
              | exact ⟨h3.1, CallsIn.mono h3.2 (fun e w'' he => by cases e <;> first | exact he | exact hq _ _ _ he | (obtain ⟨x, y, z⟩ := he; exact ⟨x, y, hq _ _ _ z⟩))⟩
              | exact ⟨h3.1, RoundIn.mono h3.2 (fun e w'' he => by cases e <;> first | exact he | exact hq _ _ _ he | (obtain ⟨x, y, z⟩ := he; exact ⟨x, y, hq _ _ _ z⟩))⟩
        | halt x w' => cases x <;> simp only [Oper.uponIn] at h3 ⊢ <;> first | exact h3 | exact hq _ _ _ h3
      · rename_i hw
        simp only [hw] at hh
        exact ⟨hh.1, ih _ _ hh.2⟩

theorem put_defers (a : Act) (d : Option Tmp) (x : Value) : (a.put d x).defers = a.defers := by cases d <;> rfl

theorem aops_wp (hcall : CallOk P call) (ro : Option Nat) (nt : Nat) {ops : Array Oper} (l : List Nat) : ∀ {T T' : qag} {h : Hp} {a : Act} {w : World} {μ : Nat → Nat},
    (aops P pol call fn nt ops.toList l T).run h = some (T', h') → SR h μ w → TR h μ w nt T a.tmps → Fresh h h' → wpOpsIn (fen ro) 0 P ops (OpsPost h μ w nt T' h' a.defers) l a w := by
  induction l with
  | nil =>
    intro T T' h a w μ e s tr F
    obtain ⟨rfl, rfl⟩ := qab e
    exact ⟨rfl, μ, s, Stp.refl _ _ _, tr, rfl⟩
  | cons i rest ih =>
    intro T T' h a w μ e s tr F
    simp only [aops, Array.getElem?_toList] at e
    simp only [wpOpsIn]
    cases ho : ops[i]? with
    | none => rw [ho] at e; cases e
    | some o =>
      rw [ho] at e
      dsimp only at e ⊢
      obtain ⟨b, h1, e1, e2, F1, F2⟩ := qba e F
      obtain ⟨rfl, hw⟩ := awanted_sim tr o e1
      rw [hw]
      cases b with
      | true =>
        simp only [if_true]
        dsimp only at e2
        obtain ⟨v, h2, e3, e4, F3, F4⟩ := qba e2 F2
        refine Oper.wpIn_mono (fun a' w' hn => ?_) (aop_wp hcall ro s tr.eval e3 F3 _)
        obtain ⟨μ', x, s1, s2, hv, rfl⟩ := hn
        have := ih e4 s1 ((tr.mono s2).put? o.dst hv) F4
        rw [put_defers] at this
        exact wpOpsIn_mono (fun _ _ _ => OpsPost.trans s2) _ _ _ this
      | false =>
        simp only [Bool.false_eq_true, if_false]
        dsimp only at e2
        refine ⟨fun _ _ => trivial, ?_⟩
        have := ih e2 s (tr.put? o.dst VR_undef) F2
        rw [put_defers] at this
        exact this

/-! ### marks -/
/-- the deferred calls of an activation: marks alone, each with a block of its own that is open and empty -/
def Marks (B : Nat) (h : Hp) (μ : Nat → Nat) (w : World) : List Deferred → Prop
  | [] => True
  | d :: ds => (∃ D, d.target = .collected D ∧ B ≤ D ∧ D < w.heap.size ∧ ¬ Held h μ D ∧ w.heap[D]? = some (.deferred (some [])) ∧ ∀ d2 ∈ ds, d2.target ≠ .collected D) ∧ Marks B h μ w ds

theorem Marks.mono {B : Nat} (s : Stp h μ w h' μ' w') : ∀ {ds : List Deferred}, Marks B h μ w ds → Marks B h' μ' w' ds
  | [], _ => trivial
  | _ :: _, ⟨⟨D, h1, h2, h3, h4, h5, h6⟩, r⟩ => ⟨⟨D, h1, h2, Nat.lt_of_lt_of_le h3 s.size, fun k => h4 (s.held D h3 k), by rw [s.old D h3 h4]; exact h5, h6⟩, r.mono s⟩

theorem Marks.lt {B : Nat} : ∀ {ds : List Deferred}, Marks B h μ w ds → ∀ d ∈ ds, ∀ D, d.target = .collected D → D < w.heap.size
  | [], _, d, hd, _, _ => by cases hd
  | d0 :: ds, ⟨⟨D, h1, _, h3, _⟩, r⟩, d, hd, D', hD => by
    rcases List.mem_cons.1 hd with rfl | hd
    · rw [h1] at hD; cases hD; exact h3
    · exact r.lt d hd D' hD

/-- the record of the loop whose round this is -/
def InR (h : Hp) (μ : Nat → Nat) (ro : Option Nat) : Prop := ∀ l, ro = some l → ∃ id o f nt T ps a b st p, h.get id = some o ∧ o.body = .loop f nt T ps a b st p ∧ μ id = l

theorem InR.mono {ro : Option Nat} (i : InR h μ ro) (s : Stp h μ w h' μ' w') : InR h' μ' ro := fun l hl => by
  obtain ⟨id, o, f, nt, T, ps, a, b, st, p, h1, h2, h3⟩ := i l hl
  obtain ⟨o', ho', _, hlike, heq⟩ := s.live id o h1
  have hm := (heq (.inr (by rw [h2]; rfl))).1
  rw [h2] at hlike
  cases hb : o'.body with
  | loop f nt T ps a b st p => exact ⟨id, o', f, nt, T, ps, a, b, st, p, ho', hb, by rw [hm]; exact h3⟩
  | row _ _ _ => rw [hb] at hlike; exact hlike.elim
  | map _ => rw [hb] at hlike; exact hlike.elim
  | siter _ _ => rw [hb] at hlike; exact hlike.elim

/-! ### a block is shut -/
theorem VR.same (hz : w'.heap.size = w.heap.size) (hc : ∀ a, w'.cell? a = w.cell? a) (hh : ∀ id o, h.get id = some o → w'.heap[μ id]? = w.heap[μ id]?) {v : AV} {x : Value} (r : VR h μ w v x) : VR h μ w' v x := by
  induction r with
  | undef v => exact .undef v
  | bool b => exact .bool b
  | int k n => exact .int k n
  | str s l e => exact .str s l e
  | nilptr => exact .nilptr
  | ptr id ver off o ho hv => exact .ptr id ver off o ho hv
  | ptrOld id ver off x o ho hv => exact .ptrOld id ver off x o ho hv
  | iptr cells ad vals h1 hb hl hcc hr ih => exact .iptr cells ad vals h1 (by omega) hl (fun i hi => by rw [hc]; exact hcc i hi) ih
  | sl k n cells A cap vals hn hnil hfull htight hpos h1 hl hs hcc hr ih =>
    exact .sl k n cells A cap vals hn hnil hfull htight hpos (fun ad e hne => by rw [hz]; exact h1 ad e hne) hl hs (fun ad e i hi => by rw [hc]; exact hcc ad e i hi) ih
  | bag cells cells' x p r ih => exact .bag cells cells' x p ih
  | own id ver off n o ho hv esz cells fix hbody ad cap hn hex =>
    exact .own id ver off n o ho hv esz cells fix hbody ad cap hn (fun k => by rw [hh id o ho]; exact hex k)
  | ownOld id ver off n x m cap o ho hv => exact .ownOld id ver off n x m cap o ho hv
  | nilmap => exact .nilmap
  | mapv id o ho es hbody => exact .mapv id o ho es hbody
  | nilfunc => exact .nilfunc
  | func f first captured vf vc hl1 hl2 hr1 hr2 ih1 ih2 => exact .func f first captured vf vc hl1 hl2 ih1 ih2
  | yield l o ho hbody => exact .yield l o ho hbody
  | niliface => exact .niliface
  | iface t v v' hr ih => exact .iface t v v' ih
  | agg cells vals hl hr ih => exact .agg cells vals hl ih
  | tuple cells vals hl hr ih => exact .tuple cells vals hl ih

/-- a block that no object is, and that holds no cells, is shut -/
theorem shut {D : Nat} {ds : Option (List Deferred)} (s : SR h μ w) (hn : ¬ Held h μ D) (hd : w.heap[D]? = some (.deferred ds)) :
    SR h μ (w.putObj D (.deferred none)) ∧ (∀ {v : AV} {x : Value}, VR h μ w v x → VR h μ (w.putObj D (.deferred none)) v x) := by
  have hlt : D < w.heap.size := (Array.getElem?_eq_some_iff.1 hd).1
  have hoth : ∀ c, c ≠ D → (w.putObj D (.deferred none)).heap[c]? = w.heap[c]? := fun c hc => World.putObj_heap_other hc
  have hcell : ∀ a, (w.putObj D (.deferred none)).cell? a = w.cell? a := fun a => by
    by_cases e : a.block = D
    · unfold World.cell?
      rw [e, hd, World.putObj_heap_same hlt]
    · exact cell?_of_heap (hoth _ e)
  have hheld : ∀ id o, h.get id = some o → (w.putObj D (.deferred none)).heap[μ id]? = w.heap[μ id]? := fun id o ho => hoth _ (fun e => hn ⟨id, o, ho, e⟩)
  have vr : ∀ {v : AV} {x : Value}, VR h μ w v x → VR h μ (w.putObj D (.deferred none)) v x := fun r => r.same World.putObj_size hcell hheld
  have vrs : ∀ {v : List AV} {x : List Value}, VRs h μ w v x → VRs h μ (w.putObj D (.deferred none)) v x := fun r => ⟨r.1, fun i h1 h2 => vr (r.2 i h1 h2)⟩
  refine ⟨⟨fun id o ho => ?_, s.inj⟩, vr⟩
  obtain ⟨obj, h1, h2⟩ := s.blk id o ho
  refine ⟨obj, by rw [hheld id o ho]; exact h1, ?_⟩
  revert h2
  cases o.body with
  | row esz cells fix => rintro ⟨cs, e, h1, h2, h3, h4⟩; exact ⟨cs, e, h1, h2, h3, vrs h4⟩
  | map es => rintro ⟨ms, c, h1, h2, h3, hbn⟩; exact ⟨ms, c, h1, vrs h2, vrs h3, hbn⟩
  | loop f nt T ps a b st p => rintro ⟨L, h1, h3, h4⟩; exact ⟨L, h1, ⟨h3.1, fun t => vr (h3.2 t)⟩, h4⟩
  | siter _ _ => exact fun k => k
end
end Go.Am
namespace Go.Am
open Go AM

/-- a loop whose rounds count down -/
theorem wpIn_loop_down {F : Fence} {n : Nat} {P : Program} {c : Code} {Q : Exit → Act → World → Prop} {a : Act} {w : World} (R : Nat → Act → World → Prop) (k : Nat) (h₀ : R k a w)
    (round : ∀ k a w, R k a w → ∃ k', k = k' + 1 ∧ c.wpIn F n P (Exit.then (R k') Q) a w) : (Code.loop c).wpIn F n P Q a w := by
  have least : ∀ k a w, R k a w → ∃ m, R m a w ∧ ∀ j, j < m → ¬ R j a w := by
    intro k a w
    induction k using Nat.strongRecOn with
    | _ k ih =>
      intro hk
      by_cases hj : ∃ j, j < k ∧ R j a w
      · obtain ⟨j, h1, h2⟩ := hj; exact ih j h1 h2
      · exact ⟨k, hk, fun j h1 h2 => hj ⟨j, h1, h2⟩⟩
  have total : ∀ a w, ∃ m, (∃ k, R k a w) → R m a w ∧ ∀ j, j < m → ¬ R j a w := fun a w => by
    by_cases hk : ∃ k, R k a w
    · obtain ⟨k, hk⟩ := hk; obtain ⟨m, hm⟩ := least k a w hk; exact ⟨m, fun _ => hm⟩
    · exact ⟨0, fun h => absurd h hk⟩
  refine wpIn_loop (fun a w => ∃ k, R k a w) (fun a w => Classical.choose (total a w)) ⟨k, h₀⟩ (fun a w hI => ?_)
  obtain ⟨h1, _⟩ := Classical.choose_spec (total a w) hI
  obtain ⟨k', hk, hwp⟩ := round _ a w h1
  refine wpIn_mono hwp (fun e a' w' hq => ?_)
  cases e with
  | normal =>
    refine ⟨⟨k', hq⟩, ?_⟩
    obtain ⟨_, h4⟩ := Classical.choose_spec (total a' w') ⟨k', hq⟩
    have h5 : ¬ k' < Classical.choose (total a' w') := fun hlt => h4 k' hlt hq
    show Classical.choose (total a' w') < Classical.choose (total a w)
    rw [hk]
    omega
  | _ => exact hq

section
variable {P : Program} {pol : Pol} {call : qa6} {fn : FuncId} {h h' : Hp} {μ μ' : Nat → Nat} {w w' : World}

/-- what a region that draws its order owes -/
def RegionOk (P : Program) (pol : Pol) (call : qa6) : Prop :=
  ∀ (fn : FuncId) (nt : Nat) (ops : Array Oper) (T T' : qag) (h h' : Hp) (a : Act) (w : World) (μ : Nat → Nat) (ro : Option Nat),
    (aregion P pol call fn nt ops.toList true T).run h = some (T', h') → SR h μ w → TR h μ w nt T a.tmps → Fresh h h' →
    ∀ t, wpOpsIn (fen ro) 0 P ops (OpsPost h μ w nt T' h' a.defers) (Region.schedule (P.follows .mixedOrders) ops t) a { w with drawn := w.drawn + 1 }

def CPost (B : Nat) (h : Hp) (μ : Nat → Nat) (w : World) (nt : Nat) (e : Exit) (T' : qag) (h' : Hp) (e1 : Exit) (a1 : Act) (w1 : World) : Prop :=
  e1 = e ∧ ∃ μ', SR h' μ' w1 ∧ Stp h μ w h' μ' w1 ∧ TR h' μ' w1 nt T' a1.tmps ∧ Marks B h' μ' w1 a1.defers

theorem CPost.trans {B : Nat} {h1 : Hp} {μ1 : Nat → Nat} {w1 : World} {nt : Nat} {e : Exit} {T' : qag} (s : Stp h μ w h1 μ1 w1) {e1 : Exit} {a2 : Act} {w2 : World}
    (p : CPost B h1 μ1 w1 nt e T' h' e1 a2 w2) : CPost B h μ w nt e T' h' e1 a2 w2 := by
  obtain ⟨p1, μ2, p2, p3, p4⟩ := p
  exact ⟨p1, μ2, p2, s.trans p3, p4⟩

/-- what a piece of code owes -/
def CodeOk (P : Program) (pol : Pol) (call : qa6) (fn : FuncId) (nt fuel : Nat) (c : Code) : Prop :=
  ∀ (B : Nat) (ro : Option Nat) (T T' : qag) (e : Exit) (h h' : Hp) (a : Act) (w : World) (μ : Nat → Nat),
    (qaw P pol call fn nt fuel c T).run h = some ((e, T'), h') → SR h μ w → TR h μ w nt T a.tmps → Fresh h h' → Marks B h μ w a.defers → InR h μ ro → B ≤ w.heap.size →
    c.wpIn (fen ro) 0 P (CPost B h μ w nt e T' h') a w

theorem jumpExit_wp {c : Code} {e : Exit} (hj : jumpExit c = some e) {F : Fence} {n : Nat} {Q : Exit → Act → World → Prop} {a : Act} (hq : Q e a w) : c.wpIn F n P Q a w := by
  unfold jumpExit at hj
  split at hj
  · cases hj; exact wpIn_ret hq
  · cases hj; exact wpIn_exit hq
  · cases hj

theorem loopOf_some {id : Nat} {r : FuncId × Nat × qag × List Tmp × Code × Code × LoopState × Option Code} (e : (loopOf id).run h = some (r, h')) :
    h' = h ∧ ∃ o, h.get id = some o ∧ o.body = .loop r.1 r.2.1 r.2.2.1 r.2.2.2.1 r.2.2.2.2.1 r.2.2.2.2.2.1 r.2.2.2.2.2.2.1 r.2.2.2.2.2.2.2 := by
  obtain ⟨o, h1, e1, e2⟩ := bind_some e
  obtain ⟨ho, rfl⟩ := hget_some e1
  split at e2
  · rename_i hb; obtain ⟨rfl, rfl⟩ := qab e2; exact ⟨rfl, o, ho, hb⟩
  · cases e2

/-- a loop's record is written -/
theorem SR.loop (s : SR h μ w) {id : Nat} {o : AObj} {f f' : FuncId} {nt : Nat} {T : qag} {ps : List Tmp} {a b : Code} {st st' : LoopState} {p p' : Option Code} (ho : h.get id = some o) (hb : o.body = .loop f nt T ps a b st p) :
    ∃ L : Loop, w.heap[μ id]? = some (.loop L) ∧ TR h μ w nt T L.tmps ∧ L.params.toList = ps ∧ L.assign = a ∧ L.body = b ∧ L.state = st ∧ L.pending = p ∧
      SR ⟨h.obj.set id (some ⟨o.ver, o.stamp + 1, .loop f' nt T ps a b st' p'⟩), h.next⟩ μ (w.putObj (μ id) (.loop { L with state := st', pending := p' })) ∧
      Stp h μ w ⟨h.obj.set id (some ⟨o.ver, o.stamp + 1, .loop f' nt T ps a b st' p'⟩), h.next⟩ μ (w.putObj (μ id) (.loop { L with state := st', pending := p' })) := by
  obtain ⟨obj, h1, h2⟩ := s.blk id o ho
  rw [hb] at h2
  obtain ⟨L, rfl, h3, h4, h5, h6, h7, h8⟩ := h2
  have hlt : μ id < w.heap.size := (Array.getElem?_eq_some_iff.1 h1).1
  refine ⟨L, h1, h3, h4, h5, h6, h7, h8, ?_⟩
  exact s.put ho (Nat.le_refl _) (by rw [hb]; trivial) World.putObj_size (fun c hc => World.putObj_heap_other hc) (World.putObj_heap_same hlt)
    ⟨_, rfl, h3, h4, h5, h6, rfl, rfl⟩ (fun cs e hc => by rw [h1] at hc; cases hc) rfl rfl rfl

/-- laying a loop's record -/
theorem enter_sim (s : SR h μ w) (hf : h.get h.next = none) (ro : Option Nat) (hr : InR h μ ro) (f f' : FuncId) {nt : Nat} {T : qag} {a : Act} (tr : TR h μ w nt T a.tmps) (ps : Array Tmp) (x y : Code) {B : Nat} (hB : B ≤ w.heap.size) (hm : Marks B h μ w a.defers) :
    ∃ (l : Nat) (mark : List Deferred) (w₁ : World) (μ₁ : Nat → Nat), (Instr.enterLoop f a.tmps ps x y (fen ro).round).run P w = .ok (l, mark) w₁ ∧ μ₁ h.next = l ∧
      SR ⟨h.obj.set h.next (some ⟨0, 0, .loop f' nt T ps.toList x y .ready none⟩), h.next + 1⟩ μ₁ w₁ ∧
      Stp h μ w ⟨h.obj.set h.next (some ⟨0, 0, .loop f' nt T ps.toList x y .ready none⟩), h.next + 1⟩ μ₁ w₁ ∧
      Marks B ⟨h.obj.set h.next (some ⟨0, 0, .loop f' nt T ps.toList x y .ready none⟩), h.next + 1⟩ μ₁ w₁ (mark ++ a.defers) := by
  cases ro with
  | some l₀ =>
    obtain ⟨id, o, f0, nt0, T0, ps0, a0, b0, st0, p0, ho, hb, rfl⟩ := hr l₀ rfl
    obtain ⟨obj, h1, h2⟩ := s.blk id o ho
    rw [hb] at h2
    obtain ⟨L, rfl, _⟩ := h2
    obtain ⟨s1, s2⟩ := s.alloc hf (.loop { state := .ready, pending := none, fn := f, tmps := a.tmps, params := ps, assign := x, body := y, defers := L.defers }) (.loop f' nt T ps.toList x y .ready none)
      ⟨_, rfl, tr, rfl, rfl, rfl, rfl, rfl⟩
    exact ⟨w.heap.size, [], _, _, run_enterLoop_inner h1 f a.tmps ps x y, by simp [upd], s1, s2, hm.mono s2⟩
  | none =>
    obtain ⟨s1, s2⟩ := s.beside (.deferred (some []))
    obtain ⟨s3, s4⟩ := s1.alloc hf (.loop { state := .ready, pending := none, fn := f, tmps := a.tmps, params := ps, assign := x, body := y, defers := w.heap.size }) (.loop f' nt T ps.toList x y .ready none)
      ⟨_, rfl, tr.mono s2, rfl, rfl, rfl, rfl, rfl⟩
    refine ⟨w.heap.size + 1, [{ target := .collected w.heap.size, args := #[] }], _, _, run_enterLoop_outer f a.tmps ps x y, by simp [upd, World.size_alloc], s3, s2.trans s4, ?_⟩
    refine ⟨⟨w.heap.size, rfl, hB, by simp [World.size_alloc]; omega, fun hh => ?_, ?_, fun d2 hd e => ?_⟩, (hm.mono s2).mono s4⟩
    · have := s4.held _ (by simp) hh
      obtain ⟨id, o, ho, hm⟩ := this
      obtain ⟨obj, h1, _⟩ := s.blk id o ho
      have := (Array.getElem?_eq_some_iff.1 h1).1
      omega
    · rw [qcg _ _ _ (by simp)]
      exact World.alloc_heap_new w _
    · exact Nat.lt_irrefl _ (hm.lt d2 hd _ e)

theorem callSem_enter {x : Value} {xs : Array Value} {f : FuncId} {as : Array Value} (e : (callSem x xs).run P w = .ok (.enter f as) w) :
    ∃ d, (Deferred.ofValue x xs).run P w = .ok d w ∧ (invoke d.target d.args).run P w = .ok (.enter f as) w := by
  unfold callSem at e
  rw [Sem.run_bind] at e
  unfold Deferred.ofValue at e ⊢
  split at e
  · exact ⟨_, rfl, e⟩
  · exact ⟨_, rfl, e⟩
  · cases e

theorem acode_wp (hcall : CallOk P call) (hreg : RegionOk P pol call) (nt fuel : Nat) : ∀ c : Code, CodeOk P pol call fn nt fuel c
  | .skip => fun B ro T T' e h h' a w μ er s tr F m i hB => by
    obtain ⟨e1, rfl⟩ := qab er
    cases e1
    exact wpIn_skip ⟨rfl, μ, s, Stp.refl _ _ _, tr, m⟩
  | .label _ => fun B ro T T' e h h' a w μ er s tr F m i hB => by
    obtain ⟨e1, rfl⟩ := qab er
    cases e1
    exact wpIn_label ⟨rfl, μ, s, Stp.refl _ _ _, tr, m⟩
  | .exit id => fun B ro T T' e h h' a w μ er s tr F m i hB => by
    obtain ⟨e1, rfl⟩ := qab er
    cases e1
    exact wpIn_exit ⟨rfl, μ, s, Stp.refl _ _ _, tr, m⟩
  | .ret => fun B ro T T' e h h' a w μ er s tr F m i hB => by
    obtain ⟨e1, rfl⟩ := qab er
    cases e1
    exact wpIn_ret ⟨rfl, μ, s, Stp.refl _ _ _, tr, m⟩
  | .goto _ => fun B ro T T' e h h' a w μ er s tr F m i hB => by cases er
  | .refuse _ => fun B ro T T' e h h' a w μ er s tr F m i hB => by cases er
  | .scope _ => fun B ro T T' e h h' a w μ er s tr F m i hB => by cases er
  | .region id ops draw => fun B ro T T' e h h' a w μ er s tr F m i hB => by
    simp only [qaw] at er
    obtain ⟨T1, h1, e1, e2, F1, F2⟩ := qba er F
    obtain ⟨e3, rfl⟩ := qab e2
    cases e3
    have fin : ∀ (e1 : Exit) (a1 : Act) (w1 : World), OpsPost h μ w nt T' h' a.defers e1 a1 w1 → CPost B h μ w nt .normal T' h' e1 a1 w1 := by
      rintro e1 a1 w1 ⟨p1, μ', p2, p3, p4, p5⟩
      exact ⟨p1, μ', p2, p3, p4, by rw [p5]; exact m.mono p3⟩
    cases draw with
    | false =>
      refine wpIn_region (wpOpsIn_mono fin _ _ _ ?_)
      have := aops_wp hcall ro nt (ops := ops) (List.range ops.size) (by simpa [aregion] using e1) s tr F1
      exact this
    | true =>
      exact wpIn_region_draw fun t => wpOpsIn_mono fin _ _ _ (hreg fn nt ops T T' h h' a w μ ro e1 s tr F1 t)
  | .seq x y => fun B ro T T' e h h' a w μ er s tr F m i hB => by
    simp only [qaw] at er
    obtain ⟨⟨ex, T1⟩, h1, e1, e2, F1, F2⟩ := qba er F
    refine wpIn_seq (wpIn_mono (acode_wp hcall hreg nt fuel x B ro T T1 ex h h1 a w μ e1 s tr F1 m i hB) (fun e0 a1 w1 hp => ?_))
    have hp0 := hp
    obtain ⟨rfl, μ1, s1, s2, s3, s4⟩ := hp
    cases e0 with
    | normal =>
      exact wpIn_mono (acode_wp hcall hreg nt fuel y B ro T1 T' e h1 h' a1 w1 μ1 e2 s1 s3 F2 s4 (i.mono s2) (Nat.le_trans hB s2.size)) (fun _ _ _ => CPost.trans s2)
    | _ =>
      obtain ⟨e3, rfl⟩ := qab e2
      cases e3
      exact hp0
  | .cond c x y => fun B ro T T' e h h' a w μ er s tr F m i hB => by
    simp only [qaw] at er
    have hv := tr.eval c
    split at er
    · rename_i hc
      rw [hc] at hv
      generalize hx : a.eval c = v at hv
      cases hv
      exact wpIn_cond_true hx (acode_wp hcall hreg nt fuel x B ro T T' e h h' a w μ er s tr F m i hB)
    · rename_i hc
      rw [hc] at hv
      generalize hx : a.eval c = v at hv
      cases hv
      exact wpIn_cond_false hx (acode_wp hcall hreg nt fuel y B ro T T' e h h' a w μ er s tr F m i hB)
    · cases er
  | .block id b => fun B ro T T' e h h' a w μ er s tr F m i hB => by
    simp only [qaw] at er
    obtain ⟨⟨ex, T1⟩, h1, e1, e2, F1, F2⟩ := qba er F
    refine wpIn_block (wpIn_mono (acode_wp hcall hreg nt fuel b B ro T T1 ex h h1 a w μ e1 s tr F1 m i hB) (fun e0 a1 w1 hp => ?_))
    obtain ⟨rfl, μ1, s1, s2, s3, s4⟩ := hp
    cases e0 with
    | exit id' =>
      dsimp only at e2
      split at e2
      · rename_i hid
        rw [Nat.beq_eq] at hid
        obtain ⟨e3, rfl⟩ := qab e2
        cases e3
        simp only [Exit.inBlock, hid, if_true]
        exact ⟨rfl, μ1, s1, s2, s3, s4⟩
      · rename_i hid
        have hne : id' ≠ id := fun k => by rw [k] at hid; simp at hid
        obtain ⟨e3, rfl⟩ := qab e2
        cases e3
        simp only [Exit.inBlock, hne, if_false]
        exact ⟨rfl, μ1, s1, s2, s3, s4⟩
    | _ =>
      obtain ⟨e3, rfl⟩ := qab e2
      cases e3
      exact ⟨rfl, μ1, s1, s2, s3, s4⟩
  | .loop b => fun B ro T T' e h h' a w μ er s tr F m i hB => by
    simp only [qaw] at er
    refine wpIn_loop_down (fun k a1 w1 => ∃ T1 h1 μ1, (aloop (qaw P pol call fn nt fuel b) k T1).run h1 = some ((e, T'), h') ∧ SR h1 μ1 w1 ∧ Stp h μ w h1 μ1 w1 ∧ TR h1 μ1 w1 nt T1 a1.tmps ∧ Fresh h1 h' ∧ Marks B h1 μ1 w1 a1.defers)
      fuel ⟨T, h, μ, er, s, Stp.refl _ _ _, tr, F, m⟩ (fun k a1 w1 hk => ?_)
    obtain ⟨T1, h1, μ1, er1, s1, st1, tr1, F1, m1⟩ := hk
    cases k with
    | zero => cases er1
    | succ k =>
      refine ⟨k, rfl, ?_⟩
      simp only [aloop] at er1
      obtain ⟨⟨ex, T2⟩, h2, e1, e2, F2, F3⟩ := qba er1 F1
      refine wpIn_mono (acode_wp hcall hreg nt fuel b B ro T1 T2 ex h1 h2 a1 w1 μ1 e1 s1 tr1 F2 m1 (i.mono st1) (Nat.le_trans hB st1.size)) (fun e0 a2 w2 hp => ?_)
      obtain ⟨rfl, μ2, s2, st2, tr2, m2⟩ := hp
      cases e0 with
      | normal => exact ⟨T2, h2, μ2, e2, s2, st1.trans st2, tr2, F3, m2⟩
      | _ =>
        obtain ⟨e3, rfl⟩ := qab e2
        cases e3
        exact ⟨rfl, μ2, s2, st1.trans st2, tr2, m2⟩
  | .rangeFunc f ps x y => fun B ro T T' e h h' a w μ er s tr F m i hB => by
    simp only [qaw] at er
    obtain ⟨_, h0, e1, e2, F1, F2⟩ := qba er F
    obtain ⟨hy, rfl⟩ := qap e1
    clear e1 er
    obtain ⟨id, h1, e3, e4, F3, F4⟩ := qba e2 F2
    obtain ⟨rfl, rfl⟩ := qcq e3
    obtain ⟨r, h2, e5, e6, F5, F6⟩ := qba e4 F4
    obtain ⟨rec, h3, e7, e8, F7, F8⟩ := qba e6 F6
    obtain ⟨rfl, o, ho, hb⟩ := loopOf_some e7
    obtain ⟨f', nt', T1, ps', x', y', st, p⟩ := rec
    dsimp only at hb e8
    obtain ⟨o2, h4, e9, e10, F9, F10⟩ := qba e8 F8
    obtain ⟨ho2, rfl⟩ := hget_some e9
    rw [ho] at ho2; cases ho2
    refine wpIn_rangeFunc fun g _ => ?_
    obtain ⟨l, mark, w₁, μ₁, he, hl, s1, st1, m1⟩ := enter_sim (P := P) s F3.new ro i g fn tr ps x y hB m
    have hyield : VR ⟨h0.obj.set h0.next (some ⟨0, 0, .loop fn nt T ps.toList x y .ready none⟩), h0.next + 1⟩ μ₁ w₁ (.func (.yield h0.next) [] []) (.func (.yield l) #[] #[]) := by
      rw [← hl]; exact .yield h0.next _ (get_new _) rfl
    have hk := hcall _ _ _ μ₁ w₁ r h4 (a.eval f) [.func (.yield l) #[] #[]] s1 ((tr.eval f).mono st1) (VRs.cons hyield .nil) e5 F5
    generalize hres : (callSem (a.eval f) [Value.func (.yield l) #[] #[]].toArray).run P w₁ = res at hk
    unfold Meets at hk
    split at hk
    · rename_i g' as w₂
      obtain ⟨rfl, hk⟩ := hk
      obtain ⟨d, q1, q2⟩ := callSem_enter hres
      refine ⟨l, mark, w₂, d, w₂, g', as, w₂, he, ?_, fun _ _ => trivial, q2, (fun hd => by cases hd), CallsIn.mono (F := fen ro) hk fun en w3 hg => ?_⟩
      · simpa [resolve, rangeCall, Act.eval] using q1
      · cases en with
        | panicked _ => exact hg.elim
        | outgrown => exact hg.elim
        | returned rv =>
          obtain ⟨μ2, s2, st2, _⟩ := hg
          obtain ⟨o', ho', _, hlike, heq⟩ := st2.live h0.next _ (get_new _)
          have hm2 := (heq (.inr rfl)).1
          rw [hl] at hm2
          obtain ⟨L, q3, q4, q5, q6, q7, q8, q9, s3, st3⟩ := s2.loop (f' := f') (st' := .exhausted) (p' := p) ho hb
          rw [hm2] at q3 s3 st3
          have stAll := (st1.trans st2).trans st3
          obtain ⟨_, h5, e21, e22⟩ := bind_some e10
          obtain ⟨hst, rfl⟩ := qap e21
          have hst : st ≠ .busy := by rintro rfl; cases hst
          have hpend : L.pending = p := q9
          refine ⟨p, _, by rw [← hpend]; exact run_endLoop q3 (by rw [q8]; exact hst), ?_⟩
          have hsame : ({ L with state := .exhausted } : Loop) = { L with state := .exhausted, pending := p } := by rw [← hpend]
          rw [hsame]
          obtain ⟨_, hh, e12, e13⟩ := bind_some e22
          obtain ⟨o3, ho3, _, rfl⟩ := hput_some e12
          rw [ho] at ho3; cases ho3
          have mAll : Marks B _ μ2 _ (mark ++ a.defers) := (m1.mono st2).mono st3
          cases p with
          | none =>
            obtain ⟨e14, rfl⟩ := qab e13
            cases e14
            exact ⟨rfl, μ2, s3, stAll, tr.mono stAll, mAll⟩
          | some c =>
            obtain ⟨ex, hh, e15, e16⟩ := bind_some e13
            obtain ⟨hj, rfl⟩ := qbb e15
            obtain ⟨e14, rfl⟩ := qab e16
            cases e14
            exact jumpExit_wp hj ⟨rfl, μ2, s3, stAll, tr.mono stAll, mAll⟩
    · obtain ⟨hyy, _⟩ := hk
      rw [hyy] at hy; cases hy
    · exact hk.elim
end
end Go.Am
namespace Go.Am
open Go AM

section
variable {P : Program} {pol : Pol} {call : qa6} {h h' : Hp} {μ μ' : Nat → Nat} {w w' : World}

/-! ### results -/
def resultSem (tmps : Array Value) : ResultVar → Sem Value
  | .tmp t => pure (tmps.getD t undef)
  | .cell a t => do loadVar t (← asAddr (tmps.getD a undef))

theorem load_asAddr {t : TypeId} {x y : Value} (e : (Instr.loadAt t x).run P w = .ok y w) : (do loadVar t (← asAddr x) : Sem Value).run P w = .ok y w := by
  unfold Instr.loadAt at e
  cases x with
  | pointer a =>
    cases a with
    | none => simp [Instr.sureAddr] at e
    | some ad => simpa [Instr.sureAddr, asAddr] using e
  | _ => simp [Instr.sureAddr] at e

theorem aresult_sim (s : SR h μ w) {nt : Nat} {T : qag} {tmps : Array Value} (tr : TR h μ w nt T tmps) (r : ResultVar) {v : AV} (e : (aresult P T r).run h = some (v, h')) :
    h' = h ∧ ∃ x, (resultSem tmps r).run P w = .ok x w ∧ VR h μ w v x := by
  cases r with
  | tmp t =>
    obtain ⟨rfl, rfl⟩ := qab e
    exact ⟨rfl, _, rfl, tr.2 t⟩
  | cell a ty =>
    obtain ⟨rfl, y, h1, h2⟩ := aload_sim s e (tr.2 a)
    exact ⟨rfl, y, load_asAddr h1, h2⟩

theorem aresultList_sim (s : SR h μ w) {nt : Nat} {T : qag} {tmps : Array Value} (tr : TR h μ w nt T tmps) (l : List ResultVar) : ∀ {vs : List AV}, (qce P T l).run h = some (vs, h') →
    h' = h ∧ ∃ xs, (l.mapM (resultSem tmps)).run P w = .ok xs w ∧ VRs h μ w vs xs := by
  induction l with
  | nil =>
    intro vs e
    obtain ⟨rfl, rfl⟩ := qab e
    exact ⟨rfl, [], rfl, VRs.nil⟩
  | cons r rs ih =>
    intro vs e
    obtain ⟨v, h1, e1, e2⟩ := bind_some e
    obtain ⟨hh1, x, q1, q2⟩ := aresult_sim s tr r e1
    rw [hh1] at e2
    obtain ⟨vs', h2, e3, e4⟩ := bind_some e2
    obtain ⟨rfl, hh⟩ := qab e4
    rw [← hh] at e3
    obtain ⟨rfl, xs, q3, q4⟩ := ih e3
    refine ⟨rfl, x :: xs, ?_, VRs.cons q2 q4⟩
    rw [List.mapM_cons, Sem.run_bind, q1]
    simp only [Result.andThen]
    rw [Sem.run_bind, q3]
    rfl

theorem aresults_sim (s : SR h μ w) {nt : Nat} {T : qag} {tmps : Array Value} (tr : TR h μ w nt T tmps) {f : Func} {v : AV} (e : (qa8 P f T).run h = some (v, h')) :
    h' = h ∧ ∃ x, (results f tmps).run P w = .ok x w ∧ VR h μ w v x := by
  obtain ⟨vs, h1, e1, e2⟩ := bind_some e
  obtain ⟨rfl, xs, q1, q2⟩ := aresultList_sim s tr f.results.toList e1
  have hm : (f.results.mapM (resultSem tmps)).run P w = .ok xs.toArray w := by
    rw [Array.mapM_eq_mapM_toList, map_eq_pure_bind, Sem.run_bind, q1, Result.andThen, Sem.run_pure]
  have hres : results f tmps = (do let vs ← f.results.mapM (resultSem tmps); pure (if h : vs.size = 1 then vs[0] else .tuple vs)) := by
    unfold results
    congr 2
  rw [hres, Sem.run_bind, hm]
  simp only [Result.andThen]
  split at e2
  · rename_i v1
    obtain ⟨rfl, rfl⟩ := qab e2
    obtain ⟨x, rfl⟩ : ∃ x, xs = [x] := by
      have := q2.1
      cases xs with
      | nil => simp at this
      | cons x r => cases r with
        | nil => exact ⟨x, rfl⟩
        | cons _ _ => simp at this
    exact ⟨rfl, x, rfl, q2.2 0 (by simp) (by simp)⟩
  · rename_i hne
    obtain ⟨rfl, rfl⟩ := qab e2
    refine ⟨rfl, .tuple xs.toArray, ?_, .tuple _ _ q2.1 q2.2⟩
    have : ¬ xs.toArray.size = 1 := by
      intro h1
      have h2 := q2.1
      simp at h1
      rw [h1] at h2
      obtain ⟨a, rfl⟩ := List.length_eq_one_iff.1 h2
      exact hne a rfl
    rw [dif_neg this]
    rfl

/-! ### entering a function -/
theorem tget_tempsFrom : ∀ (l : List AV) (i : Nat) (T : qag) (t : Nat), qay (tempsFrom i l T) t = if i ≤ t ∧ t < i + l.length then l.getD (t - i) .undef else qay T t
  | [], i, T, t => by simp [tempsFrom]; intro h1 h2; omega
  | v :: r, i, T, t => by
    rw [tempsFrom, tget_tempsFrom r (i + 1)]
    by_cases h1 : i + 1 ≤ t ∧ t < i + 1 + r.length
    · rw [if_pos h1, if_pos (by simp; omega)]
      obtain ⟨k, rfl⟩ : ∃ k, t = i + 1 + k := ⟨t - (i + 1), by omega⟩
      rw [show i + 1 + k - (i + 1) = k by omega, show i + 1 + k - i = k + 1 by omega]
      rfl
    · rw [if_neg h1]
      by_cases h2 : t = i
      · subst h2
        rw [if_pos (by simp)]
        simp [qay, Tm.get_set]
      · rw [if_neg (by simp; omega)]
        simp [qay, Tm.get_set, h2]

theorem TR_entry {args : List AV} {xs : List Value} (r : VRs h μ w args xs) {nt : Nat} (hle : args.length ≤ nt) :
    TR h μ w nt (qah nt args) (xs.toArray ++ Array.replicate (nt - xs.toArray.size) undef) := by
  have hl := r.1
  refine ⟨by simp; omega, fun t => ?_⟩
  unfold qah
  rw [List.take_of_length_le (by omega), tget_tempsFrom]
  by_cases ht : t < args.length
  · rw [if_pos ⟨Nat.zero_le _, by omega⟩]
    have h2 : t < xs.length := by omega
    have := r.2 t ht h2
    rw [show args.getD (t - 0) .undef = args[t] by simp [List.getD, ht]]
    rw [show (xs.toArray ++ Array.replicate (nt - xs.toArray.size) undef).getD t undef = xs[t] by simp [Array.getD, h2]; intro h; omega]
    exact this
  · rw [if_neg (by omega)]
    have h1 : qay (.leaf : qag) t = .tuple [] := by simp [qay, Tm.get_leaf]
    have h2 : (xs.toArray ++ Array.replicate (nt - xs.toArray.size) undef).getD t undef = undef := by
      simp only [Array.getD_eq_getD_getElem?, Array.getElem?_append, Array.getElem?_replicate]
      rw [if_neg (by simp; omega)]
      split <;> rfl
    rw [h1, h2]
    exact VR_undef

/-! ### leaving a function -/
theorem leaves {B : Nat} {fn : Func} {tmps : Array Value} {R : Ending → World → Prop} : ∀ (ds : List Deferred) (w : World), SR h μ w → Marks B h μ w ds →
    (∀ w', SR h μ w' → (∀ {v : AV} {x : Value}, VR h μ w v x → VR h μ w' v x) → w'.heap.size = w.heap.size → (∀ c, c < B → w'.heap[c]? = w.heap[c]?) → w'.os = w.os → w'.tape = w.tape → w'.output = w.output →
      ∃ v, (results fn tmps).run P w' = .ok v w' ∧ R (.returned v) w') → LeavesInM Fence.wide 0 P fn tmps R ds .returning w
  | [], w, s, _, k => k w s (fun r => r) rfl (fun _ _ => rfl) rfl rfl rfl
  | d :: ds, w, s, ⟨⟨D, h1, h2, h3, h4, h5, h6⟩, r⟩, k => by
    refine ⟨by simp, .inl ⟨D, _, h1, run_takeDeferred h5, ?_⟩⟩
    obtain ⟨s1, vr⟩ := shut s h4 h5
    have hoth : ∀ c, c ≠ D → (w.putObj D (.deferred none)).heap[c]? = w.heap[c]? := fun c hc => World.putObj_heap_other hc
    have hmk : ∀ (ds : List Deferred), (∀ d2 ∈ ds, d2.target ≠ .collected D) → Marks B h μ w ds → Marks B h μ (w.putObj D (.deferred none)) ds := by
      intro ds
      induction ds with
      | nil => exact fun _ _ => trivial
      | cons d0 ds ih =>
        rintro hne ⟨⟨D', g1, g2, g3, g4, g5, g6⟩, g7⟩
        refine ⟨⟨D', g1, g2, by rw [World.putObj_size]; exact g3, g4, ?_, g6⟩, ih (fun d2 hd => hne d2 (List.mem_cons_of_mem _ hd)) g7⟩
        rw [hoth D' (fun e => hne d0 (List.mem_cons_self) (by rw [g1, e]))]
        exact g5
    refine leaves ds _ s1 (hmk ds h6 r) (fun w' s' vr' hz hB ho ht hp => ?_)
    exact k w' s' (fun q => vr' (vr q)) (by rw [hz, World.putObj_size]) (fun c hc => by rw [hB c hc, hoth c (by omega)]) ho ht hp

/-! ### functions -/
def SumsOk (P : Program) (sums : Sums) : Prop :=
  ∀ (f : FuncId) (s : List AV → AM AV), sums f = some s → (∃ fn c, P.funcs[f]? = some fn ∧ fn.body = some c) ∧
    ∀ (args : List AV) (h h' : Hp) (v : AV) (μ : Nat → Nat) (w : World) (xs : List Value), (s args).run h = some (v, h') → SR h μ w → VRs h μ w args xs → Fresh h h' →
      CallsIn Fence.wide 0 P f xs.toArray w (Got h μ w v h')

theorem afunc_calls (hcall : CallOk P call) (hreg : RegionOk P pol call) {sums : Sums} (hs : SumsOk P sums) (n : Nat) (f : FuncId) {args : List AV} {v : AV} {xs : List Value}
    (e : (afunc P pol sums call n f args).run h = some (v, h')) (s : SR h μ w) (r : VRs h μ w args xs) (F : Fresh h h') :
    (∃ fn c, P.funcs[f]? = some fn ∧ fn.body = some c) ∧ CallsIn Fence.wide 0 P f xs.toArray w (Got h μ w v h') := by
  unfold afunc at e
  split at e
  · rename_i sm hsm
    obtain ⟨h1, h2⟩ := hs f sm hsm
    exact ⟨h1, h2 args h h' v μ w xs e s r F⟩
  · split at e
    · cases e
    · rename_i fn hfn
      split at e
      · cases e
      · rename_i c hc
        refine ⟨⟨fn, c, hfn, hc⟩, ?_⟩
        obtain ⟨_, h1, e1, e2, F1, F2⟩ := qba e F
        obtain ⟨hg, rfl⟩ := qap e1
        obtain ⟨⟨ex, T'⟩, h2, e3, e4, F3, F4⟩ := qba e2 F2
        refine callsIn_of_wp_marks hfn hc trivial ?_
        have tr := TR_entry r (nt := fn.ntmps) (by simpa using hg)
        refine wpIn_mono (acode_wp hcall hreg fn.ntmps n c w.heap.size none _ T' ex h1 h2 { tmps := xs.toArray ++ Array.replicate (fn.ntmps - xs.toArray.size) undef, defers := [] } w μ e3 s tr F3 trivial (fun l hl => by cases hl) (Nat.le_refl _)) (fun e1 a1 w1 hp => ?_)
        obtain ⟨rfl, μ1, s1, st1, tr1, m1⟩ := hp
        have done : (qa8 P fn T').run h2 = some (v, h') → LeavesInM Fence.wide 0 P fn a1.tmps (Got h1 μ w v h') a1.defers .returning w1 := by
          intro e5
          refine leaves a1.defers w1 s1 m1 (fun w2 s2 vr hz hB ho ht hp => ?_)
          obtain ⟨rfl, x, q1, q2⟩ := aresults_sim s2 (⟨tr1.1, fun t => vr (tr1.2 t)⟩ : TR h2 μ1 w2 fn.ntmps T' a1.tmps) e5
          refine ⟨x, q1, μ1, s2, ⟨by rw [hz]; exact st1.size, fun id o ho' => ?_, fun c hc hh => by rw [hB c hc]; exact st1.old c hc hh, st1.held, by rw [ho]; exact st1.os, by rw [ht]; exact st1.tape, by rw [hp]; exact st1.output⟩, q2⟩
          obtain ⟨o', g1, g2, g3, g4⟩ := st1.live id o ho'
          refine ⟨o', g1, g2, g3, fun hc => ?_⟩
          obtain ⟨g5, g6⟩ := g4 hc
          have hlt : μ id < w.heap.size := by
            obtain ⟨obj, hb, _⟩ := s.blk id o ho'; exact (Array.getElem?_eq_some_iff.1 hb).1
          exact ⟨g5, fun cs e hcs => by rw [hB _ hlt]; exact g6 cs e hcs⟩
        cases e1 with
        | normal => exact done e4
        | ret => exact done e4
        | _ => cases e4

/-! ### rounds -/
theorem TR_params {nt : Nat} : ∀ (ps : List Tmp) (args : List AV) (xs : List Value) (T : qag) (tmps : Array Value), VRs h μ w args xs → TR h μ w nt T tmps →
    TR h μ w nt (aparams nt ps args T) ((ps.zip xs).foldl (fun tmps (t, a) => tmps.setIfInBounds t a) tmps)
  | [], _, _, T, tmps, _, tr => by simpa [aparams] using tr
  | p :: ps, args, xs, T, tmps, r, tr => by
    cases args with
    | nil =>
      have := r.1
      cases xs with
      | nil => simpa [aparams] using tr
      | cons _ _ => simp at this
    | cons a args =>
      cases xs with
      | nil => have := r.1; simp at this
      | cons x xs =>
        simp only [aparams, List.zip_cons_cons, List.foldl_cons]
        exact TR_params ps args xs _ _ r.tail (tr.put p r.head)

theorem around_ok (hcall : CallOk P call) (hreg : RegionOk P pol call) (n : Nat) (l : Nat) {args : List AV} {v : AV} {xs : List Value}
    (e : (around P pol call n l args).run h = some (v, h')) (s : SR h μ w) (r : VRs h μ w args xs) (F : Fresh h h') :
    ∃ L : Loop, w.heap[μ l]? = some (.loop L) ∧ xs.length = L.params.size ∧
      RoundIn Fence.wide 0 P (μ l) L.fn ((L.params.zip xs.toArray).foldl (fun tmps (t, a) => tmps.setIfInBounds t a) L.tmps) L.assign L.body w (Got h μ w v h') := by
  unfold around at e
  obtain ⟨⟨f, nt, T, ps, x, y, st0, p0⟩, h1, e1, e2, F1, F2⟩ := qba e F
  obtain ⟨rfl, o, ho, hb⟩ := loopOf_some e1
  dsimp only at hb e2
  obtain ⟨_, h2, e3, e4, F3, F4⟩ := qba e2 F2
  obtain ⟨hg, rfl⟩ := qap e3
  obtain ⟨⟨ex, T1⟩, h3, e5, e6, F5, F6⟩ := qba e4 F4
  obtain ⟨obj, hw, hor⟩ := s.blk l o ho
  rw [hb] at hor
  obtain ⟨L, rfl, tr, hps, rfl, rfl, hst, hpd⟩ := hor
  have hlen : xs.length = L.params.size := by
    have h1 := r.1
    rw [Nat.beq_eq] at hg
    rw [← h1, ← hg, ← hps]; simp
  refine ⟨L, hw, hlen, roundIn_of_wpIn trivial ?_⟩
  have hfold : (L.params.zip xs.toArray).foldl (fun tmps (t, a) => tmps.setIfInBounds t a) L.tmps = (ps.zip xs).foldl (fun tmps (t, a) => tmps.setIfInBounds t a) L.tmps := by
    rw [← hps, ← Array.foldl_toList]; simp
  rw [hfold]
  have tr1 := TR_params ps args xs T L.tmps r tr
  have inr : ∀ {h' : Hp} {μ' : Nat → Nat} {w' : World}, Stp h2 μ w h' μ' w' → InR h' μ' (some (μ l)) := fun st => InR.mono (fun l' hl' => by cases hl'; exact ⟨l, o, _, _, _, _, _, _, _, _, ho, hb, rfl⟩) st
  refine wpIn_mono (F := fen (some (μ l))) (acode_wp hcall hreg nt n L.assign w.heap.size (some (μ l)) _ T1 ex h2 h3 { tmps := _, defers := [] } w μ e5 s tr1 F5 trivial (inr (Stp.refl _ _ _)) (Nat.le_refl _)) (fun e1 a1 w1 hp => ?_)
  obtain ⟨rfl, μ1, s1, st1, tr2, m1⟩ := hp
  cases e1 with
  | normal =>
    dsimp only at e6
    obtain ⟨⟨f', nt', T', ps', x', y', st, p⟩, h4, e7, e8, F7, F8⟩ := qba e6 F6
    obtain ⟨rfl, o1, ho1, hb1⟩ := loopOf_some e7
    dsimp only at hb1 e8
    obtain ⟨o1', h5, e9, e10, F9, F10⟩ := qba e8 F8
    obtain ⟨ho1', rfl⟩ := hget_some e9
    rw [ho1] at ho1'; cases ho1'
    obtain ⟨_, h6, e11, e12, F11, F12⟩ := qba e10 F10
    obtain ⟨hrd, rfl⟩ := qap e11
    obtain rfl : st = .ready := by cases st <;> first | rfl | cases hrd
    obtain ⟨_, h7, e13, e14, F13, F14⟩ := qba e12 F12
    obtain ⟨o1', ho1', _, rfl⟩ := hput_some e13
    rw [ho1] at ho1'; cases ho1'
    obtain ⟨o', g1, _, g3, g4⟩ := st1.live l o ho
    have hm1 := (g4 (.inr (by rw [hb]; rfl))).1
    obtain ⟨L1, q1, q2, q3, q4, q5, q6, q7, s2, st2⟩ := s1.loop (f' := f') (st' := .busy) (p' := p) ho1 hb1
    rw [hm1] at q1 s2 st2
    have hsame : ({ L1 with state := .busy } : Loop) = { L1 with state := .busy, pending := p } := by rw [← q7]
    refine ⟨_, run_beginRound q1 q6, ?_⟩
    rw [hsame]
    obtain ⟨⟨e2, T2⟩, h8, e15, e16, F15, F16⟩ := qba e14 F14
    refine wpIn_mono (F := fen (some (μ l))) (acode_wp hcall hreg nt n L.body w.heap.size (some (μ l)) T1 T2 e2 _ h8 a1 _ μ1 e15 s2 (tr2.mono st2) F15 (m1.mono st2) (inr (st1.trans st2)) (by rw [World.putObj_size]; exact st1.size)) (fun e3 a3 w3 hp => ?_)
    obtain ⟨rfl, μ3, s3, st3, tr3, m3⟩ := hp
    dsimp only at e16
    obtain ⟨⟨f2, nt2, T3, ps2, x2, y2, st4, p4⟩, h9, e17, e18, F17, F18⟩ := qba e16 F16
    obtain ⟨rfl, o2, ho2, hb2⟩ := loopOf_some e17
    dsimp only at hb2 e18
    obtain ⟨o2', h10, e19, e20, F19, F20⟩ := qba e18 F18
    obtain ⟨ho2', rfl⟩ := hget_some e19
    rw [ho2] at ho2'; cases ho2'
    obtain ⟨⟨st5, p5⟩, h11, e21, e22, F21, F22⟩ := qba e20 F20
    obtain ⟨hre, rfl⟩ := qbb e21
    dsimp only at e22
    obtain ⟨_, h12, e23, e24, F23, F24⟩ := qba e22 F22
    obtain ⟨o2', ho2', _, rfl⟩ := hput_some e23
    rw [ho2] at ho2'; cases ho2'
    obtain ⟨rfl, rfl⟩ := qab e24
    obtain ⟨o'', k1, _, k3, k4⟩ := (st2.trans st3).live l o1 ho1
    have hm3 := (k4 (.inr (by rw [hb1]; rfl))).1
    rw [hm1] at hm3
    obtain ⟨L2, r1, r2, r3, r4, r5, r6, r7, s4, st6⟩ := s3.loop (f' := f2) (st' := st5) (p' := p5) ho2 hb2
    rw [hm3] at r1 s4 st6
    have stAll := ((st1.trans st2).trans st3).trans st6
    have fin : ∀ jump : Option Code, (st5, p5) = (if jump.isNone then LoopState.ready else .done, jump) →
        (Instr.endRound (μ l) jump).run P w3 = .ok (.bool p5.isNone) (w3.putObj (μ l) (.loop { L2 with state := st5, pending := p5 })) := by
      intro jump hj
      simp only [Prod.mk.injEq] at hj
      obtain ⟨rfl, rfl⟩ := hj
      exact run_endRound p5 r1
    cases e3 with
    | normal => cases hre; exact ⟨_, _, fin none rfl, μ3, s4, stAll, .bool _⟩
    | ret => cases hre; exact ⟨_, _, fin (some .ret) rfl, μ3, s4, stAll, .bool _⟩
    | exit id => cases hre; exact ⟨_, _, fin (some (.exit id)) rfl, μ3, s4, stAll, .bool _⟩
    | _ => cases hre
  | _ => cases e6

/-! ### calls, whatever the fuel -/
structure ProgOk (P : Program) : Prop where
  mixed : P.follows .mixedOrders = true
  name : ∀ (f : FuncId) (fn : Func), P.funcs[f]? = some fn → (fn.name == "runtime.NumGoroutine") = false

theorem acall_ok {sums : Sums} (hP : ProgOk P) (hs : SumsOk P sums) (hreg : ∀ call, CallOk P call → RegionOk P pol call) : ∀ n, CallOk P (qat P pol sums n)
  | 0 => fun v args h μ w r h' x xs s rv ra e F => by cases e
  | n + 1 => fun v args h μ w r h' x xs s rv ra e F => by
    have ih := acall_ok hP hs hreg n
    have hr := hreg _ ih
    cases rv with
    | func f first captured vf vc hl1 hl2 hr1 hr2 =>
      simp only [qat] at e
      have r1 : VRs h μ w first vf := ⟨hl1, hr1⟩
      have r2 : VRs h μ w captured vc := ⟨hl2, hr2⟩
      obtain ⟨⟨fn, c, hfn, hc⟩, hk⟩ := afunc_calls ih hr hs n f e s ((r1.append ra).append r2) F
      have hrun : (callSem (.func (.func f) vf.toArray vc.toArray) xs.toArray).run P w = .ok (.enter f (vf ++ xs ++ vc).toArray) w := by
        have hn : fn.name ≠ "runtime.NumGoroutine" := by simpa using hP.name f fn hfn
        simp [callSem, Deferred.ofValue, invoke, callFunc, hfn, hn, hc]
      rw [hrun]
      exact ⟨rfl, hk⟩
    | yield l o ho hb =>
      simp only [qat] at e
      obtain ⟨L, hw, hlen, hk⟩ := around_ok ih hr n l e s (by simpa using ra) F
      have hrun : (callSem (.func (.yield (μ l)) #[] #[]) xs.toArray).run P w = .ok (.round (μ l) L.fn ((L.params.zip xs.toArray).foldl (fun tmps (t, a) => tmps.setIfInBounds t a) L.tmps) L.assign L.body) w := by
        simp only [callSem, Deferred.ofValue]
        rw [Sem.run_bind]
        simp only [Sem.run_pure, Result.andThen, invoke]
        rw [Array.empty_append]
        exact run_yield hw (by simpa using hlen)
      rw [hrun]
      exact ⟨rfl, rfl, hk⟩
    | _ => cases e
end
end Go.Am
