/- The A-machine: its addresses, indexes, slices are the model's. It holds no program. -/
import GoSem.Step
import Derived.Control
import Derived.CallsIn
import Derived.Below
import Derived.Laws.World
import Derived.Deep.Draws
import Derived.RangeFuncRecord
import Derived.Laws.Cells
import Derived.Laws.Sem
import Derived.Laws.Entries
import Derived.Laws.CopyRow
import Derived.ChangeKeysEq
import Derived.MapKept
import Derived.Laws.StructEq
set_option linter.unusedVariables false
set_option linter.unusedSimpArgs false
namespace Go.Am
open Go

/-! ### A map from numbers, as a tree (quick for the kernel) -/
inductive Tm (α : Type) where
  | leaf
  | node (l : Tm α) (v : Option α) (r : Tm α)

def even (m : Nat) : Bool := Nat.beq (m % 2) 0
theorem even_iff (m : Nat) : even m = true ↔ m % 2 = 0 := by simp [even]
theorem even_false (m : Nat) : even m = false ↔ m % 2 = 1 := by
  rw [← Bool.not_eq_true, even_iff]; omega

namespace Tm
variable {α : Type}
def get : Tm α → Nat → Option α
  | .leaf, _ => none
  | .node _ v _, 0 => v
  | .node l _ r, m + 1 => cond (even m) (l.get (m / 2)) (r.get (m / 2))
def put : Nat → Tm α → Nat → Option α → Tm α
  | _, .leaf, 0, x => .node .leaf x .leaf
  | _, .node l _ r, 0, x => .node l x r
  | 0, t, _ + 1, _ => t
  | f + 1, .leaf, m + 1, x => cond (even m) (.node (put f .leaf (m / 2) x) none .leaf) (.node .leaf none (put f .leaf (m / 2) x))
  | f + 1, .node l v r, m + 1, x => cond (even m) (.node (put f l (m / 2) x) v r) (.node l v (put f r (m / 2) x))
def set (t : Tm α) (n : Nat) (x : Option α) : Tm α := put n t n x
theorem get_leaf (n : Nat) : (leaf : Tm α).get n = none := by cases n <;> rfl
theorem get_put (f : Nat) : ∀ (t : Tm α) (n : Nat) (x : Option α) (m : Nat), n ≤ f → (put f t n x).get m = if m = n then x else t.get m := by
  induction f with
  | zero =>
    intro t n x m hn
    obtain rfl : n = 0 := by omega
    cases t <;> cases m <;> simp [put, get]
  | succ f ih =>
    intro t n x m hn
    cases n with
    | zero => cases t <;> cases m <;> simp [put, get]
    | succ n =>
      have hd : n / 2 ≤ f := by omega
      have key : ∀ (l r : Tm α) (v : Option α), (cond (even n) (Tm.node (put f l (n / 2) x) v r) (Tm.node l v (put f r (n / 2) x))).get m = if m = n + 1 then x else (Tm.node l v r).get m := by
        intro l r v
        cases hb : even n <;> simp only [cond_true, cond_false]
        · rw [even_false] at hb
          cases m with
          | zero => simp [get]
          | succ m =>
            simp only [get, ih _ _ _ _ hd]
            cases hc : even m <;> simp only [cond_true, cond_false]
            · rw [even_false] at hc
              by_cases e : m = n
              · subst e; simp
              · rw [if_neg (by omega), if_neg (by omega)]
            · rw [even_iff] at hc
              rw [if_neg (by omega)]
        · rw [even_iff] at hb
          cases m with
          | zero => simp [get]
          | succ m =>
            simp only [get, ih _ _ _ _ hd]
            cases hc : even m <;> simp only [cond_true, cond_false]
            · rw [even_false] at hc
              rw [if_neg (by omega)]
            · rw [even_iff] at hc
              by_cases e : m = n
              · subst e; simp
              · rw [if_neg (by omega), if_neg (by omega)]
      cases t with
      | leaf =>
        have := key .leaf .leaf none
        rw [put, this]
        cases m <;> simp [get]
      | node l v r => rw [put]; exact key l r v
theorem get_set (t : Tm α) (n : Nat) (x : Option α) (m : Nat) : (t.set n x).get m = if m = n then x else t.get m := get_put n t n x m (Nat.le_refl n)
end Tm

/-! ### Abstract values -/
/-- what is known of a slice that nobody writes any more: it is nil; it is not nil, and has no room; it has no room; nothing -/
inductive SK where
  | nil | full | tight | any
  deriving DecidableEq

inductive AV where
  | undef
  | bool (b : Bool)
  | int (k : IntKind) (n : Int)
  | str (s : List UInt8)
  | nilptr
  | ptr (id ver off : Nat)
  | iptr (cells : List AV)
  | sl (k : SK) (n : Nat) (cells : List AV)
  /-- a slice of values of one cell each, of which the order is not known -/
  | bag (cells : List AV)
  | own (id ver off n : Nat)
  | nilmap
  | mapv (id : Nat)
  | nilfunc
  | func (fn : Fn) (first captured : List AV)
  | niliface
  | iface (t : TypeId) (v : AV)
  | agg (cells : List AV)
  | tuple (vs : List AV)

instance : Inhabited AV := ⟨.undef⟩

inductive Body where
  | row (esz : Nat) (cells : List AV) (fix : Bool)
  | map (es : List (AV × AV))
  | loop (fn : FuncId) (nt : Nat) (T : Tm AV) (params : List Tmp) (assign body : Code) (st : LoopState) (pending : Option Code)
  | siter (s : List UInt8) (pos : Nat)
  /-- what nobody may look at any more -/
  | dead

structure AObj where
  ver : Nat
  stamp : Nat
  body : Body
  /-- of what type its block is, if that is told -/
  ty : Option Nat

structure Hp where
  obj : Tm AObj
  next : Nat

abbrev Hp.get (h : Hp) (id : Nat) : Option AObj := h.obj.get id

def Hp.WF (h : Hp) : Prop := ∀ id o, h.get id = some o → id < h.next

/-- what is not written is as it was -/
def Fr (h h' : Hp) : Prop := ∀ id o o', h.get id = some o → h'.get id = some o' → o.stamp ≤ o'.stamp ∧ o.ver ≤ o'.ver ∧ (o.stamp = o'.stamp → o = o')

/-- the numbers that a run hands out are free -/
def Fresh (h h' : Hp) : Prop := ∀ id, h.next ≤ id → id < h'.next → h.get id = none

/-- of whatever heap: nothing goes, and what comes has a number of its own -/
structure Dom (h h' : Hp) : Prop where
  next : h.next ≤ h'.next
  dom : ∀ id o', h'.get id = some o' → (∃ o, h.get id = some o) ∨ (h.next ≤ id ∧ id < h'.next)
  pers : ∀ id o, h.get id = some o → ∃ o', h'.get id = some o'

theorem Dom.refl (h : Hp) : Dom h h := ⟨Nat.le_refl _, fun _ o' ho => .inl ⟨o', ho⟩, fun _ o ho => ⟨o, ho⟩⟩
theorem Dom.trans {h h1 h2 : Hp} (a : Dom h h1) (b : Dom h1 h2) : Dom h h2 where
  next := Nat.le_trans a.next b.next
  dom := fun id o' ho => by
    have := a.next
    have := b.next
    rcases b.dom id o' ho with ⟨o, h1'⟩ | h1'
    · rcases a.dom id o h1' with h2' | h2'
      · exact .inl h2'
      · exact .inr ⟨h2'.1, by omega⟩
    · exact .inr ⟨by omega, h1'.2⟩
  pers := fun id o ho => by obtain ⟨o1, h1'⟩ := a.pers id o ho; exact b.pers id o1 h1'

/-- what lies beside is kept, and does not matter -/
def Beside {α : Type} (run : Hp → Option (α × Hp)) (h : Hp) (a : α) (h' : Hp) : Prop :=
  ∀ g : Hp, g.next = h.next → (∀ id o, h.get id = some o → g.get id = some o) →
    ∃ g', run g = some (a, g') ∧ g'.next = h'.next ∧ ∀ id, g'.get id = if (h.get id).isSome ∨ (h.next ≤ id ∧ id < h'.next) then h'.get id else g.get id

def Good {α : Type} (run : Hp → Option (α × Hp)) : Prop :=
  (∀ h a h', run h = some (a, h') → Dom h h') ∧ ∀ h a h', run h = some (a, h') → Fresh h h' → Fr h h' ∧ Beside run h a h'

structure AM (α : Type) where
  run : Hp → Option (α × Hp)
  good : Good run

theorem Fr.refl (h : Hp) : Fr h h := fun id o o' h1 h2 => by rw [h1] at h2; cases h2; exact ⟨Nat.le_refl _, Nat.le_refl _, fun _ => rfl⟩

theorem Fr.trans {h h1 h2 : Hp} (d : Dom h h1) (a : Fr h h1) (b : Fr h1 h2) : Fr h h2 := fun id o o' ho ho' => by
  obtain ⟨o1, h1'⟩ := d.pers id o ho
  have s1 := a id o o1 ho h1'
  have s2 := b id o1 o' h1' ho'
  refine ⟨Nat.le_trans s1.1 s2.1, Nat.le_trans s1.2.1 s2.2.1, fun e => ?_⟩
  have e1 : o.stamp = o1.stamp := by omega
  have e2 : o1.stamp = o'.stamp := by omega
  rw [s1.2.2 e1, s2.2.2 e2]

theorem Fresh.left {h h1 h2 : Hp} (F : Fresh h h2) (n : h1.next ≤ h2.next) : Fresh h h1 := fun id a b => F id a (Nat.lt_of_lt_of_le b n)
theorem Fresh.right {h h1 h2 : Hp} (F : Fresh h h2) (d : Dom h h1) : Fresh h1 h2 := fun id a b => by
  cases hq : h1.get id with
  | none => rfl
  | some o =>
    have := d.next
    rcases d.dom id o hq with ⟨o', ho'⟩ | ⟨_, h2⟩
    · rw [F id (by omega) b] at ho'; cases ho'
    · omega

namespace AM
variable {α β : Type}
protected def pure (a : α) : AM α where
  run h := some (a, h)
  good := ⟨fun h b h' e => by cases e; exact Dom.refl _, fun h b h' e _ => by
    simp only [Option.some.injEq, Prod.mk.injEq] at e
    obtain ⟨rfl, rfl⟩ := e
    refine ⟨Fr.refl _, fun g hn hg => ⟨g, rfl, hn, fun id => ?_⟩⟩
    split
    · rename_i hc
      rcases hc with hc | hc
      · obtain ⟨o, ho⟩ := Option.isSome_iff_exists.1 hc
        rw [ho, hg id o ho]
      · omega
    · rfl⟩
def fail : AM α where
  run _ := none
  good := ⟨fun _ _ _ e => (by cases e), fun _ _ _ e _ => (by cases e)⟩
protected def bind (m : AM α) (f : α → AM β) : AM β where
  run h := match m.run h with
    | none => none
    | some (a, h') => (f a).run h'
  good := ⟨fun h b h2 e => by
    dsimp only at e
    cases hm : m.run h with
    | none => rw [hm] at e; cases e
    | some p =>
      rw [hm] at e
      exact (m.good.1 h p.1 p.2 hm).trans ((f p.1).good.1 p.2 b h2 e), fun h b h2 e hF => by
    dsimp only at e
    cases hm : m.run h with
    | none => rw [hm] at e; cases e
    | some p =>
      obtain ⟨a, h1⟩ := p
      rw [hm] at e
      dsimp only at e
      have d1 := m.good.1 h a h1 hm
      have d2 := (f a).good.1 h1 b h2 e
      have := d1.next
      have := d2.next
      obtain ⟨f1, b1⟩ := m.good.2 h a h1 hm (hF.left d2.next)
      obtain ⟨f2, b2⟩ := (f a).good.2 h1 b h2 e (hF.right d1)
      refine ⟨f1.trans d1 f2, fun g hn hg => ?_⟩
      obtain ⟨g1, r1, n1, c1⟩ := b1 g hn hg
      have hg1 : ∀ id o, h1.get id = some o → g1.get id = some o := fun id o ho => by
        rw [c1 id, if_pos, ho]
        rcases d1.dom id o ho with ⟨o0, h0⟩ | h0
        · exact .inl (by rw [h0]; rfl)
        · exact .inr h0
      obtain ⟨g2, r2, n2, c2⟩ := b2 g1 n1 hg1
      refine ⟨g2, by dsimp only; rw [r1]; exact r2, n2, fun id => ?_⟩
      rw [c2 id]
      by_cases hA : (h1.get id).isSome = true ∨ h1.next ≤ id ∧ id < h2.next
      · rw [if_pos hA, if_pos]
        rcases hA with hA | hA
        · obtain ⟨o, ho⟩ := Option.isSome_iff_exists.1 hA
          rcases d1.dom id o ho with ⟨o0, h0⟩ | h0
          · exact .inl (by rw [h0]; rfl)
          · exact .inr ⟨h0.1, by omega⟩
        · exact .inr ⟨by omega, hA.2⟩
      · rw [if_neg hA, c1 id]
        have h1n : h1.get id = none := by
          cases hq : h1.get id with
          | none => rfl
          | some o => exact absurd (.inl (by rw [hq]; rfl)) hA
        have h2n : h2.get id = none := by
          cases hq : h2.get id with
          | none => rfl
          | some o =>
            rcases d2.dom id o hq with ⟨o0, h0⟩ | h0
            · rw [h1n] at h0; cases h0
            · exact absurd (.inr h0) hA
        by_cases hB : (h.get id).isSome = true ∨ h.next ≤ id ∧ id < h1.next
        · rw [if_pos hB, if_pos, h1n, h2n]
          rcases hB with hB | hB
          · exact .inl hB
          · exact .inr ⟨hB.1, by omega⟩
        · rw [if_neg hB, if_neg]
          rintro (hC | hC)
          · exact hB (.inl hC)
          · by_cases hlt : id < h1.next
            · exact hB (.inr ⟨hC.1, hlt⟩)
            · exact hA (.inr ⟨by omega, hC.2⟩)⟩

instance : Monad AM where
  pure := AM.pure
  bind := AM.bind

theorem run_pure (a : α) (h : Hp) : (pure a : AM α).run h = some (a, h) := rfl
theorem run_bind (m : AM α) (f : α → AM β) (h : Hp) : (m >>= f).run h = match m.run h with
    | none => none
    | some (a, h') => (f a).run h' := rfl
theorem run_fail (h : Hp) : (fail : AM α).run h = none := rfl

def ofOption : Option α → AM α
  | some a => AM.pure a
  | none => fail
def guard (b : Bool) : AM Unit := cond b (AM.pure ()) fail

/-- reads an object -/
def hget (id : Nat) : AM AObj where
  run h := match h.get id with
    | some o => some (o, h)
    | none => none
  good := ⟨fun h a h' e => by
    dsimp only at e
    cases ho : h.get id with
    | none => rw [ho] at e; cases e
    | some o => rw [ho] at e; cases e; exact Dom.refl _, fun h a h' e _ => by
    dsimp only at e
    cases ho : h.get id with
    | none => rw [ho] at e; cases e
    | some o =>
      rw [ho] at e
      simp only [Option.some.injEq, Prod.mk.injEq] at e
      obtain ⟨rfl, rfl⟩ := e
      refine ⟨Fr.refl _, fun g hn hg => ⟨g, by dsimp only; rw [hg id o ho], hn, fun id' => ?_⟩⟩
      split
      · rename_i hc
        rcases hc with hc | hc
        · obtain ⟨o, ho⟩ := Option.isSome_iff_exists.1 hc
          rw [ho, hg id' o ho]
        · omega
      · rfl⟩

/-- writes an object that is there -/
def hputF (id ver : Nat) (b : Body) (f : Option Nat → Option Nat) : AM Unit where
  run h := match h.get id with
    | some o => cond (Nat.ble o.ver ver) (some ((), ⟨h.obj.set id (some ⟨ver, o.stamp + 1, b, f o.ty⟩), h.next⟩)) none
    | none => none
  good := ⟨fun h a h' e => by
    dsimp only at e
    cases ho : h.get id with
    | none => rw [ho] at e; cases e
    | some o =>
      rw [ho] at e
      dsimp only at e
      cases hv : Nat.ble o.ver ver with
      | false => rw [hv] at e; cases e
      | true =>
        rw [hv] at e
        cases e
        have hget : ∀ i, (⟨h.obj.set id (some ⟨ver, o.stamp + 1, b, f o.ty⟩), h.next⟩ : Hp).get i = if i = id then some ⟨ver, o.stamp + 1, b, f o.ty⟩ else h.get i := fun i => Tm.get_set _ _ _ _
        refine ⟨Nat.le_refl _, fun i o' h' => ?_, fun i o' h' => ?_⟩
        · rw [hget] at h'
          split at h'
          · rename_i e; subst e; exact .inl ⟨o, ho⟩
          · exact .inl ⟨o', h'⟩
        · rw [hget]
          split
          · exact ⟨_, rfl⟩
          · exact ⟨o', h'⟩, fun h a h' e _ => by
    dsimp only at e
    cases ho : h.get id with
    | none => rw [ho] at e; cases e
    | some o =>
      rw [ho] at e
      dsimp only at e
      cases hv : Nat.ble o.ver ver with
      | false => rw [hv] at e; cases e
      | true =>
        rw [hv] at e
        simp only [cond_true, Option.some.injEq, Prod.mk.injEq] at e
        obtain ⟨-, rfl⟩ := e
        have hget : ∀ i, (⟨h.obj.set id (some ⟨ver, o.stamp + 1, b, f o.ty⟩), h.next⟩ : Hp).get i = if i = id then some ⟨ver, o.stamp + 1, b, f o.ty⟩ else h.get i := fun i => Tm.get_set _ _ _ _
        refine ⟨fun i o1 o2 h1 h2 => ?_, fun g hn hg => ?_⟩
        · rw [hget] at h2
          split at h2
          · rename_i e; subst e
            rw [ho] at h1
            cases h1; cases h2
            refine ⟨by simp, by simpa using hv, fun e => ?_⟩
            simp at e
          · rw [h1] at h2; cases h2; exact ⟨Nat.le_refl _, Nat.le_refl _, fun _ => rfl⟩
        · refine ⟨⟨g.obj.set id (some ⟨ver, o.stamp + 1, b, f o.ty⟩), g.next⟩, ?_, hn, fun i => ?_⟩
          · dsimp only; rw [hg id o ho]; dsimp only; rw [hv]; rfl
          · show (g.obj.set id _).get i = _
            rw [Tm.get_set, hget]
            by_cases e : i = id
            · subst e
              rw [if_pos rfl, if_pos rfl, if_pos]
              exact .inl (by rw [ho]; rfl)
            · rw [if_neg e, if_neg e]
              split
              · rename_i hc
                rcases hc with hc | hc
                · obtain ⟨o, ho⟩ := Option.isSome_iff_exists.1 hc
                  rw [ho]; exact hg i o ho
                · simp only at hc; omega
              · rfl⟩

/-- makes an object -/
def hallocT (b : Body) (ty : Option Nat) : AM Nat where
  run h := some (h.next, ⟨h.obj.set h.next (some ⟨0, 0, b, ty⟩), h.next + 1⟩)
  good := ⟨fun h a h' e => by
    cases e
    have hget : ∀ i, (⟨h.obj.set h.next (some ⟨0, 0, b, ty⟩), h.next + 1⟩ : Hp).get i = if i = h.next then some ⟨0, 0, b, ty⟩ else h.get i := fun i => Tm.get_set _ _ _ _
    refine ⟨Nat.le_succ _, fun i o' h' => ?_, fun i o' h' => ?_⟩
    · rw [hget] at h'
      split at h'
      · rename_i e; subst e; exact .inr ⟨Nat.le_refl _, Nat.lt_succ_self _⟩
      · exact .inl ⟨o', h'⟩
    · rw [hget]
      split
      · exact ⟨_, rfl⟩
      · exact ⟨o', h'⟩, fun h a h' e hF => by
    dsimp only at e
    simp only [Option.some.injEq, Prod.mk.injEq] at e
    obtain ⟨rfl, rfl⟩ := e
    have hget : ∀ i, (⟨h.obj.set h.next (some ⟨0, 0, b, ty⟩), h.next + 1⟩ : Hp).get i = if i = h.next then some ⟨0, 0, b, ty⟩ else h.get i := fun i => Tm.get_set _ _ _ _
    refine ⟨fun i o1 o2 h1 h2 => ?_, fun g hn hg => ?_⟩
    · rw [hget] at h2
      split at h2
      · rename_i e; subst e; rw [hF _ (Nat.le_refl _) (Nat.lt_succ_self _)] at h1; cases h1
      · rw [h1] at h2; cases h2; exact ⟨Nat.le_refl _, Nat.le_refl _, fun _ => rfl⟩
    · refine ⟨⟨g.obj.set g.next (some ⟨0, 0, b, ty⟩), g.next + 1⟩, by dsimp only; rw [hn], by dsimp only; rw [hn], fun i => ?_⟩
      show (g.obj.set g.next _).get i = _
      rw [Tm.get_set, hget, hn]
      by_cases e : i = h.next
      · subst e; rw [if_pos rfl, if_pos rfl, if_pos]; exact .inr ⟨Nat.le_refl _, Nat.lt_succ_self _⟩
      · rw [if_neg e, if_neg e]
        split
        · rename_i hc
          rcases hc with hc | hc
          · obtain ⟨o, ho⟩ := Option.isSome_iff_exists.1 hc
            rw [ho]; exact hg i o ho
          · simp only at hc; omega
        · rfl⟩
def halloc (b : Body) : AM Nat := hallocT b none
def hput (id ver : Nat) (b : Body) : AM Unit := hputF id ver b fun t => t
end AM
end Go.Am
namespace Go.Am
open Go

def ofCell : Value → AV
  | .bool b => .bool b
  | .int k n => .int k n
  | .string s => .str s.data.toList
  | .pointer none => .nilptr
  | .slice none 0 0 => .sl .nil 0 []
  | .map none => .nilmap
  | .nilFunc => .nilfunc
  | .func (.func f) ⟨[]⟩ ⟨[]⟩ => .func (.func f) [] []
  | .nilIface => .niliface
  | .tuple ⟨[]⟩ => .tuple []
  | _ => .undef
def ofVal : Value → AV
  | .agg cs => .agg (cs.toList.map ofCell)
  | .iface t v => .iface t (ofCell v)
  | v => ofCell v

/-- tables in package variables: of which block, the numbers -/
def gtab : Nat → Option (List (IntKind × Int)) := fun n => match n with | 7 => some ([0,1,56,2,57,49,28,3,61,58,42,50,38,29,17,4,62,47,59,36,45,43,51,22,53,39,33,30,24,18,12,5,63,55,48,27,60,41,37,16,46,35,44,21,52,32,23,11,54,26,40,15,34,20,31,10,25,14,19,9,13,8,7,6].map fun k => (IntKind.u8, k)) | _ => none
abbrev Temps := Tm AV
def tget (T : Temps) (t : Nat) : AV := (T.get t).getD (.tuple [])
def tput (nt : Nat) (T : Temps) (t : Nat) (v : AV) : Temps := cond (Nat.blt t nt) (T.set t (some v)) T
def tput? (nt : Nat) (T : Temps) (t : Option Nat) (v : AV) : Temps := match t with
  | some t => tput nt T t v
  | none => T
def aeval (T : Temps) : Operand → AV
  | .tmp t => tget T t
  | .const v => ofVal v
  | .global g => match gtab g with
    | some l => .iptr (l.map fun x => .int x.1 x.2)
    | none => .undef
  | .func f => .func (.func f) [] []

def acells : AV → List AV
  | .agg cs => cs
  | v => [v]

def szOf (P : Program) (t : TypeId) : AM Nat := AM.ofOption ((P.info? t).map (·.size))
def bytesOf (P : Program) (t : TypeId) : AM Nat := AM.ofOption ((P.info? t).map (·.bytes))
def underOf (P : Program) (t : TypeId) : AM TypeDesc := AM.ofOption (P.underlying t)
def elemOf (P : Program) (t : TypeId) : AM TypeId := match P.underlying t with
  | some (.slice e) => pure e
  | _ => AM.fail
def aggB : TypeDesc → Bool
  | .struct _ | .array _ _ => true
  | _ => false
def zeroOf (P : Program) (t : TypeId) : AM AV := match P.info? t with
  | some i => match i.zero with
    | some v => pure (ofVal v)
    | none => AM.fail
  | none => AM.fail

/-- values of one cell, of which it is known -/
def one : AV → Bool
  | .agg _ | .tuple _ | .undef => false
  | _ => true
def ones (l : List AV) : Bool := l.all one
def known : AV → Bool
  | .undef => false
  | _ => true

/-- the value of a variable of a type at the head of some cells -/
def aread (P : Program) (t : TypeId) (cells : List AV) : AM AV := do
  let d ← underOf P t
  match aggB d with
  | true => do
    let n ← szOf P t
    AM.guard (Nat.ble n cells.length)
    pure (.agg (cells.take n))
  | false => AM.ofOption cells.head?

/-- the row of an object that is not stale, and its object -/
def rowOf (id ver : Nat) : AM (Nat × List AV × Bool) := do
  let o ← AM.hget id
  AM.guard (Nat.beq o.ver ver)
  match o.body with
  | .row esz cells fix => pure (esz, cells, fix)
  | _ => AM.fail

def splice (cells : List AV) (off : Nat) (vs : List AV) : List AV := cells.take off ++ vs ++ cells.drop (off + vs.length)

def aload (P : Program) (t : TypeId) : AV → AM AV
  | .iptr cells => aread P t cells
  | .ptr id ver off => do
    let (_, cells, _) ← rowOf id ver
    aread P t (cells.drop off)
  | _ => AM.fail

def astore (P : Program) (t : TypeId) (a v : AV) : AM Unit :=
  match a with
  | .ptr id ver off => do
    let (esz, cells, fix) ← rowOf id ver
    let n ← szOf P t
    AM.guard (Nat.beq (acells v).length n && Nat.ble (off + n) cells.length && ones (acells v))
    AM.hput id ver (.row esz (splice cells off (acells v)) fix)
  | _ => AM.fail

def afill (place : Nat → Option (Nat × Nat)) (cells : List AV) : List (Nat × AV) → AM (List AV)
  | [] => pure cells
  | (i, v) :: rest =>
    match place i with
    | none => AM.fail
    | some (off, size) => do
      AM.guard (Nat.beq (acells v).length size && Nat.ble (off + size) cells.length && known v)
      afill place (splice cells off (acells v)) rest

def fieldAt (P : Program) (t : TypeId) (f : Nat) : AM Field := match P.underlying t with
  | some (.struct fs) => AM.ofOption fs.toList[f]?
  | _ => AM.fail

def abuild (P : Program) (t : TypeId) (parts : List (Nat × AV)) : AM AV := do
  let z ← zeroOf P t
  match P.underlying t with
  | some (.struct fs) => do
    AM.guard (fs.toList.all fun f => (P.info? f.type).isSome)
    let cells ← afill (fun i => (fs.toList[i]?).bind fun f => (P.info? f.type).map fun n => (f.offset, n.size)) (acells z) parts
    pure (.agg cells)
  | some (.array _ e) => do
    let n ← szOf P e
    let cells ← afill (fun i => some (i * n, n)) (acells z) parts
    pure (.agg cells)
  | _ => AM.fail

def repeatCells (z : List AV) : Nat → List AV
  | 0 => []
  | n + 1 => z ++ repeatCells z n

def zeroUnless (P : Program) (e : TypeId) : Nat → AM AV
  | 0 => pure (.agg [])
  | _ => zeroOf P e
def abuildSlice (P : Program) (t : TypeId) (len : Nat) (parts : List (Nat × AV)) : AM (Nat × List AV) := do
  let e ← elemOf P t
  let n ← szOf P e
  AM.guard (Nat.ble (len * n) 16777216)
  let z ← zeroUnless P e len
  AM.guard (Nat.beq len 0 || Nat.beq (acells z).length n)
  let cells ← afill (fun i => some (i * n, n)) (repeatCells (acells z) len) parts
  pure (n, cells)

def aintop (op : BinOp) (k : IntKind) (x y : Int) : AM AV :=
  match op with
  | .add => pure (.int k (k.wrap (x + y)))
  | .sub => pure (.int k (k.wrap (x - y)))
  | .mul => pure (.int k (k.wrap (x * y)))
  | .quo => if y = 0 then AM.fail else pure (.int k (k.wrap (x.tdiv y)))
  | .rem => if y = 0 then AM.fail else pure (.int k (x.tmod y))
  | .and => pure (.int k (k.wrap (BitVec.ofInt k.bits x &&& BitVec.ofInt k.bits y).toNat))
  | .or => pure (.int k (k.wrap (BitVec.ofInt k.bits x ||| BitVec.ofInt k.bits y).toNat))
  | .xor => pure (.int k (k.wrap (BitVec.ofInt k.bits x ^^^ BitVec.ofInt k.bits y).toNat))
  | .andNot => pure (.int k (k.wrap (BitVec.ofInt k.bits x &&& ~~~BitVec.ofInt k.bits y).toNat))
  | .eql => pure (.bool (x == y))
  | .neq => pure (.bool (x != y))
  | .lss => pure (.bool (decide (x < y)))
  | .leq => pure (.bool (decide (x ≤ y)))
  | .gtr => pure (.bool (decide (x > y)))
  | .geq => pure (.bool (decide (x ≥ y)))
  | _ => AM.fail
def ashift (op : BinOp) (k : IntKind) (x y : Int) : AM AV :=
  if y < 0 then AM.fail else
  match op with
  | .shl => pure (.int k (k.wrap (x * 2 ^ (min y.toNat k.bits))))
  | .shr => pure (.int k (x.fdiv (2 ^ (min y.toNat k.bits))))
  | _ => AM.fail
def maxInt : Nat := 9223372036854775807
def astrop (op : BinOp) (x y : List UInt8) : AM AV :=
  match op with
  | .add => do
    AM.guard (Nat.ble (x.length + y.length) maxInt)
    pure (.str (x ++ y))
  | .eql => pure (.bool (x == y))
  | .neq => pure (.bool !(x == y))
  | .lss => pure (.bool (Op.bytesLess x y))
  | .leq => pure (.bool (Op.bytesLess x y || x == y))
  | .gtr => pure (.bool !(Op.bytesLess x y || x == y))
  | .geq => pure (.bool !(Op.bytesLess x y))
  | _ => AM.fail

/-- a part of a struct or an array -/
def apart (P : Program) (t : TypeId) (cells : List AV) (off : Nat) : Option AV := match P.underlying t with
  | some d => match aggB d with
    | true => match P.info? t with
      | some i => some (.agg ((cells.drop off).take i.size))
      | none => none
    | false => cells[off]?
  | none => none
def aeqFields (P : Program) (eq : TypeId → AV → AV → Option Bool) (xs ys : List AV) : List Field → Option Bool
  | [] => some true
  | f :: r => match f.name == "_", apart P f.type xs f.offset, apart P f.type ys f.offset with
    | false, some a, some b => match eq f.type a b with
      | some true => aeqFields P eq xs ys r
      | some false => some false
      | none => none
    | _, _, _ => none
def aeqIn (P : Program) : Nat → TypeId → AV → AV → Option Bool
  | 0, _, _, _ => none
  | d + 1, t, x, y => match P.underlying t, x, y with
    | some .bool, .bool a, .bool b => some (a == b)
    | some (.int _), .int k a, .int k' b => if k = k' then some (a == b) else none
    | some .string, .str a, .str b => some (a == b)
    | some (.struct fs), .agg xs, .agg ys => cond (P.stoodInHeld t) none (aeqFields P (aeqIn P d) xs ys fs.toList)
    | _, _, _ => none

def isNil : AV → Bool
  | .nilptr | .nilmap | .nilfunc | .sl .nil _ _ => true
  | _ => false
/-- is a value of a kind that has a nil it? -/
def nilKind : TypeDesc → AV → AM Bool
  | .pointer _, .nilptr => pure true
  | .pointer _, .iptr _ => pure false
  | .pointer _, .ptr id ver _ => do let _ ← rowOf id ver; pure false
  | .slice _, .sl .nil _ _ => pure true
  | .slice _, .sl .full _ _ => pure false
  | .slice _, .sl _ n _ => match n with
    | 0 => AM.fail
    | _ => pure false
  | .slice _, .own id ver _ _ => do let _ ← rowOf id ver; pure false
  | .map _ _, .nilmap => pure true
  | .map _ _, .mapv id => do let _ ← AM.hget id; pure false
  | .func _ _ _, .nilfunc => pure true
  | .func _ _ _, .func (.func _) _ _ => pure false
  | _, _ => AM.fail

def aequal (P : Program) (t : TypeId) (x y : AV) : AM Bool :=
  match P.underlying t with
  | some .bool | some (.struct _) => do
    AM.guard (!(P.eqGuardType P.depth t))
    AM.ofOption (aeqIn P 9 t x y)
  | some d => do
    let a ← nilKind d x
    let b ← nilKind d y
    AM.guard (isNil x || isNil y)
    pure (a == b)
  | none => AM.fail

def abin (P : Program) (op : BinOp) (t : TypeId) (x y : AV) : AM AV :=
  match op, x, y with
  | .shl, .int k a, .int _ b => ashift .shl k a b
  | .shr, .int k a, .int _ b => ashift .shr k a b
  | op, .int k a, .int k' b => if k = k' then aintop op k a b else AM.fail
  | op, .str a, .str b => astrop op a b
  | .eql, x, y => do let b ← aequal P t x y; pure (.bool b)
  | .neq, x, y => do let b ← aequal P t x y; pure (.bool !b)
  | _, _, _ => AM.fail

def aun (op : UnOp) : AV → AM AV
  | .bool b => match op with
    | .not => pure (.bool !b)
    | _ => AM.fail
  | .int k n => match op with
    | .neg => pure (.int k (k.wrap (0 - n)))
    | .xor => aintop .xor k (if k.signed then -1 else k.max) n
    | _ => AM.fail
  | _ => AM.fail

def bytesAV (s : List UInt8) : List AV := s.map fun b => .int .u8 b.toNat
def avByte : AV → Option UInt8
  | .int .u8 n => some (UInt8.ofNat n.toNat)
  | _ => none
def avBytes : List AV → Option (List UInt8)
  | [] => some []
  | x :: r => match avByte x, avBytes r with
    | some b, some l => some (b :: l)
    | _, _ => none

/-- the cells of a slice -/
def sliceCells (sz : Nat) : AV → AM (Nat × List AV)
  | .sl _ n cells => do
    AM.guard (Nat.beq (n * sz) cells.length)
    pure (n, cells)
  | .own id ver off n => do
    let (_, cells, _) ← rowOf id ver
    AM.guard (Nat.ble (off + n * sz) cells.length)
    pure (n, (cells.drop off).take (n * sz))
  | _ => AM.fail

/-- the bytes of a slice of bytes -/
def abytes (x : AV) : AM (List UInt8) := do
  let (_, cells) ← sliceCells 1 x
  AM.ofOption (avBytes cells)
def aconvert (P : Program) (src dst : TypeId) (x : AV) : AM AV :=
  match P.underlying src, P.underlying dst, x with
  | some _, some (.int k), .int _ n => pure (.int k (k.wrap n))
  | some _, some .string, .str s => pure (.str s)
  | some (.int _), some .string, .int _ n => do
    AM.guard (decide (0 ≤ n ∧ n < 128))
    pure (.str [UInt8.ofNat n.toNat])
  | some (.slice e), some .string, x => match P.underlying e with
    | some (.int .u8) => do
      let l ← abytes x
      pure (.str l)
    | _ => AM.fail
  | some _, some (.slice e), .str s => match P.underlying e with
    | some (.int .u8) => pure (.sl .any s.length (bytesAV s))
    | _ => AM.fail
  | _, _, _ => AM.fail
/-- a text gone through, sign by sign, of ASCII -/
def arange (P : Program) (t : TypeId) (x : AV) : AM AV := match P.underlying t, x with
  | some .string, .str s => do
    let id ← AM.halloc (.siter s 0)
    pure (.ptr id 0 0)
  | _, _ => AM.fail
def anext (it : AV) (isS : Bool) : AM AV := match it, isS with
  | .ptr id ver 0, true => do
    let o ← AM.hget id
    AM.guard (Nat.beq o.ver ver)
    match o.body with
    | .siter s pos => match s[pos]? with
      | none => pure (.tuple [.bool false])
      | some b => do
        AM.guard (Nat.blt b.toNat 128)
        AM.hput id ver (.siter s (pos + 1))
        pure (.tuple [.bool true, .int .i64 pos, .int .i32 b.toNat])
    | _ => AM.fail
  | _, _ => AM.fail

def afieldAddr (P : Program) (s : TypeId) (x : AV) (f : Nat) : AM AV := do
  let fd ← fieldAt P s f
  let n ← szOf P fd.type
  AM.guard (!(Nat.beq n 0))
  match x with
  | .ptr id ver off => pure (.ptr id ver (off + fd.offset))
  | .iptr cells => do
    AM.guard (Nat.ble fd.offset cells.length)
    pure (.iptr (cells.drop fd.offset))
  | _ => AM.fail

def afield (P : Program) (s : TypeId) (x : AV) (f : Nat) : AM AV := do
  let fd ← fieldAt P s f
  match x with
  | .agg cells => do
    AM.guard (Nat.ble fd.offset cells.length)
    aread P fd.type (cells.drop fd.offset)
  | _ => AM.fail

def within (i : Int) (n : Nat) : Bool := decide (0 ≤ i ∧ i < n)

def aindexAddr (P : Program) (t : TypeId) (x i : AV) : AM AV :=
  match i with
  | .int _ i => match P.underlying t, x with
    | some (.slice e), .sl _ n cells => do
      let sz ← szOf P e
      AM.guard (within i n && Nat.beq (n * sz) cells.length && !(Nat.beq sz 0))
      pure (.iptr (cells.drop (i.toNat * sz)))
    | some (.slice e), .own id ver off n => do
      let sz ← szOf P e
      let (_, cells, _) ← rowOf id ver
      AM.guard (within i n && Nat.ble (off + n * sz) cells.length)
      pure (.ptr id ver (off + i.toNat * sz))
    | some (.array n e), .iptr cells => do
      let sz ← szOf P e
      AM.guard (within i n && Nat.ble (n * sz) cells.length)
      pure (.iptr (cells.drop (i.toNat * sz)))
    | some (.array n e), .ptr id ver off => do
      let sz ← szOf P e
      AM.guard (within i n)
      pure (.ptr id ver (off + i.toNat * sz))
    | _, _ => AM.fail
  | _ => AM.fail

def aindex (P : Program) (t : TypeId) (x i : AV) : AM AV :=
  match i with
  | .int _ i => match P.underlying t, x with
    | some (.array n e), .agg cells => do
      let sz ← szOf P e
      AM.guard (within i n && Nat.ble (i.toNat * sz) cells.length)
      aread P e (cells.drop (i.toNat * sz))
    | some .string, .str s => do
      AM.guard (within i s.length)
      let b ← AM.ofOption s[i.toNat]?
      pure (.int .u8 b.toNat)
    | _, _ => AM.fail
  | _ => AM.fail

/-- a bound of a slice, or what it is if there is none -/
def abound (most other : Nat) : Option AV → AM Nat
  | some (.int _ i) => do
    AM.guard (decide (0 ≤ i ∧ i ≤ most))
    pure i.toNat
  | none => pure other
  | _ => AM.fail
/-- low and high bounds, up to a length that is known -/
def abounds (n m : Nat) (lo hi : Option AV) : AM (Nat × Nat) := do
  let h ← abound m n hi
  let l ← abound h 0 lo
  pure (l, h)

/-- up to which length a slice may be taken, of so many cells that are known -/
def roomIn (n off sz len : Nat) : Nat := cond (Nat.ble 1 n || Nat.beq off 0) (max n ((len - off) / sz)) n
def aslice (P : Program) (t : TypeId) (x : AV) (lo hi mx : Option AV) : AM AV :=
  match x, mx with
  | .str s, none => do
    let (l, h) ← abounds s.length s.length lo hi
    match P.underlying t with
    | some .string => pure (.str ((s.drop l).take (h - l)))
    | _ => AM.fail
  | .sl k n cells, none => do
    let e ← elemOf P t
    let sz ← szOf P e
    AM.guard (Nat.beq (n * sz) cells.length)
    let (l, h) ← abounds n n lo hi
    pure (.sl (match k with | .nil => .nil | .full => cond (Nat.beq h n) .full .any | .tight => cond (Nat.beq h n) .tight .any | .any => .any) (h - l) ((cells.drop (l * sz)).take ((h - l) * sz)))
  | .own id ver off n, none => do
    let e ← elemOf P t
    let sz ← szOf P e
    let (esz, cells, _) ← rowOf id ver
    AM.guard (Nat.beq esz sz && Nat.ble (off + n * sz) cells.length)
    let (l, h) ← abounds n (roomIn n off sz cells.length) lo hi
    pure (.own id ver (off + l * sz) (h - l))
  | .sl k _ _, some (.int _ 0) => match lo, hi with
    | none, some (.int _ 0) => do
      let e ← elemOf P t
      let _ ← szOf P e
      pure (.sl (match k with | .nil => .nil | _ => .tight) 0 [])
    | _, _ => AM.fail
  | .own id ver _ _, some (.int _ 0) => match lo, hi with
    | none, some (.int _ 0) => do
      let e ← elemOf P t
      let _ ← szOf P e
      let _ ← rowOf id ver
      pure (.sl .tight 0 [])
    | _, _ => AM.fail
  | _, _ => AM.fail

/-- keys of maps: texts and numbers -/
def keyEq : AV → AV → Option Bool
  | .int k a, .int k' b => if k = k' then some (a == b) else none
  | .str a, .str b => some (a == b)
  | .bool a, .bool b => some (a == b)
  | _, _ => none
def afind (k : AV) : List (AV × AV) → Option (Option AV)
  | [] => some none
  | (x, v) :: r => match keyEq k x with
    | some true => some (some v)
    | some false => afind k r
    | none => none
def aupd (k v : AV) : List (AV × AV) → List (AV × AV)
  | [] => [(k, v)]
  | (x, y) :: r => match keyEq k x with
    | some true => (k, v) :: r
    | _ => (x, y) :: aupd k v r
def adel (k : AV) : List (AV × AV) → List (AV × AV)
  | [] => []
  | (x, y) :: r => match keyEq k x with
    | some true => r
    | _ => (x, y) :: adel k r
def goodKey (P : Program) (t : TypeId) (k : AV) : Bool := match P.underlying t, k with
  | some (.int j), .int k _ => decide (j = k)
  | some .string, .str _ => true
  | _, _ => false

def mapOf (id : Nat) : AM (List (AV × AV)) := do
  let o ← AM.hget id
  match o.body with
  | .map es => pure es
  | _ => AM.fail

def entriesOf : AV → AM (List (AV × AV))
  | .nilmap => pure []
  | .mapv id => mapOf id
  | _ => AM.fail
def alookup (P : Program) (t : TypeId) (x k : AV) (ok : Bool) : AM AV :=
  match P.underlying t with
  | some (.map kt et) => do
    AM.guard (goodKey P kt k)
    let es ← entriesOf x
    let r ← AM.ofOption (afind k es)
    let z ← zeroOf P et
    let v := r.getD z
    pure (cond ok (.tuple [v, .bool r.isSome]) v)
  | _ => AM.fail

def amapUpdate (P : Program) (t : TypeId) (m k v : AV) : AM Unit :=
  match P.underlying t, m with
  | some (.map kt _), .mapv id => do
    AM.guard (goodKey P kt k)
    let o ← AM.hget id
    match o.body with
    | .map es => do
      let _ ← AM.ofOption (afind k es)
      AM.hput id o.ver (.map (aupd k v es))
    | _ => AM.fail
  | _, _ => AM.fail

/-! ### builtins -/
def alen (P : Program) (t : TypeId) (x : AV) : AM AV :=
  match P.underlying t with
  | some (.array n _) => pure (.int .i64 n)
  | some (.pointer a) => match P.underlying a with
    | some (.array n _) => pure (.int .i64 n)
    | _ => AM.fail
  | some .string => match x with
    | .str s => pure (.int .i64 s.length)
    | _ => AM.fail
  | some (.slice _) => match x with
    | .sl _ n _ => pure (.int .i64 n)
    | .own id ver _ n => do
      let _ ← rowOf id ver
      pure (.int .i64 n)
    | _ => AM.fail
  | some (.map _ _) => match x with
    | .nilmap => pure (.int .i64 0)
    | .mapv id => do
      let es ← mapOf id
      pure (.int .i64 es.length)
    | _ => AM.fail
  | _ => AM.fail

/-- the cells of what is appended, copied: a slice's, a text's -/
def sourceCells (P : Program) (e : TypeId) (sz : Nat) : AV → AM (Nat × List AV)
  | .str l => do
    AM.guard (match P.underlying e with | some (.int .u8) => Nat.beq sz 1 | _ => false)
    pure (l.length, bytesAV l)
  | x => sliceCells sz x

def room : Nat := 140737488355328

/-- a type that stays only if it is this one -/
def keepTy (e : Nat) : Option Nat → Option Nat
  | some u => cond (Nat.beq u e) (some e) none
  | none => none
def aappend (e sz bytes : Nat) (s : AV) (m : Nat) (new : List AV) : AM AV :=
  match s with
  | .sl k n cells => match m with
    | 0 => pure s
    | _ => do
      AM.guard (Nat.beq (n * sz) cells.length && Nat.ble ((n + m) * bytes) room && Nat.ble (n + m) maxInt && (match k with | .any => false | _ => true) && Nat.beq new.length (m * sz))
      let id ← AM.hallocT (.row sz (cells ++ new) false) (some e)
      pure (.own id 0 0 (n + m))
  | .own id ver off n => do
    let (esz, cells, fix) ← rowOf id ver
    AM.guard (Nat.beq esz sz)
    match m with
    | 0 => pure s
    | _ => do
      AM.guard (Nat.beq off 0 && Nat.ble (n * sz) cells.length && Nat.ble ((n + m) * bytes) room && Nat.ble (n + m) maxInt && Nat.beq new.length (m * sz) && ones new)
      match Nat.ble ((n + m) * sz) cells.length with
      | true => do
        AM.hput id ver (.row esz (splice cells (n * sz) new) fix)
        pure (.own id ver 0 (n + m))
      | false => do
        AM.hputF id (ver + 1) (.row esz (cells.take (n * sz) ++ new) false) (keepTy e)
        pure (.own id (ver + 1) 0 (n + m))
  | _ => AM.fail

def aappendOp (P : Program) (types : List TypeId) (args : List AV) : AM AV :=
  match types, args with
  | t :: u :: _, s :: x :: _ => do
    let e ← elemOf P t
    let sz ← szOf P e
    let bytes ← bytesOf P e
    AM.guard (!(Nat.beq sz 0) && !(Nat.beq bytes 0))
    AM.guard (match P.underlying u with | some (.int _) => false | some _ => true | none => false)
    let z ← zeroOf P e
    AM.guard (Nat.beq (acells z).length sz)
    let (m, new) ← sourceCells P e sz x
    aappend e sz bytes s m new
  | _, _ => AM.fail

def aclear (P : Program) (types : List TypeId) (args : List AV) : AM AV :=
  match types, args with
  | t :: _, d :: _ => match P.underlying t, d with
    | some (.slice e), .own id ver off n => do
      let sz ← szOf P e
      let z ← zeroOf P e
      let (esz, cells, fix) ← rowOf id ver
      match n with
      | 0 => pure (.tuple [])
      | _ => do
        AM.guard (Nat.beq esz sz && Nat.ble (off + n * sz) cells.length && Nat.beq (acells z).length sz && ones (acells z))
        AM.hput id ver (.row esz (splice cells off (repeatCells (acells z) n)) fix)
        pure (.tuple [])
    | some (.slice _), .sl _ n _ => match n with
      | 0 => pure (.tuple [])
      | _ => AM.fail
    | _, _ => AM.fail
  | _, _ => AM.fail

def amax2 (mx : Bool) : AV → AV → AM AV
  | .int k x, .int k' y => do
    AM.guard (decide (k = k'))
    pure (.int k (cond mx (if y > x then y else x) (if y < x then y else x)))
  | _, _ => AM.fail
def afold (mx : Bool) : AV → List AV → AM AV
  | x, [] => pure x
  | x, y :: r => do
    let z ← amax2 mx x y
    afold mx z r

/-- a byte, exactly -/
def byteOk : AV → Bool
  | .int .u8 n => decide (0 ≤ n ∧ n < 256)
  | _ => false
def ausdata : AV → AM AV
  | .sl .nil _ _ => pure .nilptr
  | .own id ver off n => do
    let (_, _, _) ← rowOf id ver
    AM.guard (Nat.ble 1 n)
    pure (.ptr id ver off)
  | _ => AM.fail
/-- a text over the head of a row of bytes: the row is frozen, and nobody looks at it any more -/
def austring (P : Program) (pt : TypeId) : AV → AV → AM AV
  | .nilptr, .int .i64 n => do
    AM.guard (decide (n = 0))
    pure (.str [])
  | .ptr id ver off, .int .i64 n => do
    let o ← AM.hget id
    AM.guard (Nat.beq o.ver ver && Nat.beq off 0 && decide (0 < n))
    match o.body, o.ty, P.underlying pt with
    | .row _ cells _, some t, some (.pointer e) => do
      AM.guard (Nat.beq t e && Nat.ble n.toNat cells.length && Nat.beq (P.cellsOf e) 1 && (cells.take n.toNat).all byteOk && Nat.ble n.toNat maxInt)
      let l ← AM.ofOption (avBytes (cells.take n.toNat))
      AM.hputF id (ver + 1) .dead (fun _ => none)
      pure (.str l)
    | _, _, _ => AM.fail
  | _, _ => AM.fail
def abuiltin (P : Program) (b : Builtin) (types : List TypeId) (args : List AV) : AM AV :=
  match b, types, args with
  | .len, t :: _, x :: _ => alen P t x
  | .append, ts, xs => aappendOp P ts xs
  | .clear, ts, xs => aclear P ts xs
  | .unsafeSliceData, _, [x] => ausdata x
  | .unsafeString, [pt, _], [x, y] => austring P pt x y
  | .max, _, x :: r => afold true x r
  | .min, _, x :: r => afold false x r
  | .cap, t :: _, x :: _ => match P.underlying t, x with
    | some (.slice _), .sl .nil _ _ => pure (.int .i64 0)
    | some (.slice _), .sl .full n _ => pure (.int .i64 n)
    | some (.slice _), .sl .tight n _ => pure (.int .i64 n)
    | some (.slice _), .own id ver off n => do
      let (esz, cells, fix) ← rowOf id ver
      AM.guard (fix && Nat.ble (off + n * esz) cells.length && !(Nat.beq esz 0) && (Nat.ble 1 n || Nat.beq off 0))
      pure (.int .i64 ((cells.length - off) / esz : Nat))
    | _, _ => AM.fail
  | _, _, _ => AM.fail

/-! ### one operation -/
structure Pol where
  /-- literals that are written later: the function, the slot -/
  lit : FuncId → Nat → Bool

abbrev Calling := AV → List AV → AM AV
/-- the function of a method of a type whose receiver goes as it is -/
def methodOf (P : Program) (t : TypeId) (n : String) : Option FuncId := match P.info? t, P.underlying t with
  | some i, some d => match i.methods.toList.find? (·.name == n) with
    | some m => match m.path.toList, m.func with
      | [], some (f, p) => cond (match d with | .pointer _ => p | _ => !p) (some f) none
      | _, _ => none
    | none => none
  | _, _ => none

def aop (P : Program) (pol : Pol) (call : Calling) (fn : FuncId) (o : Oper) (ρ : Operand → AV) : AM AV :=
  match o.op with
  | .move x | .assign x => pure (ρ x)
  | .pick c a b => match ρ c with
    | .bool true => pure (ρ a)
    | .bool false => pure (ρ b)
    | _ => AM.fail
  | .alloc t => do
    let z ← zeroOf P t
    let id ← AM.hallocT (.row (acells z).length (acells z) true) (some t)
    pure (.ptr id 0 0)
  | .box t x => do
    AM.guard (known (ρ x))
    let id ← AM.hallocT (.row (acells (ρ x)).length (acells (ρ x)) true) (some t)
    pure (.ptr id 0 0)
  | .build t parts => abuild P t (parts.toList.map fun (i, x) => (i, ρ x))
  | .buildSlice t len parts => do
    let (n, cells) ← abuildSlice P t len (parts.toList.map fun (i, x) => (i, ρ x))
    match pol.lit fn (o.dst.getD 0) with
    | true => do
      let id ← AM.halloc (.row n cells true)
      pure (.own id 0 0 len)
    | false => pure (.sl .full len cells)
  | .load t a => aload P t (ρ a)
  | .store t a x => do
    astore P t (ρ a) (ρ x)
    pure (.tuple [])
  | .nilCheck x => match ρ x with
    | .ptr id ver off => pure (.ptr id ver off)
    | .iptr cells => pure (.iptr cells)
    | _ => AM.fail
  | .binOp op t x y _ => abin P op t (ρ x) (ρ y)
  | .unOp op _ x => aun op (ρ x)
  | .convert s d x => aconvert P s d (ρ x)
  | .makeInterface t x => match P.underlying t with
    | some (.interface _) => AM.fail
    | some _ => pure (.iface t (ρ x))
    | none => AM.fail
  | .makeFunc (.func f) first captured => pure (.func (.func f) (first.toList.map ρ) (captured.toList.map ρ))
  | .makeMap _ none => do
    let id ← AM.halloc (.map [])
    pure (.mapv id)
  | .makeSlice t l c => match ρ l, ρ c with
    | .int .i64 l, .int .i64 c => do
      let e ← elemOf P t
      let sz ← szOf P e
      let bytes ← bytesOf P e
      let z ← zeroOf P e
      AM.guard (decide (0 ≤ l ∧ l ≤ c) && Nat.ble (c.toNat * bytes) room && Nat.ble c.toNat maxInt && Nat.beq (acells z).length sz && !(Nat.beq sz 0))
      let id ← AM.halloc (.row sz (repeatCells (acells z) c.toNat) true)
      pure (.own id 0 0 l.toNat)
    | _, _ => AM.fail
  | .slice t x lo hi mx => aslice P t (ρ x) (lo.map ρ) (hi.map ρ) (mx.map ρ)
  | .fieldAddr s x f => afieldAddr P s (ρ x) f
  | .field s x f => afield P s (ρ x) f
  | .indexAddr t x i => aindexAddr P t (ρ x) (ρ i)
  | .index t x i => aindex P t (ρ x) (ρ i)
  | .lookup t x i ok => alookup P t (ρ x) (ρ i) ok
  | .mapUpdate t m k x | .insert t m k x => do
    amapUpdate P t (ρ m) (ρ k) (ρ x)
    pure (.tuple [])
  | .range t x => arange P t (ρ x)
  | .next it isS => anext (ρ it) isS
  | .extract t i => match ρ t with
    | .tuple vs => AM.ofOption vs[i]?
    | _ => AM.fail
  | .call c => match c.callee with
    | .value f => call (ρ f) (c.args.toList.map ρ)
    | .builtin b => abuiltin P b c.argTypes.toList (c.args.toList.map ρ)
    | .invoke r n => match ρ r with
      | .iface t v => match methodOf P t n with
        | some f => call (.func (.func f) [] []) (v :: c.args.toList.map ρ)
        | none => AM.fail
      | _ => AM.fail
  | _ => AM.fail
end Go.Am
namespace Go.Am
open Go

/-! ### the order of a region's operations -/
/-- 0: reads at most; 1: makes an object at most; 2: whatever it likes -/
def opClass (o : Op) : Nat := match o with
  | .alloc _ | .box _ _ | .makeMap _ _ | .makeSlice _ _ _ | .buildSlice _ _ _ | .range _ _ => 1
  | .next _ _ | .store _ _ _ | .mapUpdate _ _ _ _ | .insert _ _ _ _ => 2
  | .call c => match c.callee with
    | .builtin .len | .builtin .cap | .builtin .max | .builtin .min => 0
    | _ => 2
  | _ => 0

/-- which operations come ahead of an operation in whatever order: a number's digits -/
def edgeMask (acc : List Nat) (e : Edge) : Nat := cond (Region.binds .any e) (Nat.lor (2 ^ e.on) (acc.getD e.on 0)) 0
def maskOf (acc : List Nat) (o : Oper) : Nat := o.after.toList.foldl (fun s e => Nat.lor s (edgeMask acc e)) 0
def masks (ops : List Oper) : List Nat := ops.foldl (fun acc o => acc ++ [maskOf acc o]) []
def ahead (ms : List Nat) (i j : Nat) : Bool := Nat.testBit (ms.getD j 0) i

/-- the place of the first operation of a class that is left and may be taken -/
def pick1 (ops : List Oper) (ms : List Nat) (done : Nat) (c : Nat) (left : List Nat) : Option Nat :=
  left.find? fun i => (match ops[i]? with | some o => Nat.beq (opClass o.op) c | none => false) && Nat.beq (Nat.land (ms.getD i 0) done) (ms.getD i 0)
def canonFrom (ops : List Oper) (ms : List Nat) : Nat → Nat → List Nat → List Nat
  | 0, _, _ => []
  | n + 1, done, left =>
    match pick1 ops ms done 0 left <|> pick1 ops ms done 2 left <|> pick1 ops ms done 1 left with
    | some i => i :: canonFrom ops ms n (Nat.lor done (2 ^ i)) (left.filter fun j => !(Nat.beq j i))
    | none => []
def canon (ops : List Oper) (ms : List Nat) : List Nat := canonFrom ops ms ops.length 0 (List.range ops.length)

def clsAt (ops : List Oper) (i : Nat) : Nat := match ops[i]? with
  | some o => opClass o.op
  | none => 2
/-- may two operations that are not ordered stand so, the first ahead of the second? -/
def mayStand (ops : List Oper) (ms : List Nat) (i j : Nat) : Bool :=
  ahead ms i j || (match clsAt ops i, clsAt ops j with
    | 0, _ => true
    | _, 1 => true
    | _, _ => false)
/-- what an operation looks at -/
def looksAt (ops : List Oper) (o : Oper) : List Tmp :=
  (o.op.operands.toList.filterMap fun | .tmp t => some t | _ => none) ++
  (match o.guard with
   | some (g, _) => ((ops[g]?).bind (·.dst)).toList
   | none => [])
def inList (t : Tmp) : List Tmp → Bool
  | [] => false
  | u :: r => Nat.beq u t || inList t r
def dstIn (o : Oper) (l : List Tmp) : Bool := match o.dst with
  | some d => inList d l
  | none => false
/-- the second is taken after the first: what the first looked at stays, what it gave stays, and who looks at it is ordered -/
def tidy (ops : List Oper) (ms : List Nat) (i j : Nat) : Bool := match ops[i]?, ops[j]? with
  | some a, some b => (!(dstIn b (looksAt ops a)) || ahead ms i j) && !(dstIn b a.dst.toList) && (!(dstIn a (looksAt ops b)) || ahead ms i j)
  | _, _ => false
def standsFrom (ops : List Oper) (ms : List Nat) : List Nat → Bool
  | [] => true
  | i :: r => r.all (fun j => mayStand ops ms i j && !(ahead ms j i) && tidy ops ms i j && !(Nat.beq i j)) && standsFrom ops ms r
/-- what must come first comes first -/
def closedFrom (ops : List Oper) : List Nat → List Nat → Bool
  | _, [] => true
  | done, i :: r => (match ops[i]? with
    | some o => o.after.toList.all fun e => !(Region.binds .any e) || inList e.on done
    | none => false) && closedFrom ops (i :: done) r
/-- the order that is taken, if it may be -/
def orderOf (ops : List Oper) : Option (List Nat) :=
  let ms := masks ops
  let l := canon ops ms
  cond ((List.range ops.length).all (fun i => inList i l) && standsFrom ops ms l && closedFrom ops [] l) (some l) none

/-! ### regions -/
def avIds : AV → List Nat
  | .ptr id _ _ | .own id _ _ _ | .mapv id => [id]
  | _ => []
/-- does an operation look at no object, at how long it is alone (false), at what it holds (true)? -/
def looksIn : Op → Option Bool
  | .load _ _ | .lookup _ _ _ _ | .convert _ _ _ => some true
  | .indexAddr _ _ _ | .slice _ _ _ _ _ | .binOp _ _ _ _ _ => some false
  | .call c => match c.callee with
    | .builtin .len => some false
    | .builtin .cap => some true
    | _ => none
  | _ => none
def operIds (ρ : Operand → AV) (o : Oper) : List (Bool × Nat) := match looksIn o.op with
  | some c => o.op.operands.toList.flatMap fun x => (avIds (ρ x)).map fun id => (c, id)
  | none => []
/-- what must stay of an object that an operation has looked at -/
def signOf (c : Bool) (o : AObj) : List Nat := match c, o.body with
  | false, .row esz cells _ => [o.ver, esz, cells.length]
  | _, _ => [o.stamp]

/-- is an operation carried out? -/
def awanted (ops : List Oper) (T : Temps) (o : Oper) : AM Bool := match o.guard with
  | none => pure true
  | some (j, want) => match (ops[j]?).bind (·.dst) with
    | none => pure false
    | some t => match tget T t with
      | .bool b => pure (b == want)
      | .undef => AM.fail
      | _ => pure false

def astamps : List (Bool × Nat) → AM (List (List Nat))
  | [] => pure []
  | (c, id) :: r => do
    let o ← AM.hget id
    let l ← astamps r
    pure (signOf c o :: l)

section
variable (P : Program) (pol : Pol) (call : Calling) (fn : FuncId) (nt : Nat)

def aops (ops : List Oper) : List Nat → Temps → AM Temps
  | [], T => pure T
  | i :: rest, T => match ops[i]? with
    | none => AM.fail
    | some o => do
      let b ← awanted ops T o
      match b with
      | true => do
        let v ← aop P pol call fn o (aeval T)
        aops ops rest (tput? nt T o.dst v)
      | false => aops ops rest (tput? nt T o.dst (.tuple []))

/-- with its order open: what was read ahead of a change that is not ordered stays as it was -/
def aopsD (ops : List Oper) (ms : List Nat) : List Nat → List (Nat × List (Bool × Nat)) → Temps → AM Temps
  | [], _, T => pure T
  | i :: rest, seen, T => match ops[i]? with
    | none => AM.fail
    | some o => do
      let b ← awanted ops T o
      match b with
      | false => aopsD ops ms rest seen (tput? nt T o.dst (.tuple []))
      | true => match opClass o.op with
        | 0 => do
          let v ← aop P pol call fn o (aeval T)
          aopsD ops ms rest ((i, operIds (aeval T) o) :: seen) (tput? nt T o.dst v)
        | 1 => do
          let v ← aop P pol call fn o (aeval T)
          aopsD ops ms rest seen (tput? nt T o.dst v)
        | _ => do
          let ids := (seen.filter fun s => !(ahead ms s.1 i)).flatMap (·.2)
          let before ← astamps ids
          let v ← aop P pol call fn o (aeval T)
          let after ← astamps ids
          AM.guard (before == after)
          aopsD ops ms rest seen (tput? nt T o.dst v)

def aregion (ops : List Oper) (draw : Bool) (T : Temps) : AM Temps := match draw with
  | false => aops P pol call fn nt ops (List.range ops.length) T
  | true => match orderOf ops with
    | some l => aopsD P pol call fn nt ops (masks ops) l [] T
    | none => AM.fail

/-! ### code -/
def aloop (body : Temps → AM (Exit × Temps)) : Nat → Temps → AM (Exit × Temps)
  | 0, _ => AM.fail
  | n + 1, T => do
    let (e, T) ← body T
    match e with
    | .normal => aloop body n T
    | e => pure (e, T)

def isYield : AV → Bool
  | .func (.yield _) _ _ => true
  | _ => false

def jumpExit : Code → Option Exit
  | .ret => some .ret
  | .exit id => some (.exit id)
  | _ => none

def isBusy : LoopState → Bool
  | .busy => true
  | _ => false
def isReady : LoopState → Bool
  | .ready => true
  | _ => false
def afterLoop (p : Option Code) (T : Temps) : AM (Exit × Temps) := match p with
  | none => pure (.normal, T)
  | some c => do
    let e ← AM.ofOption (jumpExit c)
    pure (e, T)

def loopOf (id : Nat) : AM (FuncId × Nat × Temps × List Tmp × Code × Code × LoopState × Option Code) := do
  let o ← AM.hget id
  match o.body with
  | .loop f nt T ps a b st p => pure (f, nt, T, ps, a, b, st, p)
  | _ => AM.fail

def acode (fuel : Nat) : Code → Temps → AM (Exit × Temps)
  | .skip, T => pure (.normal, T)
  | .label _, T => pure (.normal, T)
  | .region _ ops draw, T => do
    let T ← aregion P pol call fn nt ops.toList draw T
    pure (.normal, T)
  | .seq a b, T => do
    let (e, T) ← acode fuel a T
    match e with
    | .normal => acode fuel b T
    | e => pure (e, T)
  | .cond c a b, T => match aeval T c with
    | .bool true => acode fuel a T
    | .bool false => acode fuel b T
    | _ => AM.fail
  | .block id b, T => do
    let (e, T) ← acode fuel b T
    match e with
    | .exit id' => match Nat.beq id' id with
      | true => pure (.normal, T)
      | false => pure (.exit id', T)
    | e => pure (e, T)
  | .loop b, T => aloop (acode fuel b) fuel T
  | .scope _, _ => AM.fail
  | .exit id, T => pure (.exit id, T)
  | .ret, T => pure (.ret, T)
  | .rangeFunc f params assign body, T => do
    AM.guard (!(isYield (aeval T f)))
    let id ← AM.halloc (.loop fn nt T params.toList assign body .ready none)
    let _ ← call (aeval T f) [.func (.yield id) [] []]
    let (f', nt', T', ps, a, b, st, p) ← loopOf id
    let o ← AM.hget id
    AM.guard (!(isBusy st))
    AM.hput id o.ver (.loop f' nt' T' ps a b .exhausted p)
    afterLoop p T
  | .goto _, _ => AM.fail
  | .refuse _, _ => AM.fail

end

/-! ### calls -/
def tempsFrom : Nat → List AV → Temps → Temps
  | _, [], T => T
  | i, v :: r, T => tempsFrom (i + 1) r (T.set i (some v))
def tempsOf (nt : Nat) (args : List AV) : Temps := tempsFrom 0 (args.take (max nt args.length)) .leaf

def aresult (P : Program) (T : Temps) : ResultVar → AM AV
  | .tmp t => pure (tget T t)
  | .cell a ty => aload P ty (tget T a)
def aresultList (P : Program) (T : Temps) : List ResultVar → AM (List AV)
  | [] => pure []
  | r :: rs => do
    let v ← aresult P T r
    let vs ← aresultList P T rs
    pure (v :: vs)
def aresults (P : Program) (f : Func) (T : Temps) : AM AV := do
  let vs ← aresultList P T f.results.toList
  match vs with
  | [v] => pure v
  | vs => pure (.tuple vs)

def aparams (nt : Nat) : List Tmp → List AV → Temps → Temps
  | t :: ts, v :: vs, T => aparams nt ts vs (tput nt T t v)
  | _, _, T => T

abbrev Sums := FuncId → Option (List AV → AM AV)

section
variable (P : Program) (pol : Pol) (sums : Sums)

def afunc (call : Calling) (n : Nat) (f : FuncId) (args : List AV) : AM AV :=
  match sums f with
  | some s => s args
  | none => match P.funcs[f]? with
    | none => AM.fail
    | some fn => match fn.body with
      | none => AM.fail
      | some c => do
        AM.guard (Nat.ble args.length fn.ntmps)
        let (e, T) ← acode P pol call f fn.ntmps n c (tempsOf fn.ntmps args)
        match e with
        | .normal | .ret => aresults P fn T
        | _ => AM.fail

/-- what a round's end leaves of its record -/
def roundEnd : Exit → Option (LoopState × Option Code)
  | .normal => some (.ready, none)
  | .ret => some (.done, some .ret)
  | .exit id => some (.done, some (.exit id))
  | _ => none

def around (call : Calling) (n : Nat) (l : Nat) (args : List AV) : AM AV := do
  let (f, nt, T, ps, a, b, _, _) ← loopOf l
  AM.guard (Nat.beq ps.length args.length)
  let (e, T1) ← acode P pol call f nt n a (aparams nt ps args T)
  match e with
  | .normal => do
    let (f', nt', T', ps', a', b', st, p) ← loopOf l
    let o ← AM.hget l
    AM.guard (isReady st)
    AM.hput l o.ver (.loop f' nt' T' ps' a' b' .busy p)
    let (e2, _) ← acode P pol call f nt n b T1
    let (f', nt', T', ps', a', b', _, _) ← loopOf l
    let o ← AM.hget l
    let (st, p) ← AM.ofOption (roundEnd e2)
    AM.hput l o.ver (.loop f' nt' T' ps' a' b' st p)
    pure (.bool p.isNone)
  | _ => AM.fail

def acall : Nat → Calling
  | 0, _, _ => AM.fail
  | n + 1, v, args => match v with
    | .func (.func f) first captured => afunc P pol sums (acall n) n f (first ++ args ++ captured)
    | .func (.yield l) first _ => around P pol (acall n) n l (first ++ args)
    | _ => AM.fail
end
end Go.Am
namespace Go.Am
open Go

/-- a block of the world that an object that may be written stands for -/
def Held (h : Hp) (μ : Nat → Nat) (c : Nat) : Prop := ∃ id o, h.get id = some o ∧ μ id = c

def Body.isRow : Body → Bool
  | .row .. => true
  | .dead => true
  | _ => false

inductive VR (h : Hp) (μ : Nat → Nat) (w : World) : AV → Value → Prop
  | undef (v : Value) : VR h μ w .undef v
  | bool (b : Bool) : VR h μ w (.bool b) (.bool b)
  | int (k : IntKind) (n : Int) : VR h μ w (.int k n) (.int k n)
  | str (s : ByteArray) (l : List UInt8) (e : s.data.toList = l) : VR h μ w (.str l) (.string s)
  | nilptr : VR h μ w .nilptr (.pointer none)
  | ptr (id ver off : Nat) (o : AObj) (ho : h.get id = some o) (hv : o.ver = ver) : VR h μ w (.ptr id ver off) (.pointer (some ⟨μ id, off, none⟩))
  | ptrOld (id ver off : Nat) (a : Addr) (o : AObj) (ho : h.get id = some o) (hv : ver < o.ver) : VR h μ w (.ptr id ver off) (.pointer (some a))
  | iptr (cells : List AV) (ad : Addr) (vals : List Value) (hh : ¬ Held h μ ad.block) (hb : ad.block < w.heap.size) (hl : cells.length = vals.length)
      (hc : ∀ i (hi : i < vals.length), w.cell? (ad.add i) = some vals[i])
      (hr : ∀ i (h1 : i < cells.length) (h2 : i < vals.length), VR h μ w cells[i] vals[i]) : VR h μ w (.iptr cells) (.pointer (some ad))
  | sl (k : SK) (n : Nat) (cells : List AV) (A : Option Addr) (cap : Nat) (vals : List Value) (hn : n ≤ cap)
      (hnil : k = .nil → A = none ∧ cap = 0) (hfull : k = .full → A.isSome = true ∧ cap = n) (htight : k = .tight → cap = n) (hpos : 0 < n → A.isSome = true)
      (hh : ∀ ad, A = some ad → cells ≠ [] → ¬ Held h μ ad.block ∧ ad.block < w.heap.size) (hl : cells.length = vals.length)
      (hs : cells ≠ [] → A.isSome = true)
      (hc : ∀ ad, A = some ad → ∀ i (hi : i < vals.length), w.cell? (ad.add i) = some vals[i])
      (hr : ∀ i (h1 : i < cells.length) (h2 : i < vals.length), VR h μ w cells[i] vals[i]) : VR h μ w (.sl k n cells) (.slice A n cap)
  | bag (cells cells' : List AV) (x : Value) (p : cells'.Perm cells) (r : VR h μ w (.sl .any cells'.length cells') x) : VR h μ w (.bag cells) x
  | own (id ver off n : Nat) (o : AObj) (ho : h.get id = some o) (hv : o.ver = ver) (esz : Nat) (hbody : ∀ e c f, o.body = .row e c f → e = esz)
      (ad : Addr) (cap : Nat) (hn : n ≤ cap)
      (hex : (0 < n ∨ off = 0) → ad = ⟨μ id, off, none⟩ ∧ ∃ cs e, w.heap[μ id]? = some (.cells cs e (0, 0)) ∧ off + cap * esz = cs.size) :
      VR h μ w (.own id ver off n) (.slice (some ad) n cap)
  | ownOld (id ver off n : Nat) (a : Option Addr) (m cap : Nat) (o : AObj) (ho : h.get id = some o) (hv : ver < o.ver) : VR h μ w (.own id ver off n) (.slice a m cap)
  | nilmap : VR h μ w .nilmap (.map none)
  | mapv (id : Nat) (o : AObj) (ho : h.get id = some o) (es : List (AV × AV)) (hbody : o.body = .map es) : VR h μ w (.mapv id) (.map (some (μ id)))
  | nilfunc : VR h μ w .nilfunc .nilFunc
  | func (f : FuncId) (first captured : List AV) (vf vc : List Value) (hl1 : first.length = vf.length) (hl2 : captured.length = vc.length)
      (hr1 : ∀ i (h1 : i < first.length) (h2 : i < vf.length), VR h μ w first[i] vf[i])
      (hr2 : ∀ i (h1 : i < captured.length) (h2 : i < vc.length), VR h μ w captured[i] vc[i]) : VR h μ w (.func (.func f) first captured) (.func (.func f) vf.toArray vc.toArray)
  | yield (l : Nat) (o : AObj) (ho : h.get l = some o) (hbody : o.body.isRow = false) : VR h μ w (.func (.yield l) [] []) (.func (.yield (μ l)) #[] #[])
  | niliface : VR h μ w .niliface .nilIface
  | iface (t : TypeId) (v : AV) (v' : Value) (hr : VR h μ w v v') : VR h μ w (.iface t v) (.iface t v')
  | agg (cells : List AV) (vals : List Value) (hl : cells.length = vals.length)
      (hr : ∀ i (h1 : i < cells.length) (h2 : i < vals.length), VR h μ w cells[i] vals[i]) : VR h μ w (.agg cells) (.agg vals.toArray)
  | tuple (cells : List AV) (vals : List Value) (hl : cells.length = vals.length)
      (hr : ∀ i (h1 : i < cells.length) (h2 : i < vals.length), VR h μ w cells[i] vals[i]) : VR h μ w (.tuple cells) (.tuple vals.toArray)

def VRs (h : Hp) (μ : Nat → Nat) (w : World) (l : List AV) (vs : List Value) : Prop :=
  l.length = vs.length ∧ ∀ i (h1 : i < l.length) (h2 : i < vs.length), VR h μ w l[i] vs[i]

def TR (h : Hp) (μ : Nat → Nat) (w : World) (nt : Nat) (T : Temps) (tmps : Array Value) : Prop :=
  tmps.size = nt ∧ ∀ t, VR h μ w (tget T t) (tmps.getD t undef)

/-- the entries of a map were laid in one behind the other -/
def Born (ms : Array MapEntry) (clock : Nat) : Prop := (ms.toList.map (·.born)).Nodup ∧ ∀ x ∈ ms.toList, x.born < clock
theorem Born.none : Born #[] 0 := ⟨by simp, by simp⟩
/-- an object of the world is as an abstract one says -/
def OR (h : Hp) (μ : Nat → Nat) (w : World) (b : Body) (o : Obj) : Prop := match b with
  | .row _ cells fix => ∃ cs e, o = .cells cs e (0, 0) ∧ cells.length ≤ cs.size ∧ (fix = true → cs.size = cells.length) ∧ VRs h μ w cells (cs.toList.take cells.length)
  | .map es => ∃ ms clock, o = .map ms clock ∧ VRs h μ w (es.map (·.1)) (ms.toList.map (·.key)) ∧ VRs h μ w (es.map (·.2)) (ms.toList.map (·.val)) ∧ Born ms clock
  | .loop _ nt T ps a b st p => ∃ L : Loop, o = .loop L ∧ TR h μ w nt T L.tmps ∧ L.params.toList = ps ∧ L.assign = a ∧ L.body = b ∧ L.state = st ∧ L.pending = p
  | .siter s pos => ∃ b : ByteArray, o = .stringIter b pos ∧ b.data.toList = s
  | .dead => True

/-- the tables stand as they stood, and nothing abstract stands for them -/
def Gl (h : Hp) (μ : Nat → Nat) (w : World) : Prop := ∀ g l, gtab g = some l → ¬ Held h μ g ∧ g < w.heap.size ∧ ∀ i (hi : i < l.length), w.cell? ((⟨g, 0, none⟩ : Addr).add i) = some (.int l[i].1 l[i].2)
structure SR (h : Hp) (μ : Nat → Nat) (w : World) : Prop where
  blk : ∀ id o, h.get id = some o → ∃ obj, w.heap[μ id]? = some obj ∧ OR h μ w o.body obj
  inj : ∀ i j o o', h.get i = some o → h.get j = some o' → μ i = μ j → i = j
  gl : Gl h μ w
  tys : ∀ id o t, h.get id = some o → o.ty = some t → o.body ≠ .dead → ∃ cs fr, w.heap[μ id]? = some (.cells cs t fr)

/-- bodies of one kind: rows of one size of elements -/
def Body.like : Body → Body → Prop
  | .row e _ _, .row e' _ _ => e = e'
  | .map _, .map _ => True
  | .loop .., .loop .. => True
  | .siter .., .siter .. => True
  | .row .., .dead => True
  | .dead, .dead => True
  | _, _ => False

structure Stp (h : Hp) (μ : Nat → Nat) (w : World) (h' : Hp) (μ' : Nat → Nat) (w' : World) : Prop where
  size : w.heap.size ≤ w'.heap.size
  live : ∀ id o, h.get id = some o → ∃ o', h'.get id = some o' ∧ o.ver ≤ o'.ver ∧ o.body.like o'.body ∧ (o.ver = o'.ver ∨ o.body.isRow = false → μ' id = μ id ∧
    ∀ cs e, w.heap[μ id]? = some (.cells cs e (0, 0)) → ∃ cs' : Array Value, w'.heap[μ id]? = some (.cells cs' e (0, 0)) ∧ cs'.size = cs.size)
  old : ∀ c, c < w.heap.size → ¬ Held h μ c → w'.heap[c]? = w.heap[c]?
  held : ∀ c, c < w.heap.size → Held h' μ' c → Held h μ c
  os : w'.os = w.os
  tape : w'.tape = w.tape
  output : w'.output = w.output

theorem Body.like_isRow {a b : Body} (h : a.like b) : a.isRow = b.isRow := by cases a <;> cases b <;> simp_all [Body.like, Body.isRow]
theorem Body.like_refl (b : Body) : b.like b := by cases b <;> simp [Body.like]
theorem Body.like_trans {a b c : Body} (h : a.like b) (k : b.like c) : a.like c := by
  cases a <;> cases b <;> simp [Body.like] at h <;> cases c <;> simp [Body.like] at k ⊢
  rw [h, k]

section
variable {h h' h2 : Hp} {μ μ' μ2 : Nat → Nat} {w w' w2 : World}

theorem Stp.refl (h : Hp) (μ : Nat → Nat) (w : World) : Stp h μ w h μ w :=
  ⟨Nat.le_refl _, fun _ o ho => ⟨o, ho, Nat.le_refl _, Body.like_refl _, fun _ => ⟨rfl, fun cs _ hc => ⟨cs, hc, rfl⟩⟩⟩, fun _ _ _ => rfl, fun _ _ hc => hc, rfl, rfl, rfl⟩

theorem cell?_of_heap {a : Addr} (e : w'.heap[a.block]? = w.heap[a.block]?) : w'.cell? a = w.cell? a := by
  unfold World.cell?; rw [e]

theorem add_block (a : Addr) (i : Nat) : (a.add i).block = a.block := by unfold Addr.add; split <;> rfl

theorem Gl.mono (s : Stp h μ w h' μ' w') (k : Gl h μ w) : Gl h' μ' w' := fun g l hg => by
  obtain ⟨h1, h2, h3⟩ := k g l hg
  refine ⟨fun q => h1 (s.held g h2 q), Nat.lt_of_lt_of_le h2 s.size, fun i hi => ?_⟩
  have := h3 i hi
  rw [cell?_of_heap (w := w)]
  · exact this
  · rw [add_block]; exact s.old g h2 h1
theorem VR.mono (s : Stp h μ w h' μ' w') {v : AV} {x : Value} (r : VR h μ w v x) : VR h' μ' w' v x := by
  have hcell : ∀ ad : Addr, ¬ Held h μ ad.block → ad.block < w.heap.size → ∀ i x, w.cell? (ad.add i) = some x → w'.cell? (ad.add i) = some x := by
    intro ad hh hb i x hx
    rw [cell?_of_heap (w := w), hx]
    rw [add_block]; exact s.old _ hb hh
  have hheld : ∀ c, ¬ Held h μ c → c < w.heap.size → ¬ Held h' μ' c ∧ c < w'.heap.size := fun c hh hb =>
    ⟨fun hc => hh (s.held c hb hc), Nat.lt_of_lt_of_le hb s.size⟩
  induction r with
  | undef v => exact .undef v
  | bool b => exact .bool b
  | int k n => exact .int k n
  | str s l e => exact .str s l e
  | nilptr => exact .nilptr
  | ptr id ver off o ho hv =>
    obtain ⟨o', ho', hle, _, heq⟩ := s.live id o ho
    by_cases e : o.ver = o'.ver
    · rw [← (heq (.inl e)).1]; exact .ptr id ver off o' ho' (by omega)
    · exact .ptrOld id ver off _ o' ho' (by omega)
  | ptrOld id ver off x o ho hv =>
    obtain ⟨o', ho', hle, _⟩ := s.live id o ho
    exact .ptrOld id ver off x o' ho' (by omega)
  | iptr cells ad vals hh hb hl hc hr ih =>
    obtain ⟨a, b⟩ := hheld _ hh hb
    exact .iptr cells ad vals a b hl (fun i hi => hcell ad hh hb i _ (hc i hi)) ih
  | sl k n cells A cap vals hn hnil hfull htight hpos hh hl hs hc hr ih =>
    refine .sl k n cells A cap vals hn hnil hfull htight hpos (fun ad e hne => ?_) hl hs (fun ad e i hi => ?_) ih
    · obtain ⟨a, b⟩ := hh ad e hne; exact hheld _ a b
    · have hne : cells ≠ [] := by rintro rfl; simp at hl; omega
      obtain ⟨a, b⟩ := hh ad e hne
      exact hcell ad a b i _ (hc ad e i hi)
  | bag cells cells' x p r ih => exact .bag cells cells' x p ih
  | own id ver off n o ho hv esz hbody ad cap hn hex =>
    obtain ⟨o', ho', hle, hlike, heq⟩ := s.live id o ho
    by_cases e : o.ver = o'.ver
    · obtain ⟨hm, hsz⟩ := heq (.inl e)
      refine .own id ver off n o' ho' (by omega) esz (fun e2 c2 f2 hb' => ?_) ad cap hn (fun hc => ?_)
      · rw [hb'] at hlike
        cases hb : o.body with
        | row e0 c0 f0 => rw [hb] at hlike; exact hlike.symm.trans (hbody _ _ _ hb)
        | _ => rw [hb] at hlike; exact hlike.elim
      · obtain ⟨had, cs, e', hcs, hs⟩ := hex hc
        obtain ⟨cs', hcs', hsz'⟩ := hsz cs e' hcs
        exact ⟨by rw [had, hm], cs', e', by rw [hm]; exact hcs', by rw [hs, hsz']⟩
    · exact .ownOld id ver off n _ _ _ o' ho' (by omega)
  | ownOld id ver off n x m cap o ho hv =>
    obtain ⟨o', ho', hle, _⟩ := s.live id o ho
    exact .ownOld id ver off n x m cap o' ho' (by omega)
  | nilmap => exact .nilmap
  | mapv id o ho es hbody =>
    obtain ⟨o', ho', hle, hlike, heq⟩ := s.live id o ho
    rw [hbody] at hlike
    rw [← (heq (.inr (by rw [hbody]; rfl))).1]
    cases hb' : o'.body with
    | map es' => exact .mapv id o' ho' es' hb'
    | row _ _ _ => rw [hb'] at hlike; exact hlike.elim
    | loop _ _ _ _ _ _ _ _ => rw [hb'] at hlike; exact hlike.elim
    | siter _ _ => rw [hb'] at hlike; exact hlike.elim
    | dead => rw [hb'] at hlike; exact hlike.elim
  | nilfunc => exact .nilfunc
  | func f first captured vf vc hl1 hl2 hr1 hr2 ih1 ih2 => exact .func f first captured vf vc hl1 hl2 ih1 ih2
  | yield l o ho hbody =>
    obtain ⟨o', ho', hle, hlike, heq⟩ := s.live l o ho
    rw [← (heq (.inr hbody)).1]
    exact .yield l o' ho' (by rw [← Body.like_isRow hlike]; exact hbody)
  | niliface => exact .niliface
  | iface t v v' hr ih => exact .iface t v v' ih
  | agg cells vals hl hr ih => exact .agg cells vals hl ih
  | tuple cells vals hl hr ih => exact .tuple cells vals hl ih

theorem VRs.mono (s : Stp h μ w h' μ' w') {l : List AV} {x : List Value} (r : VRs h μ w l x) : VRs h' μ' w' l x :=
  ⟨r.1, fun i h1 h2 => (r.2 i h1 h2).mono s⟩
theorem TR.mono (s : Stp h μ w h' μ' w') {nt : Nat} {T : Temps} {x : Array Value} (r : TR h μ w nt T x) : TR h' μ' w' nt T x :=
  ⟨r.1, fun t => (r.2 t).mono s⟩
theorem OR.mono (s : Stp h μ w h' μ' w') {b : Body} {o : Obj} (r : OR h μ w b o) : OR h' μ' w' b o := by
  cases b with
  | row esz cells fix => obtain ⟨cs, e, h1, h2, h3, h4⟩ := r; exact ⟨cs, e, h1, h2, h3, h4.mono s⟩
  | map es => obtain ⟨ms, c, h1, h2, h3, h4⟩ := r; exact ⟨ms, c, h1, h2.mono s, h3.mono s, h4⟩
  | loop f nt T ps a b st p => obtain ⟨L, h1, h3, h4⟩ := r; exact ⟨L, h1, h3.mono s, h4⟩
  | siter _ _ => exact r
  | dead => exact r

theorem Stp.trans (a : Stp h μ w h' μ' w') (b : Stp h' μ' w' h2 μ2 w2) : Stp h μ w h2 μ2 w2 where
  size := Nat.le_trans a.size b.size
  live := fun id o ho => by
    obtain ⟨o1, ho1, hle, hl, he⟩ := a.live id o ho
    obtain ⟨o2, ho2, hle1, hl1, he1⟩ := b.live id o1 ho1
    refine ⟨o2, ho2, Nat.le_trans hle hle1, Body.like_trans hl hl1, fun hc => ?_⟩
    have c1 : o.ver = o1.ver ∨ o.body.isRow = false := by
      rcases hc with hc | hc
      · left; omega
      · exact .inr hc
    have c2 : o1.ver = o2.ver ∨ o1.body.isRow = false := by
      rcases hc with hc | hc
      · left; omega
      · right; rw [← Body.like_isRow hl]; exact hc
    obtain ⟨m1, s1⟩ := he c1
    obtain ⟨m2, s2⟩ := he1 c2
    refine ⟨by rw [m2, m1], fun cs e hcs => ?_⟩
    obtain ⟨cs', hcs', hz⟩ := s1 cs e hcs
    rw [← m1] at hcs'
    obtain ⟨cs2, hcs2, hz2⟩ := s2 cs' e hcs'
    rw [m1] at hcs2
    exact ⟨cs2, hcs2, by rw [hz2, hz]⟩
  old := fun c hc hh => by
    rw [b.old c (Nat.lt_of_lt_of_le hc a.size) (fun k => hh (a.held c hc k)), a.old c hc hh]
  held := fun c hc k => a.held c hc (b.held c (Nat.lt_of_lt_of_le hc a.size) k)
  os := b.os.trans a.os
  tape := b.tape.trans a.tape
  output := b.output.trans a.output
end
end Go.Am
namespace Go.Am
open Go

theorem heap_alloc_lt (w : World) (obj : Obj) (c : Nat) (hc : c < w.heap.size) : (w.alloc obj).heap[c]? = w.heap[c]? := by
  show (w.heap.push obj)[c]? = w.heap[c]?
  rw [Array.getElem?_push, if_neg (Nat.ne_of_lt hc)]

section
variable {h h' : Hp} {μ μ' : Nat → Nat} {w w' : World}

/-- the world's count of draws does not matter -/
theorem SR.drawn (s : SR h μ w) (hh : w'.heap = w.heap) (ho : w'.os = w.os) (ht : w'.tape = w.tape) (hp : w'.output = w.output) : SR h μ w' ∧ Stp h μ w h μ w' := by
  have st : Stp h μ w h μ w' := ⟨by rw [hh]; exact Nat.le_refl _, fun _ o' ho' => ⟨o', ho', Nat.le_refl _, Body.like_refl _, fun _ => ⟨rfl, fun cs _ hc => ⟨cs, by rw [hh]; exact hc, rfl⟩⟩⟩,
    fun c _ _ => by rw [hh], fun _ _ hc => hc, ho, ht, hp⟩
  exact ⟨⟨fun id o ho => by obtain ⟨obj, h1, h2⟩ := s.blk id o ho; exact ⟨obj, by rw [hh]; exact h1, h2.mono st⟩, s.inj, s.gl.mono st, fun id o t h1 h2 h3 => by rw [hh]; exact s.tys id o t h1 h2 h3⟩, st⟩

/-- a new block that nothing abstract stands for -/
theorem SR.beside (s : SR h μ w) (obj : Obj) : SR h μ (w.alloc obj) ∧ Stp h μ w h μ (w.alloc obj) := by
  have hold : ∀ c, c < w.heap.size → (w.alloc obj).heap[c]? = w.heap[c]? := fun c hc => heap_alloc_lt w obj c hc
  have hlt : ∀ id o, h.get id = some o → μ id < w.heap.size := fun id o ho => by
    obtain ⟨x, h1, _⟩ := s.blk id o ho; exact (Array.getElem?_eq_some_iff.1 h1).1
  have st : Stp h μ w h μ (w.alloc obj) := ⟨by simp, fun id o' ho' => ⟨o', ho', Nat.le_refl _, Body.like_refl _, fun _ => ⟨rfl, fun cs _ hc => ⟨cs, by rw [hold _ (hlt id o' ho')]; exact hc, rfl⟩⟩⟩,
    fun c hc _ => hold c hc, fun _ _ hc => hc, rfl, rfl, rfl⟩
  exact ⟨⟨fun id o ho => by obtain ⟨x, h1, h2⟩ := s.blk id o ho; exact ⟨x, by rw [hold _ (hlt id o ho)]; exact h1, h2.mono st⟩, s.inj, s.gl.mono st, fun id o t h1 h2 h3 => by rw [hold _ (hlt id o h1)]; exact s.tys id o t h1 h2 h3⟩, st⟩

def upd (μ : Nat → Nat) (i c : Nat) : Nat → Nat := fun j => if j = i then c else μ j

/-- an object is made -/
theorem SR.allocT (s : SR h μ w) (hf : h.get h.next = none) (obj : Obj) (b : Body) (hor : OR h μ w b obj) (ty : Option Nat) (hty : ∀ t, ty = some t → ∃ cs fr, obj = .cells cs t fr) :
    SR ⟨h.obj.set h.next (some ⟨0, 0, b, ty⟩), h.next + 1⟩ (upd μ h.next w.heap.size) (w.alloc obj) ∧
    Stp h μ w ⟨h.obj.set h.next (some ⟨0, 0, b, ty⟩), h.next + 1⟩ (upd μ h.next w.heap.size) (w.alloc obj) := by
  have hold : ∀ c, c < w.heap.size → (w.alloc obj).heap[c]? = w.heap[c]? := fun c hc => heap_alloc_lt w obj c hc
  have hlt : ∀ id o, h.get id = some o → μ id < w.heap.size := fun id o ho => by
    obtain ⟨x, h1, _⟩ := s.blk id o ho; exact (Array.getElem?_eq_some_iff.1 h1).1
  have hget : ∀ i, (⟨h.obj.set h.next (some ⟨0, 0, b, ty⟩), h.next + 1⟩ : Hp).get i = if i = h.next then some ⟨0, 0, b, ty⟩ else h.get i := fun i => Tm.get_set _ _ _ _
  have hmu : ∀ i, i ≠ h.next → upd μ h.next w.heap.size i = μ i := fun i hi => by simp [upd, hi]
  have hmu2 : upd μ h.next w.heap.size h.next = w.heap.size := by simp [upd]
  have hne : ∀ id o, h.get id = some o → id ≠ h.next := fun id o ho e => by rw [e, hf] at ho; cases ho
  have st : Stp h μ w ⟨h.obj.set h.next (some ⟨0, 0, b, ty⟩), h.next + 1⟩ (upd μ h.next w.heap.size) (w.alloc obj) := by
    refine ⟨by simp, fun id o ho => ?_, fun c hc _ => hold c hc, fun c hc hh => ?_, rfl, rfl, rfl⟩
    · exact ⟨o, by rw [hget, if_neg (hne id o ho)]; exact ho, Nat.le_refl _, Body.like_refl _, fun _ => ⟨hmu id (hne id o ho), fun cs _ hc => ⟨cs, by rw [hold _ (hlt id o ho)]; exact hc, rfl⟩⟩⟩
    · obtain ⟨id, o, ho, hm⟩ := hh
      rw [hget] at ho
      split at ho
      · rename_i e; subst e; rw [hmu2] at hm; omega
      · rename_i e; rw [hmu id e] at hm; exact ⟨id, o, ho, hm⟩
  refine ⟨⟨fun id o ho => ?_, fun i j o o' hi hj e => ?_, s.gl.mono st, fun id o t ho ht hd => ?_⟩, st⟩
  · rw [hget] at ho
    split at ho
    · rename_i e; subst e
      cases ho
      exact ⟨obj, by rw [hmu2]; exact World.alloc_heap_new w obj, hor.mono st⟩
    · rename_i e
      obtain ⟨x, h1, h2⟩ := s.blk id o ho
      exact ⟨x, by rw [hmu id e, hold _ (hlt id o ho)]; exact h1, h2.mono st⟩
  · rw [hget] at hi hj
    by_cases ei : i = h.next <;> by_cases ej : j = h.next
    · omega
    · rw [if_neg ej] at hj
      rw [ei, hmu2, hmu j ej] at e
      have := hlt j o' hj; omega
    · rw [if_neg ei] at hi
      rw [ej, hmu2, hmu i ei] at e
      have := hlt i o hi; omega
    · rw [if_neg ei] at hi
      rw [if_neg ej] at hj
      rw [hmu i ei, hmu j ej] at e
      exact s.inj i j o o' hi hj e
  · rw [hget] at ho
    split at ho
    · rename_i e; subst e; cases ho
      obtain ⟨cs, fr, rfl⟩ := hty t ht
      exact ⟨cs, fr, by rw [hmu2]; exact World.alloc_heap_new w _⟩
    · rename_i e
      rw [hmu id e, hold _ (hlt id o ho)]; exact s.tys id o t ho ht hd
theorem SR.alloc (s : SR h μ w) (hf : h.get h.next = none) (obj : Obj) (b : Body) (hor : OR h μ w b obj) :
    SR ⟨h.obj.set h.next (some ⟨0, 0, b, none⟩), h.next + 1⟩ (upd μ h.next w.heap.size) (w.alloc obj) ∧
    Stp h μ w ⟨h.obj.set h.next (some ⟨0, 0, b, none⟩), h.next + 1⟩ (upd μ h.next w.heap.size) (w.alloc obj) := s.allocT hf obj b hor none (fun _ q => by cases q)

/-- an object is written where it lies -/
theorem SR.put (s : SR h μ w) {id ver : Nat} {o : AObj} {b : Body} {obj : Obj} (ho : h.get id = some o) (hle : o.ver ≤ ver) (hlike : o.body.like b)
    (hsz : w'.heap.size = w.heap.size) (hoth : ∀ c, c ≠ μ id → w'.heap[c]? = w.heap[c]?) (hobj : w'.heap[μ id]? = some obj)
    (hor : OR h μ w b obj) (hcells : ∀ cs e, w.heap[μ id]? = some (.cells cs e (0, 0)) → ∃ cs' : Array Value, obj = .cells cs' e (0, 0) ∧ cs'.size = cs.size)
    (hos : w'.os = w.os) (ht : w'.tape = w.tape) (hout : w'.output = w.output) :
    SR ⟨h.obj.set id (some ⟨ver, o.stamp + 1, b, o.ty⟩), h.next⟩ μ w' ∧ Stp h μ w ⟨h.obj.set id (some ⟨ver, o.stamp + 1, b, o.ty⟩), h.next⟩ μ w' := by
  have hget : ∀ i, (⟨h.obj.set id (some ⟨ver, o.stamp + 1, b, o.ty⟩), h.next⟩ : Hp).get i = if i = id then some ⟨ver, o.stamp + 1, b, o.ty⟩ else h.get i := fun i => Tm.get_set _ _ _ _
  have hne : ∀ i o', h.get i = some o' → i ≠ id → μ i ≠ μ id := fun i o' hi hn e => hn (s.inj i id o' o hi ho e)
  have st : Stp h μ w ⟨h.obj.set id (some ⟨ver, o.stamp + 1, b, o.ty⟩), h.next⟩ μ w' := by
    refine ⟨by omega, fun i o' ho' => ?_, fun c hc hh => ?_, fun c hc hh => ?_, hos, ht, hout⟩
    · by_cases e : i = id
      · subst e
        rw [ho] at ho'; cases ho'
        exact ⟨_, by rw [hget, if_pos rfl], hle, hlike, fun _ => ⟨rfl, fun cs e hc => by obtain ⟨cs', h1, h2⟩ := hcells cs e hc; exact ⟨cs', by rw [hobj, h1], h2⟩⟩⟩
      · exact ⟨o', by rw [hget, if_neg e]; exact ho', Nat.le_refl _, Body.like_refl _, fun _ => ⟨rfl, fun cs _ hc => ⟨cs, by rw [hoth _ (hne i o' ho' e)]; exact hc, rfl⟩⟩⟩
    · exact hoth c (fun e => hh ⟨id, o, ho, e.symm⟩)
    · obtain ⟨i, o', hi, hm⟩ := hh
      rw [hget] at hi
      split at hi
      · rename_i e; subst e; exact ⟨i, o, ho, hm⟩
      · exact ⟨i, o', hi, hm⟩
  refine ⟨⟨fun i o' hi => ?_, fun i j o1 o2 hi hj e => ?_, s.gl.mono st, fun i o' t hi ht hd => ?_⟩, st⟩
  · rw [hget] at hi
    split at hi
    · rename_i e; subst e; cases hi
      exact ⟨obj, hobj, hor.mono st⟩
    · rename_i e
      obtain ⟨x, h1, h2⟩ := s.blk i o' hi
      exact ⟨x, by rw [hoth _ (hne i o' hi e)]; exact h1, h2.mono st⟩
  · have f : ∀ k o', (⟨h.obj.set id (some ⟨ver, o.stamp + 1, b, o.ty⟩), h.next⟩ : Hp).get k = some o' → ∃ o2, h.get k = some o2 := fun k o' hk => by
      rw [hget] at hk
      split at hk
      · rename_i e; subst e; exact ⟨o, ho⟩
      · exact ⟨o', hk⟩
    obtain ⟨a, ha⟩ := f i o1 hi
    obtain ⟨c, hc⟩ := f j o2 hj
    exact s.inj i j a c ha hc e
  · rw [hget] at hi
    split at hi
    · rename_i e; subst e; cases hi
      have hod : o.body ≠ .dead := fun q => by
        rw [q] at hlike
        cases hb : b with
        | dead => exact hd hb
        | _ => rw [hb] at hlike; exact hlike.elim
      obtain ⟨cs, fr, hc⟩ := s.tys _ _ _ ho ht hod
      obtain ⟨x, hx1, hx2⟩ := s.blk _ _ ho
      rw [hc] at hx1; cases hx1
      cases hb : o.body with
      | row e0 c0 f0 =>
        rw [hb] at hx2
        obtain ⟨cs0, e1, q, _⟩ := hx2
        cases q
        obtain ⟨cs', hc', _⟩ := hcells _ _ hc
        exact ⟨cs', (0, 0), by rw [hobj, hc']⟩
      | dead => exact absurd hb hod
      | map _ => rw [hb] at hx2; obtain ⟨_, _, q, _⟩ := hx2; cases q
      | loop _ _ _ _ _ _ _ _ => rw [hb] at hx2; obtain ⟨_, q, _⟩ := hx2; cases q
      | siter _ _ => rw [hb] at hx2; obtain ⟨_, q, _⟩ := hx2; cases q
    · rename_i e
      rw [hoth _ (hne i o' hi e)]; exact s.tys i o' t hi ht hd

/-- an object is written anew, elsewhere -/
theorem SR.move (s : SR h μ w) {id ver : Nat} {o : AObj} {b : Body} {obj : Obj} (ho : h.get id = some o) (hlt : o.ver < ver) (hrow : o.body.isRow = true) (hlike : o.body.like b) (hor : OR h μ w b obj) (f : Option Nat → Option Nat) (hty : ∀ t, f o.ty = some t → ∃ cs fr, obj = .cells cs t fr) :
    SR ⟨h.obj.set id (some ⟨ver, o.stamp + 1, b, f o.ty⟩), h.next⟩ (upd μ id w.heap.size) (w.alloc obj) ∧ Stp h μ w ⟨h.obj.set id (some ⟨ver, o.stamp + 1, b, f o.ty⟩), h.next⟩ (upd μ id w.heap.size) (w.alloc obj) := by
  have hold : ∀ c, c < w.heap.size → (w.alloc obj).heap[c]? = w.heap[c]? := fun c hc => heap_alloc_lt w obj c hc
  have hsz : ∀ id o, h.get id = some o → μ id < w.heap.size := fun id o ho => by
    obtain ⟨x, h1, _⟩ := s.blk id o ho; exact (Array.getElem?_eq_some_iff.1 h1).1
  have hget : ∀ i, (⟨h.obj.set id (some ⟨ver, o.stamp + 1, b, f o.ty⟩), h.next⟩ : Hp).get i = if i = id then some ⟨ver, o.stamp + 1, b, f o.ty⟩ else h.get i := fun i => Tm.get_set _ _ _ _
  have hmu : ∀ i, i ≠ id → upd μ id w.heap.size i = μ i := fun i hi => by simp [upd, hi]
  have hmu2 : upd μ id w.heap.size id = w.heap.size := by simp [upd]
  have st : Stp h μ w ⟨h.obj.set id (some ⟨ver, o.stamp + 1, b, f o.ty⟩), h.next⟩ (upd μ id w.heap.size) (w.alloc obj) := by
    refine ⟨by simp, fun i o' ho' => ?_, fun c hc _ => hold c hc, fun c hc hh => ?_, rfl, rfl, rfl⟩
    · by_cases e : i = id
      · subst e
        rw [ho] at ho'; cases ho'
        refine ⟨_, by rw [hget, if_pos rfl], Nat.le_of_lt hlt, hlike, fun hc => ?_⟩
        rcases hc with hc | hc
        · simp only at hc; omega
        · rw [hrow] at hc; cases hc
      · exact ⟨o', by rw [hget, if_neg e]; exact ho', Nat.le_refl _, Body.like_refl _, fun _ => ⟨hmu i e, fun cs _ hc => ⟨cs, by rw [hold _ (hsz i o' ho')]; exact hc, rfl⟩⟩⟩
    · obtain ⟨i, o', hi, hm⟩ := hh
      rw [hget] at hi
      split at hi
      · rename_i e; subst e; rw [hmu2] at hm; omega
      · rename_i e; rw [hmu i e] at hm; exact ⟨i, o', hi, hm⟩
  refine ⟨⟨fun i o' hi => ?_, fun i j o1 o2 hi hj e => ?_, s.gl.mono st, fun i o' t hi ht hd => ?_⟩, st⟩
  · rw [hget] at hi
    split at hi
    · rename_i e; subst e; cases hi
      exact ⟨obj, by rw [hmu2]; exact World.alloc_heap_new w obj, hor.mono st⟩
    · rename_i e
      obtain ⟨x, h1, h2⟩ := s.blk i o' hi
      exact ⟨x, by rw [hmu i e, hold _ (hsz i o' hi)]; exact h1, h2.mono st⟩
  · rw [hget] at hi hj
    by_cases ei : i = id <;> by_cases ej : j = id
    · omega
    · rw [if_neg ej] at hj
      rw [ei, hmu2, hmu j ej] at e
      have := hsz j o2 hj; omega
    · rw [if_neg ei] at hi
      rw [ej, hmu2, hmu i ei] at e
      have := hsz i o1 hi; omega
    · rw [if_neg ei] at hi
      rw [if_neg ej] at hj
      rw [hmu i ei, hmu j ej] at e
      exact s.inj i j o1 o2 hi hj e
  · rw [hget] at hi
    split at hi
    · rename_i e; subst e; cases hi
      obtain ⟨cs, fr, rfl⟩ := hty t ht
      exact ⟨cs, fr, by rw [hmu2]; exact World.alloc_heap_new w _⟩
    · rename_i e
      rw [hmu i e, hold _ (hsz i o' hi)]; exact s.tys i o' t hi ht hd

/-- less is told of a type -/
theorem SR.lessTy {T : Tm AObj} {n id ver st : Nat} {b : Body} {t t' : Option Nat} (s : SR ⟨T.set id (some ⟨ver, st, b, t⟩), n⟩ μ w) (hle : ∀ u, t' = some u → t = some u) :
    SR ⟨T.set id (some ⟨ver, st, b, t'⟩), n⟩ μ w ∧ Stp ⟨T.set id (some ⟨ver, st, b, t⟩), n⟩ μ w ⟨T.set id (some ⟨ver, st, b, t'⟩), n⟩ μ w := by
  have hg : ∀ (t : Option Nat) i, (⟨T.set id (some ⟨ver, st, b, t⟩), n⟩ : Hp).get i = if i = id then some ⟨ver, st, b, t⟩ else T.get i := fun t i => Tm.get_set _ _ _ _
  have back : ∀ i o', (⟨T.set id (some ⟨ver, st, b, t'⟩), n⟩ : Hp).get i = some o' → ∃ o, (⟨T.set id (some ⟨ver, st, b, t⟩), n⟩ : Hp).get i = some o ∧ o'.body = o.body ∧ ∀ u, o'.ty = some u → o.ty = some u := fun i o' h => by
    rw [hg] at h ⊢
    split at h
    · rename_i e; cases h; exact ⟨_, if_pos e, rfl, hle⟩
    · rename_i e; exact ⟨o', by rw [if_neg e]; exact h, rfl, fun _ q => q⟩
  have st : Stp ⟨T.set id (some ⟨ver, st, b, t⟩), n⟩ μ w ⟨T.set id (some ⟨ver, st, b, t'⟩), n⟩ μ w := by
    refine ⟨Nat.le_refl _, fun i o ho => ?_, fun _ _ _ => rfl, fun c _ ⟨i, o, hi, hm⟩ => ?_, rfl, rfl, rfl⟩
    · rw [hg] at ho
      split at ho
      · rename_i e; cases ho
        exact ⟨⟨ver, st, b, t'⟩, by rw [hg, if_pos e], Nat.le_refl _, Body.like_refl _, fun _ => ⟨rfl, fun cs _ hc => ⟨cs, hc, rfl⟩⟩⟩
      · rename_i e
        exact ⟨o, by rw [hg, if_neg e]; exact ho, Nat.le_refl _, Body.like_refl _, fun _ => ⟨rfl, fun cs _ hc => ⟨cs, hc, rfl⟩⟩⟩
    · obtain ⟨o2, h2, _⟩ := back i o hi
      exact ⟨i, o2, h2, hm⟩
  refine ⟨⟨fun i o' hi => ?_, fun i j o1 o2 hi hj e => ?_, s.gl.mono st, fun i o' u hi hu hd => ?_⟩, st⟩
  · obtain ⟨o, ho, hb, _⟩ := back i o' hi
    obtain ⟨x, h1, h2⟩ := s.blk i o ho
    exact ⟨x, h1, by rw [hb]; exact h2.mono st⟩
  · obtain ⟨a, ha, _⟩ := back i o1 hi
    obtain ⟨c, hc, _⟩ := back j o2 hj
    exact s.inj i j a c ha hc e
  · obtain ⟨o, ho, hb, ht⟩ := back i o' hi
    exact s.tys i o u ho (ht u hu) (by rw [← hb]; exact hd)
/-- an object dies: its block may be frozen -/
theorem SR.kill (s : SR h μ w) {id ver : Nat} {o : AObj} {f : Option Nat → Option Nat} (ho : h.get id = some o) (hlt : o.ver < ver) (hrow : o.body.isRow = true)
    (hsz : w'.heap.size = w.heap.size) (hoth : ∀ c, c ≠ μ id → w'.heap[c]? = w.heap[c]?) (hos : w'.os = w.os) (ht : w'.tape = w.tape) (hout : w'.output = w.output) :
    SR ⟨h.obj.set id (some ⟨ver, o.stamp + 1, .dead, f o.ty⟩), h.next⟩ μ w' ∧ Stp h μ w ⟨h.obj.set id (some ⟨ver, o.stamp + 1, .dead, f o.ty⟩), h.next⟩ μ w' := by
  have hget : ∀ i, (⟨h.obj.set id (some ⟨ver, o.stamp + 1, .dead, f o.ty⟩), h.next⟩ : Hp).get i = if i = id then some ⟨ver, o.stamp + 1, .dead, f o.ty⟩ else h.get i := fun i => Tm.get_set _ _ _ _
  have hne : ∀ i o', h.get i = some o' → i ≠ id → μ i ≠ μ id := fun i o' hi hn e => hn (s.inj i id o' o hi ho e)
  have hlike : o.body.like .dead := by
    cases hb : o.body with
    | row _ _ _ => trivial
    | dead => trivial
    | _ => rw [hb] at hrow; cases hrow
  have st : Stp h μ w ⟨h.obj.set id (some ⟨ver, o.stamp + 1, .dead, f o.ty⟩), h.next⟩ μ w' := by
    refine ⟨by omega, fun i o' ho' => ?_, fun c hc hh => ?_, fun c hc hh => ?_, hos, ht, hout⟩
    · by_cases e : i = id
      · subst e
        rw [ho] at ho'; cases ho'
        refine ⟨_, by rw [hget, if_pos rfl], Nat.le_of_lt hlt, hlike, fun hc => ?_⟩
        rcases hc with hc | hc
        · simp only at hc; omega
        · rw [hrow] at hc; cases hc
      · exact ⟨o', by rw [hget, if_neg e]; exact ho', Nat.le_refl _, Body.like_refl _, fun _ => ⟨rfl, fun cs _ hc => ⟨cs, by rw [hoth _ (hne i o' ho' e)]; exact hc, rfl⟩⟩⟩
    · exact hoth c (fun e => hh ⟨id, o, ho, e.symm⟩)
    · obtain ⟨i, o', hi, hm⟩ := hh
      rw [hget] at hi
      split at hi
      · rename_i e; subst e; exact ⟨i, o, ho, hm⟩
      · exact ⟨i, o', hi, hm⟩
  refine ⟨⟨fun i o' hi => ?_, fun i j o1 o2 hi hj e => ?_, s.gl.mono st, fun i o' t hi ht hd => ?_⟩, st⟩
  · rw [hget] at hi
    split at hi
    · rename_i e; subst e; cases hi
      obtain ⟨x, h1, _⟩ := s.blk _ _ ho
      have hl := (Array.getElem?_eq_some_iff.1 h1).1
      exact ⟨w'.heap[μ i]'(by omega), Array.getElem?_eq_getElem _, trivial⟩
    · rename_i e
      obtain ⟨x, h1, h2⟩ := s.blk i o' hi
      exact ⟨x, by rw [hoth _ (hne i o' hi e)]; exact h1, h2.mono st⟩
  · have g : ∀ k o', (⟨h.obj.set id (some ⟨ver, o.stamp + 1, .dead, f o.ty⟩), h.next⟩ : Hp).get k = some o' → ∃ o2, h.get k = some o2 := fun k o' hk => by
      rw [hget] at hk
      split at hk
      · rename_i e; subst e; exact ⟨o, ho⟩
      · exact ⟨o', hk⟩
    obtain ⟨a, ha⟩ := g i o1 hi
    obtain ⟨c, hc⟩ := g j o2 hj
    exact s.inj i j a c ha hc e
  · rw [hget] at hi
    split at hi
    · cases hi; exact absurd rfl hd
    · rename_i e
      rw [hoth _ (hne i o' hi e)]; exact s.tys i o' t hi ht hd

/-- only what lies in the heap counts -/
theorem SR.ext (s : SR h μ w) (e : ∀ id, h'.get id = h.get id) : SR h' μ w ∧ Stp h μ w h' μ w := by
  have st : Stp h μ w h' μ w := ⟨Nat.le_refl _, fun id o ho => ⟨o, by rw [e]; exact ho, Nat.le_refl _, Body.like_refl _, fun _ => ⟨rfl, fun cs _ hc => ⟨cs, hc, rfl⟩⟩⟩, fun _ _ _ => rfl,
    fun c _ ⟨i, o, hi, hm⟩ => ⟨i, o, by rw [← e]; exact hi, hm⟩, rfl, rfl, rfl⟩
  exact ⟨⟨fun id o ho => by rw [e] at ho; obtain ⟨x, h1, h2⟩ := s.blk id o ho; exact ⟨x, h1, h2.mono st⟩, fun i j o o' hi hj => by rw [e] at hi hj; exact s.inj i j o o' hi hj, s.gl.mono st, fun id o t ho ht hd => by rw [e] at ho; exact s.tys id o t ho ht hd⟩, st⟩
end
theorem SR.below {h : Hp} {μ : Nat → Nat} {w w' : World} (s : SR h μ w) (b : RowKit.Below w.heap.size w w') : SR h μ w' ∧ Stp h μ w h μ w' := by
  have lt : ∀ id o, h.get id = some o → μ id < w.heap.size := fun id o ho => by
    obtain ⟨obj, h1, _⟩ := s.blk id o ho; exact (Array.getElem?_eq_some_iff.1 h1).1
  have st : Stp h μ w h μ w' := ⟨b.size, fun id o ho => ⟨o, ho, Nat.le_refl _, Body.like_refl _, fun _ => ⟨rfl, fun cs e hc => ⟨cs, by rw [b.block _ (lt id o ho)]; exact hc, rfl⟩⟩⟩,
    fun c hc _ => b.block c hc, fun _ _ hc => hc, b.os, b.tape, b.output⟩
  exact ⟨⟨fun id o ho => by obtain ⟨obj, h1, h2⟩ := s.blk id o ho; exact ⟨obj, by rw [b.block _ (lt id o ho)]; exact h1, h2.mono st⟩, s.inj, s.gl.mono st, fun id o t h1 h2 h3 => by rw [b.block _ (lt id o h1)]; exact s.tys id o t h1 h2 h3⟩, st⟩
end Go.Am
namespace Go.Am
open Go

namespace AM
variable {α β : Type} {h h' : Hp}
theorem bind_some {m : AM α} {f : α → AM β} {r : β × Hp} (e : (m >>= f).run h = some r) : ∃ a h1, m.run h = some (a, h1) ∧ (f a).run h1 = some r := by
  rw [run_bind] at e
  cases hm : m.run h with
  | none => rw [hm] at e; cases e
  | some p => rw [hm] at e; exact ⟨p.1, p.2, rfl, e⟩
theorem pure_some {a b : α} (e : (pure a : AM α).run h = some (b, h')) : b = a ∧ h' = h := by
  rw [run_pure] at e; cases e; exact ⟨rfl, rfl⟩
theorem guard_some {b : Bool} {u : Unit} (e : (guard b).run h = some (u, h')) : b = true ∧ h' = h := by
  cases b with
  | true => exact ⟨rfl, (pure_some e).2⟩
  | false => cases e
theorem ofOption_some {o : Option α} {a : α} (e : (ofOption o).run h = some (a, h')) : o = some a ∧ h' = h := by
  cases o with
  | none => cases e
  | some b => obtain ⟨rfl, rfl⟩ := pure_some e; exact ⟨rfl, rfl⟩
theorem fail_some {a : α} (e : (fail : AM α).run h = some (a, h')) : False := by cases e
theorem hget_some {id : Nat} {o : AObj} (e : (hget id).run h = some (o, h')) : h.get id = some o ∧ h' = h := by
  simp only [hget] at e
  cases ho : h.get id with
  | none => rw [ho] at e; cases e
  | some o' => rw [ho] at e; cases e; exact ⟨rfl, rfl⟩
theorem hputF_some {id ver : Nat} {b : Body} {f : Option Nat → Option Nat} {u : Unit} (e : (hputF id ver b f).run h = some (u, h')) :
    ∃ o, h.get id = some o ∧ o.ver ≤ ver ∧ h' = ⟨h.obj.set id (some ⟨ver, o.stamp + 1, b, f o.ty⟩), h.next⟩ := by
  simp only [hputF] at e
  cases ho : h.get id with
  | none => rw [ho] at e; cases e
  | some o =>
    rw [ho] at e
    dsimp only at e
    cases hv : Nat.ble o.ver ver with
    | false => rw [hv] at e; cases e
    | true => rw [hv] at e; cases e; exact ⟨o, rfl, by simpa using hv, rfl⟩
theorem hput_some {id ver : Nat} {b : Body} {u : Unit} (e : (hput id ver b).run h = some (u, h')) :
    ∃ o, h.get id = some o ∧ o.ver ≤ ver ∧ h' = ⟨h.obj.set id (some ⟨ver, o.stamp + 1, b, o.ty⟩), h.next⟩ := hputF_some e
theorem hallocT_some {b : Body} {ty : Option Nat} {id : Nat} (e : (hallocT b ty).run h = some (id, h')) : id = h.next ∧ h' = ⟨h.obj.set h.next (some ⟨0, 0, b, ty⟩), h.next + 1⟩ := by
  simp only [hallocT] at e; cases e; exact ⟨rfl, rfl⟩
theorem halloc_some {b : Body} {id : Nat} (e : (halloc b).run h = some (id, h')) : id = h.next ∧ h' = ⟨h.obj.set h.next (some ⟨0, 0, b, none⟩), h.next + 1⟩ := hallocT_some e
end AM
open AM

section
variable {P : Program} {h h' : Hp} {μ : Nat → Nat} {w : World}

theorem szOf_some {t n : Nat} (e : (szOf P t).run h = some (n, h')) : h' = h ∧ ∃ i, P.info? t = some i ∧ i.size = n := by
  obtain ⟨e1, rfl⟩ := ofOption_some e
  cases hi : P.info? t with
  | none => rw [hi] at e1; cases e1
  | some i => rw [hi] at e1; cases e1; exact ⟨rfl, i, rfl, rfl⟩
theorem bytesOf_some {t n : Nat} (e : (bytesOf P t).run h = some (n, h')) : h' = h ∧ ∃ i, P.info? t = some i ∧ i.bytes = n := by
  obtain ⟨e1, rfl⟩ := ofOption_some e
  cases hi : P.info? t with
  | none => rw [hi] at e1; cases e1
  | some i => rw [hi] at e1; cases e1; exact ⟨rfl, i, rfl, rfl⟩
theorem underOf_some {t : Nat} {d : TypeDesc} (e : (underOf P t).run h = some (d, h')) : h' = h ∧ P.underlying t = some d := by
  obtain ⟨e1, rfl⟩ := ofOption_some e; exact ⟨rfl, e1⟩
theorem elemOf_some {t e : Nat} (q : (elemOf P t).run h = some (e, h')) : h' = h ∧ P.underlying t = some (.slice e) := by
  unfold elemOf at q
  split at q
  · rename_i hu; obtain ⟨rfl, rfl⟩ := pure_some q; exact ⟨rfl, hu⟩
  · cases q
theorem zeroOf_some {t : Nat} {v : AV} (e : (zeroOf P t).run h = some (v, h')) : h' = h ∧ ∃ i z, P.info? t = some i ∧ i.zero = some z ∧ v = ofVal z := by
  unfold zeroOf at e
  split at e
  · rename_i i hi
    split at e
    · rename_i z hz; obtain ⟨rfl, rfl⟩ := pure_some e; exact ⟨rfl, i, z, hi, hz, rfl⟩
    · cases e
  · cases e
theorem rowOf_some {id ver esz : Nat} {cells : List AV} {fix : Bool} (e : (rowOf id ver).run h = some ((esz, cells, fix), h')) :
    h' = h ∧ ∃ o, h.get id = some o ∧ o.ver = ver ∧ o.body = .row esz cells fix := by
  obtain ⟨o, h1, e1, e2⟩ := bind_some e
  obtain ⟨ho, rfl⟩ := hget_some e1
  obtain ⟨_, h2, e3, e4⟩ := bind_some e2
  obtain ⟨hv, rfl⟩ := guard_some e3
  split at e4
  · rename_i hb
    obtain ⟨he, rfl⟩ := pure_some e4
    simp only [Prod.mk.injEq] at he
    obtain ⟨rfl, rfl, rfl⟩ := he
    exact ⟨rfl, o, ho, by simpa using hv, hb⟩
  · cases e4
theorem mapOf_some {id : Nat} {es : List (AV × AV)} (e : (mapOf id).run h = some (es, h')) : h' = h ∧ ∃ o, h.get id = some o ∧ o.body = .map es := by
  obtain ⟨o, h1, e1, e2⟩ := bind_some e
  obtain ⟨ho, rfl⟩ := hget_some e1
  split at e2
  · rename_i hb; obtain ⟨rfl, rfl⟩ := pure_some e2; exact ⟨rfl, o, ho, hb⟩
  · cases e2
theorem fieldAt_some {t f : Nat} {fd : Field} (e : (fieldAt P t f).run h = some (fd, h')) : h' = h ∧ ∃ fs, P.underlying t = some (.struct fs) ∧ fs[f]? = some fd := by
  unfold fieldAt at e
  split at e
  · rename_i fs hu; obtain ⟨e1, rfl⟩ := ofOption_some e; exact ⟨rfl, fs, hu, by simpa using e1⟩
  · cases e

/-! ### constants -/
theorem VR_ofCell (v : Value) : VR h μ w (ofCell v) v := by
  unfold ofCell
  split
  · exact .bool _
  · exact .int _ _
  · exact .str _ _ rfl
  · exact .nilptr
  · exact .sl .nil 0 [] none 0 [] (Nat.le_refl _) (fun _ => ⟨rfl, rfl⟩) (fun e => by cases e) (fun e => by cases e) (fun e => absurd e (Nat.lt_irrefl _)) (fun _ e => by cases e) rfl (fun e => absurd rfl e) (fun _ e => by cases e)
      (fun _ h1 => absurd h1 (Nat.not_lt_zero _))
  · exact .nilmap
  · exact .nilfunc
  · exact .func _ [] [] [] [] rfl rfl (fun _ h1 => absurd h1 (Nat.not_lt_zero _)) (fun _ h1 => absurd h1 (Nat.not_lt_zero _))
  · exact .niliface
  · exact .tuple [] [] rfl (fun _ h1 => absurd h1 (Nat.not_lt_zero _))
  · exact .undef _
theorem VR_ofVal (v : Value) : VR h μ w (ofVal v) v := by
  unfold ofVal
  split
  · rename_i cs
    have := VR.agg (h := h) (μ := μ) (w := w) (cs.toList.map ofCell) cs.toList (by simp) (fun i h1 h2 => by simpa using VR_ofCell _)
    simpa using this
  · exact .iface _ _ _ (VR_ofCell _)
  · exact VR_ofCell _
theorem VR_undef : VR h μ w (.tuple []) Go.undef := .tuple [] [] rfl (fun _ h1 => absurd h1 (Nat.not_lt_zero _))

theorem TR.eval {nt : Nat} {T : Temps} {a : Act} (r : TR h μ w nt T a.tmps) (k : Gl h μ w) (x : Operand) : VR h μ w (aeval T x) (a.eval x) := by
  cases x with
  | tmp t => exact r.2 t
  | const v => exact VR_ofVal v
  | global g =>
    simp only [aeval]
    split
    · rename_i l hg
      obtain ⟨h1, h2, h3⟩ := k g l hg
      refine .iptr _ ⟨g, 0, none⟩ (l.map fun x => .int x.1 x.2) h1 h2 (by simp) (fun i hi => ?_) (fun i h1 h2 => ?_)
      · have := h3 i (by simpa using hi)
        rw [this]; simp
      · simp only [List.getElem_map]; exact .int _ _
    · exact .undef _
  | func f => exact .func f [] [] [] [] rfl rfl (fun _ h1 => absurd h1 (Nat.not_lt_zero _)) (fun _ h1 => absurd h1 (Nat.not_lt_zero _))

theorem tget_tput (nt : Nat) (T : Temps) (t : Nat) (v : AV) (u : Nat) : tget (tput nt T t v) u = if t < nt ∧ u = t then v else tget T u := by
  unfold tget tput
  cases hb : Nat.blt t nt with
  | false =>
    have : ¬ t < nt := by intro hc; rw [← Nat.blt_eq] at hc; rw [hb] at hc; cases hc
    simp [this]
  | true =>
    have : t < nt := by rw [← Nat.blt_eq]; exact hb
    simp only [cond_true, Tm.get_set]
    by_cases e : u = t <;> simp [this, e]

theorem TR.put {nt : Nat} {T : Temps} {tmps : Array Value} (r : TR h μ w nt T tmps) (t : Nat) {v : AV} {x : Value} (hv : VR h μ w v x) : TR h μ w nt (tput nt T t v) (tmps.setIfInBounds t x) := by
  refine ⟨by simpa using r.1, fun u => ?_⟩
  rw [tget_tput]
  by_cases e : t < nt ∧ u = t
  · obtain ⟨e1, rfl⟩ := e
    rw [if_pos ⟨e1, rfl⟩]
    have : u < tmps.size := by rw [r.1]; exact e1
    simpa [Array.getD, this] using hv
  · rw [if_neg e]
    have := r.2 u
    by_cases hu : u = t
    · subst hu
      have h1 : ¬ u < nt := fun k => e ⟨k, rfl⟩
      have h2 : ¬ u < tmps.size := by rw [r.1]; exact h1
      simpa [Array.getD, h2] using this
    · have : (tmps.setIfInBounds t x).getD u Go.undef = tmps.getD u Go.undef := by
        simp only [Array.getD_eq_getD_getElem?, Array.getElem?_setIfInBounds]
        rw [if_neg (fun e => hu e.symm)]
      rw [this]; exact r.2 u
theorem TR.put? {nt : Nat} {T : Temps} {a : Act} (r : TR h μ w nt T a.tmps) (t : Option Nat) {v : AV} {x : Value} (hv : VR h μ w v x) : TR h μ w nt (tput? nt T t v) (a.put t x).tmps := by
  cases t with
  | none => exact r
  | some t => exact r.put t hv

/-! ### lists of values -/
theorem VRs.nil : VRs h μ w [] [] := ⟨rfl, fun _ h1 => absurd h1 (Nat.not_lt_zero _)⟩
theorem VRs.cons {v : AV} {x : Value} {l : List AV} {xs : List Value} (a : VR h μ w v x) (b : VRs h μ w l xs) : VRs h μ w (v :: l) (x :: xs) :=
  ⟨by simp [b.1], fun i h1 h2 => by
    cases i with
    | zero => exact a
    | succ i => exact b.2 i (by simpa using h1) (by simpa using h2)⟩
theorem VRs.get? {l : List AV} {xs : List Value} (r : VRs h μ w l xs) {i : Nat} {v : AV} (e : l[i]? = some v) : ∃ x, xs[i]? = some x ∧ VR h μ w v x := by
  obtain ⟨h1, rfl⟩ := List.getElem?_eq_some_iff.1 e
  have h2 : i < xs.length := by rw [← r.1]; exact h1
  exact ⟨xs[i], List.getElem?_eq_getElem h2, r.2 i h1 h2⟩
theorem VRs.take {l : List AV} {xs : List Value} (r : VRs h μ w l xs) (n : Nat) : VRs h μ w (l.take n) (xs.take n) :=
  ⟨by simp [r.1], fun i h1 h2 => by simp at h1 h2; simpa using r.2 i (by omega) (by omega)⟩
theorem VRs.drop {l : List AV} {xs : List Value} (r : VRs h μ w l xs) (n : Nat) : VRs h μ w (l.drop n) (xs.drop n) :=
  ⟨by simp [r.1], fun i h1 h2 => by simp at h1 h2; simpa using r.2 (n + i) (by omega) (by omega)⟩
theorem VRs.append {l l' : List AV} {xs xs' : List Value} (r : VRs h μ w l xs) (r' : VRs h μ w l' xs') : VRs h μ w (l ++ l') (xs ++ xs') := by
  refine ⟨by simp [r.1, r'.1], fun i h1 h2 => ?_⟩
  by_cases hi : i < l.length
  · rw [List.getElem_append_left hi, List.getElem_append_left (by rw [← r.1]; exact hi)]
    exact r.2 i hi (by rw [← r.1]; exact hi)
  · simp only [List.length_append] at h1 h2
    rw [List.getElem_append_right (by omega), List.getElem_append_right (by rw [← r.1]; omega)]
    have := r'.2 (i - l.length) (by omega) (by have := r'.1; omega)
    simpa [r.1] using this
theorem VRs.splice {l l' : List AV} {xs xs' : List Value} (r : VRs h μ w l xs) (r' : VRs h μ w l' xs') (off : Nat) : VRs h μ w (splice l off l') (xs.take off ++ xs' ++ xs.drop (off + xs'.length)) := by
  unfold Am.splice
  rw [← r'.1]
  exact ((r.take off).append r').append (r.drop _)
theorem VRs.map {ι : Type} (l : List ι) {f : ι → AV} {g : ι → Value} (r : ∀ i ∈ l, VR h μ w (f i) (g i)) : VRs h μ w (l.map f) (l.map g) :=
  ⟨by simp, fun i h1 h2 => by simp at h1; simpa using r _ (List.getElem_mem h1)⟩
theorem VR.cells {v : AV} {x : Value} (r : VR h μ w v x) (hu : v ≠ .undef) : VRs h μ w (acells v) x.cells.toList := by
  cases r with
  | undef => exact absurd rfl hu
  | agg cells vals hl hr => exact ⟨hl, fun i h1 h2 => hr i h1 h2⟩
  | bag cells cells' _ p r =>
    have r' := r
    cases r'
    exact VRs.cons (.bag cells cells' _ p r) VRs.nil
  | _ => exact VRs.cons (by first | exact .bool _ | exact .int _ _ | exact .str _ _ ‹_› | exact .nilptr | exact .ptr _ _ _ _ ‹_› ‹_› | exact .ptrOld _ _ _ _ _ ‹_› ‹_› | (constructor <;> assumption)) .nil
end
end Go.Am
namespace Go.Am
open Go AM

section
variable {P : Program} {h h' : Hp} {μ : Nat → Nat} {w : World}

theorem run_isAgg {t : Nat} {d : TypeDesc} (hu : P.underlying t = some d) : (isAgg t).run P w = .ok (aggB d) w := by
  unfold isAgg
  rw [Sem.run_bind, run_underlying hu w]
  cases d <;> rfl
theorem run_sizeOf' {t : Nat} {i : TypeInfo} (hi : P.info? t = some i) : (sizeOf t).run P w = .ok i.size w := by
  simp [sizeOf, typeInfo, hi]
theorem run_typeInfo' {t : Nat} {i : TypeInfo} (hi : P.info? t = some i) : (typeInfo t).run P w = .ok i w := by
  simp [typeInfo, hi]
theorem run_zeroValue' {t : Nat} {i : TypeInfo} {z : Value} (hi : P.info? t = some i) (hz : i.zero = some z) : (zeroValue t).run P w = .ok z w := by
  simp [zeroValue, typeInfo, hi, hz]

/-- cells lie at an address -/
def At (w : World) (ad : Addr) (vals : List Value) : Prop := ∀ i (hi : i < vals.length), w.cell? (ad.add i) = some vals[i]

theorem add_of_add (a : Addr) (i j : Nat) : (a.add i).add j = a.add (i + j) := by
  unfold Addr.add
  by_cases hi : i = 0 <;> by_cases hj : j = 0 <;> simp [hi, hj, Nat.add_assoc]
theorem add_zero (a : Addr) : a.add 0 = a := rfl
theorem add_plain (b off i : Nat) : (⟨b, off, none⟩ : Addr).add i = ⟨b, off + i, none⟩ := by
  unfold Addr.add; split
  · rename_i e; subst e; rfl
  · rfl
theorem At.drop {ad : Addr} {vals : List Value} (a : At w ad vals) (n : Nat) : At w (ad.add n) (vals.drop n) := fun i hi => by
  simp at hi
  rw [add_of_add, a (n + i) (by omega)]
  simp
theorem At.take {ad : Addr} {vals : List Value} (a : At w ad vals) (n : Nat) : At w ad (vals.take n) := fun i hi => by
  simp at hi
  rw [a i (by omega)]
  simp
theorem At.row {b off : Nat} {cs : Array Value} {e : TypeId} (hb : w.heap[b]? = some (.cells cs e (0, 0))) (n : Nat) : At w ⟨b, off, none⟩ ((cs.toList.take n).drop off) := fun i hi => by
  simp at hi
  rw [add_plain]
  simp only [World.cell?, hb]
  simp
theorem At.load {ad : Addr} {vals : List Value} (a : At w ad vals) : (loadCells ad vals.length).run P w = .ok vals.toArray w :=
  run_loadCells_list w ad vals fun j v hv => by
    obtain ⟨h1, rfl⟩ := List.getElem?_eq_some_iff.1 hv
    exact a j h1

theorem aread_sim {t : Nat} {cells : List AV} {v : AV} {ad : Addr} {vals : List Value} (e : (aread P t cells).run h = some (v, h')) (a : At w ad vals) (r : VRs h μ w cells vals) :
    h' = h ∧ ∃ x, (loadVar t ad).run P w = .ok x w ∧ VR h μ w v x := by
  obtain ⟨d, h1, e1, e2⟩ := bind_some e
  obtain ⟨rfl, hu⟩ := underOf_some e1
  cases hd : aggB d with
  | true =>
    rw [hd] at e2
    obtain ⟨n, h2, e3, e4⟩ := bind_some e2
    obtain ⟨rfl, i, hi, hn⟩ := szOf_some e3
    obtain ⟨_, h3, e5, e6⟩ := bind_some e4
    obtain ⟨hg, rfl⟩ := guard_some e5
    obtain ⟨rfl, rfl⟩ := pure_some e6
    have hle : n ≤ cells.length := by simpa using hg
    have hl : (vals.take n).length = n := by have := r.1; simp; omega
    refine ⟨rfl, .agg (vals.take n).toArray, ?_, .agg _ _ (r.take n).1 (r.take n).2⟩
    have hld := (a.take n).load (P := P)
    rw [hl] at hld
    simp only [loadVar, Sem.run_bind, run_isAgg hu, hd, Result.andThen, run_sizeOf' hi, hn, if_true, hld, Sem.run_pure]
  | false =>
    rw [hd] at e2
    obtain ⟨e3, rfl⟩ := ofOption_some e2
    have e4 : cells[0]? = some v := by rw [← List.head?_eq_getElem?]; exact e3
    clear e2
    obtain ⟨x, hx, hr⟩ := r.get? e4
    obtain ⟨hlt, rfl⟩ := List.getElem?_eq_some_iff.1 hx
    refine ⟨rfl, _, ?_, hr⟩
    have := a 0 hlt
    rw [add_zero] at this
    simp [loadVar, run_isAgg hu, hd, run_load, this]

/-- a live row, in the world -/
theorem SR.row (s : SR h μ w) {id : Nat} {o : AObj} {esz : Nat} {cells : List AV} {fix : Bool} (ho : h.get id = some o) (hb : o.body = .row esz cells fix) :
    ∃ cs e, w.heap[μ id]? = some (.cells cs e (0, 0)) ∧ cells.length ≤ cs.size ∧ (fix = true → cs.size = cells.length) ∧ VRs h μ w cells (cs.toList.take cells.length) := by
  obtain ⟨obj, h1, h2⟩ := s.blk id o ho
  rw [hb] at h2
  obtain ⟨cs, e, rfl, h3, h4, h5⟩ := h2
  exact ⟨cs, e, h1, h3, h4, h5⟩

theorem VR.ptr_live {id ver off : Nat} {x : Value} (r : VR h μ w (.ptr id ver off) x) {o : AObj} (ho : h.get id = some o) (hv : o.ver = ver) : x = .pointer (some ⟨μ id, off, none⟩) := by
  cases r with
  | ptr _ _ _ _ _ _ => rfl
  | ptrOld _ _ _ _ o2 ho2 hd => rw [ho] at ho2; cases ho2; omega
theorem VR.own_live {id ver off n : Nat} {x : Value} (r : VR h μ w (.own id ver off n) x) {o : AObj} (ho : h.get id = some o) (hv : o.ver = ver) {esz : Nat} {cells : List AV} {fix : Bool} (hb : o.body = .row esz cells fix) :
    ∃ ad cap, x = .slice (some ad) n cap ∧ n ≤ cap ∧ ((0 < n ∨ off = 0) → ad = ⟨μ id, off, none⟩ ∧ ∃ cs e, w.heap[μ id]? = some (.cells cs e (0, 0)) ∧ off + cap * esz = cs.size) := by
  cases r with
  | own _ _ _ _ o2 ho2 _ esz2 hb2 ad cap hn hex =>
    rw [ho] at ho2; cases ho2
    have e1 := hb2 _ _ _ hb
    subst e1
    exact ⟨ad, cap, rfl, hn, hex⟩
  | ownOld _ _ _ _ _ _ _ o2 ho2 hd => rw [ho] at ho2; cases ho2; omega
theorem VR.map_live {id : Nat} {x : Value} (r : VR h μ w (.mapv id) x) : x = .map (some (μ id)) := by
  cases r with
  | mapv _ _ _ _ _ => rfl

theorem aload_sim (s : SR h μ w) {t : Nat} {a v : AV} {x : Value} (e : (aload P t a).run h = some (v, h')) (r : VR h μ w a x) :
    h' = h ∧ ∃ y, (Instr.loadAt t x).run P w = .ok y w ∧ VR h μ w v y := by
  cases a with
  | iptr cells =>
    cases r with
    | iptr _ ad vals hh hb hl hc hr =>
      obtain ⟨rfl, y, h1, h2⟩ := aread_sim (ad := ad) e hc ⟨hl, hr⟩
      exact ⟨rfl, y, by simpa [Instr.loadAt, Instr.sureAddr] using h1, h2⟩
  | ptr id ver off =>
    obtain ⟨⟨esz, cells, fix⟩, h1, e1, e2⟩ := bind_some e
    obtain ⟨rfl, o, ho, hv, hbody⟩ := rowOf_some e1
    obtain ⟨cs, ty, hw, hle, _, hr⟩ := s.row ho hbody
    obtain rfl := r.ptr_live ho hv
    obtain ⟨rfl, y, h1, h2⟩ := aread_sim (ad := ⟨μ id, off, none⟩) e2 (At.row hw cells.length) (hr.drop off)
    exact ⟨rfl, y, by simpa [Instr.loadAt, Instr.sureAddr] using h1, h2⟩
  | _ => cases e

theorem VR.oneCell {v : AV} {x : Value} (r : VR h μ w v x) (ho : one v = true) : x.oneCell' = true := by
  cases r
  case bag r => cases r; rfl
  all_goals first | rfl | (simp [one] at ho; done)
theorem VRs.oneCells {l : List AV} {xs : List Value} (r : VRs h μ w l xs) (ho : ones l = true) : ∀ x ∈ xs, x.oneCell' = true := by
  intro x hx
  obtain ⟨i, hi, rfl⟩ := List.getElem_of_mem hx
  have h1 : i < l.length := by rw [r.1]; exact hi
  refine (r.2 i h1 hi).oneCell ?_
  exact List.all_eq_true.1 ho _ (List.getElem_mem h1)

/-- cells of a row that is live are written -/
theorem SR.splice (s : SR h μ w) {id : Nat} {o : AObj} {esz : Nat} {cells : List AV} {fix : Bool} {cs : Array Value} {ty : TypeId} (ho : h.get id = some o) (hb : o.body = .row esz cells fix)
    (hw : w.heap[μ id]? = some (.cells cs ty (0, 0))) {off : Nat} {new : List AV} {vals : List Value} (r : VRs h μ w new vals) (h1 : ∀ x ∈ vals, x.oneCell' = true) (hfit : off + vals.length ≤ cs.size) :
    (storeCells ⟨μ id, off, none⟩ vals).run P w = .ok () (w.setRow (μ id) (cs.toList.take off ++ vals ++ cs.toList.drop (off + vals.length)).toArray) ∧
    ∀ (ver : Nat) (cells' : List AV) (fix' : Bool), o.ver ≤ ver → cells'.length ≤ cs.size → (fix' = true → cs.size = cells'.length) →
      VRs h μ w cells' ((cs.toList.take off ++ vals ++ cs.toList.drop (off + vals.length)).take cells'.length) →
      SR ⟨h.obj.set id (some ⟨ver, o.stamp + 1, .row esz cells' fix', o.ty⟩), h.next⟩ μ (w.setRow (μ id) (cs.toList.take off ++ vals ++ cs.toList.drop (off + vals.length)).toArray) ∧
      Stp h μ w ⟨h.obj.set id (some ⟨ver, o.stamp + 1, .row esz cells' fix', o.ty⟩), h.next⟩ μ (w.setRow (μ id) (cs.toList.take off ++ vals ++ cs.toList.drop (off + vals.length)).toArray) := by
  have hst := run_storeCells_at (P := P) (μ id) off ty vals 0 cs w hw (by simpa using hfit) h1
  simp only [Nat.add_zero] at hst
  have hlen : (cs.toList.take off ++ vals ++ cs.toList.drop (off + vals.length)).toArray.size = cs.size := by simp; omega
  refine ⟨hst, fun ver cells' fix' hle h2 h3 h4 => ?_⟩
  refine s.put ho hle (by rw [hb]; rfl) (by simp [World.setRow]) (fun c hc => ?_) (setRow_heap w (μ id) cs _ ty _ hw) ?_ (fun cs2 e2 hc => ?_) rfl rfl rfl
  · simp only [World.setRow, Array.getElem?_modify]
    rw [if_neg (fun e => hc e.symm)]
  · exact ⟨_, ty, rfl, by rw [hlen]; exact h2, fun hf => by rw [hlen]; exact h3 hf, h4⟩
  · rw [hw] at hc
    injection hc with hc
    injection hc with c1 c2
    subst c1 c2
    exact ⟨_, rfl, hlen⟩

theorem splice_take (xs ys : List Value) (off k n : Nat) (hn : ys.length = n) (h1 : off + n ≤ k) (h2 : k ≤ xs.length) :
    (xs.take k).take off ++ ys ++ (xs.take k).drop (off + ys.length) = (xs.take off ++ ys ++ xs.drop (off + ys.length)).take k := by
  subst hn
  have b1 : (xs.take off).length = off := by rw [List.length_take]; omega
  rw [List.take_take, List.drop_take, List.take_append, List.take_append, b1, Nat.min_eq_left (by omega)]
  rw [List.take_of_length_le (l := xs.take off) (by omega), List.take_of_length_le (l := ys) (by omega)]
  congr 2
  rw [List.length_append, b1]

theorem length_splice {cells vs : List AV} {off : Nat} (h : off + vs.length ≤ cells.length) : (Am.splice cells off vs).length = cells.length := by
  simp [Am.splice]; omega

theorem astore_sim (s : SR h μ w) {t : Nat} {a v : AV} {x y : Value} {u : Unit} (e : (astore P t a v).run h = some (u, h')) (r : VR h μ w a x) (r2 : VR h μ w v y) :
    ∃ w', (Instr.storeAt t x y).run P w = .ok () w' ∧ SR h' μ w' ∧ Stp h μ w h' μ w' := by
  cases a with
  | ptr id ver off =>
    obtain ⟨⟨esz, cells, fix⟩, h1, e1, e2⟩ := bind_some e
    obtain ⟨rfl, o, ho, hv, hbody⟩ := rowOf_some e1
    obtain ⟨n, h2, e3, e4⟩ := bind_some e2
    obtain ⟨rfl, i, hi, hn⟩ := szOf_some e3
    obtain ⟨_, h3, e5, e6⟩ := bind_some e4
    obtain ⟨hg, rfl⟩ := guard_some e5
    obtain ⟨o2, ho2, hle, rfl⟩ := hput_some e6
    rw [ho] at ho2; cases ho2
    simp only [Bool.and_eq_true, Nat.beq_eq, Nat.ble_eq] at hg
    obtain ⟨⟨hlen, hfit⟩, hone⟩ := hg
    obtain ⟨cs, ty, hw, hcs, hfix, hr⟩ := s.row ho hbody
    obtain rfl := r.ptr_live ho hv
    have hu : v ≠ .undef := by rintro rfl; simp [acells, ones, one] at hone
    have rc := r2.cells hu
    have hyl : y.cells.toList.length = n := by rw [← rc.1]; exact hlen
    obtain ⟨hst, hsr⟩ := s.splice (P := P) ho hbody hw (off := off) rc (rc.oneCells hone) (by omega)
    have hl : (Am.splice cells off (acells v)).length = cells.length := length_splice (by omega)
    obtain ⟨s1, s2⟩ := hsr ver (Am.splice cells off (acells v)) fix hle (by omega) (fun hf => by rw [hfix hf, hl]) (by
      have hsp := hr.splice rc off
      rw [splice_take _ _ _ _ _ hyl hfit (by simpa using hcs)] at hsp
      rw [hl]; exact hsp)
    refine ⟨_, ?_, s1, s2⟩
    have hsz : y.cells.size = n := by rw [← hyl]; simp
    simp only [Instr.storeAt, Instr.sureAddr, Sem.run_bind, Sem.run_pure, Result.andThen, storeVar, run_sizeOf' hi, hn, hsz, ne_eq, not_true_eq_false, if_false, hst]
  | _ => cases e
end
end Go.Am
namespace Go.Am
open Go AM

section
variable {P : Program} {h h' : Hp} {μ : Nat → Nat} {w : World}

/-- an operation that leaves all as it is -/
def PSim (P : Program) (h : Hp) (μ : Nat → Nat) (w : World) (m : AM AV) (s : Sem Value) : Prop :=
  ∀ v h', m.run h = some (v, h') → h' = h ∧ ∃ x, s.run P w = .ok x w ∧ VR h μ w v x

theorem PSim.pure {v : AV} {x : Value} (r : VR h μ w v x) {s : Sem Value} (e : s.run P w = .ok x w) : PSim P h μ w (pure v) s := fun v' h' q => by
  obtain ⟨rfl, rfl⟩ := pure_some q; exact ⟨rfl, x, e, r⟩

theorem toList_bytes (s : ByteArray) : s.toList = s.data.toList := by
  have hsz : s.data.toList.length = s.size := by rw [Array.length_toList]; rfl
  have : ∀ (i : Nat) (r : List UInt8), ByteArray.toList.loop s i r = r.reverse ++ s.data.toList.drop i := by
    intro i r
    induction hn : s.size - i generalizing i r with
    | zero =>
      rw [ByteArray.toList.loop]
      have hi : ¬ i < s.size := by omega
      rw [if_neg hi, List.drop_of_length_le (by omega)]
      simp
    | succ n ih =>
      rw [ByteArray.toList.loop]
      have hi : i < s.size := by omega
      rw [if_pos hi, ih (i + 1) _ (by omega)]
      have h2 : i < s.data.toList.length := by omega
      rw [List.drop_eq_getElem_cons h2]
      have : s.get! i = s.data.toList[i] := by
        simp only [ByteArray.get!]
        rw [getElem!_pos s.data i (by simpa using hi)]
        simp
      simp [this]
  rw [ByteArray.toList, this]; simp

theorem aintop_sim (op : BinOp) (k : IntKind) (a b : Int) (hne : op ≠ .shl ∧ op ≠ .shr) (t : TypeId) : PSim P h μ w (aintop op k a b) (binOp op t (.int k a) (.int k b)) := by
  cases op <;> first
    | (refine PSim.pure (.int _ _) ?_; simp [binOp, Op.intArith]; done)
    | (refine PSim.pure (.int _ _) ?_; show Sem.run P (if k ≠ k then _ else _) w = _; rw [if_neg (by simp)]; rfl)
    | (refine PSim.pure (.bool _) ?_; simp [binOp, Op.intCmp]; done)
    | skip
  · by_cases hb : b = 0
    · intro v h' e; simp only [aintop, hb, if_true] at e; cases e
    · simp only [aintop, hb, if_false]; exact PSim.pure (.int _ _) (by simp [binOp, Op.intDiv, hb])
  · by_cases hb : b = 0
    · intro v h' e; simp only [aintop, hb, if_true] at e; cases e
    · simp only [aintop, hb, if_false]; exact PSim.pure (.int _ _) (by simp [binOp, Op.intDiv, hb])
  · exact absurd rfl hne.1
  · exact absurd rfl hne.2

theorem ashift_sim (op : BinOp) (ho : op = .shl ∨ op = .shr) (k k' : IntKind) (a b : Int) (t : TypeId) : PSim P h μ w (ashift op k a b) (binOp op t (.int k a) (.int k' b)) := by
  unfold ashift
  by_cases hb : b < 0
  · intro v h' e; simp only [hb, if_true] at e; cases e
  · simp only [hb, if_false]
    rcases ho with rfl | rfl <;> exact PSim.pure (.int _ _) (by simp [binOp, Op.shift, hb])

theorem astrop_sim (op : BinOp) (x y : ByteArray) (hne : op ≠ .shl ∧ op ≠ .shr) (t : TypeId) : PSim P h μ w (astrop op x.data.toList y.data.toList) (binOp op t (.string x) (.string y)) := by
  cases op <;> first
    | (refine PSim.pure (.bool _) ?_; simp [binOp, Op.stringOp, toList_bytes]; done)
    | (intro v h' e; cases e; done)
    | skip
  intro v h' e
  obtain ⟨_, h1, e1, e2⟩ := bind_some e
  obtain ⟨hg, rfl⟩ := guard_some e1
  obtain ⟨rfl, rfl⟩ := pure_some e2
  have hle : x.size + y.size ≤ 9223372036854775807 := by simpa [maxInt] using hg
  refine ⟨rfl, .string (x ++ y), ?_, .str _ _ (by simp)⟩
  have : ¬ (((x.size + y.size : Nat) : Int) > IntKind.i64.max) := by
    have : IntKind.i64.max = 9223372036854775807 := by decide
    rw [this]; omega
  simp only [binOp, Op.stringOp, this, if_false, Sem.run_pure]

theorem aun_sim (op : UnOp) {v : AV} {x : Value} (r : VR h μ w v x) : PSim P h μ w (aun op v) (Op.unary op x) := by
  cases r <;> try (intro v h' e; cases e; done)
  · cases op <;> first
      | (refine PSim.pure (.bool _) ?_; simp [Op.unary]; done)
      | (intro v h' e; cases e; done)
  · rename_i k n
    cases op with
    | neg => exact PSim.pure (.int _ _) (by simp [Op.unary, Op.intArith])
    | xor => exact PSim.pure (.int _ _) (by simp [Op.unary, Op.intBits])
    | not => intro v h' e; cases e
    | plus => intro v h' e; cases e

theorem extract_sim {vs : List AV} {x : Value} (r : VR h μ w (.tuple vs) x) (i : Nat) : PSim P h μ w (AM.ofOption vs[i]?) (Instr.extract x i) := by
  cases r with
  | tuple _ vals hl hr =>
    intro v h' e
    obtain ⟨e1, rfl⟩ := ofOption_some e
    obtain ⟨y, hy, r⟩ := VRs.get? ⟨hl, hr⟩ e1
    refine ⟨rfl, y, ?_, r⟩
    have : vals.toArray[i]? = some y := by simpa using hy
    simp [Instr.extract, hy]
end
end Go.Am
namespace Go.Am
open Go AM

section
variable {P : Program} {h h' : Hp} {μ : Nat → Nat} {w : World}

theorem run_part_agg {t : Nat} {d : TypeDesc} {i : TypeInfo} {cs : Array Value} {off : Nat} (hu : P.underlying t = some d) (hd : aggB d = true) (hi : P.info? t = some i) :
    (part t cs off).run P w = .ok (.agg (cs.extract off (off + i.size))) w := by
  simp only [part, Sem.run_bind, run_isAgg hu, hd, Result.andThen, run_sizeOf' hi, if_true, Sem.run_pure]
theorem run_part_cell {t : Nat} {d : TypeDesc} {cs : Array Value} {off : Nat} {x : Value} (hu : P.underlying t = some d) (hd : aggB d = false) (hx : cs[off]? = some x) :
    (part t cs off).run P w = .ok x w := by
  simp [part, Sem.run_bind, run_isAgg hu, hd, Result.andThen, hx]

theorem apart_sim {t off : Nat} {cells : List AV} {vals : List Value} {v : AV} (r : VRs h μ w cells vals) (e : apart P t cells off = some v) :
    ∃ x, (part t vals.toArray off).run P w = .ok x w ∧ VR h μ w v x := by
  unfold apart at e
  split at e
  · rename_i d hu
    split at e
    · rename_i hd
      split at e
      · rename_i i hi
        cases e
        refine ⟨_, run_part_agg hu hd hi, ?_⟩
        have hh := (r.drop off).take i.size
        have : vals.toArray.extract off (off + i.size) = ((vals.drop off).take i.size).toArray := by
          simp [List.take_drop]
        rw [this]
        exact .agg _ _ hh.1 hh.2
      · cases e
    · rename_i hd
      obtain ⟨x, hx, hr⟩ := r.get? e
      exact ⟨x, run_part_cell hu hd (by simpa using hx), hr⟩
  · cases e

theorem aeqIn_sim (d : Nat) : ∀ (t : Nat) (a b : AV) (x y : Value) (r : Bool) (D : Nat), d ≤ D → VR h μ w a x → VR h μ w b y → aeqIn P d t a b = some r → (Op.equalIn D t x y).run P w = .ok r w := by
  induction d with
  | zero => intro t a b x y r D _ _ _ e; cases e
  | succ d ih =>
    intro t a b x y r D hD ra rb e
    obtain ⟨D, rfl⟩ : ∃ D', D = D' + 1 := ⟨D - 1, by omega⟩
    unfold aeqIn at e
    split at e
    · rename_i hu; cases ra; cases rb; cases e; exact run_equalIn_bool' w D t _ _ hu
    · rename_i hu; cases ra; cases rb
      split at e
      · rename_i hk; subst hk; cases e; exact run_equalIn_int w D t _ _ _ _ hu
      · cases e
    · rename_i hu
      cases ra with | str s _ e1 => cases rb with | str s2 _ e2 =>
      cases e
      rw [run_equalIn_string w D t _ _ hu, toList_bytes, toList_bytes, e1, e2]
    · rename_i fs xs ys hu
      cases ra with | agg _ v1 l1 r1 => cases rb with | agg _ v2 l2 r2 =>
      cases hs : P.stoodInHeld t with
      | true => rw [hs] at e; cases e
      | false =>
        rw [hs] at e
        simp only [cond_false] at e
        have hfo : P.fieldsOf t = fs := by simp [Program.fieldsOf, hu]
        rw [run_equalIn_struct w D t _ _ (by rw [hfo]; exact hu) hs, hfo]
        clear hu hfo hs
        generalize fs.toList = l at e ⊢
        induction l with
        | nil => cases e; simp [Op.eqFields]
        | cons f l ihl =>
          rw [aeqFields] at e
          split at e
          · rename_i a' b' hname ha hb
            have hne : f.name ≠ "_" := by simpa using hname
            obtain ⟨xa, ha1, ha2⟩ := apart_sim ⟨l1, r1⟩ ha
            obtain ⟨xb, hb1, hb2⟩ := apart_sim ⟨l2, r2⟩ hb
            simp only [Op.eqFields, ne_eq, hne, not_false_eq_true, if_true, Sem.run_bind, ha1, hb1, Result.andThen]
            split at e
            · rename_i he
              simp only [ih _ _ _ _ _ _ D (by omega) ha2 hb2 he, Bool.not_true, Bool.false_eq_true, if_false]
              exact ihl e
            · rename_i he
              cases e
              simp only [ih _ _ _ _ _ _ D (by omega) ha2 hb2 he, Bool.not_false, if_true, Sem.run_pure]
            · cases e
          · cases e
    · cases e

theorem eq_nil_pointer (d : Nat) {t u : Nat} (hu : P.underlying t = some (.pointer u)) (o o' : Option Addr) (hn : o = none ∨ o' = none) : (Op.equalIn (d + 1) t (.pointer o) (.pointer o')).run P w = .ok (o.isNone == o'.isNone) w := by
  cases o <;> cases o' <;> first | (simp at hn; done) | simp [Op.equalIn, run_underlying hu]
theorem eq_nil_slice (d : Nat) {t u : Nat} (hu : P.underlying t = some (.slice u)) (o o' : Option Addr) (n c n' c' : Nat) (hn : o = none ∨ o' = none) : (Op.equalIn (d + 1) t (.slice o n c) (.slice o' n' c')).run P w = .ok (o.isNone == o'.isNone) w := by
  cases o <;> cases o' <;> first | (simp at hn; done) | simp [Op.equalIn, run_underlying hu]
theorem eq_nil_map (d : Nat) {t u v : Nat} (hu : P.underlying t = some (.map u v)) (o o' : Option Nat) (hn : o = none ∨ o' = none) : (Op.equalIn (d + 1) t (.map o) (.map o')).run P w = .ok (o.isNone == o'.isNone) w := by
  cases o <;> cases o' <;> first | (simp at hn; done) | simp [Op.equalIn, run_underlying hu]
theorem eq_nil_func (d : Nat) {t : Nat} {p q : Array TypeId} {z : Bool} (hu : P.underlying t = some (.func p q z)) (f : Fn) (a b : Array Value) :
    (Op.equalIn (d + 1) t .nilFunc .nilFunc).run P w = .ok true w ∧ (Op.equalIn (d + 1) t .nilFunc (.func f a b)).run P w = .ok false w ∧ (Op.equalIn (d + 1) t (.func f a b) .nilFunc).run P w = .ok false w := by
  simp [Op.equalIn, run_underlying hu]

/-- what a value of a kind that has a nil is -/
theorem nilKind_sim {d : TypeDesc} {a : AV} {x : Value} {b : Bool} (e : (nilKind d a).run h = some (b, h')) (r : VR h μ w a x) (s : SR h μ w) :
    h' = h ∧ ((∃ t o, d = .pointer t ∧ x = .pointer o ∧ b = o.isNone) ∨ (∃ t o n c, d = .slice t ∧ x = .slice o n c ∧ b = o.isNone) ∨ (∃ k t o, d = .map k t ∧ x = .map o ∧ b = o.isNone) ∨
      (∃ p q z, d = .func p q z ∧ ((x = .nilFunc ∧ b = true) ∨ (∃ f u v, x = .func f u v ∧ b = false)))) := by
  unfold nilKind at e
  split at e
  · obtain ⟨rfl, rfl⟩ := pure_some e; cases r; exact ⟨rfl, .inl ⟨_, _, rfl, rfl, rfl⟩⟩
  · obtain ⟨rfl, rfl⟩ := pure_some e; cases r; exact ⟨rfl, .inl ⟨_, _, rfl, rfl, rfl⟩⟩
  · obtain ⟨⟨_, _, _⟩, h1, e1, e2⟩ := bind_some e
    obtain ⟨rfl, o, ho, hv, _⟩ := rowOf_some e1
    obtain ⟨rfl, rfl⟩ := pure_some e2
    obtain rfl := r.ptr_live ho hv
    exact ⟨rfl, .inl ⟨_, _, rfl, rfl, rfl⟩⟩
  · obtain ⟨rfl, rfl⟩ := pure_some e
    cases r with | sl _ _ _ A cap vals hn hnil => obtain ⟨rfl, rfl⟩ := hnil rfl; exact ⟨rfl, .inr (.inl ⟨_, _, _, _, rfl, rfl, rfl⟩)⟩
  · obtain ⟨rfl, rfl⟩ := pure_some e
    cases r with | sl _ _ _ A cap vals hn hnil hfull =>
      refine ⟨rfl, .inr (.inl ⟨_, _, _, _, rfl, rfl, ?_⟩)⟩
      have := (hfull rfl).1
      cases A <;> simp_all
  · split at e
    · cases e
    · rename_i n hn0
      obtain ⟨rfl, rfl⟩ := pure_some e
      cases r with | sl _ _ _ A cap vals hn hnil hfull htight hpos =>
        refine ⟨rfl, .inr (.inl ⟨_, _, _, _, rfl, rfl, ?_⟩)⟩
        have := hpos (Nat.pos_of_ne_zero hn0)
        cases A <;> simp_all
  · obtain ⟨⟨_, _, _⟩, h1, e1, e2⟩ := bind_some e
    obtain ⟨rfl, o, ho, hv, hb⟩ := rowOf_some e1
    obtain ⟨rfl, rfl⟩ := pure_some e2
    obtain ⟨ad, cap, rfl, _⟩ := r.own_live ho hv hb
    exact ⟨rfl, .inr (.inl ⟨_, _, _, _, rfl, rfl, rfl⟩)⟩
  · obtain ⟨rfl, rfl⟩ := pure_some e; cases r; exact ⟨rfl, .inr (.inr (.inl ⟨_, _, _, rfl, rfl, rfl⟩))⟩
  · obtain ⟨_, h1, e1, e2⟩ := bind_some e
    obtain ⟨ho, rfl⟩ := hget_some e1
    obtain ⟨rfl, rfl⟩ := pure_some e2
    obtain rfl := r.map_live
    exact ⟨rfl, .inr (.inr (.inl ⟨_, _, _, rfl, rfl, rfl⟩))⟩
  · obtain ⟨rfl, rfl⟩ := pure_some e; cases r; exact ⟨rfl, .inr (.inr (.inr ⟨_, _, _, rfl, .inl ⟨rfl, rfl⟩⟩))⟩
  · obtain ⟨rfl, rfl⟩ := pure_some e; cases r; exact ⟨rfl, .inr (.inr (.inr ⟨_, _, _, rfl, .inr ⟨_, _, _, rfl, rfl⟩⟩))⟩
  · cases e

theorem isNil_sim {a : AV} {x : Value} (hn : isNil a = true) (r : VR h μ w a x) : x = .pointer none ∨ x = .slice none 0 0 ∨ x = .map none ∨ x = .nilFunc := by
  cases r with
  | nilptr => exact .inl rfl
  | sl k n cells A cap vals hle hnil =>
    cases k <;> simp [isNil] at hn
    obtain ⟨rfl, hc0⟩ := hnil rfl
    subst hc0
    obtain rfl : n = 0 := Nat.le_zero.1 hle
    exact .inr (.inl rfl)
  | nilmap => exact .inr (.inr (.inl rfl))
  | nilfunc => exact .inr (.inr (.inr rfl))
  | _ => simp [isNil] at hn

/-- two values that '==' compares by their type -/
def eqShape (x y : Value) : Prop := (∃ a b, x = .bool a ∧ y = .bool b) ∨ (∃ a b, x = .agg a ∧ y = .agg b) ∨ (∃ a b, x = .pointer a ∧ y = .pointer b) ∨ (∃ a n c b n' c', x = .slice a n c ∧ y = .slice b n' c') ∨
  (∃ a b, x = .map a ∧ y = .map b) ∨ ((x = .nilFunc ∨ ∃ f a b, x = .func f a b) ∧ (y = .nilFunc ∨ ∃ f a b, y = .func f a b))
theorem binOp_shape {t : Nat} {x y : Value} {r : Bool} (hs : eqShape x y) (e : (Op.equal t x y).run P w = .ok r w) :
    (binOp .eql t x y).run P w = .ok (.bool r) w ∧ (binOp .neq t x y).run P w = .ok (.bool !r) w := by
  rcases hs with ⟨a, b, rfl, rfl⟩ | ⟨a, b, rfl, rfl⟩ | ⟨a, b, rfl, rfl⟩ | ⟨a, n, c, b, n', c', rfl, rfl⟩ | ⟨a, b, rfl, rfl⟩ | ⟨rfl | ⟨f, a, b, rfl⟩, rfl | ⟨f', a', b', rfl⟩⟩ <;>
    simp only [binOp, Sem.run_bind, e, Result.andThen, Sem.run_pure, and_self]

theorem aequal_sim (s : SR h μ w) {t : Nat} {a b : AV} {x y : Value} {r : Bool} (e : (aequal P t a b).run h = some (r, h')) (ra : VR h μ w a x) (rb : VR h μ w b y) (o1 o2 : Operand) (op : BinOp) (hop : op = .eql ∨ op = .neq) :
    h' = h ∧ (eqGuard op t o1 o2 x y).run P w = .ok () w ∧ (Op.equal t x y).run P w = .ok r w ∧ eqShape x y := by
  unfold aequal at e
  have struct : ∀ (u : Unit) (h1 : Hp), (P.underlying t = some .bool ∨ ∃ fs, P.underlying t = some (.struct fs)) → (AM.guard (!(P.eqGuardType P.depth t))).run h = some (u, h1) → (AM.ofOption (aeqIn P 9 t a b)).run h1 = some (r, h') →
      h' = h ∧ (eqGuard op t o1 o2 x y).run P w = .ok () w ∧ (Op.equal t x y).run P w = .ok r w ∧ eqShape x y := by
    intro u h1 hk e1 e2
    obtain ⟨hg, rfl⟩ := guard_some e1
    obtain ⟨e3, rfl⟩ := ofOption_some e2
    have hm : P.eqGuardType P.depth t = false := by simpa using hg
    have hsh : (∃ a b, x = .bool a ∧ y = .bool b) ∨ (∃ a b, x = .agg a ∧ y = .agg b) := by
      unfold aeqIn at e3
      split at e3
      · cases ra; cases rb; exact .inl ⟨_, _, rfl, rfl⟩
      · rename_i hu; rw [hu] at hk; simp at hk
      · rename_i hu; rw [hu] at hk; simp at hk
      · cases ra; cases rb; exact .inr ⟨_, _, rfl, rfl⟩
      · cases e3
    refine ⟨rfl, ?_, aeqIn_sim 9 t a b x y r 10000 (by omega) ra rb e3, ?_⟩
    · rcases hsh with ⟨a, b, rfl, rfl⟩ | ⟨a, b, rfl, rfl⟩
      · rcases hop with rfl | rfl <;> simp [eqGuard]
      · exact run_eqGuard_agg w op t o1 o2 _ _ hm
    · rcases hsh with hh | hh
      · exact .inl hh
      · exact .inr (.inl hh)
  split at e
  · rename_i hu; obtain ⟨u, h1, e1, e2⟩ := bind_some e; exact struct u h1 (.inl hu) e1 e2
  · rename_i fs hu; obtain ⟨u, h1, e1, e2⟩ := bind_some e; exact struct u h1 (.inr ⟨fs, hu⟩) e1 e2
  · rename_i d hd1 hd2 hu
    obtain ⟨ba, h1, e1, e2⟩ := bind_some e
    obtain ⟨bb, h2, e3, e4⟩ := bind_some e2
    obtain ⟨u, h3, e5, e6⟩ := bind_some e4
    obtain ⟨rfl, k1⟩ := nilKind_sim e1 ra s
    obtain ⟨rfl, k2⟩ := nilKind_sim e3 rb s
    obtain ⟨hg, rfl⟩ := guard_some e5
    obtain ⟨rfl, rfl⟩ := pure_some e6
    refine ⟨rfl, ?_, ?_, ?_⟩
    · rcases k1 with ⟨_, _, rfl, rfl, _⟩ | ⟨_, _, _, _, rfl, rfl, _⟩ | ⟨_, _, _, rfl, rfl, _⟩ | ⟨_, _, _, rfl, ⟨rfl, _⟩ | ⟨_, _, _, rfl, _⟩⟩ <;> rcases hop with rfl | rfl <;> simp [eqGuard]
    · have hnil : isNil a = true ∨ isNil b = true := by simpa using hg
      have hx := fun hn : isNil a = true => isNil_sim hn ra
      have hy := fun hn : isNil b = true => isNil_sim hn rb
      show (Op.equalIn (9999 + 1) t x y).run P w = _
      rcases k1 with ⟨t', o, rfl, rfl, rfl⟩ | ⟨t', o, n, c, rfl, rfl, rfl⟩ | ⟨k', t', o, rfl, rfl, rfl⟩ | ⟨p, q, z, rfl, k1⟩
      · rcases k2 with ⟨_, o', hd, rfl, rfl⟩ | ⟨_, _, _, _, hd, _⟩ | ⟨_, _, _, hd, _⟩ | ⟨_, _, _, hd, _⟩ <;> try (cases hd; done)
        refine eq_nil_pointer 9999 hu o o' ?_
        rcases hnil with hn | hn
        · exact .inl (by simpa using hx hn)
        · exact .inr (by simpa using hy hn)
      · rcases k2 with ⟨_, _, hd, _⟩ | ⟨_, o', n', c', hd, rfl, rfl⟩ | ⟨_, _, _, hd, _⟩ | ⟨_, _, _, hd, _⟩ <;> try (cases hd; done)
        refine eq_nil_slice 9999 hu o o' n c n' c' ?_
        rcases hnil with hn | hn
        · have := hx hn; simp at this; exact .inl this.1
        · have := hy hn; simp at this; exact .inr this.1
      · rcases k2 with ⟨_, _, hd, _⟩ | ⟨_, _, _, _, hd, _⟩ | ⟨_, _, o', hd, rfl, rfl⟩ | ⟨_, _, _, hd, _⟩ <;> try (cases hd; done)
        refine eq_nil_map 9999 hu o o' ?_
        rcases hnil with hn | hn
        · exact .inl (by simpa using hx hn)
        · exact .inr (by simpa using hy hn)
      · rcases k2 with ⟨_, _, hd, _⟩ | ⟨_, _, _, _, hd, _⟩ | ⟨_, _, _, hd, _⟩ | ⟨_, _, _, hd, k2⟩ <;> try (cases hd; done)
        rcases k1 with ⟨rfl, rfl⟩ | ⟨f, u, v, rfl, rfl⟩ <;> rcases k2 with ⟨rfl, rfl⟩ | ⟨f', u', v', rfl, rfl⟩
        · exact (eq_nil_func 9999 hu (.func 0) #[] #[]).1
        · exact (eq_nil_func 9999 hu f' u' v').2.1
        · exact (eq_nil_func 9999 hu f u v).2.2
        · rcases hnil with hn | hn
          · have := hx hn; simp at this
          · have := hy hn; simp at this
    · rcases k1 with ⟨_, _, rfl, rfl, _⟩ | ⟨_, _, _, _, rfl, rfl, _⟩ | ⟨_, _, _, rfl, rfl, _⟩ | ⟨_, _, _, rfl, k1⟩ <;> rcases k2 with ⟨_, _, hd, rfl, _⟩ | ⟨_, _, _, _, hd, rfl, _⟩ | ⟨_, _, _, hd, rfl, _⟩ | ⟨_, _, _, hd, k2⟩ <;> try (cases hd; done)
      · exact .inr (.inr (.inl ⟨_, _, rfl, rfl⟩))
      · exact .inr (.inr (.inr (.inl ⟨_, _, _, _, _, _, rfl, rfl⟩)))
      · exact .inr (.inr (.inr (.inr (.inl ⟨_, _, rfl, rfl⟩))))
      · refine .inr (.inr (.inr (.inr (.inr ⟨?_, ?_⟩))))
        · rcases k1 with ⟨rfl, _⟩ | ⟨f, u, v, rfl, _⟩
          · exact .inl rfl
          · exact .inr ⟨_, _, _, rfl⟩
        · rcases k2 with ⟨rfl, _⟩ | ⟨f, u, v, rfl, _⟩
          · exact .inl rfl
          · exact .inr ⟨_, _, _, rfl⟩
  · cases e
end
end Go.Am
namespace Go.Am
open Go AM

section
variable {P : Program} {h h' : Hp} {μ : Nat → Nat} {w : World}

theorem VRs.length {l : List AV} {xs : List Value} (r : VRs h μ w l xs) : xs.length = l.length := r.1.symm

theorem abin_sim (s : SR h μ w) (op : BinOp) (t : TypeId) (o1 o2 : Operand) {a b : AV} {x y : Value} (ra : VR h μ w a x) (rb : VR h μ w b y) :
    PSim P h μ w (abin P op t a b) (do eqGuard op t o1 o2 x y; binOp op t x y) := by
  intro v h' e
  have scalar : ∀ (m : AM AV), (∀ v h', m.run h = some (v, h') → h' = h ∧ ∃ z, (binOp op t x y).run P w = .ok z w ∧ VR h μ w v z) → (eqGuard op t o1 o2 x y).run P w = .ok () w →
      m.run h = some (v, h') → h' = h ∧ ∃ z, ((do eqGuard op t o1 o2 x y; binOp op t x y : Sem Value)).run P w = .ok z w ∧ VR h μ w v z := by
    intro m hm hg e
    obtain ⟨rfl, z, h1, h2⟩ := hm v h' e
    exact ⟨rfl, z, by simp only [Sem.run_bind, hg, Result.andThen]; exact h1, h2⟩
  have guardInt : ∀ (k k' : IntKind) (i j : Int), x = .int k i → y = .int k' j → (eqGuard op t o1 o2 x y).run P w = .ok () w := by
    rintro k k' i j rfl rfl; cases op <;> simp [eqGuard]
  have guardStr : ∀ (i j : ByteArray), x = .string i → y = .string j → (eqGuard op t o1 o2 x y).run P w = .ok () w := by
    rintro i j rfl rfl; cases op <;> simp [eqGuard]
  unfold abin at e
  split at e
  · cases ra; cases rb; exact scalar _ (ashift_sim .shl (.inl rfl) _ _ _ _ t) (guardInt _ _ _ _ rfl rfl) e
  · cases ra; cases rb; exact scalar _ (ashift_sim .shr (.inr rfl) _ _ _ _ t) (guardInt _ _ _ _ rfl rfl) e
  · rename_i k i k' j n1 n2
    cases ra; cases rb
    split at e
    · rename_i hk; subst hk
      refine scalar _ (aintop_sim _ k i j ⟨?_, ?_⟩ t) (guardInt _ _ _ _ rfl rfl) e
      · rintro rfl; exact n1 rfl
      · rintro rfl; exact n2 rfl
    · cases e
  · cases ra with | str s1 _ e1 => cases rb with | str s2 _ e2 =>
    subst e1 e2
    by_cases hne : op = .shl ∨ op = .shr
    · rcases hne with rfl | rfl <;> cases e
    · exact scalar _ (astrop_sim op s1 s2 (by simpa using hne) t) (guardStr _ _ rfl rfl) e
  · obtain ⟨r, h1, e1, e2⟩ := bind_some e
    obtain ⟨rfl, hg, hq⟩ := aequal_sim s e1 ra rb o1 o2 .eql (.inl rfl)
    obtain ⟨rfl, rfl⟩ := pure_some e2
    exact ⟨rfl, .bool r, by simp only [Sem.run_bind, hg, Result.andThen, (binOp_shape hq.2 hq.1).1], .bool r⟩
  · obtain ⟨r, h1, e1, e2⟩ := bind_some e
    obtain ⟨rfl, hg, hq⟩ := aequal_sim s e1 ra rb o1 o2 .neq (.inr rfl)
    obtain ⟨rfl, rfl⟩ := pure_some e2
    exact ⟨rfl, .bool !r, by simp only [Sem.run_bind, hg, Result.andThen, (binOp_shape hq.2 hq.1).2], .bool _⟩
  · cases e

theorem fieldAddr_sim {t f : Nat} {a : AV} {x : Value} (s : SR h μ w) (r : VR h μ w a x) : PSim P h μ w (afieldAddr P t a f) (Instr.fieldAt t x f) := by
  intro v h' e
  obtain ⟨fd, h1, e1, e2⟩ := bind_some e
  obtain ⟨rfl, fs, hu, hf⟩ := fieldAt_some e1
  obtain ⟨n, h2, e3, e4⟩ := bind_some e2
  obtain ⟨rfl, i, hi, hn⟩ := szOf_some e3
  obtain ⟨_, h3, e5, e6⟩ := bind_some e4
  obtain ⟨hg, rfl⟩ := guard_some e5
  have hn0 : i.size ≠ 0 := by intro h0; rw [← hn, h0] at hg; simp at hg
  have hrun : ∀ ad : Addr, (Instr.fieldAt t (.pointer (some ad)) f).run P w = .ok (.pointer (some (ad.add fd.offset))) w := fun ad => by
    simp [Instr.fieldAt, Sem.run_bind, run_underlying hu, hf, Instr.sureAddr, fieldPlace, run_sizeOf' hi, hn0]
  split at e6
  · rename_i id ver off
    obtain ⟨rfl, rfl⟩ := pure_some e6
    cases r with
    | ptr _ _ _ o ho hv =>
      refine ⟨rfl, _, hrun _, ?_⟩
      rw [add_plain]; exact .ptr _ _ _ o ho hv
    | ptrOld _ _ _ ad o ho hv => exact ⟨rfl, _, hrun _, .ptrOld _ _ _ _ o ho hv⟩
  · rename_i cells
    obtain ⟨_, h4, e7, e8⟩ := bind_some e6
    obtain ⟨hg2, rfl⟩ := guard_some e7
    obtain ⟨rfl, rfl⟩ := pure_some e8
    cases r with
    | iptr _ ad vals hh hb hl hc hr =>
      refine ⟨rfl, _, hrun _, ?_⟩
      have rr := VRs.drop (h := h') (μ := μ) (w := w) ⟨hl, hr⟩ fd.offset
      exact .iptr _ _ (vals.drop fd.offset) (by rw [add_block]; exact hh) (by rw [add_block]; exact hb) rr.1 (At.drop hc _) rr.2
  · cases e6

theorem VRs.toAgg {cells : List AV} {x : Value} (r : VR h μ w (.agg cells) x) : ∃ vals : List Value, x = .agg vals.toArray ∧ VRs h μ w cells vals := by
  cases r with | agg _ vals hl hr => exact ⟨vals, rfl, hl, hr⟩

/-- a part of some cells, read -/
theorem aread_part {t : Nat} {cells : List AV} {v : AV} {vals : List Value} {off : Nat} (e : (aread P t (cells.drop off)).run h = some (v, h')) (r : VRs h μ w cells vals) :
    h' = h ∧ ∃ x, (part t vals.toArray off).run P w = .ok x w ∧ VR h μ w v x := by
  obtain ⟨d, h1, e1, e2⟩ := bind_some e
  obtain ⟨rfl, hu⟩ := underOf_some e1
  cases hd : aggB d with
  | true =>
    rw [hd] at e2
    obtain ⟨n, h2, e3, e4⟩ := bind_some e2
    obtain ⟨rfl, i, hi, hn⟩ := szOf_some e3
    obtain ⟨_, h3, e5, e6⟩ := bind_some e4
    obtain ⟨hg, rfl⟩ := guard_some e5
    obtain ⟨rfl, rfl⟩ := pure_some e6
    refine ⟨rfl, _, run_part_agg hu hd hi, ?_⟩
    have hh := (r.drop off).take n
    have : vals.toArray.extract off (off + i.size) = ((vals.drop off).take n).toArray := by
      rw [← hn]; simp [List.take_drop]
    rw [this]
    exact .agg _ _ hh.1 hh.2
  | false =>
    rw [hd] at e2
    obtain ⟨e3, rfl⟩ := ofOption_some e2
    have e4 : cells[off]? = some v := by rw [List.head?_drop] at e3; exact e3
    clear e2
    obtain ⟨x, hx, hr⟩ := r.get? e4
    exact ⟨rfl, x, run_part_cell hu hd (by simpa using hx), hr⟩

theorem field_sim {t f : Nat} {a : AV} {x : Value} (r : VR h μ w a x) : PSim P h μ w (afield P t a f) (Instr.field t x f) := by
  intro v h' e
  obtain ⟨fd, h1, e1, e2⟩ := bind_some e
  obtain ⟨rfl, fs, hu, hf⟩ := fieldAt_some e1
  split at e2
  · rename_i cells
    obtain ⟨_, h2, e3, e4⟩ := bind_some e2
    obtain ⟨hg, rfl⟩ := guard_some e3
    obtain ⟨vals, rfl, rr⟩ := VRs.toAgg r
    obtain ⟨rfl, y, hy, ry⟩ := aread_part e4 rr
    exact ⟨rfl, y, by simp [Instr.field, Sem.run_bind, run_underlying hu, hf, asAgg, hy], ry⟩
  · cases e2

theorem within_iff {i : Int} {n : Nat} : within i n = true ↔ 0 ≤ i ∧ i < n := by simp [within]

theorem indexAddr_sim (s : SR h μ w) {t : Nat} {a b : AV} {x y : Value} (r : VR h μ w a x) (r2 : VR h μ w b y) : PSim P h μ w (aindexAddr P t a b) (Instr.indexAt t x y) := by
  intro v h' e
  unfold aindexAddr at e
  split at e
  · rename_i k i
    cases r2
    split at e
    · rename_i el kk n cells hu
      obtain ⟨sz, h1, e1, e2⟩ := bind_some e
      obtain ⟨rfl, inf, hi, hn⟩ := szOf_some e1
      obtain ⟨_, h2, e3, e4⟩ := bind_some e2
      obtain ⟨hg, rfl⟩ := guard_some e3
      obtain ⟨rfl, rfl⟩ := pure_some e4
      simp only [Bool.and_eq_true, within_iff, Nat.beq_eq, Bool.not_eq_true', Bool.eq_false_iff, ne_eq] at hg
      obtain ⟨⟨hw, hlen⟩, hsz⟩ := hg
      cases r with
      | sl _ _ _ A cap vals hle hnil hfull htight hpos hh hl hs hc hr =>
        have hA := hpos (by omega)
        obtain ⟨ad, rfl⟩ := Option.isSome_iff_exists.1 hA
        have hlt : i.toNat < n := by omega
        refine ⟨rfl, .pointer (some (ad.add (i.toNat * sz))), ?_, ?_⟩
        · simp [Instr.indexAt, Sem.run_bind, asIntOf, run_underlying hu, hw.1, hw.2, run_sizeOf' hi, hn]
        · have hne : cells ≠ [] := by
            intro h0
            rw [h0] at hlen
            rcases Nat.mul_eq_zero.1 hlen with h0 | h0 <;> omega
          obtain ⟨q1, q2⟩ := hh ad rfl hne
          have rr := VRs.drop (h := h') (μ := μ) (w := w) ⟨hl, hr⟩ (i.toNat * sz)
          exact .iptr _ _ (vals.drop (i.toNat * sz)) (by rw [add_block]; exact q1) (by rw [add_block]; exact q2) rr.1 (At.drop (hc ad rfl) _) rr.2
    · rename_i el id ver off n hu
      obtain ⟨sz, h1, e1, e2⟩ := bind_some e
      obtain ⟨rfl, inf, hi, hn⟩ := szOf_some e1
      obtain ⟨⟨esz, cells, fix⟩, h2, e3, e4⟩ := bind_some e2
      obtain ⟨rfl, o, ho, hv, hbody⟩ := rowOf_some e3
      obtain ⟨_, h3, e5, e6⟩ := bind_some e4
      obtain ⟨hg, rfl⟩ := guard_some e5
      obtain ⟨rfl, rfl⟩ := pure_some e6
      simp only [Bool.and_eq_true, within_iff, Nat.ble_eq] at hg
      obtain ⟨hw, hlen⟩ := hg
      obtain ⟨ad, cap, rfl, hcap, hex⟩ := r.own_live ho hv hbody
      obtain ⟨rfl, _⟩ := hex (.inl (by omega))
      refine ⟨rfl, .pointer (some ((⟨μ id, off, none⟩ : Addr).add (i.toNat * sz))), ?_, ?_⟩
      · simp [Instr.indexAt, Sem.run_bind, asIntOf, run_underlying hu, hw.1, hw.2, run_sizeOf' hi, hn]
      · rw [add_plain]; exact .ptr _ _ _ o ho hv
    · rename_i n el cells hu
      obtain ⟨sz, h1, e1, e2⟩ := bind_some e
      obtain ⟨rfl, inf, hi, hn⟩ := szOf_some e1
      obtain ⟨_, h2, e3, e4⟩ := bind_some e2
      obtain ⟨hg, rfl⟩ := guard_some e3
      obtain ⟨rfl, rfl⟩ := pure_some e4
      simp only [Bool.and_eq_true, within_iff, Nat.ble_eq] at hg
      obtain ⟨hw, hlen⟩ := hg
      cases r with
      | iptr _ ad vals hh hb hl hc hr =>
        refine ⟨rfl, .pointer (some (ad.add (i.toNat * sz))), ?_, ?_⟩
        · simp [Instr.indexAt, Sem.run_bind, asIntOf, run_underlying hu, hw.1, hw.2, run_sizeOf' hi, hn, Instr.sureAddr]
        · have rr := VRs.drop (h := h') (μ := μ) (w := w) ⟨hl, hr⟩ (i.toNat * sz)
          exact .iptr _ _ (vals.drop (i.toNat * sz)) (by rw [add_block]; exact hh) (by rw [add_block]; exact hb) rr.1 (At.drop hc _) rr.2
    · rename_i n el id ver off hu
      obtain ⟨sz, h1, e1, e2⟩ := bind_some e
      obtain ⟨rfl, inf, hi, hn⟩ := szOf_some e1
      obtain ⟨_, h2, e3, e4⟩ := bind_some e2
      obtain ⟨hg, rfl⟩ := guard_some e3
      obtain ⟨rfl, rfl⟩ := pure_some e4
      have hw := within_iff.1 hg
      have hrun : ∀ ad : Addr, (Instr.indexAt t (.pointer (some ad)) (.int k i)).run P w = .ok (.pointer (some (ad.add (i.toNat * sz)))) w := fun ad => by
        simp [Instr.indexAt, Sem.run_bind, asIntOf, run_underlying hu, hw.1, hw.2, run_sizeOf' hi, hn, Instr.sureAddr]
      cases r with
      | ptr _ _ _ o ho hv => exact ⟨rfl, _, hrun _, by rw [add_plain]; exact .ptr _ _ _ o ho hv⟩
      | ptrOld _ _ _ ad o ho hv => exact ⟨rfl, _, hrun _, .ptrOld _ _ _ _ o ho hv⟩
    · cases e
  · cases e

theorem index_sim {t : Nat} {a b : AV} {x y : Value} (r : VR h μ w a x) (r2 : VR h μ w b y) : PSim P h μ w (aindex P t a b) (Instr.index t x y) := by
  intro v h' e
  unfold aindex at e
  split at e
  · rename_i k i
    cases r2
    split at e
    · rename_i n el cells hu
      obtain ⟨sz, h1, e1, e2⟩ := bind_some e
      obtain ⟨rfl, inf, hi, hn⟩ := szOf_some e1
      obtain ⟨_, h2, e3, e4⟩ := bind_some e2
      obtain ⟨hg, rfl⟩ := guard_some e3
      simp only [Bool.and_eq_true, within_iff, Nat.ble_eq] at hg
      obtain ⟨hw, hlen⟩ := hg
      obtain ⟨vals, rfl, rr⟩ := VRs.toAgg r
      obtain ⟨rfl, z, hz, rz⟩ := aread_part e4 rr
      exact ⟨rfl, z, by simp [Instr.index, Sem.run_bind, asIntOf, run_underlying hu, hw.1, hw.2, run_sizeOf' hi, hn, hz], rz⟩
    · rename_i s hu
      obtain ⟨_, h2, e3, e4⟩ := bind_some e
      obtain ⟨hg, rfl⟩ := guard_some e3
      obtain ⟨b, h3, e5, e6⟩ := bind_some e4
      obtain ⟨hb, rfl⟩ := ofOption_some e5
      obtain ⟨rfl, rfl⟩ := pure_some e6
      have hw := within_iff.1 hg
      cases r with | str s' _ e' =>
      subst e'
      have hsz : s'.data.toList.length = s'.size := by rw [Array.length_toList]; rfl
      have hlt : i.toNat < s'.size := by omega
      have hb' : s'[i.toNat]? = some b := by
        rw [getElem?_pos s' i.toNat hlt]
        rw [List.getElem?_eq_getElem (by omega)] at hb
        cases hb
        rfl
      exact ⟨rfl, .int .u8 b.toNat, by simp [Instr.index, Sem.run_bind, asIntOf, run_underlying hu, hw.1, hb'], .int _ _⟩
    · cases e
  · cases e
end
end Go.Am
