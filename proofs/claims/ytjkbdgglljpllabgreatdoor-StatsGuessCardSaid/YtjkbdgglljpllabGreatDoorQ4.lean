/- The A-machine: the steps themselves. It holds no program. -/
import Derived.Test.YtjkbdgglljpllabGreatDoorQ3
import Derived.Test.YtjkbdgglljpllabGreatDoorChecked
import Derived.KernelRfl
set_option linter.unusedVariables false
set_option linter.unusedSimpArgs false
namespace Go.Am
open Go AM

/-! ### a region's run, of whatever order -/
structure Rg where
  chk : Bool
  ms : List Nat
  dsts : List (Option Tmp)
abbrev Seen := List (Nat × List (Bool × Nat))

/-- is an operation carried out? -/
def wantedM (R : Rg) (T : Temps) (o : Oper) : AM Bool := match o.guard with
  | none => pure true
  | some (j, want) => match (R.dsts[j]?).bind id with
    | none => pure false
    | some t => match tget T t with
      | .bool b => pure (b == want)
      | .undef => AM.fail
      | _ => pure false
theorem wantedM_eq (ops : List Oper) (R : Rg) (hR : R.dsts = ops.map (·.dst)) (T : Temps) (o : Oper) : awanted ops T o = wantedM R T o := by
  unfold awanted wantedM
  rw [hR]
  cases o.guard with
  | none => rfl
  | some p =>
    obtain ⟨j, want⟩ := p
    simp only [List.getElem?_map]
    cases ops[j]? <;> rfl

section
variable (P : Program) (pol : Pol) (call : Calling) (fn nt : Nat)
def aopsM (R : Rg) : List (Nat × Oper) → Seen → Temps → AM Temps
  | [], _, T => pure T
  | (i, o) :: rest, seen, T => do
    let b ← wantedM R T o
    match b with
    | false => aopsM R rest seen (tput? nt T o.dst (.tuple []))
    | true => match opClass o.op with
      | 0 => do
        let v ← aop P pol call fn o (aeval T)
        aopsM R rest ((i, operIds (aeval T) o) :: seen) (tput? nt T o.dst v)
      | 1 => do
        let v ← aop P pol call fn o (aeval T)
        aopsM R rest seen (tput? nt T o.dst v)
      | _ => match R.chk with
        | false => do
          let v ← aop P pol call fn o (aeval T)
          aopsM R rest seen (tput? nt T o.dst v)
        | true => do
          let ids := (seen.filter fun s => !(ahead R.ms s.1 i)).flatMap (·.2)
          let before ← astamps ids
          let v ← aop P pol call fn o (aeval T)
          let after ← astamps ids
          AM.guard (before == after)
          aopsM R rest seen (tput? nt T o.dst v)
end

def number : Nat → List Oper → List (Nat × Oper)
  | _, [] => []
  | k, o :: r => (k, o) :: number (k + 1) r
def pickAll (ops : List Oper) : List Nat → List (Nat × Oper)
  | [] => []
  | i :: r => match ops[i]? with
    | some o => (i, o) :: pickAll ops r
    | none => pickAll ops r

section
variable {P : Program} {pol : Pol} {call : Calling} {fn nt fuel : Nat}

theorem bind_ext {α β : Type} {m m' : AM α} {f g : α → AM β} (e : m = m') (k : ∀ a, f a = g a) : (m >>= f) = (m' >>= g) := by
  subst e
  rw [show f = g from funext k]

theorem aops_M (all : List Oper) : ∀ (pre rest : List Oper) (seen : Seen) (T : Temps), all = pre ++ rest →
    aops P pol call fn nt all (List.range' pre.length rest.length) T = aopsM P pol call fn nt ⟨false, [], all.map (·.dst)⟩ (number pre.length rest) seen T
  | pre, [], seen, T, _ => rfl
  | pre, o :: rest, seen, T, e => by
    have ho : all[pre.length]? = some o := by rw [e]; simp
    have ih := fun seen T => aops_M all (pre ++ [o]) rest seen T (by rw [e]; simp)
    simp only [List.length_append, List.length_singleton] at ih
    simp only [List.length_cons, List.range'_succ, aops, ho, number, aopsM]
    refine bind_ext (wantedM_eq all _ rfl T o) fun b => ?_
    cases b with
    | false => exact ih _ _
    | true =>
      dsimp only
      split
      · exact bind_ext rfl fun v => ih _ _
      · exact bind_ext rfl fun v => ih _ _
      · exact bind_ext rfl fun v => ih _ _
theorem aopsD_M (all : List Oper) (ms : List Nat) : ∀ (l : List Nat) (seen : Seen) (T : Temps), (∀ i ∈ l, i < all.length) →
    aopsD P pol call fn nt all ms l seen T = aopsM P pol call fn nt ⟨true, ms, all.map (·.dst)⟩ (pickAll all l) seen T
  | [], seen, T, _ => rfl
  | i :: rest, seen, T, hl => by
    have hi : i < all.length := hl i List.mem_cons_self
    have ho : all[i]? = some all[i] := List.getElem?_eq_getElem hi
    have ih := fun seen T => aopsD_M all ms rest seen T (fun j hj => hl j (List.mem_cons_of_mem _ hj))
    simp only [aopsD, ho, pickAll, aopsM]
    refine bind_ext (wantedM_eq all _ rfl T _) fun b => ?_
    cases b with
    | false => exact ih _ _
    | true =>
      dsimp only
      generalize opClass all[i].op = c
      rcases c with _ | _ | c
      · exact bind_ext rfl fun v => ih _ _
      · exact bind_ext rfl fun v => ih _ _
      · exact bind_ext rfl fun b => bind_ext rfl fun v => bind_ext rfl fun a => bind_ext rfl fun _ => ih _ _
end

def SeenOk (h : Hp) (seen : Seen) : Prop := ∀ s ∈ seen, ∀ x ∈ s.2, (h.get x.2).isSome = true
theorem SeenOk.dom {h h' : Hp} {seen : Seen} (s : SeenOk h seen) (d : Dom h h') : SeenOk h' seen := fun a ha x hx => by
  obtain ⟨o, ho⟩ := Option.isSome_iff_exists.1 (s a ha x hx)
  obtain ⟨o', ho'⟩ := d.pers _ _ ho
  rw [ho']; rfl
/-- what was looked at and is not ordered is not touched -/
def Undis (R : Rg) (seen : Seen) (i : Nat) (h h1 : Hp) : Prop := R.chk = true → SeenOk h seen → ∀ s ∈ seen, ahead R.ms s.1 i = true ∨ ∀ x ∈ s.2, h1.get x.2 = h.get x.2
theorem Keep.undis {R : Rg} {seen : Seen} {i : Nat} {h h1 : Hp} (k : Keep h h1) : Undis R seen i h h1 := fun _ s a ha => .inr fun x hx => by
  obtain ⟨o, ho⟩ := Option.isSome_iff_exists.1 (s a ha x hx)
  rw [ho]; exact k.same _ _ ho
theorem Undis.off {R : Rg} {seen : Seen} {i : Nat} {h h1 : Hp} (e : R.chk = false) : Undis R seen i h h1 := fun e' => by rw [e] at e'; cases e'
theorem Undis.ahead {R : Rg} {seen : Seen} {i : Nat} {h h1 : Hp} (e : (seen.all fun s => ahead R.ms s.1 i || s.2.isEmpty) = true) : Undis R seen i h h1 := fun _ _ s hs => by
  have := List.all_eq_true.1 e s hs
  rcases Bool.or_eq_true_iff.1 this with q | q
  · exact .inl q
  · exact .inr fun x hx => by rw [List.isEmpty_iff.1 q] at hx; cases hx

theorem astamps_run {h : Hp} : ∀ (ids : List (Bool × Nat)), (∀ x ∈ ids, (h.get x.2).isSome = true) → ∃ l, (astamps ids).run h = some (l, h) ∧ ∀ h1 : Hp, (∀ x ∈ ids, h1.get x.2 = h.get x.2) → (astamps ids).run h1 = some (l, h1)
  | [], _ => ⟨[], rfl, fun _ _ => rfl⟩
  | (c, id) :: r, hs => by
    obtain ⟨l, h1, h2⟩ := astamps_run r fun x hx => hs x (List.mem_cons_of_mem _ hx)
    obtain ⟨o, ho⟩ := Option.isSome_iff_exists.1 (hs _ List.mem_cons_self)
    refine ⟨signOf c o :: l, ?_, fun h' e => ?_⟩
    · simp only [astamps, run_bind, AM.hget]
      dsimp only at ho
      simp only [ho, h1]
      rfl
    · simp only [astamps, run_bind, AM.hget]
      have e1 := e _ List.mem_cons_self
      dsimp only at ho e1
      simp only [e1, ho, h2 h' fun x hx => e x (List.mem_cons_of_mem _ hx)]
      rfl

section
variable (P : Program) (pol : Pol) (call : Calling) (fn nt : Nat)
/-- the rest of a region ends well -/
def ROps (R : Rg) (rest : List (Nat × Oper)) (seen : Seen) (T : Temps) (h : Hp) (Q : Temps → Hp → Prop) : Prop :=
  (R.chk = true → SeenOk h seen) → Runs (aopsM P pol call fn nt R rest seen T) h Q
end

section
variable {P : Program} {pol : Pol} {call : Calling} {fn nt fuel : Nat} {h : Hp} {T : Temps} {R : Rg} {rest : List (Nat × Oper)} {seen : Seen} {i : Nat} {Q : Temps → Hp → Prop}

theorem R_region {id : Nat} {ops : Array Oper} {Q : Exit × Temps → Hp → Prop} (r : ROps P pol call fn nt ⟨false, [], ops.toList.map (·.dst)⟩ (number 0 ops.toList) [] T h (KOps Q)) :
    Runs (acode P pol call fn nt fuel (.region id ops false) T) h Q := by
  simp only [acode, aregion]
  rw [List.range_eq_range']
  have := aops_M (P := P) (pol := pol) (call := call) (fn := fn) (nt := nt) ops.toList [] ops.toList [] T rfl
  simp only [List.length_nil] at this
  rw [this]
  exact Runs.bind ((r fun e => by cases e).mono fun T1 h1 k => Runs.pure k)
theorem R_drawn {id : Nat} {ops : Array Oper} {Q : Exit × Temps → Hp → Prop} (l ms : List Nat) (hl : orderOf ops.toList = some l) (hm : masks ops.toList = ms) (hlt : (l.all fun i => Nat.blt i ops.toList.length) = true)
    (r : ROps P pol call fn nt ⟨true, ms, ops.toList.map (·.dst)⟩ (pickAll ops.toList l) [] T h (KOps Q)) :
    Runs (acode P pol call fn nt fuel (.region id ops true) T) h Q := by
  simp only [acode, aregion, hl]
  rw [hm, aopsD_M _ _ _ _ _ (fun i hi => by simpa using List.all_eq_true.1 hlt i hi)]
  exact Runs.bind ((r fun e a ha => by cases ha).mono fun T1 h1 k => Runs.pure k)

theorem O_nil (q : Q T h) : ROps P pol call fn nt R [] seen T h Q := fun _ => Runs.pure q
theorem wantedM_none {o : Oper} (hg : o.guard = none) : wantedM R T o = pure true := by unfold wantedM; rw [hg]
theorem O_read {o : Oper} {v : AV} (ids : List (Bool × Nat)) (hg : o.guard = none) (hc : opClass o.op = 0) (hi : operIds (aeval T) o = ids) (hs : ∀ x ∈ ids, (h.get x.2).isSome = true)
    (hv : (aop P pol call fn o (aeval T)).run h = some (v, h)) (r : ROps P pol call fn nt R rest ((i, ids) :: seen) (tput? nt T o.dst v) h Q) : ROps P pol call fn nt R ((i, o) :: rest) seen T h Q := fun hk => by
  simp only [aopsM, wantedM_none hg]
  rw [hc, hi]
  refine Runs.bind (Runs.pure (Runs.bind (Runs.of hv (r fun e a ha => ?_))))
  cases ha with
  | head => exact hs
  | tail _ ha => exact hk e a ha
theorem O_make {o : Oper} (hg : o.guard = none) (hc : opClass o.op = 1) (r : Runs (aop P pol call fn o (aeval T)) h fun v h1 => ROps P pol call fn nt R rest seen (tput? nt T o.dst v) h1 Q) :
    ROps P pol call fn nt R ((i, o) :: rest) seen T h Q := fun hk => by
  simp only [aopsM, wantedM_none hg]
  rw [hc]
  refine Runs.bind (Runs.pure (Runs.bind fun w => ?_))
  obtain ⟨v, h1, e, q⟩ := r w
  exact ⟨v, h1, e, q fun e' => (hk e').dom ((aop P pol call fn o (aeval T)).good.1 _ _ _ e)⟩
theorem O_do {o : Oper} (hg : o.guard = none) (hc : opClass o.op = 2) (r : Runs (aop P pol call fn o (aeval T)) h fun v h1 => Undis R seen i h h1 ∧ ROps P pol call fn nt R rest seen (tput? nt T o.dst v) h1 Q) :
    ROps P pol call fn nt R ((i, o) :: rest) seen T h Q := fun hk => by
  simp only [aopsM, wantedM_none hg]
  rw [hc]
  refine Runs.bind (Runs.pure ?_)
  dsimp only
  cases hR : R.chk with
  | false =>
    dsimp only
    refine Runs.bind fun w => ?_
    obtain ⟨v, h1, e, _, q⟩ := r w
    exact ⟨v, h1, e, q fun e' => by rw [hR] at e'; cases e'⟩
  | true =>
    dsimp only
    have hso := hk hR
    have hex : ∀ x ∈ (seen.filter fun s => !(ahead R.ms s.1 i)).flatMap (·.2), (h.get x.2).isSome = true := fun x hx => by
      obtain ⟨a, ha, hx⟩ := List.mem_flatMap.1 hx
      exact hso a (List.mem_filter.1 ha).1 x hx
    obtain ⟨l, e1, e2⟩ := astamps_run _ hex
    refine Runs.bind (Runs.of e1 (Runs.bind fun w => ?_))
    obtain ⟨v, h1, e, u, q⟩ := r w
    refine ⟨v, h1, e, Runs.bind (Runs.of (e2 h1 fun x hx => ?_) (Runs.bind (Runs.guard (by simp) ?_)))⟩
    · obtain ⟨a, ha, hx⟩ := List.mem_flatMap.1 hx
      obtain ⟨ha1, ha2⟩ := List.mem_filter.1 ha
      rcases u hR hso a ha1 with u | u
      · rw [u] at ha2; cases ha2
      · exact u x hx
    · exact q fun _ => hso.dom ((aop P pol call fn o (aeval T)).good.1 _ _ _ e)

/-- an operation under a guard that holds, that does not -/
theorem O_yes {o : Oper} {j t : Nat} {want : Bool} (hg : o.guard = some (j, want)) (hd : (R.dsts[j]?).bind id = some t) (hb : tget T t = .bool want)
    (r : ROps P pol call fn nt R ((i, { o with guard := none }) :: rest) seen T h Q) : ROps P pol call fn nt R ((i, o) :: rest) seen T h Q := fun hk => by
  have hw : wantedM R T o = pure true := by
    unfold wantedM
    rw [hg]
    simp only [hd, hb]
    cases want <;> rfl
  have := r hk
  simp only [aopsM, wantedM_none (o := { o with guard := none }) rfl] at this
  simp only [aopsM, hw]
  exact this
theorem O_no {o : Oper} {j t : Nat} {want b : Bool} (hg : o.guard = some (j, want)) (hd : (R.dsts[j]?).bind id = some t) (hb : tget T t = .bool b) (hn : b = !want)
    (r : ROps P pol call fn nt R rest seen (tput? nt T o.dst (.tuple [])) h Q) : ROps P pol call fn nt R ((i, o) :: rest) seen T h Q := fun hk => by
  have hw : wantedM R T o = pure false := by
    unfold wantedM
    rw [hg]
    simp only [hd, hb, hn]
    cases want <;> rfl
  simp only [aopsM, hw]
  exact Runs.bind (Runs.pure (r hk))

/-! ### reading slots -/
theorem tg_same {t : Nat} {v : AV} (h : Nat.blt t nt = true) : tget (tput nt T t v) t = v := by
  rw [tget_tput, if_pos ⟨by simpa [Nat.blt_eq] using h, rfl⟩]
theorem tg_ne {t u : Nat} {v x : AV} (h : Nat.beq u t = false) (k : tget T u = x) : tget (tput nt T t v) u = x := by
  rw [tget_tput, if_neg]
  · exact k
  · rintro ⟨_, rfl⟩; simp at h
theorem tgo_same {t : Nat} {v : AV} (h : Nat.blt t nt = true) : tget (tput? nt T (some t) v) t = v := tg_same h
theorem tgo_ne {t u : Nat} {v x : AV} (h : Nat.beq u t = false) (k : tget T u = x) : tget (tput? nt T (some t) v) u = x := tg_ne h k
theorem tgo_none {u : Nat} {v x : AV} (k : tget T u = x) : tget (tput? nt T none v) u = x := k
theorem ev_tmp {t : Nat} {x : AV} (k : tget T t = x) : aeval T (.tmp t) = x := k
theorem ev_int (k : IntKind) (n : Int) : aeval T (.const (.int k n)) = .int k n := rfl
theorem ev_bool (b : Bool) : aeval T (.const (.bool b)) = .bool b := rfl
theorem ev_str (s : ByteArray) : aeval T (.const (.string s)) = .str s.data.toList := rfl
theorem ev_nilptr : aeval T (.const (.pointer none)) = .nilptr := rfl
theorem ev_nilsl : aeval T (.const (.slice none 0 0)) = .sl .nil 0 [] := rfl
theorem ev_nilmap : aeval T (.const (.map none)) = .nilmap := rfl
theorem ev_nilfunc : aeval T (.const .nilFunc) = .nilfunc := rfl
theorem ev_func (f : FuncId) : aeval T (.func f) = .func (.func f) [] [] := rfl
end
end Go.Am
namespace Go.Am
open Go AM

/-! ### what is asked of types: found by instances -/
class TSz (P : Program) (t : TypeId) (n : outParam Nat) : Prop where sz : szOf P t = pure n
class TBytes (P : Program) (t : TypeId) (n : outParam Nat) : Prop where bytes : bytesOf P t = pure n
class TZero (P : Program) (t : TypeId) (z : outParam AV) : Prop where zero : zeroOf P t = pure z
class TSl (P : Program) (t : TypeId) (e : outParam TypeId) : Prop where un : P.underlying t = some (.slice e)
class TMap (P : Program) (t : TypeId) (k e : outParam TypeId) : Prop where un : P.underlying t = some (.map k e)
class TInt (P : Program) (t : TypeId) (k : outParam IntKind) : Prop where un : P.underlying t = some (.int k)
class TStr (P : Program) (t : TypeId) : Prop where un : P.underlying t = some .string
/-- a type of one cell, of some -/
class TOne (P : Program) (t : TypeId) : Prop where rd : ∀ v cells, aread P t (v :: cells) = pure v
class TAgg (P : Program) (t : TypeId) (n : outParam Nat) : Prop where rd : ∀ cells, Nat.ble n cells.length = true → aread P t cells = pure (.agg (cells.take n))
class TField (P : Program) (s : TypeId) (f : Nat) (off : outParam Nat) (t : outParam TypeId) : Prop where
  fa : ∀ id ver o, afieldAddr P s (.ptr id ver o) f = pure (.ptr id ver (o + off))
  fi : ∀ cells, Nat.ble off cells.length = true → afieldAddr P s (.iptr cells) f = pure (.iptr (cells.drop off))
  ff : ∀ cells, Nat.ble off cells.length = true → afield P s (.agg cells) f = aread P t (cells.drop off)

theorem elem_of {P : Program} {t e : TypeId} (h : P.underlying t = some (.slice e)) : elemOf P t = pure e := by unfold elemOf; rw [h]

/-! ### slices, places -/
def vids : AV → List Nat
  | .own id _ _ _ => [id]
  | _ => []
inductive SlV (h : Hp) (sz : Nat) : AV → Nat → List AV → Prop
  | imm (k : SK) (n : Nat) (cells : List AV) (e : n * sz = cells.length) : SlV h sz (.sl k n cells) n cells
  | own (id ver off n : Nat) (row : List AV) (fix : Bool) (r : Row h id ver sz row fix) (e : off + n * sz ≤ row.length) : SlV h sz (.own id ver off n) n ((row.drop off).take (n * sz))
/-- a slice that may grow -/
def growB : AV → Bool
  | .sl .any _ _ => false
  | .sl _ _ _ => true
  | .own _ _ off _ => Nat.beq off 0
  | _ => false
/-- a place, and what lies from there on at least -/
inductive AtV (h : Hp) : AV → List AV → Prop
  | imm (cells rest : List AV) : AtV h (.iptr (cells ++ rest)) cells
  | ptr (id ver off esz : Nat) (row cells rest : List AV) (fix : Bool) (r : Row h id ver esz row fix) (e : row.drop off = cells ++ rest) : AtV h (.ptr id ver off) cells

section
variable {h h1 : Hp} {sz n : Nat} {v : AV} {cells : List AV}
theorem SlV.length (s : SlV h sz v n cells) : n * sz = cells.length := by
  cases s with
  | imm _ _ _ e => exact e
  | own _ _ _ _ _ _ _ e => simp; omega
theorem SlV.keepBut {X : Nat → Prop} (s : SlV h sz v n cells) (k : KeepBut X h h1) (hx : ∀ i ∈ vids v, ¬ X i) : SlV h1 sz v n cells := by
  cases s with
  | imm k n _ e => exact .imm k n _ e
  | own id ver off n row fix r e => exact .own id ver off n row fix (r.keepBut k (hx id (by simp [vids]))) e
theorem SlV.keep (s : SlV h sz v n cells) (k : Keep h h1) : SlV h1 sz v n cells := s.keepBut (k.but fun _ => False) fun _ _ => id
theorem AtV.keep {a : AV} (s : AtV h a cells) (k : Keep h h1) : AtV h1 a cells := by
  cases s with
  | imm _ r => exact .imm _ r
  | ptr id ver off esz row _ rest fix r e => exact .ptr id ver off esz row _ rest fix (r.keep k) e
theorem SlV.lt (s : SlV h sz v n cells) (w : h.WF) : ∀ i ∈ vids v, i < h.next := by
  cases s with
  | imm k n _ e => intro i hi; cases hi
  | own id ver off n row fix r e => intro i hi; simp [vids] at hi; subst hi; exact r.lt w
theorem AtV.ofRow {id ver off esz : Nat} {row cells rest : List AV} {fix : Bool} (r : Row h id ver esz row fix) (e : row.drop off = cells ++ rest) : AtV h (.ptr id ver off) cells := .ptr id ver off esz row cells rest fix r e
theorem AtV.take {a : AV} {c1 c2 : List AV} (s : AtV h a (c1 ++ c2)) : AtV h a c1 := by
  generalize e : c1 ++ c2 = c at s
  cases s with
  | imm _ r => subst e; rw [List.append_assoc]; exact .imm _ _
  | ptr id ver off esz row _ rest fix r e2 => subst e; rw [List.append_assoc] at e2; exact .ptr id ver off esz row _ _ fix r e2
end

section
variable {P : Program} {pol : Pol} {call : Calling} {fn nt fuel : Nat} {h : Hp} {T : Temps} {R : Rg} {rest : List (Nat × Oper)} {seen : Seen} {i : Nat} {Q : Temps → Hp → Prop} {d : Option Tmp} {ty : TypeId} {pos : String} {after : Array Edge}


theorem pure_bind' {α β : Type} (a : α) (f : α → AM β) : (Pure.pure a >>= f) = f a := rfl
theorem guard_then {α : Type} {b : Bool} (h : b = true) (m : AM α) : (do AM.guard b; m) = m := by subst h; rfl
theorem guard_true : AM.guard true = Pure.pure () := rfl
theorem ofOption_some' {α : Type} (a : α) : AM.ofOption (some a) = Pure.pure a := rfl

/-- an operation that looks at no object -/
theorem O_val {o : Oper} {v : AV} (hg : o.guard = none) (hc : opClass o.op = 0) (hi : operIds (aeval T) o = []) (hv : aop P pol call fn o (aeval T) = Pure.pure v) (r : ROps P pol call fn nt R rest ((i, []) :: seen) (tput? nt T o.dst v) h Q) :
    ROps P pol call fn nt R ((i, o) :: rest) seen T h Q := O_read [] hg hc hi (by simp) (by rw [hv]; rfl) r

theorem O_assign {x : Operand} {v : AV} (hx : aeval T x = v) (r : ROps P pol call fn nt R rest ((i, []) :: seen) (tput? nt T d v) h Q) :
    ROps P pol call fn nt R ((i, ⟨d, .assign x, ty, pos, after, none⟩) :: rest) seen T h Q := O_val rfl rfl rfl (by simp only [aop, hx]) r
theorem O_move {x : Operand} {v : AV} (hx : aeval T x = v) (r : ROps P pol call fn nt R rest ((i, []) :: seen) (tput? nt T d v) h Q) :
    ROps P pol call fn nt R ((i, ⟨d, .move x, ty, pos, after, none⟩) :: rest) seen T h Q := O_val rfl rfl rfl (by simp only [aop, hx]) r

/-- what an operation of two numbers gives -/
def intR (op : BinOp) (k : IntKind) (a b : Int) : Option AV := match op with
  | .add => some (.int k (k.wrap (a + b)))
  | .sub => some (.int k (k.wrap (a - b)))
  | .mul => some (.int k (k.wrap (a * b)))
  | .eql => some (.bool (a == b))
  | .neq => some (.bool (a != b))
  | .lss => some (.bool (decide (a < b)))
  | .leq => some (.bool (decide (a ≤ b)))
  | .gtr => some (.bool (decide (a > b)))
  | .geq => some (.bool (decide (a ≥ b)))
  | _ => none
theorem bin_ids {op : BinOp} {t t' : TypeId} {x y : Operand} {X Y : AV} (hx : aeval T x = X) (hy : aeval T y = Y) : operIds (aeval T) ⟨d, .binOp op t x y t', ty, pos, after, none⟩ = (avIds X ++ avIds Y).map fun id => (false, id) := by
  subst hx hy
  simp [operIds, looksIn, Op.operands]
theorem O_int {op : BinOp} {t t' : TypeId} {x y : Operand} {k : IntKind} {a b : Int} {v : AV} (hx : aeval T x = .int k a) (hy : aeval T y = .int k b) (hv : intR op k a b = some v)
    (r : ROps P pol call fn nt R rest ((i, []) :: seen) (tput? nt T d v) h Q) : ROps P pol call fn nt R ((i, ⟨d, .binOp op t x y t', ty, pos, after, none⟩) :: rest) seen T h Q := by
  refine O_val rfl rfl (bin_ids hx hy) ?_ r
  simp only [aop, hx, hy]
  cases op <;> cases hv <;> simp [abin, aintop]
theorem wrap64 {z y : Int} (e : z = y) (h : -9223372036854775808 ≤ z ∧ z < 9223372036854775808) : IntKind.wrap .i64 z = y := by
  subst e
  simp [IntKind.wrap, IntKind.signed, IntKind.bits]
  omega
theorem O_inc {t t' : TypeId} {x y : Operand} {a : Nat} (hx : aeval T x = .int .i64 (a : Int)) (hy : aeval T y = .int .i64 1) (hb : a < 9223372036854775807)
    (r : ROps P pol call fn nt R rest ((i, []) :: seen) (tput? nt T d (.int .i64 ((a + 1 : Nat) : Int))) h Q) : ROps P pol call fn nt R ((i, ⟨d, .binOp .add t x y t', ty, pos, after, none⟩) :: rest) seen T h Q :=
  O_int hx hy (by simp only [intR]; rw [wrap64 (y := ((a + 1 : Nat) : Int)) (by omega) (by omega)]) r
theorem O_addn {t t' : TypeId} {x y : Operand} {a b : Nat} (hx : aeval T x = .int .i64 (a : Int)) (hy : aeval T y = .int .i64 (b : Int)) (hb : a + b < 9223372036854775808)
    (r : ROps P pol call fn nt R rest ((i, []) :: seen) (tput? nt T d (.int .i64 ((a + b : Nat) : Int))) h Q) : ROps P pol call fn nt R ((i, ⟨d, .binOp .add t x y t', ty, pos, after, none⟩) :: rest) seen T h Q :=
  O_int hx hy (by simp only [intR]; rw [wrap64 (y := ((a + b : Nat) : Int)) (by omega) (by omega)]) r
theorem O_subn {t t' : TypeId} {x y : Operand} {a b : Int} (hx : aeval T x = .int .i64 a) (hy : aeval T y = .int .i64 b) (hb : -9223372036854775808 ≤ a - b ∧ a - b < 9223372036854775808)
    (r : ROps P pol call fn nt R rest ((i, []) :: seen) (tput? nt T d (.int .i64 (a - b))) h Q) : ROps P pol call fn nt R ((i, ⟨d, .binOp .sub t x y t', ty, pos, after, none⟩) :: rest) seen T h Q :=
  O_int hx hy (by simp only [intR]; rw [wrap64 (y := a - b) rfl hb]) r
theorem O_addi {t t' : TypeId} {x y : Operand} {a b : Int} (hx : aeval T x = .int .i64 a) (hy : aeval T y = .int .i64 b) (hb : -9223372036854775808 ≤ a + b ∧ a + b < 9223372036854775808)
    (r : ROps P pol call fn nt R rest ((i, []) :: seen) (tput? nt T d (.int .i64 (a + b))) h Q) : ROps P pol call fn nt R ((i, ⟨d, .binOp .add t x y t', ty, pos, after, none⟩) :: rest) seen T h Q :=
  O_int hx hy (by simp only [intR]; rw [wrap64 (y := a + b) rfl hb]) r
theorem O_rem {t t' : TypeId} {x y : Operand} {k : IntKind} {a b : Int} (hx : aeval T x = .int k a) (hy : aeval T y = .int k b) (hb : b ≠ 0)
    (r : ROps P pol call fn nt R rest ((i, []) :: seen) (tput? nt T d (.int k (a.tmod b))) h Q) : ROps P pol call fn nt R ((i, ⟨d, .binOp .rem t x y t', ty, pos, after, none⟩) :: rest) seen T h Q := by
  refine O_val rfl rfl (bin_ids hx hy) ?_ r
  simp only [aop, hx, hy]
  simp [abin, aintop, hb]
theorem O_quo {t t' : TypeId} {x y : Operand} {k : IntKind} {a b : Int} (hx : aeval T x = .int k a) (hy : aeval T y = .int k b) (hb : b ≠ 0)
    (r : ROps P pol call fn nt R rest ((i, []) :: seen) (tput? nt T d (.int k (k.wrap (a.tdiv b)))) h Q) : ROps P pol call fn nt R ((i, ⟨d, .binOp .quo t x y t', ty, pos, after, none⟩) :: rest) seen T h Q := by
  refine O_val rfl rfl (bin_ids hx hy) ?_ r
  simp only [aop, hx, hy]
  simp [abin, aintop, hb]
/-- what an operation of two texts gives -/
def strR (op : BinOp) (a b : List UInt8) : Option AV := match op with
  | .eql => some (.bool (a == b))
  | .neq => some (.bool !(a == b))
  | .lss => some (.bool (Op.bytesLess a b))
  | _ => none
theorem O_str {op : BinOp} {t t' : TypeId} {x y : Operand} {a b : List UInt8} {v : AV} (hx : aeval T x = .str a) (hy : aeval T y = .str b) (hv : strR op a b = some v)
    (r : ROps P pol call fn nt R rest ((i, []) :: seen) (tput? nt T d v) h Q) : ROps P pol call fn nt R ((i, ⟨d, .binOp op t x y t', ty, pos, after, none⟩) :: rest) seen T h Q := by
  refine O_val rfl rfl (bin_ids hx hy) ?_ r
  simp only [aop, hx, hy]
  cases op <;> cases hv <;> simp [abin, astrop]
theorem O_not {t : TypeId} {x : Operand} {b : Bool} (hx : aeval T x = .bool b) (r : ROps P pol call fn nt R rest ((i, []) :: seen) (tput? nt T d (.bool !b)) h Q) :
    ROps P pol call fn nt R ((i, ⟨d, .unOp .not t x, ty, pos, after, none⟩) :: rest) seen T h Q := O_val rfl rfl rfl (by simp only [aop, hx, aun]) r
/-- two values that hold no object, compared -/
theorem O_bin {op : BinOp} {t t' : TypeId} {x y : Operand} {X Y v : AV} (hx : aeval T x = X) (hy : aeval T y = Y) (hi : avIds X ++ avIds Y = []) (hv : abin P op t X Y = Pure.pure v) (r : ROps P pol call fn nt R rest ((i, []) :: seen) (tput? nt T d v) h Q) :
    ROps P pol call fn nt R ((i, ⟨d, .binOp op t x y t', ty, pos, after, none⟩) :: rest) seen T h Q := O_val rfl rfl (by rw [bin_ids hx hy, hi]; rfl) (by simp only [aop, hx, hy]; exact hv) r
theorem O_pick {c x y : Operand} {b : Bool} {v u : AV} (hc : aeval T c = .bool b) (hx : aeval T x = v) (hy : aeval T y = u) (r : ROps P pol call fn nt R rest ((i, []) :: seen) (tput? nt T d (cond b v u)) h Q) :
    ROps P pol call fn nt R ((i, ⟨d, .pick c x y, ty, pos, after, none⟩) :: rest) seen T h Q := by
  cases b
  · exact O_val rfl rfl rfl (by simp only [aop, hc, hy, cond_false]) r
  · exact O_val rfl rfl rfl (by simp only [aop, hc, hx, cond_true]) r
theorem O_max2 {x y : Operand} {ats : Array TypeId} {k : IntKind} {a b : Int} (hx : aeval T x = .int k a) (hy : aeval T y = .int k b) (r : ROps P pol call fn nt R rest ((i, []) :: seen) (tput? nt T d (.int k (if b > a then b else a))) h Q) :
    ROps P pol call fn nt R ((i, ⟨d, .call ⟨.builtin .max, #[x, y], ats⟩, ty, pos, after, none⟩) :: rest) seen T h Q := by
  refine O_val rfl rfl rfl ?_ r
  simp only [aop, List.map_cons, List.map_nil, hx, hy, abuiltin, afold, amax2]
  simp [pure_bind', guard_true]
theorem O_min2 {x y : Operand} {ats : Array TypeId} {k : IntKind} {a b : Int} (hx : aeval T x = .int k a) (hy : aeval T y = .int k b) (r : ROps P pol call fn nt R rest ((i, []) :: seen) (tput? nt T d (.int k (if b < a then b else a))) h Q) :
    ROps P pol call fn nt R ((i, ⟨d, .call ⟨.builtin .min, #[x, y], ats⟩, ty, pos, after, none⟩) :: rest) seen T h Q := by
  refine O_val rfl rfl rfl ?_ r
  simp only [aop, List.map_cons, List.map_nil, hx, hy, abuiltin, afold, amax2]
  simp [pure_bind', guard_true]
theorem O_extract {x : Operand} {j : Nat} {vs : List AV} {v : AV} (hx : aeval T x = .tuple vs) (hv : vs[j]? = some v) (r : ROps P pol call fn nt R rest ((i, []) :: seen) (tput? nt T d v) h Q) :
    ROps P pol call fn nt R ((i, ⟨d, .extract x j, ty, pos, after, none⟩) :: rest) seen T h Q := O_val rfl rfl rfl (by simp only [aop, hx, hv]; rfl) r
theorem O_convert_int {a b : TypeId} {ka kb : IntKind} [ha : TInt P a ka] [hb : TInt P b kb] {x : Operand} {k : IntKind} {n : Int} (hx : aeval T x = .int k n) (r : ROps P pol call fn nt R rest ((i, []) :: seen) (tput? nt T d (.int kb (kb.wrap n))) h Q) :
    ROps P pol call fn nt R ((i, ⟨d, .convert a b x, ty, pos, after, none⟩) :: rest) seen T h Q := O_val rfl rfl (by simp [operIds, looksIn, Op.operands, hx, avIds]) (by simp only [aop, hx, aconvert, ha.un, hb.un]) r
theorem O_nilCheck_ptr {x : Operand} {id ver off : Nat} (hx : aeval T x = .ptr id ver off) (r : ROps P pol call fn nt R rest ((i, []) :: seen) (tput? nt T d (.ptr id ver off)) h Q) :
    ROps P pol call fn nt R ((i, ⟨d, .nilCheck x, ty, pos, after, none⟩) :: rest) seen T h Q := O_val rfl rfl rfl (by simp only [aop, hx]) r
theorem O_nilCheck_iptr {x : Operand} {cells : List AV} (hx : aeval T x = .iptr cells) (r : ROps P pol call fn nt R rest ((i, []) :: seen) (tput? nt T d (.iptr cells)) h Q) :
    ROps P pol call fn nt R ((i, ⟨d, .nilCheck x, ty, pos, after, none⟩) :: rest) seen T h Q := O_val rfl rfl rfl (by simp only [aop, hx]) r
theorem map_nil' : ([] : List Operand).map (aeval T) = [] := rfl
theorem map_cons' {x : Operand} {l : List Operand} {v : AV} {vs : List AV} (h1 : aeval T x = v) (h2 : l.map (aeval T) = vs) : (x :: l).map (aeval T) = v :: vs := by rw [List.map_cons, h1, h2]
theorem O_makeFunc {f : FuncId} {first captured : Array Operand} {l1 l2 : List AV} (h1 : first.toList.map (aeval T) = l1) (h2 : captured.toList.map (aeval T) = l2) (r : ROps P pol call fn nt R rest ((i, []) :: seen) (tput? nt T d (.func (.func f) l1 l2)) h Q) :
    ROps P pol call fn nt R ((i, ⟨d, .makeFunc (.func f) first captured, ty, pos, after, none⟩) :: rest) seen T h Q := O_val rfl rfl rfl (by simp only [aop, h1, h2]) r
theorem O_call {f : Operand} {args : Array Operand} {ats : Array TypeId} {F : AV} {l : List AV} (hf : aeval T f = F) (hl : args.toList.map (aeval T) = l)
    (r : Runs (call F l) h fun v h1 => Undis R seen i h h1 ∧ ROps P pol call fn nt R rest seen (tput? nt T d v) h1 Q) : ROps P pol call fn nt R ((i, ⟨d, .call ⟨.value f, args, ats⟩, ty, pos, after, none⟩) :: rest) seen T h Q := by
  refine O_do rfl rfl ?_
  simp only [aop, hf, hl]
  exact r

/-! ### places -/
theorem O_fieldAddr_ptr {s t : TypeId} {x : Operand} {f off id ver o : Nat} [ht : TField P s f off t] (hx : aeval T x = .ptr id ver o) (r : ROps P pol call fn nt R rest ((i, []) :: seen) (tput? nt T d (.ptr id ver (o + off))) h Q) :
    ROps P pol call fn nt R ((i, ⟨d, .fieldAddr s x f, ty, pos, after, none⟩) :: rest) seen T h Q := O_val rfl rfl rfl (by simp only [aop, hx]; exact ht.fa _ _ _) r
theorem O_fieldAddr_iptr {s t : TypeId} {x : Operand} {f off : Nat} {cells : List AV} [ht : TField P s f off t] (hx : aeval T x = .iptr cells) (hl : Nat.ble off cells.length = true) (r : ROps P pol call fn nt R rest ((i, []) :: seen) (tput? nt T d (.iptr (cells.drop off))) h Q) :
    ROps P pol call fn nt R ((i, ⟨d, .fieldAddr s x f, ty, pos, after, none⟩) :: rest) seen T h Q := O_val rfl rfl rfl (by simp only [aop, hx]; exact ht.fi _ hl) r
theorem O_field_one {s t : TypeId} {x : Operand} {f off : Nat} {cells r' : List AV} {v : AV} [ht : TField P s f off t] [h1 : TOne P t] (hx : aeval T x = .agg cells) (hl : Nat.ble off cells.length = true) (hv : cells.drop off = v :: r') (r : ROps P pol call fn nt R rest ((i, []) :: seen) (tput? nt T d v) h Q) :
    ROps P pol call fn nt R ((i, ⟨d, .field s x f, ty, pos, after, none⟩) :: rest) seen T h Q := O_val rfl rfl rfl (by simp only [aop, hx]; rw [ht.ff _ hl, hv]; exact h1.rd _ _) r
theorem O_field_agg {s t : TypeId} {x : Operand} {f off n : Nat} {cells c' : List AV} [ht : TField P s f off t] [h1 : TAgg P t n] (hx : aeval T x = .agg cells) (hl : Nat.ble (off + n) cells.length = true) (hv : (cells.drop off).take n = c') (r : ROps P pol call fn nt R rest ((i, []) :: seen) (tput? nt T d (.agg c')) h Q) :
    ROps P pol call fn nt R ((i, ⟨d, .field s x f, ty, pos, after, none⟩) :: rest) seen T h Q := O_val rfl rfl rfl (by
      have hl' : off + n ≤ cells.length := by simpa using hl
      simp only [aop, hx]; rw [ht.ff _ (by simp; omega), h1.rd _ (by simp; omega), hv]) r
theorem load_ids {t : TypeId} {a : Operand} {A : AV} (ha : aeval T a = A) : operIds (aeval T) ⟨d, .load t a, ty, pos, after, none⟩ = (avIds A).map fun id => (true, id) := by
  subst ha
  simp [operIds, looksIn, Op.operands]
theorem O_load {t : TypeId} {a : Operand} {A v : AV} {cells : List AV} (ha : aeval T a = A) (hat : AtV h A cells) (hv : ∀ rest, aread P t (cells ++ rest) = Pure.pure v)
    (r : ROps P pol call fn nt R rest ((i, (avIds A).map fun id => (true, id)) :: seen) (tput? nt T d v) h Q) : ROps P pol call fn nt R ((i, ⟨d, .load t a, ty, pos, after, none⟩) :: rest) seen T h Q := by
  cases hat with
  | imm cells _ => exact O_val rfl rfl (load_ids ha) (by simp only [aop, ha, aload]; exact hv _) r
  | ptr id ver off esz row cells rest fix rw' e =>
    obtain ⟨st, tyo, ho⟩ := rw'
    refine O_read _ rfl rfl (load_ids ha) (by simp [avIds, ho]) ?_ r
    simp only [aop, ha, aload]
    rw [run_bind, row_run ho]
    dsimp only
    rw [e, hv]; rfl
theorem O_load_one {t : TypeId} {a : Operand} {A v : AV} {c' : List AV} [h1 : TOne P t] (ha : aeval T a = A) (hat : AtV h A (v :: c'))
    (r : ROps P pol call fn nt R rest ((i, (avIds A).map fun id => (true, id)) :: seen) (tput? nt T d v) h Q) : ROps P pol call fn nt R ((i, ⟨d, .load t a, ty, pos, after, none⟩) :: rest) seen T h Q :=
  O_load ha hat (fun rest => h1.rd _ _) r
theorem O_load_agg {t : TypeId} {a : Operand} {A : AV} {n : Nat} {cells : List AV} [h1 : TAgg P t n] (ha : aeval T a = A) (hat : AtV h A cells) (hl : Nat.beq cells.length n = true)
    (r : ROps P pol call fn nt R rest ((i, (avIds A).map fun id => (true, id)) :: seen) (tput? nt T d (.agg cells)) h Q) : ROps P pol call fn nt R ((i, ⟨d, .load t a, ty, pos, after, none⟩) :: rest) seen T h Q :=
  O_load ha hat (fun rest => by
    have hl' : cells.length = n := by simpa using hl
    rw [h1.rd _ (by simp; omega), ← hl', List.take_left']; rfl) r
/-- from a row whose cells are told -/
theorem O_load_row {t : TypeId} {a : Operand} {id ver off esz : Nat} {row r' : List AV} {fix : Bool} {v : AV} [h1 : TOne P t] (ha : aeval T a = .ptr id ver off) (hr : Row h id ver esz row fix) (hv : row.drop off = v :: r')
    (r : ROps P pol call fn nt R rest ((i, [(true, id)]) :: seen) (tput? nt T d v) h Q) : ROps P pol call fn nt R ((i, ⟨d, .load t a, ty, pos, after, none⟩) :: rest) seen T h Q :=
  O_load_one ha (.ptr id ver off esz row [v] r' fix hr hv) r
theorem O_load_rowAgg {t : TypeId} {a : Operand} {id ver off esz n : Nat} {row c' : List AV} {fix : Bool} [h1 : TAgg P t n] (ha : aeval T a = .ptr id ver off) (hr : Row h id ver esz row fix) (hl : Nat.ble (off + n) row.length = true) (hv : (row.drop off).take n = c')
    (r : ROps P pol call fn nt R rest ((i, [(true, id)]) :: seen) (tput? nt T d (.agg c')) h Q) : ROps P pol call fn nt R ((i, ⟨d, .load t a, ty, pos, after, none⟩) :: rest) seen T h Q := by
  have hl' : off + n ≤ row.length := by simpa using hl
  subst hv
  exact O_load_agg ha (.ptr id ver off esz row _ ((row.drop off).drop n) fix hr (by rw [List.take_append_drop])) (by simp; omega) r
theorem O_load_iptr {t : TypeId} {a : Operand} {cells r' : List AV} {v : AV} [h1 : TOne P t] (ha : aeval T a = .iptr cells) (hv : cells = v :: r')
    (r : ROps P pol call fn nt R rest ((i, []) :: seen) (tput? nt T d v) h Q) : ROps P pol call fn nt R ((i, ⟨d, .load t a, ty, pos, after, none⟩) :: rest) seen T h Q := by
  subst hv
  exact O_load_one ha (.imm [v] r') r
theorem O_store {t : TypeId} {a x : Operand} {id ver off esz n : Nat} {row : List AV} {fix : Bool} {v : AV} [hs : TSz P t n] (ha : aeval T a = .ptr id ver off) (hx : aeval T x = v) (ho : Row h id ver esz row fix)
    (hg : (Nat.beq (acells v).length n && Nat.ble (off + n) row.length && ones (acells v)) = true)
    (r : ∀ h1, KeepBut (· = id) h h1 → Row h1 id ver esz (splice row off (acells v)) fix → Undis R seen i h h1 ∧ ROps P pol call fn nt R rest seen (tput? nt T d (.tuple [])) h1 Q) : ROps P pol call fn nt R ((i, ⟨d, .store t a x, ty, pos, after, none⟩) :: rest) seen T h Q := by
  refine O_do rfl rfl ?_
  obtain ⟨st, tyo, ho⟩ := ho
  simp only [aop, ha, hx, astore, hs.sz]
  refine Runs.bind (Runs.bind (Runs.row ho ?_))
  dsimp only
  rw [pure_bind', hg, guard_true, pure_bind']
  exact Runs.hput ho (Nat.le_refl _) (Runs.pure (r _ (KeepBut.put _) ⟨_, _, get_set_eq _ _ _ _⟩))
theorem O_alloc {t : TypeId} {z : AV} [hz : TZero P t z]
    (r : ∀ h1 id, Keep h h1 → Row h1 id 0 (acells z).length (acells z) true → h.next ≤ id → id < h1.next → ROps P pol call fn nt R rest seen (tput? nt T d (.ptr id 0 0)) h1 Q) : ROps P pol call fn nt R ((i, ⟨d, .alloc t, ty, pos, after, none⟩) :: rest) seen T h Q := by
  refine O_make rfl rfl (Runs.wf fun w => ?_)
  simp only [aop, hz.zero]
  rw [pure_bind']
  exact Runs.bind (Runs.hallocT (Runs.pure (r _ _ (Keep.allocT w _ _) ⟨_, _, get_set_eq _ _ _ _⟩ (Nat.le_refl _) (Nat.lt_succ_self _))))
theorem O_box {t : TypeId} {x : Operand} {v : AV} (hx : aeval T x = v) (hk : known v = true)
    (r : ∀ h1 id, Keep h h1 → Row h1 id 0 (acells v).length (acells v) true → h.next ≤ id → id < h1.next → ROps P pol call fn nt R rest seen (tput? nt T d (.ptr id 0 0)) h1 Q) : ROps P pol call fn nt R ((i, ⟨d, .box t x, ty, pos, after, none⟩) :: rest) seen T h Q := by
  refine O_make rfl rfl (Runs.wf fun w => ?_)
  simp only [aop, hx]
  rw [hk, guard_true, pure_bind']
  exact Runs.bind (Runs.hallocT (Runs.pure (r _ _ (Keep.allocT w _ _) ⟨_, _, get_set_eq _ _ _ _⟩ (Nat.le_refl _) (Nat.lt_succ_self _))))
theorem O_makeMap {t : TypeId} (r : ∀ h1 id, Keep h h1 → MapAt h1 id [] → h.next ≤ id → id < h1.next → ROps P pol call fn nt R rest seen (tput? nt T d (.mapv id)) h1 Q) :
    ROps P pol call fn nt R ((i, ⟨d, .makeMap t none, ty, pos, after, none⟩) :: rest) seen T h Q := by
  refine O_make rfl rfl (Runs.wf fun w => ?_)
  simp only [aop]
  exact Runs.bind (Runs.halloc (Runs.pure (r _ _ (Keep.alloc w _) ⟨_, _, _, get_set_eq _ _ _ _⟩ (Nat.le_refl _) (Nat.lt_succ_self _))))

/-! ### slices -/
theorem len_ids {ats : Array TypeId} {x : Operand} {X : AV} (hx : aeval T x = X) : operIds (aeval T) ⟨d, .call ⟨.builtin .len, #[x], ats⟩, ty, pos, after, none⟩ = (avIds X).map fun id => (false, id) := by
  subst hx
  simp [operIds, looksIn, Op.operands, Call.operands]
theorem SlV.ids {sz n : Nat} {v : AV} {cells : List AV} (s : SlV h sz v n cells) : avIds v = vids v ∧ ∀ x ∈ vids v, (h.get x).isSome = true := by
  cases s with
  | imm => exact ⟨rfl, by simp [vids]⟩
  | own id ver off n row fix r e => obtain ⟨st, tyo, ho⟩ := r; exact ⟨rfl, by simp [vids, ho]⟩
theorem O_len_v {t e : TypeId} {x : Operand} {n sz : Nat} {v : AV} {cells : List AV} [hu : TSl P t e] (hx : aeval T x = v) (s : SlV h sz v n cells)
    (r : ROps P pol call fn nt R rest ((i, (vids v).map fun id => (false, id)) :: seen) (tput? nt T d (.int .i64 (n : Nat))) h Q) : ROps P pol call fn nt R ((i, ⟨d, .call ⟨.builtin .len, #[x], #[t]⟩, ty, pos, after, none⟩) :: rest) seen T h Q := by
  refine O_read _ rfl rfl ((len_ids hx).trans (by rw [s.ids.1])) (fun x hx => ?_) ?_ r
  · obtain ⟨y, hy, rfl⟩ := List.mem_map.1 hx; exact s.ids.2 y hy
  simp only [aop, List.map_cons, List.map_nil, hx, abuiltin, alen, hu.un]
  cases s with
  | imm k n cells e => rfl
  | own id ver off n row fix r' e =>
    obtain ⟨st, tyo, ho⟩ := r'
    simp only
    rw [run_bind, row_run ho]; rfl
theorem O_len_str {t : TypeId} {x : Operand} {l : List UInt8} [hu : TStr P t] (hx : aeval T x = .str l)
    (r : ROps P pol call fn nt R rest ((i, []) :: seen) (tput? nt T d (.int .i64 (l.length : Nat))) h Q) : ROps P pol call fn nt R ((i, ⟨d, .call ⟨.builtin .len, #[x], #[t]⟩, ty, pos, after, none⟩) :: rest) seen T h Q := by
  refine O_val rfl rfl (len_ids hx) ?_ r
  simp only [aop, List.map_cons, List.map_nil, hx, abuiltin, alen, hu.un]
theorem within_nat {i n : Nat} (h : i < n) : within (i : Int) n = true := by unfold within; simp; omega
theorem drop_more (l : List AV) (a b : Nat) : (l.drop a).drop b = l.drop (a + b) := by rw [List.drop_drop]
theorem O_indexAddr_v {t e : TypeId} {x y : Operand} {n sz : Nat} {v : AV} {cells : List AV} {ik : IntKind} {j : Nat} [hu : TSl P t e] [hs : TSz P e sz] (hx : aeval T x = v) (s : SlV h sz v n cells) (hy : aeval T y = .int ik (j : Int)) (hj : j < n) (hz : Nat.beq sz 0 = false)
    (r : ∀ a, AtV h a ((cells.drop (j * sz)).take sz) → (∀ k ∈ avIds a, k ∈ vids v) → ROps P pol call fn nt R rest ((i, (vids v).map fun id => (false, id)) :: seen) (tput? nt T d a) h Q) : ROps P pol call fn nt R ((i, ⟨d, .indexAddr t x y, ty, pos, after, none⟩) :: rest) seen T h Q := by
  have hids : operIds (aeval T) ⟨d, .indexAddr t x y, ty, pos, after, none⟩ = (vids v).map fun id => (false, id) := by
    have h1 : operIds (aeval T) ⟨d, .indexAddr t x y, ty, pos, after, none⟩ = (avIds (aeval T x) ++ avIds (aeval T y)).map fun id => (false, id) := by simp [operIds, looksIn, Op.operands]
    rw [h1, hx, hy, s.ids.1]; simp [avIds]
  have hmul : j * sz + sz ≤ n * sz := by
    have := Nat.mul_le_mul_right sz hj
    rw [Nat.succ_mul] at this; exact this
  cases s with
  | imm k n cells e =>
    refine O_val rfl rfl hids (v := .iptr (cells.drop (j * sz))) ?_ (r _ ?_ ?_)
    · simp only [aop, hx, hy, aindexAddr, hu.un, hs.sz]
      rw [pure_bind', within_nat hj, hz]
      simp [e, guard_true, pure_bind']
    · have := AtV.imm (h := h) ((cells.drop (j * sz)).take sz) ((cells.drop (j * sz)).drop sz)
      rw [List.take_append_drop] at this
      exact this
    · simp [avIds]
  | own id ver off n row fix r' e =>
    have hr := r'
    obtain ⟨st, tyo, ho⟩ := r'
    refine O_read _ rfl rfl hids (by simp [vids, ho]) (v := .ptr id ver (off + j * sz)) ?_ (r _ ?_ ?_)
    · simp only [aop, hx, hy, aindexAddr, hu.un, hs.sz]
      rw [pure_bind', run_bind, row_run ho]
      dsimp only
      rw [within_nat hj, show (true && Nat.ble (off + n * sz) row.length) = true by simpa using e, guard_true, pure_bind']
      rfl
    · refine .ptr id ver _ sz row _ ((row.drop (off + j * sz)).drop sz) fix hr ?_
      rw [← drop_more, List.drop_take, List.take_take, Nat.min_eq_left (by omega), List.take_append_drop]
    · simp [avIds, vids]
end
end Go.Am
namespace Go.Am
open Go AM

/-- a struct's fields: where each begins, how many cells it has; its zero value -/
class TStruct (P : Program) (t : TypeId) (fs : outParam (List (Nat × Nat))) (z : outParam (List AV)) : Prop where
  build : ∀ parts, abuild P t parts = (do let cells ← afill (fun i => fs[i]?) z parts; pure (.agg cells))
def afillL (fs : List (Nat × Nat)) (cells : List AV) : List (Nat × AV) → Option (List AV)
  | [] => some cells
  | (i, v) :: r => match fs[i]? with
    | none => none
    | some (off, size) => cond (Nat.beq (acells v).length size && Nat.ble (off + size) cells.length && known v) (afillL fs (splice cells off (acells v)) r) none
theorem afillL_ok {fs : List (Nat × Nat)} : ∀ {parts : List (Nat × AV)} {cells c' : List AV}, afillL fs cells parts = some c' → afill (fun i => fs[i]?) cells parts = pure c'
  | [], cells, c', e => by cases e; rfl
  | (i, v) :: r, cells, c', e => by
    simp only [afillL] at e
    cases hf : fs[i]? with
    | none => rw [hf] at e; cases e
    | some p =>
      obtain ⟨off, size⟩ := p
      rw [hf] at e
      dsimp only at e
      cases hc : (Nat.beq (acells v).length size && Nat.ble (off + size) cells.length && known v) with
      | false => rw [hc] at e; cases e
      | true =>
        rw [hc] at e
        simp only [afill, hf]
        rw [hc, guard_true, pure_bind']
        exact afillL_ok e

section
variable {h h1 : Hp} {sz n : Nat} {v : AV} {cells : List AV}
theorem SlV.acells (s : SlV h sz v n cells) : acells v = [v] := by cases s <;> rfl
theorem SlV.known (s : SlV h sz v n cells) : known v = true := by cases s <;> rfl
theorem SlV.one (s : SlV h sz v n cells) : one v = true := by cases s <;> rfl
theorem SlV.full (n : Nat) (c : List AV) (e : n * sz = c.length) : SlV h sz (.sl .full n c) n c := .imm _ _ _ e
theorem SlV.nil : SlV h sz (.sl .nil 0 []) 0 [] := .imm _ _ _ (by simp)
theorem KeepBut.none {X : Nat → Prop} (k : KeepBut X h h1) (hx : ∀ i, ¬ X i) : Keep h h1 := ⟨fun id o e => k.same id o (hx id) e, k.next⟩
theorem splice_length {cells : List AV} {k : Nat} {vs : List AV} (h : k + vs.length ≤ cells.length) : (splice cells k vs).length = cells.length := by
  unfold splice
  simp
  omega
theorem splice_end {cells vs : List AV} {k : Nat} (h : k + vs.length ≤ cells.length) : (splice cells k vs).take (k + vs.length) = cells.take k ++ vs := by
  unfold splice
  rw [List.take_append_of_le_length (by simp; omega), List.take_of_length_le (by simp; omega)]
end

section
variable {P : Program} {pol : Pol} {call : Calling} {fn nt fuel : Nat} {h : Hp} {T : Temps} {R : Rg} {rest : List (Nat × Oper)} {seen : Seen} {i : Nat} {Q : Temps → Hp → Prop} {d : Option Tmp} {ty : TypeId} {pos : String} {after : Array Edge}

/-- the rest is left as it is -/
theorem O_self {l : List (Nat × Oper)} (r : ROps P pol call fn nt R l seen T h Q) : ROps P pol call fn nt R l seen T h Q := r
theorem ar_inc (n : Nat) (h : n < 9223372036854775807) : intR .add .i64 (n : Int) 1 = some (.int .i64 ((n + 1 : Nat) : Int)) := by
  simp only [intR]; rw [wrap64 (y := ((n + 1 : Nat) : Int)) (by omega) (by omega)]
theorem ar_sub {a b : Int} (h : -9223372036854775808 ≤ a - b ∧ a - b < 9223372036854775808) : intR .sub .i64 a b = some (.int .i64 (a - b)) := by
  simp only [intR]; rw [wrap64 (y := a - b) rfl h]
theorem ar_add {a b : Int} (h : -9223372036854775808 ≤ a + b ∧ a + b < 9223372036854775808) : intR .add .i64 a b = some (.int .i64 (a + b)) := by
  simp only [intR]; rw [wrap64 (y := a + b) rfl h]
theorem O_wf {l : List (Nat × Oper)} (r : h.WF → ROps P pol call fn nt R l seen T h Q) : ROps P pol call fn nt R l seen T h Q := fun k w => r w k w
theorem aappend_runs {et sz bytes n m : Nat} {s : AV} {cells new : List AV} {K : AV → Hp → Prop} (gs : SlV h sz s n cells) (hg : growB s = true) (hn : m * sz = new.length) (h1 : ones new = true) (hz : 0 < sz) (hb0 : 0 < bytes) (hb : (n + m) * bytes ≤ room)
    (k : ∀ v h1, KeepBut (· ∈ vids s) h h1 → SlV h1 sz v (n + m) (cells ++ new) → growB v = true → (∀ k ∈ vids v, k ∈ vids s ∨ (h.next ≤ k ∧ k < h1.next)) → (0 < m → vids v ≠ []) → K v h1) : Runs (aappend et sz bytes s m new) h K := by
  refine Runs.wf fun w => ?_
  have hmax : n + m ≤ maxInt := by
    have : (n + m) * 1 ≤ (n + m) * bytes := Nat.mul_le_mul_left _ hb0
    unfold maxInt; unfold room at hb; omega
  cases m with
  | zero =>
    have : new = [] := List.length_eq_zero_iff.1 (by omega)
    subst this
    have hk := k s h (KeepBut.refl _) (by rw [List.append_nil]; exact gs) hg (fun k hk => .inl hk) (fun c => absurd c (Nat.lt_irrefl 0))
    cases gs with
    | imm => exact Runs.pure hk
    | own id ver off n row fix r e =>
      obtain ⟨st, tyo, ho⟩ := r
      simp only [aappend]
      refine Runs.bind (Runs.row ho ?_)
      dsimp only
      rw [show Nat.beq sz sz = true by simp, guard_true, pure_bind']
      exact Runs.pure hk
  | succ m =>
    cases gs with
    | imm kk n cells e =>
      simp only [aappend]
      refine Runs.bind (Runs.guard (by simp only [growB] at hg; cases kk <;> simp_all) ?_)
      refine Runs.bind (Runs.hallocT (Runs.pure (k _ _ ((Keep.allocT w _ _).but _) ?_ rfl (fun x hx => ?_) (fun _ c => by cases c))))
      · have hl : (cells ++ new).length = (n + (m + 1)) * sz := by rw [List.length_append, ← e, ← hn, Nat.add_mul n (m + 1) sz]
        have := SlV.own (h := ⟨h.obj.set h.next (some ⟨0, 0, .row sz (cells ++ new) false, some et⟩), h.next + 1⟩) (sz := sz) h.next 0 0 (n + (m + 1)) (cells ++ new) false ⟨0, _, get_set_eq _ _ _ _⟩ (by omega)
        rw [List.drop_zero, List.take_of_length_le (by omega)] at this
        exact this
      · simp [vids] at hx; subst hx; exact .inr ⟨Nat.le_refl _, Nat.lt_succ_self _⟩
    | own id ver off n row fix r e =>
      obtain ⟨st, tyo, ho⟩ := r
      have hoff : off = 0 := by simpa [growB] using hg
      subst hoff
      simp only [aappend]
      refine Runs.bind (Runs.row ho ?_)
      dsimp only
      rw [show Nat.beq sz sz = true by simp, guard_true, pure_bind']
      rw [show (Nat.beq 0 0 && Nat.ble (n * sz) row.length && Nat.ble ((n + (m + 1)) * bytes) room && Nat.ble (n + (m + 1)) maxInt && Nat.beq new.length ((m + 1) * sz) && ones new) = true by simp_all, guard_true, pure_bind']
      have hmul : (n + (m + 1)) * sz = n * sz + new.length := by rw [← hn, Nat.add_mul]
      cases hq : Nat.ble ((n + (m + 1)) * sz) row.length with
      | true =>
        have hq' : (n + (m + 1)) * sz ≤ row.length := by simpa using hq
        dsimp only
        refine Runs.bind (Runs.hput ho (Nat.le_refl _) (Runs.pure (k _ _ ((KeepBut.put _).weaken (by rintro i rfl; simp [vids])) ?_ rfl (fun x hx => .inl hx) (fun _ c => by cases c))))
        have := SlV.own (h := ⟨h.obj.set id (some ⟨ver, st + 1, .row sz (splice row (n * sz) new) fix, tyo⟩), h.next⟩) (sz := sz) id ver 0 (n + (m + 1)) (splice row (n * sz) new) fix ⟨_, _, get_set_eq _ _ _ _⟩ (by rw [splice_length (by omega)]; omega)
        rw [List.drop_zero, hmul, splice_end (by omega)] at this
        rw [List.drop_zero]
        exact this
      | false =>
        have hq' : ¬ (n + (m + 1)) * sz ≤ row.length := by
          intro c
          have : Nat.ble ((n + (m + 1)) * sz) row.length = true := by simpa using c
          rw [this] at hq; cases hq
        dsimp only
        refine Runs.bind (Runs.hputF ho (Nat.le_succ _) (Runs.pure (k _ _ ((KeepBut.put _).weaken (by rintro i rfl; simp [vids])) ?_ rfl (fun x hx => .inl hx) (fun _ c => by cases c))))
        have := SlV.own (h := ⟨h.obj.set id (some ⟨ver + 1, st + 1, .row sz (row.take (n * sz) ++ new) false, keepTy et tyo⟩), h.next⟩) (sz := sz) id (ver + 1) 0 (n + (m + 1)) (row.take (n * sz) ++ new) false ⟨_, _, get_set_eq _ _ _ _⟩ (by rw [List.length_append, List.length_take]; omega)
        rw [List.drop_zero, List.take_of_length_le (l := row.take (n * sz) ++ new) (by rw [List.length_append, List.length_take]; omega)] at this
        rw [List.drop_zero]
        exact this

theorem SlV.cells_run {sz n : Nat} {v : AV} {cells : List AV} (s : SlV h sz v n cells) : (sliceCells sz v).run h = some ((n, cells), h) := by
  cases s with
  | imm k n cells e =>
    simp only [sliceCells]
    rw [show Nat.beq (n * sz) cells.length = true by simpa using e, guard_true, pure_bind']; rfl
  | own id ver off n row fix r e =>
    obtain ⟨st, tyo, ho⟩ := r
    simp only [sliceCells]
    rw [run_bind, row_run ho]
    dsimp only
    rw [show Nat.ble (off + n * sz) row.length = true by simpa using e, guard_true, pure_bind']; rfl

theorem O_append {args : Array Operand} {t u e e' : TypeId} {sz bytes n m : Nat} {z s x : AV} {cells new : List AV} [ht : TSl P t e] [hu : TSl P u e'] [hs : TSz P e sz] [hb' : TBytes P e bytes] [hz' : TZero P e z]
    (hl : args.toList.map (aeval T) = [s, x]) (gs : SlV h sz s n cells) (hg : growB s = true) (gx : SlV h sz x m new) (h1 : ones new = true)
    (hz : (!(Nat.beq sz 0) && !(Nat.beq bytes 0) && Nat.beq (acells z).length sz) = true) (hb : (n + m) * bytes ≤ room)
    (r : ∀ v h1, KeepBut (· ∈ vids s) h h1 → SlV h1 sz v (n + m) (cells ++ new) → growB v = true → (∀ k ∈ vids v, k ∈ vids s ∨ (h.next ≤ k ∧ k < h1.next)) → (0 < m → vids v ≠ []) → Undis R seen i h h1 ∧ ROps P pol call fn nt R rest seen (tput? nt T d v) h1 Q) :
    ROps P pol call fn nt R ((i, ⟨d, .call ⟨.builtin .append, args, #[t, u]⟩, ty, pos, after, none⟩) :: rest) seen T h Q := by
  refine O_do rfl rfl ?_
  simp only [Bool.and_eq_true] at hz
  have h0 : sz ≠ 0 := by intro c; subst c; simp at hz
  have h2 : bytes ≠ 0 := by intro c; subst c; simp at hz
  simp only [aop, hl, abuiltin, aappendOp, elem_of ht.un, hs.sz, hb'.bytes, hz'.zero, hu.un, pure_bind']
  rw [hz.1.1, hz.1.2, Bool.and_self, guard_true, pure_bind', pure_bind', hz.2, guard_true, pure_bind']
  have hsrc : (sourceCells P e sz x).run h = some ((m, new), h) := by
    rw [show sourceCells P e sz x = sliceCells sz x by cases gx <;> rfl]
    exact gx.cells_run
  exact Runs.bind (Runs.of hsrc (aappend_runs gs hg gx.length h1 (by omega) (by omega) hb r))

theorem O_indexAddr_own {t e : TypeId} {x y : Operand} {n sz esz id ver off : Nat} {row : List AV} {fix : Bool} {ik : IntKind} {j : Nat} [hu : TSl P t e] [hs : TSz P e sz] (hx : aeval T x = .own id ver off n) (hr : Row h id ver esz row fix) (hy : aeval T y = .int ik (j : Int)) (hj : j < n) (hl : off + n * sz ≤ row.length)
    (r : ROps P pol call fn nt R rest ((i, [(false, id)]) :: seen) (tput? nt T d (.ptr id ver (off + j * sz))) h Q) : ROps P pol call fn nt R ((i, ⟨d, .indexAddr t x y, ty, pos, after, none⟩) :: rest) seen T h Q := by
  obtain ⟨st, tyo, ho⟩ := hr
  refine O_read _ rfl rfl ?_ (by simp [ho]) (v := .ptr id ver (off + j * sz)) ?_ r
  · have h1 : operIds (aeval T) ⟨d, .indexAddr t x y, ty, pos, after, none⟩ = (avIds (aeval T x) ++ avIds (aeval T y)).map fun id => (false, id) := by simp [operIds, looksIn, Op.operands]
    rw [h1, hx, hy]; rfl
  · simp only [aop, hx, hy, aindexAddr, hu.un, hs.sz]
    rw [pure_bind', run_bind, row_run ho]
    dsimp only
    rw [within_nat hj, show (true && Nat.ble (off + n * sz) row.length) = true by simpa using hl, guard_true, pure_bind']
    rfl
theorem O_clear_own {t e : TypeId} {x : Operand} {id ver off n esz : Nat} {row : List AV} {fix : Bool} {z : AV} [hu : TSl P t e] [hs : TSz P e esz] [hz : TZero P e z] (hx : aeval T x = .own id ver off n) (hr : Row h id ver esz row fix) (hg : off + n * esz ≤ row.length) (hl : (Nat.beq (acells z).length esz && ones (acells z)) = true)
    (r : ∀ h1 row', KeepBut (· = id) h h1 → Row h1 id ver esz row' fix → row'.length = row.length → row'.take off = row.take off → Undis R seen i h h1 ∧ ROps P pol call fn nt R rest seen (tput? nt T d (.tuple [])) h1 Q) :
    ROps P pol call fn nt R ((i, ⟨d, .call ⟨.builtin .clear, #[x], #[t]⟩, ty, pos, after, none⟩) :: rest) seen T h Q := by
  refine O_do rfl rfl ?_
  have hrow := hr
  obtain ⟨st, tyo, ho⟩ := hr
  simp only [Bool.and_eq_true] at hl
  have hzl : (acells z).length = esz := by simpa using hl.1
  simp only [aop, List.map_cons, List.map_nil, hx, abuiltin, aclear, hu.un]
  rw [hs.sz, pure_bind', hz.zero, pure_bind']
  refine Runs.bind (Runs.row ho ?_)
  dsimp only
  cases n with
  | zero => exact Runs.pure (r h row (KeepBut.refl _) hrow rfl rfl)
  | succ n =>
    rw [show (Nat.beq esz esz && Nat.ble (off + (n + 1) * esz) row.length && Nat.beq (acells z).length esz && ones (acells z)) = true by rw [hl.1, hl.2]; simpa using hg, guard_true, pure_bind']
    have hrl : ∀ n, (repeatCells (acells z) n).length = n * (acells z).length := by
      intro n; induction n with
      | zero => simp [repeatCells]
      | succ n ih => simp [repeatCells, ih, Nat.succ_mul]; omega
    have h1 : off + (repeatCells (acells z) (n + 1)).length ≤ row.length := by rw [hrl, hzl]; exact hg
    refine Runs.bind (Runs.hput ho (Nat.le_refl _) (Runs.pure (r _ _ (KeepBut.put _) ⟨_, _, get_set_eq _ _ _ _⟩ (splice_length h1) ?_)))
    unfold splice
    rw [List.append_assoc, List.take_append_of_le_length (by rw [List.length_take]; omega), List.take_take, Nat.min_self]
theorem splice_one {cells : List AV} {k : Nat} (h : k < cells.length) (x : AV) : splice cells k [x] = cells.set k x := by
  unfold splice
  rw [List.set_eq_take_append_cons_drop, if_pos h]
  simp

/-- bounds -/
theorem bounds_lo {n : Nat} {x : Option Operand} {ik : IntKind} {j : Nat} (hx : x.map (aeval T) = some (.int ik j)) (hi : j ≤ n) : abounds n n (x.map (aeval T)) (Option.map (aeval T) Option.none) = Pure.pure (j, n) := by
  rw [hx]
  simp only [abounds, abound, Option.map_none]
  rw [pure_bind', show (decide (0 ≤ (j : Int) ∧ (j : Int) ≤ (n : Int))) = true by simp; omega, guard_true, pure_bind', pure_bind']
  rfl
theorem bounds_hi {n : Nat} {x : Option Operand} {ik : IntKind} {j : Nat} (hx : x.map (aeval T) = some (.int ik j)) (hi : j ≤ n) : abounds n n (Option.map (aeval T) Option.none) (x.map (aeval T)) = Pure.pure (0, j) := by
  rw [hx]
  simp only [abounds, abound, Option.map_none]
  rw [show (decide (0 ≤ (j : Int) ∧ (j : Int) ≤ (n : Int))) = true by simp; omega, guard_true, pure_bind', pure_bind', pure_bind']
  rfl
theorem bounds_both {n : Nat} {x y : Option Operand} {ik ik' : IntKind} {l u : Nat} (hx : x.map (aeval T) = some (.int ik l)) (hy : y.map (aeval T) = some (.int ik' u)) (h1 : l ≤ u) (h2 : u ≤ n) : abounds n n (x.map (aeval T)) (y.map (aeval T)) = Pure.pure (l, u) := by
  rw [hx, hy]
  simp only [abounds, abound]
  rw [show (decide (0 ≤ (u : Int) ∧ (u : Int) ≤ (n : Int))) = true by simp; omega, guard_true, pure_bind', pure_bind']
  rw [show (decide (0 ≤ (l : Int) ∧ (l : Int) ≤ (((u : Int)).toNat : Int))) = true by simp; omega, guard_true, pure_bind', pure_bind']
  rfl
theorem slice_ids {t : TypeId} {x : Operand} {lo hi : Option Operand} {X : AV} (hx : aeval T x = X) (h1 : ∀ y, lo = some y → avIds (aeval T y) = []) (h2 : ∀ y, hi = some y → avIds (aeval T y) = []) :
    operIds (aeval T) ⟨d, .slice t x lo hi none, ty, pos, after, none⟩ = (avIds X).map fun id => (false, id) := by
  subst hx
  cases lo <;> cases hi <;> simp_all [operIds, looksIn, Op.operands]
theorem bound_noids {n : Nat} {lo hi : Option Operand} {l u : Nat} (hb : abounds n n (lo.map (aeval T)) (hi.map (aeval T)) = Pure.pure (l, u)) : (∀ y, lo = some y → avIds (aeval T y) = []) ∧ (∀ y, hi = some y → avIds (aeval T y) = []) := by
  have hf : ∀ {α β : Type} (f : α → AM β) (b : β), (AM.fail >>= f) = Pure.pure b → False := fun f b e => by
    have := congrArg (fun m => m.run Hp.none) e
    cases this
  have hf' : ∀ {β : Type} (b : β), (AM.fail : AM β) = Pure.pure b → False := fun b e => by
    have := congrArg (fun m => m.run Hp.none) e
    cases this
  have hn : ∀ {x : AV}, (∀ ik j, x ≠ .int ik j) → ∀ m o, abound m o (some x) = AM.fail := fun {x} hx m o => by
    cases x <;> first | rfl | exact absurd rfl (hx _ _)
  refine ⟨fun y e => ?_, fun y e => ?_⟩
  · subst e
    by_cases hc : ∃ ik j, aeval T y = .int ik j
    · obtain ⟨ik, j, e⟩ := hc; rw [e]; rfl
    · exfalso
      have hc' : ∀ ik j, aeval T y ≠ .int ik j := fun ik j e => hc ⟨ik, j, e⟩
      have e := congrArg (fun m => m.run Hp.none) hb
      simp only [abounds, Option.map_some] at e
      rw [run_bind] at e
      split at e
      · cases e
      · rw [hn hc', run_bind, run_fail] at e; cases e
  · subst e
    by_cases hc : ∃ ik j, aeval T y = .int ik j
    · obtain ⟨ik, j, e⟩ := hc; rw [e]; rfl
    · exfalso
      have hc' : ∀ ik j, aeval T y ≠ .int ik j := fun ik j e => hc ⟨ik, j, e⟩
      simp only [abounds, Option.map_some] at hb
      rw [hn hc'] at hb
      exact hf _ _ hb
theorem abounds_more {n m : Nat} {lo hi : Option AV} {p : Nat × Nat} (e : abounds n n lo hi = Pure.pure p) (h : n ≤ m) : abounds n m lo hi = Pure.pure p := by
  rw [← e]
  have hne : ∀ (f : Nat → AM (Nat × Nat)), (AM.fail >>= f) ≠ (Pure.pure p : AM (Nat × Nat)) := fun f q => by
    have := congrArg (fun (m : AM (Nat × Nat)) => m.run ⟨.leaf, 0⟩) q
    exact absurd this (by intro c; cases c)
  unfold abounds at e ⊢
  cases hi with
  | none => rfl
  | some v =>
    cases v with
    | int k i =>
      simp only [abound] at e ⊢
      by_cases c : 0 ≤ i ∧ i ≤ n
      · have c' : 0 ≤ i ∧ i ≤ m := by omega
        rw [decide_eq_true c, decide_eq_true c']
      · exfalso
        rw [decide_eq_false c] at e
        have := congrArg (fun (m : AM (Nat × Nat)) => m.run ⟨.leaf, 0⟩) e
        simp only [run_bind] at this
        cases this
    | _ => rfl
theorem room_le {n off sz len : Nat} : n ≤ roomIn n off sz len := by
  unfold roomIn; cases (Nat.ble 1 n || Nat.beq off 0) <;> simp <;> omega
theorem O_slice_v {t e : TypeId} {x : Operand} {lo hi : Option Operand} {n l u sz : Nat} {v : AV} {cells : List AV} [ht : TSl P t e] [hs : TSz P e sz] (hx : aeval T x = v) (s : SlV h sz v n cells) (hb : abounds n n (lo.map (aeval T)) (hi.map (aeval T)) = Pure.pure (l, u)) (hlu : l ≤ u) (hun : u ≤ n)
    (r : ∀ v', SlV h sz v' (u - l) ((cells.drop (l * sz)).take ((u - l) * sz)) → vids v' = vids v → (l = 0 → vids v ≠ [] → growB v' = growB v) → ROps P pol call fn nt R rest ((i, (vids v).map fun id => (false, id)) :: seen) (tput? nt T d v') h Q) :
    ROps P pol call fn nt R ((i, ⟨d, .slice t x lo hi none, ty, pos, after, none⟩) :: rest) seen T h Q := by
  have hids : operIds (aeval T) ⟨d, .slice t x lo hi none, ty, pos, after, none⟩ = (vids v).map fun id => (false, id) := by
    rw [slice_ids hx (bound_noids hb).1 (bound_noids hb).2, s.ids.1]
  have hmul : l * sz + (u - l) * sz ≤ n * sz := by
    rw [← Nat.add_mul, Nat.add_sub_cancel' hlu]; exact Nat.mul_le_mul_right sz hun
  cases s with
  | imm k n cells e' =>
    have hl : ((cells.drop (l * sz)).take ((u - l) * sz)).length = (u - l) * sz := by rw [List.length_take, List.length_drop]; omega
    have hv : ∃ k', aop P pol call fn ⟨d, .slice t x lo hi none, ty, pos, after, none⟩ (aeval T) = pure (.sl k' (u - l) ((cells.drop (l * sz)).take ((u - l) * sz))) := by
      refine ⟨?_, ?_⟩
      rotate_left
      · simp only [aop, hx, Option.map_none, aslice, elem_of ht.un]
        rw [pure_bind', hs.sz, pure_bind', show Nat.beq (n * sz) cells.length = true by simpa using e', guard_true, pure_bind', hb, pure_bind']
    obtain ⟨k', hv⟩ := hv
    exact O_val rfl rfl hids hv (r _ (SlV.imm _ _ _ hl.symm) rfl (fun _ c => by cases c rfl))
  | own id ver off n row fix r' e' =>
    have hr := r'
    obtain ⟨st, tyo, ho⟩ := r'
    refine O_read _ rfl rfl hids (by simp [vids, ho]) (v := .own id ver (off + l * sz) (u - l)) ?_ (r _ ?_ rfl ?_)
    · simp only [aop, hx, Option.map_none, aslice, elem_of ht.un]
      rw [pure_bind', hs.sz, pure_bind', run_bind, row_run ho]
      dsimp only
      rw [show (Nat.beq sz sz && Nat.ble (off + n * sz) row.length) = true by simpa using e', guard_true, pure_bind', abounds_more hb room_le, pure_bind']
      rfl
    · have := SlV.own id ver (off + l * sz) (u - l) row fix hr (by omega)
      rw [← drop_more] at this
      rw [List.drop_take, List.take_take, Nat.min_eq_left (by omega)]
      exact this
    · rintro rfl _; simp [growB]
theorem O_slice_own {t e : TypeId} {x : Operand} {lo hi : Option Operand} {id ver off n esz l u : Nat} {row : List AV} {fix : Bool} [ht : TSl P t e] [hs : TSz P e esz] (hx : aeval T x = .own id ver off n) (hr : Row h id ver esz row fix) (hb : abounds n n (lo.map (aeval T)) (hi.map (aeval T)) = Pure.pure (l, u)) (hg : off + n * esz ≤ row.length)
    (r : ROps P pol call fn nt R rest ((i, [(false, id)]) :: seen) (tput? nt T d (.own id ver (off + l * esz) (u - l))) h Q) :
    ROps P pol call fn nt R ((i, ⟨d, .slice t x lo hi none, ty, pos, after, none⟩) :: rest) seen T h Q := by
  obtain ⟨st, tyo, ho⟩ := hr
  refine O_read _ rfl rfl (slice_ids hx (bound_noids hb).1 (bound_noids hb).2) (by simp [avIds, ho]) (v := .own id ver (off + l * esz) (u - l)) ?_ r
  simp only [aop, hx, Option.map_none, aslice, elem_of ht.un]
  rw [pure_bind', hs.sz, pure_bind', run_bind, row_run ho]
  dsimp only
  rw [show (Nat.beq esz esz && Nat.ble (off + n * esz) row.length) = true by simpa using hg, guard_true, pure_bind', abounds_more hb room_le, pure_bind']
  rfl
theorem O_makeSliceC {t e : TypeId} {l c : Operand} {n m sz bytes : Nat} {z : AV} [ht : TSl P t e] [hs : TSz P e sz] [hb' : TBytes P e bytes] [hz' : TZero P e z] (hl : aeval T l = .int .i64 (n : Int)) (hc : aeval T c = .int .i64 (m : Int))
    (hz : (!(Nat.beq sz 0) && Nat.beq (acells z).length sz) = true) (hnm : n ≤ m) (hn : m < 140737488355328) (hb : m * bytes ≤ room)
    (r : ∀ h1 id, Keep h h1 → Row h1 id 0 sz (repeatCells (acells z) m) true → h.next ≤ id → id < h1.next → ROps P pol call fn nt R rest seen (tput? nt T d (.own id 0 0 n)) h1 Q) :
    ROps P pol call fn nt R ((i, ⟨d, .makeSlice t l c, ty, pos, after, none⟩) :: rest) seen T h Q := by
  refine O_make rfl rfl (Runs.wf fun w => ?_)
  simp only [aop, hl, hc, elem_of ht.un]
  simp only [Bool.and_eq_true] at hz
  rw [pure_bind', hs.sz, pure_bind', hb'.bytes, pure_bind', hz'.zero, pure_bind']
  rw [show (decide (0 ≤ (n : Int) ∧ (n : Int) ≤ (m : Int)) && Nat.ble ((m : Int).toNat * bytes) room && Nat.ble (m : Int).toNat maxInt && Nat.beq (acells z).length sz && !(Nat.beq sz 0)) = true by
    rw [hz.1, hz.2]; simp [hb, maxInt]; omega, guard_true, pure_bind']
  exact Runs.bind (Runs.halloc (Runs.pure (r _ _ (Keep.alloc w _) ⟨_, _, get_set_eq _ _ _ _⟩ (Nat.le_refl _) (Nat.lt_succ_self _))))
theorem O_makeSlice {t e : TypeId} {l c : Operand} {n sz bytes : Nat} {z : AV} [ht : TSl P t e] [hs : TSz P e sz] [hb' : TBytes P e bytes] [hz' : TZero P e z] (hl : aeval T l = .int .i64 (n : Int)) (hc : aeval T c = .int .i64 (n : Int))
    (hz : (!(Nat.beq sz 0) && Nat.beq (acells z).length sz) = true) (hn : n < 140737488355328) (hb : n * bytes ≤ room)
    (r : ∀ h1 id, Keep h h1 → Row h1 id 0 sz (repeatCells (acells z) n) true → h.next ≤ id → id < h1.next → ROps P pol call fn nt R rest seen (tput? nt T d (.own id 0 0 n)) h1 Q) :
    ROps P pol call fn nt R ((i, ⟨d, .makeSlice t l c, ty, pos, after, none⟩) :: rest) seen T h Q := O_makeSliceC hl hc hz (Nat.le_refl _) hn hb r
theorem pairs_nil : ([] : List (Nat × Operand)).map (fun (i, x) => (i, aeval T x)) = [] := rfl
theorem pairs_cons {j : Nat} {x : Operand} {l : List (Nat × Operand)} {v : AV} {vs : List (Nat × AV)} (h1 : aeval T x = v) (h2 : l.map (fun (i, x) => (i, aeval T x)) = vs) : ((j, x) :: l).map (fun (i, x) => (i, aeval T x)) = (j, v) :: vs := by
  rw [List.map_cons]
  dsimp only
  rw [h1]
  exact congrArg _ h2
theorem O_build {t : TypeId} {parts : Array (Nat × Operand)} {l : List (Nat × AV)} {fs : List (Nat × Nat)} {z c' : List AV} [ht : TStruct P t fs z] (hl : parts.toList.map (fun (i, x) => (i, aeval T x)) = l) (hv : afillL fs z l = some c')
    (r : ROps P pol call fn nt R rest ((i, []) :: seen) (tput? nt T d (.agg c')) h Q) : ROps P pol call fn nt R ((i, ⟨d, .build t parts, ty, pos, after, none⟩) :: rest) seen T h Q :=
  O_val rfl rfl rfl (by simp only [aop, hl, ht.build, afillL_ok hv]; rfl) r
theorem O_buildSlice {t e : TypeId} {len sz : Nat} {parts : Array (Nat × Operand)} {l : List (Nat × AV)} {z : AV} {c' : List AV} [ht : TSl P t e] [hs : TSz P e sz] [hz' : TZero P e z] (hl : parts.toList.map (fun (i, x) => (i, aeval T x)) = l)
    (hz : (Nat.ble (len * sz) 16777216 && Nat.beq (acells z).length sz) = true) (hv : afillL ((List.range len).map fun i => (i * sz, sz)) (repeatCells (acells z) len) l = some c') (hp : pol.lit fn (d.getD 0) = false)
    (r : c'.length = len * sz → ROps P pol call fn nt R rest seen (tput? nt T d (.sl .full len c')) h Q) : ROps P pol call fn nt R ((i, ⟨d, .buildSlice t len parts, ty, pos, after, none⟩) :: rest) seen T h Q := by
  refine O_make rfl rfl ?_
  simp only [Bool.and_eq_true] at hz
  have hfill : ∀ {parts : List (Nat × AV)} {cells c' : List AV}, afillL ((List.range len).map fun i => (i * sz, sz)) cells parts = some c' → afill (fun i => some (i * sz, sz)) cells parts = pure c' ∧ c'.length = cells.length := by
    intro parts
    induction parts with
    | nil => intro cells c' e; cases e; exact ⟨rfl, rfl⟩
    | cons p r ih =>
      obtain ⟨j, v⟩ := p
      intro cells c' e
      simp only [afillL] at e
      cases hf : ((List.range len).map fun i => (i * sz, sz))[j]? with
      | none => rw [hf] at e; cases e
      | some p =>
        obtain ⟨off, size⟩ := p
        rw [hf] at e
        obtain ⟨hj, hq⟩ := List.getElem?_eq_some_iff.1 hf
        simp at hq
        obtain ⟨rfl, rfl⟩ := hq
        dsimp only at e
        cases hc : (Nat.beq (acells v).length sz && Nat.ble (j * sz + sz) cells.length && known v) with
        | false => rw [hc] at e; cases e
        | true =>
          rw [hc] at e
          simp only [afill]
          obtain ⟨h1, h2⟩ := ih e
          rw [hc, guard_true, pure_bind', h1]
          simp only [Bool.and_eq_true] at hc
          have h3 : (acells v).length = sz := by simpa using hc.1.1
          have h4 : j * sz + sz ≤ cells.length := by simpa using hc.1.2
          exact ⟨rfl, by rw [h2, splice_length (by omega)]⟩
  have hrl : ∀ n, (repeatCells (acells z) n).length = n * (acells z).length := by
    intro n; induction n with
    | zero => simp [repeatCells]
    | succ n ih => simp [repeatCells, ih, Nat.succ_mul]; omega
  have hzl : (acells z).length = sz := by simpa using hz.2
  obtain ⟨h1, h2⟩ := hfill hv
  have hab : abuildSlice P t len l = pure (sz, c') := by
    simp only [abuildSlice, elem_of ht.un]
    rw [pure_bind', hs.sz, pure_bind', hz.1, guard_true, pure_bind']
    cases len with
    | zero =>
      simp only [zeroUnless]
      rw [pure_bind']
      simp only [repeatCells] at h1 ⊢
      rw [show (Nat.beq 0 0 || Nat.beq (acells (.agg [])).length sz) = true by simp, guard_true, pure_bind', h1, pure_bind']
    | succ n =>
      simp only [zeroUnless, hz'.zero]
      rw [pure_bind', hz.2, Bool.or_true, guard_true, pure_bind', h1, pure_bind']
  simp only [aop, hl, hab]
  rw [pure_bind']
  dsimp only
  rw [hp]
  exact Runs.pure (r (by rw [h2, hrl, hzl]))

/-! ### maps whose keys are texts -/
theorem O_lookup {t kt et : TypeId} {x k : Operand} {ok : Bool} {id : Nat} {es : List (AV × AV)} {s : List UInt8} {z : AV} {res : Option AV} [ht : TMap P t kt et] [hk' : TStr P kt] [hz : TZero P et z] (hx : aeval T x = .mapv id) (hk : aeval T k = .str s) (hm : MapAt h id es) (hf : afind (.str s) es = some res)
    (r : ROps P pol call fn nt R rest ((i, [(true, id)]) :: seen) (tput? nt T d (cond ok (.tuple [res.getD z, .bool res.isSome]) (res.getD z))) h Q) : ROps P pol call fn nt R ((i, ⟨d, .lookup t x k ok, ty, pos, after, none⟩) :: rest) seen T h Q := by
  obtain ⟨ver, st, tyo, ho⟩ := hm
  refine O_read [(true, id)] rfl rfl ?_ (by simp [ho]) ?_ r
  · have : operIds (aeval T) ⟨d, .lookup t x k ok, ty, pos, after, none⟩ = (avIds (aeval T x) ++ avIds (aeval T k)).map fun id => (true, id) := by simp [operIds, looksIn, Op.operands]
    rw [this, hx, hk]; rfl
  · simp only [aop, hx, hk, alookup, ht.un]
    rw [show goodKey P kt (.str s) = true by unfold goodKey; rw [hk'.un], guard_true, pure_bind']
    simp only [entriesOf, mapOf]
    rw [run_bind, run_bind]
    simp only [AM.hget, ho]
    simp only [run_pure]
    rw [hf, ofOption_some', pure_bind', hz.zero, pure_bind']
    rfl
theorem O_lookup_nil {t kt et : TypeId} {x k : Operand} {ok : Bool} {s : List UInt8} {z : AV} [ht : TMap P t kt et] [hk' : TStr P kt] [hz : TZero P et z] (hx : aeval T x = .nilmap) (hk : aeval T k = .str s)
    (r : ROps P pol call fn nt R rest ((i, []) :: seen) (tput? nt T d (cond ok (.tuple [z, .bool false]) z)) h Q) : ROps P pol call fn nt R ((i, ⟨d, .lookup t x k ok, ty, pos, after, none⟩) :: rest) seen T h Q := by
  refine O_val rfl rfl ?_ ?_ r
  · have : operIds (aeval T) ⟨d, .lookup t x k ok, ty, pos, after, none⟩ = (avIds (aeval T x) ++ avIds (aeval T k)).map fun id => (true, id) := by simp [operIds, looksIn, Op.operands]
    rw [this, hx, hk]; rfl
  · simp only [aop, hx, hk, alookup, ht.un]
    rw [show goodKey P kt (.str s) = true by unfold goodKey; rw [hk'.un], guard_true, pure_bind']
    simp only [entriesOf]
    rw [pure_bind', show afind (.str s) [] = some Option.none from rfl, ofOption_some', pure_bind', hz.zero, pure_bind']
    cases ok <;> rfl
theorem O_mapUpd {t kt et : TypeId} {m k x : Operand} {b : Bool} {id : Nat} {es : List (AV × AV)} {s : List UInt8} {v : AV} {res : Option AV} [ht : TMap P t kt et] [hk' : TStr P kt] (hx : aeval T m = .mapv id) (hk : aeval T k = .str s) (hv : aeval T x = v) (hm : MapAt h id es) (hf : afind (.str s) es = some res)
    (r : ∀ h1, KeepBut (· = id) h h1 → MapAt h1 id (aupd (.str s) v es) → Undis R seen i h h1 ∧ ROps P pol call fn nt R rest seen (tput? nt T d (.tuple [])) h1 Q) : ROps P pol call fn nt R ((i, ⟨d, cond b (.mapUpdate t m k x) (.insert t m k x), ty, pos, after, none⟩) :: rest) seen T h Q := by
  obtain ⟨ver, st, tyo, ho⟩ := hm
  refine O_do rfl (by cases b <;> rfl) ?_
  have : aop P pol call fn ⟨d, cond b (.mapUpdate t m k x) (.insert t m k x), ty, pos, after, none⟩ (aeval T) = (do amapUpdate P t (.mapv id) (.str s) v; pure (.tuple [])) := by
    cases b <;> simp only [aop, cond_true, cond_false, hx, hk, hv]
  rw [this]
  simp only [amapUpdate, ht.un]
  rw [show goodKey P kt (.str s) = true by unfold goodKey; rw [hk'.un], guard_true, pure_bind']
  refine Runs.bind (Runs.bind (Runs.hget ho ?_))
  dsimp only
  rw [hf, ofOption_some', pure_bind']
  exact Runs.hput ho (Nat.le_refl _) (Runs.pure (r _ (KeepBut.put _) ⟨_, _, _, get_set_eq _ _ _ _⟩))
theorem O_mapUpdate {t kt et : TypeId} {m k x : Operand} {id : Nat} {es : List (AV × AV)} {s : List UInt8} {v : AV} {res : Option AV} [ht : TMap P t kt et] [hk' : TStr P kt] (hx : aeval T m = .mapv id) (hk : aeval T k = .str s) (hv : aeval T x = v) (hm : MapAt h id es) (hf : afind (.str s) es = some res)
    (r : ∀ h1, KeepBut (· = id) h h1 → MapAt h1 id (aupd (.str s) v es) → Undis R seen i h h1 ∧ ROps P pol call fn nt R rest seen (tput? nt T d (.tuple [])) h1 Q) : ROps P pol call fn nt R ((i, ⟨d, .mapUpdate t m k x, ty, pos, after, none⟩) :: rest) seen T h Q :=
  O_mapUpd (b := true) hx hk hv hm hf r
/-- where ways meet again -/
def KMid (Mid : Temps → Hp → Prop) (Q : Exit × Temps → Hp → Prop) : Exit × Temps → Hp → Prop := fun x h1 => match x with
  | (.normal, T1) => Mid T1 h1
  | x => Q x h1
theorem K_mid {Mid : Temps → Hp → Prop} {Q : Exit × Temps → Hp → Prop} {T : Temps} {h : Hp} (r : Mid T h) : KMid Mid Q (.normal, T) h := r
theorem K_mid_ret {Mid : Temps → Hp → Prop} {Q : Exit × Temps → Hp → Prop} {T : Temps} {h : Hp} (r : Q (.ret, T) h) : KMid Mid Q (.ret, T) h := r
theorem K_mid_exit {Mid : Temps → Hp → Prop} {Q : Exit × Temps → Hp → Prop} {T : Temps} {h : Hp} {id : Nat} (r : Q (.exit id, T) h) : KMid Mid Q (.exit id, T) h := r
theorem R_mid {c rest : Code} {T : Temps} {h : Hp} {Q : Exit × Temps → Hp → Prop} (Mid : Temps → Hp → Prop) (r1 : Runs (acode P pol call fn nt fuel c T) h (KMid Mid Q)) (r2 : ∀ T1 h1, Mid T1 h1 → Runs (acode P pol call fn nt fuel rest T1) h1 Q) :
    Runs (acode P pol call fn nt fuel c T) h (KSeq P pol call fn nt fuel rest Q) := r1.mono fun x h1 q => by
  obtain ⟨e, T1⟩ := x
  cases e <;> first | exact r2 T1 h1 q | exact q
/-- a slice against nil -/
theorem O_eqNil {op : BinOp} {t t' e : TypeId} {x y : Operand} {v u : AV} {b : Bool} [hu : TSl P t e] (hx : aeval T x = v) (hy : aeval T y = .sl .nil 0 []) (hop : op = .eql ∧ u = .bool b ∨ op = .neq ∧ u = .bool !b)
    (hv : (∃ id ver off n sz row fix, v = .own id ver off n ∧ Row h id ver sz row fix ∧ b = false) ∨ (∃ k n c, v = .sl k n c ∧ ((k = .nil ∧ b = true) ∨ (k = .full ∧ b = false))))
    (r : ROps P pol call fn nt R rest ((i, (vids v).map fun id => (false, id)) :: seen) (tput? nt T d u) h Q) : ROps P pol call fn nt R ((i, ⟨d, .binOp op t x y t', ty, pos, after, none⟩) :: rest) seen T h Q := by
  have hids : operIds (aeval T) ⟨d, .binOp op t x y t', ty, pos, after, none⟩ = (vids v).map fun id => (false, id) := by
    rw [bin_ids hx hy]
    rcases hv with ⟨id, ver, off, n, sz, row, fix, rfl, _⟩ | ⟨k, n, c, rfl, _⟩ <;> rfl
  have key : ∀ f : Bool → AM AV, (do let b ← aequal P t v (.sl .nil 0 []); f b).run h = (f b).run h := by
    intro f
    have e : (aequal P t v (.sl .nil 0 [])).run h = some (b, h) := by
      unfold aequal
      simp only [hu.un]
      rcases hv with ⟨id, ver, off, n, sz, row, fix, rfl, ⟨st, tyo, ho⟩, rfl⟩ | ⟨k, n, c, rfl, ⟨rfl, rfl⟩ | ⟨rfl, rfl⟩⟩
      · simp only [nilKind]
        rw [run_bind, run_bind, row_run ho]
        rfl
      · rfl
      · rfl
    rw [run_bind, e]
  refine O_read _ rfl rfl hids (fun x hx => ?_) ?_ r
  · obtain ⟨y, hy, rfl⟩ := List.mem_map.1 hx
    rcases hv with ⟨id, ver, off, n, sz, row, fix, rfl, ⟨st, tyo, ho⟩, _⟩ | ⟨k, n, c, rfl, _⟩
    · simp only [vids, List.mem_singleton] at hy; subst hy; simp [ho]
    · cases hy
  · simp only [aop, hx, hy]
    rcases hop with ⟨rfl, rfl⟩ | ⟨rfl, rfl⟩
    · have : abin P .eql t v (.sl .nil 0 []) = (do let b ← aequal P t v (.sl .nil 0 []); pure (.bool b)) := by
        rcases hv with ⟨id, ver, off, n, sz, row, fix, rfl, _⟩ | ⟨k, n, c, rfl, _⟩ <;> rfl
      rw [this, key]; rfl
    · have : abin P .neq t v (.sl .nil 0 []) = (do let b ← aequal P t v (.sl .nil 0 []); pure (.bool !b)) := by
        rcases hv with ⟨id, ver, off, n, sz, row, fix, rfl, _⟩ | ⟨k, n, c, rfl, _⟩ <;> rfl
      rw [this, key]; rfl
/-- results that lie in a cell -/
theorem R_res_agg {fn' : Func} {t : Tmp} {ty : TypeId} {id ver off esz n : Nat} {row c' : List AV} {fix : Bool} {Q : AV → Hp → Prop} [ht : TAgg P ty n] (hr' : fn'.results = #[.cell t ty]) (ha : tget T t = .ptr id ver off) (hr : Row h id ver esz row fix) (hl : Nat.ble (off + n) row.length = true) (hv : (row.drop off).take n = c') (q : Q (.agg c') h) :
    Runs (aresults P fn' T) h Q := by
  have hl' : off + n ≤ row.length := by simpa using hl
  obtain ⟨st, tyo, ho⟩ := hr
  refine R_results_cell hr' ha ?_ q
  simp only [aload]
  rw [run_bind, row_run ho]
  dsimp only
  rw [ht.rd _ (by simp; omega), hv]; rfl
theorem R_res_one {fn' : Func} {t : Tmp} {ty : TypeId} {id ver off esz : Nat} {row r' : List AV} {v : AV} {fix : Bool} {Q : AV → Hp → Prop} [ht : TOne P ty] (hr' : fn'.results = #[.cell t ty]) (ha : tget T t = .ptr id ver off) (hr : Row h id ver esz row fix) (hv : row.drop off = v :: r') (q : Q v h) :
    Runs (aresults P fn' T) h Q := by
  obtain ⟨st, tyo, ho⟩ := hr
  refine R_results_cell hr' ha ?_ q
  simp only [aload]
  rw [run_bind, row_run ho]
  dsimp only
  rw [hv, ht.rd]; rfl
end
end Go.Am
namespace Go.Am
open Go AM
def fieldsOf (P : Program) (t : TypeId) : Option (List (Nat × Nat)) := match P.underlying t with
  | some (.struct fs) => cond (fs.toList.all fun f => (P.info? f.type).isSome) (some (fs.toList.map fun f => (f.offset, ((P.info? f.type).map (·.size)).getD 0))) none
  | _ => none
theorem struct_of {P : Program} {t : TypeId} {L : List (Nat × Nat)} {z : AV} {c : List AV} (h : fieldsOf P t = some L) (hz : zeroOf P t = pure z) (hc : acells z = c) : TStruct P t L c := ⟨fun parts => by
  subst hc
  unfold fieldsOf at h
  split at h
  · rename_i fs hu
    cases hall : (fs.toList.all fun f => (P.info? f.type).isSome) with
    | false => rw [hall] at h; cases h
    | true =>
      rw [hall] at h
      cases h
      simp only [abuild, hz, hu]
      rw [pure_bind', hall, guard_true, pure_bind']
      congr 2
      funext i
      rw [List.getElem?_map]
      cases hi : fs.toList[i]? with
      | none => rfl
      | some f =>
        have := List.all_eq_true.1 hall f (List.mem_of_getElem? hi)
        obtain ⟨n, hn⟩ := Option.isSome_iff_exists.1 this
        simp [hn]
  · cases h⟩
theorem one_of {P : Program} {t : TypeId} (h : ∀ v cells, aread P t (v :: cells) = pure v) : TOne P t := ⟨h⟩
theorem agg_of {P : Program} {t : TypeId} {n : Nat} (h : ∀ cells, aread P t cells = (do AM.guard (Nat.ble n cells.length); pure (.agg (cells.take n)))) : TAgg P t n := ⟨fun cells hl => (h cells).trans (guard_then hl _)⟩
theorem field_of {P : Program} {s t : TypeId} {f off : Nat} (h1 : ∀ id ver o, afieldAddr P s (.ptr id ver o) f = pure (.ptr id ver (o + off)))
    (h2 : ∀ cells, afieldAddr P s (.iptr cells) f = (do AM.guard (Nat.ble off cells.length); pure (.iptr (cells.drop off))))
    (h3 : ∀ cells, afield P s (.agg cells) f = (do AM.guard (Nat.ble off cells.length); aread P t (cells.drop off))) : TField P s f off t :=
  ⟨h1, fun cells hl => (h2 cells).trans (guard_then hl _), fun cells hl => (h3 cells).trans (guard_then hl _)⟩
end Go.Am
namespace Go.Am
open Go AM
/-- a step: what is to be shown, and of what it follows -/
class KW (P : Prop) (G : outParam Prop) : Prop where go : G → P
class Same {α : Sort _} (a b : α) : Prop where eq : a = b
instance {α : Sort _} (a : α) : Same a a := ⟨rfl⟩
class Num (k : Nat) (l : List Oper) (r : outParam (List (Nat × Oper))) : Prop where eq : number k l = r
instance {k : Nat} : Num k [] [] := ⟨rfl⟩
instance {k : Nat} {o : Oper} {l : List Oper} {r : List (Nat × Oper)} [a : Num (k + 1) l r] : Num k (o :: l) ((k, o) :: r) := ⟨by rw [number, a.eq]⟩
section
variable {P : Program} {pol : Pol} {call : Calling} {fn nt fuel : Nat} {h : Hp} {T : Temps} {Q : Exit × Temps → Hp → Prop} {a b : Code} {id id' k : Nat} {I : Nat → Temps → Hp → Prop} {V : AV → Hp → Prop} {fn' : Func} {Mid : Temps → Hp → Prop}
instance : KW (Runs (acode P pol call fn nt fuel (.seq a b) T) h Q) (Runs (acode P pol call fn nt fuel a T) h (KSeq P pol call fn nt fuel b Q)) := ⟨R_seq⟩
instance : KW (Runs (acode P pol call fn nt fuel (.block id b) T) h Q) (Runs (acode P pol call fn nt fuel b T) h (KBlock id Q)) := ⟨R_block⟩
instance : KW (Runs (acode P pol call fn nt fuel .ret T) h Q) (Q (.ret, T) h) := ⟨R_ret⟩
instance : KW (Runs (acode P pol call fn nt fuel .skip T) h Q) (Q (.normal, T) h) := ⟨R_skip⟩
instance : KW (Runs (acode P pol call fn nt fuel (.exit id) T) h Q) (Q (.exit id, T) h) := ⟨R_exit⟩
instance {ops : List Oper} {r : List (Nat × Oper)} [n : Num 0 ops r] : KW (Runs (acode P pol call fn nt fuel (.region id ops.toArray false) T) h Q) (ROps P pol call fn nt ⟨false, [], ops.map (·.dst)⟩ r [] T h (KOps Q)) := ⟨fun g => R_region (by rw [← n.eq] at g; exact g)⟩
instance {R : Rg} {seen : Seen} {Q : Temps → Hp → Prop} : KW (ROps P pol call fn nt R [] seen T h Q) (Q T h) := ⟨O_nil⟩
instance : KW (KSeq P pol call fn nt fuel b Q (.normal, T) h) (Runs (acode P pol call fn nt fuel b T) h Q) := ⟨K_seq⟩
instance : KW (KSeq P pol call fn nt fuel b Q (.ret, T) h) (Q (.ret, T) h) := ⟨K_seq_ret⟩
instance : KW (KSeq P pol call fn nt fuel b Q (.exit id, T) h) (Q (.exit id, T) h) := ⟨K_seq_exit⟩
instance : KW (KBlock id Q (.normal, T) h) (Q (.normal, T) h) := ⟨K_block⟩
instance : KW (KBlock id Q (.ret, T) h) (Q (.ret, T) h) := ⟨K_block_ret⟩
instance : KW (KBlock id Q (.exit id, T) h) (Q (.normal, T) h) := ⟨K_block_exit⟩
instance (priority := 900) [e : Same (Nat.beq id' id) false] : KW (KBlock id Q (.exit id', T) h) (Q (.exit id', T) h) := ⟨K_block_other e.eq⟩
instance : KW (KLoop I k Q (.ret, T) h) (Q (.ret, T) h) := ⟨K_loop_ret⟩
instance : KW (KLoop I k Q (.exit id, T) h) (Q (.exit id, T) h) := ⟨K_loop_exit⟩
instance : KW (KOps Q T h) (Q (.normal, T) h) := ⟨K_ops⟩
instance : KW (KFunc P fn' V (.ret, T) h) (Runs (aresults P fn' T) h V) := ⟨K_func_ret⟩
instance : KW (KFunc P fn' V (.normal, T) h) (Runs (aresults P fn' T) h V) := ⟨K_func_end⟩
instance : KW (KMid Mid Q (.ret, T) h) (Q (.ret, T) h) := ⟨K_mid_ret⟩
instance : KW (KMid Mid Q (.exit id, T) h) (Q (.exit id, T) h) := ⟨K_mid_exit⟩
end
end Go.Am
namespace Go.Am
open Go Go.Proofs
instance Tryz.rd3 : TOne Tryz.prog 3 := one_of fun v cells => by kernel_rfl
instance Tryz.sz9 : TSz Tryz.prog 9 1 := ⟨by kernel_rfl⟩
instance Tryz.by9 : TBytes Tryz.prog 9 16 := ⟨by kernel_rfl⟩
instance Tryz.ze9 : TZero Tryz.prog 9 (.str []) := ⟨by kernel_rfl⟩
instance Tryz.rd9 : TOne Tryz.prog 9 := one_of fun v cells => by kernel_rfl
instance Tryz.rd22 : TOne Tryz.prog 22 := one_of fun v cells => by kernel_rfl
instance Tryz.un22 : TSl Tryz.prog 22 53 := ⟨by kernel_rfl⟩
instance Tryz.rd24 : TAgg Tryz.prog 24 5 := agg_of fun cells => by kernel_rfl
instance Tryz.fd24_0 : TField Tryz.prog 24 0 0 3 := field_of (fun _ _ _ => by kernel_rfl) (fun _ => by kernel_rfl) (fun _ => by kernel_rfl)
instance Tryz.fd24_1 : TField Tryz.prog 24 1 1 3 := field_of (fun _ _ _ => by kernel_rfl) (fun _ => by kernel_rfl) (fun _ => by kernel_rfl)
instance Tryz.fd24_2 : TField Tryz.prog 24 2 2 3 := field_of (fun _ _ _ => by kernel_rfl) (fun _ => by kernel_rfl) (fun _ => by kernel_rfl)
instance Tryz.fd24_3 : TField Tryz.prog 24 3 3 3 := field_of (fun _ _ _ => by kernel_rfl) (fun _ => by kernel_rfl) (fun _ => by kernel_rfl)
instance Tryz.fd24_4 : TField Tryz.prog 24 4 4 22 := field_of (fun _ _ _ => by kernel_rfl) (fun _ => by kernel_rfl) (fun _ => by kernel_rfl)
instance Tryz.rd27 : TAgg Tryz.prog 27 4 := agg_of fun cells => by kernel_rfl
instance Tryz.rd29 : TAgg Tryz.prog 29 5 := agg_of fun cells => by kernel_rfl
instance Tryz.fd29_0 : TField Tryz.prog 29 0 0 9 := field_of (fun _ _ _ => by kernel_rfl) (fun _ => by kernel_rfl) (fun _ => by kernel_rfl)
instance Tryz.fd29_1 : TField Tryz.prog 29 1 1 27 := field_of (fun _ _ _ => by kernel_rfl) (fun _ => by kernel_rfl) (fun _ => by kernel_rfl)
instance Tryz.rd31 : TAgg Tryz.prog 31 15 := agg_of fun cells => by kernel_rfl
instance Tryz.fd31_0 : TField Tryz.prog 31 0 0 29 := field_of (fun _ _ _ => by kernel_rfl) (fun _ => by kernel_rfl) (fun _ => by kernel_rfl)
instance Tryz.fd31_1 : TField Tryz.prog 31 1 5 29 := field_of (fun _ _ _ => by kernel_rfl) (fun _ => by kernel_rfl) (fun _ => by kernel_rfl)
instance Tryz.fd31_2 : TField Tryz.prog 31 2 10 29 := field_of (fun _ _ _ => by kernel_rfl) (fun _ => by kernel_rfl) (fun _ => by kernel_rfl)
instance Tryz.rd32 : TOne Tryz.prog 32 := one_of fun v cells => by kernel_rfl
instance Tryz.un32 : TSl Tryz.prog 32 9 := ⟨by kernel_rfl⟩
instance Tryz.sz37 : TSz Tryz.prog 37 1 := ⟨by kernel_rfl⟩
instance Tryz.rd37 : TOne Tryz.prog 37 := one_of fun v cells => by kernel_rfl
instance Tryz.un37 : TSl Tryz.prog 37 58 := ⟨by kernel_rfl⟩
instance Tryz.sz39 : TSz Tryz.prog 39 5 := ⟨by kernel_rfl⟩
instance Tryz.ze39 : TZero Tryz.prog 39 (.agg [(.int .i64 0), (.int .i64 0), (.int .i64 0), (.int .i64 0), (.sl .nil 0 [])]) := ⟨by kernel_rfl⟩
instance Tryz.rd39 : TAgg Tryz.prog 39 5 := agg_of fun cells => by kernel_rfl
instance Tryz.fd39_0 : TField Tryz.prog 39 0 0 3 := field_of (fun _ _ _ => by kernel_rfl) (fun _ => by kernel_rfl) (fun _ => by kernel_rfl)
instance Tryz.fd39_1 : TField Tryz.prog 39 1 1 3 := field_of (fun _ _ _ => by kernel_rfl) (fun _ => by kernel_rfl) (fun _ => by kernel_rfl)
instance Tryz.fd39_2 : TField Tryz.prog 39 2 2 3 := field_of (fun _ _ _ => by kernel_rfl) (fun _ => by kernel_rfl) (fun _ => by kernel_rfl)
instance Tryz.fd39_3 : TField Tryz.prog 39 3 3 3 := field_of (fun _ _ _ => by kernel_rfl) (fun _ => by kernel_rfl) (fun _ => by kernel_rfl)
instance Tryz.fd39_4 : TField Tryz.prog 39 4 4 37 := field_of (fun _ _ _ => by kernel_rfl) (fun _ => by kernel_rfl) (fun _ => by kernel_rfl)
instance Tryz.st39 : TStruct Tryz.prog 39 [(0, 1), (1, 1), (2, 1), (3, 1), (4, 1)] [(.int .i64 0), (.int .i64 0), (.int .i64 0), (.int .i64 0), (.sl .nil 0 [])] := struct_of (by kernel_rfl) Tryz.ze39.zero rfl
instance Tryz.sz53 : TSz Tryz.prog 53 7 := ⟨by kernel_rfl⟩
instance Tryz.ze53 : TZero Tryz.prog 53 (.agg [(.int .i64 0), (.str []), (.str []), (.str []), (.int .i64 0), (.int .i64 0), (.int .i64 0)]) := ⟨by kernel_rfl⟩
instance Tryz.rd53 : TAgg Tryz.prog 53 7 := agg_of fun cells => by kernel_rfl
instance Tryz.fd53_0 : TField Tryz.prog 53 0 0 27 := field_of (fun _ _ _ => by kernel_rfl) (fun _ => by kernel_rfl) (fun _ => by kernel_rfl)
instance Tryz.fd53_1 : TField Tryz.prog 53 1 4 3 := field_of (fun _ _ _ => by kernel_rfl) (fun _ => by kernel_rfl) (fun _ => by kernel_rfl)
instance Tryz.fd53_2 : TField Tryz.prog 53 2 5 3 := field_of (fun _ _ _ => by kernel_rfl) (fun _ => by kernel_rfl) (fun _ => by kernel_rfl)
instance Tryz.fd53_3 : TField Tryz.prog 53 3 6 3 := field_of (fun _ _ _ => by kernel_rfl) (fun _ => by kernel_rfl) (fun _ => by kernel_rfl)
instance Tryz.st53 : TStruct Tryz.prog 53 [(0, 4), (4, 1), (5, 1), (6, 1)] [(.int .i64 0), (.str []), (.str []), (.str []), (.int .i64 0), (.int .i64 0), (.int .i64 0)] := struct_of (by kernel_rfl) Tryz.ze53.zero rfl
instance Tryz.sz58 : TSz Tryz.prog 58 7 := ⟨by kernel_rfl⟩
instance Tryz.by58 : TBytes Tryz.prog 58 80 := ⟨by kernel_rfl⟩
instance Tryz.ze58 : TZero Tryz.prog 58 (.agg [(.int .i64 0), (.str []), (.str []), (.str []), (.int .i64 0), (.int .i64 0), (.int .i64 0)]) := ⟨by kernel_rfl⟩
instance Tryz.rd58 : TAgg Tryz.prog 58 7 := agg_of fun cells => by kernel_rfl
instance Tryz.fd58_0 : TField Tryz.prog 58 0 0 27 := field_of (fun _ _ _ => by kernel_rfl) (fun _ => by kernel_rfl) (fun _ => by kernel_rfl)
instance Tryz.fd58_1 : TField Tryz.prog 58 1 4 3 := field_of (fun _ _ _ => by kernel_rfl) (fun _ => by kernel_rfl) (fun _ => by kernel_rfl)
instance Tryz.fd58_2 : TField Tryz.prog 58 2 5 3 := field_of (fun _ _ _ => by kernel_rfl) (fun _ => by kernel_rfl) (fun _ => by kernel_rfl)
instance Tryz.fd58_3 : TField Tryz.prog 58 3 6 3 := field_of (fun _ _ _ => by kernel_rfl) (fun _ => by kernel_rfl) (fun _ => by kernel_rfl)
instance Tryz.st58 : TStruct Tryz.prog 58 [(0, 4), (4, 1), (5, 1), (6, 1)] [(.int .i64 0), (.str []), (.str []), (.str []), (.int .i64 0), (.int .i64 0), (.int .i64 0)] := struct_of (by kernel_rfl) Tryz.ze58.zero rfl
end Go.Am
namespace Go.Am
open Go AM
theorem tgP {P : Prop} (h : P := by (repeat' first|assumption|exact tgo_same rfl|apply tgo_ne rfl|apply tgo_none); first|done|fail) : P := h
theorem evP {P : Prop} (h : P := by (focus first|(apply ev_tmp;exact tgP)|exact ev_int _ _|exact ev_bool _|exact ev_str _|exact ev_nilptr|exact ev_nilsl|exact ev_nilmap|exact ev_nilfunc|exact ev_func _)) : P := h
theorem E0 {P : Prop} (h : P := by first|exact evP|exact ar_inc _ (by omega)|exact ar_sub (by omega)|exact ar_add (by omega)|exact rfl|assumption) : P := h
structure Bx (P : Prop) : Prop where un : P
theorem goP {A B : Prop} (b : B) (h : Bx B → A := by intro goB; (repeat (first|refine KW.go ?_|((first|apply O_assign|apply O_move|apply O_int|apply O_not|apply O_pick|apply O_len_v|apply O_extract|apply O_nilCheck_ptr|apply O_fieldAddr_ptr|apply O_load_row)<;>first|exact E0|apply O_self)|((first|apply O_str|apply O_len_str|apply O_nilCheck_iptr)<;>first|exact E0|apply O_self)|(apply O_yes rfl rfl;(focus exact tgP))|(apply O_no rfl rfl;(focus exact tgP);exact rfl))); exact goB.un) : A := h ⟨b⟩
theorem andP {a b : Prop} (k : b) (h : a := by first|omega|exact rfl|trivial|exact S.lit _ _|kernel_rfl|(simp; omega)) : a ∧ b := ⟨h, k⟩
end Go.Am
namespace Go.Am
open Go AM
set_option linter.unusedVariables false

/-! ### chunks -/
/-- objects, and what is said of them -/
structure Ck where
  ids : List Nat
  p : Hp → Prop
  loc : ∀ h h' : Hp, (∀ i ∈ ids, ∀ o, h.get i = some o → h'.get i = some o) → p h → p h'
  dom : ∀ h, p h → ∀ i ∈ ids, (h.get i).isSome = true

/-- the cells of a row of things -/
def flat {α : Type} (f : α → List AV) (l : List α) : List AV := l.flatMap f
theorem flat_nil {α : Type} (f : α → List AV) : flat f [] = [] := rfl
theorem flat_cons {α : Type} (f : α → List AV) (x : α) (l : List α) : flat f (x :: l) = f x ++ flat f l := by simp [flat]
theorem flat_append {α : Type} (f : α → List AV) (l m : List α) : flat f (l ++ m) = flat f l ++ flat f m := by simp [flat]
theorem flat_length {α : Type} {f : α → List AV} {sz : Nat} (hf : ∀ x, (f x).length = sz) : ∀ l : List α, (flat f l).length = l.length * sz
  | [] => by simp [flat]
  | x :: l => by rw [flat_cons, List.length_append, hf, flat_length hf l, List.length_cons, Nat.succ_mul, Nat.add_comm]
theorem flat_drop {α : Type} {f : α → List AV} {sz : Nat} (hf : ∀ x, (f x).length = sz) : ∀ (l : List α) (i : Nat), (flat f l).drop (i * sz) = flat f (l.drop i)
  | l, 0 => by simp
  | [], i + 1 => by simp [flat]
  | x :: l, i + 1 => by
    rw [flat_cons, Nat.succ_mul, Nat.add_comm, ← List.drop_drop, show List.drop sz (f x ++ flat f l) = flat f l by rw [← hf x, List.drop_left']; rfl]
    exact flat_drop hf l i
theorem flat_take {α : Type} {f : α → List AV} {sz : Nat} (hf : ∀ x, (f x).length = sz) (l : List α) (i : Nat) : (flat f l).take (i * sz) = flat f (l.take i) := by
  by_cases h : i ≤ l.length
  · have e : flat f l = flat f (l.take i) ++ flat f (l.drop i) := by rw [← flat_append, List.take_append_drop]
    rw [e, List.take_left']
    rw [flat_length hf, List.length_take, Nat.min_eq_left h]
  · have : l.length * sz ≤ i * sz := Nat.mul_le_mul_right _ (by omega)
    rw [List.take_of_length_le (by rw [flat_length hf]; exact this), List.take_of_length_le (by omega)]
theorem flat_get {α : Type} {f : α → List AV} {sz : Nat} (hf : ∀ x, (f x).length = sz) {l : List α} {i : Nat} {x : α} (hx : l[i]? = some x) : ((flat f l).drop (i * sz)).take sz = f x := by
  obtain ⟨hi, rfl⟩ := List.getElem?_eq_some_iff.1 hx
  rw [flat_drop hf, List.drop_eq_getElem_cons hi, flat_cons, ← hf l[i], List.take_left']
  rfl
/-- a slice of things -/
abbrev Rows {α : Type} (f : α → List AV) (sz : Nat) (h : Hp) (v : AV) (l : List α) : Prop := SlV h sz v l.length (flat f l)
class FL {α : Type} (f : α → List AV) (sz : outParam Nat) : Prop where len : ∀ x, (f x).length = sz

def Ck.row (id ver esz : Nat) (cells : List AV) (fix : Bool) : Ck where
  ids := [id]
  p h := Row h id ver esz cells fix
  loc h h' k r := by obtain ⟨st, ty, e⟩ := r; exact ⟨st, ty, k id (by simp) _ e⟩
  dom h r i hi := by simp at hi; subst hi; obtain ⟨st, ty, e⟩ := r; rw [e]; rfl
def Ck.map (id : Nat) (es : List (AV × AV)) : Ck where
  ids := [id]
  p h := MapAt h id es
  loc h h' k r := by obtain ⟨v, st, ty, e⟩ := r; exact ⟨v, st, ty, k id (by simp) _ e⟩
  dom h r i hi := by simp at hi; subst hi; obtain ⟨v, st, ty, e⟩ := r; rw [e]; rfl
theorem SlV.loc {h h' : Hp} {sz n : Nat} {v : AV} {cells : List AV} (s : SlV h sz v n cells) (q : ∀ i ∈ vids v, ∀ o, h.get i = some o → h'.get i = some o) : SlV h' sz v n cells := by
  cases s with
  | imm k n _ e => exact .imm k n _ e
  | own id ver off n row fix r e => obtain ⟨st, ty, ho⟩ := r; exact .own id ver off n row fix ⟨st, ty, q id (by simp [vids]) _ ho⟩ e
/-- a slice that may grow -/
def Ck.rows {α : Type} (f : α → List AV) (sz : Nat) (v : AV) (l : List α) : Ck where
  ids := vids v
  p h := Rows f sz h v l ∧ growB v = true
  loc h h' k r := ⟨r.1.loc k, r.2⟩
  dom h r := r.1.ids.2
/-- a slice -/
def Ck.ro {α : Type} (f : α → List AV) (sz : Nat) (v : AV) (l : List α) : Ck where
  ids := vids v
  p h := Rows f sz h v l
  loc h h' k r := r.loc k
  dom h r := r.ids.2

def cids (L : List Ck) : List Nat := L.flatMap Ck.ids
theorem cids_cons (c : Ck) (L : List Ck) : cids (c :: L) = c.ids ++ cids L := by simp [cids]
theorem cids_append (L M : List Ck) : cids (L ++ M) = cids L ++ cids M := by simp [cids]
theorem mem_cids {c : Ck} {L : List Ck} (hc : c ∈ L) {i : Nat} (hi : i ∈ c.ids) : i ∈ cids L := List.mem_flatMap.2 ⟨c, hc, hi⟩

/-- what a function holds: where it began, what it may turn, what it must leave -/
structure Bs where
  h : Hp
  X : List Nat
  W : List Ck
structure St (B : Bs) (L : List Ck) (h : Hp) : Prop where
  wf : B.h.WF
  keep : KeepBut (· ∈ B.X) B.h h
  all : ∀ c ∈ L ++ B.W, c.p h
  nd : (cids (L ++ B.W)).Nodup
  own : ∀ i ∈ cids L, i ∈ B.X ∨ B.h.next ≤ i

section
variable {B : Bs} {L M : List Ck} {h h1 : Hp} {c c' : Ck}
theorem Ck.lt (w : h.WF) (hp : c.p h) : ∀ i ∈ c.ids, i < h.next := fun i hi => by
  obtain ⟨o, ho⟩ := Option.isSome_iff_exists.1 (c.dom h hp i hi)
  exact w i o ho
theorem Ck.keep (k : Keep h h1) (hp : c.p h) : c.p h1 := c.loc h h1 (fun i _ o => k.same i o) hp
theorem St.lt (s : St B L h) (w : h.WF) : ∀ i ∈ cids (L ++ B.W), i < h.next := fun i hi => by
  obtain ⟨c, hc, hi⟩ := List.mem_flatMap.1 hi
  exact Ck.lt w (s.all c hc) i hi
theorem St.perm (s : St B L h) (e : L.Perm M) : St B M h where
  wf := s.wf
  keep := s.keep
  all := fun c hc => s.all c ((e.append_right B.W).mem_iff.2 hc)
  nd := ((e.append_right B.W).flatMap_right Ck.ids).nodup_iff.1 s.nd
  own := fun i hi => s.own i ((e.flatMap_right Ck.ids).mem_iff.2 hi)
theorem cids_sub {L M : List Ck} (e : M.Sublist L) : (cids M).Sublist (cids L) := by
  induction e with
  | slnil => exact .slnil
  | cons a _ ih => rw [cids_cons]; exact ih.trans (List.sublist_append_right _ _)
  | cons_cons a _ ih => rw [cids_cons, cids_cons]; exact ih.append_left _
theorem St.sub (s : St B L h) (e : M.Sublist L) : St B M h where
  wf := s.wf
  keep := s.keep
  all := fun c hc => s.all c ((e.append_right B.W).subset hc)
  nd := s.nd.sublist (cids_sub (e.append_right B.W))
  own := fun i hi => s.own i ((cids_sub e).subset hi)
theorem St.keepH (s : St B L h) (k : Keep h h1) : St B L h1 where
  wf := s.wf
  keep := s.keep.trans (k.but _)
  all := fun c hc => Ck.keep k (s.all c hc)
  nd := s.nd
  own := s.own
/-- new chunks -/
theorem St.new (s : St B L h) (w : h.WF) (k : Keep h h1) {N : List Ck} (hN : ∀ c ∈ N, c.p h1) (hn : (cids N).Nodup) (hf : ∀ i ∈ cids N, h.next ≤ i) : St B (N ++ L) h1 where
  wf := s.wf
  keep := s.keep.trans (k.but _)
  all := fun c hc => by
    rw [List.append_assoc] at hc
    rcases List.mem_append.1 hc with q | q
    · exact hN c q
    · exact Ck.keep k (s.all c q)
  nd := by
    rw [List.append_assoc, cids_append]
    refine List.nodup_append.2 ⟨hn, s.nd, fun a ha b hb e => ?_⟩
    subst e
    have := hf a ha
    have := s.lt w a hb
    omega
  own := fun i hi => by
    rw [cids_append] at hi
    rcases List.mem_append.1 hi with q | q
    · have := hf i q; have := s.keep.next; right; omega
    · exact s.own i q
/-- one chunk is turned -/
theorem St.put (s : St B (c :: L) h) (w : h.WF) (k : KeepBut (· ∈ c.ids) h h1) (hp : c'.p h1) (hi : ∀ i ∈ c'.ids, i ∈ c.ids ∨ h.next ≤ i) (hn : c'.ids.Nodup) : St B (c' :: L) h1 where
  wf := s.wf
  keep := ⟨fun id o hx e => k.same id o (fun q => by
      rcases s.own id (by rw [cids_cons]; exact List.mem_append.2 (.inl q)) with u | u
      · exact hx u
      · have := s.wf id o e; omega) (s.keep.same id o hx e), Nat.le_trans s.keep.next k.next⟩
  all := fun d hd => by
    rcases List.mem_cons.1 hd with rfl | q
    · exact hp
    · refine d.loc h h1 (fun i hi' o e => k.same i o (fun u => ?_) e) (s.all d (List.mem_cons_of_mem _ q))
      have := s.nd
      rw [List.cons_append, cids_cons] at this
      exact (List.nodup_append.1 this).2.2 i u i (mem_cids q hi') rfl
  nd := by
    have := s.nd
    rw [List.cons_append, cids_cons] at this ⊢
    obtain ⟨_, h2, h3⟩ := List.nodup_append.1 this
    refine List.nodup_append.2 ⟨hn, h2, fun a ha b hb e => ?_⟩
    subst e
    rcases hi a ha with q | q
    · exact h3 a q a hb rfl
    · have := s.lt w a (by rw [List.cons_append, cids_cons]; exact List.mem_append.2 (.inr hb)); omega
  own := fun i q => by
    rw [cids_cons] at q
    rcases List.mem_append.1 q with q | q
    · rcases hi i q with u | u
      · exact s.own i (by rw [cids_cons]; exact List.mem_append.2 (.inl u))
      · have := s.keep.next; right; omega
    · exact s.own i (by rw [cids_cons]; exact List.mem_append.2 (.inr q))
/-- into a call, that may turn some chunks, and out of it -/
theorem St.into {C R : List Ck} (s : St B (C ++ R) h) (w : h.WF) : St ⟨h, cids C, R ++ B.W⟩ C h where
  wf := w
  keep := KeepBut.refl _
  all := fun c hc => s.all c (by rw [List.append_assoc]; exact hc)
  nd := by have := s.nd; rw [List.append_assoc] at this; exact this
  own := fun i hi => .inl hi
theorem St.out {C R N : List Ck} (s : St B (C ++ R) h) (t : St ⟨h, cids C, R ++ B.W⟩ N h1) : St B (N ++ R) h1 where
  wf := s.wf
  keep := ⟨fun id o hx e => t.keep.same id o (fun q => by
      rcases s.own id (by rw [cids_append]; exact List.mem_append.2 (.inl q)) with u | u
      · exact hx u
      · have := s.wf id o e; omega) (s.keep.same id o hx e), Nat.le_trans s.keep.next t.keep.next⟩
  all := fun d hd => t.all d (by rw [List.append_assoc] at hd; exact hd)
  nd := by have := t.nd; rw [List.append_assoc]; exact this
  own := fun i q => by
    rw [cids_append] at q
    rcases List.mem_append.1 q with q | q
    · rcases t.own i q with u | u
      · exact s.own i (by rw [cids_append]; exact List.mem_append.2 (.inl u))
      · have : B.h.next ≤ h.next := s.keep.next
        have : h.next ≤ i := u
        right; omega
    · exact s.own i (by rw [cids_append]; exact List.mem_append.2 (.inr q))
end

/-! ### a call's contract -/
/-- what a run that holds C, and must leave W, gives: a value, and what it holds then -/
def QF (B : Bs) (Post : AV → List Ck → Prop) : AV → Hp → Prop := fun v h => ∃ N, Post v N ∧ St B N h
def Cal (C W : List Ck) (m : AM AV) (Post : AV → List Ck → Prop) : Prop := ∀ h, St ⟨h, cids C, W⟩ C h → Runs m h (QF ⟨h, cids C, W⟩ Post)
theorem Cal.mono {C W : List Ck} {m : AM AV} {P Q : AV → List Ck → Prop} (r : Cal C W m P) (k : ∀ v N, P v N → Q v N) : Cal C W m Q := fun h s => (r h s).mono fun v h' ⟨N, p, t⟩ => ⟨N, k v N p, t⟩
/-- a run that turns nothing -/
theorem Cal.of {W : List Ck} {m : AM AV} {Post : AV → List Ck → Prop} (r : ∀ h, h.WF → (∀ c ∈ W, c.p h) → Runs m h fun v h' => Keep h h' ∧ ∃ N, Post v N ∧ (∀ c ∈ N, c.p h') ∧ (cids N).Nodup ∧ ∀ i ∈ cids N, h.next ≤ i) : Cal [] W m Post := fun h s => by
  refine Runs.wf fun w => (r h w fun c hc => s.all c hc).mono fun v h' ⟨k, N, p, a, b, d⟩ => ⟨N, p, ?_⟩
  have := s.new w k a b d
  rwa [List.append_nil] at this
/-- a run that turns nothing, and makes nothing that is told -/
theorem Cal.of0 {W : List Ck} {m : AM AV} {P : AV → Prop} (r : ∀ h, h.WF → (∀ c ∈ W, c.p h) → Runs m h fun v h' => Keep h h' ∧ P v) : Cal [] W m fun v N => P v ∧ N = [] :=
  Cal.of fun h w k => (r h w k).mono fun v h' ⟨k1, p⟩ => ⟨k1, [], ⟨p, rfl⟩, (fun c hc => by cases hc), List.nodup_nil, fun i hi => by cases hi⟩
theorem Cal.keep {W : List Ck} {m : AM AV} {h : Hp} {Post : AV → List Ck → Prop} (r : Cal [] W m Post) (w : h.WF) (hW : ∀ c ∈ W, c.p h) (hn : (cids W).Nodup) : Runs m h fun v h' => Keep h h' ∧ ∃ N, Post v N ∧ (∀ c ∈ N, c.p h') ∧ ∀ i ∈ cids N, h.next ≤ i :=
  (r h ⟨w, KeepBut.refl _, hW, hn, fun i hi => by cases hi⟩).mono fun v h' ⟨N, p, t⟩ => ⟨⟨fun id o e => t.keep.same id o (fun q => by cases q) e, t.keep.next⟩, N, p, fun c hc => t.all c (List.mem_append.2 (.inl hc)), fun i hi => (t.own i hi).resolve_left (fun q => by cases q)⟩
end Go.Am
namespace Go.Am
open Go AM
set_option linter.unusedVariables false
set_option synthInstance.maxHeartbeats 200000

/-- a step: what is to be shown, and of what it follows -/
class Wk (P : Prop) (G : outParam Prop) : Prop where go : G → P

/-- a truth value that is known -/
class Is (b : Bool) (v : outParam Bool) : Prop where eq : b = v
instance : Is true true := ⟨rfl⟩
instance : Is false false := ⟨rfl⟩
instance {b : Bool} [a : Is b true] : Is (!b) false := ⟨by rw [a.eq]; rfl⟩
instance {b : Bool} [a : Is b false] : Is (!b) true := ⟨by rw [a.eq]; rfl⟩
/-! ### slots, operands -/
class Lk (T : Temps) (t : Nat) (v : outParam AV) : Prop where eq : tget T t = v
instance lk_none {nt t : Nat} {T : Temps} {v w : AV} [a : Lk T t v] : Lk (tput? nt T none w) t v := ⟨a.eq⟩
instance lk_ne {nt t u : Nat} {T : Temps} {v w : AV} [e : Same (Nat.beq t u) false] [a : Lk T t v] : Lk (tput? nt T (some u) w) t v := ⟨tgo_ne e.eq a.eq⟩
instance lk_same {nt t : Nat} {T : Temps} {v : AV} [e : Same (Nat.ble (t + 1) nt) true] : Lk (tput? nt T (some t) v) t v := ⟨tgo_same e.eq⟩
class Nth (l : List AV) (t : Nat) (v : outParam AV) : Prop where eq : l[t]? = some v
instance nth_0 {l : List AV} {v : AV} : Nth (v :: l) 0 v := ⟨rfl⟩
instance nth_s {l : List AV} {v w : AV} {t : Nat} [a : Nth l t v] : Nth (w :: l) (t + 1) v := ⟨by simpa using a.eq⟩
/-- a function's arguments stand in its first slots -/
class Args (T : Temps) (l : outParam (List AV)) : Prop where at_ : ∀ i v, l[i]? = some v → tget T i = v
instance (priority := 500) lk_args {T : Temps} {l : List AV} {t : Nat} {v : AV} [a : Args T l] [b : Nth l t v] : Lk T t v := ⟨a.at_ t v b.eq⟩
/-- some slots stand as they did -/
class Agr (K : outParam (List Nat)) (T0 : outParam Temps) (T : Temps) : Prop where eq : ∀ t ∈ K, tget T t = tget T0 t
class MemN (t : Nat) (K : List Nat) : Prop where mem : t ∈ K
instance memn_0 {t : Nat} {K : List Nat} : MemN t (t :: K) := ⟨List.mem_cons_self⟩
instance (priority := 900) memn_s {t u : Nat} {K : List Nat} [a : MemN t K] : MemN t (u :: K) := ⟨List.mem_cons_of_mem _ a.mem⟩
instance (priority := 400) lk_agr {T0 T : Temps} {K : List Nat} {t : Nat} {v : AV} [a : Agr K T0 T] [b : MemN t K] [c : Lk T0 t v] : Lk T t v := ⟨(a.eq t b.mem).trans c.eq⟩

class Ev (T : Temps) (x : Operand) (v : outParam AV) : Prop where eq : aeval T x = v
instance {T : Temps} {t : Nat} {v : AV} [a : Lk T t v] : Ev T (.tmp t) v := ⟨a.eq⟩
instance {T : Temps} {k : IntKind} {n : Int} : Ev T (.const (.int k n)) (.int k n) := ⟨rfl⟩
instance {T : Temps} {b : Bool} : Ev T (.const (.bool b)) (.bool b) := ⟨rfl⟩
instance {T : Temps} {s : ByteArray} : Ev T (.const (.string s)) (.str s.data.toList) := ⟨rfl⟩
instance {T : Temps} {l : List UInt8} : Ev T (.const (.string ⟨l.toArray⟩)) (.str l) := ⟨rfl⟩
instance {T : Temps} : Ev T (.const (.pointer none)) .nilptr := ⟨rfl⟩
instance {T : Temps} : Ev T (.const (.slice none 0 0)) (.sl .nil 0 []) := ⟨rfl⟩
instance {T : Temps} : Ev T (.const (.map none)) .nilmap := ⟨rfl⟩
instance {T : Temps} : Ev T (.const .nilFunc) .nilfunc := ⟨rfl⟩
instance {T : Temps} {f : FuncId} : Ev T (.func f) (.func (.func f) [] []) := ⟨rfl⟩
class OfCells (cs : List Value) (l : outParam (List AV)) : Prop where eq : cs.map ofCell = l
instance : OfCells [] [] := ⟨rfl⟩
instance {k : IntKind} {n : Int} {cs : List Value} {l : List AV} [a : OfCells cs l] : OfCells (.int k n :: cs) (.int k n :: l) := ⟨by rw [List.map_cons, a.eq]; rfl⟩
instance {b : Bool} {cs : List Value} {l : List AV} [a : OfCells cs l] : OfCells (.bool b :: cs) (.bool b :: l) := ⟨by rw [List.map_cons, a.eq]; rfl⟩
instance {s : List UInt8} {cs : List Value} {l : List AV} [a : OfCells cs l] : OfCells (.string ⟨s.toArray⟩ :: cs) (.str s :: l) := ⟨by rw [List.map_cons, a.eq]; rfl⟩
instance {cs : List Value} {l : List AV} [a : OfCells cs l] : OfCells (.slice none 0 0 :: cs) (.sl .nil 0 [] :: l) := ⟨by rw [List.map_cons, a.eq]; rfl⟩
instance {cs : List Value} {l : List AV} [a : OfCells cs l] : OfCells (.pointer none :: cs) (.nilptr :: l) := ⟨by rw [List.map_cons, a.eq]; rfl⟩
instance {cs : List Value} {l : List AV} [a : OfCells cs l] : OfCells (.map none :: cs) (.nilmap :: l) := ⟨by rw [List.map_cons, a.eq]; rfl⟩
instance {T : Temps} {cs : List Value} {l : List AV} [a : OfCells cs l] : Ev T (.const (.agg cs.toArray)) (.agg l) := ⟨by show AV.agg _ = _; rw [← a.eq]⟩

class Evs (T : Temps) (xs : List Operand) (vs : outParam (List AV)) : Prop where eq : xs.map (aeval T) = vs
instance {T : Temps} : Evs T [] [] := ⟨rfl⟩
instance {T : Temps} {x : Operand} {xs : List Operand} {v : AV} {vs : List AV} [a : Ev T x v] [b : Evs T xs vs] : Evs T (x :: xs) (v :: vs) := ⟨map_cons' a.eq b.eq⟩
class Evp (T : Temps) (xs : List (Nat × Operand)) (vs : outParam (List (Nat × AV))) : Prop where eq : xs.map (fun (i, x) => (i, aeval T x)) = vs
instance {T : Temps} : Evp T [] [] := ⟨rfl⟩
instance {T : Temps} {j : Nat} {x : Operand} {xs : List (Nat × Operand)} {v : AV} {vs : List (Nat × AV)} [a : Ev T x v] [b : Evp T xs vs] : Evp T ((j, x) :: xs) ((j, v) :: vs) := ⟨pairs_cons a.eq b.eq⟩

/-! ### lists of cells -/
class Dr (l : List AV) (n : Nat) (r : outParam (List AV)) : Prop where
  eq : l.drop n = r
  le : n ≤ l.length
instance dr_0 {l : List AV} : Dr l 0 l := ⟨rfl, Nat.zero_le _⟩
instance dr_s {l r : List AV} {v : AV} {n : Nat} [a : Dr l n r] : Dr (v :: l) (n + 1) r := ⟨a.eq, Nat.succ_le_succ a.le⟩
instance dr_add {l l' r : List AV} {a b : Nat} [x : Dr l a l'] [y : Dr l' b r] : Dr l (a + b) r := ⟨by rw [← List.drop_drop, x.eq, y.eq], by have := x.le; have h := y.le; rw [← x.eq, List.length_drop] at h; omega⟩
class Tk (l : List AV) (n : Nat) (r : outParam (List AV)) : Prop where
  eq : l.take n = r
  le : n ≤ l.length
instance tk_0 {l : List AV} : Tk l 0 [] := ⟨rfl, Nat.zero_le _⟩
instance tk_s {l r : List AV} {v : AV} {n : Nat} [a : Tk l n r] : Tk (v :: l) (n + 1) (v :: r) := ⟨by rw [List.take_succ_cons, a.eq], Nat.succ_le_succ a.le⟩
class Len (l : List AV) (n : outParam Nat) : Prop where eq : l.length = n
instance : Len [] 0 := ⟨rfl⟩
instance {l : List AV} {v : AV} {n : Nat} [a : Len l n] : Len (v :: l) (n + 1) := ⟨by rw [List.length_cons, a.eq]⟩
class Spl (l : List AV) (n : Nat) (vs : List AV) (r : outParam (List AV)) : Prop where
  eq : splice l n vs = r
  le : n + vs.length ≤ l.length
instance spl_nil {l : List AV} : Spl l 0 [] l := ⟨by simp [splice], by simp⟩
instance spl_0 {l r vs : List AV} {v w : AV} [a : Spl l 0 vs r] : Spl (v :: l) 0 (w :: vs) (w :: r) := ⟨by rw [← a.eq]; simp [splice], by have := a.le; simp at this ⊢; exact this⟩
instance spl_s {l r vs : List AV} {v : AV} {n : Nat} [a : Spl l n vs r] : Spl (v :: l) (n + 1) vs (v :: r) := ⟨by
  rw [← a.eq]; simp only [splice, List.take_succ_cons, List.cons_append]
  rw [show n + 1 + vs.length = (n + vs.length) + 1 by omega, List.drop_succ_cons], by have := a.le; simp; omega⟩
instance spl_z {l r vs : List AV} {n : Nat} [a : Spl l n vs r] : Spl l (0 + n) vs r := ⟨by rw [Nat.zero_add]; exact a.eq, by rw [Nat.zero_add]; exact a.le⟩
class VNth (l : List AV) (j : Nat) (v : outParam AV) : Prop where eq : l[j]? = some v
instance {l : List AV} {j : Nat} {v : AV} [a : Nth l j v] : VNth l j v := ⟨a.eq⟩

/-! ### chunks in lists -/
class HasRow (L W : List Ck) (id : Nat) (ver esz : outParam Nat) (cells : outParam (List AV)) (fix : outParam Bool) : Prop where mem : Ck.row id ver esz cells fix ∈ L ++ W
instance (priority := 900) hasrow_s {c : Ck} {L W : List Ck} {id ver esz : Nat} {cells : List AV} {fix : Bool} [a : HasRow L W id ver esz cells fix] : HasRow (c :: L) W id ver esz cells fix := ⟨List.mem_cons_of_mem _ a.mem⟩
instance hasrow_0 {L W : List Ck} {id ver esz : Nat} {cells : List AV} {fix : Bool} : HasRow (.row id ver esz cells fix :: L) W id ver esz cells fix := ⟨List.mem_cons_self⟩
instance (priority := 900) hasrow_w {c : Ck} {W : List Ck} {id ver esz : Nat} {cells : List AV} {fix : Bool} [a : HasRow (c :: W) [] id ver esz cells fix] : HasRow [] (c :: W) id ver esz cells fix := ⟨by have := a.mem; simpa using this⟩
instance (priority := 900) hasrow_a {R W : List Ck} {id ver esz : Nat} {cells : List AV} {fix : Bool} [a : HasRow R W id ver esz cells fix] : HasRow [] (R ++ W) id ver esz cells fix := ⟨by have := a.mem; simpa using this⟩
class HasMap (L W : List Ck) (id : Nat) (es : outParam (List (AV × AV))) : Prop where mem : Ck.map id es ∈ L ++ W
instance (priority := 900) hasmap_s {c : Ck} {L W : List Ck} {id : Nat} {es : List (AV × AV)} [a : HasMap L W id es] : HasMap (c :: L) W id es := ⟨List.mem_cons_of_mem _ a.mem⟩
instance hasmap_0 {L W : List Ck} {id : Nat} {es : List (AV × AV)} : HasMap (.map id es :: L) W id es := ⟨List.mem_cons_self⟩
instance (priority := 900) hasmap_a {R W : List Ck} {id : Nat} {es : List (AV × AV)} [a : HasMap R W id es] : HasMap [] (R ++ W) id es := ⟨by have := a.mem; simpa using this⟩
/-- a slice is there, and what it holds -/
class HasRows (L W : List Ck) (v : AV) {α : outParam Type} (f : outParam (α → List AV)) (sz : outParam Nat) (l : outParam (List α)) : Prop where has : ∀ h, (∀ c ∈ L ++ W, c.p h) → Rows f sz h v l
section
variable {L W R : List Ck} {v : AV} {α : Type} {f : α → List AV} {sz : Nat} {l : List α} {c : Ck}
instance (priority := 900) hasrows_s [a : HasRows L W v f sz l] : HasRows (c :: L) W v f sz l := ⟨fun h k => a.has h fun d hd => k d (List.mem_cons_of_mem _ hd)⟩
instance hasrows_0 : HasRows (.rows f sz v l :: L) W v f sz l := ⟨fun h k => (k _ List.mem_cons_self).1⟩
instance hasrows_1 : HasRows (.ro f sz v l :: L) W v f sz l := ⟨fun h k => k _ List.mem_cons_self⟩
instance (priority := 900) hasrows_w [a : HasRows (c :: W) [] v f sz l] : HasRows [] (c :: W) v f sz l := ⟨fun h k => a.has h fun d hd => k d (by simpa using hd)⟩
instance (priority := 900) hasrows_a [a : HasRows R W v f sz l] : HasRows [] (R ++ W) v f sz l := ⟨fun h k => a.has h fun d hd => k d (by simpa using hd)⟩
instance (priority := 800) hasrows_f [a : HasRows [] W v f sz l] : HasRows [] (R ++ W) v f sz l := ⟨fun h k => a.has h fun d hd => k d (by simp at hd ⊢; exact .inr hd)⟩
end
/-- single cells, whose encoding is known -/
class Enc (cells : List AV) {α : outParam Type} (f : outParam (α → List AV)) (x : outParam α) : Prop where eq : cells = f x
instance hasrows_lit {L W : List Ck} {k : SK} {cells : List AV} {α : Type} {f : α → List AV} {sz : Nat} {x : α} [a : Enc cells f x] [b : FL f sz] : HasRows L W (.sl k 1 cells) f sz [x] := ⟨fun h _ => by
  obtain rfl := a.eq
  have := SlV.imm (h := h) (sz := sz) k 1 (f x) (by rw [b.len, Nat.one_mul])
  show SlV h sz _ 1 (flat f [x])
  rw [flat_cons, flat_nil, List.append_nil]; exact this⟩

class Up (L : List Ck) (c c' : Ck) (L' : outParam (List Ck)) : Prop where perm : ∃ R, L.Perm (c :: R) ∧ (c' :: R).Perm L'
instance (priority := 900) up_s {d c c' : Ck} {L L' : List Ck} [a : Up L c c' L'] : Up (d :: L) c c' (d :: L') := ⟨by
  obtain ⟨R, h1, h2⟩ := a.perm
  exact ⟨d :: R, (h1.cons d).trans (.swap _ _ _), (List.Perm.swap _ _ _).trans (h2.cons d)⟩⟩
instance up_0 {c c' : Ck} {L : List Ck} : Up (c :: L) c c' (c' :: L) := ⟨L, .refl _, .refl _⟩
/-- a chunk is taken out -/
class Tak (L : List Ck) (c : Ck) (R : outParam (List Ck)) : Prop where perm : L.Perm (c :: R)
instance (priority := 900) tak_s {d c : Ck} {L R : List Ck} [a : Tak L c R] : Tak (d :: L) c (d :: R) := ⟨(a.perm.cons d).trans (.swap _ _ _)⟩
instance tak_0 {c : Ck} {L : List Ck} : Tak (c :: L) c L := ⟨.refl _⟩
class Taks (L C : List Ck) (R : outParam (List Ck)) : Prop where perm : L.Perm (C ++ R)
instance taks_nil {L : List Ck} : Taks L [] L := ⟨.refl _⟩
instance taks_cons {L R S C : List Ck} {c : Ck} [a : Tak L c S] [b : Taks S C R] : Taks L (c :: C) R := ⟨a.perm.trans (b.perm.cons c)⟩
instance (priority := 100) taks_end {C : List Ck} : Taks C C [] := ⟨by rw [List.append_nil]⟩
instance (priority := 90) taks_tail {L R C : List Ck} {c : Ck} [a : Taks L C R] : Taks (c :: L) C (c :: R) := ⟨(a.perm.cons c).trans List.perm_middle.symm⟩
/-- a chunk is taken out, or a weaker one -/
class Tkw (L : List Ck) (c : Ck) (R : outParam (List Ck)) : Prop where st : ∀ (B : Bs) (h : Hp) (Z : List Ck), St B (Z ++ L) h → St B (Z ++ c :: R) h
instance (priority := 900) tkw_s {d c : Ck} {L R : List Ck} [a : Tkw L c R] : Tkw (d :: L) c (d :: R) := ⟨fun B h Z s => by
  have h1 := a.st B h (Z ++ [d]) (by simpa using s)
  exact h1.perm (by rw [List.append_assoc]; exact (List.Perm.swap _ _ _).append_left Z)⟩
instance tkw_0 {c : Ck} {L : List Ck} : Tkw (c :: L) c L := ⟨fun B h Z s => s⟩
/-- fewer chunks -/
class Sb (L M : List Ck) : Prop where st : ∀ (B : Bs) (h : Hp) (Z : List Ck), St B (Z ++ L) h → St B (Z ++ M) h
instance sb_nil {L : List Ck} : Sb L [] := ⟨fun B h Z s => s.sub (by rw [List.append_nil]; exact List.sublist_append_left _ _)⟩
instance sb_cons {L R M : List Ck} {c : Ck} [a : Tkw L c R] [b : Sb R M] : Sb L (c :: M) := ⟨fun B h Z s => by
  have := b.st B h (Z ++ [c]) (by simpa using a.st B h Z s)
  simpa using this⟩
instance (priority := 100) sb_refl {L : List Ck} : Sb L L := ⟨fun B h Z s => s⟩
instance (priority := 50) sb_skip {L M : List Ck} {c : Ck} [a : Sb L M] : Sb (c :: L) M := ⟨fun B h Z s => a.st B h Z (s.sub ((List.sublist_cons_self _ _).append_left Z))⟩
theorem St.sb {B : Bs} {L M : List Ck} {h : Hp} (s : St B L h) (k : Sb L M) : St B M h := k.st B h [] s
theorem tkw_imp {c c' : Ck} {L : List Ck} (hi : c'.ids = c.ids) (hp : ∀ h, c.p h → c'.p h) : Tkw (c :: L) c' L := ⟨fun B h Z s => {
  wf := s.wf
  keep := s.keep
  all := fun d hd => by
    rw [List.append_assoc, List.mem_append, List.cons_append, List.mem_cons] at hd
    rcases hd with q | rfl | q
    · exact s.all d (by rw [List.append_assoc]; exact List.mem_append.2 (.inl q))
    · exact hp h (s.all c (by simp))
    · exact s.all d (by rw [List.append_assoc, List.cons_append]; exact List.mem_append.2 (.inr (List.mem_cons_of_mem _ q)))
  nd := by have := s.nd; simp only [cids_append, cids_cons, hi] at this ⊢; exact this
  own := fun i q => s.own i (by simp only [cids_append, cids_cons, hi] at q ⊢; exact q) }⟩
class App (N R : List Ck) (M : outParam (List Ck)) : Prop where eq : N ++ R = M
instance {R : List Ck} : App [] R R := ⟨rfl⟩
instance {c : Ck} {N R M : List Ck} [a : App N R M] : App (c :: N) R (c :: M) := ⟨by rw [List.cons_append, a.eq]⟩

/-- a value's cells -/
class Cell (L W : List Ck) (v : AV) : Prop where cell : ∀ h, (∀ c ∈ L ++ W, c.p h) → acells v = [v] ∧ known v = true ∧ one v = true
section
variable {L W : List Ck}
instance {b : Bool} : Cell L W (.bool b) := ⟨fun _ _ => ⟨rfl, rfl, rfl⟩⟩
instance {k : IntKind} {n : Int} : Cell L W (.int k n) := ⟨fun _ _ => ⟨rfl, rfl, rfl⟩⟩
instance {s : List UInt8} : Cell L W (.str s) := ⟨fun _ _ => ⟨rfl, rfl, rfl⟩⟩
instance : Cell L W .nilptr := ⟨fun _ _ => ⟨rfl, rfl, rfl⟩⟩
instance {a b c : Nat} : Cell L W (.ptr a b c) := ⟨fun _ _ => ⟨rfl, rfl, rfl⟩⟩
instance {l : List AV} : Cell L W (.iptr l) := ⟨fun _ _ => ⟨rfl, rfl, rfl⟩⟩
instance {k : SK} {n : Nat} {l : List AV} : Cell L W (.sl k n l) := ⟨fun _ _ => ⟨rfl, rfl, rfl⟩⟩
instance {a b c n : Nat} : Cell L W (.own a b c n) := ⟨fun _ _ => ⟨rfl, rfl, rfl⟩⟩
instance : Cell L W .nilmap := ⟨fun _ _ => ⟨rfl, rfl, rfl⟩⟩
instance {i : Nat} : Cell L W (.mapv i) := ⟨fun _ _ => ⟨rfl, rfl, rfl⟩⟩
instance : Cell L W .nilfunc := ⟨fun _ _ => ⟨rfl, rfl, rfl⟩⟩
instance {f : Fn} {a b : List AV} : Cell L W (.func f a b) := ⟨fun _ _ => ⟨rfl, rfl, rfl⟩⟩
instance {t : TypeId} {v : AV} : Cell L W (.iface t v) := ⟨fun _ _ => ⟨rfl, rfl, rfl⟩⟩
instance : Cell L W .niliface := ⟨fun _ _ => ⟨rfl, rfl, rfl⟩⟩
instance (priority := 500) cell_rows {v : AV} {α : Type} {f : α → List AV} {sz : Nat} {l : List α} [a : HasRows L W v f sz l] : Cell L W v := ⟨fun h k => ⟨(a.has h k).acells, (a.has h k).known, (a.has h k).one⟩⟩
end
class Ac (L W : List Ck) (v : AV) (cs : outParam (List AV)) : Prop where ac : ∀ h, (∀ c ∈ L ++ W, c.p h) → acells v = cs ∧ known v = true
instance ac_agg {L W : List Ck} {cs : List AV} : Ac L W (.agg cs) cs := ⟨fun _ _ => ⟨rfl, rfl⟩⟩
instance (priority := 500) ac_one {L W : List Ck} {v : AV} [a : Cell L W v] : Ac L W v [v] := ⟨fun h k => ⟨(a.cell h k).1, (a.cell h k).2.1⟩⟩
class Ones (L W : List Ck) (cs : List AV) : Prop where ones : ∀ h, (∀ c ∈ L ++ W, c.p h) → Go.Am.ones cs = true
instance {L W : List Ck} : Ones L W [] := ⟨fun _ _ => rfl⟩
instance {L W : List Ck} {v : AV} {cs : List AV} [a : Cell L W v] [b : Ones L W cs] : Ones L W (v :: cs) := ⟨fun h k => by show (one v && Go.Am.ones cs) = true; rw [(a.cell h k).2.2, b.ones h k]; rfl⟩
/-- encodings into values of one cell each -/
class FOne {α : Type} (f : α → List AV) : Prop where one : ∀ x, Go.Am.ones (f x) = true
theorem flat_ones {α : Type} {f : α → List AV} [a : FOne f] (l : List α) : ones (flat f l) = true := by
  induction l with
  | nil => rfl
  | cons x l ih => rw [flat_cons]; simp only [ones, List.all_append] at ih ⊢; rw [ih, show (f x).all one = true from a.one x]; rfl
end Go.Am
namespace Go.Am
open Go AM
set_option linter.unusedVariables false
set_option synthInstance.maxHeartbeats 200000

section
variable (B : Bs) (L : List Ck) (P : Program) (pol : Pol) (call : Calling) (fn nt fuel : Nat)
/-- whatever heap holds this: the code ends well -/
def ACo (c : Code) (T : Temps) (Q : Exit × Temps → Hp → Prop) : Prop := ∀ h, St B L h → Runs (acode P pol call fn nt fuel c T) h Q
def AK (K : Exit × Temps → Hp → Prop) (x : Exit × Temps) : Prop := ∀ h, St B L h → K x h
def AT (K : Temps → Hp → Prop) (T : Temps) : Prop := ∀ h, St B L h → K T h
/-- the places of a region's values are al told -/
def DS (R : Rg) (ops : List (Nat × Oper)) (ds : List (Nat × Option Tmp)) : Prop := (∀ x ∈ ds, R.dsts[x.1]? = some x.2) ∧ ∀ x ∈ ops, R.dsts[x.1]? = some x.2.dst
def AOps (R : Rg) (ops : List (Nat × Oper)) (ds : List (Nat × Option Tmp)) (seen : Seen) (T : Temps) (Q : Temps → Hp → Prop) : Prop := ∀ h, St B L h → DS R ops ds → ROps P pol call fn nt R ops seen T h Q
/-- at a function's end -/
def KFun (P : Program) (rs : List ResultVar) (Q : AV → Hp → Prop) : Exit × Temps → Hp → Prop := fun x h => (x.1 = .normal ∨ x.1 = .ret) ∧ Runs (do
  let vs ← aresultList P x.2 rs
  match vs with
  | [v] => pure v
  | vs => pure (.tuple vs)) h Q
def ARs (P : Program) (rs : List ResultVar) (vs : List AV) (T : Temps) (Q : AV → Hp → Prop) : Prop := ∀ h, St B L h → Runs (do
  let us ← aresultList P T rs
  match vs ++ us with
  | [v] => pure v
  | vs => pure (.tuple vs)) h Q
/-- at the end -/
def Fin (v : AV) (Q : AV → Hp → Prop) : Prop := ∀ h, St B L h → Q v h
end

section
variable {R : Rg} {o : Oper} {i : Nat} {rest : List (Nat × Oper)} {ds : List (Nat × Option Tmp)}
theorem DS.step (d : DS R ((i, o) :: rest) ds) : DS R rest ((i, o.dst) :: ds) := ⟨fun x hx => by
  rcases List.mem_cons.1 hx with rfl | q
  · exact d.2 (i, o) List.mem_cons_self
  · exact d.1 x q, fun x hx => d.2 x (List.mem_cons_of_mem _ hx)⟩
theorem DS.yes (d : DS R ((i, o) :: rest) ds) : DS R ((i, { o with guard := none }) :: rest) ds := ⟨d.1, fun x hx => by
  rcases List.mem_cons.1 hx with rfl | q
  · exact d.2 (i, o) List.mem_cons_self
  · exact d.2 x (List.mem_cons_of_mem _ q)⟩
end
theorem number_get : ∀ (l : List Oper) (k : Nat), ∀ x ∈ number k l, k ≤ x.1 ∧ l[x.1 - k]? = some x.2
  | [], k, x, hx => by cases hx
  | o :: l, k, x, hx => by
    rcases List.mem_cons.1 hx with rfl | q
    · exact ⟨Nat.le_refl _, by simp⟩
    · obtain ⟨h1, h2⟩ := number_get l (k + 1) x q
      refine ⟨by omega, ?_⟩
      rw [show x.1 - k = (x.1 - (k + 1)) + 1 by omega, List.getElem?_cons_succ]; exact h2
theorem pickAll_get (ops : List Oper) : ∀ (l : List Nat), ∀ x ∈ pickAll ops l, ops[x.1]? = some x.2
  | [], x, hx => by cases hx
  | i :: l, x, hx => by
    unfold pickAll at hx
    split at hx
    · rename_i o ho
      rcases List.mem_cons.1 hx with rfl | q
      · exact ho
      · exact pickAll_get ops l x q
    · exact pickAll_get ops l x hx
section
variable {B : Bs} {L : List Ck} {P : Program} {pol : Pol} {call : Calling} {fn nt fuel : Nat} {T : Temps} {Q : Exit × Temps → Hp → Prop} {a b : Code} {id id' : Nat}
instance : Wk (ACo B L P pol call fn nt fuel (.seq a b) T Q) (ACo B L P pol call fn nt fuel a T (KSeq P pol call fn nt fuel b Q)) := ⟨fun g h s => R_seq (g h s)⟩
instance : Wk (ACo B L P pol call fn nt fuel (.block id b) T Q) (ACo B L P pol call fn nt fuel b T (KBlock id Q)) := ⟨fun g h s => R_block (g h s)⟩
instance : Wk (ACo B L P pol call fn nt fuel .ret T Q) (AK B L Q (.ret, T)) := ⟨fun g h s => R_ret (g h s)⟩
instance : Wk (ACo B L P pol call fn nt fuel .skip T Q) (AK B L Q (.normal, T)) := ⟨fun g h s => R_skip (g h s)⟩
instance : Wk (ACo B L P pol call fn nt fuel (.exit id) T Q) (AK B L Q (.exit id, T)) := ⟨fun g h s => R_exit (g h s)⟩
instance {ops : List Oper} {r : List (Nat × Oper)} [n : Num 0 ops r] : Wk (ACo B L P pol call fn nt fuel (.region id ops.toArray false) T Q) (AOps B L P pol call fn nt ⟨false, [], ops.map (·.dst)⟩ r [] [] T (KOps Q)) :=
  ⟨fun g h s => R_region (by
    have := g h s ⟨(fun x hx => by cases hx), fun x hx => by
      obtain rfl := n.eq
      have := (number_get ops 0 x hx).2
      rw [Nat.sub_zero] at this
      rw [List.getElem?_map, this]; rfl⟩
    rw [← n.eq] at this; exact this)⟩
class OpN (ops : List Oper) (i : Nat) (o : outParam Oper) : Prop where eq : ops[i]? = some o
instance {ops : List Oper} {o : Oper} : OpN (o :: ops) 0 o := ⟨rfl⟩
instance {ops : List Oper} {o o' : Oper} {i : Nat} [a : OpN ops i o] : OpN (o' :: ops) (i + 1) o := ⟨by simpa using a.eq⟩
class Pk (ops : List Oper) (l : List Nat) (r : outParam (List (Nat × Oper))) : Prop where eq : pickAll ops l = r
instance {ops : List Oper} : Pk ops [] [] := ⟨rfl⟩
instance {ops : List Oper} {o : Oper} {i : Nat} {l : List Nat} {r : List (Nat × Oper)} [a : OpN ops i o] [b : Pk ops l r] : Pk ops (i :: l) ((i, o) :: r) := ⟨by rw [pickAll, a.eq]; simp only [b.eq]⟩
theorem A_drawn {ops : List Oper} {r : List (Nat × Oper)} (l ms : List Nat) (hl : orderOf ops = some l) (hm : masks ops = ms) (hlt : (l.all fun i => Nat.blt i ops.length) = true) [hr : Pk ops l r]
    (g : AOps B L P pol call fn nt ⟨true, ms, ops.map (·.dst)⟩ r [] [] T (KOps Q)) : ACo B L P pol call fn nt fuel (.region id ops.toArray true) T Q :=
  fun h s => R_drawn l ms hl hm hlt (by
    obtain rfl := hr.eq
    exact g h s ⟨(fun x hx => by cases hx), fun x hx => by rw [List.getElem?_map, pickAll_get ops l x hx]; rfl⟩)
instance (priority := 900) wk_cond {c : Operand} {v : Bool} [e : Ev T c (.bool v)] : Wk (ACo B L P pol call fn nt fuel (.cond c a b) T Q) ((v = true → ACo B L P pol call fn nt fuel a T Q) ∧ (v = false → ACo B L P pol call fn nt fuel b T Q)) :=
  ⟨fun g h s => R_cond v e.eq (fun q => g.1 q h s) (fun q => g.2 q h s)⟩
instance wk_condT {c : Operand} {v : Bool} [e : Ev T c (.bool v)] [k : Is v true] : Wk (ACo B L P pol call fn nt fuel (.cond c a b) T Q) (ACo B L P pol call fn nt fuel a T Q) :=
  ⟨fun g h s => R_cond v e.eq (fun q => g h s) (fun q => by rw [k.eq] at q; cases q)⟩
instance wk_condF {c : Operand} {v : Bool} [e : Ev T c (.bool v)] [k : Is v false] : Wk (ACo B L P pol call fn nt fuel (.cond c a b) T Q) (ACo B L P pol call fn nt fuel b T Q) :=
  ⟨fun g h s => R_cond v e.eq (fun q => by rw [k.eq] at q; cases q) (fun q => g h s)⟩

instance : Wk (AK B L (KSeq P pol call fn nt fuel b Q) (.normal, T)) (ACo B L P pol call fn nt fuel b T Q) := ⟨fun g h s => g h s⟩
instance : Wk (AK B L (KSeq P pol call fn nt fuel b Q) (.ret, T)) (AK B L Q (.ret, T)) := ⟨fun g h s => g h s⟩
instance : Wk (AK B L (KSeq P pol call fn nt fuel b Q) (.exit id, T)) (AK B L Q (.exit id, T)) := ⟨fun g h s => g h s⟩
instance : Wk (AK B L (KBlock id Q) (.normal, T)) (AK B L Q (.normal, T)) := ⟨fun g h s => g h s⟩
instance : Wk (AK B L (KBlock id Q) (.ret, T)) (AK B L Q (.ret, T)) := ⟨fun g h s => g h s⟩
instance : Wk (AK B L (KBlock id Q) (.exit id, T)) (AK B L Q (.normal, T)) := ⟨fun g h s => K_block_exit (g h s)⟩
instance (priority := 900) [e : Same (Nat.beq id' id) false] : Wk (AK B L (KBlock id Q) (.exit id', T)) (AK B L Q (.exit id', T)) := ⟨fun g h s => K_block_other e.eq (g h s)⟩
instance {K : Exit × Temps → Hp → Prop} : Wk (AT B L (KOps K) T) (AK B L K (.normal, T)) := ⟨fun g h s => g h s⟩

/-! ### the end of a function -/
variable {rs : List ResultVar} {V : AV → Hp → Prop} {vs : List AV} {v : AV}
instance : Wk (AK B L (KFun P rs V) (.normal, T)) (ARs B L P rs [] T V) := ⟨fun g h s => ⟨.inl rfl, g h s⟩⟩
instance : Wk (AK B L (KFun P rs V) (.ret, T)) (ARs B L P rs [] T V) := ⟨fun g h s => ⟨.inr rfl, g h s⟩⟩
theorem ars_step {r : ResultVar} {v : AV} (hr : ∀ h, St B L h → (aresult P T r).run h = some (v, h)) (g : ARs B L P rs (vs ++ [v]) T V) : ARs B L P (r :: rs) vs T V := fun h s => by
  have := g h s
  simp only [List.append_assoc, List.singleton_append] at this
  simp only [aresultList]
  intro w
  obtain ⟨a, h', e, q⟩ := this w
  rw [run_bind] at e
  refine ⟨a, h', ?_, q⟩
  rw [run_bind, run_bind, hr h s]
  dsimp only
  rw [run_bind]
  cases hq : (aresultList P T rs).run h with
  | none => rw [hq] at e; cases e
  | some p => rw [hq] at e; exact e
instance {t : Tmp} [e : Lk T t v] : Wk (ARs B L P (.tmp t :: rs) vs T V) (ARs B L P rs (vs ++ [v]) T V) := ⟨ars_step fun h s => by simp only [aresult]; rw [e.eq]; rfl⟩
instance {h0 : Hp} {X : List Nat} {W : List Ck} {t : Tmp} {ty : TypeId} {id ver off esz : Nat} {cells r' : List AV} {fix : Bool} [e : Lk T t (.ptr id ver off)] [hr : HasRow L W id ver esz cells fix] [o : TOne P ty] [d : Dr cells off (v :: r')] :
    Wk (ARs ⟨h0, X, W⟩ L P (.cell t ty :: rs) vs T V) (ARs ⟨h0, X, W⟩ L P rs (vs ++ [v]) T V) := ⟨ars_step fun h s => by
  obtain ⟨st, tyo, ho⟩ := s.all _ hr.mem
  simp only [aresult, e.eq, aload]
  rw [run_bind, row_run ho]
  dsimp only
  rw [d.eq, o.rd]; rfl⟩
instance {h0 : Hp} {X : List Nat} {W : List Ck} {t : Tmp} {ty : TypeId} {id ver off esz n : Nat} {cells r' c' : List AV} {fix : Bool} [e : Lk T t (.ptr id ver off)] [hr : HasRow L W id ver esz cells fix] [o : TAgg P ty n] [d : Dr cells off r'] [k : Tk r' n c'] :
    Wk (ARs ⟨h0, X, W⟩ L P (.cell t ty :: rs) vs T V) (ARs ⟨h0, X, W⟩ L P rs (vs ++ [.agg c']) T V) := ⟨ars_step fun h s => by
  obtain ⟨st, tyo, ho⟩ := s.all _ hr.mem
  simp only [aresult, e.eq, aload]
  rw [run_bind, row_run ho]
  dsimp only
  rw [d.eq, o.rd _ (by simpa using k.le), k.eq]; rfl⟩
instance : Wk (ARs B L P [] ([] ++ [v]) T V) (Fin B L v V) := ⟨fun g h s => by
  simp only [aresultList]
  exact Runs.bind (Runs.pure (Runs.pure (g h s)))⟩
instance {v w : AV} : Wk (ARs B L P [] ([] ++ [v] ++ [w]) T V) (Fin B L (.tuple [v, w]) V) := ⟨fun g h s => by
  simp only [aresultList]
  exact Runs.bind (Runs.pure (Runs.pure (g h s)))⟩
instance {v w u : AV} : Wk (ARs B L P [] ([] ++ [v] ++ [w] ++ [u]) T V) (Fin B L (.tuple [v, w, u]) V) := ⟨fun g h s => by
  simp only [aresultList]
  exact Runs.bind (Runs.pure (Runs.pure (g h s)))⟩
instance : Wk (ARs B L P [] [] T V) (Fin B L (.tuple []) V) := ⟨fun g h s => by
  simp only [aresultList]
  exact Runs.bind (Runs.pure (Runs.pure (g h s)))⟩
theorem fin {Post : AV → List Ck → Prop} {N : List Ck} (p : Post v N) [k : Sb L N] : Fin B L v (QF B Post) := fun h s => ⟨N, p, s.sb k⟩

/-! ### into a function -/
class ApV (a b : List AV) (c : outParam (List AV)) : Prop where eq : a ++ b = c
instance {b : List AV} : ApV [] b b := ⟨rfl⟩
instance {x : AV} {a b c : List AV} [e : ApV a b c] : ApV (x :: a) b (x :: c) := ⟨by rw [List.cons_append, e.eq]⟩
theorem Cal_fn {sums : Sums} {f : FuncId} {fn' : Func} {c : Code} {first captured args al1 al : List AV} {n nt : Nat} {rs : List ResultVar} {C W : List Ck} {Post : AV → List Ck → Prop} (hn : 0 < n) (hs : sums f = none) (hf : P.funcs[f]? = some fn') (hc : fn'.body = some c) (hnt : fn'.ntmps = nt) (hrs : fn'.results = rs.toArray)
    [e1 : ApV args captured al1] [e2 : ApV first al1 al] (hl : Nat.ble al.length nt = true)
    (r : ∀ m h0 T, n = m + 1 → Args T al → ACo ⟨h0, cids C, W⟩ C P pol (acall P pol sums m) f nt m c T (KFun P rs (QF ⟨h0, cids C, W⟩ Post))) : Cal C W (acall P pol sums n (.func (.func f) first captured) args) Post := fun h s => by
  obtain ⟨m, rfl⟩ : ∃ m, n = m + 1 := ⟨n - 1, by omega⟩
  have hl' : al.length ≤ nt := by simpa using hl
  obtain rfl : first ++ args ++ captured = al := by rw [List.append_assoc, e1.eq, e2.eq]
  subst hnt
  refine R_func hs hf hc hl' ((r m h _ rfl ⟨fun i v e => tempsOf_arg e⟩ h s).mono fun x h1 k => ?_)
  obtain ⟨k1, k2⟩ := k
  refine ⟨k1, ?_⟩
  unfold aresults
  rw [hrs]
  exact k2
theorem Cal_sum {sums : Sums} {f : FuncId} {s : List AV → AM AV} {first captured args al1 al : List AV} {n : Nat} {C W : List Ck} {Post : AV → List Ck → Prop} (hn : 0 < n) (hs : sums f = some s) [e1 : ApV args captured al1] [e2 : ApV first al1 al] (r : Cal C W (s al) Post) : Cal C W (acall P pol sums n (.func (.func f) first captured) args) Post := fun h t => by
  obtain ⟨m, rfl⟩ : ∃ m, n = m + 1 := ⟨n - 1, by omega⟩
  obtain rfl : first ++ args ++ captured = al := by rw [List.append_assoc, e1.eq, e2.eq]
  exact R_sum hs (r h t)

/-! ### loops -/
/-- what code writes -/
def wr : Code → List Nat
  | .region _ ops _ => ops.toList.filterMap (·.dst)
  | .seq a b => wr a ++ wr b
  | .cond _ a b => wr a ++ wr b
  | .block _ b => wr b
  | .loop b => wr b
  | _ => []
theorem bind_some {α β : Type} {m : AM α} {f : α → AM β} {h : Hp} {r : β × Hp} (e : (m >>= f).run h = some r) : ∃ a h1, m.run h = some (a, h1) ∧ (f a).run h1 = some r := by
  rw [run_bind] at e
  cases hm : m.run h with
  | none => rw [hm] at e; cases e
  | some p => rw [hm] at e; exact ⟨p.1, p.2, rfl, e⟩
theorem aops_wr (ops : List Oper) : ∀ (l : List Nat) (T T' : Temps) (h h' : Hp), (aops P pol call fn nt ops l T).run h = some (T', h') → ∀ t, t ∉ ops.filterMap (·.dst) → tget T' t = tget T t
  | [], T, T', h, h', e, t, ht => by cases e; rfl
  | i :: rest, T, T', h, h', e, t, ht => by
    unfold aops at e
    cases ho : ops[i]? with
    | none => rw [ho] at e; cases e
    | some o =>
      have hd : ∀ v, tget (tput? nt T o.dst v) t = tget T t := fun v => by
        cases hq : o.dst with
        | none => rfl
        | some u =>
          refine tgo_ne (T := T) (v := v) (x := tget T t) ?_ rfl
          cases hb : Nat.beq t u with
          | false => rfl
          | true => obtain rfl := Nat.eq_of_beq_eq_true hb; exact absurd (List.mem_filterMap.2 ⟨o, List.mem_of_getElem? ho, hq⟩) ht
      rw [ho] at e
      dsimp only at e
      rw [run_bind] at e
      cases hb : (awanted ops T o).run h with
      | none => rw [hb] at e; cases e
      | some p =>
        obtain ⟨b, h1⟩ := p
        rw [hb] at e
        cases b with
        | false => exact (aops_wr ops rest _ _ _ _ e t ht).trans (hd _)
        | true =>
          dsimp only at e
          rw [run_bind] at e
          cases hv : (aop P pol call fn o (aeval T)).run h1 with
          | none => rw [hv] at e; cases e
          | some p =>
            obtain ⟨v, h2⟩ := p
            rw [hv] at e
            exact (aops_wr ops rest _ _ _ _ e t ht).trans (hd _)
theorem aopsD_wr (ops : List Oper) (ms : List Nat) : ∀ (l : List Nat) (seen : Seen) (T T' : Temps) (h h' : Hp), (aopsD P pol call fn nt ops ms l seen T).run h = some (T', h') → ∀ t, t ∉ ops.filterMap (·.dst) → tget T' t = tget T t
  | [], seen, T, T', h, h', e, t, ht => by cases e; rfl
  | i :: rest, seen, T, T', h, h', e, t, ht => by
    unfold aopsD at e
    cases ho : ops[i]? with
    | none => rw [ho] at e; cases e
    | some o =>
      have hd : ∀ v, tget (tput? nt T o.dst v) t = tget T t := fun v => by
        cases hq : o.dst with
        | none => rfl
        | some u =>
          refine tgo_ne (T := T) (v := v) (x := tget T t) ?_ rfl
          cases hb : Nat.beq t u with
          | false => rfl
          | true => obtain rfl := Nat.eq_of_beq_eq_true hb; exact absurd (List.mem_filterMap.2 ⟨o, List.mem_of_getElem? ho, hq⟩) ht
      rw [ho] at e
      dsimp only at e
      rw [run_bind] at e
      cases hb : (awanted ops T o).run h with
      | none => rw [hb] at e; cases e
      | some p =>
        obtain ⟨b, h1⟩ := p
        rw [hb] at e
        cases b with
        | false => exact (aopsD_wr ops ms rest _ _ _ _ _ e t ht).trans (hd _)
        | true =>
          dsimp only at e
          generalize opClass o.op = c at e
          rcases c with _ | _ | c
          · obtain ⟨v, h2, _, e⟩ := bind_some e
            exact (aopsD_wr ops ms rest _ _ _ _ _ e t ht).trans (hd _)
          · obtain ⟨v, h2, _, e⟩ := bind_some e
            exact (aopsD_wr ops ms rest _ _ _ _ _ e t ht).trans (hd _)
          · obtain ⟨_, h2, _, e⟩ := bind_some e
            obtain ⟨v, h3, _, e⟩ := bind_some e
            obtain ⟨_, h4, _, e⟩ := bind_some e
            obtain ⟨_, h5, _, e⟩ := bind_some e
            exact (aopsD_wr ops ms rest _ _ _ _ _ e t ht).trans (hd _)
theorem acode_wr : ∀ (c : Code) (T : Temps) (h h' : Hp) (x : Exit × Temps), (acode P pol call fn nt fuel c T).run h = some (x, h') → ∀ t, t ∉ wr c → tget x.2 t = tget T t := by
  intro c
  induction c with
  | region id ops draw =>
    intro T h h' x e t ht
    simp only [acode, run_bind] at e
    cases hr : (aregion P pol call fn nt ops.toList draw T).run h with
    | none => rw [hr] at e; cases e
    | some p =>
      rw [hr] at e
      cases e
      unfold aregion at hr
      cases draw with
      | false => exact aops_wr _ _ _ _ _ _ hr t ht
      | true =>
        dsimp only at hr
        cases ho : orderOf ops.toList with
        | none => rw [ho] at hr; cases hr
        | some l => rw [ho] at hr; exact aopsD_wr _ _ _ _ _ _ _ _ hr t ht
  | seq a b iha ihb =>
    intro T h h' x e t ht
    simp only [wr, List.mem_append, not_or] at ht
    simp only [acode, run_bind] at e
    cases hr : (acode P pol call fn nt fuel a T).run h with
    | none => rw [hr] at e; cases e
    | some p =>
      obtain ⟨⟨ex, T1⟩, h1⟩ := p
      rw [hr] at e
      have h2 := iha T h h1 _ hr t ht.1
      cases ex with
      | normal => exact (ihb T1 h1 h' x e t ht.2).trans h2
      | _ => cases e; exact h2
  | cond c a b iha ihb =>
    intro T h h' x e t ht
    simp only [wr, List.mem_append, not_or] at ht
    simp only [acode] at e
    split at e
    · exact iha T h h' x e t ht.1
    · exact ihb T h h' x e t ht.2
    · cases e
  | block id b ih =>
    intro T h h' x e t ht
    simp only [acode, run_bind] at e
    cases hr : (acode P pol call fn nt fuel b T).run h with
    | none => rw [hr] at e; cases e
    | some p =>
      obtain ⟨⟨ex, T1⟩, h1⟩ := p
      rw [hr] at e
      have h2 := ih T h h1 _ hr t ht
      cases ex with
      | exit id' =>
        dsimp only at e
        cases hb : Nat.beq id' id with
        | true => rw [hb] at e; cases e; exact h2
        | false => rw [hb] at e; cases e; exact h2
      | _ => cases e; exact h2
  | loop b ih =>
    intro T h h' x e t ht
    simp only [acode] at e
    have key : ∀ (n : Nat) (T : Temps) (h h' : Hp) (x : Exit × Temps), (aloop (acode P pol call fn nt fuel b) n T).run h = some (x, h') → tget x.2 t = tget T t := by
      intro n
      induction n with
      | zero => intro T h h' x e; cases e
      | succ n ihn =>
        intro T h h' x e
        simp only [aloop, run_bind] at e
        cases hr : (acode P pol call fn nt fuel b T).run h with
        | none => rw [hr] at e; cases e
        | some p =>
          obtain ⟨⟨ex, T1⟩, h1⟩ := p
          rw [hr] at e
          have h2 := ih T h h1 _ hr t ht
          cases ex with
          | normal => exact (ihn T1 h1 h' x e).trans h2
          | _ => cases e; exact h2
    exact key fuel T h h' x e
  | rangeFunc f params assign body =>
    intro T h h' x e t ht
    simp only [acode] at e
    obtain ⟨_, _, _, e⟩ := bind_some e
    obtain ⟨_, _, _, e⟩ := bind_some e
    obtain ⟨_, _, _, e⟩ := bind_some e
    obtain ⟨⟨_, _, _, _, _, _, _, p⟩, _, _, e⟩ := bind_some e
    obtain ⟨_, _, _, e⟩ := bind_some e
    obtain ⟨_, _, _, e⟩ := bind_some e
    obtain ⟨_, _, _, e⟩ := bind_some e
    unfold afterLoop at e
    cases p with
    | none => cases e; rfl
    | some c =>
      obtain ⟨_, _, _, e⟩ := bind_some e
      cases e; rfl
  | _ => intro T h h' x e t ht; first | (cases e; rfl) | cases e
theorem Runs.wr {c : Code} {h : Hp} {Q : Exit × Temps → Hp → Prop} (r : Runs (acode P pol call fn nt fuel c T) h Q) : Runs (acode P pol call fn nt fuel c T) h fun x h' => Q x h' ∧ ∀ t, t ∉ wr c → tget x.2 t = tget T t := fun w => by
  obtain ⟨x, h', e, q⟩ := r w
  exact ⟨x, h', e, q, acode_wr c T h h' x e⟩

/-- what is owed behind a round: less is left -/
def KLp (B : Bs) (I : Nat → List Ck → Temps → Prop) (k : Nat) (Q : Exit × Temps → Hp → Prop) : Exit × Temps → Hp → Prop := fun x h1 => match x with
  | (.normal, T1) => ∃ k' L', k' < k ∧ St B L' h1 ∧ I k' L' T1
  | x => Q x h1
theorem Agr.trans' {K : List Nat} {T0 T1 T2 : Temps} (a : Agr K T0 T1) (b : Agr K T1 T2) : Agr K T0 T2 := ⟨fun t h => (b.eq t h).trans (a.eq t h)⟩
theorem A_loopS {b : Code} {L0 : List Ck} (I : Nat → List Ck → Temps → Prop) (K : List Nat) (k : Nat) (hk : k < fuel) (h0 : I k L0 T) [sb : Sb L L0] (hK : (K.all fun t => !(inList t (wr b))) = true)
    (round : ∀ k L T1, I k L T1 → Agr K T T1 → ACo B L P pol call fn nt fuel b T1 (KLp B I k Q)) : ACo B L P pol call fn nt fuel (.loop b) T Q := fun h s => by
  simp only [acode]
  have hw : ∀ t ∈ K, t ∉ wr b := fun t ht hw => by
    have h1 := List.all_eq_true.1 hK t ht
    have : ∀ l : List Nat, t ∈ l → inList t l = true := by
      intro l
      induction l with
      | nil => intro h; cases h
      | cons u l ih =>
        intro h
        rcases List.mem_cons.1 h with rfl | q
        · simp [inList]
        · simp [inList, ih q]
    rw [this _ hw] at h1; cases h1
  have key : ∀ (k n : Nat) (L : List Ck) (T1 : Temps) (h : Hp), k < n → St B L h → I k L T1 → Agr K T T1 → Runs (aloop (acode P pol call fn nt fuel b) n T1) h Q := by
    intro k
    induction k using Nat.strongRecOn with
    | _ k ih =>
      intro n L T1 h hn s hI hA
      obtain ⟨m, rfl⟩ : ∃ m, n = m + 1 := ⟨n - 1, by omega⟩
      simp only [aloop]
      refine Runs.bind (((round k L T1 hI hA h s).wr).mono fun x h1 q => ?_)
      obtain ⟨e, T2⟩ := x
      obtain ⟨q, qw⟩ := q
      cases e with
      | normal =>
        obtain ⟨k', L', hk', s', hI'⟩ := q
        exact ih k' hk' m L' T2 h1 (by omega) s' hI' (hA.trans' ⟨fun t ht => qw t (hw t ht)⟩)
      | _ => exact Runs.pure q
  exact key k fuel L0 T h hk (s.sb sb) h0 ⟨fun _ _ => rfl⟩
theorem A_loop {b : Code} (I : Nat → List Ck → Temps → Prop) (K : List Nat) (k : Nat) (hk : k < fuel) (h0 : I k L T) (hK : (K.all fun t => !(inList t (wr b))) = true)
    (round : ∀ k L T1, I k L T1 → Agr K T T1 → ACo B L P pol call fn nt fuel b T1 (KLp B I k Q)) : ACo B L P pol call fn nt fuel (.loop b) T Q := A_loopS I K k hk h0 hK round
/-- a loop that turns no chunk -/
theorem A_loopR {b : Code} (I : Nat → Temps → Prop) (K : List Nat) (k : Nat) (hk : k < fuel) (h0 : I k T) (hK : (K.all fun t => !(inList t (wr b))) = true)
    (round : ∀ k T1, I k T1 → Agr K T T1 → ACo B L P pol call fn nt fuel b T1 (KLp B (fun k L' T => L' = L ∧ I k T) k Q)) : ACo B L P pol call fn nt fuel (.loop b) T Q :=
  A_loopS (L0 := L) (fun k L' T => L' = L ∧ I k T) K k hk ⟨rfl, h0⟩ hK (sb := ⟨fun B h Z s => s⟩) (fun k L' T1 h => by obtain ⟨rfl, h⟩ := h; exact round k T1 h)
theorem lend {I : Nat → List Ck → Temps → Prop} {k : Nat} (k' : Nat) (L' : List Ck) (hk : k' < k) [e : Sb L L'] (hI : I k' L' T) : AK B L (KLp B I k Q) (.normal, T) := fun h s => ⟨k', L', hk, s.sb e, hI⟩
instance {I : Nat → List Ck → Temps → Prop} {k : Nat} : Wk (AK B L (KLp B I k Q) (.ret, T)) (AK B L Q (.ret, T)) := ⟨fun g h s => g h s⟩
instance {I : Nat → List Ck → Temps → Prop} {k : Nat} : Wk (AK B L (KLp B I k Q) (.exit id, T)) (AK B L Q (.exit id, T)) := ⟨fun g h s => g h s⟩
theorem lkz {t : Nat} {k : IntKind} {z z' : Int} [a : Lk T t (.int k z)] (e : z = z') : Lk T t (.int k z') := ⟨by rw [a.eq, e]⟩
theorem lkv {t : Nat} {v v' : AV} [a : Lk T t v] (e : v = v') : Lk T t v' := ⟨by rw [a.eq, e]⟩
/-- both halves of an if, where it is known which -/
theorem condT {b : Bool} {X Y : Prop} (h : b = true) (x : X) : (b = true → X) ∧ (b = false → Y) := ⟨fun _ => x, fun e => by rw [h] at e; cases e⟩
theorem condF {b : Bool} {X Y : Prop} (h : b = false) (y : Y) : (b = true → X) ∧ (b = false → Y) := ⟨(fun e => by rw [h] at e; cases e), fun _ => y⟩
end
end Go.Am
