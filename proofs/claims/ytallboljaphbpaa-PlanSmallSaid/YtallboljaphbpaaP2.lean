/- law27: rows of texts on the A-machine: Index, Contains, Vars. -/
import Derived.Test.YtallboljaphbpaaP1
import Derived.Below
import Derived.Test.YtallboljaphbpaaChecked
import Derived.KernelRfl
set_option linter.unusedVariables false
set_option linter.unusedSimpArgs false
namespace Go.Am
open Go AM

/-- an object is, to who looks at it, as it was -/
def Alike (c : Bool) (o o2 : AObj) : Prop := o2 = o ∨ (c = false ∧ o2.ver = o.ver ∧ ∃ e cells fix cells' fix', o.body = .row e cells fix ∧ o2.body = .row e cells' fix' ∧ cells.length = cells'.length)

theorem Alike.refl (c : Bool) (o : AObj) : Alike c o o := .inl rfl
theorem Alike.trans {c : Bool} {o o2 o3 : AObj} (a : Alike c o o2) (b : Alike c o2 o3) : Alike c o o3 := by
  rcases a with rfl | ⟨rfl, a1, e, cells, fix, cells', fix', a2, a3, a4⟩
  · exact b
  · rcases b with rfl | ⟨_, b1, e', dells, gix, dells', gix', b2, b3, b4⟩
    · exact .inr ⟨rfl, a1, e, cells, fix, cells', fix', a2, a3, a4⟩
    · rw [a3] at b2
      injection b2 with b5 b6 b7
      subst b5 b6
      exact .inr ⟨rfl, b1.trans a1, e, cells, fix, dells', gix', a2, b3, a4.trans b4⟩

def Like (ids : List (Bool × Nat)) (h g : Hp) : Prop := ∀ c id, (c, id) ∈ ids → ∀ o, h.get id = some o → ∃ o2, g.get id = some o2 ∧ Alike c o o2

/-- a computation that changes nothing, and looks at nothing else -/
def Reads {α : Type} (ids : List (Bool × Nat)) (m : AM α) : Prop := ∀ h v h', m.run h = some (v, h') → h' = h ∧ ∀ g, Like ids h g → m.run g = some (v, g)

section
variable {α β : Type} {ids : List (Bool × Nat)}
theorem Reads.pure (a : α) : Reads ids (pure a : AM α) := fun h v h' e => by
  obtain ⟨rfl, rfl⟩ := qab e; exact ⟨rfl, fun g _ => rfl⟩
theorem Reads.fail : Reads ids (fail : AM α) := fun h v h' e => by cases e
theorem Reads.bind {m : AM α} {f : α → AM β} (a : Reads ids m) (b : ∀ x, Reads ids (f x)) : Reads ids (m >>= f) := fun h v h' e => by
  obtain ⟨x, h1, e1, e2⟩ := bind_some e
  obtain ⟨rfl, k1⟩ := a _ _ _ e1
  obtain ⟨rfl, k2⟩ := b x _ _ _ e2
  refine ⟨rfl, fun g hg => ?_⟩
  rw [run_bind, k1 g hg]
  exact k2 g hg
theorem Reads.guard (b : Bool) : Reads ids (AM.guard b) := by
  cases b
  · exact Reads.fail
  · exact Reads.pure ()
theorem Reads.ofOption (o : Option α) : Reads ids (AM.ofOption o) := by
  cases o
  · exact Reads.fail
  · exact Reads.pure _
theorem Reads.there (id : Nat) (c : Bool) (hm : (c, id) ∈ ids) {f : AObj → AM β} (hf : ∀ o o2, f o = f o2) (b : ∀ x, Reads ids (f x)) : Reads ids (AM.hget id >>= f) := fun h v h' e => by
  obtain ⟨x, h1, e1, e2⟩ := bind_some e
  obtain ⟨ho, rfl⟩ := hget_some e1
  obtain ⟨rfl, k2⟩ := b x _ _ _ e2
  refine ⟨rfl, fun g hg => ?_⟩
  obtain ⟨o2, ho2, _⟩ := hg c id hm x ho
  have : (AM.hget id).run g = some (o2, g) := by simp only [hget, ho2]
  rw [run_bind, this]
  dsimp only
  rw [hf o2 x]
  exact k2 g hg
theorem Reads.row (id ver : Nat) (c : Bool) (hm : (c, id) ∈ ids) {f : Nat × List AV × Bool → AM β} (hf : c = false → ∀ e cells fix cells' fix', cells.length = cells'.length → f (e, cells, fix) = f (e, cells', fix')) (b : ∀ x, Reads ids (f x)) :
    Reads ids (rowOf id ver >>= f) := fun h v h' e => by
  obtain ⟨⟨esz, cells, fix⟩, h1, e1, e2⟩ := bind_some e
  obtain ⟨rfl, o, ho, hv, hb⟩ := qbw e1
  obtain ⟨rfl, k2⟩ := b _ _ _ _ e2
  refine ⟨rfl, fun g hg => ?_⟩
  obtain ⟨o2, ho2, hal⟩ := hg c id hm o ho
  have key : ∀ cells' fix', o2.ver = ver → o2.body = .row esz cells' fix' → (rowOf id ver).run g = some ((esz, cells', fix'), g) := by
    intro cells' fix' h1 h2
    unfold rowOf
    have : (AM.hget id).run g = some (o2, g) := by simp only [hget, ho2]
    rw [run_bind, this]
    dsimp only
    rw [run_bind, h1, show Nat.beq ver ver = true by simp, h2]
    rfl
  rcases hal with rfl | ⟨rfl, a1, e', dells, gix, cells', fix', a2, a3, a4⟩
  · rw [run_bind, key cells fix hv hb]
    exact k2 g hg
  · rw [hb] at a2
    injection a2 with a5 a6 a7
    subst a5 a6
    rw [run_bind, key cells' fix' (a1.trans hv) a3]
    dsimp only
    rw [← hf rfl esz cells fix cells' fix' a4]
    exact k2 g hg
theorem Reads.map (id : Nat) (c : Bool) (hm : (c, id) ∈ ids) : Reads ids (mapOf id) := fun h v h' e => by
  obtain ⟨rfl, o, ho, hb⟩ := mapOf_some e
  refine ⟨rfl, fun g hg => ?_⟩
  obtain ⟨o2, ho2, hal⟩ := hg c id hm o ho
  rcases hal with rfl | ⟨_, _, e', dells, gix, cells', fix', a2, _⟩
  · unfold mapOf
    have : (AM.hget id).run g = some (o2, g) := by simp only [hget, ho2]
    rw [run_bind, this]
    dsimp only
    rw [hb]
    rfl
  · rw [hb] at a2; cases a2
theorem Reads.row' (id ver : Nat) (c : Bool) (hm : (c, id) ∈ ids) (b : AM β) (hb : Reads ids b) : Reads ids (do let _ ← rowOf id ver; b) := Reads.row id ver c hm (fun _ _ _ _ _ _ _ => rfl) (fun _ => hb)

variable {P : Program}
theorem Reads.sz (t : TypeId) : Reads ids (szOf P t) := Reads.ofOption _
theorem Reads.bytes (t : TypeId) : Reads ids (bytesOf P t) := Reads.ofOption _
theorem Reads.elem (t : TypeId) : Reads ids (elemOf P t) := by unfold elemOf; (repeat' first|exact Reads.pure _|exact Reads.fail|exact Reads.guard _|exact Reads.ofOption _|(refine Reads.bind ?_ fun _ => ?_)|split)
theorem Reads.zero (t : TypeId) : Reads ids (zeroOf P t) := by unfold zeroOf; (repeat' first|exact Reads.pure _|exact Reads.fail|exact Reads.guard _|exact Reads.ofOption _|(refine Reads.bind ?_ fun _ => ?_)|split)
theorem Reads.aread (t : TypeId) (cells : List AV) : Reads ids (aread P t cells) := by unfold Am.aread underOf szOf; (repeat' first|exact Reads.pure _|exact Reads.fail|exact Reads.guard _|exact Reads.ofOption _|(refine Reads.bind ?_ fun _ => ?_)|split)
theorem Reads.afill (place : Nat → Option (Nat × Nat)) : ∀ (cells : List AV) (l : List (Nat × AV)), Reads ids (afill place cells l) := by
  intro cells l
  induction l generalizing cells with
  | nil => exact Reads.pure _
  | cons x r ih =>
    obtain ⟨i, v⟩ := x
    simp only [Am.afill]
    split
    · exact Reads.fail
    · exact Reads.bind (Reads.guard _) fun _ => ih _
theorem Reads.build (t : TypeId) (l : List (Nat × AV)) : Reads ids (abuild P t l) := by
  unfold abuild
  refine Reads.bind (Reads.zero _) fun _ => ?_
  split
  · exact Reads.bind (Reads.guard _) fun _ => Reads.bind (Reads.afill _ _ _) fun _ => Reads.pure _
  · exact Reads.bind (Reads.sz _) fun _ => Reads.bind (Reads.afill _ _ _) fun _ => Reads.pure _
  · exact Reads.fail
theorem Reads.buildSlice (t : TypeId) (len : Nat) (l : List (Nat × AV)) : Reads ids (qc3 P t len l) := by
  unfold qc3
  refine Reads.bind (Reads.elem _) fun _ => Reads.bind (Reads.sz _) fun _ => Reads.bind (Reads.guard _) fun _ => Reads.bind ?_ fun _ => Reads.bind (Reads.guard _) fun _ => Reads.bind (Reads.afill _ _ _) fun _ => Reads.pure _
  unfold zeroUnless
  split
  · exact Reads.pure _
  · exact Reads.zero _

theorem Reads.int (op : BinOp) (k : IntKind) (x y : Int) : Reads ids (aintop op k x y) := by unfold aintop; (repeat' first|exact Reads.pure _|exact Reads.fail|exact Reads.guard _|exact Reads.ofOption _|(refine Reads.bind ?_ fun _ => ?_)|split)
theorem Reads.shift (op : BinOp) (k : IntKind) (x y : Int) : Reads ids (ashift op k x y) := by unfold ashift; (repeat' first|exact Reads.pure _|exact Reads.fail|exact Reads.guard _|exact Reads.ofOption _|(refine Reads.bind ?_ fun _ => ?_)|split)
theorem Reads.strop (op : BinOp) (x y : List UInt8) : Reads ids (astrop op x y) := by unfold astrop; (repeat' first|exact Reads.pure _|exact Reads.fail|exact Reads.guard _|exact Reads.ofOption _|(refine Reads.bind ?_ fun _ => ?_)|split)
theorem Reads.un (op : UnOp) (x : AV) : Reads ids (aun op x) := by
  unfold aun
  repeat' first | exact Reads.pure _ | exact Reads.fail | exact Reads.int _ _ _ _ | split
theorem Reads.convert (s d : TypeId) (x : AV) : Reads ids (aconvert P s d x) := by unfold aconvert; (repeat' first|exact Reads.pure _|exact Reads.fail|exact Reads.guard _|exact Reads.ofOption _|(refine Reads.bind ?_ fun _ => ?_)|split)
theorem Reads.fieldAt (t : TypeId) (f : Nat) : Reads ids (fieldAt P t f) := by unfold Am.fieldAt; (repeat' first|exact Reads.pure _|exact Reads.fail|exact Reads.guard _|exact Reads.ofOption _|(refine Reads.bind ?_ fun _ => ?_)|split)
theorem Reads.fieldAddr (t : TypeId) (x : AV) (f : Nat) : Reads ids (afieldAddr P t x f) := by
  unfold afieldAddr
  refine Reads.bind (Reads.fieldAt _ _) fun _ => Reads.bind (Reads.sz _) fun _ => ?_
  (repeat' first|exact Reads.pure _|exact Reads.fail|exact Reads.guard _|exact Reads.ofOption _|(refine Reads.bind ?_ fun _ => ?_)|split)
theorem Reads.field (t : TypeId) (x : AV) (f : Nat) : Reads ids (afield P t x f) := by
  unfold afield
  refine Reads.bind (Reads.fieldAt _ _) fun _ => ?_
  split
  · exact Reads.bind (Reads.guard _) fun _ => Reads.aread _ _
  · exact Reads.fail
theorem Reads.index (t : TypeId) (x i : AV) : Reads ids (aindex P t x i) := by
  unfold aindex
  split
  · split
    · exact Reads.bind (Reads.sz _) fun _ => Reads.bind (Reads.guard _) fun _ => Reads.aread _ _
    · (repeat' first|exact Reads.pure _|exact Reads.fail|exact Reads.guard _|exact Reads.ofOption _|(refine Reads.bind ?_ fun _ => ?_)|split)
    · exact Reads.fail
  · exact Reads.fail

theorem Reads.nilKind (c : Bool) (d : TypeDesc) (x : AV) (hm : ∀ id ∈ qb2 x, (c, id) ∈ ids) : Reads ids (nilKind d x) := by
  unfold Am.nilKind
  split
  case h_3 => exact Reads.row' _ _ c (hm _ (by simp [qb2])) _ (Reads.pure _)
  case h_7 => exact Reads.row' _ _ c (hm _ (by simp [qb2])) _ (Reads.pure _)
  case h_9 => exact Reads.there _ c (hm _ (by simp [qb2])) (fun _ _ => rfl) (fun _ => Reads.pure _)
  all_goals (repeat' first|exact Reads.pure _|exact Reads.fail|exact Reads.guard _|exact Reads.ofOption _|(refine Reads.bind ?_ fun _ => ?_)|split)
theorem Reads.equal (c : Bool) (t : TypeId) (x y : AV) (hx : ∀ id ∈ qb2 x, (c, id) ∈ ids) (hy : ∀ id ∈ qb2 y, (c, id) ∈ ids) : Reads ids (aequal P t x y) := by
  unfold aequal
  split
  · (repeat' first|exact Reads.pure _|exact Reads.fail|exact Reads.guard _|exact Reads.ofOption _|(refine Reads.bind ?_ fun _ => ?_)|split)
  · (repeat' first|exact Reads.pure _|exact Reads.fail|exact Reads.guard _|exact Reads.ofOption _|(refine Reads.bind ?_ fun _ => ?_)|split)
  · exact Reads.bind (Reads.nilKind c _ _ hx) fun _ => Reads.bind (Reads.nilKind c _ _ hy) fun _ => Reads.bind (Reads.guard _) fun _ => Reads.pure _
  · (repeat' first|exact Reads.pure _|exact Reads.fail|exact Reads.guard _|exact Reads.ofOption _|(refine Reads.bind ?_ fun _ => ?_)|split)
theorem Reads.bin (c : Bool) (op : BinOp) (t : TypeId) (x y : AV) (hx : ∀ id ∈ qb2 x, (c, id) ∈ ids) (hy : ∀ id ∈ qb2 y, (c, id) ∈ ids) : Reads ids (abin P op t x y) := by
  unfold abin
  split
  · exact Reads.shift _ _ _ _
  · exact Reads.shift _ _ _ _
  · split
    · exact Reads.int _ _ _ _
    · exact Reads.fail
  · exact Reads.strop _ _ _
  · exact Reads.bind (Reads.equal c _ _ _ hx hy) fun _ => Reads.pure _
  · exact Reads.bind (Reads.equal c _ _ _ hx hy) fun _ => Reads.pure _
  · exact Reads.fail
theorem Reads.indexAddr (t : TypeId) (x i : AV) (hx : ∀ id ∈ qb2 x, (false, id) ∈ ids) : Reads ids (aindexAddr P t x i) := by
  unfold aindexAddr
  split
  · split
    · exact Reads.bind (Reads.sz _) fun _ => by (repeat' first|exact Reads.pure _|exact Reads.fail|exact Reads.guard _|exact Reads.ofOption _|(refine Reads.bind ?_ fun _ => ?_)|split)
    · refine Reads.bind (Reads.sz _) fun _ => Reads.row _ _ false (hx _ (by simp [qb2])) (fun _ e cells fix cells' fix' hl => ?_) fun _ => ?_
      · dsimp only; rw [hl]
      · (repeat' first|exact Reads.pure _|exact Reads.fail|exact Reads.guard _|exact Reads.ofOption _|(refine Reads.bind ?_ fun _ => ?_)|split)
    · exact Reads.bind (Reads.sz _) fun _ => by (repeat' first|exact Reads.pure _|exact Reads.fail|exact Reads.guard _|exact Reads.ofOption _|(refine Reads.bind ?_ fun _ => ?_)|split)
    · exact Reads.bind (Reads.sz _) fun _ => by (repeat' first|exact Reads.pure _|exact Reads.fail|exact Reads.guard _|exact Reads.ofOption _|(refine Reads.bind ?_ fun _ => ?_)|split)
    · exact Reads.fail
  · exact Reads.fail
theorem Reads.bound (m o : Nat) (x : Option AV) : Reads ids (abound m o x) := by unfold abound; (repeat' first|exact Reads.pure _|exact Reads.fail|exact Reads.guard _|exact Reads.ofOption _|(refine Reads.bind ?_ fun _ => ?_)|split)
theorem Reads.bounds (n m : Nat) (lo hi : Option AV) : Reads ids (qcb n m lo hi) :=
  Reads.bind (Reads.bound _ _ _) fun _ => Reads.bind (Reads.bound _ _ _) fun _ => Reads.pure _
theorem Reads.slice (t : TypeId) (x : AV) (lo hi mx : Option AV) (hx : ∀ id ∈ qb2 x, (false, id) ∈ ids) : Reads ids (aslice P t x lo hi mx) := by
  unfold aslice
  split
  · refine Reads.bind (Reads.bounds _ _ _ _) fun _ => ?_
    dsimp only
    (repeat' first|exact Reads.pure _|exact Reads.fail|exact Reads.guard _|exact Reads.ofOption _|(refine Reads.bind ?_ fun _ => ?_)|split)
  · exact Reads.bind (Reads.elem _) fun _ => Reads.bind (Reads.sz _) fun _ => Reads.bind (Reads.guard _) fun _ => Reads.bind (Reads.bounds _ _ _ _) fun _ => Reads.pure _
  · refine Reads.bind (Reads.elem _) fun _ => Reads.bind (Reads.sz _) fun _ => Reads.row _ _ false (hx _ (by simp [qb2])) (fun _ e cells fix cells' fix' hl => ?_) fun _ => ?_
    · dsimp only; rw [hl]
    · exact Reads.bind (Reads.guard _) fun _ => Reads.bind (Reads.bounds _ _ _ _) fun _ => Reads.pure _
  · split
    · exact Reads.bind (Reads.elem _) fun _ => Reads.bind (Reads.sz _) fun _ => Reads.pure _
    · exact Reads.fail
  · split
    · exact Reads.bind (Reads.elem _) fun _ => Reads.bind (Reads.sz _) fun _ => Reads.row' _ _ false (hx _ (by simp [qb2])) _ (Reads.pure _)
    · exact Reads.fail
  · exact Reads.fail
theorem Reads.load (t : TypeId) (x : AV) (hx : ∀ id ∈ qb2 x, (true, id) ∈ ids) : Reads ids (aload P t x) := by
  unfold aload
  split
  · exact Reads.aread _ _
  · exact Reads.row _ _ true (hx _ (by simp [qb2])) (fun hc => by cases hc) fun _ => Reads.aread _ _
  · exact Reads.fail
theorem Reads.lookup (t : TypeId) (x k : AV) (ok : Bool) (hx : ∀ id ∈ qb2 x, (true, id) ∈ ids) : Reads ids (alookup P t x k ok) := by
  unfold alookup
  split
  · refine Reads.bind (Reads.guard _) fun _ => Reads.bind ?_ fun _ => Reads.bind (Reads.ofOption _) fun _ => Reads.bind (Reads.zero _) fun _ => Reads.pure _
    unfold entriesOf
    split
    · exact Reads.pure _
    · exact Reads.map _ true (hx _ (by simp [qb2]))
    · exact Reads.fail
  · exact Reads.fail
theorem Reads.len (t : TypeId) (x : AV) (hx : ∀ id ∈ qb2 x, (false, id) ∈ ids) : Reads ids (alen P t x) := by
  unfold alen
  split
  · (repeat' first|exact Reads.pure _|exact Reads.fail|exact Reads.guard _|exact Reads.ofOption _|(refine Reads.bind ?_ fun _ => ?_)|split)
  · (repeat' first|exact Reads.pure _|exact Reads.fail|exact Reads.guard _|exact Reads.ofOption _|(refine Reads.bind ?_ fun _ => ?_)|split)
  · (repeat' first|exact Reads.pure _|exact Reads.fail|exact Reads.guard _|exact Reads.ofOption _|(refine Reads.bind ?_ fun _ => ?_)|split)
  · split
    · (repeat' first|exact Reads.pure _|exact Reads.fail|exact Reads.guard _|exact Reads.ofOption _|(refine Reads.bind ?_ fun _ => ?_)|split)
    · exact Reads.row' _ _ false (hx _ (by simp [qb2])) _ (Reads.pure _)
    · (repeat' first|exact Reads.pure _|exact Reads.fail|exact Reads.guard _|exact Reads.ofOption _|(refine Reads.bind ?_ fun _ => ?_)|split)
  · split
    · (repeat' first|exact Reads.pure _|exact Reads.fail|exact Reads.guard _|exact Reads.ofOption _|(refine Reads.bind ?_ fun _ => ?_)|split)
    · exact Reads.bind (Reads.map _ false (hx _ (by simp [qb2]))) fun _ => Reads.pure _
    · (repeat' first|exact Reads.pure _|exact Reads.fail|exact Reads.guard _|exact Reads.ofOption _|(refine Reads.bind ?_ fun _ => ?_)|split)
  · (repeat' first|exact Reads.pure _|exact Reads.fail|exact Reads.guard _|exact Reads.ofOption _|(refine Reads.bind ?_ fun _ => ?_)|split)
theorem Reads.max2 (b : Bool) (x y : AV) : Reads ids (amax2 b x y) := by unfold amax2; (repeat' first|exact Reads.pure _|exact Reads.fail|exact Reads.guard _|exact Reads.ofOption _|(refine Reads.bind ?_ fun _ => ?_)|split)
theorem Reads.fold (b : Bool) : ∀ (l : List AV) (x : AV), Reads ids (afold b x l) := by
  intro l
  induction l with
  | nil => exact fun x => Reads.pure _
  | cons y r ih => exact fun x => Reads.bind (Reads.max2 _ _ _) fun _ => ih _

variable {pol : Pol} {call : qa6} {fn : FuncId}

/-- AN OPERATION OF CLASS 0 READS WHAT ITS OPERANDS NAME -/
theorem aop_reads {o : Oper} (h0 : qa5 o.op = 0) (ρ : Operand → AV) : Reads (qbr ρ o) (aop P pol call fn o ρ) := by
  obtain ⟨dst, op, ty, pos, after, gd⟩ := o
  have one : ∀ (c : Bool), looksIn op = some c → ∀ x ∈ op.operands, ∀ id ∈ qb2 (ρ x), (c, id) ∈ qbr ρ ⟨dst, op, ty, pos, after, gd⟩ := by
    intro c hc x hx id hid
    unfold qbr
    rw [hc]
    exact List.mem_flatMap.2 ⟨x, by simpa using hx, List.mem_map.2 ⟨id, hid, rfl⟩⟩
  cases op with
  | move x => exact Reads.pure _
  | assign x => exact Reads.pure _
  | pick c a b => simp only [aop]; (repeat' first|exact Reads.pure _|exact Reads.fail|exact Reads.guard _|exact Reads.ofOption _|(refine Reads.bind ?_ fun _ => ?_)|split)
  | build t parts => exact Reads.build _ _
  | load t a => exact Reads.load _ _ (one true rfl a (by simp [Op.operands]))
  | nilCheck x => simp only [aop]; (repeat' first|exact Reads.pure _|exact Reads.fail|exact Reads.guard _|exact Reads.ofOption _|(refine Reads.bind ?_ fun _ => ?_)|split)
  | binOp op t x y u => exact Reads.bin false _ _ _ _ (one false rfl x (by simp [Op.operands])) (one false rfl y (by simp [Op.operands]))
  | unOp op t x => exact Reads.un _ _
  | convert s d x => exact Reads.convert _ _ _
  | makeInterface t x => simp only [aop]; (repeat' first|exact Reads.pure _|exact Reads.fail|exact Reads.guard _|exact Reads.ofOption _|(refine Reads.bind ?_ fun _ => ?_)|split)
  | makeFunc f first captured =>
    cases f with
    | func f => exact Reads.pure _
    | _ => exact Reads.fail
  | slice t x lo hi mx => exact Reads.slice _ _ _ _ _ (one false rfl x (by simp [Op.operands]))
  | fieldAddr s x f => exact Reads.fieldAddr _ _ _
  | field s x f => exact Reads.field _ _ _
  | indexAddr t x i => exact Reads.indexAddr _ _ _ (one false rfl x (by simp [Op.operands]))
  | index t x i => exact Reads.index _ _ _
  | lookup t x i ok => exact Reads.lookup _ _ _ _ (one true rfl x (by simp [Op.operands]))
  | extract t i => simp only [aop]; (repeat' first|exact Reads.pure _|exact Reads.fail|exact Reads.guard _|exact Reads.ofOption _|(refine Reads.bind ?_ fun _ => ?_)|split)
  | call c =>
    simp only [qa5] at h0
    cases hc : c.callee with
    | value f => rw [hc] at h0; cases h0
    | invoke r n => simp only [aop, hc]; exact Reads.fail
    | builtin b =>
      simp only [aop, hc]
      have mem : ∀ x l, c.args.toList.map ρ = x :: l → ∃ y ∈ c.args.toList, ρ y = x := fun x l e => List.mem_map.1 (by rw [e]; exact List.mem_cons_self)
      have arg : ∀ (k : Bool), looksIn (.call c) = some k → ∀ x l, c.args.toList.map ρ = x :: l → ∀ id ∈ qb2 x, (k, id) ∈ qbr ρ ⟨dst, .call c, ty, pos, after, gd⟩ := by
        intro k hk x l e id hid
        obtain ⟨y, hy, rfl⟩ := mem x l e
        exact one k hk y (by simpa [Op.operands, Call.operands] using .inr (by simpa using hy)) id hid
      generalize hl : c.args.toList.map ρ = l at arg
      unfold qck
      split
      · exact Reads.len _ _ (arg false (by simp [looksIn, hc]) _ _ rfl)
      · rw [hc] at h0; cases h0
      · rw [hc] at h0; cases h0
      · exact Reads.fold _ _ _
      · exact Reads.fold _ _ _
      · split
        · (repeat' first|exact Reads.pure _|exact Reads.fail|exact Reads.guard _|exact Reads.ofOption _|(refine Reads.bind ?_ fun _ => ?_)|split)
        · (repeat' first|exact Reads.pure _|exact Reads.fail|exact Reads.guard _|exact Reads.ofOption _|(refine Reads.bind ?_ fun _ => ?_)|split)
        · (repeat' first|exact Reads.pure _|exact Reads.fail|exact Reads.guard _|exact Reads.ofOption _|(refine Reads.bind ?_ fun _ => ?_)|split)
        · exact Reads.row _ _ true (arg true (by simp [looksIn, hc]) _ _ rfl _ (by simp [qb2])) (fun hc => by cases hc) fun _ => by (repeat' first|exact Reads.pure _|exact Reads.fail|exact Reads.guard _|exact Reads.ofOption _|(refine Reads.bind ?_ fun _ => ?_)|split)
        · (repeat' first|exact Reads.pure _|exact Reads.fail|exact Reads.guard _|exact Reads.ofOption _|(refine Reads.bind ?_ fun _ => ?_)|split)
      · (repeat' first|exact Reads.pure _|exact Reads.fail|exact Reads.guard _|exact Reads.ofOption _|(refine Reads.bind ?_ fun _ => ?_)|split)
  | _ => first | (cases h0; done) | exact Reads.fail

/-! ### what is made -/
/-- makes one object at most, looks at none -/
def Makes {α : Type} (m : AM α) : Prop := ∀ h v h', m.run h = some (v, h') → ∀ g : Hp, g.next = h.next → ∃ g', m.run g = some (v, g') ∧
  ((h' = h ∧ g' = g) ∨ ∃ b, h' = ⟨h.obj.set h.next (some ⟨0, 0, b⟩), h.next + 1⟩ ∧ g' = ⟨g.obj.set g.next (some ⟨0, 0, b⟩), g.next + 1⟩)

theorem Makes.reads {m : AM α} (r : Reads [] m) : Makes m := fun h v h' e g _ => by
  obtain ⟨rfl, k⟩ := r h v h' e
  exact ⟨g, k g (fun c id hm => by cases hm), .inl ⟨rfl, rfl⟩⟩
theorem Makes.bind {m : AM α} {f : α → AM β} (r : Reads [] m) (b : ∀ x, Makes (f x)) : Makes (m >>= f) := fun h v h' e g hg => by
  obtain ⟨x, h1, e1, e2⟩ := bind_some e
  obtain ⟨rfl, k⟩ := r _ _ _ e1
  obtain ⟨g', k1, k2⟩ := b x _ _ _ e2 g hg
  refine ⟨g', ?_, k2⟩
  rw [run_bind, k g (fun c id hm => by cases hm)]
  exact k1
theorem Makes.alloc (b : Body) (f : Nat → α) : Makes (do let id ← AM.halloc b; Pure.pure (f id)) := fun h v h' e g hg => by
  obtain ⟨id, h1, e1, e2⟩ := bind_some e
  obtain ⟨rfl, rfl⟩ := qcq e1
  obtain ⟨rfl, rfl⟩ := qab e2
  exact ⟨_, by rw [run_bind]; simp only [AM.halloc]; rw [hg]; rfl, .inr ⟨b, rfl, by rw [hg]⟩⟩

/-- AN OPERATION OF CLASS 1 MAKES ONE OBJECT AT MOST -/
theorem aop_makes {o : Oper} (h1 : qa5 o.op = 1) (ρ : Operand → AV) : Makes (aop P pol call fn o ρ) := by
  obtain ⟨dst, op, ty, pos, after, gd⟩ := o
  cases op with
  | alloc t => exact Makes.bind (Reads.zero _) fun _ => Makes.alloc _ _
  | box t x => exact Makes.bind (Reads.guard _) fun _ => Makes.alloc _ _
  | makeMap t r =>
    cases r with
    | none => exact Makes.alloc _ _
    | some _ => exact Makes.reads Reads.fail
  | makeSlice t l c =>
    simp only [aop]
    split
    · exact Makes.bind (Reads.elem _) fun _ => Makes.bind (Reads.sz _) fun _ => Makes.bind (Reads.bytes _) fun _ => Makes.bind (Reads.zero _) fun _ => Makes.bind (Reads.guard _) fun _ => Makes.alloc _ _
    · exact Makes.reads Reads.fail
  | buildSlice t len parts =>
    simp only [aop]
    refine Makes.bind (Reads.buildSlice _ _ _) fun x => ?_
    split
    · exact Makes.alloc _ _
    · exact Makes.reads (Reads.pure _)
  | call c =>
    simp only [qa5] at h1
    split at h1 <;> cases h1
  | _ => cases h1

/-! ### only the operands count -/
theorem aop_congr {ρ ρ' : Operand → AV} (o : Oper) (h : ∀ x ∈ o.op.operands, ρ x = ρ' x) : aop P pol call fn o ρ = aop P pol call fn o ρ' := by
  obtain ⟨dst, op, ty, pos, after, gd⟩ := o
  have pairs : ∀ ps : Array (Nat × Operand), (∀ x ∈ ps.map (·.2), ρ x = ρ' x) →
      (ps.toList.map fun (i, x) => (i, ρ x)) = (ps.toList.map fun (i, x) => (i, ρ' x)) := fun ps hp =>
    List.map_congr_left fun p hm => by
      obtain ⟨i, x⟩ := p
      simp only [hp x (Array.mem_map.2 ⟨(i, x), by simpa using hm, rfl⟩)]
  have many : ∀ xs : Array Operand, (∀ x ∈ xs, ρ x = ρ' x) → xs.toList.map ρ = xs.toList.map ρ' := fun xs hp =>
    List.map_congr_left fun x hm => hp x (by simpa using hm)
  have opt : ∀ x : Option Operand, (∀ y, x = some y → ρ y = ρ' y) → x.map ρ = x.map ρ' := fun x hp => by
    cases x with
    | none => rfl
    | some y => simp [hp y rfl]
  cases op <;> simp only [Op.operands] at h <;> simp only [aop]
  case build t ps => rw [pairs ps fun x hx => h x (by simpa using hx)]
  case buildSlice t n ps => rw [pairs ps fun x hx => h x (by simpa using hx)]
  case makeFunc f first captured =>
    cases f with
    | func f => simp only; rw [many first fun x hx => h x (by simp [hx]), many captured fun x hx => h x (by simp [hx])]
    | _ => rfl
  case call c =>
    cases hc : c.callee with
    | value f => simp only; rw [h f (by simp [Call.operands, hc]), many c.args fun x hx => h x (by simp [Call.operands, hx])]
    | builtin b => simp only; rw [many c.args fun x hx => h x (by simp [Call.operands, hx])]
    | invoke r n => rfl
  case makeMap t r => cases r <;> rfl
  case slice t x lo hi mx => rw [h x (by simp), opt lo fun y hy => h y (by simp [hy]), opt hi fun y hy => h y (by simp [hy]), opt mx fun y hy => h y (by simp [hy])]
  all_goals (first | rfl | (simp_all; done))
end
end Go.Am
namespace Go.Am
open Go AM

/-! ### what comes ahead -/
theorem testBit_edge {acc : List Nat} {e : Edge} {j : Nat} (h : Nat.testBit (edgeMask acc e) j = true) : Region.binds .any e = true ∧ (e.on = j ∨ Nat.testBit (acc.getD e.on 0) j = true) := by
  unfold edgeMask at h
  cases hb : Region.binds .any e with
  | false => rw [hb] at h; simp at h
  | true =>
    rw [hb] at h
    simp only [cond_true] at h
    change Nat.testBit (2 ^ e.on ||| acc.getD e.on 0) j = true at h
    rw [Nat.testBit_or, Bool.or_eq_true, Nat.testBit_two_pow] at h
    rcases h with h | h
    · exact ⟨rfl, .inl (by simpa using h)⟩
    · exact ⟨rfl, .inr h⟩

theorem testBit_mask {acc : List Nat} {o : Oper} {j : Nat} (h : Nat.testBit (maskOf acc o) j = true) : ∃ e ∈ o.after, Region.binds .any e = true ∧ (e.on = j ∨ Nat.testBit (acc.getD e.on 0) j = true) := by
  have key : ∀ (l : List Edge) (s : Nat), Nat.testBit (l.foldl (fun s e => Nat.lor s (edgeMask acc e)) s) j = true → Nat.testBit s j = true ∨ ∃ e ∈ l, Nat.testBit (edgeMask acc e) j = true := by
    intro l
    induction l with
    | nil => exact fun s h => .inl h
    | cons e r ih =>
      intro s h
      rcases ih _ h with h1 | ⟨e', h1, h2⟩
      · change Nat.testBit (s ||| edgeMask acc e) j = true at h1
        rw [Nat.testBit_or, Bool.or_eq_true] at h1
        rcases h1 with h1 | h1
        · exact .inl h1
        · exact .inr ⟨e, List.mem_cons_self, h1⟩
      · exact .inr ⟨e', List.mem_cons_of_mem _ h1, h2⟩
  rcases key _ _ h with h1 | ⟨e, h1, h2⟩
  · simp at h1
  · exact ⟨e, by simpa using h1, testBit_edge h2⟩

def masksFrom (acc : List Nat) (ops : List Oper) : List Nat := ops.foldl (fun acc o => acc ++ [maskOf acc o]) acc

theorem masksFrom_take : ∀ (ops : List Oper) (acc : List Nat), (masksFrom acc ops).take acc.length = acc
  | [], acc => by simp [masksFrom]
  | o :: r, acc => by
    have h := masksFrom_take r (acc ++ [maskOf acc o])
    have h2 := congrArg (List.take acc.length) h
    rw [List.take_take] at h2
    simp only [List.length_append, List.length_singleton, List.take_left'] at h2
    rw [Nat.min_eq_left (by omega)] at h2
    exact h2

theorem masksFrom_at : ∀ (ops : List Oper) (acc : List Nat) (i : Nat) (o : Oper), ops[i]? = some o →
    (masksFrom acc ops).getD (acc.length + i) 0 = maskOf ((masksFrom acc ops).take (acc.length + i)) o
  | [], _, _, _, h => by simp at h
  | x :: r, acc, i, o, h => by
    cases i with
    | zero =>
      simp only [List.getElem?_cons_zero, Option.some.injEq] at h
      subst h
      rw [Nat.add_zero, masksFrom_take (x :: r) acc]
      have h := masksFrom_take r (acc ++ [maskOf acc x])
      change (masksFrom (acc ++ [maskOf acc x]) r).getD acc.length 0 = _
      have h2 : ((masksFrom (acc ++ [maskOf acc x]) r).take (acc ++ [maskOf acc x]).length)[acc.length]? = some (maskOf acc x) := by rw [h]; simp
      rw [List.getElem?_take] at h2
      split at h2
      · rw [List.getD_eq_getElem?_getD, h2]; rfl
      · cases h2
    | succ i =>
      simp only [List.getElem?_cons_succ] at h
      have := masksFrom_at r (acc ++ [maskOf acc x]) i o h
      simp only [List.length_append, List.length_singleton] at this
      rw [show acc.length + (i + 1) = acc.length + 1 + i by omega]
      exact this

theorem ahead_spec {L : List Oper} {j i : Nat} {o : Oper} (ho : L[i]? = some o) (h : ahead (masks L) j i = true) :
    ∃ e ∈ o.after, Region.binds .any e = true ∧ (e.on = j ∨ (e.on < i ∧ ahead (masks L) j e.on = true)) := by
  unfold ahead at h
  have h1 := masksFrom_at L [] i o ho
  simp only [List.length_nil, Nat.zero_add] at h1
  change Nat.testBit ((masksFrom [] L).getD i 0) j = true at h
  rw [h1] at h
  obtain ⟨e, h2, h3, h4⟩ := testBit_mask h
  refine ⟨e, h2, h3, ?_⟩
  rcases h4 with h4 | h4
  · exact .inl h4
  · rw [List.getD_eq_getElem?_getD, List.getElem?_take] at h4
    split at h4
    · rename_i hlt
      refine .inr ⟨hlt, ?_⟩
      unfold ahead
      rw [List.getD_eq_getElem?_getD]
      exact h4
    · simp at h4

/-- what is closed under 'after' is closed under 'ahead' -/
theorem ahead_closed {L : List Oper} {S : Nat → Prop} (hS : ∀ i o, L[i]? = some o → S i → ∀ e ∈ o.after, Region.binds .any e = true → S e.on) {j : Nat} : ∀ (i : Nat),
    (∀ o, L[i]? = some o → ∀ e ∈ o.after, Region.binds .any e = true → S e.on) → (∃ o, L[i]? = some o) → ahead (masks L) j i = true → S j := by
  intro i
  induction i using Nat.strongRecOn with
  | _ i ih =>
    rintro hi ⟨o, ho⟩ h
    obtain ⟨e, h1, h2, h3⟩ := ahead_spec ho h
    rcases h3 with rfl | ⟨h3, h4⟩
    · exact hi o ho e h1 h2
    · have hlt : e.on < L.length := by have := (List.getElem?_eq_some_iff.1 ho).1; omega
      exact ih e.on h3 (fun o' ho' => hS _ _ ho' (hi o ho e h1 h2)) ⟨_, List.getElem?_eq_getElem hlt⟩ h4

/-! ### what the order says -/
theorem inList_iff (t : Nat) (l : List Nat) : inList t l = true ↔ t ∈ l := by
  induction l with
  | nil => simp [inList]
  | cons u r ih => simp only [inList, Bool.or_eq_true, Nat.beq_eq, ih, List.mem_cons]; exact ⟨fun h => h.elim (fun e => .inl e.symm) .inr, fun h => h.elim (fun e => .inl e.symm) .inr⟩
theorem dstIn_false {o : Oper} {l : List Nat} (h : dstIn o l = false) {d : Nat} (hd : o.dst = some d) : d ∉ l := by
  unfold dstIn at h
  rw [hd] at h
  intro hm
  rw [← inList_iff] at hm
  simp only at h
  rw [h] at hm; cases hm

structure Stands (L : List Oper) (ms l : List Nat) : Prop where
  all : ∀ i, i < L.length → i ∈ l
  pair : ∀ (p q i j : Nat) (a b : Oper), p < q → l[p]? = some i → l[q]? = some j → L[i]? = some a → L[j]? = some b →
    i ≠ j ∧ ahead ms j i = false ∧ (ahead ms i j = true ∨ qa5 a.op = 0 ∨ qa5 b.op = 1) ∧
    (∀ d, b.dst = some d → d ∉ looksAt L a) ∧ (∀ d, b.dst = some d → a.dst ≠ some d) ∧ (∀ d, a.dst = some d → d ∈ looksAt L b → ahead ms i j = true)
  closed : ∀ (p i : Nat) (o : Oper), l[p]? = some i → L[i]? = some o → ∀ e ∈ o.after, Region.binds .any e = true → ∃ q, q < p ∧ l[q]? = some e.on

theorem stands_pair {L : List Oper} {ms : List Nat} : ∀ (l : List Nat), standsFrom L ms l = true → ∀ (p q i j : Nat), p < q → l[p]? = some i → l[q]? = some j →
    mayStand L ms i j = true ∧ ahead ms j i = false ∧ tidy L ms i j = true ∧ Nat.beq i j = false
  | [], _, p, q, i, j, _, hp, _ => by simp at hp
  | x :: r, h, p, q, i, j, hlt, hp, hq => by
    simp only [standsFrom, Bool.and_eq_true, List.all_eq_true] at h
    cases q with
    | zero => omega
    | succ q =>
      simp only [List.getElem?_cons_succ] at hq
      cases p with
      | zero =>
        simp only [List.getElem?_cons_zero, Option.some.injEq] at hp
        subst hp
        have := h.1 j (List.mem_of_getElem? hq)
        simp only [Bool.not_eq_true'] at this
        exact ⟨this.1.1.1, this.1.1.2, this.1.2, this.2⟩
      | succ p =>
        simp only [List.getElem?_cons_succ] at hp
        exact stands_pair r h.2 p q i j (by omega) hp hq

theorem closed_spec {L : List Oper} : ∀ (l done : List Nat), closedFrom L done l = true → ∀ (p i : Nat) (o : Oper), l[p]? = some i → L[i]? = some o → ∀ e ∈ o.after, Region.binds .any e = true →
    e.on ∈ done ∨ ∃ q, q < p ∧ l[q]? = some e.on
  | [], _, _, p, i, o, hp, _ => by simp at hp
  | x :: r, done, h, p, i, o, hp, ho => fun e he hb => by
    simp only [closedFrom, Bool.and_eq_true] at h
    cases p with
    | zero =>
      simp only [List.getElem?_cons_zero, Option.some.injEq] at hp
      subst hp
      have h1 := h.1
      rw [ho] at h1
      simp only [List.all_eq_true] at h1
      have := h1 e (by simpa using he)
      rw [hb] at this
      exact .inl ((inList_iff _ _).1 (by simpa using this))
    | succ p =>
      simp only [List.getElem?_cons_succ] at hp
      rcases closed_spec r (x :: done) h.2 p i o hp ho e he hb with h1 | ⟨q, h1, h2⟩
      · rcases List.mem_cons.1 h1 with h1 | h1
        · exact .inr ⟨0, by omega, by simp [h1]⟩
        · exact .inl h1
      · exact .inr ⟨q + 1, by omega, by simpa using h2⟩

theorem orderOf_spec {L : List Oper} {l : List Nat} (h : orderOf L = some l) : Stands L (masks L) l := by
  unfold orderOf at h
  simp only at h
  generalize canon L (masks L) = l' at h
  cases hc : (((List.range L.length).all fun i => inList i l') && standsFrom L (masks L) l' && closedFrom L [] l') with
  | false => rw [hc] at h; cases h
  | true =>
    rw [hc] at h
    cases h
    simp only [Bool.and_eq_true, List.all_eq_true] at hc
    obtain ⟨⟨h1, h2⟩, h3⟩ := hc
    refine ⟨fun i hi => (inList_iff _ _).1 (h1 i (List.mem_range.2 hi)), fun p q i j a b hlt hp hq ha hb => ?_, fun p i o hp ho e he hbd => ?_⟩
    · obtain ⟨m1, m2, m3, m4⟩ := stands_pair l h2 p q i j hlt hp hq
      have hne : i ≠ j := fun e => by subst e; simp at m4
      refine ⟨hne, m2, ?_, ?_⟩
      · unfold mayStand clsAt at m1
        rw [ha, hb] at m1
        simp only [Bool.or_eq_true] at m1
        rcases m1 with m1 | m1
        · exact .inl m1
        · split at m1
          · exact .inr (.inl ‹_›)
          · exact .inr (.inr ‹_›)
          · cases m1
      · unfold tidy at m3
        rw [ha, hb] at m3
        simp only [Bool.and_eq_true, Bool.not_eq_true', Bool.or_eq_true] at m3
        obtain ⟨⟨t1, t2⟩, t3⟩ := m3
        refine ⟨fun d hd => dstIn_false t1 hd, fun d hd hd' => ?_, fun d hd hm => ?_⟩
        · exact dstIn_false t2 hd (by rw [hd']; simp)
        · rcases t3 with t3 | t3
          · exact absurd hm (dstIn_false t3 hd)
          · exact t3
    · rcases closed_spec l [] h3 p i o hp ho e he hbd with h4 | h4
      · cases h4
      · exact h4

/-! ### a run, step for step -/
def SameSign (c : Bool) (id : Nat) (h h2 : Hp) : Prop := ∃ o o2, h.get id = some o ∧ h2.get id = some o2 ∧ signOf c o = signOf c o2

theorem astamps_some : ∀ (l : List (Bool × Nat)) {h h' : Hp} {r : List (List Nat)}, (astamps l).run h = some (r, h') → h' = h ∧ r = l.map (fun x => ((h.get x.2).map (signOf x.1)).getD []) ∧ ∀ x ∈ l, ∃ o, h.get x.2 = some o := by
  intro l
  induction l with
  | nil => intro h h' r e; obtain ⟨rfl, rfl⟩ := qab e; exact ⟨rfl, rfl, fun _ hx => by cases hx⟩
  | cons x l ih =>
    intro h h' r e
    obtain ⟨c, id⟩ := x
    obtain ⟨o, h1, e1, e2⟩ := bind_some e
    obtain ⟨ho, rfl⟩ := hget_some e1
    obtain ⟨r', h2, e3, e4⟩ := bind_some e2
    obtain ⟨rfl, rfl, k⟩ := ih e3
    obtain ⟨rfl, rfl⟩ := qab e4
    refine ⟨rfl, by simp [ho], fun x hx => ?_⟩
    rcases List.mem_cons.1 hx with rfl | hx
    · exact ⟨o, ho⟩
    · exact k x hx

theorem astamps_same {l : List (Bool × Nat)} {h h1 h2 h3 : Hp} {r r' : List (List Nat)} (e : (astamps l).run h = some (r, h1)) (e' : (astamps l).run h2 = some (r', h3)) (hr : r = r') :
    ∀ c id, (c, id) ∈ l → SameSign c id h h2 := by
  obtain ⟨_, rfl, k⟩ := astamps_some l e
  obtain ⟨_, rfl, k'⟩ := astamps_some l e'
  intro c id hm
  obtain ⟨o, ho⟩ := k _ hm
  obtain ⟨o', ho'⟩ := k' _ hm
  have := List.map_inj_left.1 hr (c, id) hm
  simp only [ho, ho', Option.map_some, Option.getD_some] at this
  exact ⟨o, o', ho, ho', this⟩

theorem awanted_reads (L : List Oper) (T : qag) (o : Oper) : Reads [] (awanted L T o) := by unfold awanted; (repeat' first|exact Reads.pure _|exact Reads.fail|exact Reads.guard _|exact Reads.ofOption _|(refine Reads.bind ?_ fun _ => ?_)|split)

structure Tr (P : Program) (pol : Pol) (call : qa6) (fn : FuncId) (nt : Nat) (L : List Oper) (ms l : List Nat) (seen : List (Nat × List (Bool × Nat))) (T0 : qag) (h0 : Hp) (T' : qag) (h' : Hp)
    (Ts : Nat → qag) (hs : Nat → Hp) (vs : Nat → AV) (bs : Nat → Bool) : Prop where
  T0 : Ts 0 = T0
  h0 : hs 0 = h0
  Tn : Ts l.length = T'
  hn : hs l.length = h'
  step : ∀ p i, l[p]? = some i → ∃ o, L[i]? = some o ∧ (awanted L (Ts p) o).run (hs p) = some (bs p, hs p) ∧ Ts (p + 1) = qa2? nt (Ts p) o.dst (vs p) ∧
    (bs p = false → hs (p + 1) = hs p ∧ vs p = .tuple []) ∧ (bs p = true → (aop P pol call fn o (qaj (Ts p))).run (hs p) = some (vs p, hs (p + 1)))
  stay0 : ∀ p i o, l[p]? = some i → L[i]? = some o → bs p = true → qa5 o.op ≠ 0 → qa5 o.op ≠ 1 → ∀ s ∈ seen, ahead ms s.1 i = false → ∀ c id, (c, id) ∈ s.2 → SameSign c id (hs p) (hs (p + 1))
  stay : ∀ p i o q j oj, l[p]? = some i → L[i]? = some o → bs p = true → qa5 o.op ≠ 0 → qa5 o.op ≠ 1 → q < p → l[q]? = some j → L[j]? = some oj → bs q = true → qa5 oj.op = 0 → ahead ms j i = false →
    ∀ c id, (c, id) ∈ qbr (qaj (Ts q)) oj → SameSign c id (hs p) (hs (p + 1))

def conz {α : Type} (x : α) (f : Nat → α) : Nat → α
  | 0 => x
  | p + 1 => f p

theorem trace_of {P : Program} {pol : Pol} {call : qa6} {fn : FuncId} {nt : Nat} {L : List Oper} {ms : List Nat} {T' : qag} {h' : Hp} : ∀ (l : List Nat) (seen : List (Nat × List (Bool × Nat))) (T : qag) (h : Hp),
    (aopsD P pol call fn nt L ms l seen T).run h = some (T', h') → ∃ Ts hs vs bs, Tr P pol call fn nt L ms l seen T h T' h' Ts hs vs bs := by
  intro l
  induction l with
  | nil =>
    intro seen T h e
    obtain ⟨rfl, rfl⟩ := qab e
    exact ⟨fun _ => T', fun _ => h', fun _ => .undef, fun _ => false, rfl, rfl, rfl, rfl, fun p i hp => by simp at hp, fun p i o hp => by simp at hp, fun p i o q j oj hp => by simp at hp⟩
  | cons i rest ih =>
    intro seen T h e
    simp only [aopsD] at e
    cases ho : L[i]? with
    | none => rw [ho] at e; cases e
    | some o =>
      rw [ho] at e
      dsimp only at e
      obtain ⟨b, h1, e1, e2⟩ := bind_some e
      obtain ⟨hh, _⟩ := awanted_reads L T o _ _ _ e1
      subst hh
      -- what the rest gives
      have fin : ∀ (seen1 : List (Nat × List (Bool × Nat))) (v : AV) (h2 : Hp), (aopsD P pol call fn nt L ms rest seen1 (qa2? nt T o.dst v)).run h2 = some (T', h') →
          (b = false → h2 = h1 ∧ v = .tuple []) → (b = true → (aop P pol call fn o (qaj T)).run h1 = some (v, h2)) → (∀ s ∈ seen, s ∈ seen1) → (b = true → qa5 o.op = 0 → (i, qbr (qaj T) o) ∈ seen1) →
          (b = true → qa5 o.op ≠ 0 → qa5 o.op ≠ 1 → ∀ s ∈ seen, ahead ms s.1 i = false → ∀ c id, (c, id) ∈ s.2 → SameSign c id h1 h2) →
          ∃ Ts hs vs bs, Tr P pol call fn nt L ms (i :: rest) seen T h1 T' h' Ts hs vs bs := by
        intro seen1 v h2 er hb0 hb1 hsub hin hst
        obtain ⟨Ts, hs, vs, bs, t⟩ := ih seen1 _ h2 er
        refine ⟨conz T Ts, conz h1 hs, conz v vs, conz b bs, rfl, rfl, t.Tn, t.hn, fun p k hp => ?_, fun p k ok hp hk hb hc0 hc1 s hs hah c id hm => ?_, fun p k ok q j oj hp hk hb hc0 hc1 hlt hq hj hbq hcj hah c id hm => ?_⟩
        · cases p with
          | zero =>
            simp only [List.getElem?_cons_zero, Option.some.injEq] at hp
            subst hp
            exact ⟨o, ho, e1, t.T0, fun h => ⟨t.h0.trans (hb0 h).1, (hb0 h).2⟩, fun h => by rw [show conz h1 hs 1 = h2 from t.h0]; exact hb1 h⟩
          | succ p => exact t.step p k (by simpa using hp)
        · cases p with
          | zero =>
            simp only [List.getElem?_cons_zero, Option.some.injEq] at hp
            subst hp
            rw [ho] at hk; cases hk
            have := hst hb hc0 hc1 s hs hah c id hm
            rw [show conz h1 _ (0 + 1) = h2 from t.h0]
            exact this
          | succ p => exact t.stay0 p k ok (by simpa using hp) hk hb hc0 hc1 s (hsub s hs) hah c id hm
        · cases p with
          | zero => omega
          | succ p =>
            cases q with
            | zero =>
              simp only [List.getElem?_cons_zero, Option.some.injEq] at hq
              subst hq
              rw [ho] at hj; cases hj
              exact t.stay0 p k ok (by simpa using hp) hk hb hc0 hc1 _ (hin hbq hcj) hah c id hm
            | succ q => exact t.stay p k ok q j oj (by simpa using hp) hk hb hc0 hc1 (by omega) (by simpa using hq) hj hbq hcj hah c id hm
      cases b with
      | false => exact fin seen (.tuple []) h1 e2 (fun _ => ⟨rfl, rfl⟩) (fun h => by cases h) (fun _ h => h) (fun h => by cases h) (fun h => by cases h)
      | true =>
        dsimp only at e2
        split at e2
        · rename_i hc
          obtain ⟨v, h2, e3, e4⟩ := bind_some e2
          exact fin _ v h2 e4 (fun h => by cases h) (fun _ => e3) (fun s h => List.mem_cons_of_mem _ h) (fun _ _ => List.mem_cons_self) (fun _ h => absurd hc h)
        · rename_i hc
          obtain ⟨v, h2, e3, e4⟩ := bind_some e2
          exact fin _ v h2 e4 (fun h => by cases h) (fun _ => e3) (fun s h => h) (fun _ h => by rw [hc] at h; cases h) (fun _ _ h => absurd hc h)
        · rename_i hc0 hc1
          obtain ⟨b1, h2, e3, e4⟩ := bind_some e2
          obtain ⟨v, h3, e5, e6⟩ := bind_some e4
          obtain ⟨b2, h4, e7, e8⟩ := bind_some e6
          obtain ⟨_, h5, e9, e10⟩ := bind_some e8
          obtain ⟨hg, rfl⟩ := qap e9
          obtain ⟨rfl, _⟩ := astamps_some _ e3
          obtain ⟨rfl, _⟩ := astamps_some _ e7
          refine fin _ v _ e10 (fun h => by cases h) (fun _ => e5) (fun s h => h) (fun _ h => absurd h hc0) (fun _ _ _ s hs hah c id hm => ?_)
          refine astamps_same e3 e7 (by simpa using hg) c id (List.mem_flatMap.2 ⟨s, List.mem_filter.2 ⟨hs, by rw [hah]; rfl⟩, hm⟩)
end Go.Am
namespace Go.Am
open Go AM

theorem sign_alike {c : Bool} {o o2 : AObj} (hs : o.stamp = o2.stamp → o = o2) (e : signOf c o = signOf c o2) : Alike c o o2 := by
  unfold signOf at e
  cases c with
  | true =>
    simp only at e
    exact .inl (hs (by simpa using e)).symm
  | false =>
    cases h1 : o.body with
    | row e1 c1 f1 =>
      cases h2 : o2.body with
      | row e2 c2 f2 =>
        rw [h1, h2] at e
        simp only [List.cons.injEq, and_true] at e
        obtain ⟨q1, rfl, q3⟩ := e
        exact .inr ⟨rfl, q1.symm, e1, c1, f1, c2, f2, h1, h2, q3⟩
      | _ => rw [h1, h2] at e; simp at e
    | _ =>
      cases h2 : o2.body with
      | row e2 c2 f2 => rw [h1, h2] at e; simp at e
      | _ => rw [h1, h2] at e; exact .inl (hs (by simpa using e)).symm

theorem awanted_congr {L : List Oper} {T T' : qag} {o : Oper} (h : ∀ t ∈ looksAt L o, qay T t = qay T' t) : awanted L T o = awanted L T' o := by
  unfold awanted
  split
  · rfl
  · rename_i j want hg
    cases hd : (L[j]?).bind (·.dst) with
    | none => rfl
    | some t =>
      have : t ∈ looksAt L o := by
        unfold looksAt
        rw [hg]
        simp only [hd]
        exact List.mem_append_right _ (by simp)
      dsimp only
      rw [h t this]

theorem aop_looks {P : Program} {pol : Pol} {call : qa6} {fn : FuncId} {L : List Oper} {T T' : qag} {o : Oper} (h : ∀ t ∈ looksAt L o, qay T t = qay T' t) :
    aop P pol call fn o (qaj T) = aop P pol call fn o (qaj T') := aop_congr o fun x hx => by
  cases x with
  | tmp t =>
    refine h t (List.mem_append_left _ (List.mem_filterMap.2 ⟨.tmp t, by simpa using hx, rfl⟩))
  | _ => rfl

section
variable {P : Program} {pol : Pol} {call : qa6} {fn : FuncId} {nt : Nat} {ops : Array Oper} {l : List Nat} {T0 T' : qag} {h0 h' : Hp} {Ts : Nat → qag} {hs : Nat → Hp} {vs : Nat → AV} {bs : Nat → Bool}

/-- where the taking of a region's operations stands -/
structure Inw (nt : Nat) (L : List Oper) (l : List Nat) (T0 : qag) (hs : Nat → Hp) (vs : Nat → AV) (bs : Nat → Bool) (S : Nat → Prop) (k : Nat) (T : qag) (g : Hp) (μ : Nat → Nat) (a : Act) (w : World) : Prop where
  kn : k ≤ l.length
  sr : SR g μ w
  tr : TR g μ w nt T a.tmps
  t1 : ∀ p i o d, l[p]? = some i → L[i]? = some o → S i → o.dst = some d → d < nt → qay T d = vs p
  t2 : ∀ d : Nat, (∀ (p i : Nat) (o : Oper), l[p]? = some i → L[i]? = some o → S i → o.dst = some d → ¬ d < nt) → qay T d = qay T0 d
  k1 : ∀ p i o, l[p]? = some i → L[i]? = some o → bs p = true → qa5 o.op ≠ 0 → p < k → S i
  k2 : ∀ p i o, l[p]? = some i → L[i]? = some o → bs p = true → qa5 o.op ≠ 0 → qa5 o.op ≠ 1 → k ≤ p → ¬ S i
  k3 : ∀ id o, (hs k).get id = some o → g.get id = some o
  k4 : ∀ p i o, l[p]? = some i → L[i]? = some o → bs p = true → qa5 o.op = 1 → k ≤ p → S i → ∀ b, hs (p + 1) = ⟨(hs p).obj.set (hs p).next (some ⟨0, 0, b⟩), (hs p).next + 1⟩ → g.get (hs p).next = some ⟨0, 0, b⟩
  k5 : ∀ id o, g.get id = some o → (hs k).get id = some o ∨ ∃ p i op, l[p]? = some i ∧ L[i]? = some op ∧ bs p = true ∧ qa5 op.op = 1 ∧ k ≤ p ∧ S i ∧ id = (hs p).next ∧ (hs (p + 1)).get id = some o

variable (t : Tr P pol call fn nt ops.toList (masks ops.toList) l [] T0 h0 T' h' Ts hs vs bs) (st : Stands ops.toList (masks ops.toList) l) (F : Fresh h0 h')
include t

theorem Tr.at {p : Nat} (hp : p < l.length) : ∃ i o, l[p]? = some i ∧ ops.toList[i]? = some o := by
  obtain ⟨o, ho, _⟩ := t.step p _ (List.getElem?_eq_getElem hp)
  exact ⟨_, o, List.getElem?_eq_getElem hp, ho⟩

theorem Tr.dom1 {p : Nat} (hp : p < l.length) : Dom (hs p) (hs (p + 1)) := by
  obtain ⟨o, ho, h1, h2, h3, h4⟩ := t.step p _ (List.getElem?_eq_getElem hp)
  cases hb : bs p with
  | false => rw [(h3 hb).1]; exact Dom.refl _
  | true => exact AM.dom _ (h4 hb)

theorem Tr.dom {p : Nat} : ∀ {q : Nat}, p ≤ q → q ≤ l.length → Dom (hs p) (hs q) := by
  intro q
  induction q with
  | zero => intro h _; rw [show p = 0 by omega]; exact Dom.refl _
  | succ q ih =>
    intro h hn
    by_cases e : p = q + 1
    · rw [e]; exact Dom.refl _
    · exact (ih (by omega) (by omega)).trans (t.dom1 (by omega))

include F
theorem Tr.fresh {p q : Nat} (h : p ≤ q) (hn : q ≤ l.length) : Fresh (hs p) (hs q) := by
  have d0 := t.dom (p := 0) (q := p) (Nat.zero_le _) (by omega)
  have d1 := t.dom (p := q) (q := l.length) hn (Nat.le_refl _)
  rw [t.h0] at d0
  rw [t.hn] at d1
  exact (F.right d0).left d1.next

theorem Tr.below {q id : Nat} {o : AObj} (hq : q ≤ l.length) (h : (hs q).get id = some o) (h1 : h0.next ≤ id) (h2 : id < h'.next) : id < (hs q).next := by
  have d0 := t.dom (p := 0) (q := q) (Nat.zero_le _) hq
  rw [t.h0] at d0
  rcases d0.dom id o h with ⟨o', ho'⟩ | ⟨_, h3⟩
  · rw [F id h1 h2] at ho'; cases ho'
  · exact h3

omit F in
theorem Tr.op {p i : Nat} {o : Oper} (hp : l[p]? = some i) (ho : ops.toList[i]? = some o) (hb : bs p = true) : (aop P pol call fn o (qaj (Ts p))).run (hs p) = some (vs p, hs (p + 1)) := by
  obtain ⟨o', ho', _, _, _, h4⟩ := t.step p i hp
  rw [ho] at ho'; cases ho'
  exact h4 hb

omit F in
theorem Tr.zero {p i : Nat} {o : Oper} (hp : l[p]? = some i) (ho : ops.toList[i]? = some o) (hb : bs p = true) (hc : qa5 o.op = 0) : hs (p + 1) = hs p :=
  (aop_reads hc _ _ _ _ (t.op hp ho hb)).1
omit F in
theorem Tr.one {p i : Nat} {o : Oper} (hp : l[p]? = some i) (ho : ops.toList[i]? = some o) (hb : bs p = true) (hc : qa5 o.op = 1) :
    hs (p + 1) = hs p ∨ ∃ b, hs (p + 1) = ⟨(hs p).obj.set (hs p).next (some ⟨0, 0, b⟩), (hs p).next + 1⟩ := by
  obtain ⟨_, _, h⟩ := aop_makes hc _ _ _ _ (t.op hp ho hb) (hs p) rfl
  rcases h with ⟨h, _⟩ | ⟨b, h, _⟩
  · exact .inl h
  · exact .inr ⟨b, h⟩

omit F in
/-- what the run of a first part has made lies in the heap -/
theorem Inw.upTo {S : Nat → Prop} {k : Nat} {T : qag} {g : Hp} {μ : Nat → Nat} {a : Act} {w : World} (v : Inw nt ops.toList l T0 hs vs bs S k T g μ a w) : ∀ {q : Nat}, k ≤ q → q ≤ l.length →
    (∀ r j oj, k ≤ r → r < q → l[r]? = some j → ops.toList[j]? = some oj → bs r = true → qa5 oj.op ≠ 0 → qa5 oj.op = 1 ∧ S j) → ∀ id o, (hs q).get id = some o → g.get id = some o := by
  intro q
  induction q with
  | zero => intro h _ _ id o ho; exact v.k3 id o (by rw [show k = 0 by omega]; exact ho)
  | succ q ih =>
    intro h hn hall id o ho
    by_cases e : k = q + 1
    · exact v.k3 id o (by rw [e]; exact ho)
    · have ih' := ih (by omega) (by omega) (fun r j oj h1 h2 => hall r j oj h1 (by omega))
      obtain ⟨i, oi, hi, hoi⟩ := t.at (p := q) (by omega)
      obtain ⟨o', ho', _, _, h3, _⟩ := t.step q i hi
      rw [hoi] at ho'; cases ho'
      cases hb : bs q with
      | false => rw [(h3 hb).1] at ho; exact ih' id o ho
      | true =>
        by_cases hc : qa5 oi.op = 0
        · rw [t.zero hi hoi hb hc] at ho; exact ih' id o ho
        · obtain ⟨hc1, hS⟩ := hall q i oi (by omega) (by omega) hi hoi hb hc
          rcases t.one hi hoi hb hc1 with h5 | ⟨b, h5⟩
          · rw [h5] at ho; exact ih' id o ho
          · have k4 := v.k4 q i oi hi hoi hb hc1 (by omega) hS b h5
            rw [h5] at ho
            change ((hs q).obj.set _ _).get id = _ at ho
            rw [Tm.get_set] at ho
            split at ho
            · rename_i e; subst e; cases ho; exact k4
            · exact ih' id o ho

include st
omit F in
theorem Inw.same {S : Nat → Prop} {k : Nat} {T : qag} {g : Hp} {μ : Nat → Nat} {a : Act} {w : World} (v : Inw nt ops.toList l T0 hs vs bs S k T g μ a w) {p i : Nat} {o : Oper} (hp : l[p]? = some i) (ho : ops.toList[i]? = some o)
    (hnS : ¬ S i) (hah : ∀ j, ahead (masks ops.toList) j i = true → S j) : ∀ u ∈ looksAt ops.toList o, qay T u = qay (Ts p) u := by
  have hpn := (List.getElem?_eq_some_iff.1 hp).1
  have key : ∀ q, q ≤ l.length → ∀ u, (∃ r j oj, r < q ∧ l[r]? = some j ∧ ops.toList[j]? = some oj ∧ oj.dst = some u ∧ u < nt ∧ qay (Ts q) u = vs r) ∨
      ((∀ r j oj, r < q → l[r]? = some j → ops.toList[j]? = some oj → oj.dst = some u → ¬ u < nt) ∧ qay (Ts q) u = qay T0 u) := by
    intro q
    induction q with
    | zero => intro _ u; exact .inr ⟨fun r j oj h => by omega, by rw [t.T0]⟩
    | succ q ih =>
      intro hn u
      obtain ⟨j, oj, hj, hoj⟩ := t.at (p := q) (by omega)
      obtain ⟨o', ho', _, h2, _, _⟩ := t.step q j hj
      rw [hoj] at ho'; cases ho'
      have ih' := ih (by omega) u
      by_cases hd : oj.dst = some u ∧ u < nt
      · refine .inl ⟨q, j, oj, by omega, hj, hoj, hd.1, hd.2, ?_⟩
        rw [h2, hd.1]
        simp only [qa2?]
        rw [tget_tput, if_pos ⟨hd.2, rfl⟩]
      · have heq : qay (Ts (q + 1)) u = qay (Ts q) u := by
          rw [h2]
          cases hdst : oj.dst with
          | none => rfl
          | some d =>
            simp only [qa2?]
            rw [tget_tput, if_neg]
            rintro ⟨h5, rfl⟩
            exact hd ⟨hdst, h5⟩
        rcases ih' with ⟨r, j', oj', r1, r2, r3, r4, r5, r6⟩ | ⟨r1, r2⟩
        · exact .inl ⟨r, j', oj', by omega, r2, r3, r4, r5, by rw [heq]; exact r6⟩
        · refine .inr ⟨fun r j' oj' g1 g2 g3 g4 g5 => ?_, by rw [heq]; exact r2⟩
          by_cases e : r = q
          · rw [e, hj] at g2; cases g2
            rw [hoj] at g3; cases g3
            exact hd ⟨g4, g5⟩
          · exact r1 r j' oj' (by omega) g2 g3 g4 g5
  intro u hu
  rcases key p (by omega) u with ⟨r, j, oj, r1, r2, r3, r4, r5, r6⟩ | ⟨r1, r2⟩
  · have := (st.pair r p j i oj o r1 r2 hp r3 ho).2.2.2.2.2 u r4 hu
    rw [r6]
    exact v.t1 r j oj u r2 r3 (hah j this) r4 r5
  · rw [r2]
    refine v.t2 u (fun r j oj h1 h2 h3 h4 h5 => ?_)
    rcases Nat.lt_trichotomy r p with hlt | heq | hgt
    · exact r1 r j oj hlt h1 h2 h4 h5
    · subst heq
      rw [hp] at h1; cases h1
      exact hnS h3
    · exact (st.pair p r i j o oj hgt hp h1 ho h2).2.2.2.1 u h4 hu

include F
omit st in
/-- the numbers that an operation hands out are free, in whatever order -/
theorem Inw.free {S : Nat → Prop} {k : Nat} {T : qag} {g : Hp} {μ : Nat → Nat} {a : Act} {w : World} (v : Inw nt ops.toList l T0 hs vs bs S k T g μ a w) {p i : Nat} {o : Oper} (hp : l[p]? = some i) (_ho : ops.toList[i]? = some o)
    (hnS : ¬ S i) (hk : k ≤ p) : ∀ id, (hs p).next ≤ id → id < (hs (p + 1)).next → g.get id = none := by
  have hpn := (List.getElem?_eq_some_iff.1 hp).1
  intro id h1 h2
  have d0 := (t.dom (p := 0) (q := p) (Nat.zero_le _) (by omega)).next
  have d1 := (t.dom (p := p + 1) (q := l.length) (by omega) (Nat.le_refl _)).next
  rw [t.h0] at d0
  rw [t.hn] at d1
  cases hg : g.get id with
  | none => rfl
  | some ob =>
    exfalso
    rcases v.k5 id ob hg with h3 | ⟨r, j, oj, r1, r2, r3, r4, r5, r6, r7, r8⟩
    · have := t.below F v.kn h3 (by omega) (by omega)
      have := (t.dom hk (by omega)).next
      omega
    · have hrn := (List.getElem?_eq_some_iff.1 r1).1
      rcases Nat.lt_trichotomy r p with hlt | heq | hgt
      · have := t.below F (q := r + 1) (by omega) r8 (by omega) (by omega)
        have := (t.dom (p := r + 1) (q := p) (by omega) (by omega)).next
        omega
      · subst heq
        rw [hp] at r1; cases r1
        exact hnS r6
      · have := (t.dom (p := p + 1) (q := r) (by omega) (by omega)).next
        omega
end
end Go.Am
namespace Go.Am
open Go AM

section
variable {P : Program} {pol : Pol} {call : qa6} {fn : FuncId} {nt : Nat} {ops : Array Oper} {l : List Nat} {T0 T' : qag} {h0 h' : Hp} {Ts : Nat → qag} {hs : Nat → Hp} {vs : Nat → AV} {bs : Nat → Bool}

theorem Inw.put {S S' : Nat → Prop} {k k' : Nat} {T : qag} {g g' : Hp} {μ μ' : Nat → Nat} {a : Act} {w w' : World} (st : Stands ops.toList (masks ops.toList) l)
    (v : Inw nt ops.toList l T0 hs vs bs S k T g μ a w) {p i : Nat} {o : Oper} (hp : l[p]? = some i) (ho : ops.toList[i]? = some o) (hS' : ∀ j, S' j ↔ S j ∨ j = i)
    {x : Value} (s' : SR g' μ' w') (stp : Stp g μ w g' μ' w') (hx : VR g' μ' w' (vs p) x) (kn : k' ≤ l.length)
    (k1 : ∀ p i o, l[p]? = some i → ops.toList[i]? = some o → bs p = true → qa5 o.op ≠ 0 → p < k' → S' i)
    (k2 : ∀ p i o, l[p]? = some i → ops.toList[i]? = some o → bs p = true → qa5 o.op ≠ 0 → qa5 o.op ≠ 1 → k' ≤ p → ¬ S' i)
    (k3 : ∀ id o, (hs k').get id = some o → g'.get id = some o)
    (k4 : ∀ p i o, l[p]? = some i → ops.toList[i]? = some o → bs p = true → qa5 o.op = 1 → k' ≤ p → S' i → ∀ b, hs (p + 1) = ⟨(hs p).obj.set (hs p).next (some ⟨0, 0, b⟩), (hs p).next + 1⟩ → g'.get (hs p).next = some ⟨0, 0, b⟩)
    (k5 : ∀ id o, g'.get id = some o → (hs k').get id = some o ∨ ∃ p i op, l[p]? = some i ∧ ops.toList[i]? = some op ∧ bs p = true ∧ qa5 op.op = 1 ∧ k' ≤ p ∧ S' i ∧ id = (hs p).next ∧ (hs (p + 1)).get id = some o) :
    Inw nt ops.toList l T0 hs vs bs S' k' (qa2? nt T o.dst (vs p)) g' μ' (a.put o.dst x) w' := by
  have hget : ∀ d, qay (qa2? nt T o.dst (vs p)) d = if o.dst = some d ∧ d < nt then vs p else qay T d := by
    intro d
    cases hd : o.dst with
    | none => simp [qa2?]
    | some e =>
      simp only [qa2?]
      rw [tget_tput]
      by_cases h : e < nt ∧ d = e
      · rw [if_pos h, if_pos ⟨by rw [h.2], h.2 ▸ h.1⟩]
      · rw [if_neg h, if_neg]
        rintro ⟨h1, h2⟩
        cases h1
        exact h ⟨h2, rfl⟩
  refine ⟨kn, s', (v.tr.mono stp).put? o.dst hx, fun q j oj d hq hj hSj hd hlt => ?_, fun d hall => ?_, k1, k2, k3, k4, k5⟩
  · rw [hget]
    rcases Nat.lt_trichotomy q p with h | h | h
    · rw [if_neg]
      · refine v.t1 q j oj d hq hj (((hS' j).1 hSj).resolve_right ?_) hd hlt
        exact (st.pair q p j i oj o h hq hp hj ho).1
      · rintro ⟨h1, _⟩
        exact (st.pair q p j i oj o h hq hp hj ho).2.2.2.2.1 d h1 hd
    · subst h
      rw [hp] at hq; cases hq
      rw [ho] at hj; cases hj
      rw [if_pos ⟨hd, hlt⟩]
    · rw [if_neg]
      · refine v.t1 q j oj d hq hj (((hS' j).1 hSj).resolve_right ?_) hd hlt
        exact fun e => (st.pair p q i j o oj h hp hq ho hj).1 e.symm
      · rintro ⟨h1, _⟩
        exact (st.pair p q i j o oj h hp hq ho hj).2.2.2.2.1 d hd h1
  · rw [hget, if_neg]
    · exact v.t2 d (fun q j oj hq hj hSj => hall q j oj hq hj ((hS' j).2 (.inl hSj)))
    · rintro ⟨h1, h2⟩
      exact hall p i o hp ho ((hS' i).2 (.inr rfl)) h1 h2

theorem SR.nextIs {h : Hp} {μ : Nat → Nat} {w : World} (s : SR h μ w) (n : Nat) : SR ⟨h.obj, n⟩ μ w ∧ Stp h μ w ⟨h.obj, n⟩ μ w := s.ext (fun _ => rfl)

/-- ONE OPERATION, IN WHATEVER PLACE -/
theorem Inw.step (hcall : CallOk P call) (ro : Option Nat) (t : Tr P pol call fn nt ops.toList (masks ops.toList) l [] T0 h0 T' h' Ts hs vs bs) (st : Stands ops.toList (masks ops.toList) l) (F : Fresh h0 h')
    {S S' : Nat → Prop} {k : Nat} {T : qag} {g : Hp} {μ : Nat → Nat} {a : Act} {w : World}
    (v : Inw nt ops.toList l T0 hs vs bs S k T g μ a w) {p i : Nat} {o : Oper} (hp : l[p]? = some i) (ho : ops.toList[i]? = some o) (hnS : ¬ S i) (hah : ∀ j, ahead (masks ops.toList) j i = true → S j)
    (hcl : ∀ i' j, S i' → ahead (masks ops.toList) j i' = true → S j) (hS' : ∀ j, S' j ↔ S j ∨ j = i) {Q : Exit → Act → World → Prop} {K : Act → World → Prop}
    (hK : ∀ k' T1 g' μ' a' w', Inw nt ops.toList l T0 hs vs bs S' k' T1 g' μ' a' w' → Stp g μ w g' μ' w' → a'.defers = a.defers → K a' w') : wpOpIn (fen ro) 0 P ops Q i K a w := by
  have hpn := (List.getElem?_eq_some_iff.1 hp).1
  have hsame := v.same t st hp ho hnS hah
  obtain ⟨o', ho', haw, hT, hno, hyes⟩ := t.step p i hp
  rw [ho] at ho'; cases ho'
  have hwant : Region.wanted o (yielded ops a.tmps) = bs p := by
    have h1 := (awanted_reads ops.toList (Ts p) o _ _ _ haw).2 g (fun c id hm => by cases hm)
    rw [← awanted_congr hsame] at h1
    exact (awanted_sim v.tr o h1).2
  have uniq : ∀ {q : Nat}, l[q]? = some i → q = p := fun {q} hq => by
    rcases Nat.lt_trichotomy q p with h | h | h
    · exact absurd rfl (st.pair q p i i o o h hq hp ho ho).1
    · exact h
    · exact absurd rfl (st.pair p q i i o o h hp hq ho ho).1
  have hS1 : ∀ {j}, S j → S' j := fun h => (hS' _).2 (.inl h)
  have other : ∀ {q j}, l[q]? = some j → q ≠ p → S' j → S j := fun {q j} hq hne h => ((hS' j).1 h).resolve_right (fun e => hne (uniq (e ▸ hq)))
  unfold wpOpIn
  rw [show ops[i]? = some o by rw [← Array.getElem?_toList]; exact ho]
  dsimp only
  rw [hwant]
  cases hb : bs p with
  | false =>
    simp only [Bool.false_eq_true, if_false]
    obtain ⟨hh, hv⟩ := hno hb
    refine ⟨fun _ _ => trivial, hK k _ g μ _ w (v.put st hp ho hS' v.sr (Stp.refl _ _ _) (x := Go.undef) (by rw [hv]; exact VR_undef) v.kn (fun q j oj h1 h2 h3 h4 h5 => hS1 (v.k1 q j oj h1 h2 h3 h4 h5))
      (fun q j oj h1 h2 h3 h4 h5 h6 h7 => v.k2 q j oj h1 h2 h3 h4 h5 h6 (other h1 (fun e => by rw [e, hb] at h3; cases h3) h7)) v.k3
      (fun q j oj h1 h2 h3 h4 h5 h6 b h7 => v.k4 q j oj h1 h2 h3 h4 h5 (other h1 (fun e => by rw [e, hb] at h3; cases h3) h6) b h7)
      (fun id ob h1 => (v.k5 id ob h1).elim .inl fun ⟨q, j, oj, r1, r2, r3, r4, r5, r6, r7⟩ => .inr ⟨q, j, oj, r1, r2, r3, r4, r5, hS1 r6, r7⟩)) (Stp.refl _ _ _) (put_defers _ _ _)⟩
  | true =>
    simp only [if_true]
    have hrun := hyes hb
    have hcongr : aop P pol call fn o (qaj (Ts p)) = aop P pol call fn o (qaj T) := (aop_looks hsame).symm
    -- the call of the machine, whatever the heap that it starts from
    have go : ∀ (g1 : Hp) (n : Nat), (aop P pol call fn o (qaj (Ts p))).run ⟨g.obj, n⟩ = some (vs p, g1) → Fresh ⟨g.obj, n⟩ g1 →
        (∀ x μ' w', SR g1 μ' w' → Stp g μ w g1 μ' w' → VR g1 μ' w' (vs p) x → K (a.put o.dst x) w') → o.wpIn (fen ro) 0 P a w K Q := by
      intro g1 n hr hF hk
      obtain ⟨s1, s2⟩ := v.sr.nextIs n
      rw [hcongr] at hr
      refine Oper.wpIn_mono (fun a' w' hn => ?_) (aop_wp hcall ro s1 (v.tr.mono s2).eval hr hF Q)
      obtain ⟨μ', x, q1, q2, q3, rfl⟩ := hn
      exact hk x μ' w' q1 (s2.trans q2) q3
    by_cases hc0 : qa5 o.op = 0
    · -- it reads
      have rds := aop_reads (P := P) (pol := pol) (call := call) (fn := fn) hc0 (qaj (Ts p)) _ _ _ hrun
      have like : Like (qbr (qaj (Ts p)) o) (hs p) g := by
        intro c id hm o1 ho1
        by_cases hk : k ≤ p
        · have up := v.upTo t hk (by omega) (fun r j oj h1 h2 h3 h4 h5 h6 => by
            have hS : S j := by
              rcases (st.pair r p j i oj o h2 h3 hp h4 ho).2.2.1 with h | h | h
              · exact hah j h
              · exact absurd h h6
              · rw [hc0] at h; cases h
            refine ⟨?_, hS⟩
            by_cases hc : qa5 oj.op = 1
            · exact hc
            · exact absurd hS (v.k2 r j oj h3 h4 h5 h6 hc h1))
          exact ⟨o1, up id o1 ho1, Alike.refl _ _⟩
        · have chain : ∀ q, p ≤ q → q ≤ k → ∃ o2, (hs q).get id = some o2 ∧ Alike c o1 o2 := by
            intro q
            induction q with
            | zero => intro h _; exact ⟨o1, by rw [show (0 : Nat) = p by omega]; exact ho1, Alike.refl _ _⟩
            | succ q ih =>
              intro h hqk
              by_cases e : p = q + 1
              · exact ⟨o1, by rw [← e]; exact ho1, Alike.refl _ _⟩
              · obtain ⟨o2, h2, hal⟩ := ih (by omega) (by omega)
                have hqn : q < l.length := by have := v.kn; omega
                obtain ⟨j, oj, hj, hoj⟩ := t.at hqn
                obtain ⟨oj', hoj', _, _, h3, _⟩ := t.step q j hj
                rw [hoj] at hoj'; cases hoj'
                cases hbq : bs q with
                | false => rw [(h3 hbq).1]; exact ⟨o2, h2, hal⟩
                | true =>
                  by_cases hcq : qa5 oj.op = 0
                  · rw [t.zero hj hoj hbq hcq]; exact ⟨o2, h2, hal⟩
                  · by_cases hcq1 : qa5 oj.op = 1
                    · rcases t.one hj hoj hbq hcq1 with h5 | ⟨b, h5⟩
                      · rw [h5]; exact ⟨o2, h2, hal⟩
                      · refine ⟨o2, ?_, hal⟩
                        have hf := t.fresh F (p := q) (q := q + 1) (by omega) (by omega)
                        have hne : id ≠ (hs q).next := fun e => by
                          have := hf (hs q).next (Nat.le_refl _) (by rw [h5]; exact Nat.lt_succ_self _)
                          rw [← e, h2] at this; cases this
                        rw [h5]
                        show ((hs q).obj.set _ _).get id = _
                        rw [Tm.get_set, if_neg hne]; exact h2
                    · have hpq : p < q := by
                        rcases Nat.lt_or_ge p q with h | h
                        · exact h
                        · have : p = q := by omega
                          subst this
                          rw [hp] at hj; cases hj
                          rw [ho] at hoj; cases hoj
                          exact absurd hc0 hcq
                      have hna : ahead (masks ops.toList) i j = false := by
                        cases hna : ahead (masks ops.toList) i j with
                        | false => rfl
                        | true => exact absurd (hcl j i (v.k1 q j oj hj hoj hbq hcq (by omega)) hna) hnS
                      obtain ⟨oa, ob, q1, q2, q3⟩ := t.stay q j oj p i o hj hoj hbq hcq hcq1 hpq hp ho hb hc0 hna c id hm
                      rw [h2] at q1; cases q1
                      have hfr := ((aop P pol call fn oj (qaj (Ts q))).good.2 _ _ _ (t.op hj hoj hbq) (t.fresh F (by omega) (by omega))).1
                      exact ⟨ob, q2, hal.trans (sign_alike (hfr id _ _ h2 q2).2.2 q3)⟩
          obtain ⟨o2, h2, hal⟩ := chain k (by omega) (Nat.le_refl _)
          exact ⟨o2, v.k3 id o2 h2, hal⟩
      refine go g g.next (rds.2 g like) (fun id h1 h2 => absurd h2 (Nat.not_lt.2 h1)) (fun x μ' w' s' stp hx => ?_)
      have ne : ∀ {q j oj}, l[q]? = some j → ops.toList[j]? = some oj → qa5 oj.op ≠ 0 → q ≠ p := fun {q j oj} h1 h2 h3 e => by
        subst e
        rw [hp] at h1; cases h1
        rw [ho] at h2; cases h2
        exact h3 hc0
      exact hK k _ g μ' _ w' (v.put st hp ho hS' s' stp hx v.kn (fun q j oj h1 h2 h3 h4 h5 => hS1 (v.k1 q j oj h1 h2 h3 h4 h5))
        (fun q j oj h1 h2 h3 h4 h5 h6 h7 => v.k2 q j oj h1 h2 h3 h4 h5 h6 (other h1 (ne h1 h2 h4) h7)) v.k3
        (fun q j oj h1 h2 h3 h4 h5 h6 b h7 => v.k4 q j oj h1 h2 h3 h4 h5 (other h1 (ne h1 h2 (by rw [h4]; decide)) h6) b h7)
        (fun id ob h1 => (v.k5 id ob h1).elim .inl fun ⟨q, j, oj, r1, r2, r3, r4, r5, r6, r7⟩ => .inr ⟨q, j, oj, r1, r2, r3, r4, r5, hS1 r6, r7⟩)) stp (put_defers _ _ _)
    · have hkp : k ≤ p := by
        rcases Nat.lt_or_ge p k with h | h
        · exact absurd (v.k1 p i o hp ho hb hc0 h) hnS
        · exact h
      have hfree := v.free t F hp ho hnS hkp
      by_cases hc1 : qa5 o.op = 1
      · -- it makes
        classical
        obtain ⟨g1, hr1, halt⟩ := aop_makes (P := P) (pol := pol) (call := call) (fn := fn) hc1 (qaj (Ts p)) _ _ _ hrun ⟨g.obj, (hs p).next⟩ rfl
        have hF : Fresh ⟨g.obj, (hs p).next⟩ g1 := by
          intro id h1 h2
          refine hfree id h1 ?_
          rcases halt with ⟨e1, rfl⟩ | ⟨b, e1, rfl⟩
          · rw [e1]; exact h2
          · rw [e1]; exact h2
        have hget : ∀ id, g1.get id = if (∃ b, hs (p + 1) = ⟨(hs p).obj.set (hs p).next (some ⟨0, 0, b⟩), (hs p).next + 1⟩) ∧ id = (hs p).next then (hs (p + 1)).get id else g.get id := by
          intro id
          rcases halt with ⟨e1, rfl⟩ | ⟨b, e1, rfl⟩
          · rw [if_neg]
            rintro ⟨⟨b, h1⟩, _⟩
            rw [e1] at h1
            have := congrArg Hp.next h1
            simp at this
          · show (g.obj.set _ _).get id = _
            rw [Tm.get_set]
            by_cases e : id = (hs p).next
            · rw [if_pos e, if_pos ⟨⟨b, e1⟩, e⟩, e1]
              show _ = ((hs p).obj.set _ _).get id
              rw [Tm.get_set, if_pos e]
            · rw [if_neg e, if_neg (fun h => e h.2)]
        have hnew : ∀ b, hs (p + 1) = ⟨(hs p).obj.set (hs p).next (some ⟨0, 0, b⟩), (hs p).next + 1⟩ → (hs (p + 1)).get (hs p).next = some ⟨0, 0, b⟩ ∧ g.get (hs p).next = none := by
          intro b e
          refine ⟨by rw [e]; show ((hs p).obj.set _ _).get _ = _; rw [Tm.get_set, if_pos rfl], hfree _ (Nat.le_refl _) (by rw [e]; exact Nat.lt_succ_self _)⟩
        have keep : ∀ id ob, g.get id = some ob → g1.get id = some ob := by
          intro id ob h1
          rw [hget, if_neg]
          · exact h1
          · rintro ⟨⟨b, e⟩, rfl⟩
            rw [(hnew b e).2] at h1; cases h1
        refine go g1 (hs p).next hr1 hF (fun x μ' w' s' stp hx => ?_)
        refine hK k _ g1 μ' _ w' (v.put st hp ho hS' s' stp hx v.kn (fun q j oj h1 h2 h3 h4 h5 => hS1 (v.k1 q j oj h1 h2 h3 h4 h5)) (fun q j oj h1 h2 h3 h4 h5 h6 h7 => ?_) (fun id ob h1 => keep id ob (v.k3 id ob h1))
          (fun q j oj h1 h2 h3 h4 h5 h6 b h7 => ?_) (fun id ob h1 => ?_)) stp (put_defers _ _ _)
        · refine v.k2 q j oj h1 h2 h3 h4 h5 h6 (other h1 (fun e => ?_) h7)
          subst e
          rw [hp] at h1; cases h1
          rw [ho] at h2; cases h2
          exact h5 hc1
        · by_cases e : q = p
          · subst e
            rw [hget, if_pos ⟨⟨b, h7⟩, rfl⟩]
            exact (hnew b h7).1
          · exact keep _ _ (v.k4 q j oj h1 h2 h3 h4 h5 (other h1 e h6) b h7)
        · rw [hget] at h1
          split at h1
          · rename_i hh
            exact .inr ⟨p, i, o, hp, ho, hb, hc1, hkp, (hS' i).2 (.inr rfl), hh.2, h1⟩
          · exact (v.k5 id ob h1).elim .inl fun ⟨q, j, oj, r1, r2, r3, r4, r5, r6, r7⟩ => .inr ⟨q, j, oj, r1, r2, r3, r4, r5, hS1 r6, r7⟩
      · -- it does what it likes
        have mid : ∀ r j oj, k ≤ r → r < p → l[r]? = some j → ops.toList[j]? = some oj → bs r = true → qa5 oj.op ≠ 0 → qa5 oj.op = 1 ∧ S j := fun r j oj h1 h2 h3 h4 h5 h6 => by
          have hS : S j := by
            rcases (st.pair r p j i oj o h2 h3 hp h4 ho).2.2.1 with h | h | h
            · exact hah j h
            · exact absurd h h6
            · exact absurd h hc1
          refine ⟨?_, hS⟩
          by_cases hc : qa5 oj.op = 1
          · exact hc
          · exact absurd hS (v.k2 r j oj h3 h4 h5 h6 hc h1)
        have up := v.upTo t hkp (by omega) mid
        obtain ⟨g1, hr1, hn1, hget⟩ := ((aop P pol call fn o (qaj (Ts p))).good.2 _ _ _ hrun (t.fresh F (by omega) (by omega))).2 ⟨g.obj, (hs p).next⟩ rfl up
        have hF : Fresh ⟨g.obj, (hs p).next⟩ g1 := fun id h1 h2 => hfree id h1 (by rw [← hn1]; exact h2)
        have d1 := t.dom1 hpn
        have din : ∀ id ob, (hs (p + 1)).get id = some ob → ((hs p).get id).isSome = true ∨ (hs p).next ≤ id ∧ id < (hs (p + 1)).next := fun id ob h1 => by
          rcases d1.dom id ob h1 with ⟨o2, h2⟩ | h2
          · exact .inl (by rw [h2]; rfl)
          · exact .inr h2
        refine go g1 (hs p).next hr1 hF (fun x μ' w' s' stp hx => ?_)
        refine hK (p + 1) _ g1 μ' _ w' (v.put st hp ho hS' s' stp hx (by omega) (fun q j oj h1 h2 h3 h4 h5 => ?_) (fun q j oj h1 h2 h3 h4 h5 h6 h7 => v.k2 q j oj h1 h2 h3 h4 h5 (by omega) (other h1 (by omega) h7))
          (fun id ob h1 => by rw [hget, if_pos (din id ob h1)]; exact h1) (fun q j oj h1 h2 h3 h4 h5 h6 b h7 => ?_) (fun id ob h1 => ?_)) stp (put_defers _ _ _)
        · by_cases e : q = p
          · subst e
            rw [hp] at h1; cases h1
            exact (hS' _).2 (.inr rfl)
          · by_cases hq : q < k
            · exact hS1 (v.k1 q j oj h1 h2 h3 h4 hq)
            · exact hS1 (mid q j oj (by omega) (by omega) h1 h2 h3 h4).2
        · have k4 := v.k4 q j oj h1 h2 h3 h4 (by omega) (other h1 (by omega) h6) b h7
          have hqn := (List.getElem?_eq_some_iff.1 h1).1
          have hle := (t.dom (p := p + 1) (q := q) (by omega) (by omega)).next
          rw [hget, if_neg]
          · exact k4
          · rintro (h8 | h8)
            · obtain ⟨ob, hob⟩ := Option.isSome_iff_exists.1 h8
              have hfq := t.fresh F (p := q) (q := q + 1) (by omega) (by omega) (hs q).next (Nat.le_refl _) (by rw [h7]; exact Nat.lt_succ_self _)
              obtain ⟨ob', hob'⟩ := (t.dom (p := p) (q := q) (by omega) (by omega)).pers _ ob hob
              rw [hfq] at hob'; cases hob'
            · omega
        · rw [hget] at h1
          split at h1
          · exact .inl h1
          · rename_i hnc
            rcases v.k5 id ob h1 with h2 | ⟨q, j, oj, r1, r2, r3, r4, r5, r6, r7, r8⟩
            · obtain ⟨ob', hob'⟩ := (t.dom (p := k) (q := p) hkp (by omega)).pers _ ob h2
              exact absurd (.inl (by rw [hob']; rfl)) hnc
            · rcases Nat.lt_trichotomy q p with h | h | h
              · obtain ⟨ob', hob'⟩ := (t.dom (p := q + 1) (q := p) (by omega) (by omega)).pers _ ob r8
                exact absurd (.inl (by rw [hob']; rfl)) hnc
              · subst h
                rw [hp] at r1; cases r1
                exact absurd r6 hnS
              · exact .inr ⟨q, j, oj, r1, r2, r3, r4, by omega, hS1 r6, r7, r8⟩

/-- when all are taken -/
theorem Inw.done (t : Tr P pol call fn nt ops.toList (masks ops.toList) l [] T0 h0 T' h' Ts hs vs bs)
    {S : Nat → Prop} {k : Nat} {T : qag} {g : Hp} {μ μ0 : Nat → Nat} {a : Act} {w w0 : World} {ds : List Deferred} (v : Inw nt ops.toList l T0 hs vs bs S k T g μ a w) (hall : ∀ (p i : Nat), l[p]? = some i → S i)
    (stp : Stp h0 μ0 w0 g μ w) (hd : a.defers = ds) : OpsPost h0 μ0 w0 nt T' h' ds .normal a w := by
  have up := v.upTo t v.kn (Nat.le_refl _) (fun r j oj h1 h2 h3 h4 h5 h6 => by
    have hS := hall r j h3
    refine ⟨?_, hS⟩
    by_cases hc : qa5 oj.op = 1
    · exact hc
    · exact absurd hS (v.k2 r j oj h3 h4 h5 h6 hc h1))
  rw [t.hn] at up
  have hget : ∀ id, h'.get id = g.get id := by
    intro id
    cases hg : g.get id with
    | none =>
      cases hh : h'.get id with
      | none => rfl
      | some ob => rw [up id ob hh] at hg; cases hg
    | some ob =>
      rcases v.k5 id ob hg with h1 | ⟨q, j, oj, r1, _, _, _, _, _, _, r8⟩
      · obtain ⟨o2, h2⟩ := (t.dom (p := k) (q := l.length) v.kn (Nat.le_refl _)).pers _ _ h1
        rw [t.hn] at h2
        have := up id o2 h2
        rw [hg] at this; cases this
        exact h2
      · have hqn := (List.getElem?_eq_some_iff.1 r1).1
        obtain ⟨o2, h2⟩ := (t.dom (p := q + 1) (q := l.length) (by omega) (Nat.le_refl _)).pers _ _ r8
        rw [t.hn] at h2
        have := up id o2 h2
        rw [hg] at this; cases this
        exact h2
  obtain ⟨s1, s2⟩ := v.sr.ext hget
  have hT : ∀ d, qay T' d = qay T d := by
    have key : ∀ q, q ≤ l.length → ∀ u, (∃ r j oj, r < q ∧ l[r]? = some j ∧ ops.toList[j]? = some oj ∧ oj.dst = some u ∧ u < nt ∧ qay (Ts q) u = vs r) ∨
        ((∀ r j oj, r < q → l[r]? = some j → ops.toList[j]? = some oj → oj.dst = some u → ¬ u < nt) ∧ qay (Ts q) u = qay T0 u) := by
      intro q
      induction q with
      | zero => intro _ u; exact .inr ⟨fun r j oj h => by omega, by rw [t.T0]⟩
      | succ q ih =>
        intro hn u
        obtain ⟨j, oj, hj, hoj⟩ := t.at (p := q) (by omega)
        obtain ⟨o', ho', _, h2, _, _⟩ := t.step q j hj
        rw [hoj] at ho'; cases ho'
        have ih' := ih (by omega) u
        by_cases hd : oj.dst = some u ∧ u < nt
        · refine .inl ⟨q, j, oj, by omega, hj, hoj, hd.1, hd.2, ?_⟩
          rw [h2, hd.1]
          simp only [qa2?]
          rw [tget_tput, if_pos ⟨hd.2, rfl⟩]
        · have heq : qay (Ts (q + 1)) u = qay (Ts q) u := by
            rw [h2]
            cases hdst : oj.dst with
            | none => rfl
            | some d =>
              simp only [qa2?]
              rw [tget_tput, if_neg]
              rintro ⟨h5, rfl⟩
              exact hd ⟨hdst, h5⟩
          rcases ih' with ⟨r, j', oj', r1, r2, r3, r4, r5, r6⟩ | ⟨r1, r2⟩
          · exact .inl ⟨r, j', oj', by omega, r2, r3, r4, r5, by rw [heq]; exact r6⟩
          · refine .inr ⟨fun r j' oj' g1 g2 g3 g4 g5 => ?_, by rw [heq]; exact r2⟩
            by_cases e : r = q
            · rw [e, hj] at g2; cases g2
              rw [hoj] at g3; cases g3
              exact hd ⟨g4, g5⟩
            · exact r1 r j' oj' (by omega) g2 g3 g4 g5
    intro u
    have hk := key l.length (Nat.le_refl _) u
    rw [t.Tn] at hk
    rcases hk with ⟨r, j, oj, r1, r2, r3, r4, r5, r6⟩ | ⟨r1, r2⟩
    · rw [r6, v.t1 r j oj u r2 r3 (hall r j r2) r4 r5]
    · rw [r2, v.t2 u (fun q j oj h1 h2 _ h4 => r1 q j oj (List.getElem?_eq_some_iff.1 h1).1 h1 h2 h4)]
  refine ⟨rfl, μ, s1, stp.trans s2, ⟨v.tr.1, fun d => ?_⟩, hd⟩
  rw [hT]
  exact (v.tr.2 d).mono s2

def todo (n : Nat) (listed : Array Bool) : Nat := ((List.range n).filter fun i => !(listed.getD i false)).length

theorem region_ok (hP : ProgOk P) (hcall : CallOk P call) : RegionOk P pol call := by
  intro fn nt ops T T' h h' a w μ ro e s tr F tt
  rw [hP.mixed]
  simp only [Region.schedule, Bool.true_or, if_true]
  simp only [aregion] at e
  cases hl : orderOf ops.toList with
  | none => rw [hl] at e; cases e
  | some l =>
    rw [hl] at e
    dsimp only at e
    have st := orderOf_spec hl
    obtain ⟨Ts, hs, vs, bs, t⟩ := trace_of l [] T h e
    have main : ∀ (fuel : Nat) (listed : Array Bool) (k : Nat) (T1 : qag) (g : Hp) (μ1 : Nat → Nat) (a1 : Act) (w1 : World), listed.size = ops.size → todo ops.size listed ≤ fuel →
        (∀ i o, ops.toList[i]? = some o → listed.getD i false = true → ∀ ed ∈ o.after, Region.binds .any ed = true → listed.getD ed.on false = true) →
        Inw nt ops.toList l T hs vs bs (fun i => listed.getD i false = true) k T1 g μ1 a1 w1 → Stp h μ w g μ1 w1 → a1.defers = a.defers →
        wpAnyIn (fen ro) 0 P .any ops (OpsPost h μ w nt T' h' a.defers) fuel listed a1 w1 := by
      intro fuel
      induction fuel with
      | zero =>
        intro listed k T1 g μ1 a1 w1 hsz htd hcl v stp hd
        have hall : ∀ i, i < ops.size → listed.getD i false = true := by
          intro i hi
          cases hli : listed.getD i false with
          | true => rfl
          | false =>
            have : i ∈ (List.range ops.size).filter fun i => !(listed.getD i false) := List.mem_filter.2 ⟨List.mem_range.2 hi, by rw [hli]; rfl⟩
            have hlen := List.length_pos_of_mem this
            unfold todo at htd
            omega
        refine ⟨?_, v.done t (fun p i hp => ?_) stp hd⟩
        · cases hr : Region.ready .any ops listed with
          | nil => rfl
          | cons j r =>
            have hj : j ∈ Region.ready .any ops listed := by rw [hr]; exact List.mem_cons_self
            obtain ⟨h1, o, ho, _⟩ := mem_ready.1 hj
            have hlt := (Array.getElem?_eq_some_iff.1 ho).1
            have := hall j hlt
            simp only [Array.getD_eq_getD_getElem?] at this h1
            rw [Array.getElem?_eq_getElem (by omega)] at this h1
            simp only [Option.getD_some] at this h1
            rw [h1] at this; cases this
        · obtain ⟨o, ho, _⟩ := t.step p i hp
          have := (List.getElem?_eq_some_iff.1 ho).1
          exact hall i (by simpa using this)
      | succ fuel ih =>
        intro listed k T1 g μ1 a1 w1 hsz htd hcl v stp hd
        have hclosed : ∀ i' j, listed.getD i' false = true → ahead (masks ops.toList) j i' = true → listed.getD j false = true := by
          intro i' j h1 h2
          have hlt : i' < ops.size := by
            rcases Nat.lt_or_ge i' ops.size with h | h
            · exact h
            · simp only [Array.getD_eq_getD_getElem?] at h1
              rw [Array.getElem?_eq_none (by omega)] at h1; cases h1
          exact ahead_closed (S := fun i => listed.getD i false = true) (fun i o ho hi => hcl i o ho hi) i' (fun o ho => hcl i' o ho h1) ⟨_, List.getElem?_eq_getElem (by simpa using hlt)⟩ h2
        refine ⟨fun hr => ?_, fun i hi => ?_⟩
        · -- nothing is ready: all are taken
          refine v.done t ?_ stp hd
          intro p
          induction p using Nat.strongRecOn with
          | _ p ihp =>
            intro i hp
            obtain ⟨o, ho, _⟩ := t.step p i hp
            have hlt := (List.getElem?_eq_some_iff.1 ho).1
            have hlt' : i < ops.size := by simpa using hlt
            show listed.getD i false = true
            cases hli : listed.getD i false with
            | true => rfl
            | false =>
              have : i ∈ Region.ready .any ops listed := by
                refine mem_ready.2 ⟨?_, o, by rw [← Array.getElem?_toList]; exact ho, fun ed hed hb => ?_⟩
                · simp only [Array.getD_eq_getD_getElem?] at hli ⊢
                  rw [Array.getElem?_eq_getElem (by omega)] at hli ⊢
                  exact hli
                · obtain ⟨q, hq, hlq⟩ := st.closed p i o hp ho ed hed hb
                  exact ihp q hq ed.on hlq
              rw [hr] at this; cases this
        · obtain ⟨hun, o, ho, hbefore⟩ := mem_ready.1 hi
          have hlt := (Array.getElem?_eq_some_iff.1 ho).1
          have hoL : ops.toList[i]? = some o := by rw [Array.getElem?_toList]; exact ho
          have hnS : ¬ listed.getD i false = true := by
            intro hc
            simp only [Array.getD_eq_getD_getElem?] at hc hun
            rw [Array.getElem?_eq_getElem (by omega)] at hc hun
            simp only [Option.getD_some] at hc hun
            rw [hun] at hc; cases hc
          obtain ⟨p, hp⟩ := List.getElem?_of_mem (st.all i (by simpa using hlt))
          have hS' : ∀ j, (listed.setIfInBounds i true).getD j false = true ↔ listed.getD j false = true ∨ j = i := by
            intro j
            simp only [Array.getD_eq_getD_getElem?, Array.getElem?_setIfInBounds]
            by_cases e : i = j
            · subst e
              rw [if_pos rfl, if_pos (by omega)]
              simp
            · rw [if_neg e]
              exact ⟨.inl, fun h => h.resolve_right (fun h => e h.symm)⟩
          refine v.step hcall ro t st F hp hoL hnS
            (fun j hj => ahead_closed (S := fun i => listed.getD i false = true) (fun i o ho hi => hcl i o ho hi) i (fun o' ho' ed hed hb => by rw [hoL] at ho'; cases ho'; exact hbefore ed hed hb) ⟨o, hoL⟩ hj)
            hclosed hS' (fun k' T2 g' μ' a' w' v' stp' hd' => ih (listed.setIfInBounds i true) k' T2 g' μ' a' w' (by simpa using hsz) ?_ ?_ v' (stp.trans stp') (hd'.trans hd))
          · -- one less
            have hmem : i ∈ (List.range ops.size).filter fun i => !(listed.getD i false) := List.mem_filter.2 ⟨List.mem_range.2 hlt, by simpa using hnS⟩
            have hle : todo ops.size (listed.setIfInBounds i true) < todo ops.size listed := by
              unfold todo
              have hf : ((List.range ops.size).filter fun j => !((listed.setIfInBounds i true).getD j false)) = ((List.range ops.size).filter fun i => !(listed.getD i false)).filter fun j => !(Nat.beq j i) := by
                rw [List.filter_filter]
                refine List.filter_congr fun j _ => ?_
                have := hS' j
                cases h1 : (listed.setIfInBounds i true).getD j false <;> cases h2 : listed.getD j false <;> cases h3 : Nat.beq j i <;> simp_all
              rw [hf]
              have hn : ∀ (L : List Nat), i ∈ L → (L.filter fun j => !(Nat.beq j i)).length < L.length := by
                intro L
                induction L with
                | nil => intro h; cases h
                | cons x L ihL =>
                  intro h
                  rw [List.filter_cons]
                  by_cases e : x = i
                  · subst e
                    simp only [Nat.beq_refl, Bool.not_true, Bool.false_eq_true, if_false, List.length_cons]
                    exact Nat.lt_succ_of_le (List.length_filter_le _ _)
                  · have hb : Nat.beq x i = false := by
                      cases hq : Nat.beq x i with
                      | false => rfl
                      | true => exact absurd (Nat.eq_of_beq_eq_true hq) e
                    simp only [hb, Bool.not_false, if_true, List.length_cons]
                    have := ihL ((List.mem_cons.1 h).resolve_left (fun h => e h.symm))
                    omega
              exact hn _ hmem
            omega
          · intro j oj hoj hj ed hed hb
            rcases (hS' j).1 hj with h1 | rfl
            · exact (hS' _).2 (.inl (hcl j oj hoj h1 ed hed hb))
            · rw [hoL] at hoj; cases hoj
              exact (hS' _).2 (.inl (hbefore ed hed hb))
    obtain ⟨s1, s2⟩ := s.drawn (w' := { w with drawn := w.drawn + 1 }) rfl rfl rfl rfl
    refine wpAnyIn_sound ops.size tt _ a _ (main ops.size (Array.replicate ops.size false) 0 T h μ a _ (by simp) ?_ ?_ ?_ s2 rfl)
    · unfold todo
      exact Nat.le_trans (List.length_filter_le _ _) (by simp)
    · intro i o _ hi
      exfalso
      simp only [Array.getD_eq_getD_getElem?, Array.getElem?_replicate] at hi
      split at hi <;> cases hi
    · have none : ∀ i, ¬ ((Array.replicate ops.size false).getD i false = true) := by
        intro i hi
        simp only [Array.getD_eq_getD_getElem?, Array.getElem?_replicate] at hi
        split at hi <;> cases hi
      exact ⟨Nat.zero_le _, s1, tr.mono s2, fun p i o d _ _ hS => absurd hS (none i), fun _ _ => rfl, fun p i o _ _ _ _ h => absurd h (Nat.not_lt_zero _), fun p i o _ _ _ _ _ _ hS => none i hS,
        fun id o ho => by rw [t.h0] at ho; exact ho, fun p i o _ _ _ _ _ hS => absurd hS (none i), fun id o ho => .inl (by rw [t.h0]; exact ho)⟩

/-- THE A-MACHINE TELLS THE TRUTH -/
theorem acall_sound {sums : Sums} (hP : ProgOk P) (hs : SumsOk P sums) (n : Nat) : CallOk P (qat P pol sums n) := acall_ok hP hs (fun _ hc => region_ok hP hc) n
end
end Go.Am
namespace Go.Am
open Go AM RowKit

def Hp.none : Hp := ⟨.leaf, 0⟩
theorem Hp.none_get (id : Nat) : Hp.none.get id = Option.none := Tm.get_leaf id

theorem SR.none (μ : Nat → Nat) (w : World) : SR Hp.none μ w := ⟨fun id o h => (by rw [Hp.none_get] at h; cases h), fun i j o o' h => (by rw [Hp.none_get] at h; cases h)⟩

section
variable {P : Program} {pol : Pol} {sums : Sums}

/-- THE WAY IN -/
theorem entry (hP : ProgOk P) (hs : SumsOk P sums) {n : Nat} {f : FuncId} {args : List AV} {v : AV} {h' : Hp} {μ : Nat → Nat} {w : World} {xs : List Value}
    (e : (qat P pol sums (n + 1) (.func (.func f) [] []) args).run Hp.none = some (v, h')) (r : VRs Hp.none μ w args xs) :
    Calls P f xs.toArray w fun en w' => ∃ x μ', en = .returned x ∧ VR h' μ' w' v x ∧ Below w.heap.size w w' := by
  simp only [qat, List.nil_append, List.append_nil] at e
  have hc := acall_sound (pol := pol) hP hs n
  obtain ⟨_, hk⟩ := afunc_calls hc (region_ok hP hc) hs n f e (SR.none μ w) r (fun id _ _ => Hp.none_get id)
  refine callsIn_wide.1 (CallsIn.mono hk fun en w' hg => ?_)
  cases en with
  | returned x =>
    obtain ⟨μ', _, st, hv⟩ := hg
    exact ⟨x, μ', rfl, hv, st.os, st.tape, st.output, st.size, fun k hk => st.old k hk (fun ⟨id, o, ho, _⟩ => by rw [Hp.none_get] at ho; cases ho)⟩
  | panicked _ => exact hg.elim
  | outgrown => exact hg.elim
end

/-! ### runs that end well -/
def Runs {α : Type} (m : AM α) (h : Hp) (Q : α → Hp → Prop) : Prop := h.WF → ∃ a h', m.run h = some (a, h') ∧ Q a h'

theorem Dom.wf {h h' : Hp} (d : Dom h h') (w : h.WF) : h'.WF := fun id o e => by
  rcases d.dom id o e with ⟨o', e'⟩ | ⟨_, e'⟩
  · exact Nat.lt_of_lt_of_le (w id o' e') d.next
  · exact e'
theorem run_wf {α : Type} {m : AM α} {h h' : Hp} {a : α} (e : m.run h = some (a, h')) (w : h.WF) : h'.WF := (m.good.1 h a h' e).wf w
theorem Hp.WF.none : Hp.none.WF := fun id o e => by rw [Hp.none_get] at e; cases e

section
variable {α β : Type} {h : Hp}
theorem Runs.wf {m : AM α} {Q : α → Hp → Prop} (k : h.WF → Runs m h Q) : Runs m h Q := fun w => k w w
theorem Runs.pure {a : α} {Q : α → Hp → Prop} (q : Q a h) : Runs (Pure.pure a : AM α) h Q := fun _ => ⟨a, h, rfl, q⟩
theorem Runs.bind {m : AM α} {f : α → AM β} {Q : β → Hp → Prop} (r : Runs m h fun a h1 => Runs (f a) h1 Q) : Runs (m >>= f) h Q := fun w => by
  obtain ⟨a, h1, e1, r⟩ := r w
  obtain ⟨b, h2, e2, q⟩ := r (run_wf e1 w)
  exact ⟨b, h2, by rw [run_bind, e1]; exact e2, q⟩
theorem Runs.mono {m : AM α} {Q Q' : α → Hp → Prop} (r : Runs m h Q) (k : ∀ a h', Q a h' → Q' a h') : Runs m h Q' := fun w => by
  obtain ⟨a, h1, e, q⟩ := r w
  exact ⟨a, h1, e, k a h1 q⟩
/-- what a run that is known gives -/
theorem Runs.of {m : AM α} {Q : α → Hp → Prop} {a : α} {h' : Hp} (e : m.run h = some (a, h')) (q : Q a h') : Runs m h Q := fun _ => ⟨a, h', e, q⟩
theorem Runs.guard {b : Bool} {Q : Unit → Hp → Prop} (hb : b = true) (q : Q () h) : Runs (AM.guard b) h Q := by
  subst hb; exact fun _ => ⟨(), h, rfl, q⟩
theorem Runs.ofOption {o : Option α} {a : α} {Q : α → Hp → Prop} (ho : o = some a) (q : Q a h) : Runs (AM.ofOption o) h Q := by
  subst ho; exact fun _ => ⟨a, h, rfl, q⟩
theorem Runs.hget {id : Nat} {o : AObj} {Q : AObj → Hp → Prop} (ho : h.get id = some o) (q : Q o h) : Runs (AM.hget id) h Q :=
  fun _ => ⟨o, h, by simp only [AM.hget, ho], q⟩
theorem Runs.hput {id ver : Nat} {b : Body} {o : AObj} {Q : Unit → Hp → Prop} (ho : h.get id = some o) (hv : o.ver ≤ ver) (q : Q () ⟨h.obj.set id (some ⟨ver, o.stamp + 1, b⟩), h.next⟩) : Runs (AM.hput id ver b) h Q :=
  fun _ => ⟨(), _, by simp only [AM.hput, ho]; rw [show Nat.ble o.ver ver = true by simpa using hv]; rfl, q⟩
theorem Runs.halloc {b : Body} {Q : Nat → Hp → Prop} (q : Q h.next ⟨h.obj.set h.next (some ⟨0, 0, b⟩), h.next + 1⟩) : Runs (AM.halloc b) h Q :=
  fun _ => ⟨h.next, _, rfl, q⟩
theorem Runs.row {id ver esz : Nat} {cells : List AV} {fix : Bool} {stamp : Nat} {Q : Nat × List AV × Bool → Hp → Prop} (ho : h.get id = some ⟨ver, stamp, .row esz cells fix⟩) (q : Q (esz, cells, fix) h) : Runs (rowOf id ver) h Q := by
  unfold rowOf
  refine Runs.bind (Runs.hget ho (Runs.bind (Runs.guard (by simp) ?_)))
  exact Runs.pure q
theorem qcz {id ver esz : Nat} {cells : List AV} {fix : Bool} {stamp : Nat} (ho : h.get id = some ⟨ver, stamp, .row esz cells fix⟩) : (rowOf id ver).run h = some ((esz, cells, fix), h) := by
  simp only [rowOf, run_bind, AM.hget, ho]
  simp [AM.guard, run_pure]
  rfl

theorem qbm (T : Tm AObj) (n id : Nat) (o : AObj) : (⟨T.set id (some o), n⟩ : Hp).get id = some o := by
  show (T.set id _).get id = _
  rw [Tm.get_set, if_pos rfl]
theorem get_set_ne (T : Tm AObj) (n : Nat) {id i : Nat} (o : AObj) (e : i ≠ id) : (⟨T.set id (some o), n⟩ : Hp).get i = (⟨T, n⟩ : Hp).get i := by
  show (T.set id _).get i = _
  rw [Tm.get_set, if_neg e]
end

/-! ### heaps that keep what lay in them -/
/-- from a heap on: what lay in it lies there unchanged -/
structure Keep (h h' : Hp) : Prop where
  same : ∀ id o, h.get id = some o → h'.get id = some o
  next : h.next ≤ h'.next
/-- the same, but for some objects -/
structure KeepBut (X : Nat → Prop) (h h' : Hp) : Prop where
  same : ∀ id o, ¬ X id → h.get id = some o → h'.get id = some o
  next : h.next ≤ h'.next

theorem Keep.refl (h : Hp) : Keep h h := ⟨fun _ _ e => e, Nat.le_refl _⟩
theorem Keep.trans {h h1 h2 : Hp} (a : Keep h h1) (b : Keep h1 h2) : Keep h h2 := ⟨fun id o e => b.same id o (a.same id o e), Nat.le_trans a.next b.next⟩
theorem Keep.but {h h' : Hp} (k : Keep h h') (X : Nat → Prop) : KeepBut X h h' := ⟨fun id o _ e => k.same id o e, k.next⟩
theorem KeepBut.refl {X : Nat → Prop} (h : Hp) : KeepBut X h h := (Keep.refl h).but X
theorem KeepBut.trans {X : Nat → Prop} {h h1 h2 : Hp} (a : KeepBut X h h1) (b : KeepBut X h1 h2) : KeepBut X h h2 := ⟨fun id o x e => b.same id o x (a.same id o x e), Nat.le_trans a.next b.next⟩
theorem KeepBut.weaken {X Y : Nat → Prop} {h h' : Hp} (k : KeepBut X h h') (s : ∀ i, X i → Y i) : KeepBut Y h h' := ⟨fun id o x e => k.same id o (fun q => x (s _ q)) e, k.next⟩
/-- what was not there at the start may be written: nothing old has changed -/
theorem KeepBut.keep {X : Nat → Prop} {h0 h1 h : Hp} (a : Keep h0 h1) (k : KeepBut X h1 h) (hX : ∀ id, X id → h0.get id = Option.none) : Keep h0 h :=
  ⟨fun id o e => k.same id o (fun x => by rw [hX id x] at e; cases e) (a.same id o e), Nat.le_trans a.next k.next⟩
theorem KeepBut.all {X : Nat → Prop} {h h' : Hp} (k : KeepBut X h h') (hX : ∀ id, X id → h.get id = Option.none) : Keep h h' := KeepBut.keep (Keep.refl h) k hX
theorem Hp.WF.get {h : Hp} (w : h.WF) {id : Nat} (e : h.next ≤ id) : h.get id = Option.none := by
  cases q : h.get id with
  | none => rfl
  | some o => have := w _ o q; omega
theorem Keep.alloc {h : Hp} (w : h.WF) (b : Body) : Keep h ⟨h.obj.set h.next (some ⟨0, 0, b⟩), h.next + 1⟩ where
  same := fun id o e => by
    show (h.obj.set _ _).get id = _
    rw [Tm.get_set, if_neg (fun q => by have := w id o e; omega)]
    exact e
  next := Nat.le_succ _
theorem KeepBut.put {h : Hp} {id : Nat} (o : AObj) : KeepBut (· = id) h ⟨h.obj.set id (some o), h.next⟩ where
  same := fun i x hi e => by
    show (h.obj.set _ _).get i = _
    rw [Tm.get_set, if_neg hi]
    exact e
  next := Nat.le_refl _

/-- a row lies in a heap -/
def Row (h : Hp) (id ver esz : Nat) (cells : List AV) (fix : Bool) : Prop := ∃ st, h.get id = some ⟨ver, st, .row esz cells fix⟩
def MapAt (h : Hp) (id : Nat) (es : List (AV × AV)) : Prop := ∃ ver st, h.get id = some ⟨ver, st, .map es⟩
theorem Row.keep {h h' : Hp} {id ver esz : Nat} {cells : List AV} {fix : Bool} (r : Row h id ver esz cells fix) (k : Keep h h') : Row h' id ver esz cells fix := by
  obtain ⟨st, e⟩ := r; exact ⟨st, k.same _ _ e⟩
theorem Row.keepBut {X : Nat → Prop} {h h' : Hp} {id ver esz : Nat} {cells : List AV} {fix : Bool} (r : Row h id ver esz cells fix) (k : KeepBut X h h') (n : ¬ X id) : Row h' id ver esz cells fix := by
  obtain ⟨st, e⟩ := r; exact ⟨st, k.same _ _ n e⟩
theorem MapAt.keep {h h' : Hp} {id : Nat} {es : List (AV × AV)} (r : MapAt h id es) (k : Keep h h') : MapAt h' id es := by
  obtain ⟨v, st, e⟩ := r; exact ⟨v, st, k.same _ _ e⟩
theorem MapAt.keepBut {X : Nat → Prop} {h h' : Hp} {id : Nat} {es : List (AV × AV)} (r : MapAt h id es) (k : KeepBut X h h') (n : ¬ X id) : MapAt h' id es := by
  obtain ⟨v, st, e⟩ := r; exact ⟨v, st, k.same _ _ n e⟩
theorem Row.lt {h : Hp} {id ver esz : Nat} {cells : List AV} {fix : Bool} (r : Row h id ver esz cells fix) (w : h.WF) : id < h.next := by
  obtain ⟨st, e⟩ := r; exact w _ _ e
theorem MapAt.lt {h : Hp} {id : Nat} {es : List (AV × AV)} (r : MapAt h id es) (w : h.WF) : id < h.next := by
  obtain ⟨v, st, e⟩ := r; exact w _ _ e
theorem Row.ne_map {h : Hp} {id id' ver esz : Nat} {cells : List AV} {fix : Bool} {es : List (AV × AV)} (r : Row h id ver esz cells fix) (m : MapAt h id' es) : id ≠ id' := by
  rintro rfl
  obtain ⟨st, e⟩ := r; obtain ⟨v, st', e'⟩ := m
  rw [e] at e'; cases e'
end Go.Am
namespace Go.Am
open Go AM

section
variable {P : Program} {pol : Pol} {call : qa6} {fn nt fuel : Nat} {h : Hp} {T : qag} {sums : Sums}

/-- what is owed behind the first half of a sequence, behind a block, behind a round of a loop -/
def KSeq (P : Program) (pol : Pol) (call : qa6) (fn nt fuel : Nat) (b : Code) (Q : Exit × qag → Hp → Prop) : Exit × qag → Hp → Prop := fun x h1 => match x with
  | (.normal, T1) => Runs (qaw P pol call fn nt fuel b T1) h1 Q
  | x => Q x h1
def KBlock (id : Nat) (Q : Exit × qag → Hp → Prop) : Exit × qag → Hp → Prop := fun x h1 => match x with
  | (.exit id', T1) => if id' = id then Q (.normal, T1) h1 else Q (.exit id', T1) h1
  | x => Q x h1
def KLoop (I : Nat → qag → Hp → Prop) (k : Nat) (Q : Exit × qag → Hp → Prop) : Exit × qag → Hp → Prop := fun x h1 => match x with
  | (.normal, T1) => ∃ k', k = k' + 1 ∧ I k' T1 h1
  | x => Q x h1
def KOps (Q : Exit × qag → Hp → Prop) : qag → Hp → Prop := fun T1 h1 => Q (.normal, T1) h1
section
variable {b : Code} {Q : Exit × qag → Hp → Prop} {id id' k : Nat} {I : Nat → qag → Hp → Prop}
theorem K_seq (r : Runs (qaw P pol call fn nt fuel b T) h Q) : KSeq P pol call fn nt fuel b Q (.normal, T) h := r
theorem K_seq_ret (r : Q (.ret, T) h) : KSeq P pol call fn nt fuel b Q (.ret, T) h := r
theorem K_seq_exit (r : Q (.exit id, T) h) : KSeq P pol call fn nt fuel b Q (.exit id, T) h := r
theorem K_block (r : Q (.normal, T) h) : KBlock id Q (.normal, T) h := r
theorem K_block_ret (r : Q (.ret, T) h) : KBlock id Q (.ret, T) h := r
theorem K_block_exit (r : Q (.normal, T) h) : KBlock id Q (.exit id, T) h := by show ite _ _ _; rw [if_pos rfl]; exact r
theorem K_block_other (e : Nat.beq id' id = false) (r : Q (.exit id', T) h) : KBlock id Q (.exit id', T) h := by
  show ite _ _ _
  rw [if_neg (by rintro rfl; simp at e)]; exact r
theorem K_loop (k' : Nat) (e : k = k' + 1) (r : I k' T h) : KLoop I k Q (.normal, T) h := ⟨k', e, r⟩
theorem K_loop_ret (r : Q (.ret, T) h) : KLoop I k Q (.ret, T) h := r
theorem K_loop_exit (r : Q (.exit id, T) h) : KLoop I k Q (.exit id, T) h := r
theorem K_ops (r : Q (.normal, T) h) : KOps Q T h := r
end
theorem R_seq {a b : Code} {Q : Exit × qag → Hp → Prop} (r : Runs (qaw P pol call fn nt fuel a T) h (KSeq P pol call fn nt fuel b Q)) : Runs (qaw P pol call fn nt fuel (.seq a b) T) h Q := by
  simp only [qaw]
  refine Runs.bind (r.mono fun x h1 k => ?_)
  obtain ⟨e, T1⟩ := x
  cases e <;> first | exact k | exact Runs.pure k
theorem R_block {id : Nat} {b : Code} {Q : Exit × qag → Hp → Prop} (r : Runs (qaw P pol call fn nt fuel b T) h (KBlock id Q)) : Runs (qaw P pol call fn nt fuel (.block id b) T) h Q := by
  simp only [qaw]
  refine Runs.bind (r.mono fun x h1 k => ?_)
  obtain ⟨e, T1⟩ := x
  cases e <;> first | exact Runs.pure k | skip
  rename_i id'
  change ite _ _ _ at k
  dsimp only
  by_cases e : id' = id
  · rw [if_pos e] at k; rw [show Nat.beq id' id = true by simpa using e]; exact Runs.pure k
  · rw [if_neg e] at k
    rw [show Nat.beq id' id = false by cases hq : Nat.beq id' id with | false => rfl | true => exact absurd (Nat.eq_of_beq_eq_true hq) e]
    exact Runs.pure k
theorem qa9 {c : Operand} {a b : Code} (v : Bool) {Q : Exit × qag → Hp → Prop} (hc : qaj T c = .bool v) (r1 : v = true → Runs (qaw P pol call fn nt fuel a T) h Q) (r2 : v = false → Runs (qaw P pol call fn nt fuel b T) h Q) :
    Runs (qaw P pol call fn nt fuel (.cond c a b) T) h Q := by
  simp only [qaw, hc]
  cases v
  · exact r2 rfl
  · exact r1 rfl
theorem R_ret {Q : Exit × qag → Hp → Prop} (q : Q (.ret, T) h) : Runs (qaw P pol call fn nt fuel .ret T) h Q := Runs.pure q
theorem R_skip {Q : Exit × qag → Hp → Prop} (q : Q (.normal, T) h) : Runs (qaw P pol call fn nt fuel .skip T) h Q := Runs.pure q
theorem R_exit {id : Nat} {Q : Exit × qag → Hp → Prop} (q : Q (.exit id, T) h) : Runs (qaw P pol call fn nt fuel (.exit id) T) h Q := Runs.pure q
/-- a loop whose rounds count down -/
theorem R_loop {b : Code} {Q : Exit × qag → Hp → Prop} (I : Nat → qag → Hp → Prop) (k : Nat) (hk : k < fuel) (h0 : I k T h)
    (round : ∀ k T h, I k T h → Runs (qaw P pol call fn nt fuel b T) h (KLoop I k Q)) : Runs (qaw P pol call fn nt fuel (.loop b) T) h Q := by
  simp only [qaw]
  have key : ∀ (k n : Nat) (T : qag) (h : Hp), k < n → I k T h → Runs (aloop (qaw P pol call fn nt fuel b) n T) h Q := by
    intro k
    induction k with
    | zero =>
      intro n T h hn hI
      obtain ⟨m, rfl⟩ : ∃ m, n = m + 1 := ⟨n - 1, by omega⟩
      simp only [aloop]
      refine Runs.bind ((round 0 T h hI).mono fun x h1 q => ?_)
      obtain ⟨e, T1⟩ := x
      cases e with
      | normal => obtain ⟨k', e, _⟩ := q; omega
      | _ => exact Runs.pure q
    | succ k ih =>
      intro n T h hn hI
      obtain ⟨m, rfl⟩ : ∃ m, n = m + 1 := ⟨n - 1, by omega⟩
      simp only [aloop]
      refine Runs.bind ((round (k + 1) T h hI).mono fun x h1 q => ?_)
      obtain ⟨e, T1⟩ := x
      cases e with
      | normal =>
        obtain ⟨k', e, hI'⟩ := q
        obtain rfl : k' = k := by omega
        exact ih m T1 h1 (by omega) hI'
      | _ => exact Runs.pure q
  exact key k fuel T h hk h0

/-- what is owed at the end of a function -/
def KFunc (P : Program) (fn' : Func) (Q : AV → Hp → Prop) : Exit × qag → Hp → Prop := fun x h1 => (x.1 = .normal ∨ x.1 = .ret) ∧ Runs (qa8 P fn' x.2) h1 Q
theorem K_func_ret {fn' : Func} {Q : AV → Hp → Prop} (r : Runs (qa8 P fn' T) h Q) : KFunc P fn' Q (.ret, T) h := ⟨.inr rfl, r⟩
theorem K_func_end {fn' : Func} {Q : AV → Hp → Prop} (r : Runs (qa8 P fn' T) h Q) : KFunc P fn' Q (.normal, T) h := ⟨.inl rfl, r⟩
theorem qav {fn' : Func} {t : Tmp} {v : AV} {Q : AV → Hp → Prop} (hr : fn'.results = #[.tmp t]) (hv : qay T t = v) (q : Q v h) : Runs (qa8 P fn' T) h Q := by
  subst hv
  unfold qa8
  rw [hr]
  exact Runs.bind (Runs.bind (Runs.pure (Runs.bind (Runs.pure (Runs.pure (Runs.pure q))))))
theorem R_results0 {fn' : Func} {Q : AV → Hp → Prop} (hr : fn'.results = #[]) (q : Q (.tuple []) h) : Runs (qa8 P fn' T) h Q := by
  unfold qa8
  rw [hr]
  exact Runs.bind (Runs.pure (Runs.pure q))
theorem R_results2 {fn' : Func} {t u : Tmp} {v x : AV} {Q : AV → Hp → Prop} (hr : fn'.results = #[.tmp t, .tmp u]) (hv : qay T t = v) (hx : qay T u = x) (q : Q (.tuple [v, x]) h) : Runs (qa8 P fn' T) h Q := by
  subst hv hx
  unfold qa8
  rw [hr]
  exact Runs.bind (Runs.bind (Runs.pure (Runs.bind (Runs.bind (Runs.pure (Runs.bind (Runs.pure (Runs.pure (Runs.pure (Runs.pure q))))))))))
theorem R_results_cell {fn' : Func} {t : Tmp} {ty : TypeId} {a v : AV} {Q : AV → Hp → Prop} (hr : fn'.results = #[.cell t ty]) (ha : qay T t = a) (hv : (aload P ty a).run h = some (v, h)) (q : Q v h) : Runs (qa8 P fn' T) h Q := by
  subst ha
  unfold qa8
  rw [hr]
  exact Runs.bind (Runs.bind (Runs.of hv (Runs.bind (Runs.pure (Runs.pure (Runs.pure q))))))

theorem qb9 {f : FuncId} {fn' : Func} {c : Code} {first captured args : List AV} {n : Nat} {Q : AV → Hp → Prop} (hs : sums f = none) (hf : P.funcs[f]? = some fn') (hc : fn'.body = some c) (hl : (first ++ args ++ captured).length ≤ fn'.ntmps)
    (r : Runs (qaw P pol (qat P pol sums n) f fn'.ntmps n c (qah fn'.ntmps (first ++ args ++ captured))) h (KFunc P fn' Q)) :
    Runs (qat P pol sums (n + 1) (.func (.func f) first captured) args) h Q := by
  simp only [qat, afunc, hs, hf, hc]
  refine Runs.bind (Runs.guard (by simpa using hl) (Runs.bind (r.mono fun x h1 k => ?_)))
  obtain ⟨e, T1⟩ := x
  obtain ⟨k1, k2⟩ := k
  rcases k1 with k1 | k1
  · simp only at k1; subst k1; exact k2
  · simp only at k1; subst k1; exact k2
theorem R_sum {f : FuncId} {s : List AV → AM AV} {first captured args : List AV} {n : Nat} {Q : AV → Hp → Prop} (hs : sums f = some s) (r : Runs (s (first ++ args ++ captured)) h Q) :
    Runs (qat P pol sums (n + 1) (.func (.func f) first captured) args) h Q := by
  simp only [qat, afunc, hs]
  exact r

theorem qaf {nt : Nat} {args : List AV} {i : Nat} {v : AV} (e : args[i]? = some v) : qay (qah nt args) i = v := by
  obtain ⟨h1, rfl⟩ := List.getElem?_eq_some_iff.1 e
  unfold qah
  rw [List.take_of_length_le (by omega), tget_tempsFrom, if_pos ⟨Nat.zero_le _, by omega⟩]
  simp [List.getD, h1]
end
end Go.Am
namespace Go.Am
open Go AM

/-! ### a region's run, of whatever order -/
structure Rg where
  chk : Bool
  ms : List Nat
  dsts : List (Option Tmp)
abbrev Seen := List (Nat × List (Bool × Nat))

/-- is an operation carried out? -/
def wantedM (R : Rg) (T : qag) (o : Oper) : AM Bool := match o.guard with
  | none => pure true
  | some (j, want) => match (R.dsts[j]?).bind id with
    | none => pure false
    | some t => match qay T t with
      | .bool b => pure (b == want)
      | .undef => AM.fail
      | _ => pure false
theorem wantedM_eq (ops : List Oper) (R : Rg) (hR : R.dsts = ops.map (·.dst)) (T : qag) (o : Oper) : awanted ops T o = wantedM R T o := by
  unfold awanted wantedM
  rw [hR]
  cases o.guard with
  | none => rfl
  | some p =>
    obtain ⟨j, want⟩ := p
    simp only [List.getElem?_map]
    cases ops[j]? <;> rfl

section
variable (P : Program) (pol : Pol) (call : qa6) (fn nt : Nat)
def aopsM (R : Rg) : List (Nat × Oper) → Seen → qag → AM qag
  | [], _, T => pure T
  | (i, o) :: rest, seen, T => do
    let b ← wantedM R T o
    match b with
    | false => aopsM R rest seen (qa2? nt T o.dst (.tuple []))
    | true => match qa5 o.op with
      | 0 => do
        let v ← aop P pol call fn o (qaj T)
        aopsM R rest ((i, qbr (qaj T) o) :: seen) (qa2? nt T o.dst v)
      | 1 => do
        let v ← aop P pol call fn o (qaj T)
        aopsM R rest seen (qa2? nt T o.dst v)
      | _ => match R.chk with
        | false => do
          let v ← aop P pol call fn o (qaj T)
          aopsM R rest seen (qa2? nt T o.dst v)
        | true => do
          let ids := (seen.filter fun s => !(ahead R.ms s.1 i)).flatMap (·.2)
          let before ← astamps ids
          let v ← aop P pol call fn o (qaj T)
          let after ← astamps ids
          AM.guard (before == after)
          aopsM R rest seen (qa2? nt T o.dst v)
end

def number : Nat → List Oper → List (Nat × Oper)
  | _, [] => []
  | k, o :: r => (k, o) :: number (k + 1) r
def qci (ops : List Oper) : List Nat → List (Nat × Oper)
  | [] => []
  | i :: r => match ops[i]? with
    | some o => (i, o) :: qci ops r
    | none => qci ops r

section
variable {P : Program} {pol : Pol} {call : qa6} {fn nt fuel : Nat}

theorem bind_ext {α β : Type} {m m' : AM α} {f g : α → AM β} (e : m = m') (k : ∀ a, f a = g a) : (m >>= f) = (m' >>= g) := by
  subst e
  rw [show f = g from funext k]

theorem aops_M (all : List Oper) : ∀ (pre rest : List Oper) (seen : Seen) (T : qag), all = pre ++ rest →
    aops P pol call fn nt all (List.range' pre.length rest.length) T = aopsM P pol call fn nt ⟨false, [], all.map (·.dst)⟩ (number pre.length rest) seen T
  | pre, [], seen, T, _ => rfl
  | pre, o :: rest, seen, T, e => by
    have ho : all[pre.length]? = some o := by rw [e]; simp
    have ih := fun seen T => aops_M all (pre ++ [o]) rest seen T (by rw [e]; simp)
    simp only [List.length_append, List.length_singleton] at ih
    simp only [List.length_cons, List.range'_succ, aops, ho, number, aopsM]
    refine bind_ext (wantedM_eq all _ rfl T o) fun b => ?_
    cases b with
    | false => exact ih _ _
    | true =>
      dsimp only
      split
      · exact bind_ext rfl fun v => ih _ _
      · exact bind_ext rfl fun v => ih _ _
      · exact bind_ext rfl fun v => ih _ _
theorem aopsD_M (all : List Oper) (ms : List Nat) : ∀ (l : List Nat) (seen : Seen) (T : qag), (∀ i ∈ l, i < all.length) →
    aopsD P pol call fn nt all ms l seen T = aopsM P pol call fn nt ⟨true, ms, all.map (·.dst)⟩ (qci all l) seen T
  | [], seen, T, _ => rfl
  | i :: rest, seen, T, hl => by
    have hi : i < all.length := hl i List.mem_cons_self
    have ho : all[i]? = some all[i] := List.getElem?_eq_getElem hi
    have ih := fun seen T => aopsD_M all ms rest seen T (fun j hj => hl j (List.mem_cons_of_mem _ hj))
    simp only [aopsD, ho, qci, aopsM]
    refine bind_ext (wantedM_eq all _ rfl T _) fun b => ?_
    cases b with
    | false => exact ih _ _
    | true =>
      dsimp only
      generalize qa5 all[i].op = c
      rcases c with _ | _ | c
      · exact bind_ext rfl fun v => ih _ _
      · exact bind_ext rfl fun v => ih _ _
      · exact bind_ext rfl fun b => bind_ext rfl fun v => bind_ext rfl fun a => bind_ext rfl fun _ => ih _ _
end

def SeenOk (h : Hp) (seen : Seen) : Prop := ∀ s ∈ seen, ∀ x ∈ s.2, (h.get x.2).isSome = true
theorem SeenOk.dom {h h' : Hp} {seen : Seen} (s : SeenOk h seen) (d : Dom h h') : SeenOk h' seen := fun a ha x hx => by
  obtain ⟨o, ho⟩ := Option.isSome_iff_exists.1 (s a ha x hx)
  obtain ⟨o', ho'⟩ := d.pers _ _ ho
  rw [ho']; rfl
/-- what was looked at and is not ordered is not touched -/
def Undis (R : Rg) (seen : Seen) (i : Nat) (h h1 : Hp) : Prop := R.chk = true → SeenOk h seen → ∀ s ∈ seen, ahead R.ms s.1 i = true ∨ ∀ x ∈ s.2, h1.get x.2 = h.get x.2
theorem Keep.undis {R : Rg} {seen : Seen} {i : Nat} {h h1 : Hp} (k : Keep h h1) : Undis R seen i h h1 := fun _ s a ha => .inr fun x hx => by
  obtain ⟨o, ho⟩ := Option.isSome_iff_exists.1 (s a ha x hx)
  rw [ho]; exact k.same _ _ ho
theorem Undis.off {R : Rg} {seen : Seen} {i : Nat} {h h1 : Hp} (e : R.chk = false) : Undis R seen i h h1 := fun e' => by rw [e] at e'; cases e'
theorem Undis.ahead {R : Rg} {seen : Seen} {i : Nat} {h h1 : Hp} (e : (seen.all fun s => ahead R.ms s.1 i || s.2.isEmpty) = true) : Undis R seen i h h1 := fun _ _ s hs => by
  have := List.all_eq_true.1 e s hs
  rcases Bool.or_eq_true_iff.1 this with q | q
  · exact .inl q
  · exact .inr fun x hx => by rw [List.isEmpty_iff.1 q] at hx; cases hx

theorem astamps_run {h : Hp} : ∀ (ids : List (Bool × Nat)), (∀ x ∈ ids, (h.get x.2).isSome = true) → ∃ l, (astamps ids).run h = some (l, h) ∧ ∀ h1 : Hp, (∀ x ∈ ids, h1.get x.2 = h.get x.2) → (astamps ids).run h1 = some (l, h1)
  | [], _ => ⟨[], rfl, fun _ _ => rfl⟩
  | (c, id) :: r, hs => by
    obtain ⟨l, h1, h2⟩ := astamps_run r fun x hx => hs x (List.mem_cons_of_mem _ hx)
    obtain ⟨o, ho⟩ := Option.isSome_iff_exists.1 (hs _ List.mem_cons_self)
    refine ⟨signOf c o :: l, ?_, fun h' e => ?_⟩
    · simp only [astamps, run_bind, AM.hget]
      dsimp only at ho
      simp only [ho, h1]
      rfl
    · simp only [astamps, run_bind, AM.hget]
      have e1 := e _ List.mem_cons_self
      dsimp only at ho e1
      simp only [e1, ho, h2 h' fun x hx => e x (List.mem_cons_of_mem _ hx)]
      rfl

section
variable (P : Program) (pol : Pol) (call : qa6) (fn nt : Nat)
/-- the rest of a region ends well -/
def qbq (R : Rg) (rest : List (Nat × Oper)) (seen : Seen) (T : qag) (h : Hp) (Q : qag → Hp → Prop) : Prop :=
  (R.chk = true → SeenOk h seen) → Runs (aopsM P pol call fn nt R rest seen T) h Q
end

section
variable {P : Program} {pol : Pol} {call : qa6} {fn nt fuel : Nat} {h : Hp} {T : qag} {R : Rg} {rest : List (Nat × Oper)} {seen : Seen} {i : Nat} {Q : qag → Hp → Prop}

theorem R_region {id : Nat} {ops : Array Oper} {Q : Exit × qag → Hp → Prop} (r : qbq P pol call fn nt ⟨false, [], ops.toList.map (·.dst)⟩ (number 0 ops.toList) [] T h (KOps Q)) :
    Runs (qaw P pol call fn nt fuel (.region id ops false) T) h Q := by
  simp only [qaw, aregion]
  rw [List.range_eq_range']
  have := aops_M (P := P) (pol := pol) (call := call) (fn := fn) (nt := nt) ops.toList [] ops.toList [] T rfl
  simp only [List.length_nil] at this
  rw [this]
  exact Runs.bind ((r fun e => by cases e).mono fun T1 h1 k => Runs.pure k)
theorem R_drawn {id : Nat} {ops : Array Oper} {Q : Exit × qag → Hp → Prop} (l ms : List Nat) (hl : orderOf ops.toList = some l) (hm : masks ops.toList = ms) (hlt : (l.all fun i => Nat.blt i ops.toList.length) = true)
    (r : qbq P pol call fn nt ⟨true, ms, ops.toList.map (·.dst)⟩ (qci ops.toList l) [] T h (KOps Q)) :
    Runs (qaw P pol call fn nt fuel (.region id ops true) T) h Q := by
  simp only [qaw, aregion, hl]
  rw [hm, aopsD_M _ _ _ _ _ (fun i hi => by simpa using List.all_eq_true.1 hlt i hi)]
  exact Runs.bind ((r fun e a ha => by cases ha).mono fun T1 h1 k => Runs.pure k)

theorem O_nil (q : Q T h) : qbq P pol call fn nt R [] seen T h Q := fun _ => Runs.pure q
theorem wantedM_none {o : Oper} (hg : o.guard = none) : wantedM R T o = pure true := by unfold wantedM; rw [hg]
theorem O_read {o : Oper} {v : AV} (ids : List (Bool × Nat)) (hg : o.guard = none) (hc : qa5 o.op = 0) (hi : qbr (qaj T) o = ids) (hs : ∀ x ∈ ids, (h.get x.2).isSome = true)
    (hv : (aop P pol call fn o (qaj T)).run h = some (v, h)) (r : qbq P pol call fn nt R rest ((i, ids) :: seen) (qa2? nt T o.dst v) h Q) : qbq P pol call fn nt R ((i, o) :: rest) seen T h Q := fun hk => by
  simp only [aopsM, wantedM_none hg]
  rw [hc, hi]
  refine Runs.bind (Runs.pure (Runs.bind (Runs.of hv (r fun e a ha => ?_))))
  cases ha with
  | head => exact hs
  | tail _ ha => exact hk e a ha
theorem O_make {o : Oper} (hg : o.guard = none) (hc : qa5 o.op = 1) (r : Runs (aop P pol call fn o (qaj T)) h fun v h1 => qbq P pol call fn nt R rest seen (qa2? nt T o.dst v) h1 Q) :
    qbq P pol call fn nt R ((i, o) :: rest) seen T h Q := fun hk => by
  simp only [aopsM, wantedM_none hg]
  rw [hc]
  refine Runs.bind (Runs.pure (Runs.bind fun w => ?_))
  obtain ⟨v, h1, e, q⟩ := r w
  exact ⟨v, h1, e, q fun e' => (hk e').dom ((aop P pol call fn o (qaj T)).good.1 _ _ _ e)⟩
theorem O_do {o : Oper} (hg : o.guard = none) (hc : qa5 o.op = 2) (r : Runs (aop P pol call fn o (qaj T)) h fun v h1 => Undis R seen i h h1 ∧ qbq P pol call fn nt R rest seen (qa2? nt T o.dst v) h1 Q) :
    qbq P pol call fn nt R ((i, o) :: rest) seen T h Q := fun hk => by
  simp only [aopsM, wantedM_none hg]
  rw [hc]
  refine Runs.bind (Runs.pure ?_)
  dsimp only
  cases hR : R.chk with
  | false =>
    dsimp only
    refine Runs.bind fun w => ?_
    obtain ⟨v, h1, e, _, q⟩ := r w
    exact ⟨v, h1, e, q fun e' => by rw [hR] at e'; cases e'⟩
  | true =>
    dsimp only
    have hso := hk hR
    have hex : ∀ x ∈ (seen.filter fun s => !(ahead R.ms s.1 i)).flatMap (·.2), (h.get x.2).isSome = true := fun x hx => by
      obtain ⟨a, ha, hx⟩ := List.mem_flatMap.1 hx
      exact hso a (List.mem_filter.1 ha).1 x hx
    obtain ⟨l, e1, e2⟩ := astamps_run _ hex
    refine Runs.bind (Runs.of e1 (Runs.bind fun w => ?_))
    obtain ⟨v, h1, e, u, q⟩ := r w
    refine ⟨v, h1, e, Runs.bind (Runs.of (e2 h1 fun x hx => ?_) (Runs.bind (Runs.guard (by simp) ?_)))⟩
    · obtain ⟨a, ha, hx⟩ := List.mem_flatMap.1 hx
      obtain ⟨ha1, ha2⟩ := List.mem_filter.1 ha
      rcases u hR hso a ha1 with u | u
      · rw [u] at ha2; cases ha2
      · exact u x hx
    · exact q fun _ => hso.dom ((aop P pol call fn o (qaj T)).good.1 _ _ _ e)

/-- an operation under a guard that holds, that does not -/
theorem O_yes {o : Oper} {j t : Nat} {want : Bool} (hg : o.guard = some (j, want)) (hd : (R.dsts[j]?).bind id = some t) (hb : qay T t = .bool want)
    (r : qbq P pol call fn nt R ((i, { o with guard := none }) :: rest) seen T h Q) : qbq P pol call fn nt R ((i, o) :: rest) seen T h Q := fun hk => by
  have hw : wantedM R T o = pure true := by
    unfold wantedM
    rw [hg]
    simp only [hd, hb]
    cases want <;> rfl
  have := r hk
  simp only [aopsM, wantedM_none (o := { o with guard := none }) rfl] at this
  simp only [aopsM, hw]
  exact this
theorem O_no {o : Oper} {j t : Nat} {want b : Bool} (hg : o.guard = some (j, want)) (hd : (R.dsts[j]?).bind id = some t) (hb : qay T t = .bool b) (hn : b = !want)
    (r : qbq P pol call fn nt R rest seen (qa2? nt T o.dst (.tuple [])) h Q) : qbq P pol call fn nt R ((i, o) :: rest) seen T h Q := fun hk => by
  have hw : wantedM R T o = pure false := by
    unfold wantedM
    rw [hg]
    simp only [hd, hb, hn]
    cases want <;> rfl
  simp only [aopsM, hw]
  exact Runs.bind (Runs.pure (r hk))

/-! ### reading slots -/
theorem tg_same {t : Nat} {v : AV} (h : Nat.blt t nt = true) : qay (qa2 nt T t v) t = v := by
  rw [tget_tput, if_pos ⟨by simpa [Nat.blt_eq] using h, rfl⟩]
theorem tg_ne {t u : Nat} {v x : AV} (h : Nat.beq u t = false) (k : qay T u = x) : qay (qa2 nt T t v) u = x := by
  rw [tget_tput, if_neg]
  · exact k
  · rintro ⟨_, rfl⟩; simp at h
theorem tgo_same {t : Nat} {v : AV} (h : Nat.blt t nt = true) : qay (qa2? nt T (some t) v) t = v := tg_same h
theorem tgo_ne {t u : Nat} {v x : AV} (h : Nat.beq u t = false) (k : qay T u = x) : qay (qa2? nt T (some t) v) u = x := tg_ne h k
theorem tgo_none {u : Nat} {v x : AV} (k : qay T u = x) : qay (qa2? nt T none v) u = x := k
theorem ev_tmp {t : Nat} {x : AV} (k : qay T t = x) : qaj T (.tmp t) = x := k
theorem ev_int (k : IntKind) (n : Int) : qaj T (.const (.int k n)) = .int k n := rfl
theorem ev_bool (b : Bool) : qaj T (.const (.bool b)) = .bool b := rfl
theorem ev_str (s : ByteArray) : qaj T (.const (.string s)) = .str s.data.toList := rfl
theorem ev_nilptr : qaj T (.const (.pointer none)) = .nilptr := rfl
theorem ev_nilsl : qaj T (.const (.slice none 0 0)) = .sl .nil 0 [] := rfl
theorem ev_nilmap : qaj T (.const (.map none)) = .nilmap := rfl
theorem ev_nilfunc : qaj T (.const .nilFunc) = .nilfunc := rfl
theorem ev_func (f : FuncId) : qaj T (.func f) = .func (.func f) [] [] := rfl
end
end Go.Am
namespace Go.Am
open Go AM

/-! ### what is asked of types: found by instances -/
class TSz (P : Program) (t : TypeId) (n : outParam Nat) : Prop where sz : szOf P t = pure n
class qae (P : Program) (t : TypeId) (n : outParam Nat) : Prop where bytes : bytesOf P t = pure n
class qam (P : Program) (t : TypeId) (z : outParam AV) : Prop where zero : zeroOf P t = pure z
class TSl (P : Program) (t : TypeId) (e : outParam TypeId) : Prop where un : P.underlying t = some (.slice e)
class TMap (P : Program) (t : TypeId) (k e : outParam TypeId) : Prop where un : P.underlying t = some (.map k e)
class TInt (P : Program) (t : TypeId) (k : outParam IntKind) : Prop where un : P.underlying t = some (.int k)
class TStr (P : Program) (t : TypeId) : Prop where un : P.underlying t = some .string
/-- a type of one cell, of some -/
class qbs (P : Program) (t : TypeId) : Prop where rd : ∀ v cells, aread P t (v :: cells) = pure v
class TAgg (P : Program) (t : TypeId) (n : outParam Nat) : Prop where rd : ∀ cells, Nat.ble n cells.length = true → aread P t cells = pure (.agg (cells.take n))
class qak (P : Program) (s : TypeId) (f : Nat) (off : outParam Nat) (t : outParam TypeId) : Prop where
  fa : ∀ id ver o, afieldAddr P s (.ptr id ver o) f = pure (.ptr id ver (o + off))
  fi : ∀ cells, Nat.ble off cells.length = true → afieldAddr P s (.iptr cells) f = pure (.iptr (cells.drop off))
  ff : ∀ cells, Nat.ble off cells.length = true → afield P s (.agg cells) f = aread P t (cells.drop off)

theorem elem_of {P : Program} {t e : TypeId} (h : P.underlying t = some (.slice e)) : elemOf P t = pure e := by unfold elemOf; rw [h]

/-! ### slices, places -/
def qa4 : AV → List Nat
  | .own id _ _ _ => [id]
  | _ => []
inductive SlV (h : Hp) (sz : Nat) : AV → Nat → List AV → Prop
  | imm (k : SK) (n : Nat) (cells : List AV) (e : n * sz = cells.length) : SlV h sz (.sl k n cells) n cells
  | own (id ver off n : Nat) (row : List AV) (fix : Bool) (r : Row h id ver sz row fix) (e : off + n * sz ≤ row.length) : SlV h sz (.own id ver off n) n ((row.drop off).take (n * sz))
/-- a slice that may grow -/
def qcr : AV → Bool
  | .sl .any _ _ => false
  | .sl _ _ _ => true
  | .own _ _ off _ => Nat.beq off 0
  | _ => false
/-- a place, and what lies from there on at least -/
inductive AtV (h : Hp) : AV → List AV → Prop
  | imm (cells rest : List AV) : AtV h (.iptr (cells ++ rest)) cells
  | ptr (id ver off esz : Nat) (row cells rest : List AV) (fix : Bool) (r : Row h id ver esz row fix) (e : row.drop off = cells ++ rest) : AtV h (.ptr id ver off) cells

section
variable {h h1 : Hp} {sz n : Nat} {v : AV} {cells : List AV}
theorem SlV.length (s : SlV h sz v n cells) : n * sz = cells.length := by
  cases s with
  | imm _ _ _ e => exact e
  | own _ _ _ _ _ _ _ e => simp; omega
theorem SlV.keepBut {X : Nat → Prop} (s : SlV h sz v n cells) (k : KeepBut X h h1) (hx : ∀ i ∈ qa4 v, ¬ X i) : SlV h1 sz v n cells := by
  cases s with
  | imm k n _ e => exact .imm k n _ e
  | own id ver off n row fix r e => exact .own id ver off n row fix (r.keepBut k (hx id (by simp [qa4]))) e
theorem SlV.keep (s : SlV h sz v n cells) (k : Keep h h1) : SlV h1 sz v n cells := s.keepBut (k.but fun _ => False) fun _ _ => id
theorem AtV.keep {a : AV} (s : AtV h a cells) (k : Keep h h1) : AtV h1 a cells := by
  cases s with
  | imm _ r => exact .imm _ r
  | ptr id ver off esz row _ rest fix r e => exact .ptr id ver off esz row _ rest fix (r.keep k) e
theorem SlV.lt (s : SlV h sz v n cells) (w : h.WF) : ∀ i ∈ qa4 v, i < h.next := by
  cases s with
  | imm k n _ e => intro i hi; cases hi
  | own id ver off n row fix r e => intro i hi; simp [qa4] at hi; subst hi; exact r.lt w
theorem AtV.ofRow {id ver off esz : Nat} {row cells rest : List AV} {fix : Bool} (r : Row h id ver esz row fix) (e : row.drop off = cells ++ rest) : AtV h (.ptr id ver off) cells := .ptr id ver off esz row cells rest fix r e
theorem AtV.take {a : AV} {c1 c2 : List AV} (s : AtV h a (c1 ++ c2)) : AtV h a c1 := by
  generalize e : c1 ++ c2 = c at s
  cases s with
  | imm _ r => subst e; rw [List.append_assoc]; exact .imm _ _
  | ptr id ver off esz row _ rest fix r e2 => subst e; rw [List.append_assoc] at e2; exact .ptr id ver off esz row _ _ fix r e2
end

section
variable {P : Program} {pol : Pol} {call : qa6} {fn nt fuel : Nat} {h : Hp} {T : qag} {R : Rg} {rest : List (Nat × Oper)} {seen : Seen} {i : Nat} {Q : qag → Hp → Prop} {d : Option Tmp} {ty : TypeId} {pos : String} {after : Array Edge}


theorem qaa {α β : Type} (a : α) (f : α → AM β) : (Pure.pure a >>= f) = f a := rfl
theorem guard_then {α : Type} {b : Bool} (h : b = true) (m : AM α) : (do AM.guard b; m) = m := by subst h; rfl
theorem qar : AM.guard true = Pure.pure () := rfl
theorem ofOption_some' {α : Type} (a : α) : AM.ofOption (some a) = Pure.pure a := rfl

/-- an operation that looks at no object -/
theorem O_val {o : Oper} {v : AV} (hg : o.guard = none) (hc : qa5 o.op = 0) (hi : qbr (qaj T) o = []) (hv : aop P pol call fn o (qaj T) = Pure.pure v) (r : qbq P pol call fn nt R rest ((i, []) :: seen) (qa2? nt T o.dst v) h Q) :
    qbq P pol call fn nt R ((i, o) :: rest) seen T h Q := O_read [] hg hc hi (by simp) (by rw [hv]; rfl) r

theorem O_assign {x : Operand} {v : AV} (hx : qaj T x = v) (r : qbq P pol call fn nt R rest ((i, []) :: seen) (qa2? nt T d v) h Q) :
    qbq P pol call fn nt R ((i, ⟨d, .assign x, ty, pos, after, none⟩) :: rest) seen T h Q := O_val rfl rfl rfl (by simp only [aop, hx]) r
theorem O_move {x : Operand} {v : AV} (hx : qaj T x = v) (r : qbq P pol call fn nt R rest ((i, []) :: seen) (qa2? nt T d v) h Q) :
    qbq P pol call fn nt R ((i, ⟨d, .move x, ty, pos, after, none⟩) :: rest) seen T h Q := O_val rfl rfl rfl (by simp only [aop, hx]) r

/-- what an operation of two numbers gives -/
def intR (op : BinOp) (k : IntKind) (a b : Int) : Option AV := match op with
  | .add => some (.int k (k.wrap (a + b)))
  | .sub => some (.int k (k.wrap (a - b)))
  | .mul => some (.int k (k.wrap (a * b)))
  | .eql => some (.bool (a == b))
  | .neq => some (.bool (a != b))
  | .lss => some (.bool (decide (a < b)))
  | .leq => some (.bool (decide (a ≤ b)))
  | .gtr => some (.bool (decide (a > b)))
  | .geq => some (.bool (decide (a ≥ b)))
  | _ => none
theorem bin_ids {op : BinOp} {t t' : TypeId} {x y : Operand} {X Y : AV} (hx : qaj T x = X) (hy : qaj T y = Y) : qbr (qaj T) ⟨d, .binOp op t x y t', ty, pos, after, none⟩ = (qb2 X ++ qb2 Y).map fun id => (false, id) := by
  subst hx hy
  simp [qbr, looksIn, Op.operands]
theorem O_int {op : BinOp} {t t' : TypeId} {x y : Operand} {k : IntKind} {a b : Int} {v : AV} (hx : qaj T x = .int k a) (hy : qaj T y = .int k b) (hv : intR op k a b = some v)
    (r : qbq P pol call fn nt R rest ((i, []) :: seen) (qa2? nt T d v) h Q) : qbq P pol call fn nt R ((i, ⟨d, .binOp op t x y t', ty, pos, after, none⟩) :: rest) seen T h Q := by
  refine O_val rfl rfl (bin_ids hx hy) ?_ r
  simp only [aop, hx, hy]
  cases op <;> cases hv <;> simp [abin, aintop]
theorem wrap64 {z y : Int} (e : z = y) (h : -9223372036854775808 ≤ z ∧ z < 9223372036854775808) : IntKind.wrap .i64 z = y := by
  subst e
  simp [IntKind.wrap, IntKind.signed, IntKind.bits]
  omega
theorem O_inc {t t' : TypeId} {x y : Operand} {a : Nat} (hx : qaj T x = .int .i64 (a : Int)) (hy : qaj T y = .int .i64 1) (hb : a < 9223372036854775807)
    (r : qbq P pol call fn nt R rest ((i, []) :: seen) (qa2? nt T d (.int .i64 ((a + 1 : Nat) : Int))) h Q) : qbq P pol call fn nt R ((i, ⟨d, .binOp .add t x y t', ty, pos, after, none⟩) :: rest) seen T h Q :=
  O_int hx hy (by simp only [intR]; rw [wrap64 (y := ((a + 1 : Nat) : Int)) (by omega) (by omega)]) r
theorem O_addn {t t' : TypeId} {x y : Operand} {a b : Nat} (hx : qaj T x = .int .i64 (a : Int)) (hy : qaj T y = .int .i64 (b : Int)) (hb : a + b < 9223372036854775808)
    (r : qbq P pol call fn nt R rest ((i, []) :: seen) (qa2? nt T d (.int .i64 ((a + b : Nat) : Int))) h Q) : qbq P pol call fn nt R ((i, ⟨d, .binOp .add t x y t', ty, pos, after, none⟩) :: rest) seen T h Q :=
  O_int hx hy (by simp only [intR]; rw [wrap64 (y := ((a + b : Nat) : Int)) (by omega) (by omega)]) r
theorem O_subn {t t' : TypeId} {x y : Operand} {a b : Int} (hx : qaj T x = .int .i64 a) (hy : qaj T y = .int .i64 b) (hb : -9223372036854775808 ≤ a - b ∧ a - b < 9223372036854775808)
    (r : qbq P pol call fn nt R rest ((i, []) :: seen) (qa2? nt T d (.int .i64 (a - b))) h Q) : qbq P pol call fn nt R ((i, ⟨d, .binOp .sub t x y t', ty, pos, after, none⟩) :: rest) seen T h Q :=
  O_int hx hy (by simp only [intR]; rw [wrap64 (y := a - b) rfl hb]) r
theorem O_addi {t t' : TypeId} {x y : Operand} {a b : Int} (hx : qaj T x = .int .i64 a) (hy : qaj T y = .int .i64 b) (hb : -9223372036854775808 ≤ a + b ∧ a + b < 9223372036854775808)
    (r : qbq P pol call fn nt R rest ((i, []) :: seen) (qa2? nt T d (.int .i64 (a + b))) h Q) : qbq P pol call fn nt R ((i, ⟨d, .binOp .add t x y t', ty, pos, after, none⟩) :: rest) seen T h Q :=
  O_int hx hy (by simp only [intR]; rw [wrap64 (y := a + b) rfl hb]) r
theorem O_rem {t t' : TypeId} {x y : Operand} {k : IntKind} {a b : Int} (hx : qaj T x = .int k a) (hy : qaj T y = .int k b) (hb : b ≠ 0)
    (r : qbq P pol call fn nt R rest ((i, []) :: seen) (qa2? nt T d (.int k (a.tmod b))) h Q) : qbq P pol call fn nt R ((i, ⟨d, .binOp .rem t x y t', ty, pos, after, none⟩) :: rest) seen T h Q := by
  refine O_val rfl rfl (bin_ids hx hy) ?_ r
  simp only [aop, hx, hy]
  simp [abin, aintop, hb]
theorem O_quo {t t' : TypeId} {x y : Operand} {k : IntKind} {a b : Int} (hx : qaj T x = .int k a) (hy : qaj T y = .int k b) (hb : b ≠ 0)
    (r : qbq P pol call fn nt R rest ((i, []) :: seen) (qa2? nt T d (.int k (k.wrap (a.tdiv b)))) h Q) : qbq P pol call fn nt R ((i, ⟨d, .binOp .quo t x y t', ty, pos, after, none⟩) :: rest) seen T h Q := by
  refine O_val rfl rfl (bin_ids hx hy) ?_ r
  simp only [aop, hx, hy]
  simp [abin, aintop, hb]
/-- what an operation of two texts gives -/
def strR (op : BinOp) (a b : List UInt8) : Option AV := match op with
  | .eql => some (.bool (a == b))
  | .neq => some (.bool !(a == b))
  | .lss => some (.bool (Op.bytesLess a b))
  | _ => none
theorem O_str {op : BinOp} {t t' : TypeId} {x y : Operand} {a b : List UInt8} {v : AV} (hx : qaj T x = .str a) (hy : qaj T y = .str b) (hv : strR op a b = some v)
    (r : qbq P pol call fn nt R rest ((i, []) :: seen) (qa2? nt T d v) h Q) : qbq P pol call fn nt R ((i, ⟨d, .binOp op t x y t', ty, pos, after, none⟩) :: rest) seen T h Q := by
  refine O_val rfl rfl (bin_ids hx hy) ?_ r
  simp only [aop, hx, hy]
  cases op <;> cases hv <;> simp [abin, astrop]
theorem O_not {t : TypeId} {x : Operand} {b : Bool} (hx : qaj T x = .bool b) (r : qbq P pol call fn nt R rest ((i, []) :: seen) (qa2? nt T d (.bool !b)) h Q) :
    qbq P pol call fn nt R ((i, ⟨d, .unOp .not t x, ty, pos, after, none⟩) :: rest) seen T h Q := O_val rfl rfl rfl (by simp only [aop, hx, aun]) r
/-- two values that hold no object, compared -/
theorem O_bin {op : BinOp} {t t' : TypeId} {x y : Operand} {X Y v : AV} (hx : qaj T x = X) (hy : qaj T y = Y) (hi : qb2 X ++ qb2 Y = []) (hv : abin P op t X Y = Pure.pure v) (r : qbq P pol call fn nt R rest ((i, []) :: seen) (qa2? nt T d v) h Q) :
    qbq P pol call fn nt R ((i, ⟨d, .binOp op t x y t', ty, pos, after, none⟩) :: rest) seen T h Q := O_val rfl rfl (by rw [bin_ids hx hy, hi]; rfl) (by simp only [aop, hx, hy]; exact hv) r
theorem O_pick {c x y : Operand} {b : Bool} {v u : AV} (hc : qaj T c = .bool b) (hx : qaj T x = v) (hy : qaj T y = u) (r : qbq P pol call fn nt R rest ((i, []) :: seen) (qa2? nt T d (cond b v u)) h Q) :
    qbq P pol call fn nt R ((i, ⟨d, .pick c x y, ty, pos, after, none⟩) :: rest) seen T h Q := by
  cases b
  · exact O_val rfl rfl rfl (by simp only [aop, hc, hy, cond_false]) r
  · exact O_val rfl rfl rfl (by simp only [aop, hc, hx, cond_true]) r
theorem O_max2 {x y : Operand} {ats : Array TypeId} {k : IntKind} {a b : Int} (hx : qaj T x = .int k a) (hy : qaj T y = .int k b) (r : qbq P pol call fn nt R rest ((i, []) :: seen) (qa2? nt T d (.int k (if b > a then b else a))) h Q) :
    qbq P pol call fn nt R ((i, ⟨d, .call ⟨.builtin .max, #[x, y], ats⟩, ty, pos, after, none⟩) :: rest) seen T h Q := by
  refine O_val rfl rfl rfl ?_ r
  simp only [aop, List.map_cons, List.map_nil, hx, hy, qck, afold, amax2]
  simp [qaa, qar]
theorem O_min2 {x y : Operand} {ats : Array TypeId} {k : IntKind} {a b : Int} (hx : qaj T x = .int k a) (hy : qaj T y = .int k b) (r : qbq P pol call fn nt R rest ((i, []) :: seen) (qa2? nt T d (.int k (if b < a then b else a))) h Q) :
    qbq P pol call fn nt R ((i, ⟨d, .call ⟨.builtin .min, #[x, y], ats⟩, ty, pos, after, none⟩) :: rest) seen T h Q := by
  refine O_val rfl rfl rfl ?_ r
  simp only [aop, List.map_cons, List.map_nil, hx, hy, qck, afold, amax2]
  simp [qaa, qar]
theorem O_extract {x : Operand} {j : Nat} {vs : List AV} {v : AV} (hx : qaj T x = .tuple vs) (hv : vs[j]? = some v) (r : qbq P pol call fn nt R rest ((i, []) :: seen) (qa2? nt T d v) h Q) :
    qbq P pol call fn nt R ((i, ⟨d, .extract x j, ty, pos, after, none⟩) :: rest) seen T h Q := O_val rfl rfl rfl (by simp only [aop, hx, hv]; rfl) r
theorem O_convert_int {a b : TypeId} {ka kb : IntKind} [ha : TInt P a ka] [hb : TInt P b kb] {x : Operand} {k : IntKind} {n : Int} (hx : qaj T x = .int k n) (r : qbq P pol call fn nt R rest ((i, []) :: seen) (qa2? nt T d (.int kb (kb.wrap n))) h Q) :
    qbq P pol call fn nt R ((i, ⟨d, .convert a b x, ty, pos, after, none⟩) :: rest) seen T h Q := O_val rfl rfl rfl (by simp only [aop, hx, aconvert, ha.un, hb.un]) r
theorem O_nilCheck_ptr {x : Operand} {id ver off : Nat} (hx : qaj T x = .ptr id ver off) (r : qbq P pol call fn nt R rest ((i, []) :: seen) (qa2? nt T d (.ptr id ver off)) h Q) :
    qbq P pol call fn nt R ((i, ⟨d, .nilCheck x, ty, pos, after, none⟩) :: rest) seen T h Q := O_val rfl rfl rfl (by simp only [aop, hx]) r
theorem O_nilCheck_iptr {x : Operand} {cells : List AV} (hx : qaj T x = .iptr cells) (r : qbq P pol call fn nt R rest ((i, []) :: seen) (qa2? nt T d (.iptr cells)) h Q) :
    qbq P pol call fn nt R ((i, ⟨d, .nilCheck x, ty, pos, after, none⟩) :: rest) seen T h Q := O_val rfl rfl rfl (by simp only [aop, hx]) r
theorem qas : ([] : List Operand).map (qaj T) = [] := rfl
theorem qai {x : Operand} {l : List Operand} {v : AV} {vs : List AV} (h1 : qaj T x = v) (h2 : l.map (qaj T) = vs) : (x :: l).map (qaj T) = v :: vs := by rw [List.map_cons, h1, h2]
theorem O_makeFunc {f : FuncId} {first captured : Array Operand} {l1 l2 : List AV} (h1 : first.toList.map (qaj T) = l1) (h2 : captured.toList.map (qaj T) = l2) (r : qbq P pol call fn nt R rest ((i, []) :: seen) (qa2? nt T d (.func (.func f) l1 l2)) h Q) :
    qbq P pol call fn nt R ((i, ⟨d, .makeFunc (.func f) first captured, ty, pos, after, none⟩) :: rest) seen T h Q := O_val rfl rfl rfl (by simp only [aop, h1, h2]) r
theorem qbn {f : Operand} {args : Array Operand} {ats : Array TypeId} {F : AV} {l : List AV} (hf : qaj T f = F) (hl : args.toList.map (qaj T) = l)
    (r : Runs (call F l) h fun v h1 => Undis R seen i h h1 ∧ qbq P pol call fn nt R rest seen (qa2? nt T d v) h1 Q) : qbq P pol call fn nt R ((i, ⟨d, .call ⟨.value f, args, ats⟩, ty, pos, after, none⟩) :: rest) seen T h Q := by
  refine O_do rfl rfl ?_
  simp only [aop, hf, hl]
  exact r

/-! ### places -/
theorem qc4 {s t : TypeId} {x : Operand} {f off id ver o : Nat} [ht : qak P s f off t] (hx : qaj T x = .ptr id ver o) (r : qbq P pol call fn nt R rest ((i, []) :: seen) (qa2? nt T d (.ptr id ver (o + off))) h Q) :
    qbq P pol call fn nt R ((i, ⟨d, .fieldAddr s x f, ty, pos, after, none⟩) :: rest) seen T h Q := O_val rfl rfl rfl (by simp only [aop, hx]; exact ht.fa _ _ _) r
theorem O_fieldAddr_iptr {s t : TypeId} {x : Operand} {f off : Nat} {cells : List AV} [ht : qak P s f off t] (hx : qaj T x = .iptr cells) (hl : Nat.ble off cells.length = true) (r : qbq P pol call fn nt R rest ((i, []) :: seen) (qa2? nt T d (.iptr (cells.drop off))) h Q) :
    qbq P pol call fn nt R ((i, ⟨d, .fieldAddr s x f, ty, pos, after, none⟩) :: rest) seen T h Q := O_val rfl rfl rfl (by simp only [aop, hx]; exact ht.fi _ hl) r
theorem O_field_one {s t : TypeId} {x : Operand} {f off : Nat} {cells r' : List AV} {v : AV} [ht : qak P s f off t] [h1 : qbs P t] (hx : qaj T x = .agg cells) (hl : Nat.ble off cells.length = true) (hv : cells.drop off = v :: r') (r : qbq P pol call fn nt R rest ((i, []) :: seen) (qa2? nt T d v) h Q) :
    qbq P pol call fn nt R ((i, ⟨d, .field s x f, ty, pos, after, none⟩) :: rest) seen T h Q := O_val rfl rfl rfl (by simp only [aop, hx]; rw [ht.ff _ hl, hv]; exact h1.rd _ _) r
theorem O_field_agg {s t : TypeId} {x : Operand} {f off n : Nat} {cells c' : List AV} [ht : qak P s f off t] [h1 : TAgg P t n] (hx : qaj T x = .agg cells) (hl : Nat.ble (off + n) cells.length = true) (hv : (cells.drop off).take n = c') (r : qbq P pol call fn nt R rest ((i, []) :: seen) (qa2? nt T d (.agg c')) h Q) :
    qbq P pol call fn nt R ((i, ⟨d, .field s x f, ty, pos, after, none⟩) :: rest) seen T h Q := O_val rfl rfl rfl (by
      have hl' : off + n ≤ cells.length := by simpa using hl
      simp only [aop, hx]; rw [ht.ff _ (by simp; omega), h1.rd _ (by simp; omega), hv]) r
theorem load_ids {t : TypeId} {a : Operand} {A : AV} (ha : qaj T a = A) : qbr (qaj T) ⟨d, .load t a, ty, pos, after, none⟩ = (qb2 A).map fun id => (true, id) := by
  subst ha
  simp [qbr, looksIn, Op.operands]
theorem O_load {t : TypeId} {a : Operand} {A v : AV} {cells : List AV} (ha : qaj T a = A) (hat : AtV h A cells) (hv : ∀ rest, aread P t (cells ++ rest) = Pure.pure v)
    (r : qbq P pol call fn nt R rest ((i, (qb2 A).map fun id => (true, id)) :: seen) (qa2? nt T d v) h Q) : qbq P pol call fn nt R ((i, ⟨d, .load t a, ty, pos, after, none⟩) :: rest) seen T h Q := by
  cases hat with
  | imm cells _ => exact O_val rfl rfl (load_ids ha) (by simp only [aop, ha, aload]; exact hv _) r
  | ptr id ver off esz row cells rest fix rw' e =>
    obtain ⟨st, ho⟩ := rw'
    refine O_read _ rfl rfl (load_ids ha) (by simp [qb2, ho]) ?_ r
    simp only [aop, ha, aload]
    rw [run_bind, qcz ho]
    dsimp only
    rw [e, hv]; rfl
theorem qbx {t : TypeId} {a : Operand} {A v : AV} {c' : List AV} [h1 : qbs P t] (ha : qaj T a = A) (hat : AtV h A (v :: c'))
    (r : qbq P pol call fn nt R rest ((i, (qb2 A).map fun id => (true, id)) :: seen) (qa2? nt T d v) h Q) : qbq P pol call fn nt R ((i, ⟨d, .load t a, ty, pos, after, none⟩) :: rest) seen T h Q :=
  O_load ha hat (fun rest => h1.rd _ _) r
theorem qcf {t : TypeId} {a : Operand} {A : AV} {n : Nat} {cells : List AV} [h1 : TAgg P t n] (ha : qaj T a = A) (hat : AtV h A cells) (hl : Nat.beq cells.length n = true)
    (r : qbq P pol call fn nt R rest ((i, (qb2 A).map fun id => (true, id)) :: seen) (qa2? nt T d (.agg cells)) h Q) : qbq P pol call fn nt R ((i, ⟨d, .load t a, ty, pos, after, none⟩) :: rest) seen T h Q :=
  O_load ha hat (fun rest => by
    have hl' : cells.length = n := by simpa using hl
    rw [h1.rd _ (by simp; omega), ← hl', List.take_left']; rfl) r
/-- from a row whose cells are told -/
theorem O_load_row {t : TypeId} {a : Operand} {id ver off esz : Nat} {row r' : List AV} {fix : Bool} {v : AV} [h1 : qbs P t] (ha : qaj T a = .ptr id ver off) (hr : Row h id ver esz row fix) (hv : row.drop off = v :: r')
    (r : qbq P pol call fn nt R rest ((i, [(true, id)]) :: seen) (qa2? nt T d v) h Q) : qbq P pol call fn nt R ((i, ⟨d, .load t a, ty, pos, after, none⟩) :: rest) seen T h Q :=
  qbx ha (.ptr id ver off esz row [v] r' fix hr hv) r
theorem qau {t : TypeId} {a : Operand} {id ver off esz n : Nat} {row c' : List AV} {fix : Bool} [h1 : TAgg P t n] (ha : qaj T a = .ptr id ver off) (hr : Row h id ver esz row fix) (hl : Nat.ble (off + n) row.length = true) (hv : (row.drop off).take n = c')
    (r : qbq P pol call fn nt R rest ((i, [(true, id)]) :: seen) (qa2? nt T d (.agg c')) h Q) : qbq P pol call fn nt R ((i, ⟨d, .load t a, ty, pos, after, none⟩) :: rest) seen T h Q := by
  have hl' : off + n ≤ row.length := by simpa using hl
  subst hv
  exact qcf ha (.ptr id ver off esz row _ ((row.drop off).drop n) fix hr (by rw [List.take_append_drop])) (by simp; omega) r
theorem O_load_iptr {t : TypeId} {a : Operand} {cells r' : List AV} {v : AV} [h1 : qbs P t] (ha : qaj T a = .iptr cells) (hv : cells = v :: r')
    (r : qbq P pol call fn nt R rest ((i, []) :: seen) (qa2? nt T d v) h Q) : qbq P pol call fn nt R ((i, ⟨d, .load t a, ty, pos, after, none⟩) :: rest) seen T h Q := by
  subst hv
  exact qbx ha (.imm [v] r') r
theorem qb0 {t : TypeId} {a x : Operand} {id ver off esz n : Nat} {row : List AV} {fix : Bool} {v : AV} [hs : TSz P t n] (ha : qaj T a = .ptr id ver off) (hx : qaj T x = v) (ho : Row h id ver esz row fix)
    (hg : (Nat.beq (acells v).length n && Nat.ble (off + n) row.length && ones (acells v)) = true)
    (r : ∀ h1, KeepBut (· = id) h h1 → Row h1 id ver esz (splice row off (acells v)) fix → Undis R seen i h h1 ∧ qbq P pol call fn nt R rest seen (qa2? nt T d (.tuple [])) h1 Q) : qbq P pol call fn nt R ((i, ⟨d, .store t a x, ty, pos, after, none⟩) :: rest) seen T h Q := by
  refine O_do rfl rfl ?_
  obtain ⟨st, ho⟩ := ho
  simp only [aop, ha, hx, astore, hs.sz]
  refine Runs.bind (Runs.bind (Runs.row ho ?_))
  dsimp only
  rw [qaa, hg, qar, qaa]
  exact Runs.hput ho (Nat.le_refl _) (Runs.pure (r _ (KeepBut.put _) ⟨_, qbm _ _ _ _⟩))
theorem O_alloc {t : TypeId} {z : AV} [hz : qam P t z]
    (r : ∀ h1 id, Keep h h1 → Row h1 id 0 (acells z).length (acells z) true → h.next ≤ id → id < h1.next → qbq P pol call fn nt R rest seen (qa2? nt T d (.ptr id 0 0)) h1 Q) : qbq P pol call fn nt R ((i, ⟨d, .alloc t, ty, pos, after, none⟩) :: rest) seen T h Q := by
  refine O_make rfl rfl (Runs.wf fun w => ?_)
  simp only [aop, hz.zero]
  rw [qaa]
  exact Runs.bind (Runs.halloc (Runs.pure (r _ _ (Keep.alloc w _) ⟨_, qbm _ _ _ _⟩ (Nat.le_refl _) (Nat.lt_succ_self _))))
theorem O_box {t : TypeId} {x : Operand} {v : AV} (hx : qaj T x = v) (hk : known v = true)
    (r : ∀ h1 id, Keep h h1 → Row h1 id 0 (acells v).length (acells v) true → h.next ≤ id → id < h1.next → qbq P pol call fn nt R rest seen (qa2? nt T d (.ptr id 0 0)) h1 Q) : qbq P pol call fn nt R ((i, ⟨d, .box t x, ty, pos, after, none⟩) :: rest) seen T h Q := by
  refine O_make rfl rfl (Runs.wf fun w => ?_)
  simp only [aop, hx]
  rw [hk, qar, qaa]
  exact Runs.bind (Runs.halloc (Runs.pure (r _ _ (Keep.alloc w _) ⟨_, qbm _ _ _ _⟩ (Nat.le_refl _) (Nat.lt_succ_self _))))
theorem O_makeMap {t : TypeId} (r : ∀ h1 id, Keep h h1 → MapAt h1 id [] → h.next ≤ id → id < h1.next → qbq P pol call fn nt R rest seen (qa2? nt T d (.mapv id)) h1 Q) :
    qbq P pol call fn nt R ((i, ⟨d, .makeMap t none, ty, pos, after, none⟩) :: rest) seen T h Q := by
  refine O_make rfl rfl (Runs.wf fun w => ?_)
  simp only [aop]
  exact Runs.bind (Runs.halloc (Runs.pure (r _ _ (Keep.alloc w _) ⟨_, _, qbm _ _ _ _⟩ (Nat.le_refl _) (Nat.lt_succ_self _))))

/-! ### slices -/
theorem len_ids {ats : Array TypeId} {x : Operand} {X : AV} (hx : qaj T x = X) : qbr (qaj T) ⟨d, .call ⟨.builtin .len, #[x], ats⟩, ty, pos, after, none⟩ = (qb2 X).map fun id => (false, id) := by
  subst hx
  simp [qbr, looksIn, Op.operands, Call.operands]
theorem SlV.ids {sz n : Nat} {v : AV} {cells : List AV} (s : SlV h sz v n cells) : qb2 v = qa4 v ∧ ∀ x ∈ qa4 v, (h.get x).isSome = true := by
  cases s with
  | imm => exact ⟨rfl, by simp [qa4]⟩
  | own id ver off n row fix r e => obtain ⟨st, ho⟩ := r; exact ⟨rfl, by simp [qa4, ho]⟩
theorem O_len_v {t e : TypeId} {x : Operand} {n sz : Nat} {v : AV} {cells : List AV} [hu : TSl P t e] (hx : qaj T x = v) (s : SlV h sz v n cells)
    (r : qbq P pol call fn nt R rest ((i, (qa4 v).map fun id => (false, id)) :: seen) (qa2? nt T d (.int .i64 (n : Nat))) h Q) : qbq P pol call fn nt R ((i, ⟨d, .call ⟨.builtin .len, #[x], #[t]⟩, ty, pos, after, none⟩) :: rest) seen T h Q := by
  refine O_read _ rfl rfl ((len_ids hx).trans (by rw [s.ids.1])) (fun x hx => ?_) ?_ r
  · obtain ⟨y, hy, rfl⟩ := List.mem_map.1 hx; exact s.ids.2 y hy
  simp only [aop, List.map_cons, List.map_nil, hx, qck, alen, hu.un]
  cases s with
  | imm k n cells e => rfl
  | own id ver off n row fix r' e =>
    obtain ⟨st, ho⟩ := r'
    simp only
    rw [run_bind, qcz ho]; rfl
theorem O_len_str {t : TypeId} {x : Operand} {l : List UInt8} [hu : TStr P t] (hx : qaj T x = .str l)
    (r : qbq P pol call fn nt R rest ((i, []) :: seen) (qa2? nt T d (.int .i64 (l.length : Nat))) h Q) : qbq P pol call fn nt R ((i, ⟨d, .call ⟨.builtin .len, #[x], #[t]⟩, ty, pos, after, none⟩) :: rest) seen T h Q := by
  refine O_val rfl rfl (len_ids hx) ?_ r
  simp only [aop, List.map_cons, List.map_nil, hx, qck, alen, hu.un]
theorem within_nat {i n : Nat} (h : i < n) : within (i : Int) n = true := by unfold within; simp; omega
theorem drop_more (l : List AV) (a b : Nat) : (l.drop a).drop b = l.drop (a + b) := by rw [List.drop_drop]
theorem qax {t e : TypeId} {x y : Operand} {n sz : Nat} {v : AV} {cells : List AV} {ik : IntKind} {j : Nat} [hu : TSl P t e] [hs : TSz P e sz] (hx : qaj T x = v) (s : SlV h sz v n cells) (hy : qaj T y = .int ik (j : Int)) (hj : j < n) (hz : Nat.beq sz 0 = false)
    (r : ∀ a, AtV h a ((cells.drop (j * sz)).take sz) → (∀ k ∈ qb2 a, k ∈ qa4 v) → qbq P pol call fn nt R rest ((i, (qa4 v).map fun id => (false, id)) :: seen) (qa2? nt T d a) h Q) : qbq P pol call fn nt R ((i, ⟨d, .indexAddr t x y, ty, pos, after, none⟩) :: rest) seen T h Q := by
  have hids : qbr (qaj T) ⟨d, .indexAddr t x y, ty, pos, after, none⟩ = (qa4 v).map fun id => (false, id) := by
    have h1 : qbr (qaj T) ⟨d, .indexAddr t x y, ty, pos, after, none⟩ = (qb2 (qaj T x) ++ qb2 (qaj T y)).map fun id => (false, id) := by simp [qbr, looksIn, Op.operands]
    rw [h1, hx, hy, s.ids.1]; simp [qb2]
  have hmul : j * sz + sz ≤ n * sz := by
    have := Nat.mul_le_mul_right sz hj
    rw [Nat.succ_mul] at this; exact this
  cases s with
  | imm k n cells e =>
    refine O_val rfl rfl hids (v := .iptr (cells.drop (j * sz))) ?_ (r _ ?_ ?_)
    · simp only [aop, hx, hy, aindexAddr, hu.un, hs.sz]
      rw [qaa, within_nat hj, hz]
      simp [e, qar, qaa]
    · have := AtV.imm (h := h) ((cells.drop (j * sz)).take sz) ((cells.drop (j * sz)).drop sz)
      rw [List.take_append_drop] at this
      exact this
    · simp [qb2]
  | own id ver off n row fix r' e =>
    have hr := r'
    obtain ⟨st, ho⟩ := r'
    refine O_read _ rfl rfl hids (by simp [qa4, ho]) (v := .ptr id ver (off + j * sz)) ?_ (r _ ?_ ?_)
    · simp only [aop, hx, hy, aindexAddr, hu.un, hs.sz]
      rw [qaa, run_bind, qcz ho]
      dsimp only
      rw [within_nat hj, show (true && Nat.ble (off + n * sz) row.length) = true by simpa using e, qar, qaa]
      rfl
    · refine .ptr id ver _ sz row _ ((row.drop (off + j * sz)).drop sz) fix hr ?_
      rw [← drop_more, List.drop_take, List.take_take, Nat.min_eq_left (by omega), List.take_append_drop]
    · simp [qb2, qa4]
end
end Go.Am
namespace Go.Am
open Go AM

/-- a struct's fields: where each begins, how many cells it has; its zero value -/
class qbc (P : Program) (t : TypeId) (fs : outParam (List (Nat × Nat))) (z : outParam (List AV)) : Prop where
  build : ∀ parts, abuild P t parts = (do let cells ← afill (fun i => fs[i]?) z parts; pure (.agg cells))
def afillL (fs : List (Nat × Nat)) (cells : List AV) : List (Nat × AV) → Option (List AV)
  | [] => some cells
  | (i, v) :: r => match fs[i]? with
    | none => none
    | some (off, size) => cond (Nat.beq (acells v).length size && Nat.ble (off + size) cells.length && known v) (afillL fs (splice cells off (acells v)) r) none
theorem afillL_ok {fs : List (Nat × Nat)} : ∀ {parts : List (Nat × AV)} {cells c' : List AV}, afillL fs cells parts = some c' → afill (fun i => fs[i]?) cells parts = pure c'
  | [], cells, c', e => by cases e; rfl
  | (i, v) :: r, cells, c', e => by
    simp only [afillL] at e
    cases hf : fs[i]? with
    | none => rw [hf] at e; cases e
    | some p =>
      obtain ⟨off, size⟩ := p
      rw [hf] at e
      dsimp only at e
      cases hc : (Nat.beq (acells v).length size && Nat.ble (off + size) cells.length && known v) with
      | false => rw [hc] at e; cases e
      | true =>
        rw [hc] at e
        simp only [afill, hf]
        rw [hc, qar, qaa]
        exact afillL_ok e

section
variable {h h1 : Hp} {sz n : Nat} {v : AV} {cells : List AV}
theorem SlV.acells (s : SlV h sz v n cells) : acells v = [v] := by cases s <;> rfl
theorem SlV.known (s : SlV h sz v n cells) : known v = true := by cases s <;> rfl
theorem SlV.one (s : SlV h sz v n cells) : one v = true := by cases s <;> rfl
theorem SlV.full (n : Nat) (c : List AV) (e : n * sz = c.length) : SlV h sz (.sl .full n c) n c := .imm _ _ _ e
theorem SlV.nil : SlV h sz (.sl .nil 0 []) 0 [] := .imm _ _ _ (by simp)
theorem KeepBut.none {X : Nat → Prop} (k : KeepBut X h h1) (hx : ∀ i, ¬ X i) : Keep h h1 := ⟨fun id o e => k.same id o (hx id) e, k.next⟩
theorem qby {cells : List AV} {k : Nat} {vs : List AV} (h : k + vs.length ≤ cells.length) : (splice cells k vs).length = cells.length := by
  unfold splice
  simp
  omega
theorem splice_end {cells vs : List AV} {k : Nat} (h : k + vs.length ≤ cells.length) : (splice cells k vs).take (k + vs.length) = cells.take k ++ vs := by
  unfold splice
  rw [List.take_append_of_le_length (by simp; omega), List.take_of_length_le (by simp; omega)]
end

section
variable {P : Program} {pol : Pol} {call : qa6} {fn nt fuel : Nat} {h : Hp} {T : qag} {R : Rg} {rest : List (Nat × Oper)} {seen : Seen} {i : Nat} {Q : qag → Hp → Prop} {d : Option Tmp} {ty : TypeId} {pos : String} {after : Array Edge}

/-- the rest is left as it is -/
theorem O_self {l : List (Nat × Oper)} (r : qbq P pol call fn nt R l seen T h Q) : qbq P pol call fn nt R l seen T h Q := r
theorem ar_inc (n : Nat) (h : n < 9223372036854775807) : intR .add .i64 (n : Int) 1 = some (.int .i64 ((n + 1 : Nat) : Int)) := by
  simp only [intR]; rw [wrap64 (y := ((n + 1 : Nat) : Int)) (by omega) (by omega)]
theorem ar_sub {a b : Int} (h : -9223372036854775808 ≤ a - b ∧ a - b < 9223372036854775808) : intR .sub .i64 a b = some (.int .i64 (a - b)) := by
  simp only [intR]; rw [wrap64 (y := a - b) rfl h]
theorem ar_add {a b : Int} (h : -9223372036854775808 ≤ a + b ∧ a + b < 9223372036854775808) : intR .add .i64 a b = some (.int .i64 (a + b)) := by
  simp only [intR]; rw [wrap64 (y := a + b) rfl h]
theorem O_wf {l : List (Nat × Oper)} (r : h.WF → qbq P pol call fn nt R l seen T h Q) : qbq P pol call fn nt R l seen T h Q := fun k w => r w k w
theorem aappend_runs {sz bytes n m : Nat} {s : AV} {cells new : List AV} {K : AV → Hp → Prop} (gs : SlV h sz s n cells) (hg : qcr s = true) (hn : m * sz = new.length) (h1 : ones new = true) (hz : 0 < sz) (hb0 : 0 < bytes) (hb : (n + m) * bytes ≤ room)
    (k : ∀ v h1, KeepBut (· ∈ qa4 s) h h1 → SlV h1 sz v (n + m) (cells ++ new) → qcr v = true → (∀ k ∈ qa4 v, k ∈ qa4 s ∨ (h.next ≤ k ∧ k < h1.next)) → (0 < m → qa4 v ≠ []) → K v h1) : Runs (aappend sz bytes s m new) h K := by
  refine Runs.wf fun w => ?_
  have hmax : n + m ≤ maxInt := by
    have : (n + m) * 1 ≤ (n + m) * bytes := Nat.mul_le_mul_left _ hb0
    unfold maxInt; unfold room at hb; omega
  cases m with
  | zero =>
    have : new = [] := List.length_eq_zero_iff.1 (by omega)
    subst this
    have hk := k s h (KeepBut.refl _) (by rw [List.append_nil]; exact gs) hg (fun k hk => .inl hk) (fun c => absurd c (Nat.lt_irrefl 0))
    cases gs with
    | imm => exact Runs.pure hk
    | own id ver off n row fix r e =>
      obtain ⟨st, ho⟩ := r
      simp only [aappend]
      refine Runs.bind (Runs.row ho ?_)
      dsimp only
      rw [show Nat.beq sz sz = true by simp, qar, qaa]
      exact Runs.pure hk
  | succ m =>
    cases gs with
    | imm kk n cells e =>
      simp only [aappend]
      refine Runs.bind (Runs.guard (by simp only [qcr] at hg; cases kk <;> simp_all) ?_)
      refine Runs.bind (Runs.halloc (Runs.pure (k _ _ ((Keep.alloc w _).but _) ?_ rfl (fun x hx => ?_) (fun _ c => by cases c))))
      · have hl : (cells ++ new).length = (n + (m + 1)) * sz := by rw [List.length_append, ← e, ← hn, Nat.add_mul n (m + 1) sz]
        have := SlV.own (h := ⟨h.obj.set h.next (some ⟨0, 0, .row sz (cells ++ new) false⟩), h.next + 1⟩) (sz := sz) h.next 0 0 (n + (m + 1)) (cells ++ new) false ⟨0, qbm _ _ _ _⟩ (by omega)
        rw [List.drop_zero, List.take_of_length_le (by omega)] at this
        exact this
      · simp [qa4] at hx; subst hx; exact .inr ⟨Nat.le_refl _, Nat.lt_succ_self _⟩
    | own id ver off n row fix r e =>
      obtain ⟨st, ho⟩ := r
      have hoff : off = 0 := by simpa [qcr] using hg
      subst hoff
      simp only [aappend]
      refine Runs.bind (Runs.row ho ?_)
      dsimp only
      rw [show Nat.beq sz sz = true by simp, qar, qaa]
      rw [show (Nat.beq 0 0 && Nat.ble (n * sz) row.length && Nat.ble ((n + (m + 1)) * bytes) room && Nat.ble (n + (m + 1)) maxInt && Nat.beq new.length ((m + 1) * sz) && ones new) = true by simp_all, qar, qaa]
      have hmul : (n + (m + 1)) * sz = n * sz + new.length := by rw [← hn, Nat.add_mul]
      cases hq : Nat.ble ((n + (m + 1)) * sz) row.length with
      | true =>
        have hq' : (n + (m + 1)) * sz ≤ row.length := by simpa using hq
        dsimp only
        refine Runs.bind (Runs.hput ho (Nat.le_refl _) (Runs.pure (k _ _ ((KeepBut.put _).weaken (by rintro i rfl; simp [qa4])) ?_ rfl (fun x hx => .inl hx) (fun _ c => by cases c))))
        have := SlV.own (h := ⟨h.obj.set id (some ⟨ver, st + 1, .row sz (splice row (n * sz) new) fix⟩), h.next⟩) (sz := sz) id ver 0 (n + (m + 1)) (splice row (n * sz) new) fix ⟨_, qbm _ _ _ _⟩ (by rw [qby (by omega)]; omega)
        rw [List.drop_zero, hmul, splice_end (by omega)] at this
        rw [List.drop_zero]
        exact this
      | false =>
        have hq' : ¬ (n + (m + 1)) * sz ≤ row.length := by
          intro c
          have : Nat.ble ((n + (m + 1)) * sz) row.length = true := by simpa using c
          rw [this] at hq; cases hq
        dsimp only
        refine Runs.bind (Runs.hput ho (Nat.le_succ _) (Runs.pure (k _ _ ((KeepBut.put _).weaken (by rintro i rfl; simp [qa4])) ?_ rfl (fun x hx => .inl hx) (fun _ c => by cases c))))
        have := SlV.own (h := ⟨h.obj.set id (some ⟨ver + 1, st + 1, .row sz (row.take (n * sz) ++ new) false⟩), h.next⟩) (sz := sz) id (ver + 1) 0 (n + (m + 1)) (row.take (n * sz) ++ new) false ⟨_, qbm _ _ _ _⟩ (by rw [List.length_append, List.length_take]; omega)
        rw [List.drop_zero, List.take_of_length_le (l := row.take (n * sz) ++ new) (by rw [List.length_append, List.length_take]; omega)] at this
        rw [List.drop_zero]
        exact this

theorem SlV.cells_run {sz n : Nat} {v : AV} {cells : List AV} (s : SlV h sz v n cells) : (qb7 sz v).run h = some ((n, cells), h) := by
  cases s with
  | imm k n cells e =>
    simp only [qb7]
    rw [show Nat.beq (n * sz) cells.length = true by simpa using e, qar, qaa]; rfl
  | own id ver off n row fix r e =>
    obtain ⟨st, ho⟩ := r
    simp only [qb7]
    rw [run_bind, qcz ho]
    dsimp only
    rw [show Nat.ble (off + n * sz) row.length = true by simpa using e, qar, qaa]; rfl

theorem O_append {args : Array Operand} {t u e e' : TypeId} {sz bytes n m : Nat} {z s x : AV} {cells new : List AV} [ht : TSl P t e] [hu : TSl P u e'] [hs : TSz P e sz] [hb' : qae P e bytes] [hz' : qam P e z]
    (hl : args.toList.map (qaj T) = [s, x]) (gs : SlV h sz s n cells) (hg : qcr s = true) (gx : SlV h sz x m new) (h1 : ones new = true)
    (hz : (!(Nat.beq sz 0) && !(Nat.beq bytes 0) && Nat.beq (acells z).length sz) = true) (hb : (n + m) * bytes ≤ room)
    (r : ∀ v h1, KeepBut (· ∈ qa4 s) h h1 → SlV h1 sz v (n + m) (cells ++ new) → qcr v = true → (∀ k ∈ qa4 v, k ∈ qa4 s ∨ (h.next ≤ k ∧ k < h1.next)) → (0 < m → qa4 v ≠ []) → Undis R seen i h h1 ∧ qbq P pol call fn nt R rest seen (qa2? nt T d v) h1 Q) :
    qbq P pol call fn nt R ((i, ⟨d, .call ⟨.builtin .append, args, #[t, u]⟩, ty, pos, after, none⟩) :: rest) seen T h Q := by
  refine O_do rfl rfl ?_
  simp only [Bool.and_eq_true] at hz
  have h0 : sz ≠ 0 := by intro c; subst c; simp at hz
  have h2 : bytes ≠ 0 := by intro c; subst c; simp at hz
  simp only [aop, hl, qck, aappendOp, elem_of ht.un, hs.sz, hb'.bytes, hz'.zero, hu.un, qaa]
  rw [hz.1.1, hz.1.2, Bool.and_self, qar, qaa, qaa, hz.2, qar, qaa]
  have hsrc : (qco P e sz x).run h = some ((m, new), h) := by
    rw [show qco P e sz x = qb7 sz x by cases gx <;> rfl]
    exact gx.cells_run
  exact Runs.bind (Runs.of hsrc (aappend_runs gs hg gx.length h1 (by omega) (by omega) hb r))

theorem O_indexAddr_own {t e : TypeId} {x y : Operand} {n sz esz id ver off : Nat} {row : List AV} {fix : Bool} {ik : IntKind} {j : Nat} [hu : TSl P t e] [hs : TSz P e sz] (hx : qaj T x = .own id ver off n) (hr : Row h id ver esz row fix) (hy : qaj T y = .int ik (j : Int)) (hj : j < n) (hl : off + n * sz ≤ row.length)
    (r : qbq P pol call fn nt R rest ((i, [(false, id)]) :: seen) (qa2? nt T d (.ptr id ver (off + j * sz))) h Q) : qbq P pol call fn nt R ((i, ⟨d, .indexAddr t x y, ty, pos, after, none⟩) :: rest) seen T h Q := by
  obtain ⟨st, ho⟩ := hr
  refine O_read _ rfl rfl ?_ (by simp [ho]) (v := .ptr id ver (off + j * sz)) ?_ r
  · have h1 : qbr (qaj T) ⟨d, .indexAddr t x y, ty, pos, after, none⟩ = (qb2 (qaj T x) ++ qb2 (qaj T y)).map fun id => (false, id) := by simp [qbr, looksIn, Op.operands]
    rw [h1, hx, hy]; rfl
  · simp only [aop, hx, hy, aindexAddr, hu.un, hs.sz]
    rw [qaa, run_bind, qcz ho]
    dsimp only
    rw [within_nat hj, show (true && Nat.ble (off + n * sz) row.length) = true by simpa using hl, qar, qaa]
    rfl
theorem O_clear_own {t e : TypeId} {x : Operand} {id ver off n esz : Nat} {row : List AV} {fix : Bool} {z : AV} [hu : TSl P t e] [hs : TSz P e esz] [hz : qam P e z] (hx : qaj T x = .own id ver off n) (hr : Row h id ver esz row fix) (hg : off + n * esz ≤ row.length) (hl : (Nat.beq (acells z).length esz && ones (acells z)) = true)
    (r : ∀ h1 row', KeepBut (· = id) h h1 → Row h1 id ver esz row' fix → row'.length = row.length → row'.take off = row.take off → Undis R seen i h h1 ∧ qbq P pol call fn nt R rest seen (qa2? nt T d (.tuple [])) h1 Q) :
    qbq P pol call fn nt R ((i, ⟨d, .call ⟨.builtin .clear, #[x], #[t]⟩, ty, pos, after, none⟩) :: rest) seen T h Q := by
  refine O_do rfl rfl ?_
  have hrow := hr
  obtain ⟨st, ho⟩ := hr
  simp only [Bool.and_eq_true] at hl
  have hzl : (acells z).length = esz := by simpa using hl.1
  simp only [aop, List.map_cons, List.map_nil, hx, qck, aclear, hu.un]
  rw [hs.sz, qaa, hz.zero, qaa]
  refine Runs.bind (Runs.row ho ?_)
  dsimp only
  cases n with
  | zero => exact Runs.pure (r h row (KeepBut.refl _) hrow rfl rfl)
  | succ n =>
    rw [show (Nat.beq esz esz && Nat.ble (off + (n + 1) * esz) row.length && Nat.beq (acells z).length esz && ones (acells z)) = true by rw [hl.1, hl.2]; simpa using hg, qar, qaa]
    have hrl : ∀ n, (qan (acells z) n).length = n * (acells z).length := by
      intro n; induction n with
      | zero => simp [qan]
      | succ n ih => simp [qan, ih, Nat.succ_mul]; omega
    have h1 : off + (qan (acells z) (n + 1)).length ≤ row.length := by rw [hrl, hzl]; exact hg
    refine Runs.bind (Runs.hput ho (Nat.le_refl _) (Runs.pure (r _ _ (KeepBut.put _) ⟨_, qbm _ _ _ _⟩ (qby h1) ?_)))
    unfold splice
    rw [List.append_assoc, List.take_append_of_le_length (by rw [List.length_take]; omega), List.take_take, Nat.min_self]
theorem splice_one {cells : List AV} {k : Nat} (h : k < cells.length) (x : AV) : splice cells k [x] = cells.set k x := by
  unfold splice
  rw [List.set_eq_take_append_cons_drop, if_pos h]
  simp

/-- bounds -/
theorem bounds_lo {n : Nat} {x : Option Operand} {ik : IntKind} {j : Nat} (hx : x.map (qaj T) = some (.int ik j)) (hi : j ≤ n) : qcb n n (x.map (qaj T)) (Option.map (qaj T) Option.none) = Pure.pure (j, n) := by
  rw [hx]
  simp only [qcb, abound, Option.map_none]
  rw [qaa, show (decide (0 ≤ (j : Int) ∧ (j : Int) ≤ (n : Int))) = true by simp; omega, qar, qaa, qaa]
  rfl
theorem bounds_hi {n : Nat} {x : Option Operand} {ik : IntKind} {j : Nat} (hx : x.map (qaj T) = some (.int ik j)) (hi : j ≤ n) : qcb n n (Option.map (qaj T) Option.none) (x.map (qaj T)) = Pure.pure (0, j) := by
  rw [hx]
  simp only [qcb, abound, Option.map_none]
  rw [show (decide (0 ≤ (j : Int) ∧ (j : Int) ≤ (n : Int))) = true by simp; omega, qar, qaa, qaa, qaa]
  rfl
theorem bounds_both {n : Nat} {x y : Option Operand} {ik ik' : IntKind} {l u : Nat} (hx : x.map (qaj T) = some (.int ik l)) (hy : y.map (qaj T) = some (.int ik' u)) (h1 : l ≤ u) (h2 : u ≤ n) : qcb n n (x.map (qaj T)) (y.map (qaj T)) = Pure.pure (l, u) := by
  rw [hx, hy]
  simp only [qcb, abound]
  rw [show (decide (0 ≤ (u : Int) ∧ (u : Int) ≤ (n : Int))) = true by simp; omega, qar, qaa, qaa]
  rw [show (decide (0 ≤ (l : Int) ∧ (l : Int) ≤ (((u : Int)).toNat : Int))) = true by simp; omega, qar, qaa, qaa]
  rfl
theorem slice_ids {t : TypeId} {x : Operand} {lo hi : Option Operand} {X : AV} (hx : qaj T x = X) (h1 : ∀ y, lo = some y → qb2 (qaj T y) = []) (h2 : ∀ y, hi = some y → qb2 (qaj T y) = []) :
    qbr (qaj T) ⟨d, .slice t x lo hi none, ty, pos, after, none⟩ = (qb2 X).map fun id => (false, id) := by
  subst hx
  cases lo <;> cases hi <;> simp_all [qbr, looksIn, Op.operands]
theorem bound_noids {n : Nat} {lo hi : Option Operand} {l u : Nat} (hb : qcb n n (lo.map (qaj T)) (hi.map (qaj T)) = Pure.pure (l, u)) : (∀ y, lo = some y → qb2 (qaj T y) = []) ∧ (∀ y, hi = some y → qb2 (qaj T y) = []) := by
  have hf : ∀ {α β : Type} (f : α → AM β) (b : β), (AM.fail >>= f) = Pure.pure b → False := fun f b e => by
    have := congrArg (fun m => m.run Hp.none) e
    cases this
  have hf' : ∀ {β : Type} (b : β), (AM.fail : AM β) = Pure.pure b → False := fun b e => by
    have := congrArg (fun m => m.run Hp.none) e
    cases this
  have hn : ∀ {x : AV}, (∀ ik j, x ≠ .int ik j) → ∀ m o, abound m o (some x) = AM.fail := fun {x} hx m o => by
    cases x <;> first | rfl | exact absurd rfl (hx _ _)
  refine ⟨fun y e => ?_, fun y e => ?_⟩
  · subst e
    by_cases hc : ∃ ik j, qaj T y = .int ik j
    · obtain ⟨ik, j, e⟩ := hc; rw [e]; rfl
    · exfalso
      have hc' : ∀ ik j, qaj T y ≠ .int ik j := fun ik j e => hc ⟨ik, j, e⟩
      have e := congrArg (fun m => m.run Hp.none) hb
      simp only [qcb, Option.map_some] at e
      rw [run_bind] at e
      split at e
      · cases e
      · rw [hn hc', run_bind, run_fail] at e; cases e
  · subst e
    by_cases hc : ∃ ik j, qaj T y = .int ik j
    · obtain ⟨ik, j, e⟩ := hc; rw [e]; rfl
    · exfalso
      have hc' : ∀ ik j, qaj T y ≠ .int ik j := fun ik j e => hc ⟨ik, j, e⟩
      simp only [qcb, Option.map_some] at hb
      rw [hn hc'] at hb
      exact hf _ _ hb
theorem abounds_more {n m : Nat} {lo hi : Option AV} {p : Nat × Nat} (e : qcb n n lo hi = Pure.pure p) (h : n ≤ m) : qcb n m lo hi = Pure.pure p := by
  rw [← e]
  have hne : ∀ (f : Nat → AM (Nat × Nat)), (AM.fail >>= f) ≠ (Pure.pure p : AM (Nat × Nat)) := fun f q => by
    have := congrArg (fun (m : AM (Nat × Nat)) => m.run ⟨.leaf, 0⟩) q
    exact absurd this (by intro c; cases c)
  unfold qcb at e ⊢
  cases hi with
  | none => rfl
  | some v =>
    cases v with
    | int k i =>
      simp only [abound] at e ⊢
      by_cases c : 0 ≤ i ∧ i ≤ n
      · have c' : 0 ≤ i ∧ i ≤ m := by omega
        rw [decide_eq_true c, decide_eq_true c']
      · exfalso
        rw [decide_eq_false c] at e
        have := congrArg (fun (m : AM (Nat × Nat)) => m.run ⟨.leaf, 0⟩) e
        simp only [run_bind] at this
        cases this
    | _ => rfl
theorem room_le {n off sz len : Nat} : n ≤ roomIn n off sz len := by
  unfold roomIn; cases (Nat.ble 1 n || Nat.beq off 0) <;> simp <;> omega
theorem O_slice_v {t e : TypeId} {x : Operand} {lo hi : Option Operand} {n l u sz : Nat} {v : AV} {cells : List AV} [ht : TSl P t e] [hs : TSz P e sz] (hx : qaj T x = v) (s : SlV h sz v n cells) (hb : qcb n n (lo.map (qaj T)) (hi.map (qaj T)) = Pure.pure (l, u)) (hlu : l ≤ u) (hun : u ≤ n)
    (r : ∀ v', SlV h sz v' (u - l) ((cells.drop (l * sz)).take ((u - l) * sz)) → qa4 v' = qa4 v → (l = 0 → qa4 v ≠ [] → qcr v' = qcr v) → qbq P pol call fn nt R rest ((i, (qa4 v).map fun id => (false, id)) :: seen) (qa2? nt T d v') h Q) :
    qbq P pol call fn nt R ((i, ⟨d, .slice t x lo hi none, ty, pos, after, none⟩) :: rest) seen T h Q := by
  have hids : qbr (qaj T) ⟨d, .slice t x lo hi none, ty, pos, after, none⟩ = (qa4 v).map fun id => (false, id) := by
    rw [slice_ids hx (bound_noids hb).1 (bound_noids hb).2, s.ids.1]
  have hmul : l * sz + (u - l) * sz ≤ n * sz := by
    rw [← Nat.add_mul, Nat.add_sub_cancel' hlu]; exact Nat.mul_le_mul_right sz hun
  cases s with
  | imm k n cells e' =>
    have hl : ((cells.drop (l * sz)).take ((u - l) * sz)).length = (u - l) * sz := by rw [List.length_take, List.length_drop]; omega
    have hv : ∃ k', aop P pol call fn ⟨d, .slice t x lo hi none, ty, pos, after, none⟩ (qaj T) = pure (.sl k' (u - l) ((cells.drop (l * sz)).take ((u - l) * sz))) := by
      refine ⟨?_, ?_⟩
      rotate_left
      · simp only [aop, hx, Option.map_none, aslice, elem_of ht.un]
        rw [qaa, hs.sz, qaa, show Nat.beq (n * sz) cells.length = true by simpa using e', qar, qaa, hb, qaa]
    obtain ⟨k', hv⟩ := hv
    exact O_val rfl rfl hids hv (r _ (SlV.imm _ _ _ hl.symm) rfl (fun _ c => by cases c rfl))
  | own id ver off n row fix r' e' =>
    have hr := r'
    obtain ⟨st, ho⟩ := r'
    refine O_read _ rfl rfl hids (by simp [qa4, ho]) (v := .own id ver (off + l * sz) (u - l)) ?_ (r _ ?_ rfl ?_)
    · simp only [aop, hx, Option.map_none, aslice, elem_of ht.un]
      rw [qaa, hs.sz, qaa, run_bind, qcz ho]
      dsimp only
      rw [show (Nat.beq sz sz && Nat.ble (off + n * sz) row.length) = true by simpa using e', qar, qaa, abounds_more hb room_le, qaa]
      rfl
    · have := SlV.own id ver (off + l * sz) (u - l) row fix hr (by omega)
      rw [← drop_more] at this
      rw [List.drop_take, List.take_take, Nat.min_eq_left (by omega)]
      exact this
    · rintro rfl _; simp [qcr]
theorem O_slice_own {t e : TypeId} {x : Operand} {lo hi : Option Operand} {id ver off n esz l u : Nat} {row : List AV} {fix : Bool} [ht : TSl P t e] [hs : TSz P e esz] (hx : qaj T x = .own id ver off n) (hr : Row h id ver esz row fix) (hb : qcb n n (lo.map (qaj T)) (hi.map (qaj T)) = Pure.pure (l, u)) (hg : off + n * esz ≤ row.length)
    (r : qbq P pol call fn nt R rest ((i, [(false, id)]) :: seen) (qa2? nt T d (.own id ver (off + l * esz) (u - l))) h Q) :
    qbq P pol call fn nt R ((i, ⟨d, .slice t x lo hi none, ty, pos, after, none⟩) :: rest) seen T h Q := by
  obtain ⟨st, ho⟩ := hr
  refine O_read _ rfl rfl (slice_ids hx (bound_noids hb).1 (bound_noids hb).2) (by simp [qb2, ho]) (v := .own id ver (off + l * esz) (u - l)) ?_ r
  simp only [aop, hx, Option.map_none, aslice, elem_of ht.un]
  rw [qaa, hs.sz, qaa, run_bind, qcz ho]
  dsimp only
  rw [show (Nat.beq esz esz && Nat.ble (off + n * esz) row.length) = true by simpa using hg, qar, qaa, abounds_more hb room_le, qaa]
  rfl
theorem O_makeSliceC {t e : TypeId} {l c : Operand} {n m sz bytes : Nat} {z : AV} [ht : TSl P t e] [hs : TSz P e sz] [hb' : qae P e bytes] [hz' : qam P e z] (hl : qaj T l = .int .i64 (n : Int)) (hc : qaj T c = .int .i64 (m : Int))
    (hz : (!(Nat.beq sz 0) && Nat.beq (acells z).length sz) = true) (hnm : n ≤ m) (hn : m < 140737488355328) (hb : m * bytes ≤ room)
    (r : ∀ h1 id, Keep h h1 → Row h1 id 0 sz (qan (acells z) m) true → h.next ≤ id → id < h1.next → qbq P pol call fn nt R rest seen (qa2? nt T d (.own id 0 0 n)) h1 Q) :
    qbq P pol call fn nt R ((i, ⟨d, .makeSlice t l c, ty, pos, after, none⟩) :: rest) seen T h Q := by
  refine O_make rfl rfl (Runs.wf fun w => ?_)
  simp only [aop, hl, hc, elem_of ht.un]
  simp only [Bool.and_eq_true] at hz
  rw [qaa, hs.sz, qaa, hb'.bytes, qaa, hz'.zero, qaa]
  rw [show (decide (0 ≤ (n : Int) ∧ (n : Int) ≤ (m : Int)) && Nat.ble ((m : Int).toNat * bytes) room && Nat.ble (m : Int).toNat maxInt && Nat.beq (acells z).length sz && !(Nat.beq sz 0)) = true by
    rw [hz.1, hz.2]; simp [hb, maxInt]; omega, qar, qaa]
  exact Runs.bind (Runs.halloc (Runs.pure (r _ _ (Keep.alloc w _) ⟨_, qbm _ _ _ _⟩ (Nat.le_refl _) (Nat.lt_succ_self _))))
theorem O_makeSlice {t e : TypeId} {l c : Operand} {n sz bytes : Nat} {z : AV} [ht : TSl P t e] [hs : TSz P e sz] [hb' : qae P e bytes] [hz' : qam P e z] (hl : qaj T l = .int .i64 (n : Int)) (hc : qaj T c = .int .i64 (n : Int))
    (hz : (!(Nat.beq sz 0) && Nat.beq (acells z).length sz) = true) (hn : n < 140737488355328) (hb : n * bytes ≤ room)
    (r : ∀ h1 id, Keep h h1 → Row h1 id 0 sz (qan (acells z) n) true → h.next ≤ id → id < h1.next → qbq P pol call fn nt R rest seen (qa2? nt T d (.own id 0 0 n)) h1 Q) :
    qbq P pol call fn nt R ((i, ⟨d, .makeSlice t l c, ty, pos, after, none⟩) :: rest) seen T h Q := O_makeSliceC hl hc hz (Nat.le_refl _) hn hb r
theorem qbv : ([] : List (Nat × Operand)).map (fun (i, x) => (i, qaj T x)) = [] := rfl
theorem qa0 {j : Nat} {x : Operand} {l : List (Nat × Operand)} {v : AV} {vs : List (Nat × AV)} (h1 : qaj T x = v) (h2 : l.map (fun (i, x) => (i, qaj T x)) = vs) : ((j, x) :: l).map (fun (i, x) => (i, qaj T x)) = (j, v) :: vs := by
  rw [List.map_cons]
  dsimp only
  rw [h1]
  exact congrArg _ h2
theorem O_build {t : TypeId} {parts : Array (Nat × Operand)} {l : List (Nat × AV)} {fs : List (Nat × Nat)} {z c' : List AV} [ht : qbc P t fs z] (hl : parts.toList.map (fun (i, x) => (i, qaj T x)) = l) (hv : afillL fs z l = some c')
    (r : qbq P pol call fn nt R rest ((i, []) :: seen) (qa2? nt T d (.agg c')) h Q) : qbq P pol call fn nt R ((i, ⟨d, .build t parts, ty, pos, after, none⟩) :: rest) seen T h Q :=
  O_val rfl rfl rfl (by simp only [aop, hl, ht.build, afillL_ok hv]; rfl) r
theorem qbl {t e : TypeId} {len sz : Nat} {parts : Array (Nat × Operand)} {l : List (Nat × AV)} {z : AV} {c' : List AV} [ht : TSl P t e] [hs : TSz P e sz] [hz' : qam P e z] (hl : parts.toList.map (fun (i, x) => (i, qaj T x)) = l)
    (hz : (Nat.ble (len * sz) 16777216 && Nat.beq (acells z).length sz) = true) (hv : afillL ((List.range len).map fun i => (i * sz, sz)) (qan (acells z) len) l = some c') (hp : pol.lit fn (d.getD 0) = false)
    (r : c'.length = len * sz → qbq P pol call fn nt R rest seen (qa2? nt T d (.sl .full len c')) h Q) : qbq P pol call fn nt R ((i, ⟨d, .buildSlice t len parts, ty, pos, after, none⟩) :: rest) seen T h Q := by
  refine O_make rfl rfl ?_
  simp only [Bool.and_eq_true] at hz
  have hfill : ∀ {parts : List (Nat × AV)} {cells c' : List AV}, afillL ((List.range len).map fun i => (i * sz, sz)) cells parts = some c' → afill (fun i => some (i * sz, sz)) cells parts = pure c' ∧ c'.length = cells.length := by
    intro parts
    induction parts with
    | nil => intro cells c' e; cases e; exact ⟨rfl, rfl⟩
    | cons p r ih =>
      obtain ⟨j, v⟩ := p
      intro cells c' e
      simp only [afillL] at e
      cases hf : ((List.range len).map fun i => (i * sz, sz))[j]? with
      | none => rw [hf] at e; cases e
      | some p =>
        obtain ⟨off, size⟩ := p
        rw [hf] at e
        obtain ⟨hj, hq⟩ := List.getElem?_eq_some_iff.1 hf
        simp at hq
        obtain ⟨rfl, rfl⟩ := hq
        dsimp only at e
        cases hc : (Nat.beq (acells v).length sz && Nat.ble (j * sz + sz) cells.length && known v) with
        | false => rw [hc] at e; cases e
        | true =>
          rw [hc] at e
          simp only [afill]
          obtain ⟨h1, h2⟩ := ih e
          rw [hc, qar, qaa, h1]
          simp only [Bool.and_eq_true] at hc
          have h3 : (acells v).length = sz := by simpa using hc.1.1
          have h4 : j * sz + sz ≤ cells.length := by simpa using hc.1.2
          exact ⟨rfl, by rw [h2, qby (by omega)]⟩
  have hrl : ∀ n, (qan (acells z) n).length = n * (acells z).length := by
    intro n; induction n with
    | zero => simp [qan]
    | succ n ih => simp [qan, ih, Nat.succ_mul]; omega
  have hzl : (acells z).length = sz := by simpa using hz.2
  obtain ⟨h1, h2⟩ := hfill hv
  have hab : qc3 P t len l = pure (sz, c') := by
    simp only [qc3, elem_of ht.un]
    rw [qaa, hs.sz, qaa, hz.1, qar, qaa]
    cases len with
    | zero =>
      simp only [zeroUnless]
      rw [qaa]
      simp only [qan] at h1 ⊢
      rw [show (Nat.beq 0 0 || Nat.beq (acells (.agg [])).length sz) = true by simp, qar, qaa, h1, qaa]
    | succ n =>
      simp only [zeroUnless, hz'.zero]
      rw [qaa, hz.2, Bool.or_true, qar, qaa, h1, qaa]
  simp only [aop, hl, hab]
  rw [qaa]
  dsimp only
  rw [hp]
  exact Runs.pure (r (by rw [h2, hrl, hzl]))

/-! ### maps whose keys are texts -/
theorem O_lookup {t kt et : TypeId} {x k : Operand} {ok : Bool} {id : Nat} {es : List (AV × AV)} {s : List UInt8} {z : AV} {res : Option AV} [ht : TMap P t kt et] [hk' : TStr P kt] [hz : qam P et z] (hx : qaj T x = .mapv id) (hk : qaj T k = .str s) (hm : MapAt h id es) (hf : afind (.str s) es = some res)
    (r : qbq P pol call fn nt R rest ((i, [(true, id)]) :: seen) (qa2? nt T d (cond ok (.tuple [res.getD z, .bool res.isSome]) (res.getD z))) h Q) : qbq P pol call fn nt R ((i, ⟨d, .lookup t x k ok, ty, pos, after, none⟩) :: rest) seen T h Q := by
  obtain ⟨ver, st, ho⟩ := hm
  refine O_read [(true, id)] rfl rfl ?_ (by simp [ho]) ?_ r
  · have : qbr (qaj T) ⟨d, .lookup t x k ok, ty, pos, after, none⟩ = (qb2 (qaj T x) ++ qb2 (qaj T k)).map fun id => (true, id) := by simp [qbr, looksIn, Op.operands]
    rw [this, hx, hk]; rfl
  · simp only [aop, hx, hk, alookup, ht.un]
    rw [show goodKey P kt (.str s) = true by unfold goodKey; rw [hk'.un], qar, qaa]
    simp only [entriesOf, mapOf]
    rw [run_bind, run_bind]
    simp only [AM.hget, ho]
    simp only [run_pure]
    rw [hf, ofOption_some', qaa, hz.zero, qaa]
    rfl
theorem O_lookup_nil {t kt et : TypeId} {x k : Operand} {ok : Bool} {s : List UInt8} {z : AV} [ht : TMap P t kt et] [hk' : TStr P kt] [hz : qam P et z] (hx : qaj T x = .nilmap) (hk : qaj T k = .str s)
    (r : qbq P pol call fn nt R rest ((i, []) :: seen) (qa2? nt T d (cond ok (.tuple [z, .bool false]) z)) h Q) : qbq P pol call fn nt R ((i, ⟨d, .lookup t x k ok, ty, pos, after, none⟩) :: rest) seen T h Q := by
  refine O_val rfl rfl ?_ ?_ r
  · have : qbr (qaj T) ⟨d, .lookup t x k ok, ty, pos, after, none⟩ = (qb2 (qaj T x) ++ qb2 (qaj T k)).map fun id => (true, id) := by simp [qbr, looksIn, Op.operands]
    rw [this, hx, hk]; rfl
  · simp only [aop, hx, hk, alookup, ht.un]
    rw [show goodKey P kt (.str s) = true by unfold goodKey; rw [hk'.un], qar, qaa]
    simp only [entriesOf]
    rw [qaa, show afind (.str s) [] = some Option.none from rfl, ofOption_some', qaa, hz.zero, qaa]
    cases ok <;> rfl
theorem O_mapUpd {t kt et : TypeId} {m k x : Operand} {b : Bool} {id : Nat} {es : List (AV × AV)} {s : List UInt8} {v : AV} {res : Option AV} [ht : TMap P t kt et] [hk' : TStr P kt] (hx : qaj T m = .mapv id) (hk : qaj T k = .str s) (hv : qaj T x = v) (hm : MapAt h id es) (hf : afind (.str s) es = some res)
    (r : ∀ h1, KeepBut (· = id) h h1 → MapAt h1 id (aupd (.str s) v es) → Undis R seen i h h1 ∧ qbq P pol call fn nt R rest seen (qa2? nt T d (.tuple [])) h1 Q) : qbq P pol call fn nt R ((i, ⟨d, cond b (.mapUpdate t m k x) (.insert t m k x), ty, pos, after, none⟩) :: rest) seen T h Q := by
  obtain ⟨ver, st, ho⟩ := hm
  refine O_do rfl (by cases b <;> rfl) ?_
  have : aop P pol call fn ⟨d, cond b (.mapUpdate t m k x) (.insert t m k x), ty, pos, after, none⟩ (qaj T) = (do amapUpdate P t (.mapv id) (.str s) v; pure (.tuple [])) := by
    cases b <;> simp only [aop, cond_true, cond_false, hx, hk, hv]
  rw [this]
  simp only [amapUpdate, ht.un]
  rw [show goodKey P kt (.str s) = true by unfold goodKey; rw [hk'.un], qar, qaa]
  refine Runs.bind (Runs.bind (Runs.hget ho ?_))
  dsimp only
  rw [hf, ofOption_some', qaa]
  exact Runs.hput ho (Nat.le_refl _) (Runs.pure (r _ (KeepBut.put _) ⟨_, _, qbm _ _ _ _⟩))
theorem O_mapUpdate {t kt et : TypeId} {m k x : Operand} {id : Nat} {es : List (AV × AV)} {s : List UInt8} {v : AV} {res : Option AV} [ht : TMap P t kt et] [hk' : TStr P kt] (hx : qaj T m = .mapv id) (hk : qaj T k = .str s) (hv : qaj T x = v) (hm : MapAt h id es) (hf : afind (.str s) es = some res)
    (r : ∀ h1, KeepBut (· = id) h h1 → MapAt h1 id (aupd (.str s) v es) → Undis R seen i h h1 ∧ qbq P pol call fn nt R rest seen (qa2? nt T d (.tuple [])) h1 Q) : qbq P pol call fn nt R ((i, ⟨d, .mapUpdate t m k x, ty, pos, after, none⟩) :: rest) seen T h Q :=
  O_mapUpd (b := true) hx hk hv hm hf r
/-- where ways meet again -/
def KMid (Mid : qag → Hp → Prop) (Q : Exit × qag → Hp → Prop) : Exit × qag → Hp → Prop := fun x h1 => match x with
  | (.normal, T1) => Mid T1 h1
  | x => Q x h1
theorem K_mid {Mid : qag → Hp → Prop} {Q : Exit × qag → Hp → Prop} {T : qag} {h : Hp} (r : Mid T h) : KMid Mid Q (.normal, T) h := r
theorem K_mid_ret {Mid : qag → Hp → Prop} {Q : Exit × qag → Hp → Prop} {T : qag} {h : Hp} (r : Q (.ret, T) h) : KMid Mid Q (.ret, T) h := r
theorem K_mid_exit {Mid : qag → Hp → Prop} {Q : Exit × qag → Hp → Prop} {T : qag} {h : Hp} {id : Nat} (r : Q (.exit id, T) h) : KMid Mid Q (.exit id, T) h := r
theorem R_mid {c rest : Code} {T : qag} {h : Hp} {Q : Exit × qag → Hp → Prop} (Mid : qag → Hp → Prop) (r1 : Runs (qaw P pol call fn nt fuel c T) h (KMid Mid Q)) (r2 : ∀ T1 h1, Mid T1 h1 → Runs (qaw P pol call fn nt fuel rest T1) h1 Q) :
    Runs (qaw P pol call fn nt fuel c T) h (KSeq P pol call fn nt fuel rest Q) := r1.mono fun x h1 q => by
  obtain ⟨e, T1⟩ := x
  cases e <;> first | exact r2 T1 h1 q | exact q
/-- a slice against nil -/
theorem O_eqNil {op : BinOp} {t t' e : TypeId} {x y : Operand} {v u : AV} {b : Bool} [hu : TSl P t e] (hx : qaj T x = v) (hy : qaj T y = .sl .nil 0 []) (hop : op = .eql ∧ u = .bool b ∨ op = .neq ∧ u = .bool !b)
    (hv : (∃ id ver off n sz row fix, v = .own id ver off n ∧ Row h id ver sz row fix ∧ b = false) ∨ (∃ k n c, v = .sl k n c ∧ ((k = .nil ∧ b = true) ∨ (k = .full ∧ b = false))))
    (r : qbq P pol call fn nt R rest ((i, (qa4 v).map fun id => (false, id)) :: seen) (qa2? nt T d u) h Q) : qbq P pol call fn nt R ((i, ⟨d, .binOp op t x y t', ty, pos, after, none⟩) :: rest) seen T h Q := by
  have hids : qbr (qaj T) ⟨d, .binOp op t x y t', ty, pos, after, none⟩ = (qa4 v).map fun id => (false, id) := by
    rw [bin_ids hx hy]
    rcases hv with ⟨id, ver, off, n, sz, row, fix, rfl, _⟩ | ⟨k, n, c, rfl, _⟩ <;> rfl
  have key : ∀ f : Bool → AM AV, (do let b ← aequal P t v (.sl .nil 0 []); f b).run h = (f b).run h := by
    intro f
    have e : (aequal P t v (.sl .nil 0 [])).run h = some (b, h) := by
      unfold aequal
      simp only [hu.un]
      rcases hv with ⟨id, ver, off, n, sz, row, fix, rfl, ⟨st, ho⟩, rfl⟩ | ⟨k, n, c, rfl, ⟨rfl, rfl⟩ | ⟨rfl, rfl⟩⟩
      · simp only [nilKind]
        rw [run_bind, run_bind, qcz ho]
        rfl
      · rfl
      · rfl
    rw [run_bind, e]
  refine O_read _ rfl rfl hids (fun x hx => ?_) ?_ r
  · obtain ⟨y, hy, rfl⟩ := List.mem_map.1 hx
    rcases hv with ⟨id, ver, off, n, sz, row, fix, rfl, ⟨st, ho⟩, _⟩ | ⟨k, n, c, rfl, _⟩
    · simp only [qa4, List.mem_singleton] at hy; subst hy; simp [ho]
    · cases hy
  · simp only [aop, hx, hy]
    rcases hop with ⟨rfl, rfl⟩ | ⟨rfl, rfl⟩
    · have : abin P .eql t v (.sl .nil 0 []) = (do let b ← aequal P t v (.sl .nil 0 []); pure (.bool b)) := by
        rcases hv with ⟨id, ver, off, n, sz, row, fix, rfl, _⟩ | ⟨k, n, c, rfl, _⟩ <;> rfl
      rw [this, key]; rfl
    · have : abin P .neq t v (.sl .nil 0 []) = (do let b ← aequal P t v (.sl .nil 0 []); pure (.bool !b)) := by
        rcases hv with ⟨id, ver, off, n, sz, row, fix, rfl, _⟩ | ⟨k, n, c, rfl, _⟩ <;> rfl
      rw [this, key]; rfl
/-- results that lie in a cell -/
theorem R_res_agg {fn' : Func} {t : Tmp} {ty : TypeId} {id ver off esz n : Nat} {row c' : List AV} {fix : Bool} {Q : AV → Hp → Prop} [ht : TAgg P ty n] (hr' : fn'.results = #[.cell t ty]) (ha : qay T t = .ptr id ver off) (hr : Row h id ver esz row fix) (hl : Nat.ble (off + n) row.length = true) (hv : (row.drop off).take n = c') (q : Q (.agg c') h) :
    Runs (qa8 P fn' T) h Q := by
  have hl' : off + n ≤ row.length := by simpa using hl
  obtain ⟨st, ho⟩ := hr
  refine R_results_cell hr' ha ?_ q
  simp only [aload]
  rw [run_bind, qcz ho]
  dsimp only
  rw [ht.rd _ (by simp; omega), hv]; rfl
theorem R_res_one {fn' : Func} {t : Tmp} {ty : TypeId} {id ver off esz : Nat} {row r' : List AV} {v : AV} {fix : Bool} {Q : AV → Hp → Prop} [ht : qbs P ty] (hr' : fn'.results = #[.cell t ty]) (ha : qay T t = .ptr id ver off) (hr : Row h id ver esz row fix) (hv : row.drop off = v :: r') (q : Q v h) :
    Runs (qa8 P fn' T) h Q := by
  obtain ⟨st, ho⟩ := hr
  refine R_results_cell hr' ha ?_ q
  simp only [aload]
  rw [run_bind, qcz ho]
  dsimp only
  rw [hv, ht.rd]; rfl
end
end Go.Am
namespace Go.Am
open Go AM
def fieldsOf (P : Program) (t : TypeId) : Option (List (Nat × Nat)) := match P.underlying t with
  | some (.struct fs) => cond (fs.toList.all fun f => (P.info? f.type).isSome) (some (fs.toList.map fun f => (f.offset, ((P.info? f.type).map (·.size)).getD 0))) none
  | _ => none
theorem qaz {P : Program} {t : TypeId} {L : List (Nat × Nat)} {z : AV} {c : List AV} (h : fieldsOf P t = some L) (hz : zeroOf P t = pure z) (hc : acells z = c) : qbc P t L c := ⟨fun parts => by
  subst hc
  unfold fieldsOf at h
  split at h
  · rename_i fs hu
    cases hall : (fs.toList.all fun f => (P.info? f.type).isSome) with
    | false => rw [hall] at h; cases h
    | true =>
      rw [hall] at h
      cases h
      simp only [abuild, hz, hu]
      rw [qaa, hall, qar, qaa]
      congr 2
      funext i
      rw [List.getElem?_map]
      cases hi : fs.toList[i]? with
      | none => rfl
      | some f =>
        have := List.all_eq_true.1 hall f (List.mem_of_getElem? hi)
        obtain ⟨n, hn⟩ := Option.isSome_iff_exists.1 this
        simp [hn]
  · cases h⟩
theorem qao {P : Program} {t : TypeId} (h : ∀ v cells, aread P t (v :: cells) = pure v) : qbs P t := ⟨h⟩
theorem qbz {P : Program} {t : TypeId} {n : Nat} (h : ∀ cells, aread P t cells = (do AM.guard (Nat.ble n cells.length); pure (.agg (cells.take n)))) : TAgg P t n := ⟨fun cells hl => (h cells).trans (guard_then hl _)⟩
theorem qac {P : Program} {s t : TypeId} {f off : Nat} (h1 : ∀ id ver o, afieldAddr P s (.ptr id ver o) f = pure (.ptr id ver (o + off)))
    (h2 : ∀ cells, afieldAddr P s (.iptr cells) f = (do AM.guard (Nat.ble off cells.length); pure (.iptr (cells.drop off))))
    (h3 : ∀ cells, afield P s (.agg cells) f = (do AM.guard (Nat.ble off cells.length); aread P t (cells.drop off))) : qak P s f off t :=
  ⟨h1, fun cells hl => (h2 cells).trans (guard_then hl _), fun cells hl => (h3 cells).trans (guard_then hl _)⟩
end Go.Am
namespace Go.Am
open Go AM
/-- a step: what is to be shown, and of what it follows -/
class KW (P : Prop) (G : outParam Prop) : Prop where go : G → P
class Same {α : Sort _} (a b : α) : Prop where eq : a = b
instance {α : Sort _} (a : α) : Same a a := ⟨rfl⟩
class Num (k : Nat) (l : List Oper) (r : outParam (List (Nat × Oper))) : Prop where eq : number k l = r
instance {k : Nat} : Num k [] [] := ⟨rfl⟩
instance {k : Nat} {o : Oper} {l : List Oper} {r : List (Nat × Oper)} [a : Num (k + 1) l r] : Num k (o :: l) ((k, o) :: r) := ⟨by rw [number, a.eq]⟩
section
variable {P : Program} {pol : Pol} {call : qa6} {fn nt fuel : Nat} {h : Hp} {T : qag} {Q : Exit × qag → Hp → Prop} {a b : Code} {id id' k : Nat} {I : Nat → qag → Hp → Prop} {V : AV → Hp → Prop} {fn' : Func} {Mid : qag → Hp → Prop}
instance : KW (Runs (qaw P pol call fn nt fuel (.seq a b) T) h Q) (Runs (qaw P pol call fn nt fuel a T) h (KSeq P pol call fn nt fuel b Q)) := ⟨R_seq⟩
instance : KW (Runs (qaw P pol call fn nt fuel (.block id b) T) h Q) (Runs (qaw P pol call fn nt fuel b T) h (KBlock id Q)) := ⟨R_block⟩
instance : KW (Runs (qaw P pol call fn nt fuel .ret T) h Q) (Q (.ret, T) h) := ⟨R_ret⟩
instance : KW (Runs (qaw P pol call fn nt fuel .skip T) h Q) (Q (.normal, T) h) := ⟨R_skip⟩
instance : KW (Runs (qaw P pol call fn nt fuel (.exit id) T) h Q) (Q (.exit id, T) h) := ⟨R_exit⟩
instance {ops : List Oper} {r : List (Nat × Oper)} [n : Num 0 ops r] : KW (Runs (qaw P pol call fn nt fuel (.region id ops.toArray false) T) h Q) (qbq P pol call fn nt ⟨false, [], ops.map (·.dst)⟩ r [] T h (KOps Q)) := ⟨fun g => R_region (by rw [← n.eq] at g; exact g)⟩
instance {R : Rg} {seen : Seen} {Q : qag → Hp → Prop} : KW (qbq P pol call fn nt R [] seen T h Q) (Q T h) := ⟨O_nil⟩
instance : KW (KSeq P pol call fn nt fuel b Q (.normal, T) h) (Runs (qaw P pol call fn nt fuel b T) h Q) := ⟨K_seq⟩
instance : KW (KSeq P pol call fn nt fuel b Q (.ret, T) h) (Q (.ret, T) h) := ⟨K_seq_ret⟩
instance : KW (KSeq P pol call fn nt fuel b Q (.exit id, T) h) (Q (.exit id, T) h) := ⟨K_seq_exit⟩
instance : KW (KBlock id Q (.normal, T) h) (Q (.normal, T) h) := ⟨K_block⟩
instance : KW (KBlock id Q (.ret, T) h) (Q (.ret, T) h) := ⟨K_block_ret⟩
instance : KW (KBlock id Q (.exit id, T) h) (Q (.normal, T) h) := ⟨K_block_exit⟩
instance (priority := 900) [e : Same (Nat.beq id' id) false] : KW (KBlock id Q (.exit id', T) h) (Q (.exit id', T) h) := ⟨K_block_other e.eq⟩
instance : KW (KLoop I k Q (.ret, T) h) (Q (.ret, T) h) := ⟨K_loop_ret⟩
instance : KW (KLoop I k Q (.exit id, T) h) (Q (.exit id, T) h) := ⟨K_loop_exit⟩
instance : KW (KOps Q T h) (Q (.normal, T) h) := ⟨K_ops⟩
instance : KW (KFunc P fn' V (.ret, T) h) (Runs (qa8 P fn' T) h V) := ⟨K_func_ret⟩
instance : KW (KFunc P fn' V (.normal, T) h) (Runs (qa8 P fn' T) h V) := ⟨K_func_end⟩
instance : KW (KMid Mid Q (.ret, T) h) (Q (.ret, T) h) := ⟨K_mid_ret⟩
instance : KW (KMid Mid Q (.exit id, T) h) (Q (.exit id, T) h) := ⟨K_mid_exit⟩
end
end Go.Am
namespace Go.Am
open Go Go.Proofs
instance Try.sz0 : TSz Try.prog 0 1 := ⟨by kernel_rfl⟩
instance Try.by0 : qae Try.prog 0 0 := ⟨by kernel_rfl⟩
instance Try.ze0 : qam Try.prog 0 (.tuple []) := ⟨by kernel_rfl⟩
instance Try.rd0 : qbs Try.prog 0 := qao fun v cells => by kernel_rfl
instance Try.sz1 : TSz Try.prog 1 1 := ⟨by kernel_rfl⟩
instance Try.by1 : qae Try.prog 1 8 := ⟨by kernel_rfl⟩
instance Try.ze1 : qam Try.prog 1 .nilfunc := ⟨by kernel_rfl⟩
instance Try.rd1 : qbs Try.prog 1 := qao fun v cells => by kernel_rfl
instance Try.sz2 : TSz Try.prog 2 1 := ⟨by kernel_rfl⟩
instance Try.by2 : qae Try.prog 2 8 := ⟨by kernel_rfl⟩
instance Try.ze2 : qam Try.prog 2 (.int .i64 0) := ⟨by kernel_rfl⟩
instance Try.rd2 : qbs Try.prog 2 := qao fun v cells => by kernel_rfl
instance Try.un2 : TInt Try.prog 2 .i64 := ⟨by kernel_rfl⟩
instance Try.sz3 : TSz Try.prog 3 1 := ⟨by kernel_rfl⟩
instance Try.by3 : qae Try.prog 3 8 := ⟨by kernel_rfl⟩
instance Try.ze3 : qam Try.prog 3 (.int .i64 0) := ⟨by kernel_rfl⟩
instance Try.rd3 : qbs Try.prog 3 := qao fun v cells => by kernel_rfl
instance Try.un3 : TInt Try.prog 3 .i64 := ⟨by kernel_rfl⟩
instance Try.sz4 : TSz Try.prog 4 1 := ⟨by kernel_rfl⟩
instance Try.by4 : qae Try.prog 4 1 := ⟨by kernel_rfl⟩
instance Try.ze4 : qam Try.prog 4 (.bool false) := ⟨by kernel_rfl⟩
instance Try.rd4 : qbs Try.prog 4 := qao fun v cells => by kernel_rfl
instance Try.sz5 : TSz Try.prog 5 1 := ⟨by kernel_rfl⟩
instance Try.by5 : qae Try.prog 5 1 := ⟨by kernel_rfl⟩
instance Try.ze5 : qam Try.prog 5 (.int .u8 0) := ⟨by kernel_rfl⟩
instance Try.rd5 : qbs Try.prog 5 := qao fun v cells => by kernel_rfl
instance Try.un5 : TInt Try.prog 5 .u8 := ⟨by kernel_rfl⟩
instance Try.sz6 : TSz Try.prog 6 1 := ⟨by kernel_rfl⟩
instance Try.by6 : qae Try.prog 6 1 := ⟨by kernel_rfl⟩
instance Try.ze6 : qam Try.prog 6 (.int .u8 0) := ⟨by kernel_rfl⟩
instance Try.rd6 : qbs Try.prog 6 := qao fun v cells => by kernel_rfl
instance Try.un6 : TInt Try.prog 6 .u8 := ⟨by kernel_rfl⟩
instance Try.sz7 : TSz Try.prog 7 4 := ⟨by kernel_rfl⟩
instance Try.by7 : qae Try.prog 7 24 := ⟨by kernel_rfl⟩
instance Try.ze7 : qam Try.prog 7 (.agg [(.int .i64 0), (.int .i64 0), (.bool false), (.int .u8 0)]) := ⟨by kernel_rfl⟩
instance Try.rd7 : TAgg Try.prog 7 4 := qbz fun cells => by kernel_rfl
instance Try.fd7_0 : qak Try.prog 7 0 0 2 := qac (fun _ _ _ => by kernel_rfl) (fun _ => by kernel_rfl) (fun _ => by kernel_rfl)
instance Try.fd7_1 : qak Try.prog 7 1 1 3 := qac (fun _ _ _ => by kernel_rfl) (fun _ => by kernel_rfl) (fun _ => by kernel_rfl)
instance Try.fd7_2 : qak Try.prog 7 2 2 4 := qac (fun _ _ _ => by kernel_rfl) (fun _ => by kernel_rfl) (fun _ => by kernel_rfl)
instance Try.fd7_3 : qak Try.prog 7 3 3 6 := qac (fun _ _ _ => by kernel_rfl) (fun _ => by kernel_rfl) (fun _ => by kernel_rfl)
instance Try.st7 : qbc Try.prog 7 [(0, 1), (1, 1), (2, 1), (3, 1)] [(.int .i64 0), (.int .i64 0), (.bool false), (.int .u8 0)] := qaz (by kernel_rfl) Try.ze7.zero rfl
instance Try.sz8 : TSz Try.prog 8 4 := ⟨by kernel_rfl⟩
instance Try.by8 : qae Try.prog 8 24 := ⟨by kernel_rfl⟩
instance Try.ze8 : qam Try.prog 8 (.agg [(.int .i64 0), (.int .i64 0), (.bool false), (.int .u8 0)]) := ⟨by kernel_rfl⟩
instance Try.rd8 : TAgg Try.prog 8 4 := qbz fun cells => by kernel_rfl
instance Try.fd8_0 : qak Try.prog 8 0 0 2 := qac (fun _ _ _ => by kernel_rfl) (fun _ => by kernel_rfl) (fun _ => by kernel_rfl)
instance Try.fd8_1 : qak Try.prog 8 1 1 3 := qac (fun _ _ _ => by kernel_rfl) (fun _ => by kernel_rfl) (fun _ => by kernel_rfl)
instance Try.fd8_2 : qak Try.prog 8 2 2 4 := qac (fun _ _ _ => by kernel_rfl) (fun _ => by kernel_rfl) (fun _ => by kernel_rfl)
instance Try.fd8_3 : qak Try.prog 8 3 3 6 := qac (fun _ _ _ => by kernel_rfl) (fun _ => by kernel_rfl) (fun _ => by kernel_rfl)
instance Try.st8 : qbc Try.prog 8 [(0, 1), (1, 1), (2, 1), (3, 1)] [(.int .i64 0), (.int .i64 0), (.bool false), (.int .u8 0)] := qaz (by kernel_rfl) Try.ze8.zero rfl
instance Try.sz9 : TSz Try.prog 9 1 := ⟨by kernel_rfl⟩
instance Try.by9 : qae Try.prog 9 16 := ⟨by kernel_rfl⟩
instance Try.ze9 : qam Try.prog 9 (.str []) := ⟨by kernel_rfl⟩
instance Try.rd9 : qbs Try.prog 9 := qao fun v cells => by kernel_rfl
instance Try.un9 : TStr Try.prog 9 := ⟨by kernel_rfl⟩
instance Try.sz10 : TSz Try.prog 10 1 := ⟨by kernel_rfl⟩
instance Try.by10 : qae Try.prog 10 16 := ⟨by kernel_rfl⟩
instance Try.ze10 : qam Try.prog 10 (.str []) := ⟨by kernel_rfl⟩
instance Try.rd10 : qbs Try.prog 10 := qao fun v cells => by kernel_rfl
instance Try.un10 : TStr Try.prog 10 := ⟨by kernel_rfl⟩
instance Try.sz11 : TSz Try.prog 11 1 := ⟨by kernel_rfl⟩
instance Try.by11 : qae Try.prog 11 16 := ⟨by kernel_rfl⟩
instance Try.ze11 : qam Try.prog 11 (.str []) := ⟨by kernel_rfl⟩
instance Try.rd11 : qbs Try.prog 11 := qao fun v cells => by kernel_rfl
instance Try.un11 : TStr Try.prog 11 := ⟨by kernel_rfl⟩
instance Try.sz12 : TSz Try.prog 12 1 := ⟨by kernel_rfl⟩
instance Try.by12 : qae Try.prog 12 8 := ⟨by kernel_rfl⟩
instance Try.ze12 : qam Try.prog 12 (.int .u64 0) := ⟨by kernel_rfl⟩
instance Try.rd12 : qbs Try.prog 12 := qao fun v cells => by kernel_rfl
instance Try.un12 : TInt Try.prog 12 .u64 := ⟨by kernel_rfl⟩
instance Try.sz13 : TSz Try.prog 13 2 := ⟨by kernel_rfl⟩
instance Try.by13 : qae Try.prog 13 24 := ⟨by kernel_rfl⟩
instance Try.ze13 : qam Try.prog 13 (.agg [(.str []), (.int .u64 0)]) := ⟨by kernel_rfl⟩
instance Try.rd13 : TAgg Try.prog 13 2 := qbz fun cells => by kernel_rfl
instance Try.fd13_0 : qak Try.prog 13 0 0 9 := qac (fun _ _ _ => by kernel_rfl) (fun _ => by kernel_rfl) (fun _ => by kernel_rfl)
instance Try.fd13_1 : qak Try.prog 13 1 1 12 := qac (fun _ _ _ => by kernel_rfl) (fun _ => by kernel_rfl) (fun _ => by kernel_rfl)
instance Try.st13 : qbc Try.prog 13 [(0, 1), (1, 1)] [(.str []), (.int .u64 0)] := qaz (by kernel_rfl) Try.ze13.zero rfl
instance Try.sz14 : TSz Try.prog 14 2 := ⟨by kernel_rfl⟩
instance Try.by14 : qae Try.prog 14 24 := ⟨by kernel_rfl⟩
instance Try.ze14 : qam Try.prog 14 (.agg [(.str []), (.int .u64 0)]) := ⟨by kernel_rfl⟩
instance Try.rd14 : TAgg Try.prog 14 2 := qbz fun cells => by kernel_rfl
instance Try.fd14_0 : qak Try.prog 14 0 0 9 := qac (fun _ _ _ => by kernel_rfl) (fun _ => by kernel_rfl) (fun _ => by kernel_rfl)
instance Try.fd14_1 : qak Try.prog 14 1 1 12 := qac (fun _ _ _ => by kernel_rfl) (fun _ => by kernel_rfl) (fun _ => by kernel_rfl)
instance Try.st14 : qbc Try.prog 14 [(0, 1), (1, 1)] [(.str []), (.int .u64 0)] := qaz (by kernel_rfl) Try.ze14.zero rfl
instance Try.sz15 : TSz Try.prog 15 1 := ⟨by kernel_rfl⟩
instance Try.by15 : qae Try.prog 15 8 := ⟨by kernel_rfl⟩
instance Try.ze15 : qam Try.prog 15 .nilptr := ⟨by kernel_rfl⟩
instance Try.rd15 : qbs Try.prog 15 := qao fun v cells => by kernel_rfl
instance Try.sz16 : TSz Try.prog 16 1 := ⟨by kernel_rfl⟩
instance Try.by16 : qae Try.prog 16 8 := ⟨by kernel_rfl⟩
instance Try.ze16 : qam Try.prog 16 .nilptr := ⟨by kernel_rfl⟩
instance Try.rd16 : qbs Try.prog 16 := qao fun v cells => by kernel_rfl
instance Try.sz17 : TSz Try.prog 17 1 := ⟨by kernel_rfl⟩
instance Try.by17 : qae Try.prog 17 8 := ⟨by kernel_rfl⟩
instance Try.ze17 : qam Try.prog 17 .nilptr := ⟨by kernel_rfl⟩
instance Try.rd17 : qbs Try.prog 17 := qao fun v cells => by kernel_rfl
instance Try.sz18 : TSz Try.prog 18 1 := ⟨by kernel_rfl⟩
instance Try.by18 : qae Try.prog 18 8 := ⟨by kernel_rfl⟩
instance Try.ze18 : qam Try.prog 18 (.agg [.nilptr]) := ⟨by kernel_rfl⟩
instance Try.rd18 : TAgg Try.prog 18 1 := qbz fun cells => by kernel_rfl
instance Try.fd18_0 : qak Try.prog 18 0 0 17 := qac (fun _ _ _ => by kernel_rfl) (fun _ => by kernel_rfl) (fun _ => by kernel_rfl)
instance Try.st18 : qbc Try.prog 18 [(0, 1)] [.nilptr] := qaz (by kernel_rfl) Try.ze18.zero rfl
instance Try.sz19 : TSz Try.prog 19 1 := ⟨by kernel_rfl⟩
instance Try.by19 : qae Try.prog 19 8 := ⟨by kernel_rfl⟩
instance Try.ze19 : qam Try.prog 19 (.agg [.nilptr]) := ⟨by kernel_rfl⟩
instance Try.rd19 : TAgg Try.prog 19 1 := qbz fun cells => by kernel_rfl
instance Try.fd19_0 : qak Try.prog 19 0 0 17 := qac (fun _ _ _ => by kernel_rfl) (fun _ => by kernel_rfl) (fun _ => by kernel_rfl)
instance Try.st19 : qbc Try.prog 19 [(0, 1)] [.nilptr] := qaz (by kernel_rfl) Try.ze19.zero rfl
instance Try.sz20 : TSz Try.prog 20 1 := ⟨by kernel_rfl⟩
instance Try.by20 : qae Try.prog 20 16 := ⟨by kernel_rfl⟩
instance Try.ze20 : qam Try.prog 20 .niliface := ⟨by kernel_rfl⟩
instance Try.rd20 : qbs Try.prog 20 := qao fun v cells => by kernel_rfl
instance Try.sz21 : TSz Try.prog 21 1 := ⟨by kernel_rfl⟩
instance Try.by21 : qae Try.prog 21 4 := ⟨by kernel_rfl⟩
instance Try.ze21 : qam Try.prog 21 (.int .i32 0) := ⟨by kernel_rfl⟩
instance Try.rd21 : qbs Try.prog 21 := qao fun v cells => by kernel_rfl
instance Try.un21 : TInt Try.prog 21 .i32 := ⟨by kernel_rfl⟩
instance Try.sz22 : TSz Try.prog 22 1 := ⟨by kernel_rfl⟩
instance Try.by22 : qae Try.prog 22 24 := ⟨by kernel_rfl⟩
instance Try.ze22 : qam Try.prog 22 (.sl .nil 0 []) := ⟨by kernel_rfl⟩
instance Try.rd22 : qbs Try.prog 22 := qao fun v cells => by kernel_rfl
instance Try.un22 : TSl Try.prog 22 52 := ⟨by kernel_rfl⟩
instance Try.sz23 : TSz Try.prog 23 5 := ⟨by kernel_rfl⟩
instance Try.by23 : qae Try.prog 23 56 := ⟨by kernel_rfl⟩
instance Try.ze23 : qam Try.prog 23 (.agg [(.int .i64 0), (.int .i64 0), (.int .i64 0), (.int .i64 0), (.sl .nil 0 [])]) := ⟨by kernel_rfl⟩
instance Try.rd23 : TAgg Try.prog 23 5 := qbz fun cells => by kernel_rfl
instance Try.fd23_0 : qak Try.prog 23 0 0 3 := qac (fun _ _ _ => by kernel_rfl) (fun _ => by kernel_rfl) (fun _ => by kernel_rfl)
instance Try.fd23_1 : qak Try.prog 23 1 1 3 := qac (fun _ _ _ => by kernel_rfl) (fun _ => by kernel_rfl) (fun _ => by kernel_rfl)
instance Try.fd23_2 : qak Try.prog 23 2 2 3 := qac (fun _ _ _ => by kernel_rfl) (fun _ => by kernel_rfl) (fun _ => by kernel_rfl)
instance Try.fd23_3 : qak Try.prog 23 3 3 3 := qac (fun _ _ _ => by kernel_rfl) (fun _ => by kernel_rfl) (fun _ => by kernel_rfl)
instance Try.fd23_4 : qak Try.prog 23 4 4 22 := qac (fun _ _ _ => by kernel_rfl) (fun _ => by kernel_rfl) (fun _ => by kernel_rfl)
instance Try.st23 : qbc Try.prog 23 [(0, 1), (1, 1), (2, 1), (3, 1), (4, 1)] [(.int .i64 0), (.int .i64 0), (.int .i64 0), (.int .i64 0), (.sl .nil 0 [])] := qaz (by kernel_rfl) Try.ze23.zero rfl
instance Try.sz24 : TSz Try.prog 24 5 := ⟨by kernel_rfl⟩
instance Try.by24 : qae Try.prog 24 56 := ⟨by kernel_rfl⟩
instance Try.ze24 : qam Try.prog 24 (.agg [(.int .i64 0), (.int .i64 0), (.int .i64 0), (.int .i64 0), (.sl .nil 0 [])]) := ⟨by kernel_rfl⟩
instance Try.rd24 : TAgg Try.prog 24 5 := qbz fun cells => by kernel_rfl
instance Try.fd24_0 : qak Try.prog 24 0 0 3 := qac (fun _ _ _ => by kernel_rfl) (fun _ => by kernel_rfl) (fun _ => by kernel_rfl)
instance Try.fd24_1 : qak Try.prog 24 1 1 3 := qac (fun _ _ _ => by kernel_rfl) (fun _ => by kernel_rfl) (fun _ => by kernel_rfl)
instance Try.fd24_2 : qak Try.prog 24 2 2 3 := qac (fun _ _ _ => by kernel_rfl) (fun _ => by kernel_rfl) (fun _ => by kernel_rfl)
instance Try.fd24_3 : qak Try.prog 24 3 3 3 := qac (fun _ _ _ => by kernel_rfl) (fun _ => by kernel_rfl) (fun _ => by kernel_rfl)
instance Try.fd24_4 : qak Try.prog 24 4 4 22 := qac (fun _ _ _ => by kernel_rfl) (fun _ => by kernel_rfl) (fun _ => by kernel_rfl)
instance Try.st24 : qbc Try.prog 24 [(0, 1), (1, 1), (2, 1), (3, 1), (4, 1)] [(.int .i64 0), (.int .i64 0), (.int .i64 0), (.int .i64 0), (.sl .nil 0 [])] := qaz (by kernel_rfl) Try.ze24.zero rfl
instance Try.sz25 : TSz Try.prog 25 1 := ⟨by kernel_rfl⟩
instance Try.by25 : qae Try.prog 25 24 := ⟨by kernel_rfl⟩
instance Try.ze25 : qam Try.prog 25 (.sl .nil 0 []) := ⟨by kernel_rfl⟩
instance Try.rd25 : qbs Try.prog 25 := qao fun v cells => by kernel_rfl
instance Try.un25 : TSl Try.prog 25 48 := ⟨by kernel_rfl⟩
instance Try.sz26 : TSz Try.prog 26 1 := ⟨by kernel_rfl⟩
instance Try.by26 : qae Try.prog 26 8 := ⟨by kernel_rfl⟩
instance Try.ze26 : qam Try.prog 26 .nilfunc := ⟨by kernel_rfl⟩
instance Try.rd26 : qbs Try.prog 26 := qao fun v cells => by kernel_rfl
instance Try.sz27 : TSz Try.prog 27 1 := ⟨by kernel_rfl⟩
instance Try.by27 : qae Try.prog 27 24 := ⟨by kernel_rfl⟩
instance Try.ze27 : qam Try.prog 27 (.sl .nil 0 []) := ⟨by kernel_rfl⟩
instance Try.rd27 : qbs Try.prog 27 := qao fun v cells => by kernel_rfl
instance Try.un27 : TSl Try.prog 27 3 := ⟨by kernel_rfl⟩
instance Try.sz28 : TSz Try.prog 28 1 := ⟨by kernel_rfl⟩
instance Try.by28 : qae Try.prog 28 24 := ⟨by kernel_rfl⟩
instance Try.ze28 : qam Try.prog 28 (.sl .nil 0 []) := ⟨by kernel_rfl⟩
instance Try.rd28 : qbs Try.prog 28 := qao fun v cells => by kernel_rfl
instance Try.un28 : TSl Try.prog 28 33 := ⟨by kernel_rfl⟩
instance Try.sz29 : TSz Try.prog 29 2 := ⟨by kernel_rfl⟩
instance Try.by29 : qae Try.prog 29 48 := ⟨by kernel_rfl⟩
instance Try.ze29 : qam Try.prog 29 (.agg [(.sl .nil 0 []), (.sl .nil 0 [])]) := ⟨by kernel_rfl⟩
instance Try.rd29 : TAgg Try.prog 29 2 := qbz fun cells => by kernel_rfl
instance Try.fd29_0 : qak Try.prog 29 0 0 27 := qac (fun _ _ _ => by kernel_rfl) (fun _ => by kernel_rfl) (fun _ => by kernel_rfl)
instance Try.fd29_1 : qak Try.prog 29 1 1 28 := qac (fun _ _ _ => by kernel_rfl) (fun _ => by kernel_rfl) (fun _ => by kernel_rfl)
instance Try.st29 : qbc Try.prog 29 [(0, 1), (1, 1)] [(.sl .nil 0 []), (.sl .nil 0 [])] := qaz (by kernel_rfl) Try.ze29.zero rfl
instance Try.sz30 : TSz Try.prog 30 2 := ⟨by kernel_rfl⟩
instance Try.by30 : qae Try.prog 30 48 := ⟨by kernel_rfl⟩
instance Try.ze30 : qam Try.prog 30 (.agg [(.sl .nil 0 []), (.sl .nil 0 [])]) := ⟨by kernel_rfl⟩
instance Try.rd30 : TAgg Try.prog 30 2 := qbz fun cells => by kernel_rfl
instance Try.fd30_0 : qak Try.prog 30 0 0 27 := qac (fun _ _ _ => by kernel_rfl) (fun _ => by kernel_rfl) (fun _ => by kernel_rfl)
instance Try.fd30_1 : qak Try.prog 30 1 1 28 := qac (fun _ _ _ => by kernel_rfl) (fun _ => by kernel_rfl) (fun _ => by kernel_rfl)
instance Try.st30 : qbc Try.prog 30 [(0, 1), (1, 1)] [(.sl .nil 0 []), (.sl .nil 0 [])] := qaz (by kernel_rfl) Try.ze30.zero rfl
instance Try.sz31 : TSz Try.prog 31 1 := ⟨by kernel_rfl⟩
instance Try.by31 : qae Try.prog 31 8 := ⟨by kernel_rfl⟩
instance Try.ze31 : qam Try.prog 31 .nilfunc := ⟨by kernel_rfl⟩
instance Try.rd31 : qbs Try.prog 31 := qao fun v cells => by kernel_rfl
instance Try.sz32 : TSz Try.prog 32 1 := ⟨by kernel_rfl⟩
instance Try.by32 : qae Try.prog 32 8 := ⟨by kernel_rfl⟩
instance Try.ze32 : qam Try.prog 32 .nilfunc := ⟨by kernel_rfl⟩
instance Try.rd32 : qbs Try.prog 32 := qao fun v cells => by kernel_rfl
instance Try.sz33 : TSz Try.prog 33 1 := ⟨by kernel_rfl⟩
instance Try.by33 : qae Try.prog 33 8 := ⟨by kernel_rfl⟩
instance Try.ze33 : qam Try.prog 33 (.int .i64 0) := ⟨by kernel_rfl⟩
instance Try.rd33 : qbs Try.prog 33 := qao fun v cells => by kernel_rfl
instance Try.un33 : TInt Try.prog 33 .i64 := ⟨by kernel_rfl⟩
instance Try.sz34 : TSz Try.prog 34 1 := ⟨by kernel_rfl⟩
instance Try.by34 : qae Try.prog 34 8 := ⟨by kernel_rfl⟩
instance Try.ze34 : qam Try.prog 34 (.int .i64 0) := ⟨by kernel_rfl⟩
instance Try.rd34 : qbs Try.prog 34 := qao fun v cells => by kernel_rfl
instance Try.un34 : TInt Try.prog 34 .i64 := ⟨by kernel_rfl⟩
instance Try.sz35 : TSz Try.prog 35 1 := ⟨by kernel_rfl⟩
instance Try.by35 : qae Try.prog 35 8 := ⟨by kernel_rfl⟩
instance Try.ze35 : qam Try.prog 35 .nilfunc := ⟨by kernel_rfl⟩
instance Try.rd35 : qbs Try.prog 35 := qao fun v cells => by kernel_rfl
instance Try.sz36 : TSz Try.prog 36 1 := ⟨by kernel_rfl⟩
instance Try.by36 : qae Try.prog 36 8 := ⟨by kernel_rfl⟩
instance Try.ze36 : qam Try.prog 36 .nilfunc := ⟨by kernel_rfl⟩
instance Try.rd36 : qbs Try.prog 36 := qao fun v cells => by kernel_rfl
instance Try.sz37 : TSz Try.prog 37 1 := ⟨by kernel_rfl⟩
instance Try.by37 : qae Try.prog 37 8 := ⟨by kernel_rfl⟩
instance Try.ze37 : qam Try.prog 37 (.int .i64 0) := ⟨by kernel_rfl⟩
instance Try.rd37 : qbs Try.prog 37 := qao fun v cells => by kernel_rfl
instance Try.un37 : TInt Try.prog 37 .i64 := ⟨by kernel_rfl⟩
instance Try.sz38 : TSz Try.prog 38 4 := ⟨by kernel_rfl⟩
instance Try.by38 : qae Try.prog 38 56 := ⟨by kernel_rfl⟩
instance Try.ze38 : qam Try.prog 38 (.agg [(.int .i64 0), (.str []), (.str []), (.str [])]) := ⟨by kernel_rfl⟩
instance Try.rd38 : TAgg Try.prog 38 4 := qbz fun cells => by kernel_rfl
instance Try.fd38_0 : qak Try.prog 38 0 0 37 := qac (fun _ _ _ => by kernel_rfl) (fun _ => by kernel_rfl) (fun _ => by kernel_rfl)
instance Try.fd38_1 : qak Try.prog 38 1 1 9 := qac (fun _ _ _ => by kernel_rfl) (fun _ => by kernel_rfl) (fun _ => by kernel_rfl)
instance Try.fd38_2 : qak Try.prog 38 2 2 9 := qac (fun _ _ _ => by kernel_rfl) (fun _ => by kernel_rfl) (fun _ => by kernel_rfl)
instance Try.fd38_3 : qak Try.prog 38 3 3 9 := qac (fun _ _ _ => by kernel_rfl) (fun _ => by kernel_rfl) (fun _ => by kernel_rfl)
instance Try.st38 : qbc Try.prog 38 [(0, 1), (1, 1), (2, 1), (3, 1)] [(.int .i64 0), (.str []), (.str []), (.str [])] := qaz (by kernel_rfl) Try.ze38.zero rfl
instance Try.sz39 : TSz Try.prog 39 4 := ⟨by kernel_rfl⟩
instance Try.by39 : qae Try.prog 39 56 := ⟨by kernel_rfl⟩
instance Try.ze39 : qam Try.prog 39 (.agg [(.int .i64 0), (.str []), (.str []), (.str [])]) := ⟨by kernel_rfl⟩
instance Try.rd39 : TAgg Try.prog 39 4 := qbz fun cells => by kernel_rfl
instance Try.fd39_0 : qak Try.prog 39 0 0 37 := qac (fun _ _ _ => by kernel_rfl) (fun _ => by kernel_rfl) (fun _ => by kernel_rfl)
instance Try.fd39_1 : qak Try.prog 39 1 1 9 := qac (fun _ _ _ => by kernel_rfl) (fun _ => by kernel_rfl) (fun _ => by kernel_rfl)
instance Try.fd39_2 : qak Try.prog 39 2 2 9 := qac (fun _ _ _ => by kernel_rfl) (fun _ => by kernel_rfl) (fun _ => by kernel_rfl)
instance Try.fd39_3 : qak Try.prog 39 3 3 9 := qac (fun _ _ _ => by kernel_rfl) (fun _ => by kernel_rfl) (fun _ => by kernel_rfl)
instance Try.st39 : qbc Try.prog 39 [(0, 1), (1, 1), (2, 1), (3, 1)] [(.int .i64 0), (.str []), (.str []), (.str [])] := qaz (by kernel_rfl) Try.ze39.zero rfl
instance Try.sz40 : TSz Try.prog 40 5 := ⟨by kernel_rfl⟩
instance Try.by40 : qae Try.prog 40 72 := ⟨by kernel_rfl⟩
instance Try.ze40 : qam Try.prog 40 (.agg [(.str []), (.int .i64 0), (.str []), (.str []), (.str [])]) := ⟨by kernel_rfl⟩
instance Try.rd40 : TAgg Try.prog 40 5 := qbz fun cells => by kernel_rfl
instance Try.fd40_0 : qak Try.prog 40 0 0 9 := qac (fun _ _ _ => by kernel_rfl) (fun _ => by kernel_rfl) (fun _ => by kernel_rfl)
instance Try.fd40_1 : qak Try.prog 40 1 1 39 := qac (fun _ _ _ => by kernel_rfl) (fun _ => by kernel_rfl) (fun _ => by kernel_rfl)
instance Try.st40 : qbc Try.prog 40 [(0, 1), (1, 4)] [(.str []), (.int .i64 0), (.str []), (.str []), (.str [])] := qaz (by kernel_rfl) Try.ze40.zero rfl
instance Try.sz41 : TSz Try.prog 41 5 := ⟨by kernel_rfl⟩
instance Try.by41 : qae Try.prog 41 72 := ⟨by kernel_rfl⟩
instance Try.ze41 : qam Try.prog 41 (.agg [(.str []), (.int .i64 0), (.str []), (.str []), (.str [])]) := ⟨by kernel_rfl⟩
instance Try.rd41 : TAgg Try.prog 41 5 := qbz fun cells => by kernel_rfl
instance Try.fd41_0 : qak Try.prog 41 0 0 9 := qac (fun _ _ _ => by kernel_rfl) (fun _ => by kernel_rfl) (fun _ => by kernel_rfl)
instance Try.fd41_1 : qak Try.prog 41 1 1 39 := qac (fun _ _ _ => by kernel_rfl) (fun _ => by kernel_rfl) (fun _ => by kernel_rfl)
instance Try.st41 : qbc Try.prog 41 [(0, 1), (1, 4)] [(.str []), (.int .i64 0), (.str []), (.str []), (.str [])] := qaz (by kernel_rfl) Try.ze41.zero rfl
instance Try.sz42 : TSz Try.prog 42 1 := ⟨by kernel_rfl⟩
instance Try.by42 : qae Try.prog 42 8 := ⟨by kernel_rfl⟩
instance Try.ze42 : qam Try.prog 42 .nilfunc := ⟨by kernel_rfl⟩
instance Try.rd42 : qbs Try.prog 42 := qao fun v cells => by kernel_rfl
instance Try.sz43 : TSz Try.prog 43 1 := ⟨by kernel_rfl⟩
instance Try.by43 : qae Try.prog 43 8 := ⟨by kernel_rfl⟩
instance Try.ze43 : qam Try.prog 43 .nilfunc := ⟨by kernel_rfl⟩
instance Try.rd43 : qbs Try.prog 43 := qao fun v cells => by kernel_rfl
instance Try.sz44 : TSz Try.prog 44 1 := ⟨by kernel_rfl⟩
instance Try.by44 : qae Try.prog 44 8 := ⟨by kernel_rfl⟩
instance Try.ze44 : qam Try.prog 44 .nilfunc := ⟨by kernel_rfl⟩
instance Try.rd44 : qbs Try.prog 44 := qao fun v cells => by kernel_rfl
instance Try.sz45 : TSz Try.prog 45 1 := ⟨by kernel_rfl⟩
instance Try.by45 : qae Try.prog 45 24 := ⟨by kernel_rfl⟩
instance Try.ze45 : qam Try.prog 45 (.sl .nil 0 []) := ⟨by kernel_rfl⟩
instance Try.rd45 : qbs Try.prog 45 := qao fun v cells => by kernel_rfl
instance Try.un45 : TSl Try.prog 45 41 := ⟨by kernel_rfl⟩
instance Try.sz46 : TSz Try.prog 46 1 := ⟨by kernel_rfl⟩
instance Try.by46 : qae Try.prog 46 24 := ⟨by kernel_rfl⟩
instance Try.ze46 : qam Try.prog 46 (.sl .nil 0 []) := ⟨by kernel_rfl⟩
instance Try.rd46 : qbs Try.prog 46 := qao fun v cells => by kernel_rfl
instance Try.un46 : TSl Try.prog 46 27 := ⟨by kernel_rfl⟩
instance Try.sz47 : TSz Try.prog 47 15 := ⟨by kernel_rfl⟩
instance Try.by47 : qae Try.prog 47 216 := ⟨by kernel_rfl⟩
instance Try.ze47 : qam Try.prog 47 (.agg [(.str []), (.int .i64 0), (.str []), (.str []), (.str []), (.str []), (.int .i64 0), (.str []), (.str []), (.str []), (.str []), (.int .i64 0), (.str []), (.str []), (.str [])]) := ⟨by kernel_rfl⟩
instance Try.rd47 : TAgg Try.prog 47 15 := qbz fun cells => by kernel_rfl
instance Try.fd47_0 : qak Try.prog 47 0 0 41 := qac (fun _ _ _ => by kernel_rfl) (fun _ => by kernel_rfl) (fun _ => by kernel_rfl)
instance Try.fd47_1 : qak Try.prog 47 1 5 41 := qac (fun _ _ _ => by kernel_rfl) (fun _ => by kernel_rfl) (fun _ => by kernel_rfl)
instance Try.fd47_2 : qak Try.prog 47 2 10 41 := qac (fun _ _ _ => by kernel_rfl) (fun _ => by kernel_rfl) (fun _ => by kernel_rfl)
instance Try.st47 : qbc Try.prog 47 [(0, 5), (5, 5), (10, 5)] [(.str []), (.int .i64 0), (.str []), (.str []), (.str []), (.str []), (.int .i64 0), (.str []), (.str []), (.str []), (.str []), (.int .i64 0), (.str []), (.str []), (.str [])] := qaz (by kernel_rfl) Try.ze47.zero rfl
instance Try.sz48 : TSz Try.prog 48 15 := ⟨by kernel_rfl⟩
instance Try.by48 : qae Try.prog 48 216 := ⟨by kernel_rfl⟩
instance Try.ze48 : qam Try.prog 48 (.agg [(.str []), (.int .i64 0), (.str []), (.str []), (.str []), (.str []), (.int .i64 0), (.str []), (.str []), (.str []), (.str []), (.int .i64 0), (.str []), (.str []), (.str [])]) := ⟨by kernel_rfl⟩
instance Try.rd48 : TAgg Try.prog 48 15 := qbz fun cells => by kernel_rfl
instance Try.fd48_0 : qak Try.prog 48 0 0 41 := qac (fun _ _ _ => by kernel_rfl) (fun _ => by kernel_rfl) (fun _ => by kernel_rfl)
instance Try.fd48_1 : qak Try.prog 48 1 5 41 := qac (fun _ _ _ => by kernel_rfl) (fun _ => by kernel_rfl) (fun _ => by kernel_rfl)
instance Try.fd48_2 : qak Try.prog 48 2 10 41 := qac (fun _ _ _ => by kernel_rfl) (fun _ => by kernel_rfl) (fun _ => by kernel_rfl)
instance Try.st48 : qbc Try.prog 48 [(0, 5), (5, 5), (10, 5)] [(.str []), (.int .i64 0), (.str []), (.str []), (.str []), (.str []), (.int .i64 0), (.str []), (.str []), (.str []), (.str []), (.int .i64 0), (.str []), (.str []), (.str [])] := qaz (by kernel_rfl) Try.ze48.zero rfl
instance Try.sz49 : TSz Try.prog 49 1 := ⟨by kernel_rfl⟩
instance Try.by49 : qae Try.prog 49 0 := ⟨by kernel_rfl⟩
instance Try.ze49 : qam Try.prog 49 .undef := ⟨by kernel_rfl⟩
instance Try.rd49 : qbs Try.prog 49 := qao fun v cells => by kernel_rfl
instance Try.sz50 : TSz Try.prog 50 1 := ⟨by kernel_rfl⟩
instance Try.by50 : qae Try.prog 50 8 := ⟨by kernel_rfl⟩
instance Try.ze50 : qam Try.prog 50 .nilfunc := ⟨by kernel_rfl⟩
instance Try.rd50 : qbs Try.prog 50 := qao fun v cells => by kernel_rfl
instance Try.sz51 : TSz Try.prog 51 7 := ⟨by kernel_rfl⟩
instance Try.by51 : qae Try.prog 51 80 := ⟨by kernel_rfl⟩
instance Try.ze51 : qam Try.prog 51 (.agg [(.int .i64 0), (.str []), (.str []), (.str []), (.int .i64 0), (.int .i64 0), (.int .i64 0)]) := ⟨by kernel_rfl⟩
instance Try.rd51 : TAgg Try.prog 51 7 := qbz fun cells => by kernel_rfl
instance Try.fd51_0 : qak Try.prog 51 0 0 39 := qac (fun _ _ _ => by kernel_rfl) (fun _ => by kernel_rfl) (fun _ => by kernel_rfl)
instance Try.fd51_1 : qak Try.prog 51 1 4 3 := qac (fun _ _ _ => by kernel_rfl) (fun _ => by kernel_rfl) (fun _ => by kernel_rfl)
instance Try.fd51_2 : qak Try.prog 51 2 5 3 := qac (fun _ _ _ => by kernel_rfl) (fun _ => by kernel_rfl) (fun _ => by kernel_rfl)
instance Try.fd51_3 : qak Try.prog 51 3 6 3 := qac (fun _ _ _ => by kernel_rfl) (fun _ => by kernel_rfl) (fun _ => by kernel_rfl)
instance Try.st51 : qbc Try.prog 51 [(0, 4), (4, 1), (5, 1), (6, 1)] [(.int .i64 0), (.str []), (.str []), (.str []), (.int .i64 0), (.int .i64 0), (.int .i64 0)] := qaz (by kernel_rfl) Try.ze51.zero rfl
instance Try.sz52 : TSz Try.prog 52 7 := ⟨by kernel_rfl⟩
instance Try.by52 : qae Try.prog 52 80 := ⟨by kernel_rfl⟩
instance Try.ze52 : qam Try.prog 52 (.agg [(.int .i64 0), (.str []), (.str []), (.str []), (.int .i64 0), (.int .i64 0), (.int .i64 0)]) := ⟨by kernel_rfl⟩
instance Try.rd52 : TAgg Try.prog 52 7 := qbz fun cells => by kernel_rfl
instance Try.fd52_0 : qak Try.prog 52 0 0 39 := qac (fun _ _ _ => by kernel_rfl) (fun _ => by kernel_rfl) (fun _ => by kernel_rfl)
instance Try.fd52_1 : qak Try.prog 52 1 4 3 := qac (fun _ _ _ => by kernel_rfl) (fun _ => by kernel_rfl) (fun _ => by kernel_rfl)
instance Try.fd52_2 : qak Try.prog 52 2 5 3 := qac (fun _ _ _ => by kernel_rfl) (fun _ => by kernel_rfl) (fun _ => by kernel_rfl)
instance Try.fd52_3 : qak Try.prog 52 3 6 3 := qac (fun _ _ _ => by kernel_rfl) (fun _ => by kernel_rfl) (fun _ => by kernel_rfl)
instance Try.st52 : qbc Try.prog 52 [(0, 4), (4, 1), (5, 1), (6, 1)] [(.int .i64 0), (.str []), (.str []), (.str []), (.int .i64 0), (.int .i64 0), (.int .i64 0)] := qaz (by kernel_rfl) Try.ze52.zero rfl
instance Try.sz53 : TSz Try.prog 53 1 := ⟨by kernel_rfl⟩
instance Try.by53 : qae Try.prog 53 8 := ⟨by kernel_rfl⟩
instance Try.ze53 : qam Try.prog 53 .nilfunc := ⟨by kernel_rfl⟩
instance Try.rd53 : qbs Try.prog 53 := qao fun v cells => by kernel_rfl
instance Try.sz54 : TSz Try.prog 54 1 := ⟨by kernel_rfl⟩
instance Try.by54 : qae Try.prog 54 8 := ⟨by kernel_rfl⟩
instance Try.ze54 : qam Try.prog 54 .nilfunc := ⟨by kernel_rfl⟩
instance Try.rd54 : qbs Try.prog 54 := qao fun v cells => by kernel_rfl
instance Try.sz55 : TSz Try.prog 55 1 := ⟨by kernel_rfl⟩
instance Try.by55 : qae Try.prog 55 8 := ⟨by kernel_rfl⟩
instance Try.ze55 : qam Try.prog 55 .nilfunc := ⟨by kernel_rfl⟩
instance Try.rd55 : qbs Try.prog 55 := qao fun v cells => by kernel_rfl
instance Try.sz56 : TSz Try.prog 56 1 := ⟨by kernel_rfl⟩
instance Try.by56 : qae Try.prog 56 8 := ⟨by kernel_rfl⟩
instance Try.ze56 : qam Try.prog 56 .nilfunc := ⟨by kernel_rfl⟩
instance Try.rd56 : qbs Try.prog 56 := qao fun v cells => by kernel_rfl
instance Try.sz57 : TSz Try.prog 57 1 := ⟨by kernel_rfl⟩
instance Try.by57 : qae Try.prog 57 8 := ⟨by kernel_rfl⟩
instance Try.ze57 : qam Try.prog 57 .nilfunc := ⟨by kernel_rfl⟩
instance Try.rd57 : qbs Try.prog 57 := qao fun v cells => by kernel_rfl
instance Try.sz58 : TSz Try.prog 58 1 := ⟨by kernel_rfl⟩
instance Try.by58 : qae Try.prog 58 8 := ⟨by kernel_rfl⟩
instance Try.ze58 : qam Try.prog 58 .nilfunc := ⟨by kernel_rfl⟩
instance Try.rd58 : qbs Try.prog 58 := qao fun v cells => by kernel_rfl
instance Try.sz59 : TSz Try.prog 59 1 := ⟨by kernel_rfl⟩
instance Try.by59 : qae Try.prog 59 8 := ⟨by kernel_rfl⟩
instance Try.ze59 : qam Try.prog 59 .nilfunc := ⟨by kernel_rfl⟩
instance Try.rd59 : qbs Try.prog 59 := qao fun v cells => by kernel_rfl
instance Try.sz60 : TSz Try.prog 60 1 := ⟨by kernel_rfl⟩
instance Try.by60 : qae Try.prog 60 8 := ⟨by kernel_rfl⟩
instance Try.ze60 : qam Try.prog 60 .nilfunc := ⟨by kernel_rfl⟩
instance Try.rd60 : qbs Try.prog 60 := qao fun v cells => by kernel_rfl
instance Try.sz61 : TSz Try.prog 61 1 := ⟨by kernel_rfl⟩
instance Try.by61 : qae Try.prog 61 8 := ⟨by kernel_rfl⟩
instance Try.ze61 : qam Try.prog 61 .nilfunc := ⟨by kernel_rfl⟩
instance Try.rd61 : qbs Try.prog 61 := qao fun v cells => by kernel_rfl
instance Try.sz62 : TSz Try.prog 62 1 := ⟨by kernel_rfl⟩
instance Try.by62 : qae Try.prog 62 24 := ⟨by kernel_rfl⟩
instance Try.ze62 : qam Try.prog 62 (.sl .nil 0 []) := ⟨by kernel_rfl⟩
instance Try.rd62 : qbs Try.prog 62 := qao fun v cells => by kernel_rfl
instance Try.un62 : TSl Try.prog 62 9 := ⟨by kernel_rfl⟩
instance Try.sz63 : TSz Try.prog 63 19 := ⟨by kernel_rfl⟩
instance Try.by63 : qae Try.prog 63 280 := ⟨by kernel_rfl⟩
instance Try.ze63 : qam Try.prog 63 (.agg [(.int .i64 0), (.int .i64 0), (.str []), (.int .i64 0), (.str []), (.str []), (.str []), (.str []), (.int .i64 0), (.str []), (.str []), (.str []), (.str []), (.int .i64 0), (.str []), (.str []), (.str []), (.sl .nil 0 []), (.sl .nil 0 [])]) := ⟨by kernel_rfl⟩
instance Try.rd63 : TAgg Try.prog 63 19 := qbz fun cells => by kernel_rfl
instance Try.fd63_0 : qak Try.prog 63 0 0 3 := qac (fun _ _ _ => by kernel_rfl) (fun _ => by kernel_rfl) (fun _ => by kernel_rfl)
instance Try.fd63_1 : qak Try.prog 63 1 1 33 := qac (fun _ _ _ => by kernel_rfl) (fun _ => by kernel_rfl) (fun _ => by kernel_rfl)
instance Try.fd63_2 : qak Try.prog 63 2 2 48 := qac (fun _ _ _ => by kernel_rfl) (fun _ => by kernel_rfl) (fun _ => by kernel_rfl)
instance Try.fd63_3 : qak Try.prog 63 3 17 62 := qac (fun _ _ _ => by kernel_rfl) (fun _ => by kernel_rfl) (fun _ => by kernel_rfl)
instance Try.fd63_4 : qak Try.prog 63 4 18 62 := qac (fun _ _ _ => by kernel_rfl) (fun _ => by kernel_rfl) (fun _ => by kernel_rfl)
instance Try.st63 : qbc Try.prog 63 [(0, 1), (1, 1), (2, 15), (17, 1), (18, 1)] [(.int .i64 0), (.int .i64 0), (.str []), (.int .i64 0), (.str []), (.str []), (.str []), (.str []), (.int .i64 0), (.str []), (.str []), (.str []), (.str []), (.int .i64 0), (.str []), (.str []), (.str []), (.sl .nil 0 []), (.sl .nil 0 [])] := qaz (by kernel_rfl) Try.ze63.zero rfl
instance Try.sz64 : TSz Try.prog 64 19 := ⟨by kernel_rfl⟩
instance Try.by64 : qae Try.prog 64 280 := ⟨by kernel_rfl⟩
instance Try.ze64 : qam Try.prog 64 (.agg [(.int .i64 0), (.int .i64 0), (.str []), (.int .i64 0), (.str []), (.str []), (.str []), (.str []), (.int .i64 0), (.str []), (.str []), (.str []), (.str []), (.int .i64 0), (.str []), (.str []), (.str []), (.sl .nil 0 []), (.sl .nil 0 [])]) := ⟨by kernel_rfl⟩
instance Try.rd64 : TAgg Try.prog 64 19 := qbz fun cells => by kernel_rfl
instance Try.fd64_0 : qak Try.prog 64 0 0 3 := qac (fun _ _ _ => by kernel_rfl) (fun _ => by kernel_rfl) (fun _ => by kernel_rfl)
instance Try.fd64_1 : qak Try.prog 64 1 1 33 := qac (fun _ _ _ => by kernel_rfl) (fun _ => by kernel_rfl) (fun _ => by kernel_rfl)
instance Try.fd64_2 : qak Try.prog 64 2 2 48 := qac (fun _ _ _ => by kernel_rfl) (fun _ => by kernel_rfl) (fun _ => by kernel_rfl)
instance Try.fd64_3 : qak Try.prog 64 3 17 62 := qac (fun _ _ _ => by kernel_rfl) (fun _ => by kernel_rfl) (fun _ => by kernel_rfl)
instance Try.fd64_4 : qak Try.prog 64 4 18 62 := qac (fun _ _ _ => by kernel_rfl) (fun _ => by kernel_rfl) (fun _ => by kernel_rfl)
instance Try.st64 : qbc Try.prog 64 [(0, 1), (1, 1), (2, 15), (17, 1), (18, 1)] [(.int .i64 0), (.int .i64 0), (.str []), (.int .i64 0), (.str []), (.str []), (.str []), (.str []), (.int .i64 0), (.str []), (.str []), (.str []), (.str []), (.int .i64 0), (.str []), (.str []), (.str []), (.sl .nil 0 []), (.sl .nil 0 [])] := qaz (by kernel_rfl) Try.ze64.zero rfl
instance Try.sz65 : TSz Try.prog 65 1 := ⟨by kernel_rfl⟩
instance Try.by65 : qae Try.prog 65 8 := ⟨by kernel_rfl⟩
instance Try.ze65 : qam Try.prog 65 .nilfunc := ⟨by kernel_rfl⟩
instance Try.rd65 : qbs Try.prog 65 := qao fun v cells => by kernel_rfl
instance Try.sz66 : TSz Try.prog 66 1 := ⟨by kernel_rfl⟩
instance Try.by66 : qae Try.prog 66 8 := ⟨by kernel_rfl⟩
instance Try.ze66 : qam Try.prog 66 .nilptr := ⟨by kernel_rfl⟩
instance Try.rd66 : qbs Try.prog 66 := qao fun v cells => by kernel_rfl
instance Try.sz67 : TSz Try.prog 67 1 := ⟨by kernel_rfl⟩
instance Try.by67 : qae Try.prog 67 8 := ⟨by kernel_rfl⟩
instance Try.ze67 : qam Try.prog 67 .nilmap := ⟨by kernel_rfl⟩
instance Try.rd67 : qbs Try.prog 67 := qao fun v cells => by kernel_rfl
instance Try.un67 : TMap Try.prog 67 9 3 := ⟨by kernel_rfl⟩
instance Try.sz68 : TSz Try.prog 68 1 := ⟨by kernel_rfl⟩
instance Try.by68 : qae Try.prog 68 8 := ⟨by kernel_rfl⟩
instance Try.ze68 : qam Try.prog 68 (.agg [.nilmap]) := ⟨by kernel_rfl⟩
instance Try.rd68 : TAgg Try.prog 68 1 := qbz fun cells => by kernel_rfl
instance Try.fd68_0 : qak Try.prog 68 0 0 67 := qac (fun _ _ _ => by kernel_rfl) (fun _ => by kernel_rfl) (fun _ => by kernel_rfl)
instance Try.st68 : qbc Try.prog 68 [(0, 1)] [.nilmap] := qaz (by kernel_rfl) Try.ze68.zero rfl
instance Try.sz69 : TSz Try.prog 69 1 := ⟨by kernel_rfl⟩
instance Try.by69 : qae Try.prog 69 8 := ⟨by kernel_rfl⟩
instance Try.ze69 : qam Try.prog 69 (.agg [.nilmap]) := ⟨by kernel_rfl⟩
instance Try.rd69 : TAgg Try.prog 69 1 := qbz fun cells => by kernel_rfl
instance Try.fd69_0 : qak Try.prog 69 0 0 67 := qac (fun _ _ _ => by kernel_rfl) (fun _ => by kernel_rfl) (fun _ => by kernel_rfl)
instance Try.st69 : qbc Try.prog 69 [(0, 1)] [.nilmap] := qaz (by kernel_rfl) Try.ze69.zero rfl
instance Try.sz70 : TSz Try.prog 70 8 := ⟨by kernel_rfl⟩
instance Try.by70 : qae Try.prog 70 112 := ⟨by kernel_rfl⟩
instance Try.ze70 : qam Try.prog 70 (.agg [.nilmap, (.int .i64 0), (.int .i64 0), (.int .i64 0), (.int .i64 0), (.sl .nil 0 []), (.sl .nil 0 []), (.sl .nil 0 [])]) := ⟨by kernel_rfl⟩
instance Try.rd70 : TAgg Try.prog 70 8 := qbz fun cells => by kernel_rfl
instance Try.fd70_0 : qak Try.prog 70 0 0 69 := qac (fun _ _ _ => by kernel_rfl) (fun _ => by kernel_rfl) (fun _ => by kernel_rfl)
instance Try.fd70_1 : qak Try.prog 70 1 1 24 := qac (fun _ _ _ => by kernel_rfl) (fun _ => by kernel_rfl) (fun _ => by kernel_rfl)
instance Try.fd70_2 : qak Try.prog 70 2 6 25 := qac (fun _ _ _ => by kernel_rfl) (fun _ => by kernel_rfl) (fun _ => by kernel_rfl)
instance Try.fd70_3 : qak Try.prog 70 3 7 27 := qac (fun _ _ _ => by kernel_rfl) (fun _ => by kernel_rfl) (fun _ => by kernel_rfl)
instance Try.st70 : qbc Try.prog 70 [(0, 1), (1, 5), (6, 1), (7, 1)] [.nilmap, (.int .i64 0), (.int .i64 0), (.int .i64 0), (.int .i64 0), (.sl .nil 0 []), (.sl .nil 0 []), (.sl .nil 0 [])] := qaz (by kernel_rfl) Try.ze70.zero rfl
instance Try.sz71 : TSz Try.prog 71 8 := ⟨by kernel_rfl⟩
instance Try.by71 : qae Try.prog 71 112 := ⟨by kernel_rfl⟩
instance Try.ze71 : qam Try.prog 71 (.agg [.nilmap, (.int .i64 0), (.int .i64 0), (.int .i64 0), (.int .i64 0), (.sl .nil 0 []), (.sl .nil 0 []), (.sl .nil 0 [])]) := ⟨by kernel_rfl⟩
instance Try.rd71 : TAgg Try.prog 71 8 := qbz fun cells => by kernel_rfl
instance Try.fd71_0 : qak Try.prog 71 0 0 69 := qac (fun _ _ _ => by kernel_rfl) (fun _ => by kernel_rfl) (fun _ => by kernel_rfl)
instance Try.fd71_1 : qak Try.prog 71 1 1 24 := qac (fun _ _ _ => by kernel_rfl) (fun _ => by kernel_rfl) (fun _ => by kernel_rfl)
instance Try.fd71_2 : qak Try.prog 71 2 6 25 := qac (fun _ _ _ => by kernel_rfl) (fun _ => by kernel_rfl) (fun _ => by kernel_rfl)
instance Try.fd71_3 : qak Try.prog 71 3 7 27 := qac (fun _ _ _ => by kernel_rfl) (fun _ => by kernel_rfl) (fun _ => by kernel_rfl)
instance Try.st71 : qbc Try.prog 71 [(0, 1), (1, 5), (6, 1), (7, 1)] [.nilmap, (.int .i64 0), (.int .i64 0), (.int .i64 0), (.int .i64 0), (.sl .nil 0 []), (.sl .nil 0 []), (.sl .nil 0 [])] := qaz (by kernel_rfl) Try.ze71.zero rfl
instance Try.sz72 : TSz Try.prog 72 1 := ⟨by kernel_rfl⟩
instance Try.by72 : qae Try.prog 72 0 := ⟨by kernel_rfl⟩
instance Try.ze72 : qam Try.prog 72 .undef := ⟨by kernel_rfl⟩
instance Try.rd72 : qbs Try.prog 72 := qao fun v cells => by kernel_rfl
instance Try.sz73 : TSz Try.prog 73 1 := ⟨by kernel_rfl⟩
instance Try.by73 : qae Try.prog 73 8 := ⟨by kernel_rfl⟩
instance Try.ze73 : qam Try.prog 73 .nilfunc := ⟨by kernel_rfl⟩
instance Try.rd73 : qbs Try.prog 73 := qao fun v cells => by kernel_rfl
instance Try.sz74 : TSz Try.prog 74 1 := ⟨by kernel_rfl⟩
instance Try.by74 : qae Try.prog 74 8 := ⟨by kernel_rfl⟩
instance Try.ze74 : qam Try.prog 74 .nilfunc := ⟨by kernel_rfl⟩
instance Try.rd74 : qbs Try.prog 74 := qao fun v cells => by kernel_rfl
instance Try.sz75 : TSz Try.prog 75 1 := ⟨by kernel_rfl⟩
instance Try.by75 : qae Try.prog 75 8 := ⟨by kernel_rfl⟩
instance Try.ze75 : qam Try.prog 75 .nilfunc := ⟨by kernel_rfl⟩
instance Try.rd75 : qbs Try.prog 75 := qao fun v cells => by kernel_rfl
instance Try.sz76 : TSz Try.prog 76 1 := ⟨by kernel_rfl⟩
instance Try.by76 : qae Try.prog 76 8 := ⟨by kernel_rfl⟩
instance Try.ze76 : qam Try.prog 76 .nilfunc := ⟨by kernel_rfl⟩
instance Try.rd76 : qbs Try.prog 76 := qao fun v cells => by kernel_rfl
instance Try.sz77 : TSz Try.prog 77 1 := ⟨by kernel_rfl⟩
instance Try.by77 : qae Try.prog 77 8 := ⟨by kernel_rfl⟩
instance Try.ze77 : qam Try.prog 77 .nilfunc := ⟨by kernel_rfl⟩
instance Try.rd77 : qbs Try.prog 77 := qao fun v cells => by kernel_rfl
instance Try.sz78 : TSz Try.prog 78 1 := ⟨by kernel_rfl⟩
instance Try.by78 : qae Try.prog 78 8 := ⟨by kernel_rfl⟩
instance Try.ze78 : qam Try.prog 78 .nilfunc := ⟨by kernel_rfl⟩
instance Try.rd78 : qbs Try.prog 78 := qao fun v cells => by kernel_rfl
instance Try.sz79 : TSz Try.prog 79 1 := ⟨by kernel_rfl⟩
instance Try.by79 : qae Try.prog 79 8 := ⟨by kernel_rfl⟩
instance Try.ze79 : qam Try.prog 79 .nilfunc := ⟨by kernel_rfl⟩
instance Try.rd79 : qbs Try.prog 79 := qao fun v cells => by kernel_rfl
instance Try.sz80 : TSz Try.prog 80 1 := ⟨by kernel_rfl⟩
instance Try.by80 : qae Try.prog 80 8 := ⟨by kernel_rfl⟩
instance Try.ze80 : qam Try.prog 80 .nilfunc := ⟨by kernel_rfl⟩
instance Try.rd80 : qbs Try.prog 80 := qao fun v cells => by kernel_rfl
instance Try.sz81 : TSz Try.prog 81 1 := ⟨by kernel_rfl⟩
instance Try.by81 : qae Try.prog 81 8 := ⟨by kernel_rfl⟩
instance Try.ze81 : qam Try.prog 81 .nilfunc := ⟨by kernel_rfl⟩
instance Try.rd81 : qbs Try.prog 81 := qao fun v cells => by kernel_rfl
instance Try.sz82 : TSz Try.prog 82 2 := ⟨by kernel_rfl⟩
instance Try.by82 : qae Try.prog 82 48 := ⟨by kernel_rfl⟩
instance Try.ze82 : qam Try.prog 82 (.agg [(.sl .nil 0 []), (.sl .nil 0 [])]) := ⟨by kernel_rfl⟩
instance Try.rd82 : TAgg Try.prog 82 2 := qbz fun cells => by kernel_rfl
instance Try.fd82_0 : qak Try.prog 82 0 0 27 := qac (fun _ _ _ => by kernel_rfl) (fun _ => by kernel_rfl) (fun _ => by kernel_rfl)
instance Try.fd82_1 : qak Try.prog 82 1 1 27 := qac (fun _ _ _ => by kernel_rfl) (fun _ => by kernel_rfl) (fun _ => by kernel_rfl)
instance Try.st82 : qbc Try.prog 82 [(0, 1), (1, 1)] [(.sl .nil 0 []), (.sl .nil 0 [])] := qaz (by kernel_rfl) Try.ze82.zero rfl
instance Try.sz83 : TSz Try.prog 83 2 := ⟨by kernel_rfl⟩
instance Try.by83 : qae Try.prog 83 48 := ⟨by kernel_rfl⟩
instance Try.ze83 : qam Try.prog 83 (.agg [(.sl .nil 0 []), (.sl .nil 0 [])]) := ⟨by kernel_rfl⟩
instance Try.rd83 : TAgg Try.prog 83 2 := qbz fun cells => by kernel_rfl
instance Try.fd83_0 : qak Try.prog 83 0 0 27 := qac (fun _ _ _ => by kernel_rfl) (fun _ => by kernel_rfl) (fun _ => by kernel_rfl)
instance Try.fd83_1 : qak Try.prog 83 1 1 27 := qac (fun _ _ _ => by kernel_rfl) (fun _ => by kernel_rfl) (fun _ => by kernel_rfl)
instance Try.st83 : qbc Try.prog 83 [(0, 1), (1, 1)] [(.sl .nil 0 []), (.sl .nil 0 [])] := qaz (by kernel_rfl) Try.ze83.zero rfl
instance Try.sz84 : TSz Try.prog 84 1 := ⟨by kernel_rfl⟩
instance Try.by84 : qae Try.prog 84 8 := ⟨by kernel_rfl⟩
instance Try.ze84 : qam Try.prog 84 .nilfunc := ⟨by kernel_rfl⟩
instance Try.rd84 : qbs Try.prog 84 := qao fun v cells => by kernel_rfl
instance Try.sz85 : TSz Try.prog 85 1 := ⟨by kernel_rfl⟩
instance Try.by85 : qae Try.prog 85 24 := ⟨by kernel_rfl⟩
instance Try.ze85 : qam Try.prog 85 (.sl .nil 0 []) := ⟨by kernel_rfl⟩
instance Try.rd85 : qbs Try.prog 85 := qao fun v cells => by kernel_rfl
instance Try.un85 : TSl Try.prog 85 124 := ⟨by kernel_rfl⟩
instance Try.sz86 : TSz Try.prog 86 5 := ⟨by kernel_rfl⟩
instance Try.by86 : qae Try.prog 86 56 := ⟨by kernel_rfl⟩
instance Try.ze86 : qam Try.prog 86 (.agg [(.int .i64 0), (.int .i64 0), (.int .i64 0), (.int .i64 0), (.sl .nil 0 [])]) := ⟨by kernel_rfl⟩
instance Try.rd86 : TAgg Try.prog 86 5 := qbz fun cells => by kernel_rfl
instance Try.fd86_0 : qak Try.prog 86 0 0 3 := qac (fun _ _ _ => by kernel_rfl) (fun _ => by kernel_rfl) (fun _ => by kernel_rfl)
instance Try.fd86_1 : qak Try.prog 86 1 1 3 := qac (fun _ _ _ => by kernel_rfl) (fun _ => by kernel_rfl) (fun _ => by kernel_rfl)
instance Try.fd86_2 : qak Try.prog 86 2 2 3 := qac (fun _ _ _ => by kernel_rfl) (fun _ => by kernel_rfl) (fun _ => by kernel_rfl)
instance Try.fd86_3 : qak Try.prog 86 3 3 3 := qac (fun _ _ _ => by kernel_rfl) (fun _ => by kernel_rfl) (fun _ => by kernel_rfl)
instance Try.fd86_4 : qak Try.prog 86 4 4 85 := qac (fun _ _ _ => by kernel_rfl) (fun _ => by kernel_rfl) (fun _ => by kernel_rfl)
instance Try.st86 : qbc Try.prog 86 [(0, 1), (1, 1), (2, 1), (3, 1), (4, 1)] [(.int .i64 0), (.int .i64 0), (.int .i64 0), (.int .i64 0), (.sl .nil 0 [])] := qaz (by kernel_rfl) Try.ze86.zero rfl
instance Try.sz87 : TSz Try.prog 87 5 := ⟨by kernel_rfl⟩
instance Try.by87 : qae Try.prog 87 56 := ⟨by kernel_rfl⟩
instance Try.ze87 : qam Try.prog 87 (.agg [(.int .i64 0), (.int .i64 0), (.int .i64 0), (.int .i64 0), (.sl .nil 0 [])]) := ⟨by kernel_rfl⟩
instance Try.rd87 : TAgg Try.prog 87 5 := qbz fun cells => by kernel_rfl
instance Try.fd87_0 : qak Try.prog 87 0 0 3 := qac (fun _ _ _ => by kernel_rfl) (fun _ => by kernel_rfl) (fun _ => by kernel_rfl)
instance Try.fd87_1 : qak Try.prog 87 1 1 3 := qac (fun _ _ _ => by kernel_rfl) (fun _ => by kernel_rfl) (fun _ => by kernel_rfl)
instance Try.fd87_2 : qak Try.prog 87 2 2 3 := qac (fun _ _ _ => by kernel_rfl) (fun _ => by kernel_rfl) (fun _ => by kernel_rfl)
instance Try.fd87_3 : qak Try.prog 87 3 3 3 := qac (fun _ _ _ => by kernel_rfl) (fun _ => by kernel_rfl) (fun _ => by kernel_rfl)
instance Try.fd87_4 : qak Try.prog 87 4 4 85 := qac (fun _ _ _ => by kernel_rfl) (fun _ => by kernel_rfl) (fun _ => by kernel_rfl)
instance Try.st87 : qbc Try.prog 87 [(0, 1), (1, 1), (2, 1), (3, 1), (4, 1)] [(.int .i64 0), (.int .i64 0), (.int .i64 0), (.int .i64 0), (.sl .nil 0 [])] := qaz (by kernel_rfl) Try.ze87.zero rfl
instance Try.sz88 : TSz Try.prog 88 1 := ⟨by kernel_rfl⟩
instance Try.by88 : qae Try.prog 88 8 := ⟨by kernel_rfl⟩
instance Try.ze88 : qam Try.prog 88 .nilfunc := ⟨by kernel_rfl⟩
instance Try.rd88 : qbs Try.prog 88 := qao fun v cells => by kernel_rfl
instance Try.sz89 : TSz Try.prog 89 1 := ⟨by kernel_rfl⟩
instance Try.by89 : qae Try.prog 89 8 := ⟨by kernel_rfl⟩
instance Try.ze89 : qam Try.prog 89 .nilfunc := ⟨by kernel_rfl⟩
instance Try.rd89 : qbs Try.prog 89 := qao fun v cells => by kernel_rfl
instance Try.sz90 : TSz Try.prog 90 1 := ⟨by kernel_rfl⟩
instance Try.by90 : qae Try.prog 90 8 := ⟨by kernel_rfl⟩
instance Try.ze90 : qam Try.prog 90 .nilfunc := ⟨by kernel_rfl⟩
instance Try.rd90 : qbs Try.prog 90 := qao fun v cells => by kernel_rfl
instance Try.sz91 : TSz Try.prog 91 1 := ⟨by kernel_rfl⟩
instance Try.by91 : qae Try.prog 91 8 := ⟨by kernel_rfl⟩
instance Try.ze91 : qam Try.prog 91 .nilfunc := ⟨by kernel_rfl⟩
instance Try.rd91 : qbs Try.prog 91 := qao fun v cells => by kernel_rfl
instance Try.sz92 : TSz Try.prog 92 1 := ⟨by kernel_rfl⟩
instance Try.by92 : qae Try.prog 92 24 := ⟨by kernel_rfl⟩
instance Try.ze92 : qam Try.prog 92 (.sl .nil 0 []) := ⟨by kernel_rfl⟩
instance Try.rd92 : qbs Try.prog 92 := qao fun v cells => by kernel_rfl
instance Try.un92 : TSl Try.prog 92 95 := ⟨by kernel_rfl⟩
instance Try.sz93 : TSz Try.prog 93 1 := ⟨by kernel_rfl⟩
instance Try.by93 : qae Try.prog 93 8 := ⟨by kernel_rfl⟩
instance Try.ze93 : qam Try.prog 93 .nilfunc := ⟨by kernel_rfl⟩
instance Try.rd93 : qbs Try.prog 93 := qao fun v cells => by kernel_rfl
instance Try.sz94 : TSz Try.prog 94 19 := ⟨by kernel_rfl⟩
instance Try.by94 : qae Try.prog 94 280 := ⟨by kernel_rfl⟩
instance Try.ze94 : qam Try.prog 94 (.agg [(.int .i64 0), (.int .i64 0), (.str []), (.int .i64 0), (.str []), (.str []), (.str []), (.str []), (.int .i64 0), (.str []), (.str []), (.str []), (.str []), (.int .i64 0), (.str []), (.str []), (.str []), (.sl .nil 0 []), (.sl .nil 0 [])]) := ⟨by kernel_rfl⟩
instance Try.rd94 : TAgg Try.prog 94 19 := qbz fun cells => by kernel_rfl
instance Try.fd94_0 : qak Try.prog 94 0 0 3 := qac (fun _ _ _ => by kernel_rfl) (fun _ => by kernel_rfl) (fun _ => by kernel_rfl)
instance Try.fd94_1 : qak Try.prog 94 1 1 3 := qac (fun _ _ _ => by kernel_rfl) (fun _ => by kernel_rfl) (fun _ => by kernel_rfl)
instance Try.fd94_2 : qak Try.prog 94 2 2 48 := qac (fun _ _ _ => by kernel_rfl) (fun _ => by kernel_rfl) (fun _ => by kernel_rfl)
instance Try.fd94_3 : qak Try.prog 94 3 17 62 := qac (fun _ _ _ => by kernel_rfl) (fun _ => by kernel_rfl) (fun _ => by kernel_rfl)
instance Try.fd94_4 : qak Try.prog 94 4 18 62 := qac (fun _ _ _ => by kernel_rfl) (fun _ => by kernel_rfl) (fun _ => by kernel_rfl)
instance Try.st94 : qbc Try.prog 94 [(0, 1), (1, 1), (2, 15), (17, 1), (18, 1)] [(.int .i64 0), (.int .i64 0), (.str []), (.int .i64 0), (.str []), (.str []), (.str []), (.str []), (.int .i64 0), (.str []), (.str []), (.str []), (.str []), (.int .i64 0), (.str []), (.str []), (.str []), (.sl .nil 0 []), (.sl .nil 0 [])] := qaz (by kernel_rfl) Try.ze94.zero rfl
instance Try.sz95 : TSz Try.prog 95 19 := ⟨by kernel_rfl⟩
instance Try.by95 : qae Try.prog 95 280 := ⟨by kernel_rfl⟩
instance Try.ze95 : qam Try.prog 95 (.agg [(.int .i64 0), (.int .i64 0), (.str []), (.int .i64 0), (.str []), (.str []), (.str []), (.str []), (.int .i64 0), (.str []), (.str []), (.str []), (.str []), (.int .i64 0), (.str []), (.str []), (.str []), (.sl .nil 0 []), (.sl .nil 0 [])]) := ⟨by kernel_rfl⟩
instance Try.rd95 : TAgg Try.prog 95 19 := qbz fun cells => by kernel_rfl
instance Try.fd95_0 : qak Try.prog 95 0 0 3 := qac (fun _ _ _ => by kernel_rfl) (fun _ => by kernel_rfl) (fun _ => by kernel_rfl)
instance Try.fd95_1 : qak Try.prog 95 1 1 3 := qac (fun _ _ _ => by kernel_rfl) (fun _ => by kernel_rfl) (fun _ => by kernel_rfl)
instance Try.fd95_2 : qak Try.prog 95 2 2 48 := qac (fun _ _ _ => by kernel_rfl) (fun _ => by kernel_rfl) (fun _ => by kernel_rfl)
instance Try.fd95_3 : qak Try.prog 95 3 17 62 := qac (fun _ _ _ => by kernel_rfl) (fun _ => by kernel_rfl) (fun _ => by kernel_rfl)
instance Try.fd95_4 : qak Try.prog 95 4 18 62 := qac (fun _ _ _ => by kernel_rfl) (fun _ => by kernel_rfl) (fun _ => by kernel_rfl)
instance Try.st95 : qbc Try.prog 95 [(0, 1), (1, 1), (2, 15), (17, 1), (18, 1)] [(.int .i64 0), (.int .i64 0), (.str []), (.int .i64 0), (.str []), (.str []), (.str []), (.str []), (.int .i64 0), (.str []), (.str []), (.str []), (.str []), (.int .i64 0), (.str []), (.str []), (.str []), (.sl .nil 0 []), (.sl .nil 0 [])] := qaz (by kernel_rfl) Try.ze95.zero rfl
instance Try.sz96 : TSz Try.prog 96 1 := ⟨by kernel_rfl⟩
instance Try.by96 : qae Try.prog 96 8 := ⟨by kernel_rfl⟩
instance Try.ze96 : qam Try.prog 96 .nilfunc := ⟨by kernel_rfl⟩
instance Try.rd96 : qbs Try.prog 96 := qao fun v cells => by kernel_rfl
instance Try.sz97 : TSz Try.prog 97 1 := ⟨by kernel_rfl⟩
instance Try.by97 : qae Try.prog 97 8 := ⟨by kernel_rfl⟩
instance Try.ze97 : qam Try.prog 97 .nilfunc := ⟨by kernel_rfl⟩
instance Try.rd97 : qbs Try.prog 97 := qao fun v cells => by kernel_rfl
instance Try.sz98 : TSz Try.prog 98 1 := ⟨by kernel_rfl⟩
instance Try.by98 : qae Try.prog 98 8 := ⟨by kernel_rfl⟩
instance Try.ze98 : qam Try.prog 98 .nilfunc := ⟨by kernel_rfl⟩
instance Try.rd98 : qbs Try.prog 98 := qao fun v cells => by kernel_rfl
instance Try.sz99 : TSz Try.prog 99 1 := ⟨by kernel_rfl⟩
instance Try.by99 : qae Try.prog 99 8 := ⟨by kernel_rfl⟩
instance Try.ze99 : qam Try.prog 99 .nilfunc := ⟨by kernel_rfl⟩
instance Try.rd99 : qbs Try.prog 99 := qao fun v cells => by kernel_rfl
instance Try.sz100 : TSz Try.prog 100 1 := ⟨by kernel_rfl⟩
instance Try.by100 : qae Try.prog 100 8 := ⟨by kernel_rfl⟩
instance Try.ze100 : qam Try.prog 100 .nilfunc := ⟨by kernel_rfl⟩
instance Try.rd100 : qbs Try.prog 100 := qao fun v cells => by kernel_rfl
instance Try.sz101 : TSz Try.prog 101 1 := ⟨by kernel_rfl⟩
instance Try.by101 : qae Try.prog 101 8 := ⟨by kernel_rfl⟩
instance Try.ze101 : qam Try.prog 101 .nilfunc := ⟨by kernel_rfl⟩
instance Try.rd101 : qbs Try.prog 101 := qao fun v cells => by kernel_rfl
instance Try.sz102 : TSz Try.prog 102 1 := ⟨by kernel_rfl⟩
instance Try.by102 : qae Try.prog 102 8 := ⟨by kernel_rfl⟩
instance Try.ze102 : qam Try.prog 102 .nilfunc := ⟨by kernel_rfl⟩
instance Try.rd102 : qbs Try.prog 102 := qao fun v cells => by kernel_rfl
instance Try.sz103 : TSz Try.prog 103 1 := ⟨by kernel_rfl⟩
instance Try.by103 : qae Try.prog 103 0 := ⟨by kernel_rfl⟩
instance Try.ze103 : qam Try.prog 103 .undef := ⟨by kernel_rfl⟩
instance Try.rd103 : qbs Try.prog 103 := qao fun v cells => by kernel_rfl
instance Try.sz104 : TSz Try.prog 104 1 := ⟨by kernel_rfl⟩
instance Try.by104 : qae Try.prog 104 8 := ⟨by kernel_rfl⟩
instance Try.ze104 : qam Try.prog 104 .nilfunc := ⟨by kernel_rfl⟩
instance Try.rd104 : qbs Try.prog 104 := qao fun v cells => by kernel_rfl
instance Try.sz105 : TSz Try.prog 105 1 := ⟨by kernel_rfl⟩
instance Try.by105 : qae Try.prog 105 8 := ⟨by kernel_rfl⟩
instance Try.ze105 : qam Try.prog 105 .nilfunc := ⟨by kernel_rfl⟩
instance Try.rd105 : qbs Try.prog 105 := qao fun v cells => by kernel_rfl
instance Try.sz106 : TSz Try.prog 106 1 := ⟨by kernel_rfl⟩
instance Try.by106 : qae Try.prog 106 8 := ⟨by kernel_rfl⟩
instance Try.ze106 : qam Try.prog 106 .nilfunc := ⟨by kernel_rfl⟩
instance Try.rd106 : qbs Try.prog 106 := qao fun v cells => by kernel_rfl
instance Try.sz107 : TSz Try.prog 107 1 := ⟨by kernel_rfl⟩
instance Try.by107 : qae Try.prog 107 8 := ⟨by kernel_rfl⟩
instance Try.ze107 : qam Try.prog 107 .nilfunc := ⟨by kernel_rfl⟩
instance Try.rd107 : qbs Try.prog 107 := qao fun v cells => by kernel_rfl
instance Try.sz108 : TSz Try.prog 108 1 := ⟨by kernel_rfl⟩
instance Try.by108 : qae Try.prog 108 8 := ⟨by kernel_rfl⟩
instance Try.ze108 : qam Try.prog 108 .nilfunc := ⟨by kernel_rfl⟩
instance Try.rd108 : qbs Try.prog 108 := qao fun v cells => by kernel_rfl
instance Try.sz109 : TSz Try.prog 109 1 := ⟨by kernel_rfl⟩
instance Try.by109 : qae Try.prog 109 8 := ⟨by kernel_rfl⟩
instance Try.ze109 : qam Try.prog 109 .nilfunc := ⟨by kernel_rfl⟩
instance Try.rd109 : qbs Try.prog 109 := qao fun v cells => by kernel_rfl
instance Try.sz110 : TSz Try.prog 110 1 := ⟨by kernel_rfl⟩
instance Try.by110 : qae Try.prog 110 8 := ⟨by kernel_rfl⟩
instance Try.ze110 : qam Try.prog 110 .nilfunc := ⟨by kernel_rfl⟩
instance Try.rd110 : qbs Try.prog 110 := qao fun v cells => by kernel_rfl
instance Try.sz111 : TSz Try.prog 111 1 := ⟨by kernel_rfl⟩
instance Try.by111 : qae Try.prog 111 24 := ⟨by kernel_rfl⟩
instance Try.ze111 : qam Try.prog 111 (.agg [(.sl .nil 0 [])]) := ⟨by kernel_rfl⟩
instance Try.rd111 : TAgg Try.prog 111 1 := qbz fun cells => by kernel_rfl
instance Try.fd111_0 : qak Try.prog 111 0 0 62 := qac (fun _ _ _ => by kernel_rfl) (fun _ => by kernel_rfl) (fun _ => by kernel_rfl)
instance Try.st111 : qbc Try.prog 111 [(0, 1)] [(.sl .nil 0 [])] := qaz (by kernel_rfl) Try.ze111.zero rfl
instance Try.sz112 : TSz Try.prog 112 1 := ⟨by kernel_rfl⟩
instance Try.by112 : qae Try.prog 112 24 := ⟨by kernel_rfl⟩
instance Try.ze112 : qam Try.prog 112 (.agg [(.sl .nil 0 [])]) := ⟨by kernel_rfl⟩
instance Try.rd112 : TAgg Try.prog 112 1 := qbz fun cells => by kernel_rfl
instance Try.fd112_0 : qak Try.prog 112 0 0 62 := qac (fun _ _ _ => by kernel_rfl) (fun _ => by kernel_rfl) (fun _ => by kernel_rfl)
instance Try.st112 : qbc Try.prog 112 [(0, 1)] [(.sl .nil 0 [])] := qaz (by kernel_rfl) Try.ze112.zero rfl
instance Try.sz113 : TSz Try.prog 113 1 := ⟨by kernel_rfl⟩
instance Try.by113 : qae Try.prog 113 24 := ⟨by kernel_rfl⟩
instance Try.ze113 : qam Try.prog 113 (.agg [(.sl .nil 0 [])]) := ⟨by kernel_rfl⟩
instance Try.rd113 : TAgg Try.prog 113 1 := qbz fun cells => by kernel_rfl
instance Try.fd113_0 : qak Try.prog 113 0 0 112 := qac (fun _ _ _ => by kernel_rfl) (fun _ => by kernel_rfl) (fun _ => by kernel_rfl)
instance Try.st113 : qbc Try.prog 113 [(0, 1)] [(.sl .nil 0 [])] := qaz (by kernel_rfl) Try.ze113.zero rfl
instance Try.sz114 : TSz Try.prog 114 1 := ⟨by kernel_rfl⟩
instance Try.by114 : qae Try.prog 114 24 := ⟨by kernel_rfl⟩
instance Try.ze114 : qam Try.prog 114 (.agg [(.sl .nil 0 [])]) := ⟨by kernel_rfl⟩
instance Try.rd114 : TAgg Try.prog 114 1 := qbz fun cells => by kernel_rfl
instance Try.fd114_0 : qak Try.prog 114 0 0 112 := qac (fun _ _ _ => by kernel_rfl) (fun _ => by kernel_rfl) (fun _ => by kernel_rfl)
instance Try.st114 : qbc Try.prog 114 [(0, 1)] [(.sl .nil 0 [])] := qaz (by kernel_rfl) Try.ze114.zero rfl
instance Try.sz115 : TSz Try.prog 115 1 := ⟨by kernel_rfl⟩
instance Try.by115 : qae Try.prog 115 8 := ⟨by kernel_rfl⟩
instance Try.ze115 : qam Try.prog 115 .nilfunc := ⟨by kernel_rfl⟩
instance Try.rd115 : qbs Try.prog 115 := qao fun v cells => by kernel_rfl
instance Try.sz116 : TSz Try.prog 116 1 := ⟨by kernel_rfl⟩
instance Try.by116 : qae Try.prog 116 8 := ⟨by kernel_rfl⟩
instance Try.ze116 : qam Try.prog 116 .nilfunc := ⟨by kernel_rfl⟩
instance Try.rd116 : qbs Try.prog 116 := qao fun v cells => by kernel_rfl
instance Try.sz117 : TSz Try.prog 117 1 := ⟨by kernel_rfl⟩
instance Try.by117 : qae Try.prog 117 8 := ⟨by kernel_rfl⟩
instance Try.ze117 : qam Try.prog 117 .nilfunc := ⟨by kernel_rfl⟩
instance Try.rd117 : qbs Try.prog 117 := qao fun v cells => by kernel_rfl
instance Try.sz118 : TSz Try.prog 118 1 := ⟨by kernel_rfl⟩
instance Try.by118 : qae Try.prog 118 8 := ⟨by kernel_rfl⟩
instance Try.ze118 : qam Try.prog 118 .nilfunc := ⟨by kernel_rfl⟩
instance Try.rd118 : qbs Try.prog 118 := qao fun v cells => by kernel_rfl
instance Try.sz119 : TSz Try.prog 119 1 := ⟨by kernel_rfl⟩
instance Try.by119 : qae Try.prog 119 8 := ⟨by kernel_rfl⟩
instance Try.ze119 : qam Try.prog 119 .nilfunc := ⟨by kernel_rfl⟩
instance Try.rd119 : qbs Try.prog 119 := qao fun v cells => by kernel_rfl
instance Try.sz120 : TSz Try.prog 120 1 := ⟨by kernel_rfl⟩
instance Try.by120 : qae Try.prog 120 8 := ⟨by kernel_rfl⟩
instance Try.ze120 : qam Try.prog 120 .nilfunc := ⟨by kernel_rfl⟩
instance Try.rd120 : qbs Try.prog 120 := qao fun v cells => by kernel_rfl
instance Try.sz121 : TSz Try.prog 121 1 := ⟨by kernel_rfl⟩
instance Try.by121 : qae Try.prog 121 8 := ⟨by kernel_rfl⟩
instance Try.ze121 : qam Try.prog 121 .nilfunc := ⟨by kernel_rfl⟩
instance Try.rd121 : qbs Try.prog 121 := qao fun v cells => by kernel_rfl
instance Try.sz122 : TSz Try.prog 122 1 := ⟨by kernel_rfl⟩
instance Try.by122 : qae Try.prog 122 8 := ⟨by kernel_rfl⟩
instance Try.ze122 : qam Try.prog 122 .nilfunc := ⟨by kernel_rfl⟩
instance Try.rd122 : qbs Try.prog 122 := qao fun v cells => by kernel_rfl
instance Try.sz123 : TSz Try.prog 123 1 := ⟨by kernel_rfl⟩
instance Try.by123 : qae Try.prog 123 8 := ⟨by kernel_rfl⟩
instance Try.ze123 : qam Try.prog 123 .nilfunc := ⟨by kernel_rfl⟩
instance Try.rd123 : qbs Try.prog 123 := qao fun v cells => by kernel_rfl
instance Try.sz124 : TSz Try.prog 124 7 := ⟨by kernel_rfl⟩
instance Try.by124 : qae Try.prog 124 80 := ⟨by kernel_rfl⟩
instance Try.ze124 : qam Try.prog 124 (.agg [(.int .i64 0), (.str []), (.str []), (.str []), (.int .i64 0), (.int .i64 0), (.int .i64 0)]) := ⟨by kernel_rfl⟩
instance Try.rd124 : TAgg Try.prog 124 7 := qbz fun cells => by kernel_rfl
instance Try.fd124_0 : qak Try.prog 124 0 0 39 := qac (fun _ _ _ => by kernel_rfl) (fun _ => by kernel_rfl) (fun _ => by kernel_rfl)
instance Try.fd124_1 : qak Try.prog 124 1 4 3 := qac (fun _ _ _ => by kernel_rfl) (fun _ => by kernel_rfl) (fun _ => by kernel_rfl)
instance Try.fd124_2 : qak Try.prog 124 2 5 3 := qac (fun _ _ _ => by kernel_rfl) (fun _ => by kernel_rfl) (fun _ => by kernel_rfl)
instance Try.fd124_3 : qak Try.prog 124 3 6 3 := qac (fun _ _ _ => by kernel_rfl) (fun _ => by kernel_rfl) (fun _ => by kernel_rfl)
instance Try.st124 : qbc Try.prog 124 [(0, 4), (4, 1), (5, 1), (6, 1)] [(.int .i64 0), (.str []), (.str []), (.str []), (.int .i64 0), (.int .i64 0), (.int .i64 0)] := qaz (by kernel_rfl) Try.ze124.zero rfl
instance Try.sz125 : TSz Try.prog 125 1 := ⟨by kernel_rfl⟩
instance Try.by125 : qae Try.prog 125 8 := ⟨by kernel_rfl⟩
instance Try.ze125 : qam Try.prog 125 .nilfunc := ⟨by kernel_rfl⟩
instance Try.rd125 : qbs Try.prog 125 := qao fun v cells => by kernel_rfl
instance Try.sz126 : TSz Try.prog 126 1 := ⟨by kernel_rfl⟩
instance Try.by126 : qae Try.prog 126 8 := ⟨by kernel_rfl⟩
instance Try.ze126 : qam Try.prog 126 .nilfunc := ⟨by kernel_rfl⟩
instance Try.rd126 : qbs Try.prog 126 := qao fun v cells => by kernel_rfl
instance Try.sz127 : TSz Try.prog 127 1 := ⟨by kernel_rfl⟩
instance Try.by127 : qae Try.prog 127 8 := ⟨by kernel_rfl⟩
instance Try.ze127 : qam Try.prog 127 .nilfunc := ⟨by kernel_rfl⟩
instance Try.rd127 : qbs Try.prog 127 := qao fun v cells => by kernel_rfl
instance Try.sz128 : TSz Try.prog 128 1 := ⟨by kernel_rfl⟩
instance Try.by128 : qae Try.prog 128 8 := ⟨by kernel_rfl⟩
instance Try.ze128 : qam Try.prog 128 .nilptr := ⟨by kernel_rfl⟩
instance Try.rd128 : qbs Try.prog 128 := qao fun v cells => by kernel_rfl
instance Try.sz129 : TSz Try.prog 129 1 := ⟨by kernel_rfl⟩
instance Try.by129 : qae Try.prog 129 8 := ⟨by kernel_rfl⟩
instance Try.ze129 : qam Try.prog 129 .nilfunc := ⟨by kernel_rfl⟩
instance Try.rd129 : qbs Try.prog 129 := qao fun v cells => by kernel_rfl
instance Try.sz130 : TSz Try.prog 130 1 := ⟨by kernel_rfl⟩
instance Try.by130 : qae Try.prog 130 8 := ⟨by kernel_rfl⟩
instance Try.ze130 : qam Try.prog 130 .nilfunc := ⟨by kernel_rfl⟩
instance Try.rd130 : qbs Try.prog 130 := qao fun v cells => by kernel_rfl
instance Try.sz131 : TSz Try.prog 131 1 := ⟨by kernel_rfl⟩
instance Try.by131 : qae Try.prog 131 8 := ⟨by kernel_rfl⟩
instance Try.ze131 : qam Try.prog 131 .nilfunc := ⟨by kernel_rfl⟩
instance Try.rd131 : qbs Try.prog 131 := qao fun v cells => by kernel_rfl
instance Try.sz132 : TSz Try.prog 132 1 := ⟨by kernel_rfl⟩
instance Try.by132 : qae Try.prog 132 8 := ⟨by kernel_rfl⟩
instance Try.ze132 : qam Try.prog 132 .nilptr := ⟨by kernel_rfl⟩
instance Try.rd132 : qbs Try.prog 132 := qao fun v cells => by kernel_rfl
instance Try.sz133 : TSz Try.prog 133 1 := ⟨by kernel_rfl⟩
instance Try.by133 : qae Try.prog 133 8 := ⟨by kernel_rfl⟩
instance Try.ze133 : qam Try.prog 133 .nilfunc := ⟨by kernel_rfl⟩
instance Try.rd133 : qbs Try.prog 133 := qao fun v cells => by kernel_rfl
instance Try.sz134 : TSz Try.prog 134 1 := ⟨by kernel_rfl⟩
instance Try.by134 : qae Try.prog 134 8 := ⟨by kernel_rfl⟩
instance Try.ze134 : qam Try.prog 134 .nilfunc := ⟨by kernel_rfl⟩
instance Try.rd134 : qbs Try.prog 134 := qao fun v cells => by kernel_rfl
instance Try.sz135 : TSz Try.prog 135 1 := ⟨by kernel_rfl⟩
instance Try.by135 : qae Try.prog 135 8 := ⟨by kernel_rfl⟩
instance Try.ze135 : qam Try.prog 135 .nilfunc := ⟨by kernel_rfl⟩
instance Try.rd135 : qbs Try.prog 135 := qao fun v cells => by kernel_rfl
instance Try.sz136 : TSz Try.prog 136 1 := ⟨by kernel_rfl⟩
instance Try.by136 : qae Try.prog 136 8 := ⟨by kernel_rfl⟩
instance Try.ze136 : qam Try.prog 136 (.int .u64 0) := ⟨by kernel_rfl⟩
instance Try.rd136 : qbs Try.prog 136 := qao fun v cells => by kernel_rfl
instance Try.un136 : TInt Try.prog 136 .u64 := ⟨by kernel_rfl⟩
instance Try.sz137 : TSz Try.prog 137 1 := ⟨by kernel_rfl⟩
instance Try.by137 : qae Try.prog 137 8 := ⟨by kernel_rfl⟩
instance Try.ze137 : qam Try.prog 137 .nilfunc := ⟨by kernel_rfl⟩
instance Try.rd137 : qbs Try.prog 137 := qao fun v cells => by kernel_rfl
instance Try.sz138 : TSz Try.prog 138 1 := ⟨by kernel_rfl⟩
instance Try.by138 : qae Try.prog 138 8 := ⟨by kernel_rfl⟩
instance Try.ze138 : qam Try.prog 138 .nilfunc := ⟨by kernel_rfl⟩
instance Try.rd138 : qbs Try.prog 138 := qao fun v cells => by kernel_rfl
instance Try.sz139 : TSz Try.prog 139 1 := ⟨by kernel_rfl⟩
instance Try.by139 : qae Try.prog 139 8 := ⟨by kernel_rfl⟩
instance Try.ze139 : qam Try.prog 139 (.int .i64 0) := ⟨by kernel_rfl⟩
instance Try.rd139 : qbs Try.prog 139 := qao fun v cells => by kernel_rfl
instance Try.un139 : TInt Try.prog 139 .i64 := ⟨by kernel_rfl⟩
instance Try.sz140 : TSz Try.prog 140 1 := ⟨by kernel_rfl⟩
instance Try.by140 : qae Try.prog 140 0 := ⟨by kernel_rfl⟩
instance Try.ze140 : qam Try.prog 140 .undef := ⟨by kernel_rfl⟩
instance Try.rd140 : qbs Try.prog 140 := qao fun v cells => by kernel_rfl
instance Try.sz141 : TSz Try.prog 141 1 := ⟨by kernel_rfl⟩
instance Try.by141 : qae Try.prog 141 8 := ⟨by kernel_rfl⟩
instance Try.ze141 : qam Try.prog 141 .nilfunc := ⟨by kernel_rfl⟩
instance Try.rd141 : qbs Try.prog 141 := qao fun v cells => by kernel_rfl
instance Try.sz142 : TSz Try.prog 142 1 := ⟨by kernel_rfl⟩
instance Try.by142 : qae Try.prog 142 8 := ⟨by kernel_rfl⟩
instance Try.ze142 : qam Try.prog 142 .nilfunc := ⟨by kernel_rfl⟩
instance Try.rd142 : qbs Try.prog 142 := qao fun v cells => by kernel_rfl
instance Try.sz143 : TSz Try.prog 143 1 := ⟨by kernel_rfl⟩
instance Try.by143 : qae Try.prog 143 8 := ⟨by kernel_rfl⟩
instance Try.ze143 : qam Try.prog 143 .nilfunc := ⟨by kernel_rfl⟩
instance Try.rd143 : qbs Try.prog 143 := qao fun v cells => by kernel_rfl
instance Try.sz144 : TSz Try.prog 144 1 := ⟨by kernel_rfl⟩
instance Try.by144 : qae Try.prog 144 0 := ⟨by kernel_rfl⟩
instance Try.ze144 : qam Try.prog 144 .undef := ⟨by kernel_rfl⟩
instance Try.rd144 : qbs Try.prog 144 := qao fun v cells => by kernel_rfl
instance Try.sz145 : TSz Try.prog 145 1 := ⟨by kernel_rfl⟩
instance Try.by145 : qae Try.prog 145 8 := ⟨by kernel_rfl⟩
instance Try.ze145 : qam Try.prog 145 .nilfunc := ⟨by kernel_rfl⟩
instance Try.rd145 : qbs Try.prog 145 := qao fun v cells => by kernel_rfl
instance Try.sz146 : TSz Try.prog 146 1 := ⟨by kernel_rfl⟩
instance Try.by146 : qae Try.prog 146 8 := ⟨by kernel_rfl⟩
instance Try.ze146 : qam Try.prog 146 .nilfunc := ⟨by kernel_rfl⟩
instance Try.rd146 : qbs Try.prog 146 := qao fun v cells => by kernel_rfl
instance Try.sz147 : TSz Try.prog 147 1 := ⟨by kernel_rfl⟩
instance Try.by147 : qae Try.prog 147 4 := ⟨by kernel_rfl⟩
instance Try.ze147 : qam Try.prog 147 (.int .u32 0) := ⟨by kernel_rfl⟩
instance Try.rd147 : qbs Try.prog 147 := qao fun v cells => by kernel_rfl
instance Try.un147 : TInt Try.prog 147 .u32 := ⟨by kernel_rfl⟩
instance Try.sz148 : TSz Try.prog 148 1 := ⟨by kernel_rfl⟩
instance Try.by148 : qae Try.prog 148 8 := ⟨by kernel_rfl⟩
instance Try.ze148 : qam Try.prog 148 .nilfunc := ⟨by kernel_rfl⟩
instance Try.rd148 : qbs Try.prog 148 := qao fun v cells => by kernel_rfl
instance Try.sz149 : TSz Try.prog 149 1 := ⟨by kernel_rfl⟩
instance Try.by149 : qae Try.prog 149 8 := ⟨by kernel_rfl⟩
instance Try.ze149 : qam Try.prog 149 (.int .u64 0) := ⟨by kernel_rfl⟩
instance Try.rd149 : qbs Try.prog 149 := qao fun v cells => by kernel_rfl
instance Try.un149 : TInt Try.prog 149 .u64 := ⟨by kernel_rfl⟩
instance Try.sz150 : TSz Try.prog 150 1 := ⟨by kernel_rfl⟩
instance Try.by150 : qae Try.prog 150 8 := ⟨by kernel_rfl⟩
instance Try.ze150 : qam Try.prog 150 (.int .u64 0) := ⟨by kernel_rfl⟩
instance Try.rd150 : qbs Try.prog 150 := qao fun v cells => by kernel_rfl
instance Try.un150 : TInt Try.prog 150 .u64 := ⟨by kernel_rfl⟩
instance Try.sz151 : TSz Try.prog 151 1 := ⟨by kernel_rfl⟩
instance Try.by151 : qae Try.prog 151 8 := ⟨by kernel_rfl⟩
instance Try.ze151 : qam Try.prog 151 .nilfunc := ⟨by kernel_rfl⟩
instance Try.rd151 : qbs Try.prog 151 := qao fun v cells => by kernel_rfl
instance Try.sz152 : TSz Try.prog 152 1 := ⟨by kernel_rfl⟩
instance Try.by152 : qae Try.prog 152 8 := ⟨by kernel_rfl⟩
instance Try.ze152 : qam Try.prog 152 .nilfunc := ⟨by kernel_rfl⟩
instance Try.rd152 : qbs Try.prog 152 := qao fun v cells => by kernel_rfl
instance Try.sz153 : TSz Try.prog 153 1 := ⟨by kernel_rfl⟩
instance Try.by153 : qae Try.prog 153 8 := ⟨by kernel_rfl⟩
instance Try.ze153 : qam Try.prog 153 .nilfunc := ⟨by kernel_rfl⟩
instance Try.rd153 : qbs Try.prog 153 := qao fun v cells => by kernel_rfl
instance Try.sz154 : TSz Try.prog 154 1 := ⟨by kernel_rfl⟩
instance Try.by154 : qae Try.prog 154 8 := ⟨by kernel_rfl⟩
instance Try.ze154 : qam Try.prog 154 .nilptr := ⟨by kernel_rfl⟩
instance Try.rd154 : qbs Try.prog 154 := qao fun v cells => by kernel_rfl
instance Try.sz155 : TSz Try.prog 155 1 := ⟨by kernel_rfl⟩
instance Try.by155 : qae Try.prog 155 8 := ⟨by kernel_rfl⟩
instance Try.ze155 : qam Try.prog 155 .nilfunc := ⟨by kernel_rfl⟩
instance Try.rd155 : qbs Try.prog 155 := qao fun v cells => by kernel_rfl
instance Try.sz156 : TSz Try.prog 156 1 := ⟨by kernel_rfl⟩
instance Try.by156 : qae Try.prog 156 8 := ⟨by kernel_rfl⟩
instance Try.ze156 : qam Try.prog 156 .nilptr := ⟨by kernel_rfl⟩
instance Try.rd156 : qbs Try.prog 156 := qao fun v cells => by kernel_rfl
instance Try.sz157 : TSz Try.prog 157 1 := ⟨by kernel_rfl⟩
instance Try.by157 : qae Try.prog 157 0 := ⟨by kernel_rfl⟩
instance Try.ze157 : qam Try.prog 157 .undef := ⟨by kernel_rfl⟩
instance Try.rd157 : qbs Try.prog 157 := qao fun v cells => by kernel_rfl
instance Try.sz158 : TSz Try.prog 158 1 := ⟨by kernel_rfl⟩
instance Try.by158 : qae Try.prog 158 8 := ⟨by kernel_rfl⟩
instance Try.ze158 : qam Try.prog 158 .nilfunc := ⟨by kernel_rfl⟩
instance Try.rd158 : qbs Try.prog 158 := qao fun v cells => by kernel_rfl
instance Try.sz159 : TSz Try.prog 159 1 := ⟨by kernel_rfl⟩
instance Try.by159 : qae Try.prog 159 8 := ⟨by kernel_rfl⟩
instance Try.ze159 : qam Try.prog 159 .nilfunc := ⟨by kernel_rfl⟩
instance Try.rd159 : qbs Try.prog 159 := qao fun v cells => by kernel_rfl
instance Try.sz160 : TSz Try.prog 160 4 := ⟨by kernel_rfl⟩
instance Try.by160 : qae Try.prog 160 40 := ⟨by kernel_rfl⟩
instance Try.ze160 : qam Try.prog 160 (.agg [.nilptr, .nilptr, .nilptr, (.str [])]) := ⟨by kernel_rfl⟩
instance Try.rd160 : TAgg Try.prog 160 4 := qbz fun cells => by kernel_rfl
instance Try.fd160_0 : qak Try.prog 160 0 0 17 := qac (fun _ _ _ => by kernel_rfl) (fun _ => by kernel_rfl) (fun _ => by kernel_rfl)
instance Try.fd160_1 : qak Try.prog 160 1 1 17 := qac (fun _ _ _ => by kernel_rfl) (fun _ => by kernel_rfl) (fun _ => by kernel_rfl)
instance Try.fd160_2 : qak Try.prog 160 2 2 17 := qac (fun _ _ _ => by kernel_rfl) (fun _ => by kernel_rfl) (fun _ => by kernel_rfl)
instance Try.fd160_3 : qak Try.prog 160 3 3 9 := qac (fun _ _ _ => by kernel_rfl) (fun _ => by kernel_rfl) (fun _ => by kernel_rfl)
instance Try.st160 : qbc Try.prog 160 [(0, 1), (1, 1), (2, 1), (3, 1)] [.nilptr, .nilptr, .nilptr, (.str [])] := qaz (by kernel_rfl) Try.ze160.zero rfl
instance Try.sz161 : TSz Try.prog 161 4 := ⟨by kernel_rfl⟩
instance Try.by161 : qae Try.prog 161 40 := ⟨by kernel_rfl⟩
instance Try.ze161 : qam Try.prog 161 (.agg [.nilptr, .nilptr, .nilptr, (.str [])]) := ⟨by kernel_rfl⟩
instance Try.rd161 : TAgg Try.prog 161 4 := qbz fun cells => by kernel_rfl
instance Try.fd161_0 : qak Try.prog 161 0 0 17 := qac (fun _ _ _ => by kernel_rfl) (fun _ => by kernel_rfl) (fun _ => by kernel_rfl)
instance Try.fd161_1 : qak Try.prog 161 1 1 17 := qac (fun _ _ _ => by kernel_rfl) (fun _ => by kernel_rfl) (fun _ => by kernel_rfl)
instance Try.fd161_2 : qak Try.prog 161 2 2 17 := qac (fun _ _ _ => by kernel_rfl) (fun _ => by kernel_rfl) (fun _ => by kernel_rfl)
instance Try.fd161_3 : qak Try.prog 161 3 3 9 := qac (fun _ _ _ => by kernel_rfl) (fun _ => by kernel_rfl) (fun _ => by kernel_rfl)
instance Try.st161 : qbc Try.prog 161 [(0, 1), (1, 1), (2, 1), (3, 1)] [.nilptr, .nilptr, .nilptr, (.str [])] := qaz (by kernel_rfl) Try.ze161.zero rfl
instance Try.sz162 : TSz Try.prog 162 0 := ⟨by kernel_rfl⟩
instance Try.by162 : qae Try.prog 162 0 := ⟨by kernel_rfl⟩
instance Try.ze162 : qam Try.prog 162 (.agg []) := ⟨by kernel_rfl⟩
instance Try.rd162 : TAgg Try.prog 162 0 := qbz fun cells => by kernel_rfl
instance Try.sz163 : TSz Try.prog 163 0 := ⟨by kernel_rfl⟩
instance Try.by163 : qae Try.prog 163 0 := ⟨by kernel_rfl⟩
instance Try.ze163 : qam Try.prog 163 (.agg []) := ⟨by kernel_rfl⟩
instance Try.rd163 : TAgg Try.prog 163 0 := qbz fun cells => by kernel_rfl
instance Try.st163 : qbc Try.prog 163 [(0, 0)] [] := qaz (by kernel_rfl) Try.ze163.zero rfl
instance Try.sz164 : TSz Try.prog 164 0 := ⟨by kernel_rfl⟩
instance Try.by164 : qae Try.prog 164 0 := ⟨by kernel_rfl⟩
instance Try.ze164 : qam Try.prog 164 (.agg []) := ⟨by kernel_rfl⟩
instance Try.rd164 : TAgg Try.prog 164 0 := qbz fun cells => by kernel_rfl
instance Try.st164 : qbc Try.prog 164 [(0, 0)] [] := qaz (by kernel_rfl) Try.ze164.zero rfl
instance Try.sz165 : TSz Try.prog 165 1 := ⟨by kernel_rfl⟩
instance Try.by165 : qae Try.prog 165 8 := ⟨by kernel_rfl⟩
instance Try.ze165 : qam Try.prog 165 .nilfunc := ⟨by kernel_rfl⟩
instance Try.rd165 : qbs Try.prog 165 := qao fun v cells => by kernel_rfl
instance Try.sz166 : TSz Try.prog 166 1 := ⟨by kernel_rfl⟩
instance Try.by166 : qae Try.prog 166 1 := ⟨by kernel_rfl⟩
instance Try.ze166 : qam Try.prog 166 (.int .u8 0) := ⟨by kernel_rfl⟩
instance Try.rd166 : qbs Try.prog 166 := qao fun v cells => by kernel_rfl
instance Try.un166 : TInt Try.prog 166 .u8 := ⟨by kernel_rfl⟩
instance Try.sz167 : TSz Try.prog 167 1 := ⟨by kernel_rfl⟩
instance Try.by167 : qae Try.prog 167 1 := ⟨by kernel_rfl⟩
instance Try.ze167 : qam Try.prog 167 (.int .u8 0) := ⟨by kernel_rfl⟩
instance Try.rd167 : qbs Try.prog 167 := qao fun v cells => by kernel_rfl
instance Try.un167 : TInt Try.prog 167 .u8 := ⟨by kernel_rfl⟩
instance Try.sz168 : TSz Try.prog 168 1 := ⟨by kernel_rfl⟩
instance Try.by168 : qae Try.prog 168 8 := ⟨by kernel_rfl⟩
instance Try.ze168 : qam Try.prog 168 .nilfunc := ⟨by kernel_rfl⟩
instance Try.rd168 : qbs Try.prog 168 := qao fun v cells => by kernel_rfl
instance Try.sz169 : TSz Try.prog 169 1 := ⟨by kernel_rfl⟩
instance Try.by169 : qae Try.prog 169 8 := ⟨by kernel_rfl⟩
instance Try.ze169 : qam Try.prog 169 .nilptr := ⟨by kernel_rfl⟩
instance Try.rd169 : qbs Try.prog 169 := qao fun v cells => by kernel_rfl
instance Try.sz170 : TSz Try.prog 170 1 := ⟨by kernel_rfl⟩
instance Try.by170 : qae Try.prog 170 4 := ⟨by kernel_rfl⟩
instance Try.ze170 : qam Try.prog 170 (.int .i32 0) := ⟨by kernel_rfl⟩
instance Try.rd170 : qbs Try.prog 170 := qao fun v cells => by kernel_rfl
instance Try.un170 : TInt Try.prog 170 .i32 := ⟨by kernel_rfl⟩
instance Try.sz171 : TSz Try.prog 171 1 := ⟨by kernel_rfl⟩
instance Try.by171 : qae Try.prog 171 4 := ⟨by kernel_rfl⟩
instance Try.ze171 : qam Try.prog 171 (.int .i32 0) := ⟨by kernel_rfl⟩
instance Try.rd171 : qbs Try.prog 171 := qao fun v cells => by kernel_rfl
instance Try.un171 : TInt Try.prog 171 .i32 := ⟨by kernel_rfl⟩
instance Try.sz172 : TSz Try.prog 172 11 := ⟨by kernel_rfl⟩
instance Try.by172 : qae Try.prog 172 48 := ⟨by kernel_rfl⟩
instance Try.ze172 : qam Try.prog 172 (.agg [(.int .u64 0), (.int .u64 0), (.int .u32 0), (.int .u8 0), (.int .u8 0), (.int .u8 0), (.int .u8 0), .nilfunc, .nilptr, (.int .i32 0), (.int .i32 0)]) := ⟨by kernel_rfl⟩
instance Try.rd172 : TAgg Try.prog 172 11 := qbz fun cells => by kernel_rfl
instance Try.fd172_0 : qak Try.prog 172 0 0 12 := qac (fun _ _ _ => by kernel_rfl) (fun _ => by kernel_rfl) (fun _ => by kernel_rfl)
instance Try.fd172_1 : qak Try.prog 172 1 1 12 := qac (fun _ _ _ => by kernel_rfl) (fun _ => by kernel_rfl) (fun _ => by kernel_rfl)
instance Try.fd172_2 : qak Try.prog 172 2 2 147 := qac (fun _ _ _ => by kernel_rfl) (fun _ => by kernel_rfl) (fun _ => by kernel_rfl)
instance Try.fd172_3 : qak Try.prog 172 3 3 166 := qac (fun _ _ _ => by kernel_rfl) (fun _ => by kernel_rfl) (fun _ => by kernel_rfl)
instance Try.fd172_4 : qak Try.prog 172 4 4 5 := qac (fun _ _ _ => by kernel_rfl) (fun _ => by kernel_rfl) (fun _ => by kernel_rfl)
instance Try.fd172_5 : qak Try.prog 172 5 5 5 := qac (fun _ _ _ => by kernel_rfl) (fun _ => by kernel_rfl) (fun _ => by kernel_rfl)
instance Try.fd172_6 : qak Try.prog 172 6 6 167 := qac (fun _ _ _ => by kernel_rfl) (fun _ => by kernel_rfl) (fun _ => by kernel_rfl)
instance Try.fd172_7 : qak Try.prog 172 7 7 168 := qac (fun _ _ _ => by kernel_rfl) (fun _ => by kernel_rfl) (fun _ => by kernel_rfl)
instance Try.fd172_8 : qak Try.prog 172 8 8 169 := qac (fun _ _ _ => by kernel_rfl) (fun _ => by kernel_rfl) (fun _ => by kernel_rfl)
instance Try.fd172_9 : qak Try.prog 172 9 9 170 := qac (fun _ _ _ => by kernel_rfl) (fun _ => by kernel_rfl) (fun _ => by kernel_rfl)
instance Try.fd172_10 : qak Try.prog 172 10 10 171 := qac (fun _ _ _ => by kernel_rfl) (fun _ => by kernel_rfl) (fun _ => by kernel_rfl)
instance Try.st172 : qbc Try.prog 172 [(0, 1), (1, 1), (2, 1), (3, 1), (4, 1), (5, 1), (6, 1), (7, 1), (8, 1), (9, 1), (10, 1)] [(.int .u64 0), (.int .u64 0), (.int .u32 0), (.int .u8 0), (.int .u8 0), (.int .u8 0), (.int .u8 0), .nilfunc, .nilptr, (.int .i32 0), (.int .i32 0)] := qaz (by kernel_rfl) Try.ze172.zero rfl
instance Try.sz173 : TSz Try.prog 173 11 := ⟨by kernel_rfl⟩
instance Try.by173 : qae Try.prog 173 48 := ⟨by kernel_rfl⟩
instance Try.ze173 : qam Try.prog 173 (.agg [(.int .u64 0), (.int .u64 0), (.int .u32 0), (.int .u8 0), (.int .u8 0), (.int .u8 0), (.int .u8 0), .nilfunc, .nilptr, (.int .i32 0), (.int .i32 0)]) := ⟨by kernel_rfl⟩
instance Try.rd173 : TAgg Try.prog 173 11 := qbz fun cells => by kernel_rfl
instance Try.fd173_0 : qak Try.prog 173 0 0 12 := qac (fun _ _ _ => by kernel_rfl) (fun _ => by kernel_rfl) (fun _ => by kernel_rfl)
instance Try.fd173_1 : qak Try.prog 173 1 1 12 := qac (fun _ _ _ => by kernel_rfl) (fun _ => by kernel_rfl) (fun _ => by kernel_rfl)
instance Try.fd173_2 : qak Try.prog 173 2 2 147 := qac (fun _ _ _ => by kernel_rfl) (fun _ => by kernel_rfl) (fun _ => by kernel_rfl)
instance Try.fd173_3 : qak Try.prog 173 3 3 166 := qac (fun _ _ _ => by kernel_rfl) (fun _ => by kernel_rfl) (fun _ => by kernel_rfl)
instance Try.fd173_4 : qak Try.prog 173 4 4 5 := qac (fun _ _ _ => by kernel_rfl) (fun _ => by kernel_rfl) (fun _ => by kernel_rfl)
instance Try.fd173_5 : qak Try.prog 173 5 5 5 := qac (fun _ _ _ => by kernel_rfl) (fun _ => by kernel_rfl) (fun _ => by kernel_rfl)
instance Try.fd173_6 : qak Try.prog 173 6 6 167 := qac (fun _ _ _ => by kernel_rfl) (fun _ => by kernel_rfl) (fun _ => by kernel_rfl)
instance Try.fd173_7 : qak Try.prog 173 7 7 168 := qac (fun _ _ _ => by kernel_rfl) (fun _ => by kernel_rfl) (fun _ => by kernel_rfl)
instance Try.fd173_8 : qak Try.prog 173 8 8 169 := qac (fun _ _ _ => by kernel_rfl) (fun _ => by kernel_rfl) (fun _ => by kernel_rfl)
instance Try.fd173_9 : qak Try.prog 173 9 9 170 := qac (fun _ _ _ => by kernel_rfl) (fun _ => by kernel_rfl) (fun _ => by kernel_rfl)
instance Try.fd173_10 : qak Try.prog 173 10 10 171 := qac (fun _ _ _ => by kernel_rfl) (fun _ => by kernel_rfl) (fun _ => by kernel_rfl)
instance Try.st173 : qbc Try.prog 173 [(0, 1), (1, 1), (2, 1), (3, 1), (4, 1), (5, 1), (6, 1), (7, 1), (8, 1), (9, 1), (10, 1)] [(.int .u64 0), (.int .u64 0), (.int .u32 0), (.int .u8 0), (.int .u8 0), (.int .u8 0), (.int .u8 0), .nilfunc, .nilptr, (.int .i32 0), (.int .i32 0)] := qaz (by kernel_rfl) Try.ze173.zero rfl
instance Try.sz174 : TSz Try.prog 174 1 := ⟨by kernel_rfl⟩
instance Try.by174 : qae Try.prog 174 8 := ⟨by kernel_rfl⟩
instance Try.ze174 : qam Try.prog 174 .nilptr := ⟨by kernel_rfl⟩
instance Try.rd174 : qbs Try.prog 174 := qao fun v cells => by kernel_rfl
end Go.Am
namespace Go.Am
open Go AM
theorem tgP {P : Prop} (h : P := by (repeat' first|assumption|exact tgo_same rfl|apply tgo_ne rfl|apply tgo_none); first|done|fail) : P := h
theorem evP {P : Prop} (h : P := by (focus first|(apply ev_tmp;exact tgP)|exact ev_int _ _|exact ev_bool _|exact ev_str _|exact ev_nilptr|exact ev_nilsl|exact ev_nilmap|exact ev_nilfunc|exact ev_func _)) : P := h
theorem E0 {P : Prop} (h : P := by first|exact evP|exact ar_inc _ (by omega)|exact ar_sub (by omega)|exact ar_add (by omega)|exact rfl|assumption) : P := h
structure Bx (P : Prop) : Prop where un : P
theorem goP {A B : Prop} (b : B) (h : Bx B → A := by intro goB; (repeat (first|refine KW.go ?_|((first|apply O_assign|apply O_move|apply O_int|apply O_not|apply O_pick|apply O_len_v|apply O_extract|apply O_nilCheck_ptr|apply qc4|apply O_load_row)<;>first|exact E0|apply O_self)|((first|apply O_str|apply O_len_str|apply O_nilCheck_iptr)<;>first|exact E0|apply O_self)|(apply O_yes rfl rfl;(focus exact tgP))|(apply O_no rfl rfl;(focus exact tgP);exact rfl))); exact goB.un) : A := h ⟨b⟩
theorem qal {a b : Prop} (k : b) (h : a := by first|omega|exact rfl|trivial|exact S.lit _ _|kernel_rfl|(simp; omega)) : a ∧ b := ⟨h, k⟩
end Go.Am
namespace Go.Am
open Go Go.Proofs AM
set_option maxRecDepth 10000
variable {pol : Pol} {sums : Sums}
attribute [local irreducible] KSeq KMid KBlock KLoop KOps KFunc Runs qbq qaw aopsM aop qat qay qa2 qa2? qaj qa8 qah

abbrev Str := List UInt8
def strs (l : List Str) : List AV := l.map .str
@[simp] theorem strs_length (l : List Str) : (strs l).length = l.length := by simp [strs]
theorem strs_append (l m : List Str) : strs (l ++ m) = strs l ++ strs m := by simp [strs]
theorem strs_at {l : List Str} {i : Nat} (hi : i < l.length) : ((strs l).drop (i * 1)).take 1 = [.str l[i]] := by
  rw [Nat.mul_one, List.drop_eq_getElem_cons (by simpa using hi)]
  simp [strs]
theorem strs_ones (l : List Str) : ones (strs l) = true := by simp [ones, strs, one]
/-- a slice of texts -/
abbrev Strs (h : Hp) (v : AV) (l : List Str) : Prop := SlV h 1 v l.length (strs l)

theorem index_spec (hs : sums 79 = none) (n : Nat) {h : Hp} {v : AV} {l : List Str} (o : Strs h v l) (s : Str) (hn : l.length < n) (hb : l.length < 2 ^ 62) :
    Runs (qat Try.prog pol sums (n + 1) (.func (.func 79) [] []) [v, .str s]) h (fun r h' => h = h' ∧ ((r = .int .i64 (-1) ∧ s ∉ l) ∨ ∃ i : Nat, r = .int .i64 i ∧ s ∈ l)) := by
  refine qb9 hs Try.func79 rfl (by simp [Try.f79]) ?_
  have h0 : qay (qah Try.f79.ntmps ([] ++ [v, .str s] ++ [])) 0 = v := qaf rfl
  have h1 : qay (qah Try.f79.ntmps ([] ++ [v, .str s] ++ [])) 1 = .str s := qaf rfl
  generalize qah Try.f79.ntmps ([] ++ [v, .str s] ++ []) = T at *
  show Runs (qaw _ _ _ _ 19 _ _ _) _ _
  refine goP ?_
  apply R_loop (k := l.length) (I := fun k T h1 => ∃ i, k = l.length - i ∧ i ≤ l.length ∧ qay T 0 = v ∧ qay T 1 = .str s ∧ qay T 7 = .int .i64 l.length ∧ qay T 8 = .int .i64 i ∧ h1 = h ∧ s ∉ l.take i)
  · exact hn
  · exact ⟨0, by omega, by omega, by exact tgP, by exact tgP, by exact tgP, by exact tgP, rfl, by simp⟩
  · rintro k T h1 ⟨i, rfl, hi, t0, t1, t7, t8, rfl, hall⟩
    refine goP ?_
    apply qa9 (decide ((i : Int) < (l.length : Int)))
    · exact evP
    · intro c
      have hlt : i < l.length := by simpa using c
      refine goP ?_
      apply qax
      · exact evP
      · exact o
      · exact evP
      · exact hlt
      · rfl
      intro a ha _
      rw [strs_at hlt] at ha
      apply qbx
      · exact evP
      · exact ha
      refine goP ?_
      apply qa9 (s == l[i])
      · exact evP
      · intro e
        have e : s = l[i] := by simpa using e
        refine goP ?_
        (apply qav rfl; exact tgP)
        exact ⟨rfl, .inr ⟨i, rfl, by rw [e]; exact List.getElem_mem hlt⟩⟩
      · intro e
        have e : s ≠ l[i] := by simpa using e
        refine goP ?_
        apply K_loop (l.length - (i + 1)) (by omega)
        refine ⟨i + 1, rfl, by omega, by exact tgP, by exact tgP, by exact tgP, by exact tgP, rfl, ?_⟩
        rw [List.take_succ_eq_append_getElem hlt, List.mem_append]
        rintro (q | q)
        · exact hall q
        · simp at q; exact e q
    · intro c
      refine goP ?_
      (apply qav rfl; exact tgP)
      have : i = l.length := by
        have : ¬ i < l.length := by simpa using c
        omega
      subst this
      rw [List.take_length] at hall
      exact ⟨rfl, .inl ⟨rfl, hall⟩⟩
theorem contains_code (hs : sums 67 = none) (hs2 : sums 79 = none) (n : Nat) {h : Hp} {v : AV} {l : List Str} (o : Strs h v l) (s : Str) (hn : l.length + 1 < n) (hb : l.length < 2 ^ 62) :
    Runs (qat Try.prog pol sums (n + 1) (.func (.func 67) [] []) [v, .str s]) h (fun r h' => h = h' ∧ r = .bool (decide (s ∈ l))) := by
  refine qb9 hs Try.func67 rfl (by simp [Try.f67]) ?_
  have h0 : qay (qah Try.f67.ntmps ([] ++ [v, .str s] ++ [])) 0 = v := qaf rfl
  have h1 : qay (qah Try.f67.ntmps ([] ++ [v, .str s] ++ [])) 1 = .str s := qaf rfl
  generalize qah Try.f67.ntmps ([] ++ [v, .str s] ++ []) = T at *
  show Runs (qaw _ _ _ _ 9 _ _ _) _ _
  refine goP ?_
  obtain ⟨n, rfl⟩ : ∃ m, n = m + 1 := ⟨n - 1, by omega⟩
  (apply qbn; exact evP; (repeat (apply qai; exact evP)); exact qas)
  refine (index_spec hs2 n o s (by omega) hb).mono ?_
  rintro r h1 ⟨rfl, hr⟩
  refine ⟨Undis.off rfl, ?_⟩
  rcases hr with ⟨rfl, hr⟩ | ⟨i, rfl, hr⟩
  · refine goP ?_
    (apply qav rfl; exact tgP)
    simp [hr]
  · refine goP ?_
    (apply qav rfl; exact tgP)
    simp [hr]

/-- what the machine takes for Contains: a slice, or a bag -/
def hasStr (s : Str) : List AV → Option Bool
  | [] => some false
  | .str x :: r => match hasStr s r with
    | some b => some (x == s || b)
    | none => none
  | _ :: _ => none
/-- is an object's number one of those handed out? -/
def okId (id : Nat) : AM Unit where
  run h := cond (Nat.blt id h.next) (some ((), h)) none
  good := ⟨fun h a h' e => by
    dsimp only at e
    cases hb : Nat.blt id h.next with
    | false => rw [hb] at e; cases e
    | true => rw [hb] at e; cases e; exact Dom.refl _, fun h a h' e _ => by
    dsimp only at e
    cases hb : Nat.blt id h.next with
    | false => rw [hb] at e; cases e
    | true =>
      rw [hb] at e
      simp only [cond_true, Option.some.injEq, Prod.mk.injEq] at e
      obtain ⟨-, rfl⟩ := e
      refine ⟨Fr.refl _, fun g hn hg => ⟨g, by dsimp only; rw [hn, hb]; rfl, hn, fun i => ?_⟩⟩
      split
      · rename_i hc
        rcases hc with hc | hc
        · obtain ⟨o, ho⟩ := Option.isSome_iff_exists.1 hc
          rw [ho, hg i o ho]
        · omega
      · rfl⟩
def okIds : AV → AM Unit
  | .own id ver _ _ => do
    okId id
    let (esz, _, _) ← rowOf id ver
    AM.guard (Nat.beq esz 1)
  | _ => pure ()
def qbp : List AV → AM AV
  | [.bag cells, .str s] => do
    AM.guard (Nat.blt cells.length 4611686018427387904)
    let b ← AM.ofOption (hasStr s cells)
    pure (.bool b)
  | [v, .str s] => do
    okIds v
    let (n, cells) ← qb7 1 v
    AM.guard (Nat.blt n 4611686018427387904)
    let b ← AM.ofOption (hasStr s cells)
    pure (.bool b)
  | _ => AM.fail
theorem hasStr_strs (s : Str) : ∀ l : List Str, hasStr s (strs l) = some (decide (s ∈ l))
  | [] => rfl
  | x :: l => by
    simp only [strs, List.map_cons, hasStr]
    rw [show l.map AV.str = strs l from rfl, hasStr_strs s l]
    simp
    by_cases e : x = s
    · subst e; simp
    · have e' : ¬ s = x := fun q => e q.symm
      simp [e, e']
theorem containsSum_sl {h : Hp} {sz n : Nat} {v : AV} {cells : List AV} (o : SlV h sz v n cells) (s : Str) : qbp [v, .str s] = (do
    okIds v
    let (n, cells) ← qb7 1 v
    AM.guard (Nat.blt n 4611686018427387904)
    let b ← AM.ofOption (hasStr s cells)
    pure (.bool b)) := by cases o <;> rfl
theorem okIds_run {h : Hp} {n : Nat} {v : AV} {cells : List AV} (o : SlV h 1 v n cells) (w : h.WF) : (okIds v).run h = some ((), h) := by
  have hlt := o.lt w
  cases o with
  | imm => rfl
  | own id ver off n row fix r e =>
    obtain ⟨st, ho⟩ := r
    have hid := hlt id (by simp [qa4])
    have h1 : (okId id).run h = some ((), h) := by
      show cond _ _ _ = _
      rw [show Nat.blt id h.next = true by rw [Nat.blt_eq]; exact hid]
      rfl
    simp only [okIds]
    rw [run_bind, h1]
    dsimp only
    rw [run_bind, qcz ho]
    rfl
/-- a slice or a bag that holds texts -/
def Names (h : Hp) (v : AV) (l : List Str) : Prop := Strs h v l ∨ v = .bag (strs l)
theorem Names.keep {h h1 : Hp} {v : AV} {l : List Str} (s : Names h v l) (k : Keep h h1) : Names h1 v l := s.elim (fun x => .inl (x.keep k)) .inr
theorem contains_spec (hs : sums 67 = some qbp) {n : Nat} (hn : 1 ≤ n) {h : Hp} {v : AV} {l : List Str} (o : Names h v l) (s : Str) (hb : l.length < 2 ^ 62) :
    Runs (qat Try.prog pol sums n (.func (.func 67) [] []) [v, .str s]) h (fun r h' => h = h' ∧ r = .bool (decide (s ∈ l))) := by
  obtain ⟨n, rfl⟩ : ∃ m, n = m + 1 := ⟨n - 1, by omega⟩
  refine R_sum hs ?_
  simp only [List.nil_append, List.append_nil]
  refine Runs.wf fun w => ?_
  rcases o with o | rfl
  · have hok : (okIds v).run h = some ((), h) := okIds_run o w
    have e : (qbp [v, .str s]).run h = some (.bool (decide (s ∈ l)), h) := by
      have hc := o.cells_run
      rw [containsSum_sl o, run_bind, hok]
      dsimp only
      rw [run_bind, hc]
      dsimp only
      rw [show Nat.blt l.length 4611686018427387904 = true by rw [Nat.blt_eq]; omega, qar, qaa, hasStr_strs]
      rfl
    exact Runs.of e ⟨rfl, rfl⟩
  · exact Runs.of (by simp only [qbp]; rw [hasStr_strs, show Nat.blt (strs l).length 4611686018427387904 = true by rw [Nat.blt_eq]; simp; omega]; rfl) ⟨rfl, rfl⟩
end Go.Am
