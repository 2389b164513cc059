/- law19: the program's Guess, by the chunk layer. -/
import Derived.Test.YtjkbdgglljpllabGreatDoorQ4
set_option linter.unusedVariables false
set_option linter.unusedSimpArgs false
namespace Go.Am
open Go AM
set_option linter.unusedVariables false
set_option synthInstance.maxHeartbeats 200000
/-- a number from 0 on -/
class NatOf (z : Int) (j : outParam Nat) : Prop where eq : z = (j : Int)
instance {n : Nat} : NatOf (n : Int) n := ⟨rfl⟩
instance : NatOf 0 0 := ⟨rfl⟩
instance : NatOf 1 1 := ⟨rfl⟩
instance : NatOf 2 2 := ⟨rfl⟩
instance : NatOf 3 3 := ⟨rfl⟩
instance : NatOf 4 4 := ⟨rfl⟩
instance : NatOf 5 5 := ⟨rfl⟩
instance : NatOf 6 6 := ⟨rfl⟩
instance : NatOf 7 7 := ⟨rfl⟩
instance : NatOf 8 8 := ⟨rfl⟩
instance : NatOf 9 9 := ⟨rfl⟩
instance : NatOf 10 10 := ⟨rfl⟩
instance : NatOf 11 11 := ⟨rfl⟩
instance : NatOf 12 12 := ⟨rfl⟩
instance : NatOf 13 13 := ⟨rfl⟩
instance : NatOf 14 14 := ⟨rfl⟩
instance : NatOf 15 15 := ⟨rfl⟩
instance : NatOf 16 16 := ⟨rfl⟩
instance : NatOf 17 17 := ⟨rfl⟩
instance : NatOf 18 18 := ⟨rfl⟩
instance : NatOf 19 19 := ⟨rfl⟩
instance : NatOf 20 20 := ⟨rfl⟩
instance : NatOf 21 21 := ⟨rfl⟩
instance : NatOf 22 22 := ⟨rfl⟩
instance : NatOf 23 23 := ⟨rfl⟩
instance : NatOf 24 24 := ⟨rfl⟩
instance : NatOf 25 25 := ⟨rfl⟩
instance : NatOf 26 26 := ⟨rfl⟩
instance : NatOf 27 27 := ⟨rfl⟩
instance : NatOf 28 28 := ⟨rfl⟩
instance : NatOf 29 29 := ⟨rfl⟩
instance : NatOf 30 30 := ⟨rfl⟩
instance : NatOf 31 31 := ⟨rfl⟩
instance : NatOf 32 32 := ⟨rfl⟩
instance : NatOf 33 33 := ⟨rfl⟩
instance : NatOf 64 64 := ⟨rfl⟩
instance : NatOf 128 128 := ⟨rfl⟩
instance : NatOf 255 255 := ⟨rfl⟩
instance : NatOf 256 256 := ⟨rfl⟩
instance : NatOf 257 257 := ⟨rfl⟩

section
variable {h0 : Hp} {X : List Nat} {W L : List Ck} {P : Program} {pol : Pol} {call : Calling} {fn nt : Nat} {R : Rg} {rest : List (Nat × Oper)} {ds : List (Nat × Option Tmp)} {seen : Seen} {T : Temps} {Q : Temps → Hp → Prop} {i : Nat} {d : Option Tmp} {ty : TypeId} {pos : String} {after : Array Edge}

instance {B : Bs} : Wk (AOps B L P pol call fn nt R [] ds seen T Q) (AT B L Q T) := ⟨fun g h s _ => O_nil (g h s)⟩
/-- chunks in front, laid out -/
instance (priority := 2000) {B : Bs} {ops : List (Nat × Oper)} {N M Z : List Ck} [a : App N M Z] : Wk (AOps B (N ++ M) P pol call fn nt R ops ds seen T Q) (AOps B Z P pol call fn nt R ops ds seen T Q) := ⟨fun g => by rw [a.eq]; exact g⟩

/-! guards -/
class Dl (ds : List (Nat × Option Tmp)) (j : Nat) (t : outParam Nat) : Prop where mem : (j, some t) ∈ ds
instance dl_0 {ds : List (Nat × Option Tmp)} {j t : Nat} : Dl ((j, some t) :: ds) j t := ⟨List.mem_cons_self⟩
instance (priority := 900) dl_s {ds : List (Nat × Option Tmp)} {j t : Nat} {x : Nat × Option Tmp} [a : Dl ds j t] : Dl (x :: ds) j t := ⟨List.mem_cons_of_mem _ a.mem⟩
theorem aops_yes {B : Bs} {j t : Nat} {want : Bool} {op : Op} [a : Dl ds j t] [b : Lk T t (.bool want)] (g : AOps B L P pol call fn nt R ((i, ⟨d, op, ty, pos, after, none⟩) :: rest) ds seen T Q) :
    AOps B L P pol call fn nt R ((i, ⟨d, op, ty, pos, after, some (j, want)⟩) :: rest) ds seen T Q := fun h s e =>
  O_yes rfl (by rw [e.1 _ a.mem]; rfl) b.eq (g h s e.yes)
theorem aops_no {B : Bs} {j t : Nat} {want b : Bool} {op : Op} [a : Dl ds j t] [hb : Lk T t (.bool b)] (hn : b = !want) (g : AOps B L P pol call fn nt R rest ((i, d) :: ds) seen (tput? nt T d (.tuple [])) Q) :
    AOps B L P pol call fn nt R ((i, ⟨d, op, ty, pos, after, some (j, want)⟩) :: rest) ds seen T Q := fun h s e =>
  O_no rfl (by rw [e.1 _ a.mem]; rfl) hb.eq hn (g h s e.step)
instance {B : Bs} {j t : Nat} {op : Op} {b : Bool} [a : Dl ds j t] [hb : Lk T t (.bool b)] [k : Is b true] : Wk (AOps B L P pol call fn nt R ((i, ⟨d, op, ty, pos, after, some (j, true)⟩) :: rest) ds seen T Q) (AOps B L P pol call fn nt R ((i, ⟨d, op, ty, pos, after, none⟩) :: rest) ds seen T Q) := ⟨fun g => by have hb' : Lk T t (.bool true) := ⟨by rw [hb.eq, k.eq]⟩; exact aops_yes g⟩
instance {B : Bs} {j t : Nat} {op : Op} {b : Bool} [a : Dl ds j t] [hb : Lk T t (.bool b)] [k : Is b false] : Wk (AOps B L P pol call fn nt R ((i, ⟨d, op, ty, pos, after, some (j, false)⟩) :: rest) ds seen T Q) (AOps B L P pol call fn nt R ((i, ⟨d, op, ty, pos, after, none⟩) :: rest) ds seen T Q) := ⟨fun g => by have hb' : Lk T t (.bool false) := ⟨by rw [hb.eq, k.eq]⟩; exact aops_yes g⟩
instance {B : Bs} {j t : Nat} {op : Op} {b : Bool} [a : Dl ds j t] [hb : Lk T t (.bool b)] [k : Is b true] : Wk (AOps B L P pol call fn nt R ((i, ⟨d, op, ty, pos, after, some (j, false)⟩) :: rest) ds seen T Q) (AOps B L P pol call fn nt R rest ((i, d) :: ds) seen (tput? nt T d (.tuple [])) Q) := ⟨aops_no (b := b) k.eq⟩
instance {B : Bs} {j t : Nat} {op : Op} {b : Bool} [a : Dl ds j t] [hb : Lk T t (.bool b)] [k : Is b false] : Wk (AOps B L P pol call fn nt R ((i, ⟨d, op, ty, pos, after, some (j, true)⟩) :: rest) ds seen T Q) (AOps B L P pol call fn nt R rest ((i, d) :: ds) seen (tput? nt T d (.tuple [])) Q) := ⟨aops_no (b := b) k.eq⟩
/-- by cases, where a guard is not known -/
theorem guard_cases {B : Bs} {j t : Nat} {want b : Bool} {op : Op} [a : Dl ds j t] [hb : Lk T t (.bool b)]
    (g1 : b = want → AOps B L P pol call fn nt R ((i, ⟨d, op, ty, pos, after, none⟩) :: rest) ds seen T Q) (g2 : b = !want → AOps B L P pol call fn nt R rest ((i, d) :: ds) seen (tput? nt T d (.tuple [])) Q) :
    AOps B L P pol call fn nt R ((i, ⟨d, op, ty, pos, after, some (j, want)⟩) :: rest) ds seen T Q := by
  by_cases e : b = want
  · subst e; exact aops_yes (g1 rfl)
  · exact aops_no (b := b) (by cases b <;> cases want <;> simp_all) (g2 (by cases b <;> cases want <;> simp_all))

/-! values -/
section
variable {B : Bs}
theorem aval {op : Op} {v : AV} (k : ∀ h, ROps P pol call fn nt R rest ((i, []) :: seen) (tput? nt T d v) h Q → ROps P pol call fn nt R ((i, ⟨d, op, ty, pos, after, none⟩) :: rest) seen T h Q)
    (g : AOps B L P pol call fn nt R rest ((i, d) :: ds) ((i, []) :: seen) (tput? nt T d v) Q) : AOps B L P pol call fn nt R ((i, ⟨d, op, ty, pos, after, none⟩) :: rest) ds seen T Q := fun h s e => k h (g h s e.step)
instance {x : Operand} {v : AV} [a : Ev T x v] : Wk (AOps B L P pol call fn nt R ((i, ⟨d, .move x, ty, pos, after, none⟩) :: rest) ds seen T Q) (AOps B L P pol call fn nt R rest ((i, d) :: ds) ((i, []) :: seen) (tput? nt T d v) Q) := ⟨aval fun h => O_move a.eq⟩
instance {x : Operand} {v : AV} [a : Ev T x v] : Wk (AOps B L P pol call fn nt R ((i, ⟨d, .assign x, ty, pos, after, none⟩) :: rest) ds seen T Q) (AOps B L P pol call fn nt R rest ((i, d) :: ds) ((i, []) :: seen) (tput? nt T d v) Q) := ⟨aval fun h => O_assign a.eq⟩
/-- numbers: what comes, without and with a condition -/
class Ar (op : BinOp) (k : IntKind) (a b : Int) (v : outParam AV) : Prop where eq : intR op k a b = some v
instance {k : IntKind} {a b : Int} : Ar .eql k a b (.bool (a == b)) := ⟨rfl⟩
instance {k : IntKind} {a b : Int} : Ar .neq k a b (.bool (a != b)) := ⟨rfl⟩
instance {k : IntKind} {a b : Int} : Ar .lss k a b (.bool (decide (a < b))) := ⟨rfl⟩
instance {k : IntKind} {a b : Int} : Ar .leq k a b (.bool (decide (a ≤ b))) := ⟨rfl⟩
instance {k : IntKind} {a b : Int} : Ar .gtr k a b (.bool (decide (a > b))) := ⟨rfl⟩
instance {k : IntKind} {a b : Int} : Ar .geq k a b (.bool (decide (a ≥ b))) := ⟨rfl⟩
class ArC (op : BinOp) (k : IntKind) (a b : Int) (v : outParam AV) (C : outParam Prop) : Prop where eq : C → intR op k a b = some v
instance arc_inc {n : Nat} : ArC .add .i64 (n : Int) 1 (.int .i64 ((n + 1 : Nat) : Int)) (n < 9223372036854775807) := ⟨ar_inc n⟩
instance arc_addn {n m : Nat} : ArC .add .i64 (n : Int) (m : Int) (.int .i64 ((n + m : Nat) : Int)) (n + m < 9223372036854775808) := ⟨fun h => by rw [ar_add (by omega)]; simp⟩
instance (priority := 950) arc_lit {n k : Nat} {b : Int} [e : NatOf b k] : ArC .add .i64 (n : Int) b (.int .i64 ((n + k : Nat) : Int)) (n + k < 9223372036854775808) := ⟨fun h => by rw [e.eq, ar_add (by omega)]; simp⟩
instance (priority := 900) arc_add {a b : Int} : ArC .add .i64 a b (.int .i64 (a + b)) (-9223372036854775808 ≤ a + b ∧ a + b < 9223372036854775808) := ⟨fun h => ar_add h⟩
instance (priority := 900) arc_sub {a b : Int} : ArC .sub .i64 a b (.int .i64 (a - b)) (-9223372036854775808 ≤ a - b ∧ a - b < 9223372036854775808) := ⟨fun h => ar_sub h⟩
instance (priority := 900) arc_mul {a b : Int} : ArC .mul .i64 a b (.int .i64 (a * b)) (-9223372036854775808 ≤ a * b ∧ a * b < 9223372036854775808) := ⟨fun h => by simp only [intR]; rw [wrap64 (y := a * b) rfl h]⟩
instance wk_ar {op : BinOp} {t t' : TypeId} {x y : Operand} {k : IntKind} {a b : Int} {v : AV} [hx : Ev T x (.int k a)] [hy : Ev T y (.int k b)] [r : Ar op k a b v] :
    Wk (AOps B L P pol call fn nt R ((i, ⟨d, .binOp op t x y t', ty, pos, after, none⟩) :: rest) ds seen T Q) (AOps B L P pol call fn nt R rest ((i, d) :: ds) ((i, []) :: seen) (tput? nt T d v) Q) := ⟨aval fun h => O_int hx.eq hy.eq r.eq⟩
instance (priority := 900) wk_arc {op : BinOp} {t t' : TypeId} {x y : Operand} {k : IntKind} {a b : Int} {v : AV} {C : Prop} [hx : Ev T x (.int k a)] [hy : Ev T y (.int k b)] [r : ArC op k a b v C] :
    Wk (AOps B L P pol call fn nt R ((i, ⟨d, .binOp op t x y t', ty, pos, after, none⟩) :: rest) ds seen T Q) (C ∧ AOps B L P pol call fn nt R rest ((i, d) :: ds) ((i, []) :: seen) (tput? nt T d v) Q) := ⟨fun g => aval (fun h => O_int hx.eq hy.eq (r.eq g.1)) g.2⟩
instance {t t' : TypeId} {x y : Operand} {k : IntKind} {a b : Int} [hx : Ev T x (.int k a)] [hy : Ev T y (.int k b)] :
    Wk (AOps B L P pol call fn nt R ((i, ⟨d, .binOp .rem t x y t', ty, pos, after, none⟩) :: rest) ds seen T Q) (b ≠ 0 ∧ AOps B L P pol call fn nt R rest ((i, d) :: ds) ((i, []) :: seen) (tput? nt T d (.int k (a.tmod b))) Q) := ⟨fun g => aval (fun h => O_rem hx.eq hy.eq g.1) g.2⟩
instance {t t' : TypeId} {x y : Operand} {k : IntKind} {a b : Int} [hx : Ev T x (.int k a)] [hy : Ev T y (.int k b)] :
    Wk (AOps B L P pol call fn nt R ((i, ⟨d, .binOp .quo t x y t', ty, pos, after, none⟩) :: rest) ds seen T Q) (b ≠ 0 ∧ AOps B L P pol call fn nt R rest ((i, d) :: ds) ((i, []) :: seen) (tput? nt T d (.int k (k.wrap (a.tdiv b)))) Q) := ⟨fun g => aval (fun h => O_quo hx.eq hy.eq g.1) g.2⟩
class Sr (op : BinOp) (a b : List UInt8) (v : outParam AV) : Prop where eq : strR op a b = some v
instance {a b : List UInt8} : Sr .eql a b (.bool (a == b)) := ⟨rfl⟩
instance {a b : List UInt8} : Sr .neq a b (.bool !(a == b)) := ⟨rfl⟩
instance {a b : List UInt8} : Sr .lss a b (.bool (Op.bytesLess a b)) := ⟨rfl⟩
instance wk_sr {op : BinOp} {t t' : TypeId} {x y : Operand} {a b : List UInt8} {v : AV} [hx : Ev T x (.str a)] [hy : Ev T y (.str b)] [r : Sr op a b v] :
    Wk (AOps B L P pol call fn nt R ((i, ⟨d, .binOp op t x y t', ty, pos, after, none⟩) :: rest) ds seen T Q) (AOps B L P pol call fn nt R rest ((i, d) :: ds) ((i, []) :: seen) (tput? nt T d v) Q) := ⟨aval fun h => O_str hx.eq hy.eq r.eq⟩
instance {t : TypeId} {x : Operand} {b : Bool} [hx : Ev T x (.bool b)] : Wk (AOps B L P pol call fn nt R ((i, ⟨d, .unOp .not t x, ty, pos, after, none⟩) :: rest) ds seen T Q) (AOps B L P pol call fn nt R rest ((i, d) :: ds) ((i, []) :: seen) (tput? nt T d (.bool !b)) Q) := ⟨aval fun h => O_not hx.eq⟩
instance {c x y : Operand} {v : AV} {b : Bool} [hc : Ev T c (.bool b)] [k : Is b true] [hx : Ev T x v] : Wk (AOps B L P pol call fn nt R ((i, ⟨d, .pick c x y, ty, pos, after, none⟩) :: rest) ds seen T Q) (AOps B L P pol call fn nt R rest ((i, d) :: ds) ((i, []) :: seen) (tput? nt T d v) Q) := ⟨aval fun h g => O_pick (u := aeval T y) hc.eq hx.eq rfl (by rw [k.eq]; exact g)⟩
instance {c x y : Operand} {u : AV} {b : Bool} [hc : Ev T c (.bool b)] [k : Is b false] [hy : Ev T y u] : Wk (AOps B L P pol call fn nt R ((i, ⟨d, .pick c x y, ty, pos, after, none⟩) :: rest) ds seen T Q) (AOps B L P pol call fn nt R rest ((i, d) :: ds) ((i, []) :: seen) (tput? nt T d u) Q) := ⟨aval fun h g => O_pick (v := aeval T x) hc.eq rfl hy.eq (by rw [k.eq]; exact g)⟩
instance (priority := 500) wk_pick {c x y : Operand} {b : Bool} {v u : AV} [hc : Ev T c (.bool b)] [hx : Ev T x v] [hy : Ev T y u] : Wk (AOps B L P pol call fn nt R ((i, ⟨d, .pick c x y, ty, pos, after, none⟩) :: rest) ds seen T Q) (AOps B L P pol call fn nt R rest ((i, d) :: ds) ((i, []) :: seen) (tput? nt T d (cond b v u)) Q) := ⟨aval fun h => O_pick hc.eq hx.eq hy.eq⟩
instance {x y : Operand} {ats : Array TypeId} {k : IntKind} {a b : Int} [hx : Ev T x (.int k a)] [hy : Ev T y (.int k b)] : Wk (AOps B L P pol call fn nt R ((i, ⟨d, .call ⟨.builtin .max, [x, y].toArray, ats⟩, ty, pos, after, none⟩) :: rest) ds seen T Q) (AOps B L P pol call fn nt R rest ((i, d) :: ds) ((i, []) :: seen) (tput? nt T d (.int k (if b > a then b else a))) Q) := ⟨aval fun h => O_max2 hx.eq hy.eq⟩
instance {x y : Operand} {ats : Array TypeId} {k : IntKind} {a b : Int} [hx : Ev T x (.int k a)] [hy : Ev T y (.int k b)] : Wk (AOps B L P pol call fn nt R ((i, ⟨d, .call ⟨.builtin .min, [x, y].toArray, ats⟩, ty, pos, after, none⟩) :: rest) ds seen T Q) (AOps B L P pol call fn nt R rest ((i, d) :: ds) ((i, []) :: seen) (tput? nt T d (.int k (if b < a then b else a))) Q) := ⟨aval fun h => O_min2 hx.eq hy.eq⟩
instance {x : Operand} {j : Nat} {vs : List AV} {v : AV} [hx : Ev T x (.tuple vs)] [hv : Nth vs j v] : Wk (AOps B L P pol call fn nt R ((i, ⟨d, .extract x j, ty, pos, after, none⟩) :: rest) ds seen T Q) (AOps B L P pol call fn nt R rest ((i, d) :: ds) ((i, []) :: seen) (tput? nt T d v) Q) := ⟨aval fun h => O_extract hx.eq hv.eq⟩
instance {a b : TypeId} {ka kb : IntKind} [ha : TInt P a ka] [hb : TInt P b kb] {x : Operand} {k : IntKind} {n : Int} [hx : Ev T x (.int k n)] : Wk (AOps B L P pol call fn nt R ((i, ⟨d, .convert a b x, ty, pos, after, none⟩) :: rest) ds seen T Q) (AOps B L P pol call fn nt R rest ((i, d) :: ds) ((i, []) :: seen) (tput? nt T d (.int kb (kb.wrap n))) Q) := ⟨aval fun h => O_convert_int hx.eq⟩
instance {x : Operand} {id ver off : Nat} [hx : Ev T x (.ptr id ver off)] : Wk (AOps B L P pol call fn nt R ((i, ⟨d, .nilCheck x, ty, pos, after, none⟩) :: rest) ds seen T Q) (AOps B L P pol call fn nt R rest ((i, d) :: ds) ((i, []) :: seen) (tput? nt T d (.ptr id ver off)) Q) := ⟨aval fun h => O_nilCheck_ptr hx.eq⟩
instance {x : Operand} {cells : List AV} [hx : Ev T x (.iptr cells)] : Wk (AOps B L P pol call fn nt R ((i, ⟨d, .nilCheck x, ty, pos, after, none⟩) :: rest) ds seen T Q) (AOps B L P pol call fn nt R rest ((i, d) :: ds) ((i, []) :: seen) (tput? nt T d (.iptr cells)) Q) := ⟨aval fun h => O_nilCheck_iptr hx.eq⟩
instance {f : FuncId} {first captured : List Operand} {l1 l2 : List AV} [h1 : Evs T first l1] [h2 : Evs T captured l2] : Wk (AOps B L P pol call fn nt R ((i, ⟨d, .makeFunc (.func f) first.toArray captured.toArray, ty, pos, after, none⟩) :: rest) ds seen T Q) (AOps B L P pol call fn nt R rest ((i, d) :: ds) ((i, []) :: seen) (tput? nt T d (.func (.func f) l1 l2)) Q) := ⟨aval fun h => O_makeFunc h1.eq h2.eq⟩
/-- values of several cells, compared -/
class SEq {α : Type} [DecidableEq α] (P : Program) (t : TypeId) (f : α → List AV) : Prop where
  eql : ∀ a b, abin P .eql t (.agg (f a)) (.agg (f b)) = pure (.bool (decide (a = b)))
  neq : ∀ a b, abin P .neq t (.agg (f a)) (.agg (f b)) = pure (.bool (!decide (a = b)))
instance wk_seql {α : Type} [DecidableEq α] {f : α → List AV} {t t' : TypeId} {x y : Operand} {c1 c2 : List AV} {a b : α} [hx : Ev T x (.agg c1)] [hy : Ev T y (.agg c2)] [e1 : Enc c1 f a] [e2 : Enc c2 f b] [s : SEq P t f] :
    Wk (AOps B L P pol call fn nt R ((i, ⟨d, .binOp .eql t x y t', ty, pos, after, none⟩) :: rest) ds seen T Q) (AOps B L P pol call fn nt R rest ((i, d) :: ds) ((i, []) :: seen) (tput? nt T d (.bool (decide (a = b)))) Q) :=
  ⟨aval fun h => O_bin (by rw [hx.eq, e1.eq]) (by rw [hy.eq, e2.eq]) rfl (s.eql a b)⟩
instance wk_sneq {α : Type} [DecidableEq α] {f : α → List AV} {t t' : TypeId} {x y : Operand} {c1 c2 : List AV} {a b : α} [hx : Ev T x (.agg c1)] [hy : Ev T y (.agg c2)] [e1 : Enc c1 f a] [e2 : Enc c2 f b] [s : SEq P t f] :
    Wk (AOps B L P pol call fn nt R ((i, ⟨d, .binOp .neq t x y t', ty, pos, after, none⟩) :: rest) ds seen T Q) (AOps B L P pol call fn nt R rest ((i, d) :: ds) ((i, []) :: seen) (tput? nt T d (.bool (!decide (a = b)))) Q) :=
  ⟨aval fun h => O_bin (by rw [hx.eq, e1.eq]) (by rw [hy.eq, e2.eq]) rfl (s.neq a b)⟩
/-! fields -/
instance (priority := 900) {s t : TypeId} {x : Operand} {f off id ver o : Nat} [ht : TField P s f off t] [hx : Ev T x (.ptr id ver o)] : Wk (AOps B L P pol call fn nt R ((i, ⟨d, .fieldAddr s x f, ty, pos, after, none⟩) :: rest) ds seen T Q) (AOps B L P pol call fn nt R rest ((i, d) :: ds) ((i, []) :: seen) (tput? nt T d (.ptr id ver (o + off))) Q) := ⟨aval fun h => O_fieldAddr_ptr hx.eq⟩
instance {s t : TypeId} {x : Operand} {f off id ver : Nat} [ht : TField P s f off t] [hx : Ev T x (.ptr id ver 0)] : Wk (AOps B L P pol call fn nt R ((i, ⟨d, .fieldAddr s x f, ty, pos, after, none⟩) :: rest) ds seen T Q) (AOps B L P pol call fn nt R rest ((i, d) :: ds) ((i, []) :: seen) (tput? nt T d (.ptr id ver off)) Q) := ⟨aval fun h g => O_fieldAddr_ptr hx.eq (by rw [Nat.zero_add]; exact g)⟩
instance {s t : TypeId} {x : Operand} {f id ver o : Nat} [ht : TField P s f 0 t] [hx : Ev T x (.ptr id ver o)] : Wk (AOps B L P pol call fn nt R ((i, ⟨d, .fieldAddr s x f, ty, pos, after, none⟩) :: rest) ds seen T Q) (AOps B L P pol call fn nt R rest ((i, d) :: ds) ((i, []) :: seen) (tput? nt T d (.ptr id ver o)) Q) := ⟨aval fun h g => O_fieldAddr_ptr (off := 0) hx.eq g⟩
instance {s t : TypeId} {x : Operand} {f off : Nat} {cells r : List AV} [ht : TField P s f off t] [hx : Ev T x (.iptr cells)] [hd : Dr cells off r] : Wk (AOps B L P pol call fn nt R ((i, ⟨d, .fieldAddr s x f, ty, pos, after, none⟩) :: rest) ds seen T Q) (AOps B L P pol call fn nt R rest ((i, d) :: ds) ((i, []) :: seen) (tput? nt T d (.iptr r)) Q) :=
  ⟨aval fun h g => O_fieldAddr_iptr hx.eq (by simpa using hd.le) (by rw [hd.eq]; exact g)⟩
instance {s t : TypeId} {x : Operand} {f off : Nat} {cells r : List AV} {v : AV} [ht : TField P s f off t] [h1 : TOne P t] [hx : Ev T x (.agg cells)] [hd : Dr cells off (v :: r)] : Wk (AOps B L P pol call fn nt R ((i, ⟨d, .field s x f, ty, pos, after, none⟩) :: rest) ds seen T Q) (AOps B L P pol call fn nt R rest ((i, d) :: ds) ((i, []) :: seen) (tput? nt T d v) Q) :=
  ⟨aval fun h => O_field_one hx.eq (by simpa using hd.le) hd.eq⟩
instance {s t : TypeId} {x : Operand} {f off n : Nat} {cells r c' : List AV} [ht : TField P s f off t] [h1 : TAgg P t n] [hx : Ev T x (.agg cells)] [hd : Dr cells off r] [hk : Tk r n c'] : Wk (AOps B L P pol call fn nt R ((i, ⟨d, .field s x f, ty, pos, after, none⟩) :: rest) ds seen T Q) (AOps B L P pol call fn nt R rest ((i, d) :: ds) ((i, []) :: seen) (tput? nt T d (.agg c')) Q) :=
  ⟨aval fun h => O_field_agg hx.eq (by have := hd.le; have h2 := hk.le; rw [← hd.eq, List.length_drop] at h2; simp; omega) (by rw [hd.eq, hk.eq])⟩
instance {t : TypeId} {a : Operand} {r : List AV} {v : AV} [h1 : TOne P t] [ha : Ev T a (.iptr (v :: r))] : Wk (AOps B L P pol call fn nt R ((i, ⟨d, .load t a, ty, pos, after, none⟩) :: rest) ds seen T Q) (AOps B L P pol call fn nt R rest ((i, d) :: ds) ((i, []) :: seen) (tput? nt T d v) Q) := ⟨aval fun h => O_load_iptr ha.eq rfl⟩
end
/-! rows -/
instance wk_load_row {t : TypeId} {a : Operand} {id ver off esz : Nat} {row r : List AV} {fix : Bool} {v : AV} [h1 : TOne P t] [ha : Ev T a (.ptr id ver off)] [hr : HasRow L W id ver esz row fix] [hd : Dr row off (v :: r)] :
    Wk (AOps ⟨h0, X, W⟩ L P pol call fn nt R ((i, ⟨d, .load t a, ty, pos, after, none⟩) :: rest) ds seen T Q) (AOps ⟨h0, X, W⟩ L P pol call fn nt R rest ((i, d) :: ds) ((i, [(true, id)]) :: seen) (tput? nt T d v) Q) :=
  ⟨fun g h s e => O_load_row ha.eq (s.all _ hr.mem) hd.eq (g h s e.step)⟩
instance wk_load_agg {t : TypeId} {a : Operand} {id ver off esz n : Nat} {row r c' : List AV} {fix : Bool} [h1 : TAgg P t n] [ha : Ev T a (.ptr id ver off)] [hr : HasRow L W id ver esz row fix] [hd : Dr row off r] [hk : Tk r n c'] :
    Wk (AOps ⟨h0, X, W⟩ L P pol call fn nt R ((i, ⟨d, .load t a, ty, pos, after, none⟩) :: rest) ds seen T Q) (AOps ⟨h0, X, W⟩ L P pol call fn nt R rest ((i, d) :: ds) ((i, [(true, id)]) :: seen) (tput? nt T d (.agg c')) Q) :=
  ⟨fun g h s e => O_load_rowAgg ha.eq (s.all _ hr.mem) (by have := hd.le; have h2 := hk.le; rw [← hd.eq, List.length_drop] at h2; simp; omega) (by rw [hd.eq, hk.eq]) (g h s e.step)⟩
theorem row_new {id n : Nat} {cs : List AV} {h h1 : Hp} {B : Bs} (s : St B L h) (w : h.WF) (k : Keep h h1) (r : Row h1 id 0 n cs true) (l : h.next ≤ id) : St B (.row id 0 n cs true :: L) h1 := by
  have := s.new w k (N := [.row id 0 n cs true]) (fun c hc => by rcases List.mem_singleton.1 hc with rfl; exact r) (by simp [cids, Ck.row]) (by simp [cids, Ck.row]; exact l)
  exact this
instance wk_alloc {t : TypeId} {z : AV} {cs : List AV} {n : Nat} [hz : TZero P t z] [ha : Ac L W z cs] [hn : Len cs n] :
    Wk (AOps ⟨h0, X, W⟩ L P pol call fn nt R ((i, ⟨d, .alloc t, ty, pos, after, none⟩) :: rest) ds seen T Q) (∀ id, AOps ⟨h0, X, W⟩ (.row id 0 n cs true :: L) P pol call fn nt R rest ((i, d) :: ds) seen (tput? nt T d (.ptr id 0 0)) Q) :=
  ⟨fun g h s e => O_wf fun w => O_alloc fun h1 id k r l _ => g id h1 (by rw [(ha.ac h s.all).1, hn.eq] at r; exact row_new s w k r l) e.step⟩
instance wk_box {t : TypeId} {x : Operand} {v : AV} {cs : List AV} {n : Nat} [hx : Ev T x v] [ha : Ac L W v cs] [hn : Len cs n] :
    Wk (AOps ⟨h0, X, W⟩ L P pol call fn nt R ((i, ⟨d, .box t x, ty, pos, after, none⟩) :: rest) ds seen T Q) (∀ id, AOps ⟨h0, X, W⟩ (.row id 0 n cs true :: L) P pol call fn nt R rest ((i, d) :: ds) seen (tput? nt T d (.ptr id 0 0)) Q) :=
  ⟨fun g h s e => O_wf fun w => O_box hx.eq (ha.ac h s.all).2 fun h1 id k r l _ => g id h1 (by rw [(ha.ac h s.all).1, hn.eq] at r; exact row_new s w k r l) e.step⟩
instance wk_makeMap {t : TypeId} : Wk (AOps ⟨h0, X, W⟩ L P pol call fn nt R ((i, ⟨d, .makeMap t none, ty, pos, after, none⟩) :: rest) ds seen T Q) (∀ id, AOps ⟨h0, X, W⟩ (.map id [] :: L) P pol call fn nt R rest ((i, d) :: ds) seen (tput? nt T d (.mapv id)) Q) :=
  ⟨fun g h s e => O_wf fun w => O_makeMap fun h1 id k r l _ => g id h1 (by
    have := s.new w k (N := [.map id []]) (fun c hc => by rcases List.mem_singleton.1 hc with rfl; exact r) (by simp [cids, Ck.map]) (by simp [cids, Ck.map]; exact l)
    exact this) e.step⟩
/-- nothing is turned that was looked at and is not ordered -/
class Ok (R : Rg) (seen : Seen) (i : Nat) (C : outParam Prop) : Prop where ok : C → ∀ h h1, Undis R seen i h h1
instance {ms : List Nat} {dd : List (Option Tmp)} {seen : Seen} {i : Nat} : Ok ⟨false, ms, dd⟩ seen i True := ⟨fun _ _ _ => Undis.off rfl⟩
instance {ms : List Nat} {dd : List (Option Tmp)} {seen : Seen} {i : Nat} : Ok ⟨true, ms, dd⟩ seen i ((seen.all fun s => ahead ms s.1 i || s.2.isEmpty) = true) := ⟨fun e _ _ => Undis.ahead e⟩
theorem St.up {B : Bs} {L L' : List Ck} {c c' : Ck} {h h1 : Hp} (s : St B L h) (u : Up L c c' L') (w : h.WF) (k : KeepBut (· ∈ c.ids) h h1) (hp : c'.p h1) (hi : ∀ i ∈ c'.ids, i ∈ c.ids ∨ h.next ≤ i) (hn : c'.ids.Nodup) : St B L' h1 := by
  obtain ⟨Z, e1, e2⟩ := u.perm
  exact ((s.perm e1).put w k hp hi hn).perm e2
instance wk_store {t : TypeId} {a x : Operand} {id ver off esz n m : Nat} {row row' cs : List AV} {fix : Bool} {v : AV} {L' : List Ck} {C : Prop} [hs : TSz P t n] [ha : Ev T a (.ptr id ver off)] [hx : Ev T x v] [hr : HasRow L [] id ver esz row fix] [hc : Ac L W v cs] [hl : Len cs m] [hm : Same (Nat.beq m n) true] [ho : Ones L W cs] [sp : Spl row off cs row'] [u : Up L (.row id ver esz row fix) (.row id ver esz row' fix) L'] [ok : Ok R seen i C] :
    Wk (AOps ⟨h0, X, W⟩ L P pol call fn nt R ((i, ⟨d, .store t a x, ty, pos, after, none⟩) :: rest) ds seen T Q) (C ∧ AOps ⟨h0, X, W⟩ L' P pol call fn nt R rest ((i, d) :: ds) seen (tput? nt T d (.tuple [])) Q) :=
  ⟨fun g h s e => O_wf fun w => by
    have hac := (hc.ac h s.all).1
    have hmn : m = n := Nat.eq_of_beq_eq_true hm.eq
    have hle := sp.le
    rw [hl.eq] at hle
    refine O_store ha.eq hx.eq (s.all _ (by have := hr.mem; simp at this; exact List.mem_append.2 (.inl this))) ?_ fun h1 k r => ⟨ok.ok g.1 _ _, g.2 h1 ?_ e.step⟩
    · rw [hac, ho.ones h s.all, hl.eq, hmn]; rw [hmn] at hle; simp; exact hle
    · rw [hac, sp.eq] at r
      exact s.up u w (k.weaken (by rintro i rfl; simp [Ck.row])) r (fun i hi => .inl hi) (by simp [Ck.row])⟩

/-! slices -/
section
variable {α : Type} {f : α → List AV} {sz : Nat} {l m : List α}
instance wk_len {t e : TypeId} {x : Operand} {v : AV} [hu : TSl P t e] [hx : Ev T x v] [hr : HasRows L W v f sz l] :
    Wk (AOps ⟨h0, X, W⟩ L P pol call fn nt R ((i, ⟨d, .call ⟨.builtin .len, [x].toArray, [t].toArray⟩, ty, pos, after, none⟩) :: rest) ds seen T Q) (AOps ⟨h0, X, W⟩ L P pol call fn nt R rest ((i, d) :: ds) ((i, (vids v).map fun id => (false, id)) :: seen) (tput? nt T d (.int .i64 (l.length : Nat))) Q) :=
  ⟨fun g h s e => O_len_v hx.eq (hr.has h s.all) (g h s e.step)⟩
instance wk_len0 {t e : TypeId} {x : Operand} [hu : TSl P t e] [hx : Ev T x (.sl .nil 0 [])] :
    Wk (AOps ⟨h0, X, W⟩ L P pol call fn nt R ((i, ⟨d, .call ⟨.builtin .len, [x].toArray, [t].toArray⟩, ty, pos, after, none⟩) :: rest) ds seen T Q) (AOps ⟨h0, X, W⟩ L P pol call fn nt R rest ((i, d) :: ds) ((i, []) :: seen) (tput? nt T d (.int .i64 ((0 : Nat) : Int))) Q) :=
  ⟨fun g h s e => O_len_v hx.eq (SlV.nil (sz := 1)) (g h s e.step)⟩
instance wk_lenS {t : TypeId} {x : Operand} {l : List UInt8} [hu : TStr P t] [hx : Ev T x (.str l)] :
    Wk (AOps ⟨h0, X, W⟩ L P pol call fn nt R ((i, ⟨d, .call ⟨.builtin .len, [x].toArray, [t].toArray⟩, ty, pos, after, none⟩) :: rest) ds seen T Q) (AOps ⟨h0, X, W⟩ L P pol call fn nt R rest ((i, d) :: ds) ((i, []) :: seen) (tput? nt T d (.int .i64 (l.length : Nat))) Q) :=
  ⟨fun g h s e => O_len_str hx.eq (g h s e.step)⟩
end
end
end Go.Am
namespace Go.Am
open Go AM
set_option linter.unusedVariables false
set_option synthInstance.maxHeartbeats 200000

/-- what stands at a place of a list -/
class ElAt {α : Type} (l : List α) (j : Nat) (x : outParam α) : Prop where eq : l[j]? = some x
/-- the place of an element's part -/
def elA (v : AV) (j sz off : Nat) : AV := match v with
  | .own id ver o _ => .ptr id ver (o + j * sz + off)
  | .sl _ _ cells => .iptr (cells.drop (j * sz + off))
  | _ => .undef
/-- a slice that may grow, and be written -/
def Ck.arr {α : Type} (f : α → List AV) (sz : Nat) (v : AV) (l : List α) : Ck where
  ids := vids v
  p h := Rows f sz h v l ∧ growB v = true ∧ vids v ≠ []
  loc h h' k r := ⟨r.1.loc k, r.2⟩
  dom h r := r.1.ids.2
instance tkw_arr {α : Type} {f : α → List AV} {sz : Nat} {v : AV} {l : List α} {L : List Ck} : Tkw (.arr f sz v l :: L) (.rows f sz v l) L := tkw_imp rfl fun h r => ⟨r.1, r.2.1⟩
instance tkw_arr' {α : Type} {f : α → List AV} {sz : Nat} {v : AV} {l : List α} {L : List Ck} : Tkw (.arr f sz v l :: L) (.ro f sz v l) L := tkw_imp rfl fun h r => r.1
instance tkw_rows {α : Type} {f : α → List AV} {sz : Nat} {v : AV} {l : List α} {L : List Ck} : Tkw (.rows f sz v l :: L) (.ro f sz v l) L := tkw_imp rfl fun h r => r.1
instance hasrows_2 {L W : List Ck} {v : AV} {α : Type} {f : α → List AV} {sz : Nat} {l : List α} : HasRows (.arr f sz v l :: L) W v f sz l := ⟨fun h k => (k _ List.mem_cons_self).1⟩

section
variable {h : Hp} {v : AV} {α : Type} {f : α → List AV} {sz : Nat} {l : List α} {x : α} {j off : Nat}
theorem el_lt (hj : j < l.length) : j * sz + sz ≤ l.length * sz := by
  have := Nat.mul_le_mul_right sz (Nat.succ_le_of_lt hj)
  rwa [Nat.succ_mul] at this
theorem elA_at (hf : ∀ x, (f x).length = sz) (r : Rows f sz h v l) (hx : l[j]? = some x) (ho : off ≤ sz) : AtV h (elA v j sz off) ((f x).drop off) := by
  obtain ⟨hj, _⟩ := List.getElem?_eq_some_iff.1 hx
  have hl := el_lt (sz := sz) hj
  have hc := flat_get hf hx
  have hfl : flat f l = (flat f l).take (j * sz) ++ (f x ++ (flat f l).drop (j * sz + sz)) := by
    rw [← hc, ← List.drop_drop, List.take_append_drop, List.take_append_drop]
  have htl : ((flat f l).take (j * sz)).length = j * sz := by rw [List.length_take, flat_length hf]; omega
  have hd : (flat f l).drop (j * sz + off) = (f x).drop off ++ (flat f l).drop (j * sz + sz) := by
    rw [← List.drop_drop]
    conv => lhs; rw [hfl, List.drop_left' htl]
    rw [List.drop_append_of_le_length (by rw [hf]; exact ho)]
  have r : SlV h sz v l.length (flat f l) := r
  generalize hn : l.length = n at r
  generalize hcs : flat f l = cs at r
  cases r with
  | imm k n cells e =>
    subst hcs
    show AtV h (.iptr _) _
    rw [hd]; exact .imm _ _
  | own id ver o n row fix r0 e =>
    have e2 : row.drop (o + (j * sz + off)) = (f x).drop off ++ ((flat f l).drop (j * sz + sz) ++ (row.drop o).drop (n * sz)) := by
      rw [← List.append_assoc, ← hd, ← List.drop_drop, hcs]
      conv => lhs; rw [← List.take_append_drop (n * sz) (row.drop o)]
      rw [List.drop_append_of_le_length (by rw [List.length_take, List.length_drop]; subst hn; omega)]
    refine .ptr id ver (o + j * sz + off) sz row _ ((flat f l).drop (j * sz + sz) ++ (row.drop o).drop (n * sz)) fix r0 ?_
    rw [Nat.add_assoc]; exact e2
end

section
variable {h0 : Hp} {X : List Nat} {W L : List Ck} {P : Program} {pol : Pol} {call : Calling} {fn nt : Nat} {R : Rg} {rest : List (Nat × Oper)} {ds : List (Nat × Option Tmp)} {seen : Seen} {T : Temps} {Q : Temps → Hp → Prop} {i : Nat} {d : Option Tmp} {ty : TypeId} {pos : String} {after : Array Edge}
variable {α : Type} {f : α → List AV} {sz : Nat} {l m : List α}

theorem aops_index {t e : TypeId} {x y : Operand} {v : AV} {ik : IntKind} {z : Int} {j : Nat} [hu : TSl P t e] [hs : TSz P e sz] [hx : Ev T x v] [hr : HasRows L W v f sz l] [hf : FL f sz] [hy : Ev T y (.int ik z)] (hz0 : sz ≠ 0) (hz : z = j) (hj : j < l.length)
    (g : AOps ⟨h0, X, W⟩ L P pol call fn nt R rest ((i, d) :: ds) ((i, (vids v).map fun id => (false, id)) :: seen) (tput? nt T d (elA v j sz 0)) Q) : AOps ⟨h0, X, W⟩ L P pol call fn nt R ((i, ⟨d, .indexAddr t x y, ty, pos, after, none⟩) :: rest) ds seen T Q := fun h s e' => by
  subst hz
  have g := g h s e'.step
  have r : SlV h sz v l.length (flat f l) := hr.has h s.all
  have hl := el_lt (sz := sz) hj
  generalize hn : l.length = n at *
  generalize hcs : flat f l = cs at *
  have hxe := hx.eq
  have hye := hy.eq
  have hids : operIds (aeval T) ⟨d, .indexAddr t x y, ty, pos, after, none⟩ = (vids v).map fun id => (false, id) := by
    have h1 : operIds (aeval T) ⟨d, .indexAddr t x y, ty, pos, after, none⟩ = (avIds (aeval T x) ++ avIds (aeval T y)).map fun id => (false, id) := by simp [operIds, looksIn, Op.operands]
    rw [h1, hxe, hye, r.ids.1]; simp [avIds]
  cases r with
  | imm k n _ e =>
    refine O_val rfl rfl hids (v := .iptr (cs.drop (j * sz))) ?_ g
    simp only [aop, hxe, hye, aindexAddr, hu.un, hs.sz]
    have hz' : Nat.beq sz 0 = false := by cases sz with | zero => exact absurd rfl hz0 | succ n => rfl
    rw [pure_bind', within_nat hj, hz']
    simp [e, guard_true, pure_bind']
  | own id ver o n row fix r0 e => exact O_indexAddr_own hxe r0 hye hj e g
instance wk_index {t e : TypeId} {x y : Operand} {v : AV} {ik : IntKind} {z : Int} {j : Nat} [hu : TSl P t e] [hs : TSz P e sz] [hx : Ev T x v] [hr : HasRows L W v f sz l] [hf : FL f sz] [hy : Ev T y (.int ik z)] [hj : NatOf z j] [hz : Same (Nat.beq sz 0) false] :
    Wk (AOps ⟨h0, X, W⟩ L P pol call fn nt R ((i, ⟨d, .indexAddr t x y, ty, pos, after, none⟩) :: rest) ds seen T Q) (j < l.length ∧ AOps ⟨h0, X, W⟩ L P pol call fn nt R rest ((i, d) :: ds) ((i, (vids v).map fun id => (false, id)) :: seen) (tput? nt T d (elA v j sz 0)) Q) :=
  ⟨fun g => aops_index (hy := hy) (by rintro rfl; cases hz.eq) hj.eq g.1 g.2⟩
instance (priority := 500) wk_indexZ {t e : TypeId} {x y : Operand} {v : AV} {ik : IntKind} {z : Int} [hu : TSl P t e] [hs : TSz P e sz] [hx : Ev T x v] [hr : HasRows L W v f sz l] [hf : FL f sz] [hy : Ev T y (.int ik z)] [hz : Same (Nat.beq sz 0) false] :
    Wk (AOps ⟨h0, X, W⟩ L P pol call fn nt R ((i, ⟨d, .indexAddr t x y, ty, pos, after, none⟩) :: rest) ds seen T Q) (∃ j : Nat, z = j ∧ j < l.length ∧ AOps ⟨h0, X, W⟩ L P pol call fn nt R rest ((i, d) :: ds) ((i, (vids v).map fun id => (false, id)) :: seen) (tput? nt T d (elA v j sz 0)) Q) :=
  ⟨fun ⟨j, g⟩ => aops_index (hy := hy) (by rintro rfl; cases hz.eq) g.1 g.2.1 g.2.2⟩
instance wk_elField {s t : TypeId} {a : Operand} {v : AV} {j off off' fi : Nat} {x : α} {r : List AV} [ht : TField P s fi off' t] [ha : Ev T a (elA v j sz off)] [hr : HasRows L W v f sz l] [hf : FL f sz] [hx : ElAt l j x] [hd : Dr (f x) (off + off') r] :
    Wk (AOps ⟨h0, X, W⟩ L P pol call fn nt R ((i, ⟨d, .fieldAddr s a fi, ty, pos, after, none⟩) :: rest) ds seen T Q) (AOps ⟨h0, X, W⟩ L P pol call fn nt R rest ((i, d) :: ds) ((i, []) :: seen) (tput? nt T d (elA v j sz (off + off'))) Q) :=
  ⟨fun g h s e => by
    have g := g h s e.step
    have r : SlV h sz v l.length (flat f l) := hr.has h s.all
    have hle := hd.le
    rw [hf.len] at hle
    have hae := ha.eq
    have hj : j < l.length := (List.getElem?_eq_some_iff.1 hx.eq).1
    have hl := el_lt (sz := sz) hj
    have hlen := flat_length hf.len l
    generalize hn : l.length = n at *
    generalize hcs : flat f l = cs at *
    cases r with
    | imm k n _ e =>
      refine O_fieldAddr_iptr hae (by simp; omega) ?_
      rw [List.drop_drop]
      have : elA (.sl k n cs) j sz (off + off') = .iptr (cs.drop (j * sz + off + off')) := by show AV.iptr _ = _; rw [Nat.add_assoc]
      rw [← this]; exact g
    | own id ver o n row fix r0 e =>
      refine O_fieldAddr_ptr hae ?_
      have : elA (.own id ver o n) j sz (off + off') = .ptr id ver (o + j * sz + off + off') := by show AV.ptr _ _ _ = _; rw [Nat.add_assoc (o + j * sz)]
      rw [← this]; exact g⟩
instance wk_elLoad {t : TypeId} {a : Operand} {v u : AV} {j off : Nat} {x : α} {r : List AV} [h1 : TOne P t] [ha : Ev T a (elA v j sz off)] [hr : HasRows L W v f sz l] [hf : FL f sz] [hx : ElAt l j x] [hd : Dr (f x) off (u :: r)] :
    Wk (AOps ⟨h0, X, W⟩ L P pol call fn nt R ((i, ⟨d, .load t a, ty, pos, after, none⟩) :: rest) ds seen T Q) (AOps ⟨h0, X, W⟩ L P pol call fn nt R rest ((i, d) :: ds) ((i, (avIds (elA v j sz off)).map fun id => (true, id)) :: seen) (tput? nt T d u) Q) :=
  ⟨fun g h s e => O_load_one ha.eq (by have := elA_at hf.len (hr.has h s.all) hx.eq (by have := hd.le; rw [hf.len] at this; exact this); rw [hd.eq] at this; exact this) (g h s e.step)⟩
instance wk_elLoadAgg {t : TypeId} {a : Operand} {v : AV} {j off n : Nat} {x : α} {r c' : List AV} [h1 : TAgg P t n] [ha : Ev T a (elA v j sz off)] [hr : HasRows L W v f sz l] [hf : FL f sz] [hx : ElAt l j x] [hd : Dr (f x) off r] [hk : Tk r n c'] :
    Wk (AOps ⟨h0, X, W⟩ L P pol call fn nt R ((i, ⟨d, .load t a, ty, pos, after, none⟩) :: rest) ds seen T Q) (AOps ⟨h0, X, W⟩ L P pol call fn nt R rest ((i, d) :: ds) ((i, (avIds (elA v j sz off)).map fun id => (true, id)) :: seen) (tput? nt T d (.agg c')) Q) :=
  ⟨fun g h s e => O_load_agg ha.eq (by
    have := elA_at hf.len (hr.has h s.all) hx.eq (by have := hd.le; rw [hf.len] at this; exact this)
    rw [hd.eq, ← List.take_append_drop n r, hk.eq] at this; exact this.take) (by have := hk.le; rw [← hk.eq, List.length_take, Nat.min_eq_left this]; simp) (g h s e.step)⟩

/-! append -/
theorem aops_append {args : List Operand} {t u e e' : TypeId} {bytes : Nat} {z s x : AV} {Cd : Prop} [ht : TSl P t e] [hu : TSl P u e'] [hs : TSz P e sz] [hb' : TBytes P e bytes] [hz' : TZero P e z]
    (ha : Evs T args [s, x]) [hx : HasRows L W x f sz m] [h1 : FOne f] [hf : FL f sz] [ok : Ok R seen i Cd]
    (hz : (!(Nat.beq sz 0) && !(Nat.beq bytes 0) && Nat.beq (acells z).length sz) = true) (hb : (l.length + m.length) * bytes ≤ 140737488355328) (hc : Cd)
    (K : AV → List Ck) (hK : ∀ h, St ⟨h0, X, W⟩ L h → Rows f sz h s l ∧ growB s = true ∧ ∀ v h1, h.WF → KeepBut (· ∈ vids s) h h1 → Rows f sz h1 v (l ++ m) → growB v = true → (∀ k ∈ vids v, k ∈ vids s ∨ h.next ≤ k) → (m ≠ [] → vids v ≠ []) → St ⟨h0, X, W⟩ (K v) h1)
    (g : ∀ v, AOps ⟨h0, X, W⟩ (K v) P pol call fn nt R rest ((i, d) :: ds) seen (tput? nt T d v) Q) :
    AOps ⟨h0, X, W⟩ L P pol call fn nt R ((i, ⟨d, .call ⟨.builtin .append, args.toArray, [t, u].toArray⟩, ty, pos, after, none⟩) :: rest) ds seen T Q := fun h s e => O_wf fun w => by
  obtain ⟨r1, r2, r3⟩ := hK h s
  refine O_append ha.eq r1 r2 (hx.has h s.all) (flat_ones m) hz hb fun v h1 k sl gb hv hne => ⟨ok.ok hc _ _, g v h1 ?_ e.step⟩
  refine r3 v h1 w k ?_ gb (fun k hk => (hv k hk).imp id fun q => q.1) (fun c => hne (by cases m <;> simp_all))
  show SlV h1 sz v (l ++ m).length _
  rw [List.length_append, flat_append]; exact sl
theorem vids_nodup (v : AV) : (vids v).Nodup := by cases v <;> simp [vids]
/-- a chunk that may grow -/
class Gr (L : List Ck) (v : AV) {α : outParam Type} (f : outParam (α → List AV)) (sz : outParam Nat) (l : outParam (List α)) (c : outParam Ck) : Prop where
  mem : c ∈ L
  ids : c.ids = vids v
  p : ∀ h, c.p h → Rows f sz h v l ∧ growB v = true
instance (priority := 900) gr_s {c c' : Ck} {v : AV} [a : Gr L v f sz l c] : Gr (c' :: L) v f sz l c := ⟨List.mem_cons_of_mem _ a.mem, a.ids, a.p⟩
instance gr_0 {v : AV} : Gr (.rows f sz v l :: L) v f sz l (.rows f sz v l) := ⟨List.mem_cons_self, rfl, fun h r => r⟩
instance gr_1 {v : AV} : Gr (.arr f sz v l :: L) v f sz l (.arr f sz v l) := ⟨List.mem_cons_self, rfl, fun h r => ⟨r.1, r.2.1⟩⟩
class UpF (L : List Ck) (c : Ck) (k : AV → Ck) (K : outParam (AV → List Ck)) : Prop where up : ∀ v, Up L c (k v) (K v)
instance (priority := 900) upf_s {c d : Ck} {k : AV → Ck} {K : AV → List Ck} [a : UpF L c k K] : UpF (d :: L) c k (fun v => d :: K v) := ⟨fun v => @up_s _ _ _ _ _ (a.up v)⟩
instance upf_0 {c : Ck} {k : AV → Ck} : UpF (c :: L) c k (fun v => k v :: L) := ⟨fun v => up_0⟩
theorem app_own {s v : AV} {c : Ck} {h h1 : Hp} {B : Bs} {k : AV → Ck} {K : AV → List Ck} (gr : Gr L s f sz l c) (up : UpF L c k K) (st : St B L h) (w : h.WF) (kb : KeepBut (· ∈ vids s) h h1) (hp : (k v).p h1) (hi : (k v).ids = vids v) (hv : ∀ k ∈ vids v, k ∈ vids s ∨ h.next ≤ k) : St B (K v) h1 :=
  st.up (up.up v) w (kb.weaken fun i hi => by rw [gr.ids]; exact hi) hp (fun i q => by rw [gr.ids]; exact hv i (hi ▸ q)) (by rw [hi]; exact vids_nodup v)
instance wk_append1 {x0 : α} {args : List Operand} {t u e e' : TypeId} {bytes : Nat} {z s x : AV} {c : Ck} {K : AV → List Ck} {Cd : Prop} [ht : TSl P t e] [hu : TSl P u e'] [hs : TSz P e sz] [hb' : TBytes P e bytes] [hz' : TZero P e z]
    [ha : Evs T args [s, x]] [gr : Gr L s f sz l c] [hx : HasRows L W x f sz [x0]] [h1 : FOne f] [hf : FL f sz] [ok : Ok R seen i Cd] [up : UpF L c (fun v => .arr f sz v (l ++ [x0])) K] :
    Wk (AOps ⟨h0, X, W⟩ L P pol call fn nt R ((i, ⟨d, .call ⟨.builtin .append, args.toArray, [t, u].toArray⟩, ty, pos, after, none⟩) :: rest) ds seen T Q)
      ((!(Nat.beq sz 0) && !(Nat.beq bytes 0) && Nat.beq (acells z).length sz) = true ∧ Cd ∧ (l.length + 1) * bytes ≤ 140737488355328 ∧ ∀ v, AOps ⟨h0, X, W⟩ (K v) P pol call fn nt R rest ((i, d) :: ds) seen (tput? nt T d v) Q) :=
  ⟨fun g => aops_append ha g.1 g.2.2.1 g.2.1 K (fun h st => ⟨(gr.p h (st.all c (List.mem_append.2 (.inl gr.mem)))).1, (gr.p h (st.all c (List.mem_append.2 (.inl gr.mem)))).2, fun v h1 w kb r gb hv hne => app_own gr up st w kb ⟨r, gb, hne (by simp)⟩ rfl hv⟩) g.2.2.2⟩
instance (priority := 900) wk_append {args : List Operand} {t u e e' : TypeId} {bytes : Nat} {z s x : AV} {c : Ck} {K : AV → List Ck} {Cd : Prop} [ht : TSl P t e] [hu : TSl P u e'] [hs : TSz P e sz] [hb' : TBytes P e bytes] [hz' : TZero P e z]
    [ha : Evs T args [s, x]] [gr : Gr L s f sz l c] [hx : HasRows L W x f sz m] [h1 : FOne f] [hf : FL f sz] [ok : Ok R seen i Cd] [up : UpF L c (fun v => .rows f sz v (l ++ m)) K] :
    Wk (AOps ⟨h0, X, W⟩ L P pol call fn nt R ((i, ⟨d, .call ⟨.builtin .append, args.toArray, [t, u].toArray⟩, ty, pos, after, none⟩) :: rest) ds seen T Q)
      ((!(Nat.beq sz 0) && !(Nat.beq bytes 0) && Nat.beq (acells z).length sz) = true ∧ Cd ∧ (l.length + m.length) * bytes ≤ 140737488355328 ∧ ∀ v, AOps ⟨h0, X, W⟩ (K v) P pol call fn nt R rest ((i, d) :: ds) seen (tput? nt T d v) Q) :=
  ⟨fun g => aops_append ha g.1 g.2.2.1 g.2.1 K (fun h st => ⟨(gr.p h (st.all c (List.mem_append.2 (.inl gr.mem)))).1, (gr.p h (st.all c (List.mem_append.2 (.inl gr.mem)))).2, fun v h1 w kb r gb hv hne => app_own gr up st w kb ⟨r, gb⟩ rfl hv⟩) g.2.2.2⟩
/-- nothing, that may grow -/
class Nil0 (v : AV) : Prop where eq : v = .sl .nil 0 [] ∨ v = .sl .full 0 [] ∨ v = .sl .tight 0 []
instance : Nil0 (.sl .nil 0 []) := ⟨.inl rfl⟩
instance : Nil0 (.sl .full 0 []) := ⟨.inr (.inl rfl)⟩
instance : Nil0 (.sl .tight 0 []) := ⟨.inr (.inr rfl)⟩
theorem app_new {s v : AV} [n0 : Nil0 s] {c : Ck} {h h1 : Hp} {B : Bs} (st : St B L h) (w : h.WF) (kb : KeepBut (· ∈ vids s) h h1) (hp : c.p h1) (hi : c.ids = vids v) (hv : ∀ k ∈ vids v, k ∈ vids s ∨ h.next ≤ k) : St B (c :: L) h1 := by
  have hs : vids s = [] := by rcases n0.eq with rfl | rfl | rfl <;> rfl
  rw [hs] at kb hv
  have := st.new w (kb.none fun i q => by cases q) (N := [c]) (fun d hd => by rcases List.mem_singleton.1 hd with rfl; exact hp) (by simp [cids, hi, vids_nodup]) (fun i q => by simp [cids, hi] at q; exact (hv i q).resolve_left (fun c => by cases c))
  exact this
theorem Nil0.rows {s : AV} [n0 : Nil0 s] {h : Hp} : Rows f sz h s [] ∧ growB s = true := by
  rcases n0.eq with rfl | rfl | rfl <;> exact ⟨.imm _ 0 [] (by simp), rfl⟩
instance wk_appnil1 {x0 : α} {args : List Operand} {t u e e' : TypeId} {bytes : Nat} {z s x : AV} {Cd : Prop} [ht : TSl P t e] [hu : TSl P u e'] [hs : TSz P e sz] [hb' : TBytes P e bytes] [hz' : TZero P e z]
    [ha : Evs T args [s, x]] [n0 : Nil0 s] [hx : HasRows L W x f sz [x0]] [h1 : FOne f] [hf : FL f sz] [ok : Ok R seen i Cd] :
    Wk (AOps ⟨h0, X, W⟩ L P pol call fn nt R ((i, ⟨d, .call ⟨.builtin .append, args.toArray, [t, u].toArray⟩, ty, pos, after, none⟩) :: rest) ds seen T Q)
      ((!(Nat.beq sz 0) && !(Nat.beq bytes 0) && Nat.beq (acells z).length sz) = true ∧ Cd ∧ 1 * bytes ≤ 140737488355328 ∧ ∀ v, AOps ⟨h0, X, W⟩ (.arr f sz v [x0] :: L) P pol call fn nt R rest ((i, d) :: ds) seen (tput? nt T d v) Q) :=
  ⟨fun g => aops_append ha g.1 (l := []) (by simpa using g.2.2.1) g.2.1 (fun v => .arr f sz v [x0] :: L) (fun h st => ⟨n0.rows.1, n0.rows (f := f) (sz := sz) (h := h).2, fun v h1 w kb r gb hv hne => app_new st w kb ⟨r, gb, hne (by simp)⟩ rfl hv⟩) g.2.2.2⟩
instance (priority := 900) wk_appnil {args : List Operand} {t u e e' : TypeId} {bytes : Nat} {z s x : AV} {Cd : Prop} [ht : TSl P t e] [hu : TSl P u e'] [hs : TSz P e sz] [hb' : TBytes P e bytes] [hz' : TZero P e z]
    [ha : Evs T args [s, x]] [n0 : Nil0 s] [hx : HasRows L W x f sz m] [h1 : FOne f] [hf : FL f sz] [ok : Ok R seen i Cd] :
    Wk (AOps ⟨h0, X, W⟩ L P pol call fn nt R ((i, ⟨d, .call ⟨.builtin .append, args.toArray, [t, u].toArray⟩, ty, pos, after, none⟩) :: rest) ds seen T Q)
      ((!(Nat.beq sz 0) && !(Nat.beq bytes 0) && Nat.beq (acells z).length sz) = true ∧ Cd ∧ m.length * bytes ≤ 140737488355328 ∧ ∀ v, AOps ⟨h0, X, W⟩ (.rows f sz v m :: L) P pol call fn nt R rest ((i, d) :: ds) seen (tput? nt T d v) Q) :=
  ⟨fun g => aops_append ha g.1 (l := []) (by simpa using g.2.2.1) g.2.1 (fun v => .rows f sz v m :: L) (fun h st => ⟨n0.rows.1, n0.rows (f := f) (sz := sz) (h := h).2, fun v h1 w kb r gb hv hne => app_new st w kb ⟨r, gb⟩ rfl hv⟩) g.2.2.2⟩
/-! calls -/
theorem A_call0 {fo : Operand} {args : List Operand} {ats : Array TypeId} {F : AV} {al : List AV} {Post : AV → List Ck → Prop} [hf : Ev T fo F] [hl : Evs T args al] (sp : Cal [] (L ++ W) (call F al) Post)
    (g : ∀ v N, Post v N → AOps ⟨h0, X, W⟩ (N ++ L) P pol call fn nt R rest ((i, d) :: ds) seen (tput? nt T d v) Q) : AOps ⟨h0, X, W⟩ L P pol call fn nt R ((i, ⟨d, .call ⟨.value fo, args.toArray, ats⟩, ty, pos, after, none⟩) :: rest) ds seen T Q := fun h s e => O_wf fun w =>
  O_call hf.eq hl.eq ((sp h (s.into (C := []) w)).mono fun v h1 ⟨N, p, t⟩ => ⟨Keep.undis ⟨fun id o e => t.keep.same id o (fun q => by cases q) e, t.keep.next⟩, g v N p h1 (s.out (C := []) t) e.step⟩)
/-- what is handed on lies behind -/
theorem A_callT {fo : Operand} {args : List Operand} {ats : Array TypeId} {F : AV} {al : List AV} {C Rs : List Ck} {Post : AV → List Ck → Prop} {Cd : Prop} [hf : Ev T fo F] [hl : Evs T args al] [tk : Taks L C Rs] [ok : Ok R seen i Cd] (hc : Cd) (sp : Cal C (Rs ++ W) (call F al) Post)
    (g : ∀ v N, Post v N → AOps ⟨h0, X, W⟩ (Rs ++ N) P pol call fn nt R rest ((i, d) :: ds) seen (tput? nt T d v) Q) : AOps ⟨h0, X, W⟩ L P pol call fn nt R ((i, ⟨d, .call ⟨.value fo, args.toArray, ats⟩, ty, pos, after, none⟩) :: rest) ds seen T Q := fun h s e => O_wf fun w =>
  O_call hf.eq hl.eq ((sp h ((s.perm tk.perm).into w)).mono fun v h1 ⟨N, p, t⟩ => ⟨ok.ok hc _ _, g v N p h1 (((s.perm tk.perm).out t).perm List.perm_append_comm) e.step⟩)
theorem A_call {fo : Operand} {args : List Operand} {ats : Array TypeId} {F : AV} {al : List AV} {C Rs : List Ck} {Post : AV → List Ck → Prop} {Cd : Prop} [hf : Ev T fo F] [hl : Evs T args al] [tk : Taks L C Rs] [ok : Ok R seen i Cd] (hc : Cd) (sp : Cal C (Rs ++ W) (call F al) Post)
    (g : ∀ v N, Post v N → AOps ⟨h0, X, W⟩ (N ++ Rs) P pol call fn nt R rest ((i, d) :: ds) seen (tput? nt T d v) Q) : AOps ⟨h0, X, W⟩ L P pol call fn nt R ((i, ⟨d, .call ⟨.value fo, args.toArray, ats⟩, ty, pos, after, none⟩) :: rest) ds seen T Q := fun h s e => O_wf fun w =>
  O_call hf.eq hl.eq ((sp h ((s.perm tk.perm).into w)).mono fun v h1 ⟨N, p, t⟩ => ⟨ok.ok hc _ _, g v N p h1 ((s.perm tk.perm).out t) e.step⟩)
end
end Go.Am
namespace Go.Am
open Go AM
set_option linter.unusedVariables false
set_option synthInstance.maxHeartbeats 200000

instance (priority := 800) hasrow_f {R W : List Ck} {id ver esz : Nat} {cells : List AV} {fix : Bool} [a : HasRow [] W id ver esz cells fix] : HasRow [] (R ++ W) id ver esz cells fix := ⟨by have := a.mem; simp at this ⊢; exact .inr this⟩
instance (priority := 900) hasmap_w {c : Ck} {W : List Ck} {id : Nat} {es : List (AV × AV)} [a : HasMap (c :: W) [] id es] : HasMap [] (c :: W) id es := ⟨by have := a.mem; simpa using this⟩
instance (priority := 800) hasmap_f {R W : List Ck} {id : Nat} {es : List (AV × AV)} [a : HasMap [] W id es] : HasMap [] (R ++ W) id es := ⟨by have := a.mem; simp at this ⊢; exact .inr this⟩

instance (priority := 50) hasrow_any {L W : List Ck} {id ver esz : Nat} {cells : List AV} {fix : Bool} [a : HasRow [] W id ver esz cells fix] : HasRow L W id ver esz cells fix := ⟨by have := a.mem; simp at this ⊢; exact .inr this⟩
instance (priority := 50) hasmap_any {L W : List Ck} {id : Nat} {es : List (AV × AV)} [a : HasMap [] W id es] : HasMap L W id es := ⟨by have := a.mem; simp at this ⊢; exact .inr this⟩
instance (priority := 50) hasrows_any {L W : List Ck} {v : AV} {α : Type} {f : α → List AV} {sz : Nat} {l : List α} [a : HasRows [] W v f sz l] : HasRows L W v f sz l := ⟨fun h k => a.has h fun d hd => k d (by simp at hd ⊢; exact .inr hd)⟩
instance (priority := 40) hasrow_l {L W : List Ck} {id ver esz : Nat} {cells : List AV} {fix : Bool} [a : HasRow [] L id ver esz cells fix] : HasRow L W id ver esz cells fix := ⟨by have := a.mem; simp at this ⊢; exact .inl this⟩
instance (priority := 40) hasmap_l {L W : List Ck} {id : Nat} {es : List (AV × AV)} [a : HasMap [] L id es] : HasMap L W id es := ⟨by have := a.mem; simp at this ⊢; exact .inl this⟩
instance (priority := 40) hasrows_l {L W : List Ck} {v : AV} {α : Type} {f : α → List AV} {sz : Nat} {l : List α} [a : HasRows [] L v f sz l] : HasRows L W v f sz l := ⟨fun h k => a.has h fun d hd => k d (by simp at hd ⊢; exact .inl hd)⟩
/-- one chunk is turned, its objects stay -/
theorem St.put' {B : Bs} {L : List Ck} {h h1 : Hp} {c c' : Ck} (s : St B (c :: L) h) (k : KeepBut (· ∈ c.ids) h h1) (hp : c'.p h1) (hi : c'.ids = c.ids) : St B (c' :: L) h1 where
  wf := s.wf
  keep := ⟨fun id o hx e => k.same id o (fun q => by
      rcases s.own id (by rw [cids_cons]; exact List.mem_append.2 (.inl q)) with u | u
      · exact hx u
      · have := s.wf id o e; omega) (s.keep.same id o hx e), Nat.le_trans s.keep.next k.next⟩
  all := fun d hd => by
    rcases List.mem_cons.1 hd with rfl | q
    · exact hp
    · refine d.loc h h1 (fun i hi' o e => k.same i o (fun u => ?_) e) (s.all d (List.mem_cons_of_mem _ q))
      have := s.nd
      rw [List.cons_append, cids_cons] at this
      exact (List.nodup_append.1 this).2.2 i u i (mem_cids q hi') rfl
  nd := by have := s.nd; rw [List.cons_append, cids_cons] at this ⊢; rw [hi]; exact this
  own := fun i q => by rw [cids_cons, hi, ← cids_cons] at q; exact s.own i q
theorem St.up' {B : Bs} {L L' : List Ck} {c c' : Ck} {h h1 : Hp} (s : St B L h) (u : Up L c c' L') (k : KeepBut (· ∈ c.ids) h h1) (hp : c'.p h1) (hi : c'.ids = c.ids) : St B L' h1 := by
  obtain ⟨Z, e1, e2⟩ := u.perm
  exact ((s.perm e1).put' k hp hi).perm e2
theorem Up.mem {L L' : List Ck} {c c' : Ck} (u : Up L c c' L') : c ∈ L := by
  obtain ⟨Z, e1, _⟩ := u.perm
  exact e1.mem_iff.2 List.mem_cons_self

/-- the record of a range over a function -/
def LoopAt (h : Hp) (id : Nat) (fn nt : Nat) (T : Temps) (ps : List Tmp) (a b : Code) (st : LoopState) (p : Option Code) : Prop := ∃ ver stamp ty, h.get id = some ⟨ver, stamp, .loop fn nt T ps a b st p, ty⟩
def Ck.loop (id : Nat) (fn nt : Nat) (T : Temps) (ps : List Tmp) (a b : Code) (st : LoopState) (p : Option Code) : Ck where
  ids := [id]
  p h := LoopAt h id fn nt T ps a b st p
  loc h h' k r := by obtain ⟨v, st, ty, e⟩ := r; exact ⟨v, st, ty, k id (by simp) _ e⟩
  dom h r i hi := by simp at hi; subst hi; obtain ⟨v, st, ty, e⟩ := r; rw [e]; rfl
section
variable {h h1 : Hp} {id fn nt : Nat} {T : Temps} {ps : List Tmp} {a b : Code} {st : LoopState} {p : Option Code}
theorem LoopAt.run (l : LoopAt h id fn nt T ps a b st p) : (loopOf id).run h = some ((fn, nt, T, ps, a, b, st, p), h) := by
  obtain ⟨v, s, ty, e⟩ := l
  simp only [loopOf, run_bind, AM.hget, e]
  rfl
end
/-- what is owed behind the body of a round, behind its first half -/
def KRound (l fn nt : Nat) (T : Temps) (ps : List Tmp) (a b : Code) (Q : AV → Hp → Prop) : Exit × Temps → Hp → Prop := fun y h3 => ∃ st' p' st p, roundEnd y.1 = some (st', p') ∧ LoopAt h3 l fn nt T ps a b st p ∧ ∀ h4, KeepBut (· = l) h3 h4 → LoopAt h4 l fn nt T ps a b st' p' → Q (.bool p'.isNone) h4
def KAssign (P : Program) (pol : Pol) (call : Calling) (n l fn nt : Nat) (T : Temps) (ps : List Tmp) (a b : Code) (Q : AV → Hp → Prop) : Exit × Temps → Hp → Prop := fun x h1 => x.1 = .normal ∧ LoopAt h1 l fn nt T ps a b .ready none ∧
  ∀ h2, KeepBut (· = l) h1 h2 → LoopAt h2 l fn nt T ps a b .busy none → Runs (acode P pol call fn nt n b x.2) h2 (KRound l fn nt T ps a b Q)
theorem R_yield {P : Program} {pol : Pol} {sums : Sums} {h : Hp} {l n fn nt : Nat} {T0 : Temps} {ps : List Tmp} {a b : Code} {args : List AV} {Q : AV → Hp → Prop} (hl : LoopAt h l fn nt T0 ps a b .ready none) (hlen : ps.length = args.length)
    (r : Runs (acode P pol (acall P pol sums n) fn nt n a (aparams nt ps args T0)) h (KAssign P pol (acall P pol sums n) n l fn nt T0 ps a b Q)) :
    Runs (acall P pol sums (n + 1) (.func (.yield l) [] []) args) h Q := by
  simp only [acall, List.nil_append]
  unfold around
  refine Runs.bind (Runs.of hl.run ?_)
  dsimp only
  refine Runs.bind (Runs.guard (by simpa using hlen) (Runs.bind (r.mono ?_)))
  rintro ⟨e, T1⟩ h1 ⟨rfl, hl1, k⟩
  dsimp only
  refine Runs.bind (Runs.of hl1.run ?_)
  dsimp only
  obtain ⟨v, s, ty1, e1⟩ := hl1
  refine Runs.bind (Runs.hget e1 (Runs.bind (Runs.guard rfl (Runs.bind (Runs.hput e1 (Nat.le_refl _) ?_)))))
  refine Runs.bind ((k _ (KeepBut.put _) ⟨_, _, _, get_set_eq _ _ _ _⟩).mono ?_)
  rintro ⟨e2, T2⟩ h3 ⟨st', p', st, p, hr, hl3, q⟩
  dsimp only at hr ⊢
  refine Runs.bind (Runs.of hl3.run ?_)
  dsimp only
  obtain ⟨v3, s3, ty3, e3⟩ := hl3
  refine Runs.bind (Runs.hget e3 (Runs.bind (Runs.ofOption hr ?_)))
  dsimp only
  exact Runs.bind (Runs.hput e3 (Nat.le_refl _) (Runs.pure (q _ (KeepBut.put _) ⟨_, _, _, get_set_eq _ _ _ _⟩)))

section
variable {B : Bs} {L L' : List Ck} {P : Program} {pol : Pol} {call : Calling} {fn nt fuel : Nat} {T T1 : Temps} {Q : Exit × Temps → Hp → Prop} {V : AV → Hp → Prop} {a b : Code} {l n : Nat} {ps : List Tmp}
instance wk_assign [u : Up L (.loop l fn nt T ps a b .ready none) (.loop l fn nt T ps a b .busy none) L'] : Wk (AK B L (KAssign P pol call n l fn nt T ps a b V) (.normal, T1)) (ACo B L' P pol call fn nt n b T1 (KRound l fn nt T ps a b V)) :=
  ⟨fun g h s => ⟨rfl, s.all _ (List.mem_append.2 (.inl u.mem)), fun h2 k lp => g h2 (s.up' u (k.weaken (by rintro i rfl; simp [Ck.loop])) lp rfl)⟩⟩
theorem round_end {st' : LoopState} {p' : Option Code} {e : Exit} [u : Up L (.loop l fn nt T ps a b .busy none) (.loop l fn nt T ps a b st' p') L'] (hr : roundEnd e = some (st', p')) (g : Fin B L' (.bool p'.isNone) V) : AK B L (KRound l fn nt T ps a b V) (e, T1) :=
  fun h s => ⟨st', p', .busy, none, hr, s.all _ (List.mem_append.2 (.inl u.mem)), fun h4 k lp => g h4 (s.up' u (k.weaken (by rintro i rfl; simp [Ck.loop])) lp rfl)⟩
instance wk_rend [u : Up L (.loop l fn nt T ps a b .busy none) (.loop l fn nt T ps a b .ready none) L'] : Wk (AK B L (KRound l fn nt T ps a b V) (.normal, T1)) (Fin B L' (.bool true) V) := ⟨round_end (st' := .ready) (p' := none) rfl⟩
instance wk_rret [u : Up L (.loop l fn nt T ps a b .busy none) (.loop l fn nt T ps a b .done (some .ret)) L'] : Wk (AK B L (KRound l fn nt T ps a b V) (.ret, T1)) (Fin B L' (.bool false) V) := ⟨round_end (st' := .done) (p' := some .ret) rfl⟩
instance wk_rexit {id : Nat} [u : Up L (.loop l fn nt T ps a b .busy none) (.loop l fn nt T ps a b .done (some (.exit id))) L'] : Wk (AK B L (KRound l fn nt T ps a b V) (.exit id, T1)) (Fin B L' (.bool false) V) := ⟨round_end (st' := .done) (p' := some (.exit id)) rfl⟩
theorem Cal_yield {sums : Sums} {C W : List Ck} {args : List AV} {Post : AV → List Ck → Prop} {n : Nat} (hn : 0 < n) (hlen : ps.length = args.length)
    (r : ∀ m h0, n = m + 1 → ACo ⟨h0, cids (.loop l fn nt T ps a b .ready none :: C), W⟩ (.loop l fn nt T ps a b .ready none :: C) P pol (acall P pol sums m) fn nt m a (aparams nt ps args T) (KAssign P pol (acall P pol sums m) m l fn nt T ps a b (QF ⟨h0, cids (.loop l fn nt T ps a b .ready none :: C), W⟩ Post))) :
    Cal (.loop l fn nt T ps a b .ready none :: C) W (acall P pol sums n (.func (.yield l) [] []) args) Post := fun h s => by
  obtain ⟨m, rfl⟩ : ∃ m, n = m + 1 := ⟨n - 1, by omega⟩
  exact R_yield (s.all _ List.mem_cons_self) hlen (r m h rfl h s)
class APar (nt : Nat) (ps : List Tmp) (vs : List AV) (T : Temps) (T' : outParam Temps) : Prop where eq : aparams nt ps vs T = T'
instance {nt : Nat} {vs : List AV} {T : Temps} : APar nt [] vs T T := ⟨by cases vs <;> rfl⟩
instance {nt t : Nat} {ts : List Tmp} {v : AV} {vs : List AV} {T T' : Temps} [a : APar nt ts vs (tput? nt T (some t) v) T'] : APar nt (t :: ts) (v :: vs) T T' := ⟨a.eq⟩
instance (priority := 3000) wk_apar {vs : List AV} {T' : Temps} {c : Code} [e : APar nt ps vs T T'] : Wk (ACo B L P pol call fn nt fuel c (aparams nt ps vs T) Q) (ACo B L P pol call fn nt fuel c T' Q) := ⟨fun g => by rw [e.eq]; exact g⟩
end
theorem A_range {h0 : Hp} {X : List Nat} {W L : List Ck} {P : Program} {pol : Pol} {call : Calling} {fn nt fuel : Nat} {T : Temps} {Q : Exit × Temps → Hp → Prop} {a b : Code} {fo : Operand} {F : AV} {params : List Tmp} {C Rs : List Ck} [hf : Ev T fo F] (hy : isYield F = false) [tk : Taks L C Rs] (A0 A1 : List Ck → Prop) (A2 : Nat → List Ck → Prop)
    (sp : ∀ id, Cal (.loop id fn nt T params a b .ready none :: C) (Rs ++ W) (call F [.func (.yield id) [] []]) fun _ N => ∃ N', (N = .loop id fn nt T params a b .ready none :: N' ∧ A0 N') ∨ (N = .loop id fn nt T params a b .done (some .ret) :: N' ∧ A1 N') ∨ ∃ j, N = .loop id fn nt T params a b .done (some (.exit j)) :: N' ∧ A2 j N')
    (g0 : ∀ N, A0 N → AK ⟨h0, X, W⟩ (N ++ Rs) Q (.normal, T)) (g1 : ∀ N, A1 N → AK ⟨h0, X, W⟩ (N ++ Rs) Q (.ret, T)) (g2 : ∀ j N, A2 j N → AK ⟨h0, X, W⟩ (N ++ Rs) Q (.exit j, T)) :
    ACo ⟨h0, X, W⟩ L P pol call fn nt fuel (.rangeFunc fo params.toArray a b) T Q := fun h s => by
  refine Runs.wf fun w => ?_
  simp only [acode, hf.eq, hy]
  refine Runs.bind (Runs.guard rfl (Runs.bind (Runs.halloc ?_)))
  have s1 : St ⟨h0, X, W⟩ (.loop h.next fn nt T params a b .ready none :: (C ++ Rs)) ⟨h.obj.set h.next (some ⟨0, 0, .loop fn nt T params a b .ready none, none⟩), h.next + 1⟩ :=
    (s.perm tk.perm).new w (Keep.alloc w _) (N := [.loop h.next fn nt T params a b .ready none]) (fun c hc => by rcases List.mem_singleton.1 hc with rfl; exact ⟨_, _, _, get_set_eq _ _ _ _⟩) (by simp [cids, Ck.loop]) (by simp [cids, Ck.loop])
  refine Runs.bind (Runs.wf fun w1 => (sp h.next _ (St.into (C := .loop h.next fn nt T params a b .ready none :: C) s1 w1)).mono ?_)
  rintro _ h2 ⟨N, hN, t⟩
  have s2 := St.out (C := .loop h.next fn nt T params a b .ready none :: C) s1 t
  have key : ∀ (st : LoopState) (p : Option Code) (N' : List Ck), N = .loop h.next fn nt T params a b st p :: N' → isBusy st = false → (∀ h3, St ⟨h0, X, W⟩ (N' ++ Rs) h3 → Runs (afterLoop p T) h3 Q) → Runs (do
      let (f', nt', T', ps, a, b, st, p) ← loopOf h.next
      let o ← AM.hget h.next
      AM.guard (!(isBusy st))
      AM.hput h.next o.ver (.loop f' nt' T' ps a b .exhausted p)
      afterLoop p T) h2 Q := by
    intro st p N' e hb k
    subst e
    have hl : LoopAt h2 h.next fn nt T params a b st p := s2.all _ List.mem_cons_self
    refine Runs.bind (Runs.of hl.run ?_)
    dsimp only
    obtain ⟨v, s', tyl, e⟩ := hl
    refine Runs.bind (Runs.hget e (Runs.bind (Runs.guard (by rw [hb]; rfl) (Runs.bind (Runs.hput e (Nat.le_refl _) (k _ ?_))))))
    exact (s2.put' (c' := .loop h.next fn nt T params a b .exhausted p) ((KeepBut.put _).weaken (by rintro i rfl; simp [Ck.loop])) ⟨_, _, _, get_set_eq _ _ _ _⟩ rfl).sub (List.sublist_cons_self _ _)
  obtain ⟨N', ⟨e, q⟩ | ⟨e, q⟩ | ⟨j, e, q⟩⟩ := hN
  · exact key _ _ _ e rfl fun h3 s3 => Runs.pure (g0 N' q h3 s3)
  · refine key _ _ _ e rfl fun h3 s3 => ?_
    unfold afterLoop
    exact Runs.bind (Runs.ofOption rfl (Runs.pure (g1 N' q h3 s3)))
  · refine key _ _ _ e rfl fun h3 s3 => ?_
    unfold afterLoop
    exact Runs.bind (Runs.ofOption rfl (Runs.pure (g2 j N' q h3 s3)))
/-- the same, the record under a name -/
theorem A_rangeL {h0 : Hp} {X : List Nat} {W L : List Ck} {P : Program} {pol : Pol} {call : Calling} {fn nt fuel : Nat} {T : Temps} {Q : Exit × Temps → Hp → Prop} {a b : Code} {fo : Operand} {F : AV} {params : List Tmp} {C Rs : List Ck} [hf : Ev T fo F] (hy : isYield F = false) [tk : Taks L C Rs] (A0 A1 : List Ck → Prop) (A2 : Nat → List Ck → Prop)
    (sp : ∀ (id : Nat) (lp : LoopState → Option Code → Ck), (∀ st p, lp st p = .loop id fn nt T params a b st p) → Cal (lp .ready none :: C) (Rs ++ W) (call F [.func (.yield id) [] []]) fun _ N => ∃ N', (N = lp .ready none :: N' ∧ A0 N') ∨ (N = lp .done (some .ret) :: N' ∧ A1 N') ∨ ∃ j, N = lp .done (some (.exit j)) :: N' ∧ A2 j N')
    (g0 : ∀ N, A0 N → AK ⟨h0, X, W⟩ (N ++ Rs) Q (.normal, T)) (g1 : ∀ N, A1 N → AK ⟨h0, X, W⟩ (N ++ Rs) Q (.ret, T)) (g2 : ∀ j N, A2 j N → AK ⟨h0, X, W⟩ (N ++ Rs) Q (.exit j, T)) :
    ACo ⟨h0, X, W⟩ L P pol call fn nt fuel (.rangeFunc fo params.toArray a b) T Q :=
  A_range hy A0 A1 A2 (fun id => sp id (fun st p => .loop id fn nt T params a b st p) fun _ _ => rfl) g0 g1 g2
instance (priority := 2000) wk_akapp {B : Bs} {N M Z : List Ck} {K : Exit × Temps → Hp → Prop} {x : Exit × Temps} [a : App N M Z] : Wk (AK B (N ++ M) K x) (AK B Z K x) := ⟨fun g => by rw [a.eq]; exact g⟩

/-- a slice that is nothing, al a chunk -/
theorem St.nil {B : Bs} {L : List Ck} {h : Hp} {α : Type} (f : α → List AV) (sz : Nat) {v : AV} [n0 : Nil0 v] (s : St B L h) : St B (.rows f sz v [] :: L) h := by
  have hv : vids v = [] := by rcases n0.eq with rfl | rfl | rfl <;> rfl
  refine ⟨s.wf, s.keep, fun c hc => ?_, ?_, ?_⟩
  · rcases List.mem_cons.1 hc with rfl | q
    · exact n0.rows
    · exact s.all c q
  · rw [List.cons_append, cids_cons]; show (vids v ++ _).Nodup; rw [hv]; exact s.nd
  · intro i hi; rw [cids_cons] at hi; have hi : i ∈ vids v ++ cids L := hi; rw [hv] at hi; exact s.own i hi
theorem aco_nil {B : Bs} {L : List Ck} {P : Program} {pol : Pol} {call : Calling} {fn nt fuel : Nat} {T : Temps} {Q : Exit × Temps → Hp → Prop} {c : Code} {α : Type} (f : α → List AV) (sz : Nat) (v : AV) [n0 : Nil0 v] (g : ACo B (.rows f sz v [] :: L) P pol call fn nt fuel c T Q) : ACo B L P pol call fn nt fuel c T Q := fun h s => g h (s.nil f sz)
/-! maps -/
section
variable {h0 : Hp} {X : List Nat} {W L : List Ck} {P : Program} {pol : Pol} {call : Calling} {fn nt : Nat} {R : Rg} {rest : List (Nat × Oper)} {ds : List (Nat × Option Tmp)} {seen : Seen} {T : Temps} {Q : Temps → Hp → Prop} {i : Nat} {d : Option Tmp} {ty : TypeId} {pos : String} {after : Array Edge}
/-- what is found of a key -/
class FindS (s : List UInt8) (es : List (AV × AV)) (v : outParam AV) : Prop where eq : afind (.str s) es = some (some v)
class FindN (s : List UInt8) (es : List (AV × AV)) : Prop where eq : afind (.str s) es = some none
class FindE (s : List UInt8) (es : List (AV × AV)) : Prop where ex : ∃ r, afind (.str s) es = some r
instance {s : List UInt8} {es : List (AV × AV)} {v : AV} [a : FindS s es v] : FindE s es := ⟨_, a.eq⟩
instance {s : List UInt8} {es : List (AV × AV)} [a : FindN s es] : FindE s es := ⟨_, a.eq⟩
section
variable {t kt et : TypeId} {x k : Operand} {id : Nat} {es : List (AV × AV)} {s : List UInt8} {z v : AV} [ht : TMap P t kt et] [hk' : TStr P kt] [hz : TZero P et z] [hx : Ev T x (.mapv id)] [hk : Ev T k (.str s)] [hm : HasMap L W id es]
instance wk_lookupS [f : FindS s es v] : Wk (AOps ⟨h0, X, W⟩ L P pol call fn nt R ((i, ⟨d, .lookup t x k false, ty, pos, after, none⟩) :: rest) ds seen T Q) (AOps ⟨h0, X, W⟩ L P pol call fn nt R rest ((i, d) :: ds) ((i, [(true, id)]) :: seen) (tput? nt T d v) Q) :=
  ⟨fun g h s e' => O_lookup hx.eq hk.eq (s.all _ hm.mem) f.eq (g h s e'.step)⟩
instance wk_lookupN [f : FindN s es] : Wk (AOps ⟨h0, X, W⟩ L P pol call fn nt R ((i, ⟨d, .lookup t x k false, ty, pos, after, none⟩) :: rest) ds seen T Q) (AOps ⟨h0, X, W⟩ L P pol call fn nt R rest ((i, d) :: ds) ((i, [(true, id)]) :: seen) (tput? nt T d z) Q) :=
  ⟨fun g h s e' => O_lookup hx.eq hk.eq (s.all _ hm.mem) f.eq (g h s e'.step)⟩
instance wk_lookupS2 [f : FindS s es v] : Wk (AOps ⟨h0, X, W⟩ L P pol call fn nt R ((i, ⟨d, .lookup t x k true, ty, pos, after, none⟩) :: rest) ds seen T Q) (AOps ⟨h0, X, W⟩ L P pol call fn nt R rest ((i, d) :: ds) ((i, [(true, id)]) :: seen) (tput? nt T d (.tuple [v, .bool true])) Q) :=
  ⟨fun g h s e' => O_lookup hx.eq hk.eq (s.all _ hm.mem) f.eq (g h s e'.step)⟩
instance wk_lookupN2 [f : FindN s es] : Wk (AOps ⟨h0, X, W⟩ L P pol call fn nt R ((i, ⟨d, .lookup t x k true, ty, pos, after, none⟩) :: rest) ds seen T Q) (AOps ⟨h0, X, W⟩ L P pol call fn nt R rest ((i, d) :: ds) ((i, [(true, id)]) :: seen) (tput? nt T d (.tuple [z, .bool false])) Q) :=
  ⟨fun g h s e' => O_lookup hx.eq hk.eq (s.all _ hm.mem) f.eq (g h s e'.step)⟩
end
instance wk_mapUpdate {t kt et : TypeId} {m k x : Operand} {id : Nat} {es : List (AV × AV)} {s : List UInt8} {v : AV} {L' : List Ck} {C : Prop} [ht : TMap P t kt et] [hk' : TStr P kt] [hm' : Ev T m (.mapv id)] [hk : Ev T k (.str s)] [hv : Ev T x v] [hm : HasMap L [] id es] [f : FindE s es] [u : Up L (.map id es) (.map id (aupd (.str s) v es)) L'] [ok : Ok R seen i C] :
    Wk (AOps ⟨h0, X, W⟩ L P pol call fn nt R ((i, ⟨d, .mapUpdate t m k x, ty, pos, after, none⟩) :: rest) ds seen T Q) (C ∧ AOps ⟨h0, X, W⟩ L' P pol call fn nt R rest ((i, d) :: ds) seen (tput? nt T d (.tuple [])) Q) :=
  ⟨fun g h s e => by
    obtain ⟨hc, g⟩ := g
    obtain ⟨res, hf⟩ := f.ex
    exact O_mapUpdate hm'.eq hk.eq hv.eq (s.all _ (by have := hm.mem; simp at this; exact List.mem_append.2 (.inl this))) hf fun h1 k r => ⟨ok.ok hc _ _, g h1 (s.up' u (k.weaken (by rintro i rfl; simp [Ck.map])) r rfl) e.step⟩⟩
/-! structs made -/
class NthF (fs : List (Nat × Nat)) (i : Nat) (off sz : outParam Nat) : Prop where eq : fs[i]? = some (off, sz)
instance nthf_0 {fs : List (Nat × Nat)} {off sz : Nat} : NthF ((off, sz) :: fs) 0 off sz := ⟨rfl⟩
instance nthf_s {fs : List (Nat × Nat)} {x : Nat × Nat} {i off sz : Nat} [a : NthF fs i off sz] : NthF (x :: fs) (i + 1) off sz := ⟨by simpa using a.eq⟩
class Fil (L W : List Ck) (fs : List (Nat × Nat)) (cells : List AV) (parts : List (Nat × AV)) (c' : outParam (List AV)) : Prop where eq : ∀ h, (∀ c ∈ L ++ W, c.p h) → afillL fs cells parts = some c'
instance fil_nil {fs : List (Nat × Nat)} {cells : List AV} : Fil L W fs cells [] cells := ⟨fun _ _ => rfl⟩
instance fil_cons {fs : List (Nat × Nat)} {cells r c' cs : List AV} {j off sz n : Nat} {v : AV} {parts : List (Nat × AV)} [a : NthF fs j off sz] [b : Ac L W v cs] [c : Len cs n] [e : Same (Nat.beq n sz) true] [sp : Spl cells off cs r] [k : Fil L W fs r parts c'] : Fil L W fs cells ((j, v) :: parts) c' := ⟨fun h q => by
  have hn : n = sz := Nat.eq_of_beq_eq_true e.eq
  have hle := sp.le
  rw [c.eq, hn] at hle
  simp only [afillL, a.eq, (b.ac h q).1, (b.ac h q).2, c.eq]
  rw [show (Nat.beq n sz && Nat.ble (off + sz) cells.length && true) = true by rw [e.eq]; simpa using hle, sp.eq]
  exact k.eq h q⟩
instance wk_build {t : TypeId} {parts : List (Nat × Operand)} {l : List (Nat × AV)} {fs : List (Nat × Nat)} {z c' : List AV} [ht : TStruct P t fs z] [hl : Evp T parts l] [hf : Fil L W fs z l c'] : Wk (AOps ⟨h0, X, W⟩ L P pol call fn nt R ((i, ⟨d, .build t parts.toArray, ty, pos, after, none⟩) :: rest) ds seen T Q) (AOps ⟨h0, X, W⟩ L P pol call fn nt R rest ((i, d) :: ds) ((i, []) :: seen) (tput? nt T d (.agg c')) Q) :=
  ⟨fun g h s e => O_build hl.eq (hf.eq h s.all) (g h s e.step)⟩
/-! slices made -/
instance wk_build1 {t e : TypeId} {sz : Nat} {x : Operand} {z v : AV} {cs : List AV} {n : Nat} [ht : TSl P t e] [hs : TSz P e sz] [hz' : TZero P e z] [hx : Ev T x v] [hc : Ac L W v cs] [hl : Len cs n] [hn : Same (Nat.beq n sz) true] :
    Wk (AOps ⟨h0, X, W⟩ L P pol call fn nt R ((i, ⟨d, .buildSlice t 1 [(0, x)].toArray, ty, pos, after, none⟩) :: rest) ds seen T Q) ((Nat.ble (1 * sz) 16777216 && Nat.beq (acells z).length sz) = true ∧ pol.lit fn (d.getD 0) = false ∧ AOps ⟨h0, X, W⟩ L P pol call fn nt R rest ((i, d) :: ds) seen (tput? nt T d (.sl .full 1 cs)) Q) :=
  ⟨fun g h s e' => by
    obtain ⟨h1, h2, g⟩ := g
    have hac := hc.ac h s.all
    have hn' : n = sz := Nat.eq_of_beq_eq_true hn.eq
    have hzl : (acells z).length = sz := by simp only [Bool.and_eq_true] at h1; simpa using h1.2
    refine O_buildSlice (c' := cs) (l := [(0, v)]) (pairs_cons hx.eq pairs_nil) h1 ?_ h2 fun _ => g h s e'.step
    show afillL _ _ _ = _
    have hr : repeatCells (acells z) 1 = acells z := by simp [repeatCells]
    rw [hr]
    simp only [afillL, List.range, List.range.loop, List.map_cons, List.map_nil, List.getElem?_cons_zero, hac.1, hac.2]
    rw [show (Nat.beq cs.length sz && Nat.ble (0 * sz + sz) (acells z).length && true) = true by rw [hl.eq, hn', hzl]; simp]
    simp only [Nat.zero_mul]
    congr 1
    unfold splice
    rw [List.take_zero, List.nil_append, Nat.zero_add, List.drop_eq_nil_of_le (by rw [hl.eq, hn', hzl]; exact Nat.le_refl _), List.append_nil]
    rfl⟩
theorem repeat_flat {α : Type} {f : α → List AV} {x : α} {z : List AV} (e : z = f x) : ∀ n, repeatCells z n = flat f (List.replicate n x)
  | 0 => rfl
  | n + 1 => by rw [repeatCells, repeat_flat e n, List.replicate_succ, flat_cons, e]
instance wk_makeSlice {α : Type} {f : α → List AV} {x0 : α} {t e : TypeId} {l c : Operand} {n sz bytes : Nat} {z : AV} {cs : List AV} [ht : TSl P t e] [hs : TSz P e sz] [hb' : TBytes P e bytes] [hz' : TZero P e z] [hl : Ev T l (.int .i64 (n : Int))] [hc : Ev T c (.int .i64 (n : Int))] [ac : Ac L W z cs] [en : Enc cs f x0] [fl : FL f sz] :
    Wk (AOps ⟨h0, X, W⟩ L P pol call fn nt R ((i, ⟨d, .makeSlice t l c, ty, pos, after, none⟩) :: rest) ds seen T Q)
      ((!(Nat.beq sz 0) && Nat.beq (acells z).length sz) = true ∧ n < 140737488355328 ∧ n * bytes ≤ 140737488355328 ∧ ∀ id, AOps ⟨h0, X, W⟩ (.arr f sz (.own id 0 0 n) (List.replicate n x0) :: L) P pol call fn nt R rest ((i, d) :: ds) seen (tput? nt T d (.own id 0 0 n)) Q) :=
  ⟨fun g h s e' => O_wf fun w => by
    obtain ⟨h1, h2, h3, g⟩ := g
    have hcs := (ac.ac h s.all).1
    refine O_makeSlice hl.eq hc.eq h1 h2 h3 fun h1 id k r l1 l2 => g id h1 ?_ e'.step
    rw [hcs, repeat_flat en.eq] at r
    have hlen : (flat f (List.replicate n x0)).length = n * sz := by rw [flat_length fl.len, List.length_replicate]
    have hsl : Rows f sz h1 (.own id 0 0 n) (List.replicate n x0) := by
      have := SlV.own (sz := sz) id 0 0 n _ true r (by rw [hlen]; omega)
      rw [List.drop_zero, List.take_of_length_le (by omega)] at this
      show SlV h1 sz _ (List.replicate n x0).length _
      rw [List.length_replicate]; exact this
    have := s.new w k (N := [.arr f sz (.own id 0 0 n) (List.replicate n x0)]) (fun c hc => by rcases List.mem_singleton.1 hc with rfl; exact ⟨hsl, rfl, by simp [vids]⟩) (by simp [cids, Ck.arr, vids]) (by simp [cids, Ck.arr, vids]; exact l1)
    exact this⟩
/-! an element is written -/
theorem splice_flat {α : Type} {f : α → List AV} {sz : Nat} (hf : ∀ x, (f x).length = sz) {l : List α} {j off : Nat} {x y : α} {cs : List AV} (hx : l[j]? = some x) (hc : off + cs.length ≤ sz) (e : splice (f x) off cs = f y) : splice (flat f l) (j * sz + off) cs = flat f (l.set j y) := by
  obtain ⟨hj, rfl⟩ := List.getElem?_eq_some_iff.1 hx
  have hl := el_lt (sz := sz) hj
  have h1 : flat f l = flat f (l.take j) ++ (f l[j] ++ flat f (l.drop (j + 1))) := by
    rw [← flat_cons, ← flat_append, ← List.drop_eq_getElem_cons hj, List.take_append_drop]
  have h2 : flat f (l.set j y) = flat f (l.take j) ++ (f y ++ flat f (l.drop (j + 1))) := by
    rw [List.set_eq_take_append_cons_drop, if_pos hj, flat_append, flat_cons]
  have hp : (flat f (l.take j)).length = j * sz := by rw [flat_length hf, List.length_take]; congr 1; omega
  have hfl : (f l[j]).length = sz := hf _
  rw [h1, h2, ← e]
  unfold splice
  rw [← hp, List.take_append, List.drop_append]
  have a1 : (flat f (l.take j)).take ((flat f (l.take j)).length + off) = flat f (l.take j) := List.take_of_length_le (by omega)
  have a2 : (flat f (l.take j)).drop ((flat f (l.take j)).length + off + cs.length) = [] := List.drop_eq_nil_of_le (by omega)
  rw [a1, a2, List.nil_append]
  rw [show (flat f (l.take j)).length + off - (flat f (l.take j)).length = off by omega, show (flat f (l.take j)).length + off + cs.length - (flat f (l.take j)).length = off + cs.length by omega]
  rw [List.take_append_of_le_length (by omega), List.drop_append_of_le_length (by omega)]
  simp only [List.append_assoc]
class HasArr (L : List Ck) (v : AV) {α : outParam Type} (f : outParam (α → List AV)) (sz : outParam Nat) (l : outParam (List α)) : Prop where mem : Ck.arr f sz v l ∈ L
instance hasarr_0 {α : Type} {f : α → List AV} {sz : Nat} {l : List α} {v : AV} : HasArr (.arr f sz v l :: L) v f sz l := ⟨List.mem_cons_self⟩
instance (priority := 900) hasarr_s {α : Type} {f : α → List AV} {sz : Nat} {l : List α} {v : AV} {c : Ck} [a : HasArr L v f sz l] : HasArr (c :: L) v f sz l := ⟨List.mem_cons_of_mem _ a.mem⟩
instance wk_elStore {α : Type} {f : α → List AV} {sz : Nat} {l : List α} {t : TypeId} {a x : Operand} {v u : AV} {j off n m : Nat} {cs r : List AV} {x0 y : α} {L' : List Ck} {C : Prop} [hs : TSz P t n] [ha : Ev T a (elA v j sz off)] [hx : Ev T x u] [hr : HasArr L v f sz l] [fl : FL f sz] [at_ : ElAt l j x0] [hc : Ac L W u cs] [hl : Len cs m] [hm : Same (Nat.beq m n) true] [ho : Ones L W cs] [sp : Spl (f x0) off cs r] [en : Enc r f y] [up : Up L (.arr f sz v l) (.arr f sz v (l.set j y)) L'] [ok : Ok R seen i C] :
    Wk (AOps ⟨h0, X, W⟩ L P pol call fn nt R ((i, ⟨d, .store t a x, ty, pos, after, none⟩) :: rest) ds seen T Q) (C ∧ AOps ⟨h0, X, W⟩ L' P pol call fn nt R rest ((i, d) :: ds) seen (tput? nt T d (.tuple [])) Q) :=
  ⟨fun g h s e => by
    obtain ⟨hc0, g⟩ := g
    obtain ⟨r1, r2, r3⟩ := s.all _ (List.mem_append.2 (.inl hr.mem))
    have hac := (hc.ac h s.all).1
    have hmn : m = n := Nat.eq_of_beq_eq_true hm.eq
    have hle := sp.le
    rw [hl.eq, fl.len] at hle
    have hel := ha.eq
    have hj : j < l.length := (List.getElem?_eq_some_iff.1 at_.eq).1
    have hlt := el_lt (sz := sz) hj
    have hsp := splice_flat fl.len at_.eq (by rw [hl.eq]; exact hle) (sp.eq.trans en.eq)
    have hlen := flat_length fl.len l
    have hlen' := flat_length fl.len (l.set j y)
    rw [List.length_set] at hlen'
    have r1 : SlV h sz v l.length (flat f l) := r1
    have key : ∀ h1, KeepBut (· ∈ vids v) h h1 → SlV h1 sz v l.length (flat f (l.set j y)) → St ⟨h0, X, W⟩ L' h1 := fun h1 k q =>
      s.up' up k ⟨by show SlV h1 sz v (l.set j y).length _; rw [List.length_set]; exact q, r2, r3⟩ rfl
    generalize hn : l.length = N at *
    generalize hcs : flat f l = F at r1
    cases r1 with
    | imm k n _ e => exact absurd rfl r3
    | own id ver o n row fix rw' e0 =>
      have hF : flat f l = (row.drop o).take (N * sz) := hcs
      refine O_store (off := o + j * sz + off) hel hx.eq rw' ?_ fun h1 k q => ⟨ok.ok hc0 _ _, g h1 (key h1 (k.weaken (by rintro i rfl; simp [vids])) ?_) e.step⟩
      · rw [hac, ho.ones h s.all, hl.eq, hmn]; simp; omega
      · rw [hac] at q
        have e1 : ((splice row (o + j * sz + off) cs).drop o).take (N * sz) = flat f (l.set j y) := by
          rw [← hsp]
          have hrow : row = row.take o ++ (flat f l ++ (row.drop o).drop (N * sz)) := by rw [hF, List.take_append_drop, List.take_append_drop]
          have htl : (row.take o).length = o := by rw [List.length_take]; omega
          have hFl : (flat f l).length = N * sz := by omega
          have h3 : splice row (o + j * sz + off) cs = row.take o ++ (splice (flat f l) (j * sz + off) cs ++ (row.drop o).drop (N * sz)) := by
            conv => lhs; rw [hrow]
            have hdn : (row.take o).drop (o + j * sz + off + cs.length) = [] := List.drop_eq_nil_of_le (by omega)
            unfold splice
            rw [List.take_append, List.drop_append, htl]
            rw [List.take_of_length_le (l := row.take o) (by omega), hdn, List.nil_append]
            rw [show o + j * sz + off - o = j * sz + off by omega, show o + j * sz + off + cs.length - o = j * sz + off + cs.length by omega]
            rw [List.take_append_of_le_length (by omega), List.drop_append_of_le_length (by rw [hl.eq]; omega)]
            simp only [List.append_assoc]
          rw [h3, List.drop_left' htl, List.take_left']
          rw [splice_length (by rw [hl.eq]; omega), hFl]
        have := SlV.own (sz := sz) id ver o N _ fix q (by rw [splice_length (by rw [hl.eq]; omega)]; exact e0)
        rw [e1] at this; exact this⟩
end
end Go.Am
namespace Go.Am
open Go AM
set_option linter.unusedVariables false
set_option synthInstance.maxHeartbeats 200000

/-- bounds of a part -/
class Bnd (lo hi n : Nat) : Prop where
  le : lo ≤ hi
  top : hi ≤ n
/-- a part of a slice -/
def subV (v : AV) (lo hi sz : Nat) : AV := match v with
  | .own id ver off _ => .own id ver (off + lo * sz) (hi - lo)
  | .sl k n cells => .sl (match k with | .nil => .nil | .full => cond (Nat.beq hi n) .full .any | .tight => cond (Nat.beq hi n) .tight .any | .any => .any) (hi - lo) ((cells.drop (lo * sz)).take ((hi - lo) * sz))
  | v => v
section
variable {h : Hp} {v : AV} {α : Type} {f : α → List AV} {sz : Nat} {l : List α} {lo hi : Nat}
theorem sub_rows (hf : ∀ x, (f x).length = sz) (r : Rows f sz h v l) (h1 : lo ≤ hi) (h2 : hi ≤ l.length) : Rows f sz h (subV v lo hi sz) ((l.drop lo).take (hi - lo)) := by
  have hlen := flat_length hf l
  have hn : ((l.drop lo).take (hi - lo)).length = hi - lo := by rw [List.length_take, List.length_drop]; omega
  have e : flat f ((l.drop lo).take (hi - lo)) = ((flat f l).drop (lo * sz)).take ((hi - lo) * sz) := by rw [flat_drop hf, flat_take hf]
  have hm : (lo * sz + (hi - lo) * sz) ≤ l.length * sz := by rw [← Nat.add_mul]; exact Nat.mul_le_mul_right _ (by omega)
  show SlV h sz _ ((l.drop lo).take (hi - lo)).length _
  rw [hn, e]
  have r : SlV h sz v l.length (flat f l) := r
  generalize hN : l.length = N at *
  generalize hF : flat f l = F at *
  cases r with
  | imm k n _ e => exact .imm _ _ _ (by rw [List.length_take, List.length_drop]; omega)
  | own id ver off n row fix r0 e0 =>
    have := SlV.own (sz := sz) id ver (off + lo * sz) (hi - lo) row fix r0 (by omega)
    rw [List.drop_take, List.take_take, Nat.min_eq_left (by omega), List.drop_drop]
    exact this
end
instance (priority := 900) hasrows_sub {L W : List Ck} {v : AV} {α : Type} {f : α → List AV} {sz lo hi : Nat} {l : List α} [r : HasRows L W v f sz l] [fl : FL f sz] [b : Bnd lo hi l.length] : HasRows L W (subV v lo hi sz) f sz ((l.drop lo).take (hi - lo)) := ⟨fun h k => sub_rows fl.len (r.has h k) b.le b.top⟩
/-- the first part of what a chunk holds, told apart -/
instance hasrows_pre {L W : List Ck} {v : AV} {α : Type} {f : α → List AV} {sz : Nat} {l m : List α} [fl : FL f sz] [r : HasRows L W v f sz (l ++ m)] : HasRows L W (subV v 0 l.length sz) f sz l := ⟨fun h k => by
  have := sub_rows (lo := 0) (hi := l.length) fl.len (r.has h k) (Nat.zero_le _) (by simp)
  simpa using this⟩
theorem subV_avIds (v : AV) (lo hi sz : Nat) : vids (subV v lo hi sz) = vids v := by cases v <;> rfl

section
variable {h0 : Hp} {X : List Nat} {W L : List Ck} {P : Program} {pol : Pol} {call : Calling} {fn nt : Nat} {R : Rg} {rest : List (Nat × Oper)} {ds : List (Nat × Option Tmp)} {seen : Seen} {T : Temps} {Q : Temps → Hp → Prop} {i : Nat} {d : Option Tmp} {ty : TypeId} {pos : String} {after : Array Edge}
variable {α : Type} {f : α → List AV} {sz : Nat} {l : List α}
/-- a bound, if there is one -/
class Bd (T : Temps) (x : Option Operand) (other : Nat) (j : outParam Nat) : Prop where eq : (x = none ∧ j = other) ∨ ∃ y k, x = some y ∧ aeval T y = .int k (j : Int)
instance {n : Nat} : Bd T none n n := ⟨.inl ⟨rfl, rfl⟩⟩
instance {y : Operand} {k : IntKind} {z : Int} {n j : Nat} [a : Ev T y (.int k z)] [b : NatOf z j] : Bd T (some y) n j := ⟨.inr ⟨y, k, rfl, by rw [a.eq, b.eq]⟩⟩
theorem Bd.pair {lo hi : Option Operand} {n l u : Nat} (a : Bd T lo 0 l) (b : Bd T hi n u) (h1 : l ≤ u) (h2 : u ≤ n) : abounds n n (lo.map (aeval T)) (hi.map (aeval T)) = Pure.pure (l, u) := by
  rcases a.eq with ⟨rfl, rfl⟩ | ⟨y, k, rfl, hy⟩ <;> rcases b.eq with ⟨rfl, rfl⟩ | ⟨z, k', rfl, hz⟩
  · rfl
  · exact bounds_hi (by rw [Option.map_some, hz]) h2
  · exact bounds_lo (by rw [Option.map_some, hy]) h1
  · exact bounds_both (by rw [Option.map_some, hy]) (by rw [Option.map_some, hz]) h1 h2
theorem aops_slice {t e : TypeId} {x : Operand} {lo hi : Option Operand} {v : AV} {j u : Nat} [ht : TSl P t e] [hs : TSz P e sz] [hx : Ev T x v] [hr : HasRows L W v f sz l] [fl : FL f sz] (hb : abounds l.length l.length (lo.map (aeval T)) (hi.map (aeval T)) = Pure.pure (j, u)) (h1 : j ≤ u) (h2 : u ≤ l.length)
    (g : AOps ⟨h0, X, W⟩ L P pol call fn nt R rest ((i, d) :: ds) ((i, (vids v).map fun id => (false, id)) :: seen) (tput? nt T d (subV v j u sz)) Q) : AOps ⟨h0, X, W⟩ L P pol call fn nt R ((i, ⟨d, .slice t x lo hi none, ty, pos, after, none⟩) :: rest) ds seen T Q := fun h s e' => by
  have g := g h s e'.step
  have r : SlV h sz v l.length (flat f l) := hr.has h s.all
  have hlen := flat_length fl.len l
  have hxe := hx.eq
  generalize hN : l.length = N at *
  generalize hF : flat f l = F at *
  have key : (aop P pol call fn ⟨d, .slice t x lo hi none, ty, pos, after, none⟩ (aeval T)).run h = some (subV v j u sz, h) := by
    simp only [aop, hxe, Option.map_none]
    cases r with
    | imm k n _ e =>
      simp only [aslice, elem_of ht.un]
      rw [pure_bind', hs.sz, pure_bind', show Nat.beq (N * sz) F.length = true by simpa using e, guard_true, pure_bind', hb, pure_bind']
      rfl
    | own id ver off n row fix r0 e0 =>
      obtain ⟨st, tyo, ho⟩ := r0
      simp only [aslice, elem_of ht.un]
      rw [pure_bind', hs.sz, pure_bind', run_bind, row_run ho]
      dsimp only
      rw [show (Nat.beq sz sz && Nat.ble (off + N * sz) row.length) = true by simpa using e0, guard_true, pure_bind', abounds_more hb room_le, pure_bind']
      rfl
  obtain ⟨n1, n2⟩ := bound_noids hb
  refine O_read _ rfl rfl ((slice_ids hxe n1 n2).trans (by rw [r.ids.1])) (fun y hy => ?_) key g
  obtain ⟨z, hz, rfl⟩ := List.mem_map.1 hy
  exact r.ids.2 z hz
instance wk_slice {t e : TypeId} {x : Operand} {lo hi : Option Operand} {v : AV} {j u : Nat} [ht : TSl P t e] [hs : TSz P e sz] [hx : Ev T x v] [hr : HasRows L W v f sz l] [fl : FL f sz] [b1 : Bd T lo 0 j] [b2 : Bd T hi l.length u] :
    Wk (AOps ⟨h0, X, W⟩ L P pol call fn nt R ((i, ⟨d, .slice t x lo hi none, ty, pos, after, none⟩) :: rest) ds seen T Q) (j ≤ u ∧ u ≤ l.length ∧ (Bnd j u l.length → AOps ⟨h0, X, W⟩ L P pol call fn nt R rest ((i, d) :: ds) ((i, (vids v).map fun id => (false, id)) :: seen) (tput? nt T d (subV v j u sz)) Q)) :=
  ⟨fun ⟨h1, h2, g⟩ => aops_slice (hx := hx) (Bd.pair b1 b2 h1 h2) h1 h2 (g ⟨h1, h2⟩)⟩
/-- of a text -/
instance wk_sliceS {t : TypeId} {x : Operand} {lo hi : Option Operand} {s : List UInt8} {j u : Nat} [ht : TStr P t] [hx : Ev T x (.str s)] [b1 : Bd T lo 0 j] [b2 : Bd T hi s.length u] :
    Wk (AOps ⟨h0, X, W⟩ L P pol call fn nt R ((i, ⟨d, .slice t x lo hi none, ty, pos, after, none⟩) :: rest) ds seen T Q) (j ≤ u ∧ u ≤ s.length ∧ AOps ⟨h0, X, W⟩ L P pol call fn nt R rest ((i, d) :: ds) ((i, []) :: seen) (tput? nt T d (.str ((s.drop j).take (u - j)))) Q) :=
  ⟨fun ⟨h1, h2, g⟩ h st e => by
    have hb := Bd.pair b1 b2 h1 h2
    obtain ⟨n1, n2⟩ := bound_noids hb
    refine O_val rfl rfl (slice_ids hx.eq n1 n2) ?_ (g h st e.step)
    simp only [aop, hx.eq, Option.map_none, aslice]
    rw [hb, pure_bind']
    simp only [ht.un]⟩
/-- past a slice's end, as far as its chunk's cells go -/
theorem aops_reslice {t e : TypeId} {x hi : Operand} {V : AV} {n u : Nat} {k : IntKind} [ht : TSl P t e] [hs : TSz P e sz] (hx : Ev T x (subV V 0 n sz)) [hr : HasRows L W V f sz l] [fl : FL f sz] (hv : vids V ≠ []) (hg : growB V = true) (hy : aeval T hi = .int k (u : Int)) (h0' : 0 < sz) (h1 : n ≤ l.length) (h2 : u ≤ l.length)
    (g : AOps ⟨h0, X, W⟩ L P pol call fn nt R rest ((i, d) :: ds) ((i, (vids V).map fun id => (false, id)) :: seen) (tput? nt T d (subV V 0 u sz)) Q) : AOps ⟨h0, X, W⟩ L P pol call fn nt R ((i, ⟨d, .slice t x none (some hi) none, ty, pos, after, none⟩) :: rest) ds seen T Q := fun h s e' => by
  have g := g h s e'.step
  have r : SlV h sz V l.length (flat f l) := hr.has h s.all
  have hxe := hx.eq
  generalize hN : l.length = N at *
  generalize hF : flat f l = F at *
  cases r with
  | imm => exact absurd rfl hv
  | own id ver off N row fix r0 e0 =>
    have hoff : off = 0 := by simpa [growB] using hg
    subst hoff
    obtain ⟨st, tyo, ho⟩ := r0
    have hxe : aeval T x = .own id ver 0 n := by rw [hxe]; simp [subV]
    have hroom : u ≤ roomIn n 0 sz row.length := by
      unfold roomIn
      have : N ≤ row.length / sz := (Nat.le_div_iff_mul_le h0').2 (by omega)
      simp
      omega
    have key : (aop P pol call fn ⟨d, .slice t x none (some hi) none, ty, pos, after, none⟩ (aeval T)).run h = some (subV (.own id ver 0 N) 0 u sz, h) := by
      have hns : n * sz ≤ N * sz := Nat.mul_le_mul_right _ h1
      simp only [aop, hxe, Option.map_none, Option.map_some, hy, aslice, elem_of ht.un]
      rw [pure_bind', hs.sz, pure_bind', run_bind, row_run ho]
      dsimp only
      rw [show (Nat.beq sz sz && Nat.ble (0 + n * sz) row.length) = true by simp; omega, guard_true, pure_bind']
      have hb : abounds n (roomIn n 0 sz row.length) none (some (.int k (u : Int))) = Pure.pure (0, u) := by
        simp only [abounds, abound]
        rw [show decide (0 ≤ (u : Int) ∧ (u : Int) ≤ (roomIn n 0 sz row.length : Nat)) = true by simp; omega, guard_true, pure_bind', pure_bind']
        rfl
      rw [hb, pure_bind']
      rfl
    refine O_read _ rfl rfl (slice_ids hxe (fun y hy => by cases hy) (fun y hy' => by cases hy'; rw [hy]; rfl)) (fun y hy => ?_) key g
    simp [avIds] at hy
    subst hy
    simp [ho]
class Pos (n : Nat) : Prop where pos : 0 < n
instance {n : Nat} [a : Same (Nat.ble 1 n) true] : Pos n := ⟨Nat.le_of_ble_eq_true a.eq⟩
/-- a chunk that may be written, wherever it is -/
class HasArrW (L W : List Ck) (v : AV) {α : outParam Type} (f : outParam (α → List AV)) (sz : outParam Nat) (l : outParam (List α)) : Prop where mem : Ck.arr f sz v l ∈ L ++ W
instance hasarrw_0 {L W : List Ck} {v : AV} : HasArrW (.arr f sz v l :: L) W v f sz l := ⟨List.mem_cons_self⟩
instance (priority := 900) hasarrw_s {L W : List Ck} {v : AV} {c : Ck} [a : HasArrW L W v f sz l] : HasArrW (c :: L) W v f sz l := ⟨List.mem_cons_of_mem _ a.mem⟩
instance (priority := 900) hasarrw_w {W : List Ck} {v : AV} {c : Ck} [a : HasArrW (c :: W) [] v f sz l] : HasArrW [] (c :: W) v f sz l := ⟨by have := a.mem; simpa using this⟩
instance (priority := 900) hasarrw_a {R W : List Ck} {v : AV} [a : HasArrW R W v f sz l] : HasArrW [] (R ++ W) v f sz l := ⟨by have := a.mem; simpa using this⟩
instance (priority := 50) hasarrw_any {L W : List Ck} {v : AV} [a : HasArrW [] W v f sz l] : HasArrW L W v f sz l := ⟨by have := a.mem; simp at this ⊢; exact .inr this⟩
theorem HasArrW.rows {L W : List Ck} {v : AV} (a : HasArrW L W v f sz l) : HasRows L W v f sz l := ⟨fun h k => (k _ a.mem).1⟩
instance (priority := 1100) wk_reslice {t e : TypeId} {x y : Operand} {V : AV} {n u : Nat} {k : IntKind} {z : Int} [ht : TSl P t e] [hs : TSz P e sz] [hx : Ev T x (subV V 0 n sz)] [hr : HasArrW L W V f sz l] [fl : FL f sz] [hy : Ev T y (.int k z)] [hz : NatOf z u] [hp : Pos sz] :
    Wk (AOps ⟨h0, X, W⟩ L P pol call fn nt R ((i, ⟨d, .slice t x none (some y) none, ty, pos, after, none⟩) :: rest) ds seen T Q) (n ≤ l.length ∧ u ≤ l.length ∧ (Bnd 0 u l.length → AOps ⟨h0, X, W⟩ L P pol call fn nt R rest ((i, d) :: ds) ((i, (vids V).map fun id => (false, id)) :: seen) (tput? nt T d (subV V 0 u sz)) Q)) :=
  ⟨fun ⟨h1, h2, g⟩ h s e => by
    have hc := s.all _ hr.mem
    have hr' := hr.rows
    exact aops_reslice hx hc.2.2 hc.2.1 (by rw [hy.eq, hz.eq]) hp.pos h1 h2 (g ⟨Nat.zero_le _, h2⟩) h s e⟩
/-- made with room -/
instance (priority := 900) wk_makeRoom {x0 : α} {t e : TypeId} {l c : Operand} {n m sz bytes : Nat} {z : AV} {cs : List AV} {zl zc : Int} [ht : TSl P t e] [hs : TSz P e sz] [hb' : TBytes P e bytes] [hz' : TZero P e z] [hl : Ev T l (.int .i64 zl)] [hn : NatOf zl n] [hc : Ev T c (.int .i64 zc)] [hm : NatOf zc m] [ac : Ac L W z cs] [en : Enc cs f x0] [fl : FL f sz] :
    Wk (AOps ⟨h0, X, W⟩ L P pol call fn nt R ((i, ⟨d, .makeSlice t l c, ty, pos, after, none⟩) :: rest) ds seen T Q)
      ((!(Nat.beq sz 0) && Nat.beq (acells z).length sz) = true ∧ n ≤ m ∧ m < 140737488355328 ∧ m * bytes ≤ 140737488355328 ∧ ∀ id, AOps ⟨h0, X, W⟩ (.arr f sz (.own id 0 0 n) (List.replicate n x0) :: L) P pol call fn nt R rest ((i, d) :: ds) seen (tput? nt T d (.own id 0 0 n)) Q) :=
  ⟨fun g h s e' => O_wf fun w => by
    obtain ⟨h1, hnm, h2, h3, g⟩ := g
    have hcs := (ac.ac h s.all).1
    refine O_makeSliceC (by rw [hl.eq, hn.eq]) (by rw [hc.eq, hm.eq]) h1 hnm h2 h3 fun h1 id k r l1 l2 => g id h1 ?_ e'.step
    rw [hcs, repeat_flat en.eq] at r
    have hlen : (flat f (List.replicate m x0)).length = m * sz := by rw [flat_length fl.len, List.length_replicate]
    have hsl : Rows f sz h1 (.own id 0 0 n) (List.replicate n x0) := by
      have := SlV.own (sz := sz) id 0 0 n _ true r (by rw [hlen, Nat.zero_add]; exact Nat.mul_le_mul_right _ hnm)
      rw [List.drop_zero, flat_take fl.len, List.take_replicate, Nat.min_eq_left hnm] at this
      show SlV h1 sz _ (List.replicate n x0).length _
      rw [List.length_replicate]; exact this
    have := s.new w k (N := [.arr f sz (.own id 0 0 n) (List.replicate n x0)]) (fun c hc => by rcases List.mem_singleton.1 hc with rfl; exact ⟨hsl, rfl, by simp [vids]⟩) (by simp [cids, Ck.arr, vids]) (by simp [cids, Ck.arr, vids]; exact l1)
    exact this⟩
end
end Go.Am
namespace Go.Am
open Go AM
set_option linter.unusedVariables false
set_option synthInstance.maxHeartbeats 200000

/-- parts, one for each place from k on -/
def BLp {α : Type} (f : α → List AV) : Nat → List (Nat × AV) → List α → Prop
  | k, (j, v) :: l, x :: xs => j = k ∧ acells v = f x ∧ known v = true ∧ BLp f (k + 1) l xs
  | _, [], [] => True
  | _, _, _ => False
theorem fill_all {α : Type} {f : α → List AV} {sz n : Nat} (hf : ∀ x, (f x).length = sz) : ∀ (xs : List α) (l : List (Nat × AV)) (k : Nat) (A B : List AV), BLp f k l xs → A.length = k * sz → B.length = xs.length * sz → k + xs.length ≤ n →
    afillL ((List.range n).map fun i => (i * sz, sz)) (A ++ B) l = some (A ++ flat f xs)
  | [], [], k, A, B, p, ha, hb, hn => by
    have : B = [] := List.eq_nil_of_length_eq_zero (by simpa using hb)
    rw [this]; rfl
  | [], _ :: _, k, A, B, p, ha, hb, hn => p.elim
  | x :: xs, [], k, A, B, p, ha, hb, hn => p.elim
  | x :: xs, (j, v) :: l, k, A, B, p, ha, hb, hn => by
    obtain ⟨rfl, hc, hk, p⟩ := p
    have hx : (f x).length = sz := hf x
    have hb' : B.length = xs.length * sz + sz := by rw [hb, List.length_cons, Nat.succ_mul]
    have hj : j < n := by simp only [List.length_cons] at hn; omega
    have hget : ((List.range n).map fun i => (i * sz, sz))[j]? = some (j * sz, sz) := by rw [List.getElem?_map, List.getElem?_range hj]; rfl
    have hs : splice (A ++ B) (j * sz) (f x) = (A ++ f x) ++ B.drop sz := by
      unfold splice
      rw [← ha, List.take_left' rfl, List.drop_append, List.drop_eq_nil_of_le (by omega), List.nil_append, show A.length + (f x).length - A.length = sz by omega, List.append_assoc]
    have ih := fill_all hf xs l (j + 1) (A ++ f x) (B.drop sz) p (by rw [List.length_append, ha, hx, Nat.succ_mul]) (by rw [List.length_drop]; omega) (n := n) (by simp only [List.length_cons] at hn; omega)
    simp only [afillL, hget, hc, hk, hx, hs]
    rw [show (Nat.beq sz sz && Nat.ble (j * sz + sz) (A ++ B).length && true) = true by simp [ha, hb']]
    rw [ih, flat_cons, List.append_assoc]
    rfl
theorem repeat_length (z : List AV) : ∀ n, (repeatCells z n).length = n * z.length
  | 0 => by simp [repeatCells]
  | n + 1 => by rw [repeatCells, List.length_append, repeat_length z n, Nat.succ_mul, Nat.add_comm]
class LenL {α : Type} (l : List α) (n : outParam Nat) : Prop where eq : l.length = n
instance {α : Type} : LenL ([] : List α) 0 := ⟨rfl⟩
instance {α : Type} {x : α} {l : List α} {n : Nat} [a : LenL l n] : LenL (x :: l) (n + 1) := ⟨by rw [List.length_cons, a.eq]⟩
class BL (L W : List Ck) (k : Nat) (l : List (Nat × AV)) {α : outParam Type} (f : outParam (α → List AV)) (xs : outParam (List α)) : Prop where p : ∀ h, (∀ c ∈ L ++ W, c.p h) → BLp f k l xs
section
variable {L W : List Ck} {α : Type} {f : α → List AV} {sz : Nat}
instance bl_one {k j : Nat} {v : AV} {cs : List AV} {x : α} [a : Ac L W v cs] [e : Enc cs f x] [b : Same (Nat.beq j k) true] : BL L W k [(j, v)] f [x] := ⟨fun h q => ⟨Nat.eq_of_beq_eq_true b.eq, (a.ac h q).1.trans e.eq, (a.ac h q).2, trivial⟩⟩
instance (priority := 900) bl_cons {k j : Nat} {v : AV} {cs : List AV} {l : List (Nat × AV)} {x : α} {xs : List α} [b : Same (Nat.beq j k) true] [a : Ac L W v cs] [e : Enc cs f x] [r : BL L W (k + 1) l f xs] : BL L W k ((j, v) :: l) f (x :: xs) := ⟨fun h q => ⟨Nat.eq_of_beq_eq_true b.eq, (a.ac h q).1.trans e.eq, (a.ac h q).2, r.p h q⟩⟩
/-- a slice of what a list encodes -/
def fullV (f : α → List AV) (xs : List α) : AV := .sl .full xs.length (flat f xs)
instance hasrows_full {xs : List α} [fl : FL f sz] : HasRows L W (fullV f xs) f sz xs := ⟨fun h _ => .imm _ _ _ (flat_length fl.len xs).symm⟩
end
section
variable {h0 : Hp} {X : List Nat} {W L : List Ck} {P : Program} {pol : Pol} {call : Calling} {fn nt : Nat} {R : Rg} {rest : List (Nat × Oper)} {ds : List (Nat × Option Tmp)} {seen : Seen} {T : Temps} {Q : Temps → Hp → Prop} {i : Nat} {d : Option Tmp} {ty : TypeId} {pos : String} {after : Array Edge}
variable {α : Type} {f : α → List AV} {sz : Nat}
instance (priority := 900) wk_buildN {t e : TypeId} {len n : Nat} {parts : List (Nat × Operand)} {l : List (Nat × AV)} {xs : List α} {z : AV} [ht : TSl P t e] [hs : TSz P e sz] [hz' : TZero P e z] [hl : Evp T parts l] [hb : BL L W 0 l f xs] [fl : FL f sz] [hn : LenL xs n] [he : Same (Nat.beq n len) true] :
    Wk (AOps ⟨h0, X, W⟩ L P pol call fn nt R ((i, ⟨d, .buildSlice t len parts.toArray, ty, pos, after, none⟩) :: rest) ds seen T Q) ((Nat.ble (len * sz) 16777216 && Nat.beq (acells z).length sz) = true ∧ pol.lit fn (d.getD 0) = false ∧ AOps ⟨h0, X, W⟩ L P pol call fn nt R rest ((i, d) :: ds) seen (tput? nt T d (fullV f xs)) Q) :=
  ⟨fun g h s e' => by
    obtain ⟨h1, h2, g⟩ := g
    have hzl : (acells z).length = sz := by simp only [Bool.and_eq_true] at h1; simpa using h1.2
    have hlen : xs.length = len := by rw [hn.eq]; exact Nat.eq_of_beq_eq_true he.eq
    refine O_buildSlice (c' := flat f xs) hl.eq h1 ?_ h2 fun _ => by have g := g h s e'.step; unfold fullV at g; rw [hlen] at g; exact g
    have := fill_all (n := len) fl.len xs l 0 [] (repeatCells (acells z) len) (hb.p h s.all) (by simp) (by rw [repeat_length, hzl, hlen]) (by omega)
    simpa using this⟩
/-- a guard that was not reached itself -/
instance wk_skip {B : Bs} {j t : Nat} {want : Bool} {op : Op} [a : Dl ds j t] [hb : Lk T t (.tuple [])] : Wk (AOps B L P pol call fn nt R ((i, ⟨d, op, ty, pos, after, some (j, want)⟩) :: rest) ds seen T Q) (AOps B L P pol call fn nt R rest ((i, d) :: ds) seen (tput? nt T d (.tuple [])) Q) :=
  ⟨fun g h s e hk => by
    have hw : wantedM R T ⟨d, op, ty, pos, after, some (j, want)⟩ = pure false := by
      unfold wantedM
      simp only [e.1 _ a.mem, Option.bind_some, id_eq, hb.eq]
    simp only [aopsM, hw]
    exact Runs.bind (Runs.pure (g h s e.step hk))⟩
/-- of nothing -/
instance wk_build0 {t e : TypeId} {z : AV} {sz : Nat} [ht : TSl P t e] [hs : TSz P e sz] [hz' : TZero P e z] :
    Wk (AOps ⟨h0, X, W⟩ L P pol call fn nt R ((i, ⟨d, .buildSlice t 0 [].toArray, ty, pos, after, none⟩) :: rest) ds seen T Q) ((Nat.ble (0 * sz) 16777216 && Nat.beq (acells z).length sz) = true ∧ pol.lit fn (d.getD 0) = false ∧ AOps ⟨h0, X, W⟩ L P pol call fn nt R rest ((i, d) :: ds) seen (tput? nt T d (.sl .full 0 [])) Q) :=
  ⟨fun g h s e' => O_buildSlice (c' := []) (l := []) rfl g.1 rfl g.2.1 fun _ => g.2.2 h s e'.step⟩
/-- to nothing: a new object, nothing is turned -/
theorem aops_appnil {m : List α} {args : List Operand} {t u e e' : TypeId} {bytes : Nat} {z s0 x : AV} [ht : TSl P t e] [hu : TSl P u e'] [hs : TSz P e sz] [hb' : TBytes P e bytes] [hz' : TZero P e z]
    (ha : Evs T args [s0, x]) [n0 : Nil0 s0] [hx : HasRows L W x f sz m] [h1 : FOne f] [hf : FL f sz]
    (hz : (!(Nat.beq sz 0) && !(Nat.beq bytes 0) && Nat.beq (acells z).length sz) = true) (hb : m.length * bytes ≤ 140737488355328) (K : AV → Ck)
    (hK : ∀ v h1, Rows f sz h1 v m → growB v = true → (m ≠ [] → vids v ≠ []) → (K v).p h1) (hi : ∀ v, (K v).ids = vids v)
    (g : ∀ v, AOps ⟨h0, X, W⟩ (K v :: L) P pol call fn nt R rest ((i, d) :: ds) seen (tput? nt T d v) Q) :
    AOps ⟨h0, X, W⟩ L P pol call fn nt R ((i, ⟨d, .call ⟨.builtin .append, args.toArray, [t, u].toArray⟩, ty, pos, after, none⟩) :: rest) ds seen T Q := fun h s e => O_wf fun w => by
  have hvs : vids s0 = [] := by rcases n0.eq with rfl | rfl | rfl <;> rfl
  obtain ⟨r1, r2⟩ := n0.rows (f := f) (sz := sz) (h := h)
  refine O_append ha.eq r1 r2 (hx.has h s.all) (flat_ones m) hz (by show (0 + m.length) * bytes ≤ _; rw [Nat.zero_add]; exact hb) fun v h1 k sl gb hv hne => ?_
  have kk : Keep h h1 := k.none fun i q => by rw [hvs] at q; cases q
  have sl : Rows f sz h1 v m := by
    show SlV h1 sz v m.length _
    have := sl
    simpa [flat_nil] using this
  exact ⟨Keep.undis kk, g v h1 (app_new s w k (hK v h1 sl gb fun c => hne (by cases m <;> simp_all)) (hi v) fun k hk => (hv k hk).imp id fun q => q.1) e.step⟩
instance (priority := 1100) wk_appnil1' {x0 : α} {args : List Operand} {t u e e' : TypeId} {bytes : Nat} {z s x : AV} [ht : TSl P t e] [hu : TSl P u e'] [hs : TSz P e sz] [hb' : TBytes P e bytes] [hz' : TZero P e z]
    [ha : Evs T args [s, x]] [n0 : Nil0 s] [hx : HasRows L W x f sz [x0]] [h1 : FOne f] [hf : FL f sz] :
    Wk (AOps ⟨h0, X, W⟩ L P pol call fn nt R ((i, ⟨d, .call ⟨.builtin .append, args.toArray, [t, u].toArray⟩, ty, pos, after, none⟩) :: rest) ds seen T Q)
      ((!(Nat.beq sz 0) && !(Nat.beq bytes 0) && Nat.beq (acells z).length sz) = true ∧ 1 * bytes ≤ 140737488355328 ∧ ∀ v, AOps ⟨h0, X, W⟩ (.arr f sz v [x0] :: L) P pol call fn nt R rest ((i, d) :: ds) seen (tput? nt T d v) Q) :=
  ⟨fun g => aops_appnil ha g.1 (by simpa using g.2.1) (fun v => .arr f sz v [x0]) (fun v h1 a b c => ⟨a, b, c (by simp)⟩) (fun v => rfl) g.2.2⟩
instance (priority := 1050) wk_appnil' {m : List α} {args : List Operand} {t u e e' : TypeId} {bytes : Nat} {z s x : AV} [ht : TSl P t e] [hu : TSl P u e'] [hs : TSz P e sz] [hb' : TBytes P e bytes] [hz' : TZero P e z]
    [ha : Evs T args [s, x]] [n0 : Nil0 s] [hx : HasRows L W x f sz m] [h1 : FOne f] [hf : FL f sz] :
    Wk (AOps ⟨h0, X, W⟩ L P pol call fn nt R ((i, ⟨d, .call ⟨.builtin .append, args.toArray, [t, u].toArray⟩, ty, pos, after, none⟩) :: rest) ds seen T Q)
      ((!(Nat.beq sz 0) && !(Nat.beq bytes 0) && Nat.beq (acells z).length sz) = true ∧ m.length * bytes ≤ 140737488355328 ∧ ∀ v, AOps ⟨h0, X, W⟩ (.rows f sz v m :: L) P pol call fn nt R rest ((i, d) :: ds) seen (tput? nt T d v) Q) :=
  ⟨fun g => aops_appnil ha g.1 g.2.1 (fun v => .rows f sz v m) (fun v h1 a b c => ⟨a, b⟩) (fun v => rfl) g.2.2⟩
/-- nothing is added to nothing -/
instance (priority := 1200) wk_append0 {args : List Operand} {t u e e' : TypeId} {bytes : Nat} {z s0 x : AV} [ht : TSl P t e] [hu : TSl P u e'] [hs : TSz P e sz] [hb' : TBytes P e bytes] [hz' : TZero P e z]
    [ha : Evs T args [s0, x]] [n0 : Nil0 s0] [hx : HasRows L W x f sz []] :
    Wk (AOps ⟨h0, X, W⟩ L P pol call fn nt R ((i, ⟨d, .call ⟨.builtin .append, args.toArray, [t, u].toArray⟩, ty, pos, after, none⟩) :: rest) ds seen T Q)
      ((!(Nat.beq sz 0) && !(Nat.beq bytes 0) && Nat.beq (acells z).length sz) = true ∧ AOps ⟨h0, X, W⟩ L P pol call fn nt R rest ((i, d) :: ds) seen (tput? nt T d s0) Q) :=
  ⟨fun g h s es => by
    obtain ⟨hz, g⟩ := g
    refine O_do rfl rfl ?_
    simp only [Bool.and_eq_true] at hz
    have hae := ha.eq
    simp only [aop, hae, abuiltin, aappendOp, elem_of ht.un, hs.sz, hb'.bytes, hz'.zero, hu.un, pure_bind']
    rw [hz.1.1, hz.1.2, Bool.and_self, guard_true, pure_bind', pure_bind', hz.2, guard_true, pure_bind']
    have gx : SlV h sz x 0 [] := hx.has h s.all
    have hsrc : (sourceCells P e sz x).run h = some ((0, []), h) := by
      have hc : ∀ {n : Nat} {cs : List AV}, SlV h sz x n cs → sourceCells P e sz x = sliceCells sz x := fun g => by cases g <;> rfl
      rw [hc gx]
      exact gx.cells_run
    refine Runs.bind (Runs.of hsrc ?_)
    have : aappend e sz bytes s0 0 [] = pure s0 := by rcases n0.eq with rfl | rfl | rfl <;> rfl
    rw [this]
    exact Runs.pure ⟨Keep.undis (Keep.refl h), g h s es.step⟩⟩
end
/-- a slice that may be written over, if it holds something -/
def Ck.gw {α : Type} (f : α → List AV) (sz : Nat) (v : AV) (l : List α) : Ck where
  ids := vids v
  p h := Rows f sz h v l ∧ growB v = true ∧ (l ≠ [] → vids v ≠ [])
  loc h h' k r := ⟨r.1.loc k, r.2⟩
  dom h r := r.1.ids.2
section
variable {α : Type} {f : α → List AV} {sz : Nat} {v : AV} {l : List α} {L W : List Ck}
instance tkw_gw : Tkw (.arr f sz v l :: L) (.gw f sz v l) L := tkw_imp rfl fun h r => ⟨r.1, r.2.1, fun _ => r.2.2⟩
instance tkw_gw2 : Tkw (.gw f sz v l :: L) (.ro f sz v l) L := tkw_imp rfl fun h r => r.1
instance hasrows_gw : HasRows (.gw f sz v l :: L) W v f sz l := ⟨fun h k => (k _ List.mem_cons_self).1⟩
class NeL (l : List α) : Prop where ne : l ≠ []
theorem St.nilg {B : Bs} {h : Hp} {v : AV} [n0 : Nil0 v] (s : St B L h) (f : α → List AV) (sz : Nat) : St B (.gw f sz v [] :: L) h := by
  have := s.nil (v := v) f sz
  have q : Tkw (.rows f sz v [] :: L) (.gw f sz v []) L := tkw_imp rfl fun h r => ⟨r.1, r.2, fun c => absurd rfl c⟩
  exact q.st B h [] this
end
section
variable {h0 : Hp} {X : List Nat} {W L : List Ck} {P : Program} {pol : Pol} {call : Calling} {fn nt fuel : Nat} {R : Rg} {rest : List (Nat × Oper)} {ds : List (Nat × Option Tmp)} {seen : Seen} {T : Temps} {Q : Temps → Hp → Prop} {i : Nat} {d : Option Tmp} {ty : TypeId} {pos : String} {after : Array Edge}
variable {α : Type} {f : α → List AV} {sz : Nat}
theorem aco_gw {B : Bs} {Q : Exit × Temps → Hp → Prop} {c : Code} (f : α → List AV) (sz : Nat) (v : AV) [n0 : Nil0 v] (g : ACo B (.gw f sz v [] :: L) P pol call fn nt fuel c T Q) : ACo B L P pol call fn nt fuel c T Q := fun h s => g h (s.nilg f sz)
instance (priority := 1150) wk_appnilA {m : List α} {args : List Operand} {t u e e' : TypeId} {bytes : Nat} {z s x : AV} [ht : TSl P t e] [hu : TSl P u e'] [hs : TSz P e sz] [hb' : TBytes P e bytes] [hz' : TZero P e z]
    [ha : Evs T args [s, x]] [n0 : Nil0 s] [hx : HasRows L W x f sz m] [h1 : FOne f] [hf : FL f sz] [ne : NeL m] :
    Wk (AOps ⟨h0, X, W⟩ L P pol call fn nt R ((i, ⟨d, .call ⟨.builtin .append, args.toArray, [t, u].toArray⟩, ty, pos, after, none⟩) :: rest) ds seen T Q)
      ((!(Nat.beq sz 0) && !(Nat.beq bytes 0) && Nat.beq (acells z).length sz) = true ∧ m.length * bytes ≤ 140737488355328 ∧ ∀ v, AOps ⟨h0, X, W⟩ (.arr f sz v m :: L) P pol call fn nt R rest ((i, d) :: ds) seen (tput? nt T d v) Q) :=
  ⟨fun g => aops_appnil ha g.1 g.2.1 (fun v => .arr f sz v m) (fun v h1 a b c => ⟨a, b, c ne.ne⟩) (fun v => rfl) g.2.2⟩
/-! against nil -/
instance wk_eqnilN {t t' e : TypeId} {x y : Operand} [hu : TSl P t e] [hx : Ev T x (.sl .nil 0 [])] [hy : Ev T y (.sl .nil 0 [])] :
    Wk (AOps ⟨h0, X, W⟩ L P pol call fn nt R ((i, ⟨d, .binOp .eql t x y t', ty, pos, after, none⟩) :: rest) ds seen T Q) (AOps ⟨h0, X, W⟩ L P pol call fn nt R rest ((i, d) :: ds) ((i, []) :: seen) (tput? nt T d (.bool true)) Q) :=
  ⟨fun g h s e' => O_eqNil hx.eq hy.eq (.inl ⟨rfl, rfl⟩) (.inr ⟨_, _, _, rfl, .inl ⟨rfl, rfl⟩⟩) (g h s e'.step)⟩
instance wk_eqnilF {t t' e : TypeId} {x y : Operand} {n : Nat} {c : List AV} [hu : TSl P t e] [hx : Ev T x (.sl .full n c)] [hy : Ev T y (.sl .nil 0 [])] :
    Wk (AOps ⟨h0, X, W⟩ L P pol call fn nt R ((i, ⟨d, .binOp .eql t x y t', ty, pos, after, none⟩) :: rest) ds seen T Q) (AOps ⟨h0, X, W⟩ L P pol call fn nt R rest ((i, d) :: ds) ((i, []) :: seen) (tput? nt T d (.bool false)) Q) :=
  ⟨fun g h s e' => O_eqNil hx.eq hy.eq (.inl ⟨rfl, rfl⟩) (.inr ⟨_, _, _, rfl, .inr ⟨rfl, rfl⟩⟩) (g h s e'.step)⟩
theorem aops_eqnil {t t' e : TypeId} {x y : Operand} {v : AV} {l : List α} [hu : TSl P t e] (hx : Ev T x v) [hy : Ev T y (.sl .nil 0 [])] (hr : ∀ h, (∀ c ∈ L ++ W, c.p h) → Rows f sz h v l) (hv : vids v ≠ [])
    (g : AOps ⟨h0, X, W⟩ L P pol call fn nt R rest ((i, d) :: ds) ((i, (vids v).map fun id => (false, id)) :: seen) (tput? nt T d (.bool false)) Q) : AOps ⟨h0, X, W⟩ L P pol call fn nt R ((i, ⟨d, .binOp .eql t x y t', ty, pos, after, none⟩) :: rest) ds seen T Q := fun h s e' => by
  have g := g h s e'.step
  have r : SlV h sz v l.length (flat f l) := hr h s.all
  have hxe := hx.eq
  generalize l.length = N at *
  generalize flat f l = F at *
  cases r with
  | imm => exact absurd rfl hv
  | own id ver off n row fix r0 e0 => exact O_eqNil hxe hy.eq (.inl ⟨rfl, rfl⟩) (.inl ⟨_, _, _, _, _, _, _, rfl, r0, rfl⟩) g
instance (priority := 1100) wk_eqnilS {t t' e : TypeId} {x y : Operand} {V : AV} {n : Nat} {l m : List α} [hu : TSl P t e] [hx : Ev T x (subV V 0 n sz)] [hy : Ev T y (.sl .nil 0 [])] [hr : HasArrW L W V f sz l] [hs : HasRows L W (subV V 0 n sz) f sz m] :
    Wk (AOps ⟨h0, X, W⟩ L P pol call fn nt R ((i, ⟨d, .binOp .eql t x y t', ty, pos, after, none⟩) :: rest) ds seen T Q) (AOps ⟨h0, X, W⟩ L P pol call fn nt R rest ((i, d) :: ds) ((i, (vids V).map fun id => (false, id)) :: seen) (tput? nt T d (.bool false)) Q) :=
  ⟨fun g h s e => by
    have hc := s.all _ hr.mem
    exact aops_eqnil hx (fun h k => hs.has h k) (by rw [subV_avIds]; exact hc.2.2) (by rw [subV_avIds]; exact g) h s e⟩
instance wk_eqnilA {t t' e : TypeId} {x y : Operand} {v : AV} {l : List α} [hu : TSl P t e] [hx : Ev T x v] [hy : Ev T y (.sl .nil 0 [])] [hr : HasArrW L W v f sz l] :
    Wk (AOps ⟨h0, X, W⟩ L P pol call fn nt R ((i, ⟨d, .binOp .eql t x y t', ty, pos, after, none⟩) :: rest) ds seen T Q) (AOps ⟨h0, X, W⟩ L P pol call fn nt R rest ((i, d) :: ds) ((i, (vids v).map fun id => (false, id)) :: seen) (tput? nt T d (.bool false)) Q) :=
  ⟨fun g h s e => by
    have hc := s.all _ hr.mem
    exact aops_eqnil hx (fun h k => hr.rows.has h k) hc.2.2 g h s e⟩
end
end Go.Am
namespace Go.Am
open Go AM
set_option linter.unusedVariables false
set_option synthInstance.maxHeartbeats 200000
theorem afill_ok {sz len : Nat} : ∀ {parts : List (Nat × AV)} {cells c' : List AV}, afillL ((List.range len).map fun i => (i * sz, sz)) cells parts = some c' → afill (fun i => some (i * sz, sz)) cells parts = pure c' ∧ c'.length = cells.length := by
  intro parts
  induction parts with
  | nil => intro cells c' e; cases e; exact ⟨rfl, rfl⟩
  | cons p r ih =>
    obtain ⟨j, v⟩ := p
    intro cells c' e
    simp only [afillL] at e
    cases hf : ((List.range len).map fun i => (i * sz, sz))[j]? with
    | none => rw [hf] at e; cases e
    | some p =>
      obtain ⟨off, size⟩ := p
      rw [hf] at e
      obtain ⟨hj, hq⟩ := List.getElem?_eq_some_iff.1 hf
      simp at hq
      obtain ⟨rfl, rfl⟩ := hq
      dsimp only at e
      cases hc : (Nat.beq (acells v).length sz && Nat.ble (j * sz + sz) cells.length && known v) with
      | false => rw [hc] at e; cases e
      | true =>
        rw [hc] at e
        simp only [afill]
        obtain ⟨h1, h2⟩ := ih e
        rw [hc, guard_true, pure_bind', h1]
        simp only [Bool.and_eq_true] at hc
        have h3 : (acells v).length = sz := by simpa using hc.1.1
        have h4 : j * sz + sz ≤ cells.length := by simpa using hc.1.2
        exact ⟨rfl, by rw [h2, splice_length (by omega)]⟩
section
variable {h0 : Hp} {X : List Nat} {W L : List Ck} {P : Program} {pol : Pol} {call : Calling} {fn nt : Nat} {R : Rg} {rest : List (Nat × Oper)} {ds : List (Nat × Option Tmp)} {seen : Seen} {T : Temps} {Q : Temps → Hp → Prop} {i : Nat} {d : Option Tmp} {ty : TypeId} {pos : String} {after : Array Edge}
variable {α : Type} {f : α → List AV} {sz : Nat}
theorem aops_buildArr {t e : TypeId} {len n : Nat} {parts : List (Nat × Operand)} {l : List (Nat × AV)} {xs : List α} {z : AV} [ht : TSl P t e] [hs : TSz P e sz] [hz' : TZero P e z] [hl : Evp T parts l] [hb : BL L W 0 l f xs] [fl : FL f sz] [hn : LenL xs n] [he : Same (Nat.beq n (len + 1)) true]
    (h1 : (Nat.ble ((len + 1) * sz) 16777216 && Nat.beq (acells z).length sz) = true) (h2 : pol.lit fn (d.getD 0) = true)
    (g : ∀ id, AOps ⟨h0, X, W⟩ (.arr f sz (.own id 0 0 (len + 1)) xs :: L) P pol call fn nt R rest ((i, d) :: ds) seen (tput? nt T d (.own id 0 0 (len + 1))) Q) :
    AOps ⟨h0, X, W⟩ L P pol call fn nt R ((i, ⟨d, .buildSlice t (len + 1) parts.toArray, ty, pos, after, none⟩) :: rest) ds seen T Q := fun h s e' => O_wf fun w => by
  simp only [Bool.and_eq_true] at h1
  have hzl : (acells z).length = sz := by simpa using h1.2
  have hlen : xs.length = len + 1 := by rw [hn.eq]; exact Nat.eq_of_beq_eq_true he.eq
  have hv := fill_all (n := len + 1) fl.len xs l 0 [] (repeatCells (acells z) (len + 1)) (hb.p h s.all) (by simp) (by rw [repeat_length, hzl, hlen]) (by omega)
  simp only [List.nil_append] at hv
  obtain ⟨k1, k2⟩ := afill_ok hv
  have hfl : (flat f xs).length = (len + 1) * sz := by rw [flat_length fl.len, hlen]
  have hab : abuildSlice P t (len + 1) l = pure (sz, flat f xs) := by
    simp only [abuildSlice, elem_of ht.un]
    rw [pure_bind', hs.sz, pure_bind', h1.1, guard_true, pure_bind']
    simp only [zeroUnless, hz'.zero]
    rw [pure_bind', h1.2, Bool.or_true, guard_true, pure_bind', k1, pure_bind']
  refine O_make rfl rfl ?_
  simp only [aop, hl.eq, hab]
  rw [pure_bind']
  dsimp only
  rw [h2]
  refine Runs.bind (Runs.halloc (Runs.pure (g h.next _ ?_ e'.step)))
  have r : Row ⟨h.obj.set h.next (some ⟨0, 0, .row sz (flat f xs) true, none⟩), h.next + 1⟩ h.next 0 sz (flat f xs) true := ⟨_, _, get_set_eq _ _ _ _⟩
  have hsl : Rows f sz ⟨h.obj.set h.next (some ⟨0, 0, .row sz (flat f xs) true, none⟩), h.next + 1⟩ (.own h.next 0 0 (len + 1)) xs := by
    have := SlV.own (sz := sz) h.next 0 0 (len + 1) _ true r (by rw [hfl]; omega)
    rw [List.drop_zero, List.take_of_length_le (by omega)] at this
    show SlV _ sz _ xs.length _
    rw [hlen]; exact this
  exact s.new w (Keep.alloc w _) (N := [.arr f sz (.own h.next 0 0 (len + 1)) xs]) (fun c hc => by rcases List.mem_singleton.1 hc with rfl; exact ⟨hsl, rfl, by simp [vids]⟩) (by simp [cids, Ck.arr, vids]) (by simp [cids, Ck.arr, vids])
class LitT (pol : Pol) (fn : Nat) (d : Option Tmp) : Prop where eq : pol.lit fn (d.getD 0) = true
instance (priority := 1300) wk_buildArr {t e : TypeId} {len n : Nat} {parts : List (Nat × Operand)} {l : List (Nat × AV)} {xs : List α} {z : AV} [lt : LitT pol fn d] [ht : TSl P t e] [hs : TSz P e sz] [hz' : TZero P e z] [hl : Evp T parts l] [hb : BL L W 0 l f xs] [fl : FL f sz] [hn : LenL xs n] [he : Same (Nat.beq n (len + 1)) true] :
    Wk (AOps ⟨h0, X, W⟩ L P pol call fn nt R ((i, ⟨d, .buildSlice t (len + 1) parts.toArray, ty, pos, after, none⟩) :: rest) ds seen T Q)
      ((Nat.ble ((len + 1) * sz) 16777216 && Nat.beq (acells z).length sz) = true ∧ ∀ id, AOps ⟨h0, X, W⟩ (.arr f sz (.own id 0 0 (len + 1)) xs :: L) P pol call fn nt R rest ((i, d) :: ds) seen (tput? nt T d (.own id 0 0 (len + 1))) Q) :=
  ⟨fun g => aops_buildArr g.1 lt.eq g.2⟩
end
end Go.Am
namespace Go.Am
open Go Go.Proofs AM
set_option maxRecDepth 10000
set_option synthInstance.maxHeartbeats 400000
set_option synthInstance.maxSize 4000
set_option linter.unusedVariables false
variable {pol : Pol} {sums : Sums}
structure S19 (pol : Pol) (sums : Sums) : Prop where
  lit : ∀ f d, pol.lit f d = false
  rest : ∀ f, f ∈ [3, 5, 6, 7, 8, 9, 10, 11, 17, 18, 19, 20, 21, 25] → sums f = none
abbrev Str := List UInt8
structure Trm where
  kind : Int
  a : Str
  b : Str
  c : Str
  deriving DecidableEq
structure Slt where
  var : Str
  term : Trm
  deriving DecidableEq
structure Ptn where
  s : Slt
  p : Slt
  o : Slt
  deriving DecidableEq
abbrev trmC (t : Trm) : List AV := [.int .i64 t.kind, .str t.a, .str t.b, .str t.c]
abbrev sltC (x : Slt) : List AV := [.str x.var, .int .i64 x.term.kind, .str x.term.a, .str x.term.b, .str x.term.c]
abbrev ptnC (p : Ptn) : List AV := [.str p.s.var, .int .i64 p.s.term.kind, .str p.s.term.a, .str p.s.term.b, .str p.s.term.c, .str p.p.var, .int .i64 p.p.term.kind, .str p.p.term.a, .str p.p.term.b, .str p.p.term.c, .str p.o.var, .int .i64 p.o.term.kind, .str p.o.term.a, .str p.o.term.b, .str p.o.term.c]
structure Lin where
  term : Trm
  tri : Int
  sub : Int
  obj : Int
abbrev linC (x : Lin) : List AV := [.int .i64 x.term.kind, .str x.term.a, .str x.term.b, .str x.term.c, .int .i64 x.tri, .int .i64 x.sub, .int .i64 x.obj]
structure Sts where
  tri : Int
  sub : Int
  pre : Int
  obj : Int
  lines : List Lin
abbrev stsC (x : Sts) (lv : AV) : List AV := [.int .i64 x.tri, .int .i64 x.sub, .int .i64 x.pre, .int .i64 x.obj, lv]
def noTrm : Trm := ⟨0, [], [], []⟩
def noLin : Lin := ⟨noTrm, 0, 0, 0⟩
def ofZ (x : Sts) (p : Slt) : Lin := if p.var ≠ [] then ⟨noTrm, x.tri, x.sub, x.obj⟩ else (x.lines.find? (fun l => decide (l.term = p.term))).getD noLin
def partZ (a b : Int) : Int := if a < 1 then 0 else IntKind.wrap .i64 (IntKind.wrap .i64 ((IntKind.wrap .i64 (a - 1)).tdiv (if 1 > b then 1 else b)) + 1)
def toldZ (known : List Str) (s : Slt) : Bool := s.var == [] || decide (s.var ∈ known)
def guessZ (x : Sts) (p : Ptn) (known : List Str) : Int :=
  let l := ofZ x p.p
  let n := l.tri
  let n := if toldZ known p.s then partZ n l.sub else n
  let n := if toldZ known p.o then partZ n l.obj else n
  if p.p.var ≠ [] ∧ toldZ known p.p = true then partZ n x.pre else n
theorem trm_eqIn (a b : Trm) : aeqIn Tryz.prog 9 27 (.agg (trmC a)) (.agg (trmC b)) = some (decide (a = b)) := by
  obtain ⟨k, x, y, z⟩ := a
  obtain ⟨k', x', y', z'⟩ := b
  have e : aeqIn Tryz.prog 9 27 (.agg (trmC ⟨k, x, y, z⟩)) (.agg (trmC ⟨k', x', y', z'⟩)) = (match k == k' with
    | true => match x == x' with
      | true => match y == y' with
        | true => match z == z' with
          | true => some true
          | false => some false
        | false => some false
      | false => some false
    | false => some false) := by kernel_rfl
  rw [e]
  by_cases h1 : k = k'
  · by_cases h2 : x = x'
    · by_cases h3 : y = y'
      · by_cases h4 : z = z'
        · simp [h1, h2, h3, h4]
        · simp [h1, h2, h3, h4, show (z == z') = false by simpa using h4]
      · simp [h1, h2, h3, show (y == y') = false by simpa using h3]
    · simp [h1, h2, show (x == x') = false by simpa using h2]
  · simp [h1, show (k == k') = false by simpa using h1]
theorem abin_struct {P : Program} {t : TypeId} {X Y : List AV} {b : Bool} (hu : (match P.underlying t with | some (.struct _) => true | _ => false) = true) (hg : P.eqGuardType P.depth t = false) (he : aeqIn P 9 t (.agg X) (.agg Y) = some b) :
    abin P .eql t (.agg X) (.agg Y) = pure (.bool b) ∧ abin P .neq t (.agg X) (.agg Y) = pure (.bool !b) := by
  cases hq : P.underlying t with
  | none => rw [hq] at hu; cases hu
  | some d =>
    rw [hq] at hu
    cases d <;> first | cases hu | skip
    have : aequal P t (.agg X) (.agg Y) = pure b := by
      unfold aequal
      simp only [hq]
      rw [hg, he]
      rfl
    constructor
    · simp only [abin, this]; rfl
    · simp only [abin, this]; rfl
instance : SEq Tryz.prog 27 trmC where
  eql a b := (abin_struct (by kernel_rfl) (by kernel_rfl) (trm_eqIn a b)).1
  neq a b := (abin_struct (by kernel_rfl) (by kernel_rfl) (trm_eqIn a b)).2
abbrev strC (s : Str) : List AV := [.str s]
instance : FL strC 1 := ⟨fun _ => rfl⟩
instance : FOne strC := ⟨fun _ => rfl⟩
instance {s : Str} : Enc [.str s] strC s := ⟨rfl⟩
instance : FL linC 7 := ⟨fun _ => rfl⟩
instance : FOne linC := ⟨fun _ => rfl⟩
instance enc_lin {x : Lin} : Enc (linC x) linC x := ⟨rfl⟩
instance enc_trm {t : Trm} : Enc (trmC t) trmC t := ⟨rfl⟩
/-! ### numbers -/
def I64 (z : Int) : Prop := -9223372036854775808 ≤ z ∧ z < 9223372036854775808
theorem wrap_id {z : Int} (h : I64 z) : IntKind.wrap .i64 z = z := wrap64 rfl h
theorem tdiv_step {a b : Int} (ha : 1 ≤ a) (hb : 1 ≤ b) : (a.tmod b = 0 → a.tdiv b = (a - 1).tdiv b + 1) ∧ (a.tmod b ≠ 0 → a.tdiv b = (a - 1).tdiv b) := by
  rw [Int.tmod_eq_emod_of_nonneg (by omega), Int.tdiv_eq_ediv_of_nonneg (by omega), Int.tdiv_eq_ediv_of_nonneg (by omega)]
  have h1 := Int.emod_add_mul_ediv a b
  have h2 := Int.emod_nonneg a (show b ≠ 0 by omega)
  have h3 := Int.emod_lt_of_pos a (show 0 < b by omega)
  constructor
  · intro h
    have := (Int.ediv_emod_unique (a := a - 1) (b := b) (r := b - 1) (q := a / b - 1) (by omega)).2 ⟨by rw [Int.mul_sub]; omega, by omega, by omega⟩
    omega
  · intro h
    have := (Int.ediv_emod_unique (a := a - 1) (b := b) (r := a % b - 1) (q := a / b) (by omega)).2 ⟨by omega, by omega, by omega⟩
    omega
theorem tdiv_le {a b : Int} (ha : 0 ≤ a) (hb : 1 ≤ b) : 0 ≤ a.tdiv b ∧ a.tdiv b ≤ a := by
  rw [Int.tdiv_eq_ediv_of_nonneg ha]
  exact ⟨Int.ediv_nonneg ha (by omega), Int.ediv_le_self _ ha⟩
theorem partZ_eq {a : Int} (b : Int) (h : I64 a) : partZ a b = if a < 1 then 0 else (a - 1).tdiv (if 1 > b then 1 else b) + 1 := by
  unfold partZ
  split
  · rfl
  · unfold I64 at h
    have hb : 1 ≤ (if 1 > b then 1 else b) := by split <;> omega
    generalize (if 1 > b then (1 : Int) else b) = c at *
    rw [wrap_id (z := a - 1) ⟨by omega, by omega⟩]
    have := tdiv_le (a := a - 1) (by omega) hb
    rw [wrap_id (z := (a - 1).tdiv c) ⟨by omega, by omega⟩, wrap_id ⟨by omega, by omega⟩]
theorem partZ_range {a : Int} (b : Int) (h : I64 a) : I64 (partZ a b) := by
  rw [partZ_eq b h]
  split
  · exact ⟨by omega, by omega⟩
  · unfold I64 at *
    have hb : 1 ≤ (if 1 > b then 1 else b) := by split <;> omega
    have := tdiv_le (a := a - 1) (by omega) hb
    omega
/-- numbers that there are -/
def StsOk (x : Sts) : Prop := I64 x.tri ∧ ∀ l ∈ x.lines, I64 l.tri
theorem ofZ_ok {x : Sts} (h : StsOk x) (p : Slt) : I64 (ofZ x p).tri := by
  unfold ofZ
  split
  · exact h.1
  · cases hf : x.lines.find? (fun l => decide (l.term = p.term)) with
    | none => exact ⟨by decide, by decide⟩
    | some l => exact h.2 l (List.mem_of_find?_eq_some hf)
section
attribute [local irreducible] ACo AK AT AOps ARs Fin Cal KLp KFun
/-! ### the document's -/
theorem partR_w (S : S19 pol sums) {n : Nat} {W : List Ck} {a b : Int} (hn : 1 ≤ n) (ha : I64 a) : Cal [] W (acall Tryz.prog pol sums n (.func (.func 10) [] []) [.int .i64 a, .int .i64 b]) (fun r N => r = .int .i64 (partZ a b) ∧ N = []) := by
  rw [partZ_eq b ha]
  unfold I64 at ha
  have hb : 1 ≤ (if 1 > b then 1 else b) := by split <;> omega
  refine Cal_fn (f := 10) (nt := 22) (rs := [.tmp 4]) (by omega) (by first | assumption | exact S.rest _ (by decide)) Tryz.func10 rfl rfl rfl rfl fun m h0 T hm aT => ?_
  by_cases c1 : a < 1
  · have : Is (decide (a < 1)) true := ⟨by simpa using c1⟩
    (repeat first|refine Wk.go ?_|refine andP ?_|intro _)
    exact fin ⟨by rw [if_pos c1], rfl⟩
  have : Is (decide (a < 1)) false := ⟨by simp; omega⟩
  rw [if_neg c1]
  generalize hc : (if 1 > b then (1 : Int) else b) = c at *
  have hs := tdiv_step (a := a) (b := c) (by omega) hb
  have hl := tdiv_le (a := a) (b := c) (by omega) hb
  have hw : IntKind.wrap .i64 (a.tdiv c) = a.tdiv c := wrap_id ⟨by omega, by omega⟩
  by_cases c2 : a.tmod c = 0
  · have : Is (a.tmod (if 1 > b then (1 : Int) else b) == 0) true := ⟨by rw [hc]; simpa using c2⟩
    (repeat first|refine Wk.go ?_|refine andP ?_|intro _)
    rw [hc]
    (repeat first|refine Wk.go ?_|refine andP ?_|intro _)
    exact fin ⟨by rw [hw, hs.1 c2], rfl⟩
  · have : Is (a.tmod (if 1 > b then (1 : Int) else b) == 0) false := ⟨by rw [hc]; simpa using c2⟩
    have hr : a.tdiv c < a := by
      rw [hs.2 c2]
      have := tdiv_le (a := a - 1) (b := c) (by omega) hb
      omega
    (repeat first|refine Wk.go ?_|refine andP ?_|intro _)
    rw [hc, hw]
    (repeat first|refine Wk.go ?_|refine andP ?_|intro _)
    exact fin ⟨by rw [hs.2 c2], rfl⟩
theorem toldR_w (S : S19 pol sums) {n : Nat} {W : List Ck} {v : AV} {l : List Str} [HasRows [] W v strC 1 l] (s : Slt) (hn : l.length + 1 < n) (hb : l.length < 2 ^ 60) :
    Cal [] W (acall Tryz.prog pol sums n (.func (.func 21) [] []) [.agg (sltC s), v]) (fun r N => r = .bool (toldZ l s) ∧ N = []) := by
  refine Cal_fn (f := 21) (nt := 22) (rs := [.tmp 4]) (by omega) (by first | assumption | exact S.rest _ (by decide)) Tryz.func21 rfl rfl rfl rfl fun m h0 T hm aT => ?_
  by_cases c0 : s.var = []
  · have : Is (s.var == []) true := ⟨by simp [c0]⟩
    (repeat first|refine Wk.go ?_|refine andP ?_|intro _)
    exact fin ⟨by simp [toldZ, c0], rfl⟩
  have : Is (s.var == []) false := ⟨by simpa using c0⟩
  (repeat first|refine Wk.go ?_|refine andP ?_|intro _)
  rename_i i2
  refine A_loopR (fun k T => ∃ i, k = l.length - i ∧ i ≤ l.length ∧ Lk T 5 (.int .i64 (i : Nat)) ∧ ∀ j, j < i → l[j]? ≠ some s.var) [1, 2] l.length (by omega) ⟨0, rfl, Nat.zero_le _, lkz (by rfl), fun j hj => by omega⟩ (by rfl) ?_
  rintro k T1 ⟨i, rfl, hi, h5, hall⟩ hA
  (repeat first|refine Wk.go ?_|refine andP ?_|intro _)
  refine ⟨fun c => ?_, fun c => ?_⟩
  · have c : i < l.length := by simpa using c
    have : ElAt l i l[i] := ⟨List.getElem?_eq_getElem c⟩
    (repeat first|refine Wk.go ?_|refine andP ?_|intro _)
    refine A_drawn [0, 1, 2, 3, 4, 5, 6] [0, 0, 3, 7, 0, 16, 63] (by kernel_rfl) (by kernel_rfl) (by rfl) ?_
    by_cases e : l[i] = s.var
    · have : Is (l[i] == s.var) true := ⟨by simpa using e⟩
      (repeat first|refine Wk.go ?_|refine andP ?_|intro _)
      exact fin ⟨by simp [toldZ, ← e], rfl⟩
    · have : Is (l[i] == s.var) false := ⟨by simpa using e⟩
      (repeat first|refine Wk.go ?_|refine andP ?_|intro _)
      refine lend (l.length - (i + 1)) _ (by omega) ⟨rfl, i + 1, rfl, c, inferInstance, fun j hj => ?_⟩
      by_cases q : j = i
      · subst q; simp [c, e]
      · exact hall j (by omega)
  · have c : ¬ i < l.length := by simpa using c
    (repeat first|refine Wk.go ?_|refine andP ?_|intro _)
    refine fin ⟨?_, rfl⟩
    have : s.var ∉ l := fun q => by
      obtain ⟨j, hj, e⟩ := List.getElem_of_mem q
      exact hall j (by omega) (by rw [List.getElem?_eq_getElem hj, e])
    simp [toldZ, c0, this]
/-! ### the program's -/
theorem part_w (S : S19 pol sums) {n : Nat} {W : List Ck} {a b : Int} (hn : 1 ≤ n) (ha : I64 a) : Cal [] W (acall Tryz.prog pol sums n (.func (.func 9) [] []) [.int .i64 a, .int .i64 b]) (fun r N => r = .int .i64 (partZ a b) ∧ N = []) := by
  rw [partZ_eq b ha]
  unfold I64 at ha
  have hb : 1 ≤ (if 1 > b then 1 else b) := by split <;> omega
  refine Cal_fn (f := 9) (nt := 14) (rs := [.tmp 4]) (by omega) (by first | assumption | exact S.rest _ (by decide)) Tryz.func9 rfl rfl rfl rfl fun m h0 T hm aT => ?_
  by_cases c1 : a < 1
  · have : Is (decide (a < 1)) true := ⟨by simpa using c1⟩
    (repeat first|refine Wk.go ?_|refine andP ?_|intro _)
    exact fin ⟨by rw [if_pos c1], rfl⟩
  have : Is (decide (a < 1)) false := ⟨by simp; omega⟩
  rw [if_neg c1]
  generalize hc : (if 1 > b then (1 : Int) else b) = c at *
  have hl := tdiv_le (a := a - 1) (b := c) (by omega) hb
  have hw : IntKind.wrap .i64 ((a - 1).tdiv c) = (a - 1).tdiv c := wrap_id ⟨by omega, by omega⟩
  (repeat first|refine Wk.go ?_|refine andP ?_|intro _)
  rw [hc, hw]
  (repeat first|refine Wk.go ?_|refine andP ?_|intro _)
  exact fin ⟨rfl, rfl⟩
theorem index_w (S : S19 pol sums) {n : Nat} {W : List Ck} {v : AV} {l : List Str} (s : Str) [HasRows [] W v strC 1 l] (hn : l.length + 1 < n) (hb : l.length < 2 ^ 60) :
    Cal [] W (acall Tryz.prog pol sums n (.func (.func 25) [] []) [v, .str s]) (fun r N => ∃ i : Int, r = .int .i64 i ∧ decide (i ≥ 0) = decide (s ∈ l) ∧ N = []) := by
  refine Cal_fn (f := 25) (nt := 19) (rs := [.tmp 4]) (by omega) (by first | assumption | exact S.rest _ (by decide)) Tryz.func25 rfl rfl rfl rfl fun m h0 T hm aT => ?_
  (repeat first|refine Wk.go ?_|refine andP ?_|intro _)
  refine A_loopR (fun k T => ∃ i, k = l.length - i ∧ i ≤ l.length ∧ Lk T 8 (.int .i64 (i : Nat)) ∧ ∀ j, j < i → l[j]? ≠ some s) [0, 1, 7] l.length (by omega) ⟨0, rfl, Nat.zero_le _, lkz (by rfl), fun j hj => by omega⟩ (by rfl) ?_
  rintro k T1 ⟨i, rfl, hi, h5, hall⟩ hA
  (repeat first|refine Wk.go ?_|refine andP ?_|intro _)
  refine ⟨fun c => ?_, fun c => ?_⟩
  · have c : i < l.length := by simpa using c
    have : ElAt l i l[i] := ⟨List.getElem?_eq_getElem c⟩
    by_cases e : l[i] = s
    · have : Is (s == l[i]) true := ⟨by simp [e]⟩
      (repeat first|refine Wk.go ?_|refine andP ?_|intro _)
      exact fin ⟨(i : Int), rfl, by simp [← e], rfl⟩
    · have : Is (s == l[i]) false := ⟨by simp; exact fun q => e q.symm⟩
      (repeat first|refine Wk.go ?_|refine andP ?_|intro _)
      refine lend (l.length - (i + 1)) _ (by omega) ⟨rfl, i + 1, rfl, c, inferInstance, fun j hj => ?_⟩
      by_cases q : j = i
      · subst q; simp [c, e]
      · exact hall j (by omega)
  · have c : ¬ i < l.length := by simpa using c
    (repeat first|refine Wk.go ?_|refine andP ?_|intro _)
    refine fin ⟨-1, rfl, ?_, rfl⟩
    have : s ∉ l := fun q => by
      obtain ⟨j, hj, e⟩ := List.getElem_of_mem q
      exact hall j (by omega) (by rw [List.getElem?_eq_getElem hj, e])
    simp [this]
theorem contains_w (S : S19 pol sums) {n : Nat} {W : List Ck} {v : AV} {l : List Str} (s : Str) [HasRows [] W v strC 1 l] (hn : l.length + 2 < n) (hb : l.length < 2 ^ 60) :
    Cal [] W (acall Tryz.prog pol sums n (.func (.func 19) [] []) [v, .str s]) (fun r N => r = .bool (decide (s ∈ l)) ∧ N = []) := by
  refine Cal_fn (f := 19) (nt := 9) (rs := [.tmp 4]) (by omega) (by first | assumption | exact S.rest _ (by decide)) Tryz.func19 rfl rfl rfl rfl fun m h0 T hm aT => ?_
  (repeat first|refine Wk.go ?_|refine andP ?_|intro _)
  refine A_call0 (index_w S (l := l) s (by omega) (by omega)) ?_
  rintro _ _ ⟨i, rfl, hd, rfl⟩
  have : Is (decide (i ≥ 0)) (decide (s ∈ l)) := ⟨hd⟩
  (repeat first|refine Wk.go ?_|refine andP ?_|intro _)
  exact fin ⟨by rw [hd], rfl⟩
theorem told_w (S : S19 pol sums) {n : Nat} {W : List Ck} {id : Nat} {v : AV} {l : List Str} [HasRow [] W id 0 1 [v] true] [HasRows [] W v strC 1 l] (s : Slt) (hn : l.length + 3 < n) (hb : l.length < 2 ^ 60) :
    Cal [] W (acall Tryz.prog pol sums n (.func (.func 18) [] [.ptr id 0 0]) [.agg (sltC s)]) (fun r N => r = .bool (toldZ l s) ∧ N = []) := by
  refine Cal_fn (f := 18) (nt := 13) (rs := [.tmp 3]) (by omega) (by first | assumption | exact S.rest _ (by decide)) Tryz.func18 rfl rfl rfl rfl fun m h0 T hm aT => ?_
  by_cases c0 : s.var = []
  · have : Is (s.var == []) true := ⟨by simp [c0]⟩
    (repeat first|refine Wk.go ?_|refine andP ?_|intro _)
    exact fin ⟨by simp [toldZ, c0], rfl⟩
  have : Is (s.var == []) false := ⟨by simpa using c0⟩
  (repeat first|refine Wk.go ?_|refine andP ?_|intro _)
  refine A_call0 (contains_w S (l := l) s.var (by omega) (by omega)) ?_
  rintro _ _ ⟨rfl, rfl⟩
  (repeat first|refine Wk.go ?_|refine andP ?_|intro _)
  exact fin ⟨by simp [toldZ, c0], rfl⟩
theorem of_w (S : S19 pol sums) {n : Nat} {W : List Ck} {x : Sts} {lv : AV} (p : Slt) [HasRows [] W lv linC 7 x.lines] (hn : x.lines.length + 2 < n) (hb : x.lines.length < 2 ^ 60) :
    Cal [] W (acall Tryz.prog pol sums n (.func (.func 20) [] []) [.agg (stsC x lv), .agg (sltC p)]) (fun r N => r = .agg (linC (ofZ x p)) ∧ N = []) := by
  refine Cal_fn (f := 20) (nt := 32) (rs := [.cell 4 53]) (by omega) (by first | assumption | exact S.rest _ (by decide)) Tryz.func20 rfl rfl rfl rfl fun m h0 T hm aT => ?_
  by_cases c0 : p.var = []
  rotate_left
  · have : Is (p.var != []) true := ⟨by simpa using c0⟩
    have : Is (!(p.var == [])) true := ⟨by simpa using c0⟩
    (repeat first|refine Wk.go ?_|refine andP ?_|intro _)
    exact fin ⟨by simp [ofZ, c0, noTrm], rfl⟩
  have : Is (p.var != []) false := ⟨by simp [c0]⟩
  have : Is (!(p.var == [])) false := ⟨by simp [c0]⟩
  (repeat first|refine Wk.go ?_|refine andP ?_|intro _)
  refine A_loopR (fun k T => ∃ i, k = x.lines.length - i ∧ i ≤ x.lines.length ∧ Lk T 20 (.int .i64 (i : Nat)) ∧ ∀ l ∈ x.lines.take i, l.term ≠ p.term) [3, 4, 18, 19] x.lines.length (by omega) ⟨0, rfl, Nat.zero_le _, lkz (by rfl), by simp⟩ (by rfl) ?_
  rintro k T1 ⟨i, rfl, hi, h5, hall⟩ hA
  (repeat first|refine Wk.go ?_|refine andP ?_|intro _)
  refine ⟨fun c => ?_, fun c => ?_⟩
  · have c : i < x.lines.length := by simpa using c
    have hst : x.lines.take (i + 1) = x.lines.take i ++ [x.lines[i]] := List.take_succ_eq_append_getElem c
    have hdr : x.lines = x.lines.take i ++ x.lines[i] :: x.lines.drop (i + 1) := by rw [← List.drop_eq_getElem_cons c, List.take_append_drop]
    generalize hy : x.lines[i] = y at *
    have : ElAt x.lines i y := ⟨by rw [List.getElem?_eq_getElem c, hy]⟩
    by_cases e : y.term = p.term
    · have : Is (decide (y.term = p.term)) true := ⟨by simpa using e⟩
      have hf : x.lines.find? (fun l => decide (l.term = p.term)) = some y := by
        rw [hdr, List.find?_append, List.find?_eq_none.2 (fun z hz => by simpa using hall z hz)]
        simp [e]
      (repeat first|refine Wk.go ?_|refine andP ?_|intro _)
      exact fin ⟨by simp [ofZ, c0, hf], rfl⟩
    · have : Is (decide (y.term = p.term)) false := ⟨by simpa using e⟩
      (repeat first|refine Wk.go ?_|refine andP ?_|intro _)
      refine lend (x.lines.length - (i + 1)) _ (by omega) ⟨rfl, i + 1, rfl, c, inferInstance, ?_⟩
      rw [hst]
      intro z hz
      rcases List.mem_append.1 hz with hz | hz
      · exact hall z hz
      · simp at hz; subst hz; exact e
  · have c : ¬ i < x.lines.length := by simpa using c
    have : i = x.lines.length := by omega
    subst this
    rw [List.take_length] at hall
    have hf : x.lines.find? (fun l => decide (l.term = p.term)) = none := List.find?_eq_none.2 (fun y hy => by simpa using hall y hy)
    (repeat first|refine Wk.go ?_|refine andP ?_|intro _)
    exact fin ⟨by simp [ofZ, c0, hf, noLin, noTrm], rfl⟩
end
end Go.Am
namespace Go.Am
open Go Go.Proofs AM
set_option maxRecDepth 10000
set_option synthInstance.maxHeartbeats 400000
set_option synthInstance.maxSize 4000
set_option linter.unusedVariables false
variable {pol : Pol} {sums : Sums}
theorem find_first (l : List Lin) (q : Lin → Bool) {i : Nat} (hi : i < l.length) : (l.drop i).find? q = if q l[i] then some l[i] else (l.drop (i + 1)).find? q := by
  rw [List.drop_eq_getElem_cons hi, List.find?_cons]
  split <;> simp_all
section
attribute [local irreducible] ACo AK AT AOps ARs Fin Cal KLp KFun
theorem guessR_w (S : S19 pol sums) {n : Nat} {W : List Ck} {x : Sts} {lv nv : AV} {known : List Str} (p : Ptn) [hlv : HasRows [] W lv linC 7 x.lines] [hnv : HasRows [] W nv strC 1 known] (hx : StsOk x) (hn : x.lines.length + known.length + 10 ≤ n) (hb : x.lines.length < 2 ^ 40) (hb2 : known.length < 2 ^ 40) :
    Cal [] W (acall Tryz.prog pol sums n (.func (.func 7) [] []) [.agg (stsC x lv), .agg (ptnC p), nv]) (fun r N => r = .int .i64 (guessZ x p known) ∧ N = []) := by
  have ho := ofZ_ok hx p.p
  by_cases c0 : p.p.var = []
  · have hof : ofZ x p.p = (x.lines.find? (fun l => decide (l.term = p.p.term))).getD noLin := by unfold ofZ; rw [if_neg (by simpa using c0)]
    have hg : guessZ x p known = (if toldZ known p.o then partZ (if toldZ known p.s then partZ (ofZ x p.p).tri (ofZ x p.p).sub else (ofZ x p.p).tri) (ofZ x p.p).obj else (if toldZ known p.s then partZ (ofZ x p.p).tri (ofZ x p.p).sub else (ofZ x p.p).tri)) := by
      simp only [guessZ]
      rw [if_neg (show ¬ (p.p.var ≠ [] ∧ toldZ known p.p = true) by simp [c0])]
    rw [hg]
    generalize hl : ofZ x p.p = ln at *
    refine Cal_fn (f := 7) (nt := 78) (rs := [.tmp 6]) (by omega) (by first | assumption | exact S.rest _ (by decide)) Tryz.func7 rfl rfl rfl rfl fun m h0 T hm aT => ?_
    have : Is (p.p.var == []) true := ⟨by simp [c0]⟩
    have : Is (!(p.p.var == [])) false := ⟨by simp [c0]⟩
    (repeat first|refine Wk.go ?_|refine andP ?_|intro _)
    rename_i i3 i4 i7
    refine A_loopS (fun d L T => ∃ cur, d ≤ x.lines.length ∧ Lk T 8 (.int .i64 ((d : Int) - 1)) ∧ L = [.row i7 0 7 (linC cur) true, .row i4 0 15 (ptnC p) true, .row i3 0 5 (stsC x lv) true] ∧ cur = ((x.lines.drop d).find? (fun l => decide (l.term = p.p.term))).getD noLin)
      [2, 3, 4, 6, 7] x.lines.length (by omega) ⟨⟨⟨0, [], [], []⟩, 0, 0, 0⟩, by omega, inferInstance, rfl, by rw [List.drop_length]; rfl⟩ (by rfl) ?_
    rintro d L T1 ⟨cur, hi, h8, rfl, hcur⟩ hA
    match d, hi, h8, hcur with
    | 0, hi, h8, hcur =>
      have h8' : Lk T1 8 (.int .i64 (-1)) := lkz (by simp)
      clear h8
      have : Is (decide ((-1 : Int) ≥ 0)) false := ⟨by decide⟩
      have hcl : cur = ln := by rw [hcur, List.drop_zero, ← hof]
      subst hcl
      (repeat first|refine Wk.go ?_|refine andP ?_|intro _)
      refine A_call0 (toldR_w S (l := known) p.s (by omega) (by omega)) ?_
      rintro _ _ ⟨rfl, rfl⟩
      cases t1 : toldZ known p.s
      · (repeat first|refine Wk.go ?_|refine andP ?_|intro _)
        refine A_call0 (toldR_w S (l := known) p.o (by omega) (by omega)) ?_
        rintro _ _ ⟨rfl, rfl⟩
        cases t2 : toldZ known p.o
        · (repeat first|refine Wk.go ?_|refine andP ?_|intro _)
          exact fin ⟨by simp, rfl⟩
        · (repeat first|refine Wk.go ?_|refine andP ?_|intro _)
          refine A_call0 (partR_w S (by omega) ho) ?_
          rintro _ _ ⟨rfl, rfl⟩
          (repeat first|refine Wk.go ?_|refine andP ?_|intro _)
          exact fin ⟨by simp, rfl⟩
      · (repeat first|refine Wk.go ?_|refine andP ?_|intro _)
        refine A_call0 (partR_w S (by omega) ho) ?_
        rintro _ _ ⟨rfl, rfl⟩
        (repeat first|refine Wk.go ?_|refine andP ?_|intro _)
        refine A_call0 (toldR_w S (l := known) p.o (by omega) (by omega)) ?_
        rintro _ _ ⟨rfl, rfl⟩
        cases t2 : toldZ known p.o
        · (repeat first|refine Wk.go ?_|refine andP ?_|intro _)
          exact fin ⟨by simp, rfl⟩
        · (repeat first|refine Wk.go ?_|refine andP ?_|intro _)
          refine A_call0 (partR_w S (by omega) (partZ_range _ ho)) ?_
          rintro _ _ ⟨rfl, rfl⟩
          (repeat first|refine Wk.go ?_|refine andP ?_|intro _)
          exact fin ⟨by simp, rfl⟩
    | i + 1, hi, h8, hcur =>
      have h8' : Lk T1 8 (.int .i64 (i : Nat)) := lkz (by omega)
      clear h8
      have : Is (decide ((i : Int) ≥ 0)) true := ⟨by simp⟩
      generalize hli : x.lines[i] = li
      have e1 : ElAt x.lines i li := ⟨by rw [List.getElem?_eq_getElem (by omega), hli]⟩
      have hff := find_first x.lines (fun l => decide (l.term = p.p.term)) (i := i) (by omega)
      rw [hli] at hff
      (repeat first|refine Wk.go ?_|refine andP ?_|intro _)
      refine A_drawn [0, 1, 2, 3, 4, 5, 6, 7, 8, 9] [0, 1, 0, 7, 15, 31, 0, 64, 192, 511] (by kernel_rfl) (by kernel_rfl) (by rfl) ?_
      by_cases e : li.term = p.p.term
      · have : Is (decide (li.term = p.p.term)) true := ⟨by simpa using e⟩
        (repeat first|refine Wk.go ?_|refine andP ?_|intro _)
        exact lend i _ (by omega) ⟨li, by omega, inferInstance, rfl, by rw [hff, if_pos (by simpa using e)]; rfl⟩
      · have : Is (decide (li.term = p.p.term)) false := ⟨by simpa using e⟩
        (repeat first|refine Wk.go ?_|refine andP ?_|intro _)
        exact lend i _ (by omega) ⟨cur, by omega, inferInstance, rfl, by rw [hff, if_neg (by simpa using e)]; exact hcur⟩
  have hof : ofZ x p.p = ⟨noTrm, x.tri, x.sub, x.obj⟩ := by unfold ofZ; rw [if_pos c0]
  have hg : ∀ t1 t2 t3, toldZ known p.s = t1 → toldZ known p.o = t2 → toldZ known p.p = t3 → guessZ x p known = (let n := if t1 then partZ x.tri x.sub else x.tri; let n := if t2 then partZ n x.obj else n; if t3 then partZ n x.pre else n) := by
    rintro _ _ _ rfl rfl rfl
    simp only [guessZ, hof]
    cases toldZ known p.p <;> simp [c0]
  refine Cal_fn (f := 7) (nt := 78) (rs := [.tmp 6]) (by omega) (by first | assumption | exact S.rest _ (by decide)) Tryz.func7 rfl rfl rfl rfl fun m h0 T hm aT => ?_
  have : Is (p.p.var == []) false := ⟨by simpa using c0⟩
  have : Is (!(p.p.var == [])) true := ⟨by simpa using c0⟩
  (repeat first|refine Wk.go ?_|refine andP ?_|intro _)
  refine A_call0 (toldR_w S (l := known) p.s (by omega) (by omega)) ?_
  rintro _ _ ⟨rfl, rfl⟩
  cases t1 : toldZ known p.s
  · (repeat first|refine Wk.go ?_|refine andP ?_|intro _)
    refine A_call0 (toldR_w S (l := known) p.o (by omega) (by omega)) ?_
    rintro _ _ ⟨rfl, rfl⟩
    cases t2 : toldZ known p.o
    · (repeat first|refine Wk.go ?_|refine andP ?_|intro _)
      refine A_call0 (toldR_w S (l := known) p.p (by omega) (by omega)) ?_
      rintro _ _ ⟨rfl, rfl⟩
      cases t3 : toldZ known p.p
      · (repeat first|refine Wk.go ?_|refine andP ?_|intro _)
        exact fin ⟨by rw [hg _ _ _ t1 t2 t3]; rfl, rfl⟩
      · (repeat first|refine Wk.go ?_|refine andP ?_|intro _)
        refine A_call0 (partR_w S (by omega) hx.1) ?_
        rintro _ _ ⟨rfl, rfl⟩
        (repeat first|refine Wk.go ?_|refine andP ?_|intro _)
        exact fin ⟨by rw [hg _ _ _ t1 t2 t3]; rfl, rfl⟩
    · (repeat first|refine Wk.go ?_|refine andP ?_|intro _)
      refine A_call0 (partR_w S (by omega) hx.1) ?_
      rintro _ _ ⟨rfl, rfl⟩
      (repeat first|refine Wk.go ?_|refine andP ?_|intro _)
      refine A_call0 (toldR_w S (l := known) p.p (by omega) (by omega)) ?_
      rintro _ _ ⟨rfl, rfl⟩
      cases t3 : toldZ known p.p
      · (repeat first|refine Wk.go ?_|refine andP ?_|intro _)
        exact fin ⟨by rw [hg _ _ _ t1 t2 t3]; rfl, rfl⟩
      · (repeat first|refine Wk.go ?_|refine andP ?_|intro _)
        refine A_call0 (partR_w S (by omega) (partZ_range _ hx.1)) ?_
        rintro _ _ ⟨rfl, rfl⟩
        (repeat first|refine Wk.go ?_|refine andP ?_|intro _)
        exact fin ⟨by rw [hg _ _ _ t1 t2 t3]; rfl, rfl⟩
  · (repeat first|refine Wk.go ?_|refine andP ?_|intro _)
    refine A_call0 (partR_w S (by omega) hx.1) ?_
    rintro _ _ ⟨rfl, rfl⟩
    (repeat first|refine Wk.go ?_|refine andP ?_|intro _)
    refine A_call0 (toldR_w S (l := known) p.o (by omega) (by omega)) ?_
    rintro _ _ ⟨rfl, rfl⟩
    cases t2 : toldZ known p.o
    · (repeat first|refine Wk.go ?_|refine andP ?_|intro _)
      refine A_call0 (toldR_w S (l := known) p.p (by omega) (by omega)) ?_
      rintro _ _ ⟨rfl, rfl⟩
      cases t3 : toldZ known p.p
      · (repeat first|refine Wk.go ?_|refine andP ?_|intro _)
        exact fin ⟨by rw [hg _ _ _ t1 t2 t3]; rfl, rfl⟩
      · (repeat first|refine Wk.go ?_|refine andP ?_|intro _)
        refine A_call0 (partR_w S (by omega) (partZ_range _ hx.1)) ?_
        rintro _ _ ⟨rfl, rfl⟩
        (repeat first|refine Wk.go ?_|refine andP ?_|intro _)
        exact fin ⟨by rw [hg _ _ _ t1 t2 t3]; rfl, rfl⟩
    · (repeat first|refine Wk.go ?_|refine andP ?_|intro _)
      refine A_call0 (partR_w S (by omega) (partZ_range _ hx.1)) ?_
      rintro _ _ ⟨rfl, rfl⟩
      (repeat first|refine Wk.go ?_|refine andP ?_|intro _)
      refine A_call0 (toldR_w S (l := known) p.p (by omega) (by omega)) ?_
      rintro _ _ ⟨rfl, rfl⟩
      cases t3 : toldZ known p.p
      · (repeat first|refine Wk.go ?_|refine andP ?_|intro _)
        exact fin ⟨by rw [hg _ _ _ t1 t2 t3]; rfl, rfl⟩
      · (repeat first|refine Wk.go ?_|refine andP ?_|intro _)
        refine A_call0 (partR_w S (by omega) (partZ_range _ (partZ_range _ hx.1))) ?_
        rintro _ _ ⟨rfl, rfl⟩
        (repeat first|refine Wk.go ?_|refine andP ?_|intro _)
        exact fin ⟨by rw [hg _ _ _ t1 t2 t3]; rfl, rfl⟩
end
end Go.Am
namespace Go.Am
open Go Go.Proofs AM
set_option maxRecDepth 10000
set_option synthInstance.maxHeartbeats 400000
set_option synthInstance.maxSize 4000
set_option linter.unusedVariables false
variable {pol : Pol} {sums : Sums}
section
attribute [local irreducible] ACo AK AT AOps ARs Fin Cal KLp KFun
theorem guess_w (S : S19 pol sums) {n : Nat} {W : List Ck} {x : Sts} {lv nv : AV} {known : List Str} (p : Ptn) [hlv : HasRows [] W lv linC 7 x.lines] [hnv : HasRows [] W nv strC 1 known] (hx : StsOk x) (hn : x.lines.length + known.length + 10 ≤ n) (hb : x.lines.length < 2 ^ 40) (hb2 : known.length < 2 ^ 40) :
    Cal [] W (acall Tryz.prog pol sums n (.func (.func 6) [] []) [.agg (stsC x lv), .agg (ptnC p), nv]) (fun r N => r = .int .i64 (guessZ x p known) ∧ N = []) := by
  have ho := ofZ_ok hx p.p
  have hg : guessZ x p known = (if p.p.var ≠ [] ∧ toldZ known p.p = true then partZ (if toldZ known p.o then partZ (if toldZ known p.s then partZ (ofZ x p.p).tri (ofZ x p.p).sub else (ofZ x p.p).tri) (ofZ x p.p).obj else (if toldZ known p.s then partZ (ofZ x p.p).tri (ofZ x p.p).sub else (ofZ x p.p).tri)) x.pre else (if toldZ known p.o then partZ (if toldZ known p.s then partZ (ofZ x p.p).tri (ofZ x p.p).sub else (ofZ x p.p).tri) (ofZ x p.p).obj else (if toldZ known p.s then partZ (ofZ x p.p).tri (ofZ x p.p).sub else (ofZ x p.p).tri))) := rfl
  rw [hg]
  refine Cal_fn (f := 6) (nt := 48) (rs := [.tmp 6]) (by omega) (by first | assumption | exact S.rest _ (by decide)) Tryz.func6 rfl rfl rfl rfl fun m h0 T hm aT => ?_
  (repeat first|refine Wk.go ?_|refine andP ?_|intro _)
  refine A_call0 (of_w S p.p (by omega) (by omega)) ?_
  rintro _ _ ⟨rfl, rfl⟩
  generalize hl : ofZ x p.p = ln at *
  (repeat first|refine Wk.go ?_|refine andP ?_|intro _)
  refine A_call0 (told_w S (l := known) p.s (by omega) (by omega)) ?_
  rintro _ _ ⟨rfl, rfl⟩
  cases t1 : toldZ known p.s
  · (repeat first|refine Wk.go ?_|refine andP ?_|intro _)
    refine A_call0 (told_w S (l := known) p.o (by omega) (by omega)) ?_
    rintro _ _ ⟨rfl, rfl⟩
    cases t2 : toldZ known p.o
    · (repeat first|refine Wk.go ?_|refine andP ?_|intro _)
      cases c0 : (!(p.p.var == ([] : Str)))
      · have c1 : p.p.var = [] := by simpa using c0
        have : Is (!(p.p.var == [])) false := ⟨c0⟩
        (repeat first|refine Wk.go ?_|refine andP ?_|intro _)
        exact fin ⟨by simp [c1], rfl⟩
      · have c1 : p.p.var ≠ [] := by simpa using c0
        have : Is (!(p.p.var == [])) true := ⟨c0⟩
        (repeat first|refine Wk.go ?_|refine andP ?_|intro _)
        refine A_call0 (told_w S (l := known) p.p (by omega) (by omega)) ?_
        rintro _ _ ⟨rfl, rfl⟩
        cases t3 : toldZ known p.p
        · (repeat first|refine Wk.go ?_|refine andP ?_|intro _)
          exact fin ⟨by simp [c1], rfl⟩
        · (repeat first|refine Wk.go ?_|refine andP ?_|intro _)
          refine A_call0 (part_w S (by omega) ho) ?_
          rintro _ _ ⟨rfl, rfl⟩
          (repeat first|refine Wk.go ?_|refine andP ?_|intro _)
          exact fin ⟨by simp [c1], rfl⟩
    · (repeat first|refine Wk.go ?_|refine andP ?_|intro _)
      refine A_call0 (part_w S (by omega) ho) ?_
      rintro _ _ ⟨rfl, rfl⟩
      (repeat first|refine Wk.go ?_|refine andP ?_|intro _)
      cases c0 : (!(p.p.var == ([] : Str)))
      · have c1 : p.p.var = [] := by simpa using c0
        have : Is (!(p.p.var == [])) false := ⟨c0⟩
        (repeat first|refine Wk.go ?_|refine andP ?_|intro _)
        exact fin ⟨by simp [c1], rfl⟩
      · have c1 : p.p.var ≠ [] := by simpa using c0
        have : Is (!(p.p.var == [])) true := ⟨c0⟩
        (repeat first|refine Wk.go ?_|refine andP ?_|intro _)
        refine A_call0 (told_w S (l := known) p.p (by omega) (by omega)) ?_
        rintro _ _ ⟨rfl, rfl⟩
        cases t3 : toldZ known p.p
        · (repeat first|refine Wk.go ?_|refine andP ?_|intro _)
          exact fin ⟨by simp [c1], rfl⟩
        · (repeat first|refine Wk.go ?_|refine andP ?_|intro _)
          refine A_call0 (part_w S (by omega) (partZ_range _ ho)) ?_
          rintro _ _ ⟨rfl, rfl⟩
          (repeat first|refine Wk.go ?_|refine andP ?_|intro _)
          exact fin ⟨by simp [c1], rfl⟩
  · (repeat first|refine Wk.go ?_|refine andP ?_|intro _)
    refine A_call0 (part_w S (by omega) ho) ?_
    rintro _ _ ⟨rfl, rfl⟩
    (repeat first|refine Wk.go ?_|refine andP ?_|intro _)
    refine A_call0 (told_w S (l := known) p.o (by omega) (by omega)) ?_
    rintro _ _ ⟨rfl, rfl⟩
    cases t2 : toldZ known p.o
    · (repeat first|refine Wk.go ?_|refine andP ?_|intro _)
      cases c0 : (!(p.p.var == ([] : Str)))
      · have c1 : p.p.var = [] := by simpa using c0
        have : Is (!(p.p.var == [])) false := ⟨c0⟩
        (repeat first|refine Wk.go ?_|refine andP ?_|intro _)
        exact fin ⟨by simp [c1], rfl⟩
      · have c1 : p.p.var ≠ [] := by simpa using c0
        have : Is (!(p.p.var == [])) true := ⟨c0⟩
        (repeat first|refine Wk.go ?_|refine andP ?_|intro _)
        refine A_call0 (told_w S (l := known) p.p (by omega) (by omega)) ?_
        rintro _ _ ⟨rfl, rfl⟩
        cases t3 : toldZ known p.p
        · (repeat first|refine Wk.go ?_|refine andP ?_|intro _)
          exact fin ⟨by simp [c1], rfl⟩
        · (repeat first|refine Wk.go ?_|refine andP ?_|intro _)
          refine A_call0 (part_w S (by omega) (partZ_range _ ho)) ?_
          rintro _ _ ⟨rfl, rfl⟩
          (repeat first|refine Wk.go ?_|refine andP ?_|intro _)
          exact fin ⟨by simp [c1], rfl⟩
    · (repeat first|refine Wk.go ?_|refine andP ?_|intro _)
      refine A_call0 (part_w S (by omega) (partZ_range _ ho)) ?_
      rintro _ _ ⟨rfl, rfl⟩
      (repeat first|refine Wk.go ?_|refine andP ?_|intro _)
      cases c0 : (!(p.p.var == ([] : Str)))
      · have c1 : p.p.var = [] := by simpa using c0
        have : Is (!(p.p.var == [])) false := ⟨c0⟩
        (repeat first|refine Wk.go ?_|refine andP ?_|intro _)
        exact fin ⟨by simp [c1], rfl⟩
      · have c1 : p.p.var ≠ [] := by simpa using c0
        have : Is (!(p.p.var == [])) true := ⟨c0⟩
        (repeat first|refine Wk.go ?_|refine andP ?_|intro _)
        refine A_call0 (told_w S (l := known) p.p (by omega) (by omega)) ?_
        rintro _ _ ⟨rfl, rfl⟩
        cases t3 : toldZ known p.p
        · (repeat first|refine Wk.go ?_|refine andP ?_|intro _)
          exact fin ⟨by simp [c1], rfl⟩
        · (repeat first|refine Wk.go ?_|refine andP ?_|intro _)
          refine A_call0 (part_w S (by omega) (partZ_range _ (partZ_range _ ho))) ?_
          rintro _ _ ⟨rfl, rfl⟩
          (repeat first|refine Wk.go ?_|refine andP ?_|intro _)
          exact fin ⟨by simp [c1], rfl⟩
end
end Go.Am
