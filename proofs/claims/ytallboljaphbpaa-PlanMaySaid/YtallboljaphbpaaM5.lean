/- law27: stats, patterns, as they come in. -/
import Derived.Test.YtallboljaphbpaaM4
import Derived.WalkKit
import Derived.WalkSpells
import Derived.Maps.AppendAt
import Derived.OwnWalk
import Derived.Deep.Slices
import Derived.Deep.Fields
import Derived.ChangeSame
import Derived.Test.YtallboljaphbpaaRows
import Derived.ProofKit
set_option linter.unusedVariables false
set_option linter.unusedSimpArgs false
namespace Go.Am
open Go Go.Proofs Go.RowKit AM
set_option maxRecDepth 10000

theorem run_append_zeros {P : Program} {w : World} {t u ty el n : Nat} {i : TypeInfo} {z : Value} (ht : P.underlying t = some (.slice el)) (hu : P.underlying u = some (.int .i64)) (hi : P.info? el = some i) (hz : i.zero = some z)
    (hn : 0 < n) (hb0 : i.bytes ≠ 0) (hs0 : i.size ≠ 0) (hbytes : n * i.bytes ≤ 140737488355328) (h63 : n < 9223372036854775808) :
    (Builtin.append_ #[t, u] ty #[.slice none 0 0, .int .i64 (n : Int)]).run P w =
      .ok (.slice (some ⟨w.heap.size, 0, none⟩) n (grownCap w n 0 el)) (w.drew.alloc (.cells (Builtin.zeroCells z.cells n ++ Builtin.zeroCells z.cells (grownCap w n 0 el - n)) el)) := by
  have hfit := growslice_fits (old := 0) (need := n) (by omega) hbytes
  have hno : ¬ n ≤ 0 := by omega
  have hfit' : ¬ (Builtin.nextslicecap n 0 * i.bytes > 2 ^ 48) := by omega
  have hw : IntKind.wrap .i64 (n : Int) = (n : Int) := wrap64 rfl (by omega)
  have hnn : ¬ ((n : Int) < 0) := by omega
  have hb : ¬ ((n : Int) * (i.bytes : Int) > 2 ^ 48) := by
    rw [← Int.natCast_mul, show (2 : Int) ^ 48 = 281474976710656 from rfl]
    omega
  simp [Builtin.append_, run_underlying ht, run_underlying hu, qb2 hi, run_typeInfo' hi, asInt, hw, hnn, hb, hno, hb0, hfit', qco hi hz, newRow, Builtin.firstCells, hs0, asIntOf]
  have hb' : ¬ ((281474976710656 : Int) < (n : Int) * (i.bytes : Int)) := hb
  have hn0 : n ≠ 0 := by omega
  have h63' : ¬ ((9223372036854775807 : Int) < (n : Int)) := by omega
  simp [hb', hn0, h63', Question.forced, grownCap]
  intro hc
  exact absurd hc (Nat.mul_ne_zero hn0 hs0)

theorem wpList_append_zeros {P : Program} {w : World} {ops : Array Oper} {rest : List Oper} {o : Oper} {a : Act} {Q : Exit → Act → World → Prop} (hgd : o.guard = none) (s x : Operand) (t u : TypeId)
    (ho : o.op = .call { callee := .builtin .append, args := #[s, x], argTypes := #[t, u] }) (el : TypeId) (i : TypeInfo) (z : Value) (ht : P.underlying t = some (.slice el)) (hu : P.underlying u = some (.int .i64)) (hi : P.info? el = some i) (hz : i.zero = some z)
    (n : Nat) (hs : a.eval s = .slice none 0 0) (hx : a.eval x = .int .i64 (n : Int)) (hn : 0 < n) (hb0 : i.bytes ≠ 0) (hs0 : i.size ≠ 0) (hbytes : n * i.bytes ≤ 140737488355328) (h63 : n < 9223372036854775808)
    (h : wpList P ops Q rest (a.put o.dst (.slice (some ⟨w.heap.size, 0, none⟩) n (grownCap w n 0 el))) (w.drew.alloc (.cells (Builtin.zeroCells z.cells n ++ Builtin.zeroCells z.cells (grownCap w n 0 el - n)) el))) :
    wpList P ops Q (o :: rest) a w := by
  refine wpList_plain hgd fun K hK => ?_
  have hr := run_append_zeros (P := P) (w := w) (ty := o.type) ht hu hi hz hn hb0 hs0 hbytes h63
  unfold Oper.wp execOp
  simp only [ho, resolve, invoke, builtin, Sem.run_bind, Sem.run_pure, Result.andThen_ok, List.map_toArray, List.map_cons, List.map_nil, hs, hx, hr]
  exact hK _ _ h

set_option maxRecDepth 100000 in
theorem grow_any (n : Nat) (hn : 0 < n) (hb : n < 1099511627776) (w : World) :
    Calls Try.prog 46 #[.slice none 0 0, .int .i64 (n : Int)] w fun e w' => ∃ C, e = .returned (.slice (some ⟨w.heap.size, 0, none⟩) 0 C) ∧ n ≤ C ∧ w' = w.drew.alloc (.cells (Builtin.zeroCells #[.int .i64 0] n ++ Builtin.zeroCells #[.int .i64 0] (C - n)) 3) := by
  obtain ⟨i0, hi, hz0, hz1, hz2⟩ := info_parts (P := Try.prog) (e := 3) (z := .int .i64 0) (size := 1) (bytes := 8) (by kernel_rfl)
  have hge := grownCap_ge w n 0 3
  go_enter Try.func46, Try.ntmps46
  go_wp2_with (first
    | (at_builtin; refine wpList_append_zeros rfl _ _ 27 3 rfl 3 i0 (.int .i64 0) Try.underlying27 Try.underlying3 hi hz0 n rfl (by rfl) hn (by rw [hz2]; decide) (by rw [hz1]; decide) (by rw [hz2]; omega) (by omega) ?_)
    | go_in)
  go_ret
  exact ⟨_, rfl, hge, rfl⟩

/-- what the machine takes for slices.Grow of nil -/
def growSum : List AV → AM AV
  | [.sl .nil 0 [], .int .i64 n] => do
    AM.guard (decide (0 < n) && decide (n < 1099511627776))
    let id ← AM.halloc (.row 1 (qbh [.int .i64 0] n.toNat) false)
    pure (.own id 0 0 0)
  | _ => AM.fail
theorem repeat_one (v : AV) : ∀ n, qbh [v] n = List.replicate n v
  | 0 => rfl
  | n + 1 => by simp only [qbh, repeat_one v n, List.replicate_succ]; rfl
theorem one_arg {h : Hp} {μ : Nat → Nat} {w : World} {a : AV} {xs : List Value} (r : VRs h μ w [a] xs) : ∃ x, xs = [x] ∧ VR h μ w a x := by
  have hl := r.1
  cases xs with
  | nil => cases hl
  | cons x t => cases t with
    | nil => exact ⟨x, rfl, r.2 0 (by simp) (by simp)⟩
    | cons _ _ => simp at hl
theorem two_args {h : Hp} {μ : Nat → Nat} {w : World} {a b : AV} {xs : List Value} (r : VRs h μ w [a, b] xs) : ∃ x y, xs = [x, y] ∧ VR h μ w a x ∧ VR h μ w b y := by
  have hl := r.1
  match xs, r, hl with
  | [x, y], r, _ => exact ⟨x, y, rfl, r.2 0 (by simp) (by simp), r.2 1 (by simp) (by simp)⟩

theorem zeroCells_one (a : Value) (n : Nat) : Builtin.zeroCells #[a] n = Array.replicate n a := by
  apply Array.ext
  · simp [Builtin.zeroCells]
  · intro i h1 h2
    simp [Builtin.zeroCells, Nat.mod_one]
theorem grow_ok {h h' : Hp} {μ : Nat → Nat} {w : World} {args : List AV} {xs : List Value} {v : AV} (e : (growSum args).run h = some (v, h')) (s : SR h μ w) (r : VRs h μ w args xs) (F : Fresh h h') :
    CallsIn Fence.wide 0 Try.prog 46 xs.toArray w (Got h μ w v h') := by
  refine callsIn_wide.2 ?_
  unfold growSum at e
  split at e
  · rename_i n
    obtain ⟨_, h1, e1, e2⟩ := bind_some e
    obtain ⟨hg, rfl⟩ := qbg e1
    obtain ⟨id, h2, e3, e4⟩ := bind_some e2
    obtain ⟨rfl, rfl⟩ := qc5 e3
    obtain ⟨rfl, rfl⟩ := qa0 e4
    simp only [Bool.and_eq_true, decide_eq_true_eq] at hg
    obtain ⟨x, y, rfl, hx, hy⟩ := two_args r
    · cases hy
      cases hx with
      | sl _ _ _ A cap vals hn hnil =>
        obtain ⟨rfl, rfl⟩ := hnil rfl
        obtain ⟨m, rfl⟩ : ∃ m : Nat, n = (m : Int) := ⟨n.toNat, by omega⟩
        refine (grow_any m (by omega) (by omega) w).mono ?_
        rintro en w' ⟨C, rfl, hC, rfl⟩
        have hfr : h1.get h1.next = none := F _ (Nat.le_refl _) (Nat.lt_succ_self _)
        obtain ⟨s1, t1⟩ := s.drawn (w' := w.drew) rfl rfl rfl rfl
        have hz : Builtin.zeroCells #[Value.int .i64 0] m ++ Builtin.zeroCells #[Value.int .i64 0] (C - m) = (Array.replicate C (Value.int .i64 0)) := by
          rw [zeroCells_one, zeroCells_one, Array.replicate_append_replicate]
          congr 1; omega
        rw [hz]
        obtain ⟨s2, t2⟩ := s1.alloc hfr (.cells (Array.replicate C (Value.int .i64 0)) 3) (.row 1 (qbh [.int .i64 0] (m : Int).toNat) false) (by
          refine ⟨_, 3, rfl, ?_, fun c => (by cases c), ?_⟩
          · rw [repeat_one]; simp; omega
          · rw [repeat_one]
            simp only [List.length_replicate, Array.toList_replicate, List.take_replicate]
            refine ⟨by simp; omega, fun i h1 h2 => ?_⟩
            simp only [List.getElem_replicate]
            exact .int _ _)
        have hmu : upd μ h1.next w.drew.heap.size h1.next = w.heap.size := by simp [upd]
        refine ⟨_, s2, t1.trans t2, ?_⟩
        refine .own _ _ _ _ _ (qb7 _ _ _ _) rfl 1 _ false rfl _ C (Nat.zero_le _) fun _ => ⟨?_, Array.replicate C (.int .i64 0), 3, ?_, ?_⟩
        · rw [hmu]
        · rw [hmu]; exact World.alloc_heap_new _ _
        · simp
  · cases e
end Go.Am
namespace Go.Am
open Go Go.Proofs AM RowKit
set_option maxRecDepth 10000

def sums27 : Sums := fun f => match Nat.beq f 49 with
  | true => some listSum
  | false => match Nat.beq f 67 with
    | true => some qb6
    | false => match Nat.beq f 73 with
      | true => some sortSum
      | false => match Nat.beq f 46 with
        | true => some growSum
        | false => none
def pol27 : Pol := ⟨fun _ _ => false⟩
theorem s27 : S27 pol27 sums27 := ⟨fun _ _ => rfl, rfl, fun f h => by
  simp only [List.mem_cons, List.not_mem_nil, or_false, not_or] at h
  obtain ⟨_, h0, h1, h2, h3⟩ := h
  have e0 : Nat.beq f 46 = false := by
    cases hq : Nat.beq f 46 with
    | false => rfl
    | true => exact absurd (Nat.eq_of_beq_eq_true hq) h0
  have e1 : Nat.beq f 49 = false := by
    cases hq : Nat.beq f 49 with
    | false => rfl
    | true => exact absurd (Nat.eq_of_beq_eq_true hq) h1
  have e2 : Nat.beq f 67 = false := by
    cases hq : Nat.beq f 67 with
    | false => rfl
    | true => exact absurd (Nat.eq_of_beq_eq_true hq) h2
  have e3 : Nat.beq f 73 = false := by
    cases hq : Nat.beq f 73 with
    | false => rfl
    | true => exact absurd (Nat.eq_of_beq_eq_true hq) h3
  simp only [sums27, e0, e1, e2, e3]⟩
theorem SR.below {h : Hp} {μ : Nat → Nat} {w w' : World} (s : SR h μ w) (b : Below w.heap.size w w') : SR h μ w' ∧ Stp h μ w h μ w' := by
  have hlt : ∀ id o, h.get id = some o → μ id < w.heap.size := fun id o ho => by
    obtain ⟨x, h1, _⟩ := s.blk id o ho; exact (Array.getElem?_eq_some_iff.1 h1).1
  have st : Stp h μ w h μ w' := ⟨b.size, fun id o ho => ⟨o, ho, Nat.le_refl _, Body.like_refl _, fun _ => ⟨rfl, fun cs _ hc => ⟨cs, by rw [b.block _ (hlt id o ho)]; exact hc, rfl⟩⟩⟩,
    fun c hc _ => b.block c hc, fun _ _ hc => hc, b.os, b.tape, b.output⟩
  exact ⟨⟨fun id o ho => by obtain ⟨x, h1, h2⟩ := s.blk id o ho; exact ⟨x, by rw [b.block _ (hlt id o ho)]; exact h1, h2.mono st⟩, s.inj⟩, st⟩

theorem list_ok {h h' : Hp} {μ : Nat → Nat} {w : World} {args : List AV} {xs : List Value} {v : AV} (e : (listSum args).run h = some (v, h')) (s : SR h μ w) (r : VRs h μ w args xs) :
    CallsIn Fence.wide 0 Try.prog 49 xs.toArray w (Got h μ w v h') := by
  refine callsIn_wide.2 ?_
  match args, e with
  | [.agg [.mapv id]], e =>
    obtain ⟨x, rfl, hx⟩ := one_arg r
    obtain ⟨es, h1, e1, e2⟩ := bind_some e
    obtain ⟨rfl, o, ho, hb⟩ := mapOf_some e1
    obtain ⟨_, h2, e3, e4⟩ := bind_some e2
    obtain ⟨hg, rfl⟩ := qbg e3
    obtain ⟨rfl, rfl⟩ := qa0 e4
    simp only [Bool.and_eq_true, Nat.blt_eq, List.all_eq_true] at hg
    cases hx with
    | agg _ vals hl hr =>
      obtain ⟨y, rfl, hy⟩ := one_arg (⟨hl, hr⟩ : VRs _ μ w [.mapv id] vals)
      obtain rfl := hy.map_live
      obtain ⟨ms, clock, hw, q1, q2, hbn⟩ := s.mapBorn ho hb
      have hlen : es.length = ms.size := by have := q1.1; simpa using this
      have hks : ∀ i (h1 : i < es.length) (h2 : i < ms.toList.length), ∃ t : ByteArray, ms.toList[i].key = .string t ∧ es[i].1 = .str t.data.toList := by
        intro i h1 h2
        have := q1.2 i (by simpa using h1) (by simpa using h2)
        simp only [List.getElem_map] at this
        have hst := hg.2 es[i] (List.getElem_mem h1)
        generalize es[i].1 = k at this hst
        generalize ms.toList[i].key = kv at this
        cases k <;> first | cases hst | skip
        cases this with
        | str t l e => exact ⟨t, rfl, by rw [e]⟩
      have hkey : ∀ e ∈ ms.toList, ∃ t : ByteArray, e.key = .string t := by
        intro e he
        obtain ⟨i, hi, rfl⟩ := List.getElem_of_mem he
        obtain ⟨t, ht, _⟩ := hks i (by rw [hlen]; simpa using hi) hi
        exact ⟨t, ht⟩
      have hkeys : es.map (·.1) = (ms.toList.map keyStr).map .str := by
        apply List.ext_getElem
        · simp [hlen]
        · intro i h1 h2
          obtain ⟨t, ht, he⟩ := hks i (by simpa using h1) (by simpa using h2)
          simp only [List.getElem_map]
          rw [he]
          simp only [keyStr, ht]
      refine (list_any (μ id) clock ms w hw hbn hkey (by omega)).mono ?_
      rintro en w' ⟨val, ss, rfl, hp, hrow, hbel⟩
      obtain ⟨s1, t1⟩ := s.below hbel
      refine ⟨μ, s1, t1, .bag _ (ss.map .str) val (by rw [hkeys]; exact hp.map _) ?_⟩
      have hns : ∀ c, w.heap.size ≤ c → ¬ Held h' μ c := by
        rintro c hc ⟨i, oo, hi, rfl⟩
        obtain ⟨z, hz, _⟩ := s.blk i oo hi
        have := (Array.getElem?_eq_some_iff.1 hz).1
        omega
      rcases hrow.2 with ⟨rfl, h0⟩ | ⟨g, cap, cur, rfl, hbase, hgc, hcap, hmax, hsz, htk⟩
      · obtain rfl : ss = [] := List.length_eq_zero_iff.1 h0
        exact .sl .any 0 [] none 0 [] (Nat.le_refl _) (by simp) (by simp) (by simp) (by simp) (by simp) rfl (by simp) (by simp) (by simp)
      · have hgl := (Array.getElem?_eq_some_iff.1 hgc).1
        have hcc : ∀ i (hi : i < ss.length), cur[i]? = some (Value.string ⟨(ss[i]).toArray⟩) := by
          intro i hi
          have h1 : (cur.toList.take (ss.length * 1))[i]? = (ss.map Go.Proofs.encStr)[i]? := by rw [htk]
          rw [List.getElem?_take, if_pos (by omega)] at h1
          simpa [hi, Go.Proofs.encStr] using h1
        have := VR.sl (h := h') (μ := μ) (w := w') .any ss.length (ss.map .str) (some ⟨g, 0, none⟩) cap (ss.map Go.Proofs.encStr) hcap (by simp) (by simp) (by simp) (by simp)
          (fun ad e _ => by cases e; exact ⟨hns g hbase, hgl⟩) (by simp) (by simp)
          (fun ad e i hi => by
            cases e
            have hi' : i < ss.length := by simpa using hi
            rw [add_plain]
            unfold World.cell?
            simp only [hgc, Nat.zero_add]
            rw [hcc i hi']
            simp [Go.Proofs.encStr])
          (fun i h1 h2 => by
            simp only [List.getElem_map]
            exact .str _ _ rfl)
        simpa using this

theorem name_of : ∀ (l : List Func) (i : Nat) (fn : Func), l.all (fun fn => !(fn.name == "runtime.NumGoroutine")) = true → l[i]? = some fn → (fn.name == "runtime.NumGoroutine") = false := fun l i fn h e => by
  have := List.all_eq_true.1 h fn (List.mem_of_getElem? e)
  simpa using this
theorem progOk : ProgOk Try.prog := ⟨by kernel_rfl, fun f fn e => name_of Try.prog.funcs.toList f fn (by kernel_rfl) (by simpa using e)⟩
def sums0 : Sums := fun _ => none
theorem sums0_ok : SumsOk Try.prog sums0 := fun _ _ h => by cases h

theorem run_beside {α : Type} {m : AM α} {h0 h : Hp} {a : α} (hn : h.next = h0.next) (hsub : ∀ id o, h0.get id = some o → h.get id = some o) (e : m.run h0 = some (a, h0)) :
    ∃ g, m.run h = some (a, g) ∧ g.next = h.next ∧ ∀ id, g.get id = h.get id := by
  obtain ⟨_, b⟩ := m.good.2 h0 a h0 e (fun id h1 h2 => by omega)
  obtain ⟨g, e1, e2, e3⟩ := b h hn hsub
  refine ⟨g, e1, by rw [e2, hn], fun id => ?_⟩
  rw [e3 id]
  split
  · rename_i c
    rcases c with c | c
    · obtain ⟨o, ho⟩ := Option.isSome_iff_exists.1 c
      rw [ho, hsub id o ho]
    · omega
  · rfl
theorem SR.congr {h g : Hp} {μ : Nat → Nat} {w : World} (s : SR g μ w) (e : ∀ id, g.get id = h.get id) : SR h μ w ∧ Stp g μ w h μ w := by
  have st : Stp g μ w h μ w := ⟨Nat.le_refl _, fun id o ho => ⟨o, by rw [← e id]; exact ho, Nat.le_refl _, Body.like_refl _, fun _ => ⟨rfl, fun cs _ hc => ⟨cs, hc, rfl⟩⟩⟩, fun _ _ _ => rfl,
    fun c _ ⟨id, o, ho, hm⟩ => ⟨id, o, by rw [e id]; exact ho, hm⟩, rfl, rfl, rfl⟩
  exact ⟨⟨fun id o ho => by obtain ⟨x, h1, h2⟩ := s.blk id o (by rw [e id]; exact ho); exact ⟨x, h1, h2.mono st⟩, fun i j o o' hi hj => s.inj i j o o' (by rw [e i]; exact hi) (by rw [e j]; exact hj)⟩, st⟩
theorem contains_any {h : Hp} {v : AV} {n : Nat} {c : List AV} (o : SlV h 1 v n c) {l : List Str} (hl : l.length = n) (hc : strs l = c) (hv : ∀ i ∈ qb1 v, i < h.next) (s : Str) (hb : l.length < 2 ^ 62) :
    ∃ g, (qbt Try.prog pol27 sums0 (l.length + 4) (.func (.func 67) [] []) [v, .str s]).run h = some (.bool (decide (s ∈ l)), g) ∧ g.next = h.next ∧ ∀ id, g.get id = h.get id := by
  have key : ∀ h0 : Hp, h0.WF → h.next = h0.next → (∀ id o, h0.get id = some o → h.get id = some o) → Strs h0 v l → ∃ g, (qbt Try.prog pol27 sums0 (l.length + 4) (.func (.func 67) [] []) [v, .str s]).run h = some (.bool (decide (s ∈ l)), g) ∧ g.next = h.next ∧ ∀ id, g.get id = h.get id := by
    intro h0 w0 hn hsub o0
    obtain ⟨r, h1, e, rfl, rfl⟩ := contains_code (pol := pol27) (sums := sums0) rfl rfl (l.length + 3) o0 s (by omega) hb w0
    exact run_beside hn hsub e
  have hleaf : ∀ n id, (⟨.leaf, n⟩ : Hp).get id = none := fun n id => Tm.get_leaf id
  cases o with
  | imm k n c e =>
    refine key ⟨.leaf, h.next⟩ (fun id o ho => by rw [hleaf] at ho; cases ho) rfl (fun id o ho => by rw [hleaf] at ho; cases ho) ?_
    rw [Strs, hl, hc]
    exact .imm k n c e
  | own id ver off n row fix r e =>
    obtain ⟨st, ho⟩ := r
    have hid := hv id (by simp [qb1])
    have hget : ∀ i o, (⟨Tm.set .leaf id (some ⟨ver, st, .row 1 row fix⟩), h.next⟩ : Hp).get i = some o → i = id ∧ o = ⟨ver, st, .row 1 row fix⟩ := fun i o ho => by
      change (Tm.set .leaf id _).get i = _ at ho
      rw [Tm.get_set] at ho
      split at ho
      · rename_i q; cases ho; exact ⟨q, rfl⟩
      · rw [Tm.get_leaf] at ho; cases ho
    refine key ⟨Tm.set .leaf id (some ⟨ver, st, .row 1 row fix⟩), h.next⟩ (fun i o ho => by rw [(hget i o ho).1]; exact hid) rfl (fun i o ho' => by obtain ⟨rfl, rfl⟩ := hget i o ho'; exact ho) ?_
    rw [Strs, hl, hc]
    exact .own id ver off _ row fix ⟨st, qb7 _ _ _ _⟩ e
theorem hasStr_some {s : Str} : ∀ {c : List AV} {b : Bool}, hasStr s c = some b → ∃ l, c = strs l ∧ b = decide (s ∈ l)
  | [], b, h => by cases h; exact ⟨[], rfl, rfl⟩
  | v :: r, b, h => by
    cases v <;> first | cases h | skip
    rename_i x
    have h' := h
    simp only [hasStr] at h
    cases hr : hasStr s r with
    | none => rw [hr] at h; cases h
    | some b' =>
      obtain ⟨l, rfl, _⟩ := hasStr_some hr
      refine ⟨x :: l, rfl, ?_⟩
      have := hasStr_strs s (x :: l)
      simp only [strs, List.map_cons] at this h'
      rw [this] at h'
      cases h'; rfl
theorem contains_go {h : Hp} {μ : Nat → Nat} {w : World} {v : AV} {x y : Value} {l : List Str} {s' : Str} (o : Strs h v l) (hv : ∀ i ∈ qb1 v, i < h.next) (hb : l.length < 2 ^ 62) (s : SR h μ w) (hx : VR h μ w v x) (hy : VR h μ w (.str s') y) :
    CallsIn Fence.wide 0 Try.prog 67 #[x, y] w (Got h μ w (.bool (decide (s' ∈ l))) h) := by
  obtain ⟨g, e, hn, hg⟩ := contains_any o rfl rfl hv s' hb
  simp only [qbt, List.nil_append, List.append_nil] at e
  have hc := acall_sound (pol := pol27) progOk sums0_ok (l.length + 3)
  have r : VRs h μ w [v, .str s'] [x, y] := VRs.cons hx (VRs.cons hy VRs.nil)
  obtain ⟨_, hk⟩ := afunc_calls hc (region_ok progOk hc) sums0_ok (l.length + 3) 67 e s r (fun id h1 h2 => by omega)
  refine CallsIn.mono hk fun en w' hgot => ?_
  cases en with
  | returned z =>
    obtain ⟨μ', s1, t1, v1⟩ := hgot
    obtain ⟨s2, t2⟩ := s1.congr hg
    exact ⟨μ', s2, t1.trans t2, v1.mono t2⟩
  | panicked _ => exact hgot.elim
  | outgrown => exact hgot.elim
theorem okId_some {h h' : Hp} {id : Nat} {u : Unit} (e : (okId id).run h = some (u, h')) : h' = h ∧ id < h.next := by
  change cond _ _ _ = _ at e
  cases hb : Nat.blt id h.next with
  | false => rw [hb] at e; cases e
  | true => rw [hb] at e; cases e; exact ⟨rfl, by simpa [Nat.blt_eq] using hb⟩
/-- what a run of the second kind has looked at -/
theorem contains_own {h h' : Hp} {id ver off n : Nat} {s : Str} {v : AV} (e : (qb6 [.own id ver off n, .str s]).run h = some (v, h')) : h' = h ∧ id < h.next ∧ ∃ l, SlV h 1 (.own id ver off n) n (strs l) ∧ l.length = n ∧ n < 2 ^ 62 ∧ v = .bool (decide (s ∈ l)) := by
  obtain ⟨_, h1, e1, e2⟩ := bind_some e
  obtain ⟨_, h2, e3, e4⟩ := bind_some e1
  obtain ⟨rfl, hid⟩ := okId_some e3
  obtain ⟨⟨esz, row, fix⟩, h3, e5, e6⟩ := bind_some e4
  obtain ⟨rfl, o, ho, hv, hb⟩ := qci e5
  obtain ⟨hg, rfl⟩ := qbg e6
  obtain ⟨⟨m, c⟩, h4, e7, e8⟩ := bind_some e2
  obtain ⟨⟨esz', row', fix'⟩, h5, e9, e10⟩ := bind_some e7
  obtain ⟨rfl, o', ho', hv', hb'⟩ := qci e9
  obtain ⟨_, h6, e11, e12⟩ := bind_some e10
  obtain ⟨hg2, rfl⟩ := qbg e11
  obtain ⟨h7, rfl⟩ := qa0 e12
  simp only [Prod.mk.injEq] at h7
  obtain ⟨rfl, rfl⟩ := h7
  obtain ⟨_, h8, e13, e14⟩ := bind_some e8
  obtain ⟨hg3, rfl⟩ := qbg e13
  obtain ⟨b, h9, e15, e16⟩ := bind_some e14
  obtain ⟨hs, rfl⟩ := qbz e15
  obtain ⟨rfl, rfl⟩ := qa0 e16
  rw [ho] at ho'; cases ho'
  rw [hb] at hb'; cases hb'
  obtain rfl : esz = 1 := by simpa using hg
  have hlen : off + m * 1 ≤ row.length := by simpa using hg2
  obtain ⟨l, hl, rfl⟩ := hasStr_some hs
  have hll : l.length = m := by
    have := congrArg List.length hl
    simp at this; omega
  obtain ⟨ver', st, body⟩ := o
  simp only at hv hb
  subst hv hb
  refine ⟨rfl, hid, l, ?_, hll, by simpa [Nat.blt_eq] using hg3, rfl⟩
  rw [← hl]
  exact .own id _ off m row fix ⟨st, ho⟩ hlen
theorem contains_sl {h h' : Hp} {k : SK} {n : Nat} {c : List AV} {s : Str} {v : AV} (e : (qb6 [.sl k n c, .str s]).run h = some (v, h')) : h' = h ∧ ∃ l, c = strs l ∧ l.length = n ∧ n < 2 ^ 62 ∧ v = .bool (decide (s ∈ l)) := by
  obtain ⟨_, h1, e1, e2⟩ := bind_some e
  obtain ⟨_, rfl⟩ := qa0 e1
  obtain ⟨⟨m, c'⟩, h4, e7, e8⟩ := bind_some e2
  obtain ⟨_, h6, e11, e12⟩ := bind_some e7
  obtain ⟨hg2, rfl⟩ := qbg e11
  obtain ⟨h7, rfl⟩ := qa0 e12
  simp only [Prod.mk.injEq] at h7
  obtain ⟨rfl, rfl⟩ := h7
  obtain ⟨_, h8, e13, e14⟩ := bind_some e8
  obtain ⟨hg3, rfl⟩ := qbg e13
  obtain ⟨b, h9, e15, e16⟩ := bind_some e14
  obtain ⟨hs, rfl⟩ := qbz e15
  obtain ⟨rfl, rfl⟩ := qa0 e16
  obtain ⟨l, rfl, rfl⟩ := hasStr_some hs
  exact ⟨rfl, l, rfl, by simpa using (show m * 1 = (strs l).length by simpa using hg2).symm, by simpa [Nat.blt_eq] using hg3, rfl⟩
theorem contains_bag {h h' : Hp} {c : List AV} {s : Str} {v : AV} (e : (qb6 [.bag c, .str s]).run h = some (v, h')) : h' = h ∧ ∃ l, c = strs l ∧ v = .bool (decide (s ∈ l)) ∧ c.length < 2 ^ 62 := by
  obtain ⟨_, h8, e13, e14⟩ := bind_some e
  obtain ⟨hg3, rfl⟩ := qbg e13
  obtain ⟨b, h9, e15, e16⟩ := bind_some e14
  obtain ⟨hs, rfl⟩ := qbz e15
  obtain ⟨rfl, rfl⟩ := qa0 e16
  obtain ⟨l, rfl, rfl⟩ := hasStr_some hs
  exact ⟨rfl, l, rfl, rfl, by simpa [Nat.blt_eq] using hg3⟩
theorem strs_perm {c : List AV} {l : List Str} (p : c.Perm (strs l)) : ∃ l', c = strs l' ∧ l'.Perm l := by
  have h : ∀ x ∈ c, ∃ t, x = AV.str t := fun x hx => by
    obtain ⟨t, _, rfl⟩ := List.mem_map.1 (p.mem_iff.1 hx)
    exact ⟨t, rfl⟩
  have h2 : ∃ l', c = strs l' := by
    clear p
    induction c with
    | nil => exact ⟨[], rfl⟩
    | cons x c ih =>
      obtain ⟨t, rfl⟩ := h x List.mem_cons_self
      obtain ⟨l', rfl⟩ := ih fun y hy => h y (List.mem_cons_of_mem _ hy)
      exact ⟨t :: l', rfl⟩
  obtain ⟨l', rfl⟩ := h2
  refine ⟨l', rfl, ?_⟩
  have := p.map (fun | .str s => s | _ => [])
  simpa [strs, Function.comp_def] using this
theorem contains_ok {h h' : Hp} {μ : Nat → Nat} {w : World} {args : List AV} {xs : List Value} {v : AV} (e : (qb6 args).run h = some (v, h')) (s : SR h μ w) (r : VRs h μ w args xs) :
    CallsIn Fence.wide 0 Try.prog 67 xs.toArray w (Got h μ w v h') := by
  have e0 := e
  unfold qb6 at e
  split at e
  · rename_i c t
    obtain ⟨x, y, rfl, hx, hy⟩ := two_args r
    obtain ⟨rfl, l, rfl, rfl, hb⟩ := contains_bag e0
    cases hx with
    | bag _ c' _ p hr =>
      have hlen := p.length_eq
      obtain ⟨l', rfl, hp⟩ := strs_perm p
      have : decide (t ∈ l) = decide (t ∈ l') := by rw [decide_eq_decide]; exact hp.mem_iff.symm
      rw [this]
      exact contains_go (l := l') (.imm _ _ _ (by simp)) (fun i hi => by cases hi) (by simp at hlen hb; omega) s (by simpa using hr) hy
  · rename_i a t hnb
    obtain ⟨x, y, rfl, hx, hy⟩ := two_args r
    cases a with
    | sl k n c =>
      obtain ⟨rfl, l, rfl, rfl, hb, rfl⟩ := contains_sl e0
      exact contains_go (l := l) (.imm _ _ _ (by simp)) (fun i hi => by cases hi) hb s hx hy
    | own id ver off n =>
      obtain ⟨rfl, hid, l, so, rfl, hb, rfl⟩ := contains_own e0
      exact contains_go (l := l) so (fun i hi => by simp [qb1] at hi; subst hi; exact hid) hb s hx hy
    | bag c => exact (hnb c rfl).elim
    | _ =>
      obtain ⟨_, h1, e1, e2⟩ := bind_some e
      obtain ⟨_, h4, e7, e8⟩ := bind_some e2
      cases e7
  · cases e
theorem sums27_ok : SumsOk Try.prog sums27 := fun f sm h => by
  unfold sums27 at h
  cases h1 : Nat.beq f 49 with
  | true =>
    rw [h1] at h; cases h
    obtain rfl := Nat.eq_of_beq_eq_true h1
    exact ⟨⟨_, _, Try.func49, rfl⟩, fun args h h' v μ w xs e s r _ => list_ok e s r⟩
  | false =>
    rw [h1] at h
    dsimp only at h
    cases h2 : Nat.beq f 67 with
    | true =>
      rw [h2] at h; cases h
      obtain rfl := Nat.eq_of_beq_eq_true h2
      exact ⟨⟨_, _, Try.func67, rfl⟩, fun args h h' v μ w xs e s r _ => contains_ok e s r⟩
    | false =>
      rw [h2] at h
      dsimp only at h
      cases h3 : Nat.beq f 73 with
      | true =>
        rw [h3] at h; cases h
        obtain rfl := Nat.eq_of_beq_eq_true h3
        exact ⟨⟨_, _, Try.func73, rfl⟩, fun args h h' v μ w xs e s r _ => sort_ok e s r⟩
      | false =>
        rw [h3] at h
        dsimp only at h
        cases h4 : Nat.beq f 46 with
        | true =>
          rw [h4] at h; cases h
          obtain rfl := Nat.eq_of_beq_eq_true h4
          exact ⟨⟨_, _, Try.func46, rfl⟩, fun args h h' v μ w xs e s r F => grow_ok e s r F⟩
        | false => rw [h4] at h; cases h
end Go.Am
namespace Go.Am
open Go AM

section
variable {h h1 : Hp} {id fn nt : Nat} {T : qba} {ps : List Tmp} {a b : Code} {st : LoopState} {p : Option Code}
theorem LoopAt.keep (l : LoopAt h id fn nt T ps a b st p) (k : Keep h h1) : LoopAt h1 id fn nt T ps a b st p := by
  obtain ⟨v, s, e⟩ := l; exact ⟨v, s, k.same _ _ e⟩
theorem LoopAt.keepBut {X : Nat → Prop} (l : LoopAt h id fn nt T ps a b st p) (k : KeepBut X h h1) (hx : ¬ X id) : LoopAt h1 id fn nt T ps a b st p := by
  obtain ⟨v, s, e⟩ := l; exact ⟨v, s, k.same _ _ hx e⟩
theorem LoopAt.lt (l : LoopAt h id fn nt T ps a b st p) (w : h.WF) : id < h.next := by
  obtain ⟨v, s, e⟩ := l; exact w _ _ e
theorem SlV.ne_loop {sz n : Nat} {v : AV} {c : List AV} (s : SlV h sz v n c) (l : LoopAt h id fn nt T ps a b st p) : ∀ k ∈ qb1 v, k ≠ id := by
  cases s with
  | imm => intro k hk; cases hk
  | own i ver off n row fix r e =>
    intro k hk q
    simp [qb1] at hk
    subst hk q
    obtain ⟨_, e1⟩ := r; obtain ⟨_, _, e2⟩ := l
    rw [e1] at e2; cases e2
theorem LoopAt.fam (_ : LoopAt h id fn nt T ps a b st p) : ∃ L : Hp → LoopState → Option Code → Prop, ∀ g st p, L g st p ↔ LoopAt g id fn nt T ps a b st p := ⟨fun g st p => LoopAt g id fn nt T ps a b st p, fun _ _ _ => Iff.rfl⟩
/-- the record is written -/
theorem LoopAt.put (l : LoopAt h id fn nt T ps a b st p) (st' : LoopState) (p' : Option Code) {Q : Unit → Hp → Prop} (q : ∀ h1, KeepBut (· = id) h h1 → LoopAt h1 id fn nt T ps a b st' p' → Q () h1) :
    Runs (do let o ← AM.hget id; AM.hput id o.ver (.loop fn nt T ps a b st' p')) h Q := by
  obtain ⟨v, s, e⟩ := l
  exact Runs.bind (Runs.hget e (Runs.hput e (Nat.le_refl _) (q _ (KeepBut.put _) ⟨_, _, qb7 _ _ _ _⟩)))
end

section
variable {P : Program} {pol : Pol} {call : qb3} {fn nt fuel : Nat} {h : Hp} {T : qba} {sums : Sums}
theorem R_rangeFunc {f : Operand} {F : AV} {params : Array Tmp} {a b : Code} {Q : Exit × qba → Hp → Prop} (hF : qbd T f = F) (hy : isYield F = false)
    (r : ∀ h1 id, Keep h h1 → LoopAt h1 id fn nt T params.toList a b .ready none → h.next ≤ id → id < h1.next →
      Runs (call F [.func (.yield id) [] []]) h1 fun _ h2 => ∃ st p, LoopAt h2 id fn nt T params.toList a b st p ∧ isBusy st = false ∧ ∀ h3, KeepBut (· = id) h2 h3 → Runs (qc7 p T) h3 Q) :
    Runs (qbn P pol call fn nt fuel (.rangeFunc f params a b) T) h Q := by
  refine Runs.wf fun w => ?_
  simp only [qbn, hF, hy]
  refine Runs.bind (Runs.guard rfl (Runs.bind (Runs.halloc ?_)))
  refine Runs.bind ((r _ h.next (Keep.alloc w _) ⟨_, _, qb7 _ _ _ _⟩ (Nat.le_refl _) (Nat.lt_succ_self _)).mono ?_)
  rintro _ h2 ⟨st, p, hl, hb, k⟩
  refine Runs.bind (Runs.of hl.run ?_)
  dsimp only
  obtain ⟨v, s, e⟩ := hl
  refine Runs.bind (Runs.hget e (Runs.bind (Runs.guard (by rw [hb]; rfl) (Runs.bind (Runs.hput e (Nat.le_refl _) (k _ (KeepBut.put _)))))))
theorem after_none {Q : Exit × qba → Hp → Prop} (q : Q (.normal, T) h) : Runs (qc7 none T) h Q := Runs.pure q
theorem after_ret {Q : Exit × qba → Hp → Prop} (q : Q (.ret, T) h) : Runs (qc7 (some .ret) T) h Q := by
  unfold qc7
  exact Runs.bind (Runs.ofOption rfl (Runs.pure q))
theorem after_exit {id : Nat} {Q : Exit × qba → Hp → Prop} (q : Q (.exit id, T) h) : Runs (qc7 (some (.exit id)) T) h Q := by
  unfold qc7
  exact Runs.bind (Runs.ofOption rfl (Runs.pure q))

theorem K_round_end {l : Nat} {T0 : qba} {ps : List Tmp} {a b : Code} {Q : AV → Hp → Prop} {st : LoopState} {p : Option Code} (hl : LoopAt h l fn nt T0 ps a b st p) (q : ∀ h4, KeepBut (· = l) h h4 → LoopAt h4 l fn nt T0 ps a b .ready none → Q (.bool true) h4) : KRound l fn nt T0 ps a b Q (.normal, T) h :=
  ⟨.ready, none, st, p, rfl, hl, q⟩
theorem K_round_ret {l : Nat} {T0 : qba} {ps : List Tmp} {a b : Code} {Q : AV → Hp → Prop} {st : LoopState} {p : Option Code} (hl : LoopAt h l fn nt T0 ps a b st p) (q : ∀ h4, KeepBut (· = l) h h4 → LoopAt h4 l fn nt T0 ps a b .done (some .ret) → Q (.bool false) h4) : KRound l fn nt T0 ps a b Q (.ret, T) h :=
  ⟨.done, some .ret, st, p, rfl, hl, q⟩
theorem K_assign {n l : Nat} {T0 : qba} {ps : List Tmp} {a b : Code} {Q : AV → Hp → Prop} (hl : LoopAt h l fn nt T0 ps a b .ready none) (q : ∀ h2, KeepBut (· = l) h h2 → LoopAt h2 l fn nt T0 ps a b .busy none → Runs (qbn P pol call fn nt n b T) h2 (KRound l fn nt T0 ps a b Q)) : KAssign P pol call n l fn nt T0 ps a b Q (.normal, T) h := ⟨rfl, hl, q⟩
theorem R_gen {c : Code} {Q : Exit × qba → Hp → Prop} (Pr : qba → Prop) (h0 : Pr T) (r : ∀ T, Pr T → Runs (qbn P pol call fn nt fuel c T) h Q) : Runs (qbn P pol call fn nt fuel c T) h Q := r T h0
theorem aparams_cons (nt t : Nat) (ts : List Tmp) (v : AV) (vs : List AV) (T : qba) : aparams nt (t :: ts) (v :: vs) T = aparams nt ts vs (qbv? nt T (some t) v) := rfl
theorem aparams_nil (nt : Nat) (vs : List AV) (T : qba) : aparams nt [] vs T = T := by cases vs <;> rfl
end
end Go.Am
namespace Go.Am
open Go Go.Proofs AM
set_option maxRecDepth 10000
variable {pol : Pol} {sums : Sums}
attribute [local irreducible] KSeq KMid KBlock KLoop KOps KFunc Runs qb9 qbn qdl aop qbt qbq qbv qbv? qbd qbw qa9
attribute [local irreducible] KRound KAssign

structure S27' (pol : Pol) (sums : Sums) : Prop extends S27 pol sums where
  list : sums 49 = some listSum
  sort : sums 73 = some sortSum
  grow : sums 46 = some growSum

theorem values1_spec (S : S27' pol sums) {n : Nat} {h : Hp} {i1 : Nat} {s Y : AV} {l : List Int} (hn : l.length + 4 ≤ n) (r1 : Row h i1 0 1 [s] true) (hb : l.length < 2 ^ 62) (I : Nat → Hp → Prop) (h0 : I 0 h) (hI : ∀ i g, I i g → Ints g s l)
    (hY : ∀ i (hi : i < l.length) g m, n ≤ m + 2 → I i g → Runs (qbt Try.prog pol sums m Y [.int .i64 l[i]]) g fun v g' => v = .bool true ∧ I (i + 1) g') :
    Runs (qbt Try.prog pol sums n (.func (.func 74) [] [.ptr i1 0 0]) [Y]) h (fun _ g => I l.length g) := by
  have s74 : sums 74 = none := S.rest _ (by decide)
  obtain ⟨n, rfl⟩ : ∃ m, n = m + 1 := ⟨n - 1, by omega⟩
  refine qcq (by assumption) Try.func74 rfl (by simp [Try.f74]) ?_
  have a0 : qbq (qa9 Try.f74.ntmps (([] ++ [Y] ++ [.ptr i1 0 0]) : List AV)) 0 = Y := qa8 rfl
  have a1 : qbq (qa9 Try.f74.ntmps (([] ++ [Y] ++ [.ptr i1 0 0]) : List AV)) 1 = .ptr i1 0 0 := qa8 rfl
  generalize qa9 Try.f74.ntmps (([] ++ [Y] ++ [.ptr i1 0 0]) : List AV) = T at *
  show Runs (qbn _ _ _ _ 16 _ _ _) _ _
  have o := hI 0 h h0
  (repeat (first|refine KW.go ?_|((first|apply qaw|apply qaz|apply qa1|apply qa4|apply qay|apply qax|apply qar|apply qal|apply qaj|apply qap)<;>first|(apply qam;(repeat' first|assumption|exact qaa rfl|apply qaf rfl|apply qab);done)|exact qao _ _|exact qai _|exact qan _|exact qad|exact qag|exact qae|exact qac|exact qah _|exact qau _ (by omega)|exact qat (by omega)|exact qas (by omega)|exact rfl|assumption|apply qav)|((first|apply qa3|apply qaq|apply qak)<;>first|(apply qam;(repeat' first|assumption|exact qaa rfl|apply qaf rfl|apply qab);done)|exact qao _ _|exact qai _|exact qan _|exact qad|exact qag|exact qae|exact qac|exact qah _|exact qau _ (by omega)|exact qat (by omega)|exact qas (by omega)|exact rfl|assumption|apply qav)|(apply qa2 rfl rfl;(focus (repeat' first|assumption|exact qaa rfl|apply qaf rfl|apply qab);done))|(apply qbj rfl rfl;(focus (repeat' first|assumption|exact qaa rfl|apply qaf rfl|apply qab);done);exact rfl)))
  apply R_loop (k := l.length) (I := fun k T g => ∃ i, k = l.length - i ∧ i ≤ l.length ∧ qbq T 0 = Y ∧ qbq T 5 = s ∧ qbq T 6 = .int .i64 (l.length : Nat) ∧ qbq T 7 = .int .i64 (i : Nat) ∧ I i g)
  · omega
  · exact ⟨0, by omega, by omega, by (repeat' first|assumption|exact qaa rfl|apply qaf rfl|apply qab), by (repeat' first|assumption|exact qaa rfl|apply qaf rfl|apply qab), by (repeat' first|assumption|exact qaa rfl|apply qaf rfl|apply qab), by (repeat' first|assumption|exact qaa rfl|apply qaf rfl|apply qab), h0⟩
  · rintro k T g ⟨i, rfl, hi, t0, t5, t6, t7, hI'⟩
    (repeat (first|refine KW.go ?_|((first|apply qaw|apply qaz|apply qa1|apply qa4|apply qay|apply qax|apply qar|apply qal|apply qaj|apply qap)<;>first|(apply qam;(repeat' first|assumption|exact qaa rfl|apply qaf rfl|apply qab);done)|exact qao _ _|exact qai _|exact qan _|exact qad|exact qag|exact qae|exact qac|exact qah _|exact qau _ (by omega)|exact qat (by omega)|exact qas (by omega)|exact rfl|assumption|apply qav)|((first|apply qa3|apply qaq|apply qak)<;>first|(apply qam;(repeat' first|assumption|exact qaa rfl|apply qaf rfl|apply qab);done)|exact qao _ _|exact qai _|exact qan _|exact qad|exact qag|exact qae|exact qac|exact qah _|exact qau _ (by omega)|exact qat (by omega)|exact qas (by omega)|exact rfl|assumption|apply qav)|(apply qa2 rfl rfl;(focus (repeat' first|assumption|exact qaa rfl|apply qaf rfl|apply qab);done))|(apply qbj rfl rfl;(focus (repeat' first|assumption|exact qaa rfl|apply qaf rfl|apply qab);done);exact rfl)))
    apply qbx (decide ((i : Int) < (l.length : Int)))
    · (focus first|(apply qam;(repeat' first|assumption|exact qaa rfl|apply qaf rfl|apply qab);done)|exact qao _ _|exact qai _|exact qan _|exact qad|exact qag|exact qae|exact qac|exact qah _)
    · intro c
      have hlt : i < l.length := by simpa using c
      (repeat (first|refine KW.go ?_|((first|apply qaw|apply qaz|apply qa1|apply qa4|apply qay|apply qax|apply qar|apply qal|apply qaj|apply qap)<;>first|(apply qam;(repeat' first|assumption|exact qaa rfl|apply qaf rfl|apply qab);done)|exact qao _ _|exact qai _|exact qan _|exact qad|exact qag|exact qae|exact qac|exact qah _|exact qau _ (by omega)|exact qat (by omega)|exact qas (by omega)|exact rfl|assumption|apply qav)|((first|apply qa3|apply qaq|apply qak)<;>first|(apply qam;(repeat' first|assumption|exact qaa rfl|apply qaf rfl|apply qab);done)|exact qao _ _|exact qai _|exact qan _|exact qad|exact qag|exact qae|exact qac|exact qah _|exact qau _ (by omega)|exact qat (by omega)|exact qas (by omega)|exact rfl|assumption|apply qav)|(apply qa2 rfl rfl;(focus (repeat' first|assumption|exact qaa rfl|apply qaf rfl|apply qab);done))|(apply qbj rfl rfl;(focus (repeat' first|assumption|exact qaa rfl|apply qaf rfl|apply qab);done);exact rfl)))
      apply qbp
      · (focus first|(apply qam;(repeat' first|assumption|exact qaa rfl|apply qaf rfl|apply qab);done)|exact qao _ _|exact qai _|exact qan _|exact qad|exact qag|exact qae|exact qac|exact qah _)
      · exact hI i g hI'
      · (focus first|(apply qam;(repeat' first|assumption|exact qaa rfl|apply qaf rfl|apply qab);done)|exact qao _ _|exact qai _|exact qan _|exact qad|exact qag|exact qae|exact qac|exact qah _)
      · omega
      · rfl
      intro a ha _
      rw [ints_at hlt] at ha
      apply qce
      · (focus first|(apply qam;(repeat' first|assumption|exact qaa rfl|apply qaf rfl|apply qab);done)|exact qao _ _|exact qai _|exact qan _|exact qad|exact qag|exact qae|exact qac|exact qah _)
      · exact ha
      (repeat (first|refine KW.go ?_|((first|apply qaw|apply qaz|apply qa1|apply qa4|apply qay|apply qax|apply qar|apply qal|apply qaj|apply qap)<;>first|(apply qam;(repeat' first|assumption|exact qaa rfl|apply qaf rfl|apply qab);done)|exact qao _ _|exact qai _|exact qan _|exact qad|exact qag|exact qae|exact qac|exact qah _|exact qau _ (by omega)|exact qat (by omega)|exact qas (by omega)|exact rfl|assumption|apply qav)|((first|apply qa3|apply qaq|apply qak)<;>first|(apply qam;(repeat' first|assumption|exact qaa rfl|apply qaf rfl|apply qab);done)|exact qao _ _|exact qai _|exact qan _|exact qad|exact qag|exact qae|exact qac|exact qah _|exact qau _ (by omega)|exact qat (by omega)|exact qas (by omega)|exact rfl|assumption|apply qav)|(apply qa2 rfl rfl;(focus (repeat' first|assumption|exact qaa rfl|apply qaf rfl|apply qab);done))|(apply qbj rfl rfl;(focus (repeat' first|assumption|exact qaa rfl|apply qaf rfl|apply qab);done);exact rfl)))
      (apply qb5; (focus first|(apply qam;(repeat' first|assumption|exact qaa rfl|apply qaf rfl|apply qab);done)|exact qao _ _|exact qai _|exact qan _|exact qad|exact qag|exact qae|exact qac|exact qah _); (repeat (apply qbb; (focus first|(apply qam;(repeat' first|assumption|exact qaa rfl|apply qaf rfl|apply qab);done)|exact qao _ _|exact qai _|exact qan _|exact qad|exact qag|exact qae|exact qac|exact qah _))); exact qbi)
      refine (hY i hlt g n (by omega) hI').mono ?_
      rintro v g' ⟨rfl, hI2⟩
      refine ⟨Undis.off rfl, ?_⟩
      (repeat (first|refine KW.go ?_|((first|apply qaw|apply qaz|apply qa1|apply qa4|apply qay|apply qax|apply qar|apply qal|apply qaj|apply qap)<;>first|(apply qam;(repeat' first|assumption|exact qaa rfl|apply qaf rfl|apply qab);done)|exact qao _ _|exact qai _|exact qan _|exact qad|exact qag|exact qae|exact qac|exact qah _|exact qau _ (by omega)|exact qat (by omega)|exact qas (by omega)|exact rfl|assumption|apply qav)|((first|apply qa3|apply qaq|apply qak)<;>first|(apply qam;(repeat' first|assumption|exact qaa rfl|apply qaf rfl|apply qab);done)|exact qao _ _|exact qai _|exact qan _|exact qad|exact qag|exact qae|exact qac|exact qah _|exact qau _ (by omega)|exact qat (by omega)|exact qas (by omega)|exact rfl|assumption|apply qav)|(apply qa2 rfl rfl;(focus (repeat' first|assumption|exact qaa rfl|apply qaf rfl|apply qab);done))|(apply qbj rfl rfl;(focus (repeat' first|assumption|exact qaa rfl|apply qaf rfl|apply qab);done);exact rfl)))
      apply qbx (!true)
      · (focus first|(apply qam;(repeat' first|assumption|exact qaa rfl|apply qaf rfl|apply qab);done)|exact qao _ _|exact qai _|exact qan _|exact qad|exact qag|exact qae|exact qac|exact qah _)
      · intro c; cases c
      intro _
      (repeat (first|refine KW.go ?_|((first|apply qaw|apply qaz|apply qa1|apply qa4|apply qay|apply qax|apply qar|apply qal|apply qaj|apply qap)<;>first|(apply qam;(repeat' first|assumption|exact qaa rfl|apply qaf rfl|apply qab);done)|exact qao _ _|exact qai _|exact qan _|exact qad|exact qag|exact qae|exact qac|exact qah _|exact qau _ (by omega)|exact qat (by omega)|exact qas (by omega)|exact rfl|assumption|apply qav)|((first|apply qa3|apply qaq|apply qak)<;>first|(apply qam;(repeat' first|assumption|exact qaa rfl|apply qaf rfl|apply qab);done)|exact qao _ _|exact qai _|exact qan _|exact qad|exact qag|exact qae|exact qac|exact qah _|exact qau _ (by omega)|exact qat (by omega)|exact qas (by omega)|exact rfl|assumption|apply qav)|(apply qa2 rfl rfl;(focus (repeat' first|assumption|exact qaa rfl|apply qaf rfl|apply qab);done))|(apply qbj rfl rfl;(focus (repeat' first|assumption|exact qaa rfl|apply qaf rfl|apply qab);done);exact rfl)))
      apply qdg (l.length - (i + 1)) (by omega)
      exact ⟨i + 1, rfl, by omega, by (repeat' first|assumption|exact qaa rfl|apply qaf rfl|apply qab), by (repeat' first|assumption|exact qaa rfl|apply qaf rfl|apply qab), by (repeat' first|assumption|exact qaa rfl|apply qaf rfl|apply qab), by (repeat' first|assumption|exact qaa rfl|apply qaf rfl|apply qab), hI2⟩
    · intro c
      have : i = l.length := by
        have : ¬ i < l.length := by simpa using c
        omega
      subst this
      (repeat (first|refine KW.go ?_|((first|apply qaw|apply qaz|apply qa1|apply qa4|apply qay|apply qax|apply qar|apply qal|apply qaj|apply qap)<;>first|(apply qam;(repeat' first|assumption|exact qaa rfl|apply qaf rfl|apply qab);done)|exact qao _ _|exact qai _|exact qan _|exact qad|exact qag|exact qae|exact qac|exact qah _|exact qau _ (by omega)|exact qat (by omega)|exact qas (by omega)|exact rfl|assumption|apply qav)|((first|apply qa3|apply qaq|apply qak)<;>first|(apply qam;(repeat' first|assumption|exact qaa rfl|apply qaf rfl|apply qab);done)|exact qao _ _|exact qai _|exact qan _|exact qad|exact qag|exact qae|exact qac|exact qah _|exact qau _ (by omega)|exact qat (by omega)|exact qas (by omega)|exact rfl|assumption|apply qav)|(apply qa2 rfl rfl;(focus (repeat' first|assumption|exact qaa rfl|apply qaf rfl|apply qab);done))|(apply qbj rfl rfl;(focus (repeat' first|assumption|exact qaa rfl|apply qaf rfl|apply qab);done);exact rfl)))
      apply R_results0 rfl
      exact hI'

theorem appendSeq_spec (S : S27' pol sums) {n : Nat} {h : Hp} {i1 : Nat} {s : AV} {l : List Int} (hn : l.length + 8 ≤ n) (r1 : Row h i1 0 1 [s] true) (o : Ints h s l) (hb : l.length < 2 ^ 40) :
    Runs (qbt Try.prog pol sums n (.func (.func 80) [] []) [.sl .nil 0 [], .func (.func 74) [] [.ptr i1 0 0]]) h (fun v h' => Keep h h' ∧ Ints h' v l ∧ qdh v = true ∧ (l ≠ [] → qb1 v ≠ []) ∧ (l = [] → v = .sl .nil 0 []) ∧ ∀ k ∈ qb1 v, h.next ≤ k) := by
  apply Runs.wf
  intro w
  have s80 : sums 80 = none := S.rest _ (by decide)
  obtain ⟨n, rfl⟩ : ∃ m, n = m + 1 := ⟨n - 1, by omega⟩
  refine qcq (by assumption) Try.func80 rfl (by simp [Try.f80]) ?_
  have a0 : qbq (qa9 Try.f80.ntmps (([] ++ [.sl .nil 0 [], .func (.func 74) [] [.ptr i1 0 0]] ++ []) : List AV)) 0 = .sl .nil 0 [] := qa8 rfl
  have a1 : qbq (qa9 Try.f80.ntmps (([] ++ [.sl .nil 0 [], .func (.func 74) [] [.ptr i1 0 0]] ++ []) : List AV)) 1 = .func (.func 74) [] [.ptr i1 0 0] := qa8 rfl
  generalize qa9 Try.f80.ntmps (([] ++ [.sl .nil 0 [], .func (.func 74) [] [.ptr i1 0 0]] ++ []) : List AV) = T at *
  show Runs (qbn _ _ _ _ 13 _ _ _) _ _
  (repeat (first|refine KW.go ?_|((first|apply qaw|apply qaz|apply qa1|apply qa4|apply qay|apply qax|apply qar|apply qal|apply qaj|apply qap)<;>first|(apply qam;(repeat' first|assumption|exact qaa rfl|apply qaf rfl|apply qab);done)|exact qao _ _|exact qai _|exact qan _|exact qad|exact qag|exact qae|exact qac|exact qah _|exact qau _ (by omega)|exact qat (by omega)|exact qas (by omega)|exact rfl|assumption|apply qav)|((first|apply qa3|apply qaq|apply qak)<;>first|(apply qam;(repeat' first|assumption|exact qaa rfl|apply qaf rfl|apply qab);done)|exact qao _ _|exact qai _|exact qan _|exact qad|exact qag|exact qae|exact qac|exact qah _|exact qau _ (by omega)|exact qat (by omega)|exact qas (by omega)|exact rfl|assumption|apply qav)|(apply qa2 rfl rfl;(focus (repeat' first|assumption|exact qaa rfl|apply qaf rfl|apply qab);done))|(apply qbj rfl rfl;(focus (repeat' first|assumption|exact qaa rfl|apply qaf rfl|apply qab);done);exact rfl)))
  apply O_box
  · (focus first|(apply qam;(repeat' first|assumption|exact qaa rfl|apply qaf rfl|apply qab);done)|exact qao _ _|exact qai _|exact qan _|exact qad|exact qag|exact qae|exact qac|exact qah _)
  · rfl
  intro g1 i2 k1 r2 l1 l2
  change Row g1 i2 0 1 [.sl .nil 0 []] true at r2
  (repeat (first|refine KW.go ?_|((first|apply qaw|apply qaz|apply qa1|apply qa4|apply qay|apply qax|apply qar|apply qal|apply qaj|apply qap)<;>first|(apply qam;(repeat' first|assumption|exact qaa rfl|apply qaf rfl|apply qab);done)|exact qao _ _|exact qai _|exact qan _|exact qad|exact qag|exact qae|exact qac|exact qah _|exact qau _ (by omega)|exact qat (by omega)|exact qas (by omega)|exact rfl|assumption|apply qav)|((first|apply qa3|apply qaq|apply qak)<;>first|(apply qam;(repeat' first|assumption|exact qaa rfl|apply qaf rfl|apply qab);done)|exact qao _ _|exact qai _|exact qan _|exact qad|exact qag|exact qae|exact qac|exact qah _|exact qau _ (by omega)|exact qat (by omega)|exact qas (by omega)|exact rfl|assumption|apply qav)|(apply qa2 rfl rfl;(focus (repeat' first|assumption|exact qaa rfl|apply qaf rfl|apply qab);done))|(apply qbj rfl rfl;(focus (repeat' first|assumption|exact qaa rfl|apply qaf rfl|apply qab);done);exact rfl)))
  apply R_midB (fun T g => qbq T 2 = .ptr i2 0 0 ∧ KeepBut (h.next ≤ ·) h g ∧ ∃ v, Row g i2 0 1 [v] true ∧ Ints g v l ∧ qdh v = true ∧ (l ≠ [] → qb1 v ≠ []) ∧ (l = [] → v = .sl .nil 0 []) ∧ ∀ k ∈ qb1 v, h.next ≤ k)
  · refine R_gen (fun T => qbq T 2 = .ptr i2 0 0 ∧ qbq T 6 = .func (.func 74) [] [.ptr i1 0 0]) ⟨by (repeat' first|assumption|exact qaa rfl|apply qaf rfl|apply qab), by (repeat' first|assumption|exact qaa rfl|apply qaf rfl|apply qab)⟩ ?_
    rintro T0 ⟨t2, t6⟩
    apply R_rangeFunc (F := .func (.func 74) [] [.ptr i1 0 0])
    · (focus first|(apply qam;(repeat' first|assumption|exact qaa rfl|apply qaf rfl|apply qab);done)|exact qao _ _|exact qai _|exact qan _|exact qad|exact qag|exact qae|exact qac|exact qah _)
    · rfl
    intro g2 lid k2 hl l3 l4
    have r2' := r2.keep k2
    have o1 := o.keep (k1.trans k2)
    refine (values1_spec S (l := l) (n := n) (by omega) (r1.keep (k1.trans k2)) (by omega) (fun i g => KeepBut (h.next ≤ ·) h g ∧ LoopAt g lid 80 13 T0 [7] (.region 2 #[⟨some 5, .assign (.tmp 7), 3, "iter.go:51", #[], none⟩] false) _ .ready none ∧ ∃ v, Row g i2 0 1 [v] true ∧ Ints g v (l.take i) ∧ qdh v = true ∧ (0 < i → qb1 v ≠ []) ∧ (i = 0 → v = .sl .nil 0 []) ∧ ∀ k ∈ qb1 v, h.next ≤ k ∧ k ≠ i2 ∧ k ≠ lid) ⟨(k1.trans k2).but _, hl, _, r2', SlV.nil, rfl, fun c => absurd c (by omega), fun _ => rfl, by simp [qb1]⟩ (fun i g hg => o.old w hg.1) ?_).mono ?_
    · rintro i hi g m hm ⟨kp, hl, v, rv, sv, gv, nv, zv, iv⟩
      obtain ⟨m, rfl⟩ : ∃ q, m = q + 1 := ⟨m - 1, by omega⟩
      refine R_yield hl rfl ?_
      rw [aparams_cons, aparams_nil]
      (repeat (first|refine KW.go ?_|((first|apply qaw|apply qaz|apply qa1|apply qa4|apply qay|apply qax|apply qar|apply qal|apply qaj|apply qap)<;>first|(apply qam;(repeat' first|assumption|exact qaa rfl|apply qaf rfl|apply qab);done)|exact qao _ _|exact qai _|exact qan _|exact qad|exact qag|exact qae|exact qac|exact qah _|exact qau _ (by omega)|exact qat (by omega)|exact qas (by omega)|exact rfl|assumption|apply qav)|((first|apply qa3|apply qaq|apply qak)<;>first|(apply qam;(repeat' first|assumption|exact qaa rfl|apply qaf rfl|apply qab);done)|exact qao _ _|exact qai _|exact qan _|exact qad|exact qag|exact qae|exact qac|exact qah _|exact qau _ (by omega)|exact qat (by omega)|exact qas (by omega)|exact rfl|assumption|apply qav)|(apply qa2 rfl rfl;(focus (repeat' first|assumption|exact qaa rfl|apply qaf rfl|apply qab);done))|(apply qbj rfl rfl;(focus (repeat' first|assumption|exact qaa rfl|apply qaf rfl|apply qab);done);exact rfl)))
      refine K_assign hl fun g3 kb3 hl3 => ?_
      have hne : i2 ≠ lid := by omega
      have rv3 := rv.keepBut kb3 hne
      have sv3 := sv.keepBut kb3 fun k hk => (iv k hk).2.2
      (repeat (first|refine KW.go ?_|((first|apply qaw|apply qaz|apply qa1|apply qa4|apply qay|apply qax|apply qar|apply qal|apply qaj|apply qap)<;>first|(apply qam;(repeat' first|assumption|exact qaa rfl|apply qaf rfl|apply qab);done)|exact qao _ _|exact qai _|exact qan _|exact qad|exact qag|exact qae|exact qac|exact qah _|exact qau _ (by omega)|exact qat (by omega)|exact qas (by omega)|exact rfl|assumption|apply qav)|((first|apply qa3|apply qaq|apply qak)<;>first|(apply qam;(repeat' first|assumption|exact qaa rfl|apply qaf rfl|apply qab);done)|exact qao _ _|exact qai _|exact qan _|exact qad|exact qag|exact qae|exact qac|exact qah _|exact qau _ (by omega)|exact qat (by omega)|exact qas (by omega)|exact rfl|assumption|apply qav)|(apply qa2 rfl rfl;(focus (repeat' first|assumption|exact qaa rfl|apply qaf rfl|apply qab);done))|(apply qbj rfl rfl;(focus (repeat' first|assumption|exact qaa rfl|apply qaf rfl|apply qab);done);exact rfl)))
      apply qcb
      · exact qbs (by (focus first|(apply qam;(repeat' first|assumption|exact qaa rfl|apply qaf rfl|apply qab);done)|exact qao _ _|exact qai _|exact qan _|exact qad|exact qag|exact qae|exact qac|exact qah _)) qcc
      · rfl
      · rfl
      · exact S.lit _ _
      intro _
      apply O_wf
      intro w3
      apply O_append (new := [.int .i64 l[i]]) (m := 1) (bytes := 8)
      · exact qbb (by (focus first|(apply qam;(repeat' first|assumption|exact qaa rfl|apply qaf rfl|apply qab);done)|exact qao _ _|exact qai _|exact qan _|exact qad|exact qag|exact qae|exact qac|exact qah _)) (qbb (by (focus first|(apply qam;(repeat' first|assumption|exact qaa rfl|apply qaf rfl|apply qab);done)|exact qao _ _|exact qai _|exact qan _|exact qad|exact qag|exact qae|exact qac|exact qah _)) qbi)
      · exact sv3
      · exact gv
      · exact SlV.imm _ _ _ rfl
      · rfl
      · rfl
      · simp only [room, List.length_take]; omega
      intro v' g4 kb4 s4 gr4 iv4 ne4
      refine ⟨Undis.off rfl, ?_⟩
      have rv4 := rv3.keepBut kb4 fun q => (iv _ q).2.1 rfl
      (repeat (first|refine KW.go ?_|((first|apply qaw|apply qaz|apply qa1|apply qa4|apply qay|apply qax|apply qar|apply qal|apply qaj|apply qap)<;>first|(apply qam;(repeat' first|assumption|exact qaa rfl|apply qaf rfl|apply qab);done)|exact qao _ _|exact qai _|exact qan _|exact qad|exact qag|exact qae|exact qac|exact qah _|exact qau _ (by omega)|exact qat (by omega)|exact qas (by omega)|exact rfl|assumption|apply qav)|((first|apply qa3|apply qaq|apply qak)<;>first|(apply qam;(repeat' first|assumption|exact qaa rfl|apply qaf rfl|apply qab);done)|exact qao _ _|exact qai _|exact qan _|exact qad|exact qag|exact qae|exact qac|exact qah _|exact qau _ (by omega)|exact qat (by omega)|exact qas (by omega)|exact rfl|assumption|apply qav)|(apply qa2 rfl rfl;(focus (repeat' first|assumption|exact qaa rfl|apply qaf rfl|apply qab);done))|(apply qbj rfl rfl;(focus (repeat' first|assumption|exact qaa rfl|apply qaf rfl|apply qab);done);exact rfl)))
      apply qcj
      · (focus first|(apply qam;(repeat' first|assumption|exact qaa rfl|apply qaf rfl|apply qab);done)|exact qao _ _|exact qai _|exact qan _|exact qad|exact qag|exact qae|exact qac|exact qah _)
      · (focus first|(apply qam;(repeat' first|assumption|exact qaa rfl|apply qaf rfl|apply qab);done)|exact qao _ _|exact qai _|exact qan _|exact qad|exact qag|exact qae|exact qac|exact qah _)
      · exact rv4
      · simp [s4.acells, s4.one, ones]
      intro g5 kb5 r5
      refine ⟨Undis.off rfl, ?_⟩
      rw [s4.acells] at r5
      change Row g5 i2 0 1 [v'] true at r5
      have hl4 := (hl3.keepBut kb4 fun q => (iv _ q).2.2 rfl).keepBut kb5 (fun q => hne q.symm)
      have hlid := hl3.lt w3
      have hi2 := rv3.lt w3
      have iv' : ∀ k ∈ qb1 v', h.next ≤ k ∧ k ≠ i2 ∧ k ≠ lid := fun k hk => by
        rcases iv4 k hk with q | q
        · exact iv k q
        · refine ⟨?_, by omega, by omega⟩
          have := kp.next; have := kb3.next; omega
      have s5 := s4.keepBut kb5 fun k hk e => (iv' k hk).2.1 e
      (repeat (first|refine KW.go ?_|((first|apply qaw|apply qaz|apply qa1|apply qa4|apply qay|apply qax|apply qar|apply qal|apply qaj|apply qap)<;>first|(apply qam;(repeat' first|assumption|exact qaa rfl|apply qaf rfl|apply qab);done)|exact qao _ _|exact qai _|exact qan _|exact qad|exact qag|exact qae|exact qac|exact qah _|exact qau _ (by omega)|exact qat (by omega)|exact qas (by omega)|exact rfl|assumption|apply qav)|((first|apply qa3|apply qaq|apply qak)<;>first|(apply qam;(repeat' first|assumption|exact qaa rfl|apply qaf rfl|apply qab);done)|exact qao _ _|exact qai _|exact qan _|exact qad|exact qag|exact qae|exact qac|exact qah _|exact qau _ (by omega)|exact qat (by omega)|exact qas (by omega)|exact rfl|assumption|apply qav)|(apply qa2 rfl rfl;(focus (repeat' first|assumption|exact qaa rfl|apply qaf rfl|apply qab);done))|(apply qbj rfl rfl;(focus (repeat' first|assumption|exact qaa rfl|apply qaf rfl|apply qab);done);exact rfl)))
      refine K_round_end hl4 fun g6 kb6 hl6 => ⟨rfl, ?_, hl6, v', r5.keepBut kb6 hne, ?_, gr4, fun _ => ne4 (by omega), fun c => (by omega), iv'⟩
      · exact (((kp.trans (kb3.weaken fun k hk => by subst hk; have := k1.next; omega)).trans (kb4.weaken fun k hk => (iv k hk).1)).trans (kb5.weaken fun k hk => by subst hk; exact l1)).trans (kb6.weaken fun k hk => by subst hk; have := k1.next; omega)
      · have s6 := s5.keepBut kb6 fun k hk e => (iv' k hk).2.2 e
        have e1 : ints (l.take (i + 1)) = ints (l.take i) ++ [.int .i64 l[i]] := by rw [List.take_succ_eq_append_getElem hi, ints_append]; rfl
        have e2 : (l.take (i + 1)).length = (l.take i).length + 1 := by simp; omega
        show SlV g6 1 v' (l.take (i + 1)).length (ints (l.take (i + 1)))
        rw [e1, e2]
        exact s6
    · rintro _ g ⟨kp, hl, v, rv, sv, gv, nv, zv, iv⟩
      rw [List.take_length] at sv
      refine ⟨.ready, none, hl, rfl, fun g3 kb3 => after_none ?_⟩
      (repeat (first|refine KW.go ?_|((first|apply qaw|apply qaz|apply qa1|apply qa4|apply qay|apply qax|apply qar|apply qal|apply qaj|apply qap)<;>first|(apply qam;(repeat' first|assumption|exact qaa rfl|apply qaf rfl|apply qab);done)|exact qao _ _|exact qai _|exact qan _|exact qad|exact qag|exact qae|exact qac|exact qah _|exact qau _ (by omega)|exact qat (by omega)|exact qas (by omega)|exact rfl|assumption|apply qav)|((first|apply qa3|apply qaq|apply qak)<;>first|(apply qam;(repeat' first|assumption|exact qaa rfl|apply qaf rfl|apply qab);done)|exact qao _ _|exact qai _|exact qan _|exact qad|exact qag|exact qae|exact qac|exact qah _|exact qau _ (by omega)|exact qat (by omega)|exact qas (by omega)|exact rfl|assumption|apply qav)|(apply qa2 rfl rfl;(focus (repeat' first|assumption|exact qaa rfl|apply qaf rfl|apply qab);done))|(apply qbj rfl rfl;(focus (repeat' first|assumption|exact qaa rfl|apply qaf rfl|apply qab);done);exact rfl)))
      apply K_mid
      have hne : i2 ≠ lid := by omega
      refine ⟨t2, kp.trans (kb3.weaken fun k hk => by subst hk; have := k1.next; omega), v, rv.keepBut kb3 hne, sv.keepBut kb3 (fun k hk e => (iv k hk).2.2 e), gv, fun c => nv (List.length_pos_iff.2 c), fun c => zv (by rw [c]; rfl), fun k hk => (iv k hk).1⟩
  rintro T g ⟨t2, kp, v, r, q1, q2, q3, q4, q5⟩
  (repeat (first|refine KW.go ?_|((first|apply qaw|apply qaz|apply qa1|apply qa4|apply qay|apply qax|apply qar|apply qal|apply qaj|apply qap)<;>first|(apply qam;(repeat' first|assumption|exact qaa rfl|apply qaf rfl|apply qab);done)|exact qao _ _|exact qai _|exact qan _|exact qad|exact qag|exact qae|exact qac|exact qah _|exact qau _ (by omega)|exact qat (by omega)|exact qas (by omega)|exact rfl|assumption|apply qav)|((first|apply qa3|apply qaq|apply qak)<;>first|(apply qam;(repeat' first|assumption|exact qaa rfl|apply qaf rfl|apply qab);done)|exact qao _ _|exact qai _|exact qan _|exact qad|exact qag|exact qae|exact qac|exact qah _|exact qau _ (by omega)|exact qat (by omega)|exact qas (by omega)|exact rfl|assumption|apply qav)|(apply qa2 rfl rfl;(focus (repeat' first|assumption|exact qaa rfl|apply qaf rfl|apply qab);done))|(apply qbj rfl rfl;(focus (repeat' first|assumption|exact qaa rfl|apply qaf rfl|apply qab);done);exact rfl)))
  (apply qbl rfl; (repeat' first|assumption|exact qaa rfl|apply qaf rfl|apply qab))
  exact ⟨kp.toKeep w, q1, q2, q3, q4, q5⟩

theorem sort_spec (hs : sums 73 = some sortSum) {n : Nat} (hn : 1 ≤ n) {h : Hp} {v : AV} {l : List Int} (o : Ints h v l) (hg : qdh v = true) (h1 : l ≠ [] → qb1 v ≠ []) (h2 : l = [] → v = .sl .nil 0 []) (hb : l.length < 2 ^ 61) :
    Runs (qbt Try.prog pol sums n (.func (.func 73) [] []) [v]) h (fun r h' => r = .tuple [] ∧ KeepBut (· ∈ qb1 v) h h' ∧ Ints h' v (qc8 l)) := by
  obtain ⟨n, rfl⟩ : ∃ m, n = m + 1 := ⟨n - 1, by omega⟩
  refine R_sum hs ?_
  simp only [List.nil_append, List.append_nil]
  by_cases he : l = []
  · obtain rfl := h2 he
    subst he
    exact Runs.pure ⟨rfl, KeepBut.refl _, o⟩
  · obtain ⟨id, ver, fix, len, rfl, row, r, hlen, h3, h4⟩ := o.rowInts (h1 he) hg
    obtain ⟨k, hk⟩ : ∃ k, l.length = k + 1 := ⟨l.length - 1, by have := List.length_pos_iff.2 he; omega⟩
    rw [hk] at h3 h4 ⊢
    simp only [sortSum]
    obtain ⟨st, ho⟩ := r
    refine Runs.bind (Runs.row ho ?_)
    dsimp only
    rw [show (Nat.ble (0 + (k + 1)) row.length && Nat.blt (k + 1) 4611686018427387904) = true by simp [Nat.blt_eq]; omega, qbm, qa6, h4, intsOf_ints, ofOption_some', qa6]
    have hsl : (qc8 l).length = k + 1 := by rw [(sortZ_perm l).length_eq, hk]
    refine Runs.bind (Runs.hput ho (Nat.le_refl _) (Runs.pure ⟨rfl, (KeepBut.put _).weaken (by rintro i rfl; simp [qb1]), ?_⟩))
    have hfit : 0 + (ints (qc8 l)).length ≤ row.length := by simp; omega
    have := SlV.own (h := ⟨h.obj.set id (some ⟨ver, st + 1, .row 1 (splice row 0 (ints (qc8 l))) fix⟩), h.next⟩) (sz := 1) id ver 0 (k + 1) _ fix ⟨_, qb7 _ _ _ _⟩ (by rw [qcn hfit]; omega)
    show SlV _ 1 _ (qc8 l).length (ints (qc8 l))
    rw [hsl]
    have e : ((splice row 0 (ints (qc8 l))).drop 0).take ((k + 1) * 1) = ints (qc8 l) := by
      have := splice_end hfit
      simp only [Nat.zero_add, ints_length, hsl, List.take_zero, List.nil_append] at this
      simpa using this
    rw [e] at this
    exact this

def wholeZ (order : List Int) (many : Nat) : Bool := decide (qc8 order = zs (List.range order.length)) && order.length == many
theorem whole_spec (S : S27' pol sums) {n : Nat} {h : Hp} {s : AV} {l : List Int} (hn : l.length + 12 ≤ n) (o : Ints h s l) (hb : l.length < 2 ^ 40) (many : Nat) :
    Runs (qbt Try.prog pol sums n (.func (.func 28) [] []) [s, .int .i64 (many : Nat)]) h (fun v h' => Keep h h' ∧ v = .bool (wholeZ l many)) := by
  apply Runs.wf
  intro w
  have S' := S.rest
  have s28 : sums 28 = none := S' _ (by decide)
  obtain ⟨n, rfl⟩ : ∃ m, n = m + 1 := ⟨n - 1, by omega⟩
  refine qcq (by assumption) Try.func28 rfl (by simp [Try.f28]) ?_
  have a0 : qbq (qa9 Try.f28.ntmps (([] ++ [s, .int .i64 (many : Nat)] ++ []) : List AV)) 0 = s := qa8 rfl
  have a1 : qbq (qa9 Try.f28.ntmps (([] ++ [s, .int .i64 (many : Nat)] ++ []) : List AV)) 1 = .int .i64 (many : Nat) := qa8 rfl
  generalize qa9 Try.f28.ntmps (([] ++ [s, .int .i64 (many : Nat)] ++ []) : List AV) = T at *
  show Runs (qbn _ _ _ _ 26 _ _ _) _ _
  (repeat (first|refine KW.go ?_|((first|apply qaw|apply qaz|apply qa1|apply qa4|apply qay|apply qax|apply qar|apply qal|apply qaj|apply qap)<;>first|(apply qam;(repeat' first|assumption|exact qaa rfl|apply qaf rfl|apply qab);done)|exact qao _ _|exact qai _|exact qan _|exact qad|exact qag|exact qae|exact qac|exact qah _|exact qau _ (by omega)|exact qat (by omega)|exact qas (by omega)|exact rfl|assumption|apply qav)|((first|apply qa3|apply qaq|apply qak)<;>first|(apply qam;(repeat' first|assumption|exact qaa rfl|apply qaf rfl|apply qab);done)|exact qao _ _|exact qai _|exact qan _|exact qad|exact qag|exact qae|exact qac|exact qah _|exact qau _ (by omega)|exact qat (by omega)|exact qas (by omega)|exact rfl|assumption|apply qav)|(apply qa2 rfl rfl;(focus (repeat' first|assumption|exact qaa rfl|apply qaf rfl|apply qab);done))|(apply qbj rfl rfl;(focus (repeat' first|assumption|exact qaa rfl|apply qaf rfl|apply qab);done);exact rfl)))
  (apply qb5; (focus first|(apply qam;(repeat' first|assumption|exact qaa rfl|apply qaf rfl|apply qab);done)|exact qao _ _|exact qai _|exact qan _|exact qad|exact qag|exact qae|exact qac|exact qah _); (repeat (apply qbb; (focus first|(apply qam;(repeat' first|assumption|exact qaa rfl|apply qaf rfl|apply qab);done)|exact qao _ _|exact qai _|exact qan _|exact qad|exact qag|exact qae|exact qac|exact qah _))); exact qbi)
  have vals : ∀ g, Ints g s l → ∀ n, 1 ≤ n → Runs (qbt Try.prog pol sums n (.func (.func 57) [] []) [s]) g (fun v g' => Keep g g' ∧ ∃ i1, v = .func (.func 74) [] [.ptr i1 0 0] ∧ Row g' i1 0 1 [s] true) := by
    intro g og n hn
    have s57 : sums 57 = none := S' _ (by decide)
    clear a0 a1
    obtain ⟨n, rfl⟩ : ∃ m, n = m + 1 := ⟨n - 1, by omega⟩
    refine qcq (by assumption) Try.func57 rfl (by simp [Try.f57]) ?_
    have a0 : qbq (qa9 Try.f57.ntmps (([] ++ [s] ++ []) : List AV)) 0 = s := qa8 rfl
    generalize qa9 Try.f57.ntmps (([] ++ [s] ++ []) : List AV) = T at *
    show Runs (qbn _ _ _ _ 4 _ _ _) _ _
    (repeat (first|refine KW.go ?_|((first|apply qaw|apply qaz|apply qa1|apply qa4|apply qay|apply qax|apply qar|apply qal|apply qaj|apply qap)<;>first|(apply qam;(repeat' first|assumption|exact qaa rfl|apply qaf rfl|apply qab);done)|exact qao _ _|exact qai _|exact qan _|exact qad|exact qag|exact qae|exact qac|exact qah _|exact qau _ (by omega)|exact qat (by omega)|exact qas (by omega)|exact rfl|assumption|apply qav)|((first|apply qa3|apply qaq|apply qak)<;>first|(apply qam;(repeat' first|assumption|exact qaa rfl|apply qaf rfl|apply qab);done)|exact qao _ _|exact qai _|exact qan _|exact qad|exact qag|exact qae|exact qac|exact qah _|exact qau _ (by omega)|exact qat (by omega)|exact qas (by omega)|exact rfl|assumption|apply qav)|(apply qa2 rfl rfl;(focus (repeat' first|assumption|exact qaa rfl|apply qaf rfl|apply qab);done))|(apply qbj rfl rfl;(focus (repeat' first|assumption|exact qaa rfl|apply qaf rfl|apply qab);done);exact rfl)))
    apply O_box
    · (focus first|(apply qam;(repeat' first|assumption|exact qaa rfl|apply qaf rfl|apply qab);done)|exact qao _ _|exact qai _|exact qan _|exact qad|exact qag|exact qae|exact qac|exact qah _)
    · exact og.known
    intro g1 i1 k1 r1 l1 l2
    rw [og.acells] at r1
    (repeat (first|refine KW.go ?_|((first|apply qaw|apply qaz|apply qa1|apply qa4|apply qay|apply qax|apply qar|apply qal|apply qaj|apply qap)<;>first|(apply qam;(repeat' first|assumption|exact qaa rfl|apply qaf rfl|apply qab);done)|exact qao _ _|exact qai _|exact qan _|exact qad|exact qag|exact qae|exact qac|exact qah _|exact qau _ (by omega)|exact qat (by omega)|exact qas (by omega)|exact rfl|assumption|apply qav)|((first|apply qa3|apply qaq|apply qak)<;>first|(apply qam;(repeat' first|assumption|exact qaa rfl|apply qaf rfl|apply qab);done)|exact qao _ _|exact qai _|exact qan _|exact qad|exact qag|exact qae|exact qac|exact qah _|exact qau _ (by omega)|exact qat (by omega)|exact qas (by omega)|exact rfl|assumption|apply qav)|(apply qa2 rfl rfl;(focus (repeat' first|assumption|exact qaa rfl|apply qaf rfl|apply qab);done))|(apply qbj rfl rfl;(focus (repeat' first|assumption|exact qaa rfl|apply qaf rfl|apply qab);done);exact rfl)))
    apply O_makeFunc (l1 := []) (l2 := [.ptr i1 0 0])
    · exact qbi
    · exact qbb (by (focus first|(apply qam;(repeat' first|assumption|exact qaa rfl|apply qaf rfl|apply qab);done)|exact qao _ _|exact qai _|exact qan _|exact qad|exact qag|exact qae|exact qac|exact qah _)) qbi
    (repeat (first|refine KW.go ?_|((first|apply qaw|apply qaz|apply qa1|apply qa4|apply qay|apply qax|apply qar|apply qal|apply qaj|apply qap)<;>first|(apply qam;(repeat' first|assumption|exact qaa rfl|apply qaf rfl|apply qab);done)|exact qao _ _|exact qai _|exact qan _|exact qad|exact qag|exact qae|exact qac|exact qah _|exact qau _ (by omega)|exact qat (by omega)|exact qas (by omega)|exact rfl|assumption|apply qav)|((first|apply qa3|apply qaq|apply qak)<;>first|(apply qam;(repeat' first|assumption|exact qaa rfl|apply qaf rfl|apply qab);done)|exact qao _ _|exact qai _|exact qan _|exact qad|exact qag|exact qae|exact qac|exact qah _|exact qau _ (by omega)|exact qat (by omega)|exact qas (by omega)|exact rfl|assumption|apply qav)|(apply qa2 rfl rfl;(focus (repeat' first|assumption|exact qaa rfl|apply qaf rfl|apply qab);done))|(apply qbj rfl rfl;(focus (repeat' first|assumption|exact qaa rfl|apply qaf rfl|apply qab);done);exact rfl)))
    (apply qbl rfl; (repeat' first|assumption|exact qaa rfl|apply qaf rfl|apply qab))
    exact ⟨k1, i1, rfl, r1⟩
  refine (vals h o n (by omega)).mono ?_
  rintro v g1 ⟨k1, i1, rfl, r1⟩
  refine ⟨Undis.off rfl, ?_⟩
  have o1 := o.keep k1
  have sorted : ∀ n, l.length + 11 ≤ n → Runs (qbt Try.prog pol sums n (.func (.func 56) [] []) [.func (.func 74) [] [.ptr i1 0 0]]) g1 (fun v g' => Keep g1 g' ∧ Ints g' v (qc8 l)) := by
    intro n hn
    apply Runs.wf
    intro w1
    have s56 : sums 56 = none := S' _ (by decide)
    clear a0 a1
    obtain ⟨n, rfl⟩ : ∃ m, n = m + 1 := ⟨n - 1, by omega⟩
    refine qcq (by assumption) Try.func56 rfl (by simp [Try.f56]) ?_
    have a0 : qbq (qa9 Try.f56.ntmps (([] ++ [.func (.func 74) [] [.ptr i1 0 0]] ++ []) : List AV)) 0 = .func (.func 74) [] [.ptr i1 0 0] := qa8 rfl
    generalize qa9 Try.f56.ntmps (([] ++ [.func (.func 74) [] [.ptr i1 0 0]] ++ []) : List AV) = T at *
    show Runs (qbn _ _ _ _ 9 _ _ _) _ _
    (repeat (first|refine KW.go ?_|((first|apply qaw|apply qaz|apply qa1|apply qa4|apply qay|apply qax|apply qar|apply qal|apply qaj|apply qap)<;>first|(apply qam;(repeat' first|assumption|exact qaa rfl|apply qaf rfl|apply qab);done)|exact qao _ _|exact qai _|exact qan _|exact qad|exact qag|exact qae|exact qac|exact qah _|exact qau _ (by omega)|exact qat (by omega)|exact qas (by omega)|exact rfl|assumption|apply qav)|((first|apply qa3|apply qaq|apply qak)<;>first|(apply qam;(repeat' first|assumption|exact qaa rfl|apply qaf rfl|apply qab);done)|exact qao _ _|exact qai _|exact qan _|exact qad|exact qag|exact qae|exact qac|exact qah _|exact qau _ (by omega)|exact qat (by omega)|exact qas (by omega)|exact rfl|assumption|apply qav)|(apply qa2 rfl rfl;(focus (repeat' first|assumption|exact qaa rfl|apply qaf rfl|apply qab);done))|(apply qbj rfl rfl;(focus (repeat' first|assumption|exact qaa rfl|apply qaf rfl|apply qab);done);exact rfl)))
    (apply qb5; (focus first|(apply qam;(repeat' first|assumption|exact qaa rfl|apply qaf rfl|apply qab);done)|exact qao _ _|exact qai _|exact qan _|exact qad|exact qag|exact qae|exact qac|exact qah _); (repeat (apply qbb; (focus first|(apply qam;(repeat' first|assumption|exact qaa rfl|apply qaf rfl|apply qab);done)|exact qao _ _|exact qai _|exact qan _|exact qad|exact qag|exact qae|exact qac|exact qah _))); exact qbi)
    have coll : ∀ n, l.length + 10 ≤ n → Runs (qbt Try.prog pol sums n (.func (.func 72) [] []) [.func (.func 74) [] [.ptr i1 0 0]]) g1 (fun v h' => Keep g1 h' ∧ Ints h' v l ∧ qdh v = true ∧ (l ≠ [] → qb1 v ≠ []) ∧ (l = [] → v = .sl .nil 0 []) ∧ ∀ k ∈ qb1 v, g1.next ≤ k) := by
      intro n hn
      have s72 : sums 72 = none := S' _ (by decide)
      clear a0
      obtain ⟨n, rfl⟩ : ∃ m, n = m + 1 := ⟨n - 1, by omega⟩
      refine qcq (by assumption) Try.func72 rfl (by simp [Try.f72]) ?_
      have a0 : qbq (qa9 Try.f72.ntmps (([] ++ [.func (.func 74) [] [.ptr i1 0 0]] ++ []) : List AV)) 0 = .func (.func 74) [] [.ptr i1 0 0] := qa8 rfl
      generalize qa9 Try.f72.ntmps (([] ++ [.func (.func 74) [] [.ptr i1 0 0]] ++ []) : List AV) = T at *
      show Runs (qbn _ _ _ _ 5 _ _ _) _ _
      (repeat (first|refine KW.go ?_|((first|apply qaw|apply qaz|apply qa1|apply qa4|apply qay|apply qax|apply qar|apply qal|apply qaj|apply qap)<;>first|(apply qam;(repeat' first|assumption|exact qaa rfl|apply qaf rfl|apply qab);done)|exact qao _ _|exact qai _|exact qan _|exact qad|exact qag|exact qae|exact qac|exact qah _|exact qau _ (by omega)|exact qat (by omega)|exact qas (by omega)|exact rfl|assumption|apply qav)|((first|apply qa3|apply qaq|apply qak)<;>first|(apply qam;(repeat' first|assumption|exact qaa rfl|apply qaf rfl|apply qab);done)|exact qao _ _|exact qai _|exact qan _|exact qad|exact qag|exact qae|exact qac|exact qah _|exact qau _ (by omega)|exact qat (by omega)|exact qas (by omega)|exact rfl|assumption|apply qav)|(apply qa2 rfl rfl;(focus (repeat' first|assumption|exact qaa rfl|apply qaf rfl|apply qab);done))|(apply qbj rfl rfl;(focus (repeat' first|assumption|exact qaa rfl|apply qaf rfl|apply qab);done);exact rfl)))
      (apply qb5; (focus first|(apply qam;(repeat' first|assumption|exact qaa rfl|apply qaf rfl|apply qab);done)|exact qao _ _|exact qai _|exact qan _|exact qad|exact qag|exact qae|exact qac|exact qah _); (repeat (apply qbb; (focus first|(apply qam;(repeat' first|assumption|exact qaa rfl|apply qaf rfl|apply qab);done)|exact qao _ _|exact qai _|exact qan _|exact qad|exact qag|exact qae|exact qac|exact qah _))); exact qbi)
      refine (appendSeq_spec S (by omega) r1 o1 hb).mono ?_
      rintro v g2 ⟨k2, q⟩
      refine ⟨Undis.off rfl, ?_⟩
      (repeat (first|refine KW.go ?_|((first|apply qaw|apply qaz|apply qa1|apply qa4|apply qay|apply qax|apply qar|apply qal|apply qaj|apply qap)<;>first|(apply qam;(repeat' first|assumption|exact qaa rfl|apply qaf rfl|apply qab);done)|exact qao _ _|exact qai _|exact qan _|exact qad|exact qag|exact qae|exact qac|exact qah _|exact qau _ (by omega)|exact qat (by omega)|exact qas (by omega)|exact rfl|assumption|apply qav)|((first|apply qa3|apply qaq|apply qak)<;>first|(apply qam;(repeat' first|assumption|exact qaa rfl|apply qaf rfl|apply qab);done)|exact qao _ _|exact qai _|exact qan _|exact qad|exact qag|exact qae|exact qac|exact qah _|exact qau _ (by omega)|exact qat (by omega)|exact qas (by omega)|exact rfl|assumption|apply qav)|(apply qa2 rfl rfl;(focus (repeat' first|assumption|exact qaa rfl|apply qaf rfl|apply qab);done))|(apply qbj rfl rfl;(focus (repeat' first|assumption|exact qaa rfl|apply qaf rfl|apply qab);done);exact rfl)))
      (apply qbl rfl; (repeat' first|assumption|exact qaa rfl|apply qaf rfl|apply qab))
      exact ⟨k2, q⟩
    refine (coll n (by omega)).mono ?_
    rintro v g2 ⟨k2, q1, q2, q3, q4, q5⟩
    refine ⟨Undis.off rfl, ?_⟩
    (repeat (first|refine KW.go ?_|((first|apply qaw|apply qaz|apply qa1|apply qa4|apply qay|apply qax|apply qar|apply qal|apply qaj|apply qap)<;>first|(apply qam;(repeat' first|assumption|exact qaa rfl|apply qaf rfl|apply qab);done)|exact qao _ _|exact qai _|exact qan _|exact qad|exact qag|exact qae|exact qac|exact qah _|exact qau _ (by omega)|exact qat (by omega)|exact qas (by omega)|exact rfl|assumption|apply qav)|((first|apply qa3|apply qaq|apply qak)<;>first|(apply qam;(repeat' first|assumption|exact qaa rfl|apply qaf rfl|apply qab);done)|exact qao _ _|exact qai _|exact qan _|exact qad|exact qag|exact qae|exact qac|exact qah _|exact qau _ (by omega)|exact qat (by omega)|exact qas (by omega)|exact rfl|assumption|apply qav)|(apply qa2 rfl rfl;(focus (repeat' first|assumption|exact qaa rfl|apply qaf rfl|apply qab);done))|(apply qbj rfl rfl;(focus (repeat' first|assumption|exact qaa rfl|apply qaf rfl|apply qab);done);exact rfl)))
    (apply qb5; (focus first|(apply qam;(repeat' first|assumption|exact qaa rfl|apply qaf rfl|apply qab);done)|exact qao _ _|exact qai _|exact qan _|exact qad|exact qag|exact qae|exact qac|exact qah _); (repeat (apply qbb; (focus first|(apply qam;(repeat' first|assumption|exact qaa rfl|apply qaf rfl|apply qab);done)|exact qao _ _|exact qai _|exact qan _|exact qad|exact qag|exact qae|exact qac|exact qah _))); exact qbi)
    refine (sort_spec S.sort (by omega) q1 q2 q3 q4 (by omega)).mono ?_
    rintro r g3 ⟨rfl, kb3, s3⟩
    refine ⟨Undis.off rfl, ?_⟩
    (repeat (first|refine KW.go ?_|((first|apply qaw|apply qaz|apply qa1|apply qa4|apply qay|apply qax|apply qar|apply qal|apply qaj|apply qap)<;>first|(apply qam;(repeat' first|assumption|exact qaa rfl|apply qaf rfl|apply qab);done)|exact qao _ _|exact qai _|exact qan _|exact qad|exact qag|exact qae|exact qac|exact qah _|exact qau _ (by omega)|exact qat (by omega)|exact qas (by omega)|exact rfl|assumption|apply qav)|((first|apply qa3|apply qaq|apply qak)<;>first|(apply qam;(repeat' first|assumption|exact qaa rfl|apply qaf rfl|apply qab);done)|exact qao _ _|exact qai _|exact qan _|exact qad|exact qag|exact qae|exact qac|exact qah _|exact qau _ (by omega)|exact qat (by omega)|exact qas (by omega)|exact rfl|assumption|apply qav)|(apply qa2 rfl rfl;(focus (repeat' first|assumption|exact qaa rfl|apply qaf rfl|apply qab);done))|(apply qbj rfl rfl;(focus (repeat' first|assumption|exact qaa rfl|apply qaf rfl|apply qab);done);exact rfl)))
    (apply qbl rfl; (repeat' first|assumption|exact qaa rfl|apply qaf rfl|apply qab))
    exact ⟨KeepBut.keep k2 kb3 fun i hi => w1.get (q5 i hi), s3⟩
  (apply qb5; (focus first|(apply qam;(repeat' first|assumption|exact qaa rfl|apply qaf rfl|apply qab);done)|exact qao _ _|exact qai _|exact qan _|exact qad|exact qag|exact qae|exact qac|exact qah _); (repeat (apply qbb; (focus first|(apply qam;(repeat' first|assumption|exact qaa rfl|apply qaf rfl|apply qab);done)|exact qao _ _|exact qai _|exact qan _|exact qad|exact qag|exact qae|exact qac|exact qah _))); exact qbi)
  refine (sorted n (by omega)).mono ?_
  rintro v g2 ⟨k2, s2⟩
  refine ⟨Undis.off rfl, ?_⟩
  have kk := k1.trans k2
  have hsl : (qc8 l).length = l.length := (sortZ_perm l).length_eq
  have s2' : SlV g2 1 v l.length (ints (qc8 l)) := by rw [← hsl]; exact s2
  (repeat (first|refine KW.go ?_|((first|apply qaw|apply qaz|apply qa1|apply qa4|apply qay|apply qax|apply qar|apply qal|apply qaj|apply qap)<;>first|(apply qam;(repeat' first|assumption|exact qaa rfl|apply qaf rfl|apply qab);done)|exact qao _ _|exact qai _|exact qan _|exact qad|exact qag|exact qae|exact qac|exact qah _|exact qau _ (by omega)|exact qat (by omega)|exact qas (by omega)|exact rfl|assumption|apply qav)|((first|apply qa3|apply qaq|apply qak)<;>first|(apply qam;(repeat' first|assumption|exact qaa rfl|apply qaf rfl|apply qab);done)|exact qao _ _|exact qai _|exact qan _|exact qad|exact qag|exact qae|exact qac|exact qah _|exact qau _ (by omega)|exact qat (by omega)|exact qas (by omega)|exact rfl|assumption|apply qav)|(apply qa2 rfl rfl;(focus (repeat' first|assumption|exact qaa rfl|apply qaf rfl|apply qab);done))|(apply qbj rfl rfl;(focus (repeat' first|assumption|exact qaa rfl|apply qaf rfl|apply qab);done);exact rfl)))
  apply R_loop (k := l.length) (I := fun k T g => ∃ i, k = l.length - i ∧ i ≤ l.length ∧ qbq T 1 = .int .i64 (many : Nat) ∧ qbq T 5 = v ∧ qbq T 11 = v ∧ qbq T 12 = .int .i64 (l.length : Nat) ∧ qbq T 13 = .int .i64 (i : Nat) ∧ g = g2 ∧ (qc8 l).take i = (zs (List.range l.length)).take i)
  · omega
  · exact ⟨0, by omega, by omega, by (repeat' first|assumption|exact qaa rfl|apply qaf rfl|apply qab), by (repeat' first|assumption|exact qaa rfl|apply qaf rfl|apply qab), by (repeat' first|assumption|exact qaa rfl|apply qaf rfl|apply qab), by (repeat' first|assumption|exact qaa rfl|apply qaf rfl|apply qab), by (repeat' first|assumption|exact qaa rfl|apply qaf rfl|apply qab), rfl, by simp⟩
  · rintro k T g ⟨i, rfl, hi, t1, t5, t11, t12, t13, rfl, hp⟩
    (repeat (first|refine KW.go ?_|((first|apply qaw|apply qaz|apply qa1|apply qa4|apply qay|apply qax|apply qar|apply qal|apply qaj|apply qap)<;>first|(apply qam;(repeat' first|assumption|exact qaa rfl|apply qaf rfl|apply qab);done)|exact qao _ _|exact qai _|exact qan _|exact qad|exact qag|exact qae|exact qac|exact qah _|exact qau _ (by omega)|exact qat (by omega)|exact qas (by omega)|exact rfl|assumption|apply qav)|((first|apply qa3|apply qaq|apply qak)<;>first|(apply qam;(repeat' first|assumption|exact qaa rfl|apply qaf rfl|apply qab);done)|exact qao _ _|exact qai _|exact qan _|exact qad|exact qag|exact qae|exact qac|exact qah _|exact qau _ (by omega)|exact qat (by omega)|exact qas (by omega)|exact rfl|assumption|apply qav)|(apply qa2 rfl rfl;(focus (repeat' first|assumption|exact qaa rfl|apply qaf rfl|apply qab);done))|(apply qbj rfl rfl;(focus (repeat' first|assumption|exact qaa rfl|apply qaf rfl|apply qab);done);exact rfl)))
    apply qbx (decide ((i : Int) < (l.length : Int)))
    · (focus first|(apply qam;(repeat' first|assumption|exact qaa rfl|apply qaf rfl|apply qab);done)|exact qao _ _|exact qai _|exact qan _|exact qad|exact qag|exact qae|exact qac|exact qah _)
    · intro c
      have hlt : i < l.length := by simpa using c
      have hlt' : i < (qc8 l).length := by omega
      (repeat (first|refine KW.go ?_|((first|apply qaw|apply qaz|apply qa1|apply qa4|apply qay|apply qax|apply qar|apply qal|apply qaj|apply qap)<;>first|(apply qam;(repeat' first|assumption|exact qaa rfl|apply qaf rfl|apply qab);done)|exact qao _ _|exact qai _|exact qan _|exact qad|exact qag|exact qae|exact qac|exact qah _|exact qau _ (by omega)|exact qat (by omega)|exact qas (by omega)|exact rfl|assumption|apply qav)|((first|apply qa3|apply qaq|apply qak)<;>first|(apply qam;(repeat' first|assumption|exact qaa rfl|apply qaf rfl|apply qab);done)|exact qao _ _|exact qai _|exact qan _|exact qad|exact qag|exact qae|exact qac|exact qah _|exact qau _ (by omega)|exact qat (by omega)|exact qas (by omega)|exact rfl|assumption|apply qav)|(apply qa2 rfl rfl;(focus (repeat' first|assumption|exact qaa rfl|apply qaf rfl|apply qab);done))|(apply qbj rfl rfl;(focus (repeat' first|assumption|exact qaa rfl|apply qaf rfl|apply qab);done);exact rfl)))
      apply qbp
      · (focus first|(apply qam;(repeat' first|assumption|exact qaa rfl|apply qaf rfl|apply qab);done)|exact qao _ _|exact qai _|exact qan _|exact qad|exact qag|exact qae|exact qac|exact qah _)
      · exact s2'
      · (focus first|(apply qam;(repeat' first|assumption|exact qaa rfl|apply qaf rfl|apply qab);done)|exact qao _ _|exact qai _|exact qan _|exact qad|exact qag|exact qae|exact qac|exact qah _)
      · omega
      · rfl
      intro a ha _
      rw [ints_at hlt'] at ha
      apply qce
      · (focus first|(apply qam;(repeat' first|assumption|exact qaa rfl|apply qaf rfl|apply qab);done)|exact qao _ _|exact qai _|exact qan _|exact qad|exact qag|exact qae|exact qac|exact qah _)
      · exact ha
      (repeat (first|refine KW.go ?_|((first|apply qaw|apply qaz|apply qa1|apply qa4|apply qay|apply qax|apply qar|apply qal|apply qaj|apply qap)<;>first|(apply qam;(repeat' first|assumption|exact qaa rfl|apply qaf rfl|apply qab);done)|exact qao _ _|exact qai _|exact qan _|exact qad|exact qag|exact qae|exact qac|exact qah _|exact qau _ (by omega)|exact qat (by omega)|exact qas (by omega)|exact rfl|assumption|apply qav)|((first|apply qa3|apply qaq|apply qak)<;>first|(apply qam;(repeat' first|assumption|exact qaa rfl|apply qaf rfl|apply qab);done)|exact qao _ _|exact qai _|exact qan _|exact qad|exact qag|exact qae|exact qac|exact qah _|exact qau _ (by omega)|exact qat (by omega)|exact qas (by omega)|exact rfl|assumption|apply qav)|(apply qa2 rfl rfl;(focus (repeat' first|assumption|exact qaa rfl|apply qaf rfl|apply qab);done))|(apply qbj rfl rfl;(focus (repeat' first|assumption|exact qaa rfl|apply qaf rfl|apply qab);done);exact rfl)))
      apply qbx ((i : Int) != (qc8 l)[i])
      · (focus first|(apply qam;(repeat' first|assumption|exact qaa rfl|apply qaf rfl|apply qab);done)|exact qao _ _|exact qai _|exact qan _|exact qad|exact qag|exact qae|exact qac|exact qah _)
      · intro c
        have c : (i : Int) ≠ (qc8 l)[i] := by simpa using c
        (repeat (first|refine KW.go ?_|((first|apply qaw|apply qaz|apply qa1|apply qa4|apply qay|apply qax|apply qar|apply qal|apply qaj|apply qap)<;>first|(apply qam;(repeat' first|assumption|exact qaa rfl|apply qaf rfl|apply qab);done)|exact qao _ _|exact qai _|exact qan _|exact qad|exact qag|exact qae|exact qac|exact qah _|exact qau _ (by omega)|exact qat (by omega)|exact qas (by omega)|exact rfl|assumption|apply qav)|((first|apply qa3|apply qaq|apply qak)<;>first|(apply qam;(repeat' first|assumption|exact qaa rfl|apply qaf rfl|apply qab);done)|exact qao _ _|exact qai _|exact qan _|exact qad|exact qag|exact qae|exact qac|exact qah _|exact qau _ (by omega)|exact qat (by omega)|exact qas (by omega)|exact rfl|assumption|apply qav)|(apply qa2 rfl rfl;(focus (repeat' first|assumption|exact qaa rfl|apply qaf rfl|apply qab);done))|(apply qbj rfl rfl;(focus (repeat' first|assumption|exact qaa rfl|apply qaf rfl|apply qab);done);exact rfl)))
        (apply qbl rfl; (repeat' first|assumption|exact qaa rfl|apply qaf rfl|apply qab))
        refine ⟨kk, ?_⟩
        have : qc8 l ≠ zs (List.range l.length) := fun e => by
          have h1 : (qc8 l)[i]? = (zs (List.range l.length))[i]? := by rw [e]
          rw [List.getElem?_eq_getElem hlt'] at h1
          simp [zs, hlt] at h1
          exact c h1.symm
        simp [wholeZ, this]
      · intro c
        have c : (i : Int) = (qc8 l)[i] := by simpa using c
        (repeat (first|refine KW.go ?_|((first|apply qaw|apply qaz|apply qa1|apply qa4|apply qay|apply qax|apply qar|apply qal|apply qaj|apply qap)<;>first|(apply qam;(repeat' first|assumption|exact qaa rfl|apply qaf rfl|apply qab);done)|exact qao _ _|exact qai _|exact qan _|exact qad|exact qag|exact qae|exact qac|exact qah _|exact qau _ (by omega)|exact qat (by omega)|exact qas (by omega)|exact rfl|assumption|apply qav)|((first|apply qa3|apply qaq|apply qak)<;>first|(apply qam;(repeat' first|assumption|exact qaa rfl|apply qaf rfl|apply qab);done)|exact qao _ _|exact qai _|exact qan _|exact qad|exact qag|exact qae|exact qac|exact qah _|exact qau _ (by omega)|exact qat (by omega)|exact qas (by omega)|exact rfl|assumption|apply qav)|(apply qa2 rfl rfl;(focus (repeat' first|assumption|exact qaa rfl|apply qaf rfl|apply qab);done))|(apply qbj rfl rfl;(focus (repeat' first|assumption|exact qaa rfl|apply qaf rfl|apply qab);done);exact rfl)))
        apply qdg (l.length - (i + 1)) (by omega)
        refine ⟨i + 1, rfl, by omega, by (repeat' first|assumption|exact qaa rfl|apply qaf rfl|apply qab), by (repeat' first|assumption|exact qaa rfl|apply qaf rfl|apply qab), by (repeat' first|assumption|exact qaa rfl|apply qaf rfl|apply qab), by (repeat' first|assumption|exact qaa rfl|apply qaf rfl|apply qab), by (repeat' first|assumption|exact qaa rfl|apply qaf rfl|apply qab), rfl, ?_⟩
        rw [List.take_succ_eq_append_getElem hlt', List.take_succ_eq_append_getElem (by simpa using hlt), hp, ← c]
        simp [zs]
    · intro c
      have : i = l.length := by
        have : ¬ i < l.length := by simpa using c
        omega
      subst this
      have hp' : qc8 l = zs (List.range l.length) := by
        rw [List.take_of_length_le (by omega), List.take_of_length_le (by simp)] at hp
        exact hp
      (repeat (first|refine KW.go ?_|((first|apply qaw|apply qaz|apply qa1|apply qa4|apply qay|apply qax|apply qar|apply qal|apply qaj|apply qap)<;>first|(apply qam;(repeat' first|assumption|exact qaa rfl|apply qaf rfl|apply qab);done)|exact qao _ _|exact qai _|exact qan _|exact qad|exact qag|exact qae|exact qac|exact qah _|exact qau _ (by omega)|exact qat (by omega)|exact qas (by omega)|exact rfl|assumption|apply qav)|((first|apply qa3|apply qaq|apply qak)<;>first|(apply qam;(repeat' first|assumption|exact qaa rfl|apply qaf rfl|apply qab);done)|exact qao _ _|exact qai _|exact qan _|exact qad|exact qag|exact qae|exact qac|exact qah _|exact qau _ (by omega)|exact qat (by omega)|exact qas (by omega)|exact rfl|assumption|apply qav)|(apply qa2 rfl rfl;(focus (repeat' first|assumption|exact qaa rfl|apply qaf rfl|apply qab);done))|(apply qbj rfl rfl;(focus (repeat' first|assumption|exact qaa rfl|apply qaf rfl|apply qab);done);exact rfl)))
      (apply qbl rfl; (repeat' first|assumption|exact qaa rfl|apply qaf rfl|apply qab))
      refine ⟨kk, ?_⟩
      simp only [wholeZ, hp', decide_true, Bool.true_and]
      congr 1
      rw [Bool.eq_iff_iff]
      simp
      omega
end Go.Am
namespace Go.Am
open Go Go.Proofs AM
set_option maxRecDepth 10000
variable {pol : Pol} {sums : Sums}
attribute [local irreducible] KSeq KMid KBlock KLoop KOps KFunc Runs qb9 qbn qdl aop qbt qbq qbv qbv? qbd qbw qa9
attribute [local irreducible] KRound KAssign

abbrev stepC (place op : Int) (p : Ptn) (sv fv : AV) : List AV := [.int .i64 place, .int .i64 op] ++ ptnC p ++ [sv, fv]
theorem stepC_ones {place op : Int} {p : Ptn} {sv fv : AV} (h1 : one sv = true) (h2 : one fv = true) : ones (stepC place op p sv fv) = true := by
  simp [ones, h1, h2, show ∀ k c, one (.int k c) = true from fun _ _ => rfl, show ∀ s, one (.str s) = true from fun _ => rfl]
/-- the names that are known ahead of a step -/
def qbo (pats : List Ptn) (order : List Nat) (i : Nat) : List Str := (order.take i).foldl (fun k j => match pats[j]? with | some p => learnZ k p | none => k) []
theorem knownAt_succ (pats : List Ptn) (order : List Nat) {i : Nat} (hi : i < order.length) (hp : order[i] < pats.length) : qbo pats order (i + 1) = learnZ (qbo pats order i) pats[order[i]] := by
  unfold qbo
  rw [List.take_succ_eq_append_getElem hi, List.foldl_append]
  simp [hp]
theorem knownAt_length (pats : List Ptn) (order : List Nat) : ∀ i, (qbo pats order i).length ≤ 3 * i := by
  intro i
  unfold qbo
  have h : ∀ (l : List Nat) (k : List Str), (l.foldl (fun k j => match pats[j]? with | some p => learnZ k p | none => k) k).length ≤ k.length + 3 * l.length := by
    intro l
    induction l with
    | nil => intro k; simp
    | cons j l ih =>
      intro k
      simp only [List.foldl_cons, List.length_cons]
      cases pats[j]? with
      | none => have := ih k; simp only; omega
      | some p => have := ih (learnZ k p); have := learnZ_length k p; simp only; omega
  have := h (order.take i) []
  simp only [List.length_nil, List.length_take] at this
  omega

theorem each1_spec (S : S27' pol sums) {n : Nat} {h : Hp} {ip iq : Nat} {ov qv pv Y : AV} {order : List Nat} {pats : List Ptn} (hn : order.length + pats.length + 20 ≤ n) (hb : order.length < 2 ^ 30) (hb2 : pats.length < 2 ^ 30)
    (rp : Row h ip 0 2 [ov, qv] true) (rq : Row h iq 0 1 [pv] true) (oo : Ints h ov (zs order)) (po : Rows ptnC 15 h pv pats) (hor : ∀ i ∈ order, i < pats.length)
    (X : Nat → Prop) (hX : ∀ j, X j → j < h.next) (hXp : ¬ X ip) (hXq : ¬ X iq) (hXo : ∀ k ∈ qb1 ov, ¬ X k) (hXpv : ∀ k ∈ qb1 pv, ¬ X k)
    (opsF : Nat → List Int) (I : Nat → Hp → Prop) (Stop : Hp → Prop) (h0 : I 0 h) (hI : ∀ i g g', I i g → KeepBut (h.next ≤ ·) g g' → I i g') (hQ : ∀ i g, I i g → Ints g qv (opsF i)) (hQl : ∀ i, (opsF i).length = order.length)
    (hY : ∀ i (hi : i < order.length) (hp : order[i] < pats.length) g m sv fv, n ≤ m + 3 → I i g → Strs g sv (qb4 (qbo pats order i) pats[order[i]]) → Strs g fv (fresh (qbo pats order i) pats[order[i]]) →
      Runs (qbt Try.prog pol sums m Y [.int .i64 (i : Nat), .agg (stepC (order[i] : Nat) ((opsF i)[i]'(by rw [hQl]; exact hi)) pats[order[i]] sv fv)]) g fun v g' => ∃ b, v = .bool b ∧ KeepBut X g g' ∧ (b = true → I (i + 1) g') ∧ (b = false → Stop g')) :
    Runs (qbt Try.prog pol sums n (.func (.func 47) [] [.ptr ip 0 0, .ptr iq 0 0]) [Y]) h (fun _ g => KeepBut (fun j => X j ∨ h.next ≤ j) h g ∧ (I order.length g ∨ Stop g)) := by
  apply Runs.wf
  intro w
  have S' := S.rest
  have s47 : sums 47 = none := S' _ (by decide)
  obtain ⟨n, rfl⟩ : ∃ m, n = m + 1 := ⟨n - 1, by omega⟩
  refine qcq (by assumption) Try.func47 rfl (by simp [Try.f47]) ?_
  have a0 : qbq (qa9 Try.f47.ntmps (([] ++ [Y] ++ [.ptr ip 0 0, .ptr iq 0 0]) : List AV)) 0 = Y := qa8 rfl
  have a1 : qbq (qa9 Try.f47.ntmps (([] ++ [Y] ++ [.ptr ip 0 0, .ptr iq 0 0]) : List AV)) 1 = .ptr ip 0 0 := qa8 rfl
  have a2 : qbq (qa9 Try.f47.ntmps (([] ++ [Y] ++ [.ptr ip 0 0, .ptr iq 0 0]) : List AV)) 2 = .ptr iq 0 0 := qa8 rfl
  generalize qa9 Try.f47.ntmps (([] ++ [Y] ++ [.ptr ip 0 0, .ptr iq 0 0]) : List AV) = T at *
  show Runs (qbn _ _ _ _ 50 _ _ _) _ _
  (repeat (first|refine KW.go ?_|((first|apply qaw|apply qaz|apply qa1|apply qa4|apply qay|apply qax|apply qar|apply qal|apply qaj|apply qap)<;>first|(apply qam;(repeat' first|assumption|exact qaa rfl|apply qaf rfl|apply qab);done)|exact qao _ _|exact qai _|exact qan _|exact qad|exact qag|exact qae|exact qac|exact qah _|exact qau _ (by omega)|exact qat (by omega)|exact qas (by omega)|exact rfl|assumption|apply qav)|((first|apply qa3|apply qaq|apply qak)<;>first|(apply qam;(repeat' first|assumption|exact qaa rfl|apply qaf rfl|apply qab);done)|exact qao _ _|exact qai _|exact qan _|exact qad|exact qag|exact qae|exact qac|exact qah _|exact qau _ (by omega)|exact qat (by omega)|exact qas (by omega)|exact rfl|assumption|apply qav)|(apply qa2 rfl rfl;(focus (repeat' first|assumption|exact qaa rfl|apply qaf rfl|apply qab);done))|(apply qbj rfl rfl;(focus (repeat' first|assumption|exact qaa rfl|apply qaf rfl|apply qab);done);exact rfl)))
  apply O_makeMap
  intro g1 mid k1 rm l1 l2
  apply O_build (c' := [.mapv mid])
  · exact qbs (by (focus first|(apply qam;(repeat' first|assumption|exact qaa rfl|apply qaf rfl|apply qab);done)|exact qao _ _|exact qai _|exact qan _|exact qad|exact qag|exact qae|exact qac|exact qah _)) qcc
  · rfl
  apply O_wf
  intro w1
  apply qdn
  intro g2 i4 k2 r4 l3 l4
  apply qcj
  · (focus first|(apply qam;(repeat' first|assumption|exact qaa rfl|apply qaf rfl|apply qab);done)|exact qao _ _|exact qai _|exact qan _|exact qad|exact qag|exact qae|exact qac|exact qah _)
  · (focus first|(apply qam;(repeat' first|assumption|exact qaa rfl|apply qaf rfl|apply qab);done)|exact qao _ _|exact qai _|exact qan _|exact qad|exact qag|exact qae|exact qac|exact qah _)
  · exact r4
  · rfl
  intro g3 kb3 r4
  refine ⟨Undis.off rfl, ?_⟩
  change Row g3 i4 0 1 [.mapv mid] true at r4
  have k3 : Keep g1 g3 := KeepBut.keep k2 kb3 fun j hj => w1.get (by omega)
  have kk := k1.trans k3
  have rm3 := rm.keep k3
  have rp3 := rp.keep kk
  have oo3 := oo.keep kk
  (repeat (first|refine KW.go ?_|((first|apply qaw|apply qaz|apply qa1|apply qa4|apply qay|apply qax|apply qar|apply qal|apply qaj|apply qap)<;>first|(apply qam;(repeat' first|assumption|exact qaa rfl|apply qaf rfl|apply qab);done)|exact qao _ _|exact qai _|exact qan _|exact qad|exact qag|exact qae|exact qac|exact qah _|exact qau _ (by omega)|exact qat (by omega)|exact qas (by omega)|exact rfl|assumption|apply qav)|((first|apply qa3|apply qaq|apply qak)<;>first|(apply qam;(repeat' first|assumption|exact qaa rfl|apply qaf rfl|apply qab);done)|exact qao _ _|exact qai _|exact qan _|exact qad|exact qag|exact qae|exact qac|exact qah _|exact qau _ (by omega)|exact qat (by omega)|exact qas (by omega)|exact rfl|assumption|apply qav)|(apply qa2 rfl rfl;(focus (repeat' first|assumption|exact qaa rfl|apply qaf rfl|apply qab);done))|(apply qbj rfl rfl;(focus (repeat' first|assumption|exact qaa rfl|apply qaf rfl|apply qab);done);exact rfl)))
  have hol : (zs order).length = order.length := qcp order
  have hip := rp.lt w
  have hiq := rq.lt w
  have hov := oo.lt w
  have hpv := po.lt w
  apply R_loop (k := order.length) (I := fun k T g => ∃ i c, k = order.length - i ∧ i ≤ order.length ∧ qbq T 0 = Y ∧ qbq T 1 = .ptr ip 0 0 ∧ qbq T 2 = .ptr iq 0 0 ∧ qbq T 4 = .ptr i4 0 0 ∧ qbq T 13 = ov ∧ qbq T 14 = .int .i64 ((zs order).length : Nat) ∧ qbq T 15 = .int .i64 (i : Nat) ∧
    KeepBut (fun j => X j ∨ h.next ≤ j) h g ∧ I i g ∧ Row g i4 0 1 [.mapv mid] true ∧ KnownAt g mid c (qbo pats order i) ∧ c ≤ 3 * i)
  · omega
  · refine ⟨0, 0, by omega, by omega, by (repeat' first|assumption|exact qaa rfl|apply qaf rfl|apply qab), by (repeat' first|assumption|exact qaa rfl|apply qaf rfl|apply qab), by (repeat' first|assumption|exact qaa rfl|apply qaf rfl|apply qab), by (repeat' first|assumption|exact qaa rfl|apply qaf rfl|apply qab), by (repeat' first|assumption|exact qaa rfl|apply qaf rfl|apply qab), by (repeat' first|assumption|exact qaa rfl|apply qaf rfl|apply qab), by (repeat' first|assumption|exact qaa rfl|apply qaf rfl|apply qab), kk.but _, hI 0 h g3 h0 (kk.but _), r4, ⟨[], rm3, rfl, by simp⟩, by omega⟩
  · rintro k T g ⟨i, c, rfl, hi, t0, t1, t2, t4, t13, t14, t15, kp, hIi, r4, kn, hci⟩
    (repeat (first|refine KW.go ?_|((first|apply qaw|apply qaz|apply qa1|apply qa4|apply qay|apply qax|apply qar|apply qal|apply qaj|apply qap)<;>first|(apply qam;(repeat' first|assumption|exact qaa rfl|apply qaf rfl|apply qab);done)|exact qao _ _|exact qai _|exact qan _|exact qad|exact qag|exact qae|exact qac|exact qah _|exact qau _ (by omega)|exact qat (by omega)|exact qas (by omega)|exact rfl|assumption|apply qav)|((first|apply qa3|apply qaq|apply qak)<;>first|(apply qam;(repeat' first|assumption|exact qaa rfl|apply qaf rfl|apply qab);done)|exact qao _ _|exact qai _|exact qan _|exact qad|exact qag|exact qae|exact qac|exact qah _|exact qau _ (by omega)|exact qat (by omega)|exact qas (by omega)|exact rfl|assumption|apply qav)|(apply qa2 rfl rfl;(focus (repeat' first|assumption|exact qaa rfl|apply qaf rfl|apply qab);done))|(apply qbj rfl rfl;(focus (repeat' first|assumption|exact qaa rfl|apply qaf rfl|apply qab);done);exact rfl)))
    apply qbx (decide ((i : Int) < ((zs order).length : Int)))
    · (focus first|(apply qam;(repeat' first|assumption|exact qaa rfl|apply qaf rfl|apply qab);done)|exact qao _ _|exact qai _|exact qan _|exact qad|exact qag|exact qae|exact qac|exact qah _)
    · intro cc
      have hlt : i < order.length := by simpa using cc
      have hpl := hor order[i] (List.getElem_mem hlt)
      have hnx : ∀ j, ¬ X j → j < h.next → ¬ (X j ∨ h.next ≤ j) := fun j h1 h2 h3 => by rcases h3 with q | q; exact h1 q; omega
      have og := oo.keepBut kp fun j hj => hnx j (hXo j hj) (hov j hj)
      have pg := po.keepBut kp fun j hj => hnx j (hXpv j hj) (hpv j hj)
      have rqg := rq.keepBut kp (hnx _ hXq hiq)
      (repeat (first|refine KW.go ?_|((first|apply qaw|apply qaz|apply qa1|apply qa4|apply qay|apply qax|apply qar|apply qal|apply qaj|apply qap)<;>first|(apply qam;(repeat' first|assumption|exact qaa rfl|apply qaf rfl|apply qab);done)|exact qao _ _|exact qai _|exact qan _|exact qad|exact qag|exact qae|exact qac|exact qah _|exact qau _ (by omega)|exact qat (by omega)|exact qas (by omega)|exact rfl|assumption|apply qav)|((first|apply qa3|apply qaq|apply qak)<;>first|(apply qam;(repeat' first|assumption|exact qaa rfl|apply qaf rfl|apply qab);done)|exact qao _ _|exact qai _|exact qan _|exact qad|exact qag|exact qae|exact qac|exact qah _|exact qau _ (by omega)|exact qat (by omega)|exact qas (by omega)|exact rfl|assumption|apply qav)|(apply qa2 rfl rfl;(focus (repeat' first|assumption|exact qaa rfl|apply qaf rfl|apply qab);done))|(apply qbj rfl rfl;(focus (repeat' first|assumption|exact qaa rfl|apply qaf rfl|apply qab);done);exact rfl)))
      apply qbp
      · (focus first|(apply qam;(repeat' first|assumption|exact qaa rfl|apply qaf rfl|apply qab);done)|exact qao _ _|exact qai _|exact qan _|exact qad|exact qag|exact qae|exact qac|exact qah _)
      · exact og
      · (focus first|(apply qam;(repeat' first|assumption|exact qaa rfl|apply qaf rfl|apply qab);done)|exact qao _ _|exact qai _|exact qan _|exact qad|exact qag|exact qae|exact qac|exact qah _)
      · omega
      · rfl
      intro a ha _
      rw [ints_at (l := zs order) (i := i) (by omega)] at ha
      have hzi : (zs order)[i]'(by omega) = (order[i] : Nat) := by simp [zs]
      rw [hzi] at ha
      apply qce
      · (focus first|(apply qam;(repeat' first|assumption|exact qaa rfl|apply qaf rfl|apply qab);done)|exact qao _ _|exact qai _|exact qan _|exact qad|exact qag|exact qae|exact qac|exact qah _)
      · exact ha
      (repeat (first|refine KW.go ?_|((first|apply qaw|apply qaz|apply qa1|apply qa4|apply qay|apply qax|apply qar|apply qal|apply qaj|apply qap)<;>first|(apply qam;(repeat' first|assumption|exact qaa rfl|apply qaf rfl|apply qab);done)|exact qao _ _|exact qai _|exact qan _|exact qad|exact qag|exact qae|exact qac|exact qah _|exact qau _ (by omega)|exact qat (by omega)|exact qas (by omega)|exact rfl|assumption|apply qav)|((first|apply qa3|apply qaq|apply qak)<;>first|(apply qam;(repeat' first|assumption|exact qaa rfl|apply qaf rfl|apply qab);done)|exact qao _ _|exact qai _|exact qan _|exact qad|exact qag|exact qae|exact qac|exact qah _|exact qau _ (by omega)|exact qat (by omega)|exact qas (by omega)|exact rfl|assumption|apply qav)|(apply qa2 rfl rfl;(focus (repeat' first|assumption|exact qaa rfl|apply qaf rfl|apply qab);done))|(apply qbj rfl rfl;(focus (repeat' first|assumption|exact qaa rfl|apply qaf rfl|apply qab);done);exact rfl)))
      apply qbp
      · (focus first|(apply qam;(repeat' first|assumption|exact qaa rfl|apply qaf rfl|apply qab);done)|exact qao _ _|exact qai _|exact qan _|exact qad|exact qag|exact qae|exact qac|exact qah _)
      · exact pg
      · (focus first|(apply qam;(repeat' first|assumption|exact qaa rfl|apply qaf rfl|apply qab);done)|exact qao _ _|exact qai _|exact qan _|exact qad|exact qag|exact qae|exact qac|exact qah _)
      · exact hpl
      · rfl
      intro a2 ha2 _
      rw [flat_at ptnC_len hpl] at ha2
      apply qcy
      · (focus first|(apply qam;(repeat' first|assumption|exact qaa rfl|apply qaf rfl|apply qab);done)|exact qao _ _|exact qai _|exact qan _|exact qad|exact qag|exact qae|exact qac|exact qah _)
      · exact ha2
      · rfl
      apply O_wf
      intro wg
      apply qdn
      intro g5 i7 k5 r7 l7 l8
      apply qcj
      · (focus first|(apply qam;(repeat' first|assumption|exact qaa rfl|apply qaf rfl|apply qab);done)|exact qao _ _|exact qai _|exact qan _|exact qad|exact qag|exact qae|exact qac|exact qah _)
      · (focus first|(apply qam;(repeat' first|assumption|exact qaa rfl|apply qaf rfl|apply qab);done)|exact qao _ _|exact qai _|exact qan _|exact qad|exact qag|exact qae|exact qac|exact qah _)
      · exact r7
      · rfl
      intro g6 kb6 r7
      refine ⟨Undis.off rfl, ?_⟩
      change Row g6 i7 0 15 (ptnC pats[order[i]]) true at r7
      have k6 : Keep g g6 := KeepBut.keep k5 kb6 fun j hj => wg.get (by omega)
      have r4' := r4.keep k6
      have kn' := kn.keep k6
      have hgn : h.next ≤ g.next := kp.next
      (repeat (first|refine KW.go ?_|((first|apply qaw|apply qaz|apply qa1|apply qa4|apply qay|apply qax|apply qar|apply qal|apply qaj|apply qap)<;>first|(apply qam;(repeat' first|assumption|exact qaa rfl|apply qaf rfl|apply qab);done)|exact qao _ _|exact qai _|exact qan _|exact qad|exact qag|exact qae|exact qac|exact qah _|exact qau _ (by omega)|exact qat (by omega)|exact qas (by omega)|exact rfl|assumption|apply qav)|((first|apply qa3|apply qaq|apply qak)<;>first|(apply qam;(repeat' first|assumption|exact qaa rfl|apply qaf rfl|apply qab);done)|exact qao _ _|exact qai _|exact qan _|exact qad|exact qag|exact qae|exact qac|exact qah _|exact qau _ (by omega)|exact qat (by omega)|exact qas (by omega)|exact rfl|assumption|apply qav)|(apply qa2 rfl rfl;(focus (repeat' first|assumption|exact qaa rfl|apply qaf rfl|apply qab);done))|(apply qbj rfl rfl;(focus (repeat' first|assumption|exact qaa rfl|apply qaf rfl|apply qab);done);exact rfl)))
      apply qbk (n := 1)
      · (focus first|(apply qam;(repeat' first|assumption|exact qaa rfl|apply qaf rfl|apply qab);done)|exact qao _ _|exact qai _|exact qan _|exact qad|exact qag|exact qae|exact qac|exact qah _)
      · exact r4'
      · rfl
      · exact rfl
      apply qbk (n := 15)
      · (focus first|(apply qam;(repeat' first|assumption|exact qaa rfl|apply qaf rfl|apply qab);done)|exact qao _ _|exact qai _|exact qan _|exact qad|exact qag|exact qae|exact qac|exact qah _)
      · exact r7
      · rfl
      · exact rfl
      (apply qb5; (focus first|(apply qam;(repeat' first|assumption|exact qaa rfl|apply qaf rfl|apply qab);done)|exact qao _ _|exact qai _|exact qan _|exact qad|exact qag|exact qae|exact qac|exact qah _); (repeat (apply qbb; (focus first|(apply qam;(repeat' first|assumption|exact qaa rfl|apply qaf rfl|apply qab);done)|exact qao _ _|exact qai _|exact qan _|exact qad|exact qag|exact qae|exact qac|exact qah _))); exact qbi)
      refine (parts_spec S.lit (S' _ (by decide)) (S' _ (by decide)) (S' _ (by decide)) (S' _ (by decide)) S.has (by omega) kn' pats[order[i]]).mono ?_
      rintro v g7 ⟨k7, sv, fv, rfl, ss, sf⟩
      refine ⟨Undis.off rfl, ?_⟩
      have k67 := k6.trans k7
      have I7 := hI i g g7 hIi (k67.but _)
      have q7 := hQ i g7 I7
      have r7' := r7.keep k7
      have r4'' := r4'.keep k7
      have kn'' := kn'.keep k7
      have kp7 : KeepBut (fun j => X j ∨ h.next ≤ j) h g7 := kp.trans (k67.but _)
      have rpg := rp.keepBut kp7 (hnx _ hXp hip)
      have hql := hQl i
      (repeat (first|refine KW.go ?_|((first|apply qaw|apply qaz|apply qa1|apply qa4|apply qay|apply qax|apply qar|apply qal|apply qaj|apply qap)<;>first|(apply qam;(repeat' first|assumption|exact qaa rfl|apply qaf rfl|apply qab);done)|exact qao _ _|exact qai _|exact qan _|exact qad|exact qag|exact qae|exact qac|exact qah _|exact qau _ (by omega)|exact qat (by omega)|exact qas (by omega)|exact rfl|assumption|apply qav)|((first|apply qa3|apply qaq|apply qak)<;>first|(apply qam;(repeat' first|assumption|exact qaa rfl|apply qaf rfl|apply qab);done)|exact qao _ _|exact qai _|exact qan _|exact qad|exact qag|exact qae|exact qac|exact qah _|exact qau _ (by omega)|exact qat (by omega)|exact qas (by omega)|exact rfl|assumption|apply qav)|(apply qa2 rfl rfl;(focus (repeat' first|assumption|exact qaa rfl|apply qaf rfl|apply qab);done))|(apply qbj rfl rfl;(focus (repeat' first|assumption|exact qaa rfl|apply qaf rfl|apply qab);done);exact rfl)))
      (refine R_drawn [0, 1, 2, 3, 4, 5, 6, 7, 8, 9, 10, 11, 12, 13] [0, 0, 0, 0, 8, 0, 56, 120, 0, 0, 0, 2044, 4095, 8191] (by kernel_rfl) (by kernel_rfl) (by rfl) ?_; dsimp only [qc1, List.map, List.getElem?_cons_zero, List.getElem?_cons_succ])
      (repeat (first|refine KW.go ?_|((first|apply qaw|apply qaz|apply qa1|apply qa4|apply qay|apply qax|apply qar|apply qal|apply qaj|apply qap)<;>first|(apply qam;(repeat' first|assumption|exact qaa rfl|apply qaf rfl|apply qab);done)|exact qao _ _|exact qai _|exact qan _|exact qad|exact qag|exact qae|exact qac|exact qah _|exact qau _ (by omega)|exact qat (by omega)|exact qas (by omega)|exact rfl|assumption|apply qav)|((first|apply qa3|apply qaq|apply qak)<;>first|(apply qam;(repeat' first|assumption|exact qaa rfl|apply qaf rfl|apply qab);done)|exact qao _ _|exact qai _|exact qan _|exact qad|exact qag|exact qae|exact qac|exact qah _|exact qau _ (by omega)|exact qat (by omega)|exact qas (by omega)|exact rfl|assumption|apply qav)|(apply qa2 rfl rfl;(focus (repeat' first|assumption|exact qaa rfl|apply qaf rfl|apply qab);done))|(apply qbj rfl rfl;(focus (repeat' first|assumption|exact qaa rfl|apply qaf rfl|apply qab);done);exact rfl)))
      apply qbp
      · (focus first|(apply qam;(repeat' first|assumption|exact qaa rfl|apply qaf rfl|apply qab);done)|exact qao _ _|exact qai _|exact qan _|exact qad|exact qag|exact qae|exact qac|exact qah _)
      · exact q7
      · (focus first|(apply qam;(repeat' first|assumption|exact qaa rfl|apply qaf rfl|apply qab);done)|exact qao _ _|exact qai _|exact qan _|exact qad|exact qag|exact qae|exact qac|exact qah _)
      · omega
      · rfl
      intro a3 ha3 _
      rw [ints_at (l := opsF i) (i := i) (by omega)] at ha3
      apply qce
      · (focus first|(apply qam;(repeat' first|assumption|exact qaa rfl|apply qaf rfl|apply qab);done)|exact qao _ _|exact qai _|exact qan _|exact qad|exact qag|exact qae|exact qac|exact qah _)
      · exact ha3
      apply qbk (n := 15)
      · (focus first|(apply qam;(repeat' first|assumption|exact qaa rfl|apply qaf rfl|apply qab);done)|exact qao _ _|exact qai _|exact qan _|exact qad|exact qag|exact qae|exact qac|exact qah _)
      · exact r7'
      · rfl
      · exact rfl
      (repeat (first|refine KW.go ?_|((first|apply qaw|apply qaz|apply qa1|apply qa4|apply qay|apply qax|apply qar|apply qal|apply qaj|apply qap)<;>first|(apply qam;(repeat' first|assumption|exact qaa rfl|apply qaf rfl|apply qab);done)|exact qao _ _|exact qai _|exact qan _|exact qad|exact qag|exact qae|exact qac|exact qah _|exact qau _ (by omega)|exact qat (by omega)|exact qas (by omega)|exact rfl|assumption|apply qav)|((first|apply qa3|apply qaq|apply qak)<;>first|(apply qam;(repeat' first|assumption|exact qaa rfl|apply qaf rfl|apply qab);done)|exact qao _ _|exact qai _|exact qan _|exact qad|exact qag|exact qae|exact qac|exact qah _|exact qau _ (by omega)|exact qat (by omega)|exact qas (by omega)|exact rfl|assumption|apply qav)|(apply qa2 rfl rfl;(focus (repeat' first|assumption|exact qaa rfl|apply qaf rfl|apply qab);done))|(apply qbj rfl rfl;(focus (repeat' first|assumption|exact qaa rfl|apply qaf rfl|apply qab);done);exact rfl)))
      apply O_build (c' := stepC (order[i] : Nat) ((opsF i)[i]'(by omega)) pats[order[i]] sv fv)
      · exact qbs (by (focus first|(apply qam;(repeat' first|assumption|exact qaa rfl|apply qaf rfl|apply qab);done)|exact qao _ _|exact qai _|exact qan _|exact qad|exact qag|exact qae|exact qac|exact qah _)) (qbs (by (focus first|(apply qam;(repeat' first|assumption|exact qaa rfl|apply qaf rfl|apply qab);done)|exact qao _ _|exact qai _|exact qan _|exact qad|exact qag|exact qae|exact qac|exact qah _)) (qbs (by (focus first|(apply qam;(repeat' first|assumption|exact qaa rfl|apply qaf rfl|apply qab);done)|exact qao _ _|exact qai _|exact qan _|exact qad|exact qag|exact qae|exact qac|exact qah _)) (qbs (by (focus first|(apply qam;(repeat' first|assumption|exact qaa rfl|apply qaf rfl|apply qab);done)|exact qao _ _|exact qai _|exact qan _|exact qad|exact qag|exact qae|exact qac|exact qah _)) (qbs (by (focus first|(apply qam;(repeat' first|assumption|exact qaa rfl|apply qaf rfl|apply qab);done)|exact qao _ _|exact qai _|exact qan _|exact qad|exact qag|exact qae|exact qac|exact qah _)) qcc))))
      · simp [afillL, splice, ss.acells, sf.acells, ss.known, sf.known, show ∀ c, acells (.agg c) = c from fun _ => rfl, show ∀ c, Am.known (.agg c) = true from fun _ => rfl, show ∀ k c, acells (.int k c) = [.int k c] from fun _ _ => rfl, show ∀ k c, Am.known (.int k c) = true from fun _ _ => rfl]
        rfl
      (apply qb5; (focus first|(apply qam;(repeat' first|assumption|exact qaa rfl|apply qaf rfl|apply qab);done)|exact qao _ _|exact qai _|exact qan _|exact qad|exact qag|exact qae|exact qac|exact qah _); (repeat (apply qbb; (focus first|(apply qam;(repeat' first|assumption|exact qaa rfl|apply qaf rfl|apply qab);done)|exact qao _ _|exact qai _|exact qan _|exact qad|exact qag|exact qae|exact qac|exact qah _))); exact qbi)
      refine (hY i hlt hpl g7 n sv fv (by omega) I7 ss sf).mono ?_
      rintro v g8 ⟨b, rfl, kb8, h1, h2⟩
      refine ⟨Undis.ahead (by kernel_rfl), ?_⟩
      have kp8 : KeepBut (fun j => X j ∨ h.next ≤ j) h g8 := kp7.trans (kb8.weaken fun j hj => .inl hj)
      (repeat (first|refine KW.go ?_|((first|apply qaw|apply qaz|apply qa1|apply qa4|apply qay|apply qax|apply qar|apply qal|apply qaj|apply qap)<;>first|(apply qam;(repeat' first|assumption|exact qaa rfl|apply qaf rfl|apply qab);done)|exact qao _ _|exact qai _|exact qan _|exact qad|exact qag|exact qae|exact qac|exact qah _|exact qau _ (by omega)|exact qat (by omega)|exact qas (by omega)|exact rfl|assumption|apply qav)|((first|apply qa3|apply qaq|apply qak)<;>first|(apply qam;(repeat' first|assumption|exact qaa rfl|apply qaf rfl|apply qab);done)|exact qao _ _|exact qai _|exact qan _|exact qad|exact qag|exact qae|exact qac|exact qah _|exact qau _ (by omega)|exact qat (by omega)|exact qas (by omega)|exact rfl|assumption|apply qav)|(apply qa2 rfl rfl;(focus (repeat' first|assumption|exact qaa rfl|apply qaf rfl|apply qab);done))|(apply qbj rfl rfl;(focus (repeat' first|assumption|exact qaa rfl|apply qaf rfl|apply qab);done);exact rfl)))
      apply qbx (!b)
      · (focus first|(apply qam;(repeat' first|assumption|exact qaa rfl|apply qaf rfl|apply qab);done)|exact qao _ _|exact qai _|exact qan _|exact qad|exact qag|exact qae|exact qac|exact qah _)
      · intro cb
        have cb : b = false := by simpa using cb
        (repeat (first|refine KW.go ?_|((first|apply qaw|apply qaz|apply qa1|apply qa4|apply qay|apply qax|apply qar|apply qal|apply qaj|apply qap)<;>first|(apply qam;(repeat' first|assumption|exact qaa rfl|apply qaf rfl|apply qab);done)|exact qao _ _|exact qai _|exact qan _|exact qad|exact qag|exact qae|exact qac|exact qah _|exact qau _ (by omega)|exact qat (by omega)|exact qas (by omega)|exact rfl|assumption|apply qav)|((first|apply qa3|apply qaq|apply qak)<;>first|(apply qam;(repeat' first|assumption|exact qaa rfl|apply qaf rfl|apply qab);done)|exact qao _ _|exact qai _|exact qan _|exact qad|exact qag|exact qae|exact qac|exact qah _|exact qau _ (by omega)|exact qat (by omega)|exact qas (by omega)|exact rfl|assumption|apply qav)|(apply qa2 rfl rfl;(focus (repeat' first|assumption|exact qaa rfl|apply qaf rfl|apply qab);done))|(apply qbj rfl rfl;(focus (repeat' first|assumption|exact qaa rfl|apply qaf rfl|apply qab);done);exact rfl)))
        apply R_results0 rfl
        exact ⟨kp8, .inr (h2 cb)⟩
      · intro cb
        have cb : b = true := by simpa using cb
        have I8 := h1 cb
        have nX : ∀ j, h.next ≤ j → ¬ X j := fun j hj hx => by have := hX j hx; omega
        have r4c := r4''.keepBut kb8 (nX _ (by have := k1.next; omega))
        have r7c := r7'.keepBut kb8 (nX _ (by omega))
        have knc := kn''.keepBut kb8 (nX _ l1)
        (repeat (first|refine KW.go ?_|((first|apply qaw|apply qaz|apply qa1|apply qa4|apply qay|apply qax|apply qar|apply qal|apply qaj|apply qap)<;>first|(apply qam;(repeat' first|assumption|exact qaa rfl|apply qaf rfl|apply qab);done)|exact qao _ _|exact qai _|exact qan _|exact qad|exact qag|exact qae|exact qac|exact qah _|exact qau _ (by omega)|exact qat (by omega)|exact qas (by omega)|exact rfl|assumption|apply qav)|((first|apply qa3|apply qaq|apply qak)<;>first|(apply qam;(repeat' first|assumption|exact qaa rfl|apply qaf rfl|apply qab);done)|exact qao _ _|exact qai _|exact qan _|exact qad|exact qag|exact qae|exact qac|exact qah _|exact qau _ (by omega)|exact qat (by omega)|exact qas (by omega)|exact rfl|assumption|apply qav)|(apply qa2 rfl rfl;(focus (repeat' first|assumption|exact qaa rfl|apply qaf rfl|apply qab);done))|(apply qbj rfl rfl;(focus (repeat' first|assumption|exact qaa rfl|apply qaf rfl|apply qab);done);exact rfl)))
        (refine R_drawn [0, 1, 2, 3, 4] [0, 0, 2, 6, 15] (by kernel_rfl) (by kernel_rfl) (by rfl) ?_; dsimp only [qc1, List.map, List.getElem?_cons_zero, List.getElem?_cons_succ])
        (repeat (first|refine KW.go ?_|((first|apply qaw|apply qaz|apply qa1|apply qa4|apply qay|apply qax|apply qar|apply qal|apply qaj|apply qap)<;>first|(apply qam;(repeat' first|assumption|exact qaa rfl|apply qaf rfl|apply qab);done)|exact qao _ _|exact qai _|exact qan _|exact qad|exact qag|exact qae|exact qac|exact qah _|exact qau _ (by omega)|exact qat (by omega)|exact qas (by omega)|exact rfl|assumption|apply qav)|((first|apply qa3|apply qaq|apply qak)<;>first|(apply qam;(repeat' first|assumption|exact qaa rfl|apply qaf rfl|apply qab);done)|exact qao _ _|exact qai _|exact qan _|exact qad|exact qag|exact qae|exact qac|exact qah _|exact qau _ (by omega)|exact qat (by omega)|exact qas (by omega)|exact rfl|assumption|apply qav)|(apply qa2 rfl rfl;(focus (repeat' first|assumption|exact qaa rfl|apply qaf rfl|apply qab);done))|(apply qbj rfl rfl;(focus (repeat' first|assumption|exact qaa rfl|apply qaf rfl|apply qab);done);exact rfl)))
        apply qbk (n := 1)
        · (focus first|(apply qam;(repeat' first|assumption|exact qaa rfl|apply qaf rfl|apply qab);done)|exact qao _ _|exact qai _|exact qan _|exact qad|exact qag|exact qae|exact qac|exact qah _)
        · exact r4c
        · rfl
        · exact rfl
        apply qbk (n := 15)
        · (focus first|(apply qam;(repeat' first|assumption|exact qaa rfl|apply qaf rfl|apply qab);done)|exact qao _ _|exact qai _|exact qan _|exact qad|exact qag|exact qae|exact qac|exact qah _)
        · exact r7c
        · rfl
        · exact rfl
        apply qcb
        · exact qbs (by (focus first|(apply qam;(repeat' first|assumption|exact qaa rfl|apply qaf rfl|apply qab);done)|exact qao _ _|exact qai _|exact qan _|exact qad|exact qag|exact qae|exact qac|exact qah _)) qcc
        · rfl
        · rfl
        · exact S.lit _ _
        intro _
        (apply qb5; (focus first|(apply qam;(repeat' first|assumption|exact qaa rfl|apply qaf rfl|apply qab);done)|exact qao _ _|exact qai _|exact qan _|exact qad|exact qag|exact qae|exact qac|exact qah _); (repeat (apply qbb; (focus first|(apply qam;(repeat' first|assumption|exact qaa rfl|apply qaf rfl|apply qab);done)|exact qao _ _|exact qai _|exact qan _|exact qad|exact qag|exact qae|exact qac|exact qah _))); exact qbi)
        apply Runs.wf
        intro w8
        refine (vars_spec S.lit (S' _ (by decide)) (S' _ (by decide)) (S' _ (by decide)) S.has (l := [pats[order[i]]]) (by simp; omega) (SlV.imm _ _ _ rfl) (by simp)).mono ?_
        rintro nv g9 ⟨k9, s9, -, hv9⟩
        refine ⟨k9.undis, ?_⟩
        have hvl := qct [pats[order[i]]]
        simp only [List.length_singleton] at hvl
        have kn9 := knc.keep k9
        have hmidlt := knc.lt w8
        (apply qb5; (focus first|(apply qam;(repeat' first|assumption|exact qaa rfl|apply qaf rfl|apply qab);done)|exact qao _ _|exact qai _|exact qan _|exact qad|exact qag|exact qae|exact qac|exact qah _); (repeat (apply qbb; (focus first|(apply qam;(repeat' first|assumption|exact qaa rfl|apply qaf rfl|apply qab);done)|exact qao _ _|exact qai _|exact qan _|exact qad|exact qag|exact qae|exact qac|exact qah _))); exact qbi)
        refine (learn_spec (S' _ (by decide)) (by omega) kn9 s9 (fun q => by have := hv9 _ q; omega) (by omega)).mono ?_
        rintro _ g10 ⟨kb10, kn10⟩
        refine ⟨Undis.ahead (by kernel_rfl), ?_⟩
        have hg89 : g8.next ≤ g9.next := k9.next
        have hh8 : h.next ≤ g8.next := kp8.next
        have kb910 : KeepBut (h.next ≤ ·) g8 g10 := (k9.but _).trans (kb10.weaken fun j hj => by rcases hj with rfl | hj; exact l1; omega)
        have hi4m : i4 ≠ mid := by omega
        have r4d := (r4c.keep k9).keepBut kb10 (fun q => by rcases q with q | q; exact hi4m q; have := r4c.lt w8; omega)
        (repeat (first|refine KW.go ?_|((first|apply qaw|apply qaz|apply qa1|apply qa4|apply qay|apply qax|apply qar|apply qal|apply qaj|apply qap)<;>first|(apply qam;(repeat' first|assumption|exact qaa rfl|apply qaf rfl|apply qab);done)|exact qao _ _|exact qai _|exact qan _|exact qad|exact qag|exact qae|exact qac|exact qah _|exact qau _ (by omega)|exact qat (by omega)|exact qas (by omega)|exact rfl|assumption|apply qav)|((first|apply qa3|apply qaq|apply qak)<;>first|(apply qam;(repeat' first|assumption|exact qaa rfl|apply qaf rfl|apply qab);done)|exact qao _ _|exact qai _|exact qan _|exact qad|exact qag|exact qae|exact qac|exact qah _|exact qau _ (by omega)|exact qat (by omega)|exact qas (by omega)|exact rfl|assumption|apply qav)|(apply qa2 rfl rfl;(focus (repeat' first|assumption|exact qaa rfl|apply qaf rfl|apply qab);done))|(apply qbj rfl rfl;(focus (repeat' first|assumption|exact qaa rfl|apply qaf rfl|apply qab);done);exact rfl)))
        apply qdg (order.length - (i + 1)) (by omega)
        refine ⟨i + 1, c + (qcz [pats[order[i]]]).length, rfl, by omega, by (repeat' first|assumption|exact qaa rfl|apply qaf rfl|apply qab), by (repeat' first|assumption|exact qaa rfl|apply qaf rfl|apply qab), by (repeat' first|assumption|exact qaa rfl|apply qaf rfl|apply qab), by (repeat' first|assumption|exact qaa rfl|apply qaf rfl|apply qab), by (repeat' first|assumption|exact qaa rfl|apply qaf rfl|apply qab), by (repeat' first|assumption|exact qaa rfl|apply qaf rfl|apply qab), by (repeat' first|assumption|exact qaa rfl|apply qaf rfl|apply qab), kp8.trans (kb910.weaken fun j hj => .inr hj), hI _ _ _ I8 kb910, r4d, ?_, by omega⟩
        rw [knownAt_succ pats order hlt hpl]
        exact kn10
    · intro cc
      have : i = order.length := by
        have : ¬ i < order.length := by simpa using cc
        omega
      subst this
      (repeat (first|refine KW.go ?_|((first|apply qaw|apply qaz|apply qa1|apply qa4|apply qay|apply qax|apply qar|apply qal|apply qaj|apply qap)<;>first|(apply qam;(repeat' first|assumption|exact qaa rfl|apply qaf rfl|apply qab);done)|exact qao _ _|exact qai _|exact qan _|exact qad|exact qag|exact qae|exact qac|exact qah _|exact qau _ (by omega)|exact qat (by omega)|exact qas (by omega)|exact rfl|assumption|apply qav)|((first|apply qa3|apply qaq|apply qak)<;>first|(apply qam;(repeat' first|assumption|exact qaa rfl|apply qaf rfl|apply qab);done)|exact qao _ _|exact qai _|exact qan _|exact qad|exact qag|exact qae|exact qac|exact qah _|exact qau _ (by omega)|exact qat (by omega)|exact qas (by omega)|exact rfl|assumption|apply qav)|(apply qa2 rfl rfl;(focus (repeat' first|assumption|exact qaa rfl|apply qaf rfl|apply qab);done))|(apply qbj rfl rfl;(focus (repeat' first|assumption|exact qaa rfl|apply qaf rfl|apply qab);done);exact rfl)))
      apply R_results0 rfl
      exact ⟨kp, .inl hIi⟩
end Go.Am
namespace Go.Am
open Go Go.Proofs AM
set_option maxRecDepth 10000
variable {pol : Pol} {sums : Sums}

def mayZ (op : Int) (k : Nat) : Bool := if op = 1 then true else if op = 2 then decide (0 < k) else if op = 3 then k == 1 else false
def stepOk (pats : List Ptn) (o : List Nat) (ops : List Int) (i : Nat) : Bool := match o[i]?, ops[i]? with
  | some j, some op => match pats[j]? with
    | some p => mayZ op (qb4 (qbo pats o i) p).length
    | none => false
  | _, _ => false
def qcw (pats : List Ptn) (order ops : List Int) : Bool := wholeZ order pats.length && (ops.length == pats.length) && (List.range pats.length).all (stepOk pats (order.map Int.toNat) ops)

theorem zs_toNat (o : List Nat) : (zs o).map Int.toNat = o := by
  simp [zs, List.map_map, Function.comp_def]
theorem wholeZ_true {l : List Int} {m : Nat} (h : wholeZ l m = true) : ∃ o : List Nat, l = zs o ∧ (∀ i ∈ o, i < m) ∧ o.length = m ∧ o.Perm (List.range m) := by
  simp only [wholeZ, Bool.and_eq_true, decide_eq_true_eq, beq_iff_eq] at h
  obtain ⟨h1, rfl⟩ := h
  have hp : l.Perm (zs (List.range l.length)) := by rw [← h1]; exact (sortZ_perm l).symm
  have hz : ∀ x ∈ l, ∃ i : Nat, x = (i : Int) ∧ i < l.length := fun x hx => by
    obtain ⟨i, hi, rfl⟩ := List.mem_map.1 (hp.mem_iff.1 hx)
    exact ⟨i, rfl, List.mem_range.1 hi⟩
  have hl : l = zs (l.map Int.toNat) := by
    apply List.ext_getElem
    · simp
    · intro i h1 h2
      obtain ⟨j, hj, _⟩ := hz l[i] (List.getElem_mem h1)
      simp [zs, hj]
  refine ⟨l.map Int.toNat, hl, fun i hi => ?_, by simp, ?_⟩
  · obtain ⟨x, hx, rfl⟩ := List.mem_map.1 hi
    obtain ⟨j, rfl, hj⟩ := hz x hx
    simpa using hj
  · have := hp.map Int.toNat
    rw [zs_toNat] at this
    exact this

attribute [local irreducible] KSeq KMid KBlock KLoop KOps KFunc Runs qb9 qbn qdl aop qbt qbq qbv qbv? qbd qbw qa9
attribute [local irreducible] KRound KAssign
theorem may_spec (hs : sums 29 = none) {n : Nat} (hn : 1 ≤ n) (op : Int) (k : Nat) (h : Hp) : Runs (qbt Try.prog pol sums n (.func (.func 29) [] []) [.int .i64 op, .int .i64 (k : Nat)]) h (fun v h' => h = h' ∧ v = .bool (mayZ op k)) := by
  obtain ⟨n, rfl⟩ : ∃ m, n = m + 1 := ⟨n - 1, by omega⟩
  refine qcq (by assumption) Try.func29 rfl (by simp [Try.f29]) ?_
  have a0 : qbq (qa9 Try.f29.ntmps (([] ++ [.int .i64 op, .int .i64 (k : Nat)] ++ []) : List AV)) 0 = .int .i64 op := qa8 rfl
  have a1 : qbq (qa9 Try.f29.ntmps (([] ++ [.int .i64 op, .int .i64 (k : Nat)] ++ []) : List AV)) 1 = .int .i64 (k : Nat) := qa8 rfl
  generalize qa9 Try.f29.ntmps (([] ++ [.int .i64 op, .int .i64 (k : Nat)] ++ []) : List AV) = T at *
  show Runs (qbn _ _ _ _ 16 _ _ _) _ _
  (repeat (first|refine KW.go ?_|((first|apply qaw|apply qaz|apply qa1|apply qa4|apply qay|apply qax|apply qar|apply qal|apply qaj|apply qap)<;>first|(apply qam;(repeat' first|assumption|exact qaa rfl|apply qaf rfl|apply qab);done)|exact qao _ _|exact qai _|exact qan _|exact qad|exact qag|exact qae|exact qac|exact qah _|exact qau _ (by omega)|exact qat (by omega)|exact qas (by omega)|exact rfl|assumption|apply qav)|((first|apply qa3|apply qaq|apply qak)<;>first|(apply qam;(repeat' first|assumption|exact qaa rfl|apply qaf rfl|apply qab);done)|exact qao _ _|exact qai _|exact qan _|exact qad|exact qag|exact qae|exact qac|exact qah _|exact qau _ (by omega)|exact qat (by omega)|exact qas (by omega)|exact rfl|assumption|apply qav)|(apply qa2 rfl rfl;(focus (repeat' first|assumption|exact qaa rfl|apply qaf rfl|apply qab);done))|(apply qbj rfl rfl;(focus (repeat' first|assumption|exact qaa rfl|apply qaf rfl|apply qab);done);exact rfl)))
  apply qbx (op == 1)
  · (focus first|(apply qam;(repeat' first|assumption|exact qaa rfl|apply qaf rfl|apply qab);done)|exact qao _ _|exact qai _|exact qan _|exact qad|exact qag|exact qae|exact qac|exact qah _)
  · intro c
    have c : op = 1 := by simpa using c
    (repeat (first|refine KW.go ?_|((first|apply qaw|apply qaz|apply qa1|apply qa4|apply qay|apply qax|apply qar|apply qal|apply qaj|apply qap)<;>first|(apply qam;(repeat' first|assumption|exact qaa rfl|apply qaf rfl|apply qab);done)|exact qao _ _|exact qai _|exact qan _|exact qad|exact qag|exact qae|exact qac|exact qah _|exact qau _ (by omega)|exact qat (by omega)|exact qas (by omega)|exact rfl|assumption|apply qav)|((first|apply qa3|apply qaq|apply qak)<;>first|(apply qam;(repeat' first|assumption|exact qaa rfl|apply qaf rfl|apply qab);done)|exact qao _ _|exact qai _|exact qan _|exact qad|exact qag|exact qae|exact qac|exact qah _|exact qau _ (by omega)|exact qat (by omega)|exact qas (by omega)|exact rfl|assumption|apply qav)|(apply qa2 rfl rfl;(focus (repeat' first|assumption|exact qaa rfl|apply qaf rfl|apply qab);done))|(apply qbj rfl rfl;(focus (repeat' first|assumption|exact qaa rfl|apply qaf rfl|apply qab);done);exact rfl)))
    (apply qbl rfl; (repeat' first|assumption|exact qaa rfl|apply qaf rfl|apply qab))
    simp [mayZ, c]
  intro c
  have c : ¬ op = 1 := by simpa using c
  (repeat (first|refine KW.go ?_|((first|apply qaw|apply qaz|apply qa1|apply qa4|apply qay|apply qax|apply qar|apply qal|apply qaj|apply qap)<;>first|(apply qam;(repeat' first|assumption|exact qaa rfl|apply qaf rfl|apply qab);done)|exact qao _ _|exact qai _|exact qan _|exact qad|exact qag|exact qae|exact qac|exact qah _|exact qau _ (by omega)|exact qat (by omega)|exact qas (by omega)|exact rfl|assumption|apply qav)|((first|apply qa3|apply qaq|apply qak)<;>first|(apply qam;(repeat' first|assumption|exact qaa rfl|apply qaf rfl|apply qab);done)|exact qao _ _|exact qai _|exact qan _|exact qad|exact qag|exact qae|exact qac|exact qah _|exact qau _ (by omega)|exact qat (by omega)|exact qas (by omega)|exact rfl|assumption|apply qav)|(apply qa2 rfl rfl;(focus (repeat' first|assumption|exact qaa rfl|apply qaf rfl|apply qab);done))|(apply qbj rfl rfl;(focus (repeat' first|assumption|exact qaa rfl|apply qaf rfl|apply qab);done);exact rfl)))
  apply qbx (op == 2)
  · (focus first|(apply qam;(repeat' first|assumption|exact qaa rfl|apply qaf rfl|apply qab);done)|exact qao _ _|exact qai _|exact qan _|exact qad|exact qag|exact qae|exact qac|exact qah _)
  · intro c2
    have c2 : op = 2 := by simpa using c2
    (repeat (first|refine KW.go ?_|((first|apply qaw|apply qaz|apply qa1|apply qa4|apply qay|apply qax|apply qar|apply qal|apply qaj|apply qap)<;>first|(apply qam;(repeat' first|assumption|exact qaa rfl|apply qaf rfl|apply qab);done)|exact qao _ _|exact qai _|exact qan _|exact qad|exact qag|exact qae|exact qac|exact qah _|exact qau _ (by omega)|exact qat (by omega)|exact qas (by omega)|exact rfl|assumption|apply qav)|((first|apply qa3|apply qaq|apply qak)<;>first|(apply qam;(repeat' first|assumption|exact qaa rfl|apply qaf rfl|apply qab);done)|exact qao _ _|exact qai _|exact qan _|exact qad|exact qag|exact qae|exact qac|exact qah _|exact qau _ (by omega)|exact qat (by omega)|exact qas (by omega)|exact rfl|assumption|apply qav)|(apply qa2 rfl rfl;(focus (repeat' first|assumption|exact qaa rfl|apply qaf rfl|apply qab);done))|(apply qbj rfl rfl;(focus (repeat' first|assumption|exact qaa rfl|apply qaf rfl|apply qab);done);exact rfl)))
    (apply qbl rfl; (repeat' first|assumption|exact qaa rfl|apply qaf rfl|apply qab))
    simp [mayZ, c2]
  intro c2
  have c2 : ¬ op = 2 := by simpa using c2
  (repeat (first|refine KW.go ?_|((first|apply qaw|apply qaz|apply qa1|apply qa4|apply qay|apply qax|apply qar|apply qal|apply qaj|apply qap)<;>first|(apply qam;(repeat' first|assumption|exact qaa rfl|apply qaf rfl|apply qab);done)|exact qao _ _|exact qai _|exact qan _|exact qad|exact qag|exact qae|exact qac|exact qah _|exact qau _ (by omega)|exact qat (by omega)|exact qas (by omega)|exact rfl|assumption|apply qav)|((first|apply qa3|apply qaq|apply qak)<;>first|(apply qam;(repeat' first|assumption|exact qaa rfl|apply qaf rfl|apply qab);done)|exact qao _ _|exact qai _|exact qan _|exact qad|exact qag|exact qae|exact qac|exact qah _|exact qau _ (by omega)|exact qat (by omega)|exact qas (by omega)|exact rfl|assumption|apply qav)|(apply qa2 rfl rfl;(focus (repeat' first|assumption|exact qaa rfl|apply qaf rfl|apply qab);done))|(apply qbj rfl rfl;(focus (repeat' first|assumption|exact qaa rfl|apply qaf rfl|apply qab);done);exact rfl)))
  apply qbx (op == 3)
  · (focus first|(apply qam;(repeat' first|assumption|exact qaa rfl|apply qaf rfl|apply qab);done)|exact qao _ _|exact qai _|exact qan _|exact qad|exact qag|exact qae|exact qac|exact qah _)
  · intro c3
    have c3 : op = 3 := by simpa using c3
    (repeat (first|refine KW.go ?_|((first|apply qaw|apply qaz|apply qa1|apply qa4|apply qay|apply qax|apply qar|apply qal|apply qaj|apply qap)<;>first|(apply qam;(repeat' first|assumption|exact qaa rfl|apply qaf rfl|apply qab);done)|exact qao _ _|exact qai _|exact qan _|exact qad|exact qag|exact qae|exact qac|exact qah _|exact qau _ (by omega)|exact qat (by omega)|exact qas (by omega)|exact rfl|assumption|apply qav)|((first|apply qa3|apply qaq|apply qak)<;>first|(apply qam;(repeat' first|assumption|exact qaa rfl|apply qaf rfl|apply qab);done)|exact qao _ _|exact qai _|exact qan _|exact qad|exact qag|exact qae|exact qac|exact qah _|exact qau _ (by omega)|exact qat (by omega)|exact qas (by omega)|exact rfl|assumption|apply qav)|(apply qa2 rfl rfl;(focus (repeat' first|assumption|exact qaa rfl|apply qaf rfl|apply qab);done))|(apply qbj rfl rfl;(focus (repeat' first|assumption|exact qaa rfl|apply qaf rfl|apply qab);done);exact rfl)))
    (apply qbl rfl; (repeat' first|assumption|exact qaa rfl|apply qaf rfl|apply qab))
    simp [mayZ, c3]
    rw [Bool.eq_iff_iff]
    simp
    omega
  · intro c3
    have c3 : ¬ op = 3 := by simpa using c3
    (repeat (first|refine KW.go ?_|((first|apply qaw|apply qaz|apply qa1|apply qa4|apply qay|apply qax|apply qar|apply qal|apply qaj|apply qap)<;>first|(apply qam;(repeat' first|assumption|exact qaa rfl|apply qaf rfl|apply qab);done)|exact qao _ _|exact qai _|exact qan _|exact qad|exact qag|exact qae|exact qac|exact qah _|exact qau _ (by omega)|exact qat (by omega)|exact qas (by omega)|exact rfl|assumption|apply qav)|((first|apply qa3|apply qaq|apply qak)<;>first|(apply qam;(repeat' first|assumption|exact qaa rfl|apply qaf rfl|apply qab);done)|exact qao _ _|exact qai _|exact qan _|exact qad|exact qag|exact qae|exact qac|exact qah _|exact qau _ (by omega)|exact qat (by omega)|exact qas (by omega)|exact rfl|assumption|apply qav)|(apply qa2 rfl rfl;(focus (repeat' first|assumption|exact qaa rfl|apply qaf rfl|apply qab);done))|(apply qbj rfl rfl;(focus (repeat' first|assumption|exact qaa rfl|apply qaf rfl|apply qab);done);exact rfl)))
    (apply qbl rfl; (repeat' first|assumption|exact qaa rfl|apply qaf rfl|apply qab))
    simp [mayZ, c, c2, c3]

theorem each_spec (S : S27' pol sums) {n : Nat} (hn : 1 ≤ n) {h : Hp} {ov qv pv : AV} (ho : acells pv = [pv]) (hk : Am.known pv = true) :
    Runs (qbt Try.prog pol sums n (.func (.func 21) [] []) [.agg [ov, qv], pv]) h (fun v h' => Keep h h' ∧ ∃ ip iq, v = .func (.func 47) [] [.ptr ip 0 0, .ptr iq 0 0] ∧ Row h' ip 0 2 [ov, qv] true ∧ Row h' iq 0 1 [pv] true ∧ h.next ≤ ip ∧ h.next ≤ iq) := by
  have s21 : sums 21 = none := S.rest _ (by decide)
  obtain ⟨n, rfl⟩ : ∃ m, n = m + 1 := ⟨n - 1, by omega⟩
  refine qcq (by assumption) Try.func21 rfl (by simp [Try.f21]) ?_
  have a0 : qbq (qa9 Try.f21.ntmps (([] ++ [.agg [ov, qv], pv] ++ []) : List AV)) 0 = .agg [ov, qv] := qa8 rfl
  have a1 : qbq (qa9 Try.f21.ntmps (([] ++ [.agg [ov, qv], pv] ++ []) : List AV)) 1 = pv := qa8 rfl
  generalize qa9 Try.f21.ntmps (([] ++ [.agg [ov, qv], pv] ++ []) : List AV) = T at *
  show Runs (qbn _ _ _ _ 6 _ _ _) _ _
  (repeat (first|refine KW.go ?_|((first|apply qaw|apply qaz|apply qa1|apply qa4|apply qay|apply qax|apply qar|apply qal|apply qaj|apply qap)<;>first|(apply qam;(repeat' first|assumption|exact qaa rfl|apply qaf rfl|apply qab);done)|exact qao _ _|exact qai _|exact qan _|exact qad|exact qag|exact qae|exact qac|exact qah _|exact qau _ (by omega)|exact qat (by omega)|exact qas (by omega)|exact rfl|assumption|apply qav)|((first|apply qa3|apply qaq|apply qak)<;>first|(apply qam;(repeat' first|assumption|exact qaa rfl|apply qaf rfl|apply qab);done)|exact qao _ _|exact qai _|exact qan _|exact qad|exact qag|exact qae|exact qac|exact qah _|exact qau _ (by omega)|exact qat (by omega)|exact qas (by omega)|exact rfl|assumption|apply qav)|(apply qa2 rfl rfl;(focus (repeat' first|assumption|exact qaa rfl|apply qaf rfl|apply qab);done))|(apply qbj rfl rfl;(focus (repeat' first|assumption|exact qaa rfl|apply qaf rfl|apply qab);done);exact rfl)))
  apply O_box
  · (focus first|(apply qam;(repeat' first|assumption|exact qaa rfl|apply qaf rfl|apply qab);done)|exact qao _ _|exact qai _|exact qan _|exact qad|exact qag|exact qae|exact qac|exact qah _)
  · rfl
  intro g1 ip k1 r1 l1 l2
  change Row g1 ip 0 2 [ov, qv] true at r1
  apply O_box
  · (focus first|(apply qam;(repeat' first|assumption|exact qaa rfl|apply qaf rfl|apply qab);done)|exact qao _ _|exact qai _|exact qan _|exact qad|exact qag|exact qae|exact qac|exact qah _)
  · exact hk
  intro g2 iq k2 r2 l3 l4
  rw [ho] at r2
  (repeat (first|refine KW.go ?_|((first|apply qaw|apply qaz|apply qa1|apply qa4|apply qay|apply qax|apply qar|apply qal|apply qaj|apply qap)<;>first|(apply qam;(repeat' first|assumption|exact qaa rfl|apply qaf rfl|apply qab);done)|exact qao _ _|exact qai _|exact qan _|exact qad|exact qag|exact qae|exact qac|exact qah _|exact qau _ (by omega)|exact qat (by omega)|exact qas (by omega)|exact rfl|assumption|apply qav)|((first|apply qa3|apply qaq|apply qak)<;>first|(apply qam;(repeat' first|assumption|exact qaa rfl|apply qaf rfl|apply qab);done)|exact qao _ _|exact qai _|exact qan _|exact qad|exact qag|exact qae|exact qac|exact qah _|exact qau _ (by omega)|exact qat (by omega)|exact qas (by omega)|exact rfl|assumption|apply qav)|(apply qa2 rfl rfl;(focus (repeat' first|assumption|exact qaa rfl|apply qaf rfl|apply qab);done))|(apply qbj rfl rfl;(focus (repeat' first|assumption|exact qaa rfl|apply qaf rfl|apply qab);done);exact rfl)))
  apply O_makeFunc (l1 := []) (l2 := [.ptr ip 0 0, .ptr iq 0 0])
  · exact qbi
  · exact qbb (by (focus first|(apply qam;(repeat' first|assumption|exact qaa rfl|apply qaf rfl|apply qab);done)|exact qao _ _|exact qai _|exact qan _|exact qad|exact qag|exact qae|exact qac|exact qah _)) (qbb (by (focus first|(apply qam;(repeat' first|assumption|exact qaa rfl|apply qaf rfl|apply qab);done)|exact qao _ _|exact qai _|exact qan _|exact qad|exact qag|exact qae|exact qac|exact qah _)) qbi)
  (repeat (first|refine KW.go ?_|((first|apply qaw|apply qaz|apply qa1|apply qa4|apply qay|apply qax|apply qar|apply qal|apply qaj|apply qap)<;>first|(apply qam;(repeat' first|assumption|exact qaa rfl|apply qaf rfl|apply qab);done)|exact qao _ _|exact qai _|exact qan _|exact qad|exact qag|exact qae|exact qac|exact qah _|exact qau _ (by omega)|exact qat (by omega)|exact qas (by omega)|exact rfl|assumption|apply qav)|((first|apply qa3|apply qaq|apply qak)<;>first|(apply qam;(repeat' first|assumption|exact qaa rfl|apply qaf rfl|apply qab);done)|exact qao _ _|exact qai _|exact qan _|exact qad|exact qag|exact qae|exact qac|exact qah _|exact qau _ (by omega)|exact qat (by omega)|exact qas (by omega)|exact rfl|assumption|apply qav)|(apply qa2 rfl rfl;(focus (repeat' first|assumption|exact qaa rfl|apply qaf rfl|apply qab);done))|(apply qbj rfl rfl;(focus (repeat' first|assumption|exact qaa rfl|apply qaf rfl|apply qab);done);exact rfl)))
  (apply qbl rfl; (repeat' first|assumption|exact qaa rfl|apply qaf rfl|apply qab))
  exact ⟨k1.trans k2, ip, iq, rfl, r1.keep k2, r2, l1, by have := k1.next; omega⟩

theorem right_spec (S : S27' pol sums) {n : Nat} {h : Hp} {ov qv pv : AV} {order ops : List Int} {pats : List Ptn} (hn : order.length + pats.length + 40 ≤ n) (hb : order.length < 2 ^ 30) (hb2 : pats.length < 2 ^ 30) (hb3 : ops.length < 2 ^ 40)
    (oo : Ints h ov order) (oq : Ints h qv ops) (po : Rows ptnC 15 h pv pats) :
    Runs (qbt Try.prog pol sums n (.func (.func 9) [] []) [.agg [ov, qv], pv]) h (fun v h' => Keep h h' ∧ v = .int .i64 (if qcw pats order ops then 0 else 18)) := by
  apply Runs.wf
  intro w
  have S' := S.rest
  have s9 : sums 9 = none := S' _ (by decide)
  obtain ⟨n, rfl⟩ : ∃ m, n = m + 1 := ⟨n - 1, by omega⟩
  refine qcq (by assumption) Try.func9 rfl (by simp [Try.f9]) ?_
  have a0 : qbq (qa9 Try.f9.ntmps (([] ++ [.agg [ov, qv], pv] ++ []) : List AV)) 0 = .agg [ov, qv] := qa8 rfl
  have a1 : qbq (qa9 Try.f9.ntmps (([] ++ [.agg [ov, qv], pv] ++ []) : List AV)) 1 = pv := qa8 rfl
  generalize qa9 Try.f9.ntmps (([] ++ [.agg [ov, qv], pv] ++ []) : List AV) = T at *
  show Runs (qbn _ _ _ _ 33 _ _ _) _ _
  (repeat (first|refine KW.go ?_|((first|apply qaw|apply qaz|apply qa1|apply qa4|apply qay|apply qax|apply qar|apply qal|apply qaj|apply qap)<;>first|(apply qam;(repeat' first|assumption|exact qaa rfl|apply qaf rfl|apply qab);done)|exact qao _ _|exact qai _|exact qan _|exact qad|exact qag|exact qae|exact qac|exact qah _|exact qau _ (by omega)|exact qat (by omega)|exact qas (by omega)|exact rfl|assumption|apply qav)|((first|apply qa3|apply qaq|apply qak)<;>first|(apply qam;(repeat' first|assumption|exact qaa rfl|apply qaf rfl|apply qab);done)|exact qao _ _|exact qai _|exact qan _|exact qad|exact qag|exact qae|exact qac|exact qah _|exact qau _ (by omega)|exact qat (by omega)|exact qas (by omega)|exact rfl|assumption|apply qav)|(apply qa2 rfl rfl;(focus (repeat' first|assumption|exact qaa rfl|apply qaf rfl|apply qab);done))|(apply qbj rfl rfl;(focus (repeat' first|assumption|exact qaa rfl|apply qaf rfl|apply qab);done);exact rfl)))
  apply O_box
  · (focus first|(apply qam;(repeat' first|assumption|exact qaa rfl|apply qaf rfl|apply qab);done)|exact qao _ _|exact qai _|exact qan _|exact qad|exact qag|exact qae|exact qac|exact qah _)
  · rfl
  intro g1 i2 k1 r2 l1 l2
  change Row g1 i2 0 2 [ov, qv] true at r2
  apply qdn
  intro g2 ie k2 re l3 l4
  change Row g2 ie 0 1 [.int .i64 0] true at re
  replace r2 := r2.keep k2
  have kk := k1.trans k2
  have oo2 := oo.keep kk
  have oq2 := oq.keep kk
  have po2 := po.keep kk
  (repeat (first|refine KW.go ?_|((first|apply qaw|apply qaz|apply qa1|apply qa4|apply qay|apply qax|apply qar|apply qal|apply qaj|apply qap)<;>first|(apply qam;(repeat' first|assumption|exact qaa rfl|apply qaf rfl|apply qab);done)|exact qao _ _|exact qai _|exact qan _|exact qad|exact qag|exact qae|exact qac|exact qah _|exact qau _ (by omega)|exact qat (by omega)|exact qas (by omega)|exact rfl|assumption|apply qav)|((first|apply qa3|apply qaq|apply qak)<;>first|(apply qam;(repeat' first|assumption|exact qaa rfl|apply qaf rfl|apply qab);done)|exact qao _ _|exact qai _|exact qan _|exact qad|exact qag|exact qae|exact qac|exact qah _|exact qau _ (by omega)|exact qat (by omega)|exact qas (by omega)|exact rfl|assumption|apply qav)|(apply qa2 rfl rfl;(focus (repeat' first|assumption|exact qaa rfl|apply qaf rfl|apply qab);done))|(apply qbj rfl rfl;(focus (repeat' first|assumption|exact qaa rfl|apply qaf rfl|apply qab);done);exact rfl)))
  (apply qb5; (focus first|(apply qam;(repeat' first|assumption|exact qaa rfl|apply qaf rfl|apply qab);done)|exact qao _ _|exact qai _|exact qan _|exact qad|exact qag|exact qae|exact qac|exact qah _); (repeat (apply qbb; (focus first|(apply qam;(repeat' first|assumption|exact qaa rfl|apply qaf rfl|apply qab);done)|exact qao _ _|exact qai _|exact qan _|exact qad|exact qag|exact qae|exact qac|exact qah _))); exact qbi)
  refine (whole_spec S (by omega) oo2 (by omega) pats.length).mono ?_
  rintro v g3 ⟨k3, rfl⟩
  refine ⟨Undis.off rfl, ?_⟩
  replace r2 := r2.keep k3
  replace re := re.keep k3
  replace oq2 := oq2.keep k3
  replace po2 := po2.keep k3
  replace oo2 := oo2.keep k3
  replace kk := kk.trans k3
  have endBad : ∀ (T : qba) (g4 : Hp), qbq T 4 = .ptr ie 0 0 → Keep h g4 → Row g4 ie 0 1 [.int .i64 18] true → qcw pats order ops = false → Runs (qbw Try.prog Try.f9 T) g4 (fun v h' => Keep h h' ∧ v = .int .i64 (if qcw pats order ops then 0 else 18)) := by
    intro T g4 t4 k4 r4 hr
    apply R_res_one rfl t4 r4 rfl
    exact ⟨k4, by rw [hr]; rfl⟩
  have hie : ∀ j, j = ie → h.get j = none := fun j hj => by subst hj; exact w.get (by have := k1.next; omega)
  (repeat (first|refine KW.go ?_|((first|apply qaw|apply qaz|apply qa1|apply qa4|apply qay|apply qax|apply qar|apply qal|apply qaj|apply qap)<;>first|(apply qam;(repeat' first|assumption|exact qaa rfl|apply qaf rfl|apply qab);done)|exact qao _ _|exact qai _|exact qan _|exact qad|exact qag|exact qae|exact qac|exact qah _|exact qau _ (by omega)|exact qat (by omega)|exact qas (by omega)|exact rfl|assumption|apply qav)|((first|apply qa3|apply qaq|apply qak)<;>first|(apply qam;(repeat' first|assumption|exact qaa rfl|apply qaf rfl|apply qab);done)|exact qao _ _|exact qai _|exact qan _|exact qad|exact qag|exact qae|exact qac|exact qah _|exact qau _ (by omega)|exact qat (by omega)|exact qas (by omega)|exact rfl|assumption|apply qav)|(apply qa2 rfl rfl;(focus (repeat' first|assumption|exact qaa rfl|apply qaf rfl|apply qab);done))|(apply qbj rfl rfl;(focus (repeat' first|assumption|exact qaa rfl|apply qaf rfl|apply qab);done);exact rfl)))
  cases hw : wholeZ order pats.length with
  | false =>
    (repeat (first|refine KW.go ?_|((first|apply qaw|apply qaz|apply qa1|apply qa4|apply qay|apply qax|apply qar|apply qal|apply qaj|apply qap)<;>first|(apply qam;(repeat' first|assumption|exact qaa rfl|apply qaf rfl|apply qab);done)|exact qao _ _|exact qai _|exact qan _|exact qad|exact qag|exact qae|exact qac|exact qah _|exact qau _ (by omega)|exact qat (by omega)|exact qas (by omega)|exact rfl|assumption|apply qav)|((first|apply qa3|apply qaq|apply qak)<;>first|(apply qam;(repeat' first|assumption|exact qaa rfl|apply qaf rfl|apply qab);done)|exact qao _ _|exact qai _|exact qan _|exact qad|exact qag|exact qae|exact qac|exact qah _|exact qau _ (by omega)|exact qat (by omega)|exact qas (by omega)|exact rfl|assumption|apply qav)|(apply qa2 rfl rfl;(focus (repeat' first|assumption|exact qaa rfl|apply qaf rfl|apply qab);done))|(apply qbj rfl rfl;(focus (repeat' first|assumption|exact qaa rfl|apply qaf rfl|apply qab);done);exact rfl)))
    apply qbx true
    · (focus first|(apply qam;(repeat' first|assumption|exact qaa rfl|apply qaf rfl|apply qab);done)|exact qao _ _|exact qai _|exact qan _|exact qad|exact qag|exact qae|exact qac|exact qah _)
    · intro _
      (repeat (first|refine KW.go ?_|((first|apply qaw|apply qaz|apply qa1|apply qa4|apply qay|apply qax|apply qar|apply qal|apply qaj|apply qap)<;>first|(apply qam;(repeat' first|assumption|exact qaa rfl|apply qaf rfl|apply qab);done)|exact qao _ _|exact qai _|exact qan _|exact qad|exact qag|exact qae|exact qac|exact qah _|exact qau _ (by omega)|exact qat (by omega)|exact qas (by omega)|exact rfl|assumption|apply qav)|((first|apply qa3|apply qaq|apply qak)<;>first|(apply qam;(repeat' first|assumption|exact qaa rfl|apply qaf rfl|apply qab);done)|exact qao _ _|exact qai _|exact qan _|exact qad|exact qag|exact qae|exact qac|exact qah _|exact qau _ (by omega)|exact qat (by omega)|exact qas (by omega)|exact rfl|assumption|apply qav)|(apply qa2 rfl rfl;(focus (repeat' first|assumption|exact qaa rfl|apply qaf rfl|apply qab);done))|(apply qbj rfl rfl;(focus (repeat' first|assumption|exact qaa rfl|apply qaf rfl|apply qab);done);exact rfl)))
      apply qcj
      · (focus first|(apply qam;(repeat' first|assumption|exact qaa rfl|apply qaf rfl|apply qab);done)|exact qao _ _|exact qai _|exact qan _|exact qad|exact qag|exact qae|exact qac|exact qah _)
      · (focus first|(apply qam;(repeat' first|assumption|exact qaa rfl|apply qaf rfl|apply qab);done)|exact qao _ _|exact qai _|exact qan _|exact qad|exact qag|exact qae|exact qac|exact qah _)
      · exact re
      · rfl
      intro g4 kb4 r4
      refine ⟨Undis.off rfl, ?_⟩
      (repeat (first|refine KW.go ?_|((first|apply qaw|apply qaz|apply qa1|apply qa4|apply qay|apply qax|apply qar|apply qal|apply qaj|apply qap)<;>first|(apply qam;(repeat' first|assumption|exact qaa rfl|apply qaf rfl|apply qab);done)|exact qao _ _|exact qai _|exact qan _|exact qad|exact qag|exact qae|exact qac|exact qah _|exact qau _ (by omega)|exact qat (by omega)|exact qas (by omega)|exact rfl|assumption|apply qav)|((first|apply qa3|apply qaq|apply qak)<;>first|(apply qam;(repeat' first|assumption|exact qaa rfl|apply qaf rfl|apply qab);done)|exact qao _ _|exact qai _|exact qan _|exact qad|exact qag|exact qae|exact qac|exact qah _|exact qau _ (by omega)|exact qat (by omega)|exact qas (by omega)|exact rfl|assumption|apply qav)|(apply qa2 rfl rfl;(focus (repeat' first|assumption|exact qaa rfl|apply qaf rfl|apply qab);done))|(apply qbj rfl rfl;(focus (repeat' first|assumption|exact qaa rfl|apply qaf rfl|apply qab);done);exact rfl)))
      exact endBad _ _ (by (repeat' first|assumption|exact qaa rfl|apply qaf rfl|apply qab)) (KeepBut.keep kk kb4 hie) r4 (by simp [qcw, hw])
    · intro c; cases c
  | true =>
    (repeat (first|refine KW.go ?_|((first|apply qaw|apply qaz|apply qa1|apply qa4|apply qay|apply qax|apply qar|apply qal|apply qaj|apply qap)<;>first|(apply qam;(repeat' first|assumption|exact qaa rfl|apply qaf rfl|apply qab);done)|exact qao _ _|exact qai _|exact qan _|exact qad|exact qag|exact qae|exact qac|exact qah _|exact qau _ (by omega)|exact qat (by omega)|exact qas (by omega)|exact rfl|assumption|apply qav)|((first|apply qa3|apply qaq|apply qak)<;>first|(apply qam;(repeat' first|assumption|exact qaa rfl|apply qaf rfl|apply qab);done)|exact qao _ _|exact qai _|exact qan _|exact qad|exact qag|exact qae|exact qac|exact qah _|exact qau _ (by omega)|exact qat (by omega)|exact qas (by omega)|exact rfl|assumption|apply qav)|(apply qa2 rfl rfl;(focus (repeat' first|assumption|exact qaa rfl|apply qaf rfl|apply qab);done))|(apply qbj rfl rfl;(focus (repeat' first|assumption|exact qaa rfl|apply qaf rfl|apply qab);done);exact rfl)))
    apply qbx ((ops.length : Int) != (pats.length : Int))
    · (focus first|(apply qam;(repeat' first|assumption|exact qaa rfl|apply qaf rfl|apply qab);done)|exact qao _ _|exact qai _|exact qan _|exact qad|exact qag|exact qae|exact qac|exact qah _)
    · intro c
      have c : ops.length ≠ pats.length := by simp at c; omega
      (repeat (first|refine KW.go ?_|((first|apply qaw|apply qaz|apply qa1|apply qa4|apply qay|apply qax|apply qar|apply qal|apply qaj|apply qap)<;>first|(apply qam;(repeat' first|assumption|exact qaa rfl|apply qaf rfl|apply qab);done)|exact qao _ _|exact qai _|exact qan _|exact qad|exact qag|exact qae|exact qac|exact qah _|exact qau _ (by omega)|exact qat (by omega)|exact qas (by omega)|exact rfl|assumption|apply qav)|((first|apply qa3|apply qaq|apply qak)<;>first|(apply qam;(repeat' first|assumption|exact qaa rfl|apply qaf rfl|apply qab);done)|exact qao _ _|exact qai _|exact qan _|exact qad|exact qag|exact qae|exact qac|exact qah _|exact qau _ (by omega)|exact qat (by omega)|exact qas (by omega)|exact rfl|assumption|apply qav)|(apply qa2 rfl rfl;(focus (repeat' first|assumption|exact qaa rfl|apply qaf rfl|apply qab);done))|(apply qbj rfl rfl;(focus (repeat' first|assumption|exact qaa rfl|apply qaf rfl|apply qab);done);exact rfl)))
      apply qcj
      · (focus first|(apply qam;(repeat' first|assumption|exact qaa rfl|apply qaf rfl|apply qab);done)|exact qao _ _|exact qai _|exact qan _|exact qad|exact qag|exact qae|exact qac|exact qah _)
      · (focus first|(apply qam;(repeat' first|assumption|exact qaa rfl|apply qaf rfl|apply qab);done)|exact qao _ _|exact qai _|exact qan _|exact qad|exact qag|exact qae|exact qac|exact qah _)
      · exact re
      · rfl
      intro g4 kb4 r4
      refine ⟨Undis.off rfl, ?_⟩
      (repeat (first|refine KW.go ?_|((first|apply qaw|apply qaz|apply qa1|apply qa4|apply qay|apply qax|apply qar|apply qal|apply qaj|apply qap)<;>first|(apply qam;(repeat' first|assumption|exact qaa rfl|apply qaf rfl|apply qab);done)|exact qao _ _|exact qai _|exact qan _|exact qad|exact qag|exact qae|exact qac|exact qah _|exact qau _ (by omega)|exact qat (by omega)|exact qas (by omega)|exact rfl|assumption|apply qav)|((first|apply qa3|apply qaq|apply qak)<;>first|(apply qam;(repeat' first|assumption|exact qaa rfl|apply qaf rfl|apply qab);done)|exact qao _ _|exact qai _|exact qan _|exact qad|exact qag|exact qae|exact qac|exact qah _|exact qau _ (by omega)|exact qat (by omega)|exact qas (by omega)|exact rfl|assumption|apply qav)|(apply qa2 rfl rfl;(focus (repeat' first|assumption|exact qaa rfl|apply qaf rfl|apply qab);done))|(apply qbj rfl rfl;(focus (repeat' first|assumption|exact qaa rfl|apply qaf rfl|apply qab);done);exact rfl)))
      exact endBad _ _ (by (repeat' first|assumption|exact qaa rfl|apply qaf rfl|apply qab)) (KeepBut.keep kk kb4 hie) r4 (by simp [qcw, c])
    intro c
    have c : ops.length = pats.length := by simp at c; omega
    obtain ⟨o, rfl, hol, hoL, _⟩ := wholeZ_true hw
    have hzl : (zs o).length = o.length := qcp o
    have hright : qcw pats (zs o) ops = (List.range pats.length).all (stepOk pats o ops) := by
      simp only [qcw, hw, c, zs_toNat]
      simp
    (repeat (first|refine KW.go ?_|((first|apply qaw|apply qaz|apply qa1|apply qa4|apply qay|apply qax|apply qar|apply qal|apply qaj|apply qap)<;>first|(apply qam;(repeat' first|assumption|exact qaa rfl|apply qaf rfl|apply qab);done)|exact qao _ _|exact qai _|exact qan _|exact qad|exact qag|exact qae|exact qac|exact qah _|exact qau _ (by omega)|exact qat (by omega)|exact qas (by omega)|exact rfl|assumption|apply qav)|((first|apply qa3|apply qaq|apply qak)<;>first|(apply qam;(repeat' first|assumption|exact qaa rfl|apply qaf rfl|apply qab);done)|exact qao _ _|exact qai _|exact qan _|exact qad|exact qag|exact qae|exact qac|exact qah _|exact qau _ (by omega)|exact qat (by omega)|exact qas (by omega)|exact rfl|assumption|apply qav)|(apply qa2 rfl rfl;(focus (repeat' first|assumption|exact qaa rfl|apply qaf rfl|apply qab);done))|(apply qbj rfl rfl;(focus (repeat' first|assumption|exact qaa rfl|apply qaf rfl|apply qab);done);exact rfl)))
    apply qbk (n := 2)
    · (focus first|(apply qam;(repeat' first|assumption|exact qaa rfl|apply qaf rfl|apply qab);done)|exact qao _ _|exact qai _|exact qan _|exact qad|exact qag|exact qae|exact qac|exact qah _)
    · exact r2
    · rfl
    · exact rfl
    (repeat (first|refine KW.go ?_|((first|apply qaw|apply qaz|apply qa1|apply qa4|apply qay|apply qax|apply qar|apply qal|apply qaj|apply qap)<;>first|(apply qam;(repeat' first|assumption|exact qaa rfl|apply qaf rfl|apply qab);done)|exact qao _ _|exact qai _|exact qan _|exact qad|exact qag|exact qae|exact qac|exact qah _|exact qau _ (by omega)|exact qat (by omega)|exact qas (by omega)|exact rfl|assumption|apply qav)|((first|apply qa3|apply qaq|apply qak)<;>first|(apply qam;(repeat' first|assumption|exact qaa rfl|apply qaf rfl|apply qab);done)|exact qao _ _|exact qai _|exact qan _|exact qad|exact qag|exact qae|exact qac|exact qah _|exact qau _ (by omega)|exact qat (by omega)|exact qas (by omega)|exact rfl|assumption|apply qav)|(apply qa2 rfl rfl;(focus (repeat' first|assumption|exact qaa rfl|apply qaf rfl|apply qab);done))|(apply qbj rfl rfl;(focus (repeat' first|assumption|exact qaa rfl|apply qaf rfl|apply qab);done);exact rfl)))
    (apply qb5; (focus first|(apply qam;(repeat' first|assumption|exact qaa rfl|apply qaf rfl|apply qab);done)|exact qao _ _|exact qai _|exact qan _|exact qad|exact qag|exact qae|exact qac|exact qah _); (repeat (apply qbb; (focus first|(apply qam;(repeat' first|assumption|exact qaa rfl|apply qaf rfl|apply qab);done)|exact qao _ _|exact qai _|exact qan _|exact qad|exact qag|exact qae|exact qac|exact qah _))); exact qbi)
    refine (each_spec S (by omega) po2.acells po2.known).mono ?_
    rintro v g4 ⟨k4, ip, iq, rfl, rp, rq, l5, l6⟩
    refine ⟨Undis.off rfl, ?_⟩
    replace r2 := r2.keep k4
    replace re := re.keep k4
    replace oq2 := oq2.keep k4
    replace po2 := po2.keep k4
    replace oo2 := oo2.keep k4
    replace kk := kk.trans k4
    apply O_wf
    intro w4
    (repeat (first|refine KW.go ?_|((first|apply qaw|apply qaz|apply qa1|apply qa4|apply qay|apply qax|apply qar|apply qal|apply qaj|apply qap)<;>first|(apply qam;(repeat' first|assumption|exact qaa rfl|apply qaf rfl|apply qab);done)|exact qao _ _|exact qai _|exact qan _|exact qad|exact qag|exact qae|exact qac|exact qah _|exact qau _ (by omega)|exact qat (by omega)|exact qas (by omega)|exact rfl|assumption|apply qav)|((first|apply qa3|apply qaq|apply qak)<;>first|(apply qam;(repeat' first|assumption|exact qaa rfl|apply qaf rfl|apply qab);done)|exact qao _ _|exact qai _|exact qan _|exact qad|exact qag|exact qae|exact qac|exact qah _|exact qau _ (by omega)|exact qat (by omega)|exact qas (by omega)|exact rfl|assumption|apply qav)|(apply qa2 rfl rfl;(focus (repeat' first|assumption|exact qaa rfl|apply qaf rfl|apply qab);done))|(apply qbj rfl rfl;(focus (repeat' first|assumption|exact qaa rfl|apply qaf rfl|apply qab);done);exact rfl)))
    refine R_gen (fun T => qbq T 4 = .ptr ie 0 0 ∧ qbq T 23 = .func (.func 47) [] [.ptr ip 0 0, .ptr iq 0 0]) ⟨by (repeat' first|assumption|exact qaa rfl|apply qaf rfl|apply qab), by (repeat' first|assumption|exact qaa rfl|apply qaf rfl|apply qab)⟩ ?_
    rintro T0 ⟨t4, t23⟩
    apply R_rangeFunc (F := .func (.func 47) [] [.ptr ip 0 0, .ptr iq 0 0])
    · (focus first|(apply qam;(repeat' first|assumption|exact qaa rfl|apply qaf rfl|apply qab);done)|exact qao _ _|exact qai _|exact qan _|exact qad|exact qag|exact qae|exact qac|exact qah _)
    · rfl
    intro h2 lid k5 hl l7 l8
    have hrow := rp.keep k5
    have hroq := rq.keep k5
    replace re := re.keep k5
    replace oq2 := oq2.keep k5
    replace po2 := po2.keep k5
    replace oo2 := oo2.keep k5
    replace kk := kk.trans k5
    have hg4 : g1.next ≤ g4.next := by have := k2.next; have := k3.next; have := k4.next; omega
    have hieL : ie < g4.next := by have := k3.next; have := k4.next; omega
    have lqv : ∀ j ∈ qb1 qv, j < h.next := oq.lt w
    have lov : ∀ j ∈ qb1 ov, j < h.next := oo.lt w
    have lpv : ∀ j ∈ qb1 pv, j < h.next := po.lt w
    have hhg : h.next ≤ g1.next := k1.next
    have hlen : ∀ i, i < o.length → i < ops.length := fun i hi => by omega
    have hstep : ∀ i (hi : i < o.length) (hp : o[i] < pats.length), stepOk pats o ops i = mayZ (ops[i]'(hlen i hi)) (qb4 (qbo pats o i) pats[o[i]]).length := fun i hi hp => by
      simp [stepOk, hi, hlen i hi, hp]
    have hXlt : ∀ j, (j = lid ∨ j = ie) → j < h2.next := fun j hj => by rcases hj with rfl | rfl <;> omega
    have hipL : ip < g4.next := rp.lt w4
    have hiqL : iq < g4.next := rq.lt w4
    have hg3 : g1.next ≤ g3.next := by have := k2.next; have := k3.next; omega
    have hie3 : ie < g3.next := by have := k3.next; omega
    obtain ⟨L, hL⟩ := hl.fam
    refine (each1_spec S (h := h2) (X := fun j => j = lid ∨ j = ie) (n := n) (order := o) (by omega) (by omega) hb2 hrow hroq oo2 po2 hol hXlt (by rintro (q | q) <;> omega) (by rintro (q | q) <;> omega)
      (fun k hk q => by have := lov k hk; rcases q with q | q <;> omega) (fun k hk q => by have := lpv k hk; rcases q with q | q <;> omega)
      (fun _ => ops)
      (fun i g => KeepBut (fun j => j = lid ∨ h2.next ≤ j) h2 g ∧ L g .ready none ∧ ∀ j, j < i → stepOk pats o ops j = true)
      (fun g => KeepBut (fun j => j = lid ∨ j = ie ∨ h2.next ≤ j) h2 g ∧ L g .done (some .ret) ∧ Row g ie 0 1 [.int .i64 18] true ∧ ∃ j, j < o.length ∧ stepOk pats o ops j = false)
      ⟨KeepBut.refl _, (hL _ _ _).2 hl, fun j hj => by omega⟩
      (fun i g g' hi k => ⟨hi.1.trans (k.weaken fun j hj => .inr hj), (hL _ _ _).2 (((hL _ _ _).1 hi.2.1).keepBut k (by omega)), hi.2.2⟩)
      (fun i g hi => oq2.keepBut hi.1 fun j hj q => by have := lqv j hj; rcases q with q | q <;> omega)
      (fun _ => by omega) ?_).mono ?_
    · rintro i hi hp g m sv fv hm ⟨kp, hl2, hall⟩ ss sf
      obtain ⟨m, rfl⟩ : ∃ q, m = q + 1 := ⟨m - 1, by omega⟩
      replace hl2 := (hL _ _ _).1 hl2
      refine R_yield hl2 rfl ?_
      rw [aparams_cons, aparams_cons, aparams_nil]
      (repeat (first|refine KW.go ?_|((first|apply qaw|apply qaz|apply qa1|apply qa4|apply qay|apply qax|apply qar|apply qal|apply qaj|apply qap)<;>first|(apply qam;(repeat' first|assumption|exact qaa rfl|apply qaf rfl|apply qab);done)|exact qao _ _|exact qai _|exact qan _|exact qad|exact qag|exact qae|exact qac|exact qah _|exact qau _ (by omega)|exact qat (by omega)|exact qas (by omega)|exact rfl|assumption|apply qav)|((first|apply qa3|apply qaq|apply qak)<;>first|(apply qam;(repeat' first|assumption|exact qaa rfl|apply qaf rfl|apply qab);done)|exact qao _ _|exact qai _|exact qan _|exact qad|exact qag|exact qae|exact qac|exact qah _|exact qau _ (by omega)|exact qat (by omega)|exact qas (by omega)|exact rfl|assumption|apply qav)|(apply qa2 rfl rfl;(focus (repeat' first|assumption|exact qaa rfl|apply qaf rfl|apply qab);done))|(apply qbj rfl rfl;(focus (repeat' first|assumption|exact qaa rfl|apply qaf rfl|apply qab);done);exact rfl)))
      apply O_wf
      intro wg
      apply qdn
      intro g5 i6 k6 r6 l9 l10
      apply qcj
      · (focus first|(apply qam;(repeat' first|assumption|exact qaa rfl|apply qaf rfl|apply qab);done)|exact qao _ _|exact qai _|exact qan _|exact qad|exact qag|exact qae|exact qac|exact qah _)
      · (focus first|(apply qam;(repeat' first|assumption|exact qaa rfl|apply qaf rfl|apply qab);done)|exact qao _ _|exact qai _|exact qan _|exact qad|exact qag|exact qae|exact qac|exact qah _)
      · exact r6
      · have h1 := stepC_ones (place := (o[i] : Nat)) (op := ops[i]'(hlen i hi)) (p := pats[o[i]]) ss.one sf.one
        show (_ && _ && ones (stepC _ _ _ sv fv)) = true
        rw [h1]; rfl
      intro g6 kb6 r6
      refine ⟨Undis.off rfl, ?_⟩
      change Row g6 i6 0 19 (stepC (o[i] : Nat) (ops[i]'(hlen i hi)) pats[o[i]] sv fv) true at r6
      have k6' : Keep g g6 := KeepBut.keep k6 kb6 fun j hj => wg.get (by omega)
      have hlid := hl2.lt wg
      (repeat (first|refine KW.go ?_|((first|apply qaw|apply qaz|apply qa1|apply qa4|apply qay|apply qax|apply qar|apply qal|apply qaj|apply qap)<;>first|(apply qam;(repeat' first|assumption|exact qaa rfl|apply qaf rfl|apply qab);done)|exact qao _ _|exact qai _|exact qan _|exact qad|exact qag|exact qae|exact qac|exact qah _|exact qau _ (by omega)|exact qat (by omega)|exact qas (by omega)|exact rfl|assumption|apply qav)|((first|apply qa3|apply qaq|apply qak)<;>first|(apply qam;(repeat' first|assumption|exact qaa rfl|apply qaf rfl|apply qab);done)|exact qao _ _|exact qai _|exact qan _|exact qad|exact qag|exact qae|exact qac|exact qah _|exact qau _ (by omega)|exact qat (by omega)|exact qas (by omega)|exact rfl|assumption|apply qav)|(apply qa2 rfl rfl;(focus (repeat' first|assumption|exact qaa rfl|apply qaf rfl|apply qab);done))|(apply qbj rfl rfl;(focus (repeat' first|assumption|exact qaa rfl|apply qaf rfl|apply qab);done);exact rfl)))
      refine K_assign (hl2.keep k6') fun g7 kb7 hl7 => ?_
      have r7 := r6.keepBut kb7 (by omega)
      have ss7 := (ss.keep k6').keepBut kb7 ((ss.keep k6').ne_loop (hl2.keep k6'))
      (repeat (first|refine KW.go ?_|((first|apply qaw|apply qaz|apply qa1|apply qa4|apply qay|apply qax|apply qar|apply qal|apply qaj|apply qap)<;>first|(apply qam;(repeat' first|assumption|exact qaa rfl|apply qaf rfl|apply qab);done)|exact qao _ _|exact qai _|exact qan _|exact qad|exact qag|exact qae|exact qac|exact qah _|exact qau _ (by omega)|exact qat (by omega)|exact qas (by omega)|exact rfl|assumption|apply qav)|((first|apply qa3|apply qaq|apply qak)<;>first|(apply qam;(repeat' first|assumption|exact qaa rfl|apply qaf rfl|apply qab);done)|exact qao _ _|exact qai _|exact qan _|exact qad|exact qag|exact qae|exact qac|exact qah _|exact qau _ (by omega)|exact qat (by omega)|exact qas (by omega)|exact rfl|assumption|apply qav)|(apply qa2 rfl rfl;(focus (repeat' first|assumption|exact qaa rfl|apply qaf rfl|apply qab);done))|(apply qbj rfl rfl;(focus (repeat' first|assumption|exact qaa rfl|apply qaf rfl|apply qab);done);exact rfl)))
      (apply qb5; (focus first|(apply qam;(repeat' first|assumption|exact qaa rfl|apply qaf rfl|apply qab);done)|exact qao _ _|exact qai _|exact qan _|exact qad|exact qag|exact qae|exact qac|exact qah _); (repeat (apply qbb; (focus first|(apply qam;(repeat' first|assumption|exact qaa rfl|apply qaf rfl|apply qab);done)|exact qao _ _|exact qai _|exact qan _|exact qad|exact qag|exact qae|exact qac|exact qah _))); exact qbi)
      refine (may_spec (S' _ (by decide)) (by omega) _ _ _).mono ?_
      rintro v g8 ⟨rfl, rfl⟩
      refine ⟨Undis.off rfl, ?_⟩
      rw [← hstep i hi hp]
      have re7 : Row g7 ie 0 1 [.int .i64 0] true := ((re.keepBut kp (by omega)).keep k6').keepBut kb7 (by omega)
      have kp7 : KeepBut (fun j => j = lid ∨ h2.next ≤ j) h2 g7 := (kp.trans (k6'.but _)).trans (kb7.weaken fun j hj => .inl hj)
      have kx7 : KeepBut (fun j => j = lid ∨ j = ie) g g7 := (k6'.but _).trans (kb7.weaken fun j hj => .inl hj)
      (repeat (first|refine KW.go ?_|((first|apply qaw|apply qaz|apply qa1|apply qa4|apply qay|apply qax|apply qar|apply qal|apply qaj|apply qap)<;>first|(apply qam;(repeat' first|assumption|exact qaa rfl|apply qaf rfl|apply qab);done)|exact qao _ _|exact qai _|exact qan _|exact qad|exact qag|exact qae|exact qac|exact qah _|exact qau _ (by omega)|exact qat (by omega)|exact qas (by omega)|exact rfl|assumption|apply qav)|((first|apply qa3|apply qaq|apply qak)<;>first|(apply qam;(repeat' first|assumption|exact qaa rfl|apply qaf rfl|apply qab);done)|exact qao _ _|exact qai _|exact qan _|exact qad|exact qag|exact qae|exact qac|exact qah _|exact qau _ (by omega)|exact qat (by omega)|exact qas (by omega)|exact rfl|assumption|apply qav)|(apply qa2 rfl rfl;(focus (repeat' first|assumption|exact qaa rfl|apply qaf rfl|apply qab);done))|(apply qbj rfl rfl;(focus (repeat' first|assumption|exact qaa rfl|apply qaf rfl|apply qab);done);exact rfl)))
      apply qbx (!stepOk pats o ops i)
      · (focus first|(apply qam;(repeat' first|assumption|exact qaa rfl|apply qaf rfl|apply qab);done)|exact qao _ _|exact qai _|exact qan _|exact qad|exact qag|exact qae|exact qac|exact qah _)
      · intro cs
        have cs : stepOk pats o ops i = false := by simpa using cs
        (repeat (first|refine KW.go ?_|((first|apply qaw|apply qaz|apply qa1|apply qa4|apply qay|apply qax|apply qar|apply qal|apply qaj|apply qap)<;>first|(apply qam;(repeat' first|assumption|exact qaa rfl|apply qaf rfl|apply qab);done)|exact qao _ _|exact qai _|exact qan _|exact qad|exact qag|exact qae|exact qac|exact qah _|exact qau _ (by omega)|exact qat (by omega)|exact qas (by omega)|exact rfl|assumption|apply qav)|((first|apply qa3|apply qaq|apply qak)<;>first|(apply qam;(repeat' first|assumption|exact qaa rfl|apply qaf rfl|apply qab);done)|exact qao _ _|exact qai _|exact qan _|exact qad|exact qag|exact qae|exact qac|exact qah _|exact qau _ (by omega)|exact qat (by omega)|exact qas (by omega)|exact rfl|assumption|apply qav)|(apply qa2 rfl rfl;(focus (repeat' first|assumption|exact qaa rfl|apply qaf rfl|apply qab);done))|(apply qbj rfl rfl;(focus (repeat' first|assumption|exact qaa rfl|apply qaf rfl|apply qab);done);exact rfl)))
        apply qcj
        · (focus first|(apply qam;(repeat' first|assumption|exact qaa rfl|apply qaf rfl|apply qab);done)|exact qao _ _|exact qai _|exact qan _|exact qad|exact qag|exact qae|exact qac|exact qah _)
        · (focus first|(apply qam;(repeat' first|assumption|exact qaa rfl|apply qaf rfl|apply qab);done)|exact qao _ _|exact qai _|exact qan _|exact qad|exact qag|exact qae|exact qac|exact qah _)
        · exact re7
        · rfl
        intro g8 kb8 r8
        refine ⟨Undis.off rfl, ?_⟩
        (repeat (first|refine KW.go ?_|((first|apply qaw|apply qaz|apply qa1|apply qa4|apply qay|apply qax|apply qar|apply qal|apply qaj|apply qap)<;>first|(apply qam;(repeat' first|assumption|exact qaa rfl|apply qaf rfl|apply qab);done)|exact qao _ _|exact qai _|exact qan _|exact qad|exact qag|exact qae|exact qac|exact qah _|exact qau _ (by omega)|exact qat (by omega)|exact qas (by omega)|exact rfl|assumption|apply qav)|((first|apply qa3|apply qaq|apply qak)<;>first|(apply qam;(repeat' first|assumption|exact qaa rfl|apply qaf rfl|apply qab);done)|exact qao _ _|exact qai _|exact qan _|exact qad|exact qag|exact qae|exact qac|exact qah _|exact qau _ (by omega)|exact qat (by omega)|exact qas (by omega)|exact rfl|assumption|apply qav)|(apply qa2 rfl rfl;(focus (repeat' first|assumption|exact qaa rfl|apply qaf rfl|apply qab);done))|(apply qbj rfl rfl;(focus (repeat' first|assumption|exact qaa rfl|apply qaf rfl|apply qab);done);exact rfl)))
        refine K_round_ret (hl7.keepBut kb8 (by omega)) fun g9 kb9 hl9 => ⟨false, rfl, ?_, fun c => (by cases c), fun _ => ⟨?_, (hL _ _ _).2 hl9, r8.keepBut kb9 (by omega), i, hi, cs⟩⟩
        · exact (kx7.trans (kb8.weaken fun j hj => .inr hj)).trans (kb9.weaken fun j hj => .inl hj)
        · exact ((kp7.weaken fun j hj => by rcases hj with q | q; exact .inl q; exact .inr (.inr q)).trans (kb8.weaken fun j hj => .inr (.inl hj))).trans (kb9.weaken fun j hj => .inl hj)
      · intro cs
        have cs : stepOk pats o ops i = true := by simpa using cs
        (repeat (first|refine KW.go ?_|((first|apply qaw|apply qaz|apply qa1|apply qa4|apply qay|apply qax|apply qar|apply qal|apply qaj|apply qap)<;>first|(apply qam;(repeat' first|assumption|exact qaa rfl|apply qaf rfl|apply qab);done)|exact qao _ _|exact qai _|exact qan _|exact qad|exact qag|exact qae|exact qac|exact qah _|exact qau _ (by omega)|exact qat (by omega)|exact qas (by omega)|exact rfl|assumption|apply qav)|((first|apply qa3|apply qaq|apply qak)<;>first|(apply qam;(repeat' first|assumption|exact qaa rfl|apply qaf rfl|apply qab);done)|exact qao _ _|exact qai _|exact qan _|exact qad|exact qag|exact qae|exact qac|exact qah _|exact qau _ (by omega)|exact qat (by omega)|exact qas (by omega)|exact rfl|assumption|apply qav)|(apply qa2 rfl rfl;(focus (repeat' first|assumption|exact qaa rfl|apply qaf rfl|apply qab);done))|(apply qbj rfl rfl;(focus (repeat' first|assumption|exact qaa rfl|apply qaf rfl|apply qab);done);exact rfl)))
        refine K_round_end hl7 fun g9 kb9 hl9 => ⟨true, rfl, kx7.trans (kb9.weaken fun j hj => .inl hj), fun _ => ⟨kp7.trans (kb9.weaken fun j hj => .inl hj), (hL _ _ _).2 hl9, fun j hj => ?_⟩, fun c => (by cases c)⟩
        by_cases e : j = i
        · subst e; exact cs
        · exact hall j (by omega)
    · have hlidh : ∀ j, (j = lid ∨ h2.next ≤ j) → h.get j = none := fun j hj => w.get (by rcases hj with q | q <;> omega)
      rintro _ g ⟨kp, hI | hS⟩
      · obtain ⟨kp1, hl1, hall⟩ := hI
        refine ⟨.ready, none, (hL _ _ _).1 hl1, rfl, fun g3' kb => after_none ?_⟩
        have kf : Keep h g3' := KeepBut.keep kk (kp1.trans (kb.weaken fun j hj => .inl hj)) hlidh
        have ref : Row g3' ie 0 1 [.int .i64 0] true := (re.keepBut kp1 (by omega)).keepBut kb (by omega)
        have hr : qcw pats (zs o) ops = true := by
          rw [hright, List.all_eq_true]
          intro j hj
          exact hall j (by have := List.mem_range.1 hj; omega)
        (repeat (first|refine KW.go ?_|((first|apply qaw|apply qaz|apply qa1|apply qa4|apply qay|apply qax|apply qar|apply qal|apply qaj|apply qap)<;>first|(apply qam;(repeat' first|assumption|exact qaa rfl|apply qaf rfl|apply qab);done)|exact qao _ _|exact qai _|exact qan _|exact qad|exact qag|exact qae|exact qac|exact qah _|exact qau _ (by omega)|exact qat (by omega)|exact qas (by omega)|exact rfl|assumption|apply qav)|((first|apply qa3|apply qaq|apply qak)<;>first|(apply qam;(repeat' first|assumption|exact qaa rfl|apply qaf rfl|apply qab);done)|exact qao _ _|exact qai _|exact qan _|exact qad|exact qag|exact qae|exact qac|exact qah _|exact qau _ (by omega)|exact qat (by omega)|exact qas (by omega)|exact rfl|assumption|apply qav)|(apply qa2 rfl rfl;(focus (repeat' first|assumption|exact qaa rfl|apply qaf rfl|apply qab);done))|(apply qbj rfl rfl;(focus (repeat' first|assumption|exact qaa rfl|apply qaf rfl|apply qab);done);exact rfl)))
        apply qcj
        · (focus first|(apply qam;(repeat' first|assumption|exact qaa rfl|apply qaf rfl|apply qab);done)|exact qao _ _|exact qai _|exact qan _|exact qad|exact qag|exact qae|exact qac|exact qah _)
        · (focus first|(apply qam;(repeat' first|assumption|exact qaa rfl|apply qaf rfl|apply qab);done)|exact qao _ _|exact qai _|exact qan _|exact qad|exact qag|exact qae|exact qac|exact qah _)
        · exact ref
        · rfl
        intro g8 kb8 r8
        refine ⟨Undis.off rfl, ?_⟩
        (repeat (first|refine KW.go ?_|((first|apply qaw|apply qaz|apply qa1|apply qa4|apply qay|apply qax|apply qar|apply qal|apply qaj|apply qap)<;>first|(apply qam;(repeat' first|assumption|exact qaa rfl|apply qaf rfl|apply qab);done)|exact qao _ _|exact qai _|exact qan _|exact qad|exact qag|exact qae|exact qac|exact qah _|exact qau _ (by omega)|exact qat (by omega)|exact qas (by omega)|exact rfl|assumption|apply qav)|((first|apply qa3|apply qaq|apply qak)<;>first|(apply qam;(repeat' first|assumption|exact qaa rfl|apply qaf rfl|apply qab);done)|exact qao _ _|exact qai _|exact qan _|exact qad|exact qag|exact qae|exact qac|exact qah _|exact qau _ (by omega)|exact qat (by omega)|exact qas (by omega)|exact rfl|assumption|apply qav)|(apply qa2 rfl rfl;(focus (repeat' first|assumption|exact qaa rfl|apply qaf rfl|apply qab);done))|(apply qbj rfl rfl;(focus (repeat' first|assumption|exact qaa rfl|apply qaf rfl|apply qab);done);exact rfl)))
        apply R_res_one rfl
        · (repeat' first|assumption|exact qaa rfl|apply qaf rfl|apply qab)
        · exact r8
        · rfl
        · exact ⟨KeepBut.keep kf kb8 hie, by rw [hr]; rfl⟩
      · obtain ⟨kp1, hl1, r1, j, hj, hbad⟩ := hS
        refine ⟨.done, some .ret, (hL _ _ _).1 hl1, rfl, fun g3' kb => after_ret ?_⟩
        have kf : Keep h g3' := KeepBut.keep kk (kp1.trans (kb.weaken fun j hj => .inl hj)) (fun j hj => by
          rcases hj with q | q | q
          · exact hlidh j (.inl q)
          · exact hie j q
          · exact hlidh j (.inr q))
        have hr : qcw pats (zs o) ops = false := by
          rw [hright]
          cases hq : (List.range pats.length).all (stepOk pats o ops) with
          | false => rfl
          | true =>
            have := List.all_eq_true.1 hq j (List.mem_range.2 (by omega))
            rw [this] at hbad; cases hbad
        (repeat (first|refine KW.go ?_|((first|apply qaw|apply qaz|apply qa1|apply qa4|apply qay|apply qax|apply qar|apply qal|apply qaj|apply qap)<;>first|(apply qam;(repeat' first|assumption|exact qaa rfl|apply qaf rfl|apply qab);done)|exact qao _ _|exact qai _|exact qan _|exact qad|exact qag|exact qae|exact qac|exact qah _|exact qau _ (by omega)|exact qat (by omega)|exact qas (by omega)|exact rfl|assumption|apply qav)|((first|apply qa3|apply qaq|apply qak)<;>first|(apply qam;(repeat' first|assumption|exact qaa rfl|apply qaf rfl|apply qab);done)|exact qao _ _|exact qai _|exact qan _|exact qad|exact qag|exact qae|exact qac|exact qah _|exact qau _ (by omega)|exact qat (by omega)|exact qas (by omega)|exact rfl|assumption|apply qav)|(apply qa2 rfl rfl;(focus (repeat' first|assumption|exact qaa rfl|apply qaf rfl|apply qab);done))|(apply qbj rfl rfl;(focus (repeat' first|assumption|exact qaa rfl|apply qaf rfl|apply qab);done);exact rfl)))
        exact endBad _ _ t4 kf (r1.keepBut kb (by omega)) hr
end Go.Am
namespace Go.Am
open Go Go.Proofs AM
set_option maxRecDepth 10000
variable {pol : Pol} {sums : Sums}
attribute [local irreducible] KSeq KMid KBlock KLoop KOps KFunc Runs qb9 qbn qdl aop qbt qbq qbv qbv? qbd qbw qa9
attribute [local irreducible] KRound KAssign

theorem SlV.source {P : Program} {e : TypeId} {h : Hp} {sz n : Nat} {x : AV} {c : List AV} (gx : SlV h sz x n c) : qdq P e sz x = qcs sz x := by cases gx <;> rfl
theorem O_append0 {P : Program} {call : qb3} {fn nt : Nat} {h : Hp} {T : qba} {R : Rg} {rest : List (Nat × Oper)} {seen : Seen} {i : Nat} {Q : qba → Hp → Prop} {d : Option Tmp} {ty : TypeId} {pos : String} {after : Array Edge}
    {args : Array Operand} {t u e e' : TypeId} {sz bytes n : Nat} {z s x : AV} {cells : List AV} [ht : TSl P t e] [hu : TSl P u e'] [hs : TSz P e sz] [hb' : qa7 P e bytes] [hz' : qbf P e z]
    (hl : args.toList.map (qbd T) = [s, x]) (gs : SlV h sz s n cells) (gx : SlV h sz x 0 [])
    (hz : (!(Nat.beq sz 0) && !(Nat.beq bytes 0) && Nat.beq (acells z).length sz) = true)
    (r : Undis R seen i h h ∧ qb9 P pol call fn nt R rest seen (qbv? nt T d s) h Q) :
    qb9 P pol call fn nt R ((i, ⟨d, .call ⟨.builtin .append, args, #[t, u]⟩, ty, pos, after, none⟩) :: rest) seen T h Q := by
  refine O_do rfl rfl ?_
  simp only [Bool.and_eq_true] at hz
  simp only [aop, hl, qda, aappendOp, elem_of ht.un, hs.sz, hb'.bytes, hz'.zero, hu.un, qa6]
  rw [hz.1.1, hz.1.2, Bool.and_self, qbm, qa6, qa6, hz.2, qbm, qa6]
  have hsrc : (qdq P e sz x).run h = some ((0, []), h) := by
    rw [gx.source]
    exact gx.cells_run
  refine Runs.bind (Runs.of hsrc ?_)
  dsimp only
  cases gs with
  | imm => exact Runs.pure r
  | own id ver off n row fix r' e =>
    obtain ⟨st, ho⟩ := r'
    simp only [aappend]
    refine Runs.bind (Runs.row ho ?_)
    dsimp only
    rw [show Nat.beq sz sz = true by simp, qbm, qa6]
    exact Runs.pure r

theorem grow_spec (hs : sums 46 = some growSum) {n : Nat} (hn : 1 ≤ n) {h : Hp} {m : Nat} (h0 : 0 < m) (hb : m < 2 ^ 40) :
    Runs (qbt Try.prog pol sums n (.func (.func 46) [] []) [.sl .nil 0 [], .int .i64 (m : Nat)]) h (fun v h' => Keep h h' ∧ ∃ id, v = .own id 0 0 0 ∧ h.next ≤ id ∧ Ints h' v []) := by
  obtain ⟨n, rfl⟩ : ∃ k, n = k + 1 := ⟨n - 1, by omega⟩
  refine R_sum hs (Runs.wf fun w => ?_)
  simp only [List.nil_append, List.append_nil, growSum]
  refine Runs.bind (Runs.guard (by simp; omega) (Runs.bind (Runs.halloc (Runs.pure ⟨Keep.alloc w _, h.next, rfl, Nat.le_refl _, ?_⟩))))
  have := SlV.own (h := ⟨h.obj.set h.next (some ⟨0, 0, .row 1 (qbh [.int .i64 0] ((m : Nat) : Int).toNat) false⟩), h.next + 1⟩) (sz := 1) h.next 0 0 0 _ false ⟨_, qb7 _ _ _ _⟩ (by omega)
  exact this

theorem concat_spec (S : S27' pol sums) {n : Nat} {h : Hp} {v1 v2 : AV} {l1 l2 : List Int} (hn : 10 ≤ n) (o1 : Ints h v1 l1) (o2 : Ints h v2 l2) (hne : 0 < l1.length + l2.length) (hb : l1.length + l2.length < 2 ^ 30) :
    Runs (qbt Try.prog pol sums n (.func (.func 20) [] []) [.sl .full 2 [v1, v2]]) h (fun v h' => Keep h h' ∧ Ints h' v (l1 ++ l2) ∧ qdh v = true ∧ qb1 v ≠ [] ∧ ∀ k ∈ qb1 v, h.next ≤ k) := by
  apply Runs.wf
  intro w
  have S' := S.rest
  have s20 : sums 20 = none := S' _ (by decide)
  obtain ⟨n, rfl⟩ : ∃ m, n = m + 1 := ⟨n - 1, by omega⟩
  refine qcq (by assumption) Try.func20 rfl (by simp [Try.f20]) ?_
  have a0 : qbq (qa9 Try.f20.ntmps (([] ++ [.sl .full 2 [v1, v2]] ++ []) : List AV)) 0 = .sl .full 2 [v1, v2] := qa8 rfl
  generalize qa9 Try.f20.ntmps (([] ++ [.sl .full 2 [v1, v2]] ++ []) : List AV) = T at *
  show Runs (qbn _ _ _ _ 36 _ _ _) _ _
  have sv : ∀ h, SlV h 1 (.sl .full 2 [v1, v2]) 2 [v1, v2] := fun h => .imm _ _ _ rfl
  have sv0 := sv h
  have hget : ∀ i, i < 2 → ∃ v l, (([v1, v2] : List AV).drop (i * 1)).take 1 = [v] ∧ Ints h v l ∧ (([l1, l2] : List (List Int)).take (i + 1)).flatten = (([l1, l2] : List (List Int)).take i).flatten ++ l := fun i hi => by
    match i, hi with
    | 0, _ => exact ⟨v1, l1, rfl, o1, by simp⟩
    | 1, _ => exact ⟨v2, l2, rfl, o2, by simp⟩
  have hlen : ∀ i, (([l1, l2] : List (List Int)).take i).flatten.length ≤ l1.length + l2.length := fun i => by
    match i with
    | 0 => simp
    | 1 => simp
    | i + 2 => simp
  (repeat (first|refine KW.go ?_|((first|apply qaw|apply qaz|apply qa1|apply qa4|apply qay|apply qax|apply qar|apply qal|apply qaj|apply qap)<;>first|(apply qam;(repeat' first|assumption|exact qaa rfl|apply qaf rfl|apply qab);done)|exact qao _ _|exact qai _|exact qan _|exact qad|exact qag|exact qae|exact qac|exact qah _|exact qau _ (by omega)|exact qat (by omega)|exact qas (by omega)|exact rfl|assumption|apply qav)|((first|apply qa3|apply qaq|apply qak)<;>first|(apply qam;(repeat' first|assumption|exact qaa rfl|apply qaf rfl|apply qab);done)|exact qao _ _|exact qai _|exact qan _|exact qad|exact qag|exact qae|exact qac|exact qah _|exact qau _ (by omega)|exact qat (by omega)|exact qas (by omega)|exact rfl|assumption|apply qav)|(apply qa2 rfl rfl;(focus (repeat' first|assumption|exact qaa rfl|apply qaf rfl|apply qab);done))|(apply qbj rfl rfl;(focus (repeat' first|assumption|exact qaa rfl|apply qaf rfl|apply qab);done);exact rfl)))
  apply R_midB (fun T g => qbq T 0 = .sl .full 2 [v1, v2] ∧ qbq T 3 = .int .i64 ((l1.length + l2.length : Nat) : Int) ∧ g = h)
  · apply R_loop (k := 2) (I := fun k T g => ∃ i, k = 2 - i ∧ i ≤ 2 ∧ qbq T 0 = .sl .full 2 [v1, v2] ∧ qbq T 9 = .sl .full 2 [v1, v2] ∧ qbq T 10 = .int .i64 (2 : Nat) ∧ qbq T 11 = .int .i64 (i : Nat) ∧ qbq T 3 = .int .i64 ((([l1, l2] : List (List Int)).take i).flatten.length : Nat) ∧ g = h)
    · omega
    · exact ⟨0, by omega, by omega, by (repeat' first|assumption|exact qaa rfl|apply qaf rfl|apply qab), by (repeat' first|assumption|exact qaa rfl|apply qaf rfl|apply qab), by (repeat' first|assumption|exact qaa rfl|apply qaf rfl|apply qab), by (repeat' first|assumption|exact qaa rfl|apply qaf rfl|apply qab), by (repeat' first|assumption|exact qaa rfl|apply qaf rfl|apply qab), rfl⟩
    · rintro k T g ⟨i, rfl, hi, t0, t9, t10, t11, t3, rfl⟩
      (repeat (first|refine KW.go ?_|((first|apply qaw|apply qaz|apply qa1|apply qa4|apply qay|apply qax|apply qar|apply qal|apply qaj|apply qap)<;>first|(apply qam;(repeat' first|assumption|exact qaa rfl|apply qaf rfl|apply qab);done)|exact qao _ _|exact qai _|exact qan _|exact qad|exact qag|exact qae|exact qac|exact qah _|exact qau _ (by omega)|exact qat (by omega)|exact qas (by omega)|exact rfl|assumption|apply qav)|((first|apply qa3|apply qaq|apply qak)<;>first|(apply qam;(repeat' first|assumption|exact qaa rfl|apply qaf rfl|apply qab);done)|exact qao _ _|exact qai _|exact qan _|exact qad|exact qag|exact qae|exact qac|exact qah _|exact qau _ (by omega)|exact qat (by omega)|exact qas (by omega)|exact rfl|assumption|apply qav)|(apply qa2 rfl rfl;(focus (repeat' first|assumption|exact qaa rfl|apply qaf rfl|apply qab);done))|(apply qbj rfl rfl;(focus (repeat' first|assumption|exact qaa rfl|apply qaf rfl|apply qab);done);exact rfl)))
      apply qbx (decide ((i : Int) < ((2 : Nat) : Int)))
      · (focus first|(apply qam;(repeat' first|assumption|exact qaa rfl|apply qaf rfl|apply qab);done)|exact qao _ _|exact qai _|exact qan _|exact qad|exact qag|exact qae|exact qac|exact qah _)
      · intro c
        have hlt : i < 2 := by simp at c; omega
        obtain ⟨v, l, hv, ov, hfl⟩ := hget i hlt
        have hl1 := hlen (i + 1)
        rw [hfl, List.length_append] at hl1
        (repeat (first|refine KW.go ?_|((first|apply qaw|apply qaz|apply qa1|apply qa4|apply qay|apply qax|apply qar|apply qal|apply qaj|apply qap)<;>first|(apply qam;(repeat' first|assumption|exact qaa rfl|apply qaf rfl|apply qab);done)|exact qao _ _|exact qai _|exact qan _|exact qad|exact qag|exact qae|exact qac|exact qah _|exact qau _ (by omega)|exact qat (by omega)|exact qas (by omega)|exact rfl|assumption|apply qav)|((first|apply qa3|apply qaq|apply qak)<;>first|(apply qam;(repeat' first|assumption|exact qaa rfl|apply qaf rfl|apply qab);done)|exact qao _ _|exact qai _|exact qan _|exact qad|exact qag|exact qae|exact qac|exact qah _|exact qau _ (by omega)|exact qat (by omega)|exact qas (by omega)|exact rfl|assumption|apply qav)|(apply qa2 rfl rfl;(focus (repeat' first|assumption|exact qaa rfl|apply qaf rfl|apply qab);done))|(apply qbj rfl rfl;(focus (repeat' first|assumption|exact qaa rfl|apply qaf rfl|apply qab);done);exact rfl)))
        apply qbp
        · (focus first|(apply qam;(repeat' first|assumption|exact qaa rfl|apply qaf rfl|apply qab);done)|exact qao _ _|exact qai _|exact qan _|exact qad|exact qag|exact qae|exact qac|exact qah _)
        · exact sv0
        · (focus first|(apply qam;(repeat' first|assumption|exact qaa rfl|apply qaf rfl|apply qab);done)|exact qao _ _|exact qai _|exact qan _|exact qad|exact qag|exact qae|exact qac|exact qah _)
        · omega
        · rfl
        intro a ha _
        rw [hv] at ha
        apply qce
        · (focus first|(apply qam;(repeat' first|assumption|exact qaa rfl|apply qaf rfl|apply qab);done)|exact qao _ _|exact qai _|exact qan _|exact qad|exact qag|exact qae|exact qac|exact qah _)
        · exact ha
        (repeat (first|refine KW.go ?_|((first|apply qaw|apply qaz|apply qa1|apply qa4|apply qay|apply qax|apply qar|apply qal|apply qaj|apply qap)<;>first|(apply qam;(repeat' first|assumption|exact qaa rfl|apply qaf rfl|apply qab);done)|exact qao _ _|exact qai _|exact qan _|exact qad|exact qag|exact qae|exact qac|exact qah _|exact qau _ (by omega)|exact qat (by omega)|exact qas (by omega)|exact rfl|assumption|apply qav)|((first|apply qa3|apply qaq|apply qak)<;>first|(apply qam;(repeat' first|assumption|exact qaa rfl|apply qaf rfl|apply qab);done)|exact qao _ _|exact qai _|exact qan _|exact qad|exact qag|exact qae|exact qac|exact qah _|exact qau _ (by omega)|exact qat (by omega)|exact qas (by omega)|exact rfl|assumption|apply qav)|(apply qa2 rfl rfl;(focus (repeat' first|assumption|exact qaa rfl|apply qaf rfl|apply qab);done))|(apply qbj rfl rfl;(focus (repeat' first|assumption|exact qaa rfl|apply qaf rfl|apply qab);done);exact rfl)))
        apply qbx (decide (((([l1, l2] : List (List Int)).take i).flatten.length : Int) + (l.length : Int) < 0))
        · (focus first|(apply qam;(repeat' first|assumption|exact qaa rfl|apply qaf rfl|apply qab);done)|exact qao _ _|exact qai _|exact qan _|exact qad|exact qag|exact qae|exact qac|exact qah _)
        · intro c; simp at c; omega
        intro _
        (repeat (first|refine KW.go ?_|((first|apply qaw|apply qaz|apply qa1|apply qa4|apply qay|apply qax|apply qar|apply qal|apply qaj|apply qap)<;>first|(apply qam;(repeat' first|assumption|exact qaa rfl|apply qaf rfl|apply qab);done)|exact qao _ _|exact qai _|exact qan _|exact qad|exact qag|exact qae|exact qac|exact qah _|exact qau _ (by omega)|exact qat (by omega)|exact qas (by omega)|exact rfl|assumption|apply qav)|((first|apply qa3|apply qaq|apply qak)<;>first|(apply qam;(repeat' first|assumption|exact qaa rfl|apply qaf rfl|apply qab);done)|exact qao _ _|exact qai _|exact qan _|exact qad|exact qag|exact qae|exact qac|exact qah _|exact qau _ (by omega)|exact qat (by omega)|exact qas (by omega)|exact rfl|assumption|apply qav)|(apply qa2 rfl rfl;(focus (repeat' first|assumption|exact qaa rfl|apply qaf rfl|apply qab);done))|(apply qbj rfl rfl;(focus (repeat' first|assumption|exact qaa rfl|apply qaf rfl|apply qab);done);exact rfl)))
        apply qdg (2 - (i + 1)) (by omega)
        refine ⟨i + 1, rfl, by omega, by (repeat' first|assumption|exact qaa rfl|apply qaf rfl|apply qab), by (repeat' first|assumption|exact qaa rfl|apply qaf rfl|apply qab), by (repeat' first|assumption|exact qaa rfl|apply qaf rfl|apply qab), by (repeat' first|assumption|exact qaa rfl|apply qaf rfl|apply qab), ?_, rfl⟩
        rw [hfl, List.length_append, Int.natCast_add]
        (repeat' first|assumption|exact qaa rfl|apply qaf rfl|apply qab)
      · intro c
        have : i = 2 := by simp at c; omega
        subst this
        (repeat (first|refine KW.go ?_|((first|apply qaw|apply qaz|apply qa1|apply qa4|apply qay|apply qax|apply qar|apply qal|apply qaj|apply qap)<;>first|(apply qam;(repeat' first|assumption|exact qaa rfl|apply qaf rfl|apply qab);done)|exact qao _ _|exact qai _|exact qan _|exact qad|exact qag|exact qae|exact qac|exact qah _|exact qau _ (by omega)|exact qat (by omega)|exact qas (by omega)|exact rfl|assumption|apply qav)|((first|apply qa3|apply qaq|apply qak)<;>first|(apply qam;(repeat' first|assumption|exact qaa rfl|apply qaf rfl|apply qab);done)|exact qao _ _|exact qai _|exact qan _|exact qad|exact qag|exact qae|exact qac|exact qah _|exact qau _ (by omega)|exact qat (by omega)|exact qas (by omega)|exact rfl|assumption|apply qav)|(apply qa2 rfl rfl;(focus (repeat' first|assumption|exact qaa rfl|apply qaf rfl|apply qab);done))|(apply qbj rfl rfl;(focus (repeat' first|assumption|exact qaa rfl|apply qaf rfl|apply qab);done);exact rfl)))
        apply K_mid
        have t3' : qbq T 3 = .int .i64 ((l1.length + l2.length : Nat) : Int) := by
          rw [t3]; simp
        exact ⟨by (repeat' first|assumption|exact qaa rfl|apply qaf rfl|apply qab), by (repeat' first|assumption|exact qaa rfl|apply qaf rfl|apply qab), rfl⟩
  rintro T g ⟨t0, t3, rfl⟩
  (repeat (first|refine KW.go ?_|((first|apply qaw|apply qaz|apply qa1|apply qa4|apply qay|apply qax|apply qar|apply qal|apply qaj|apply qap)<;>first|(apply qam;(repeat' first|assumption|exact qaa rfl|apply qaf rfl|apply qab);done)|exact qao _ _|exact qai _|exact qan _|exact qad|exact qag|exact qae|exact qac|exact qah _|exact qau _ (by omega)|exact qat (by omega)|exact qas (by omega)|exact rfl|assumption|apply qav)|((first|apply qa3|apply qaq|apply qak)<;>first|(apply qam;(repeat' first|assumption|exact qaa rfl|apply qaf rfl|apply qab);done)|exact qao _ _|exact qai _|exact qan _|exact qad|exact qag|exact qae|exact qac|exact qah _|exact qau _ (by omega)|exact qat (by omega)|exact qas (by omega)|exact rfl|assumption|apply qav)|(apply qa2 rfl rfl;(focus (repeat' first|assumption|exact qaa rfl|apply qaf rfl|apply qab);done))|(apply qbj rfl rfl;(focus (repeat' first|assumption|exact qaa rfl|apply qaf rfl|apply qab);done);exact rfl)))
  (apply qb5; (focus first|(apply qam;(repeat' first|assumption|exact qaa rfl|apply qaf rfl|apply qab);done)|exact qao _ _|exact qai _|exact qan _|exact qad|exact qag|exact qae|exact qac|exact qah _); (repeat (apply qbb; (focus first|(apply qam;(repeat' first|assumption|exact qaa rfl|apply qaf rfl|apply qab);done)|exact qao _ _|exact qai _|exact qan _|exact qad|exact qag|exact qae|exact qac|exact qah _))); exact qbi)
  refine (grow_spec S.grow (by omega) hne (by omega)).mono ?_
  rintro v6 g1 ⟨k1, id, rfl, hid, s6⟩
  refine ⟨Undis.off rfl, ?_⟩
  have sv1 := sv g1
  (repeat (first|refine KW.go ?_|((first|apply qaw|apply qaz|apply qa1|apply qa4|apply qay|apply qax|apply qar|apply qal|apply qaj|apply qap)<;>first|(apply qam;(repeat' first|assumption|exact qaa rfl|apply qaf rfl|apply qab);done)|exact qao _ _|exact qai _|exact qan _|exact qad|exact qag|exact qae|exact qac|exact qah _|exact qau _ (by omega)|exact qat (by omega)|exact qas (by omega)|exact rfl|assumption|apply qav)|((first|apply qa3|apply qaq|apply qak)<;>first|(apply qam;(repeat' first|assumption|exact qaa rfl|apply qaf rfl|apply qab);done)|exact qao _ _|exact qai _|exact qan _|exact qad|exact qag|exact qae|exact qac|exact qah _|exact qau _ (by omega)|exact qat (by omega)|exact qas (by omega)|exact rfl|assumption|apply qav)|(apply qa2 rfl rfl;(focus (repeat' first|assumption|exact qaa rfl|apply qaf rfl|apply qab);done))|(apply qbj rfl rfl;(focus (repeat' first|assumption|exact qaa rfl|apply qaf rfl|apply qab);done);exact rfl)))
  apply R_midB (fun T g2 => Keep g g2 ∧ ∃ v, qbq T 6 = v ∧ Ints g2 v (l1 ++ l2) ∧ qdh v = true ∧ qb1 v ≠ [] ∧ ∀ k ∈ qb1 v, g.next ≤ k)
  · apply R_loop (k := 2) (I := fun k T g2 => ∃ i v, k = 2 - i ∧ i ≤ 2 ∧ qbq T 25 = .sl .full 2 [v1, v2] ∧ qbq T 26 = .int .i64 (2 : Nat) ∧ qbq T 27 = .int .i64 (i : Nat) ∧ qbq T 6 = v ∧ KeepBut (g.next ≤ ·) g g2 ∧ Ints g2 v (([l1, l2] : List (List Int)).take i).flatten ∧ qdh v = true ∧ qb1 v ≠ [] ∧ ∀ k ∈ qb1 v, g.next ≤ k)
    · omega
    · exact ⟨0, _, by omega, by omega, by (repeat' first|assumption|exact qaa rfl|apply qaf rfl|apply qab), by (repeat' first|assumption|exact qaa rfl|apply qaf rfl|apply qab), by (repeat' first|assumption|exact qaa rfl|apply qaf rfl|apply qab), by (repeat' first|assumption|exact qaa rfl|apply qaf rfl|apply qab), k1.but _, by simpa using s6, rfl, by simp [qb1], by simp [qb1]; exact hid⟩
    · rintro k T g2 ⟨i, v, rfl, hi, t25, t26, t27, t6, kp, sv', gv, nv, iv⟩
      (repeat (first|refine KW.go ?_|((first|apply qaw|apply qaz|apply qa1|apply qa4|apply qay|apply qax|apply qar|apply qal|apply qaj|apply qap)<;>first|(apply qam;(repeat' first|assumption|exact qaa rfl|apply qaf rfl|apply qab);done)|exact qao _ _|exact qai _|exact qan _|exact qad|exact qag|exact qae|exact qac|exact qah _|exact qau _ (by omega)|exact qat (by omega)|exact qas (by omega)|exact rfl|assumption|apply qav)|((first|apply qa3|apply qaq|apply qak)<;>first|(apply qam;(repeat' first|assumption|exact qaa rfl|apply qaf rfl|apply qab);done)|exact qao _ _|exact qai _|exact qan _|exact qad|exact qag|exact qae|exact qac|exact qah _|exact qau _ (by omega)|exact qat (by omega)|exact qas (by omega)|exact rfl|assumption|apply qav)|(apply qa2 rfl rfl;(focus (repeat' first|assumption|exact qaa rfl|apply qaf rfl|apply qab);done))|(apply qbj rfl rfl;(focus (repeat' first|assumption|exact qaa rfl|apply qaf rfl|apply qab);done);exact rfl)))
      apply qbx (decide ((i : Int) < ((2 : Nat) : Int)))
      · (focus first|(apply qam;(repeat' first|assumption|exact qaa rfl|apply qaf rfl|apply qab);done)|exact qao _ _|exact qai _|exact qan _|exact qad|exact qag|exact qae|exact qac|exact qah _)
      · intro c
        have hlt : i < 2 := by simp at c; omega
        obtain ⟨u, l, hv, ou, hfl⟩ := hget i hlt
        have hl1 := hlen (i + 1)
        rw [hfl, List.length_append] at hl1
        have sv2 := sv g2
        have ou2 := ou.old w kp
        (repeat (first|refine KW.go ?_|((first|apply qaw|apply qaz|apply qa1|apply qa4|apply qay|apply qax|apply qar|apply qal|apply qaj|apply qap)<;>first|(apply qam;(repeat' first|assumption|exact qaa rfl|apply qaf rfl|apply qab);done)|exact qao _ _|exact qai _|exact qan _|exact qad|exact qag|exact qae|exact qac|exact qah _|exact qau _ (by omega)|exact qat (by omega)|exact qas (by omega)|exact rfl|assumption|apply qav)|((first|apply qa3|apply qaq|apply qak)<;>first|(apply qam;(repeat' first|assumption|exact qaa rfl|apply qaf rfl|apply qab);done)|exact qao _ _|exact qai _|exact qan _|exact qad|exact qag|exact qae|exact qac|exact qah _|exact qau _ (by omega)|exact qat (by omega)|exact qas (by omega)|exact rfl|assumption|apply qav)|(apply qa2 rfl rfl;(focus (repeat' first|assumption|exact qaa rfl|apply qaf rfl|apply qab);done))|(apply qbj rfl rfl;(focus (repeat' first|assumption|exact qaa rfl|apply qaf rfl|apply qab);done);exact rfl)))
        apply qbp
        · (focus first|(apply qam;(repeat' first|assumption|exact qaa rfl|apply qaf rfl|apply qab);done)|exact qao _ _|exact qai _|exact qan _|exact qad|exact qag|exact qae|exact qac|exact qah _)
        · exact sv2
        · (focus first|(apply qam;(repeat' first|assumption|exact qaa rfl|apply qaf rfl|apply qab);done)|exact qao _ _|exact qai _|exact qan _|exact qad|exact qag|exact qae|exact qac|exact qah _)
        · omega
        · rfl
        intro a ha _
        rw [hv] at ha
        apply qce
        · (focus first|(apply qam;(repeat' first|assumption|exact qaa rfl|apply qaf rfl|apply qab);done)|exact qao _ _|exact qai _|exact qan _|exact qad|exact qag|exact qae|exact qac|exact qah _)
        · exact ha
        (repeat (first|refine KW.go ?_|((first|apply qaw|apply qaz|apply qa1|apply qa4|apply qay|apply qax|apply qar|apply qal|apply qaj|apply qap)<;>first|(apply qam;(repeat' first|assumption|exact qaa rfl|apply qaf rfl|apply qab);done)|exact qao _ _|exact qai _|exact qan _|exact qad|exact qag|exact qae|exact qac|exact qah _|exact qau _ (by omega)|exact qat (by omega)|exact qas (by omega)|exact rfl|assumption|apply qav)|((first|apply qa3|apply qaq|apply qak)<;>first|(apply qam;(repeat' first|assumption|exact qaa rfl|apply qaf rfl|apply qab);done)|exact qao _ _|exact qai _|exact qan _|exact qad|exact qag|exact qae|exact qac|exact qah _|exact qau _ (by omega)|exact qat (by omega)|exact qas (by omega)|exact rfl|assumption|apply qav)|(apply qa2 rfl rfl;(focus (repeat' first|assumption|exact qaa rfl|apply qaf rfl|apply qab);done))|(apply qbj rfl rfl;(focus (repeat' first|assumption|exact qaa rfl|apply qaf rfl|apply qab);done);exact rfl)))
        by_cases hl0 : l = []
        · subst hl0
          apply O_append0
          · exact qbb (by (focus first|(apply qam;(repeat' first|assumption|exact qaa rfl|apply qaf rfl|apply qab);done)|exact qao _ _|exact qai _|exact qan _|exact qad|exact qag|exact qae|exact qac|exact qah _)) (qbb (by (focus first|(apply qam;(repeat' first|assumption|exact qaa rfl|apply qaf rfl|apply qab);done)|exact qao _ _|exact qai _|exact qan _|exact qad|exact qag|exact qae|exact qac|exact qah _)) qbi)
          · exact sv'
          · exact ou2
          · rfl
          refine ⟨Undis.off rfl, ?_⟩
          (repeat (first|refine KW.go ?_|((first|apply qaw|apply qaz|apply qa1|apply qa4|apply qay|apply qax|apply qar|apply qal|apply qaj|apply qap)<;>first|(apply qam;(repeat' first|assumption|exact qaa rfl|apply qaf rfl|apply qab);done)|exact qao _ _|exact qai _|exact qan _|exact qad|exact qag|exact qae|exact qac|exact qah _|exact qau _ (by omega)|exact qat (by omega)|exact qas (by omega)|exact rfl|assumption|apply qav)|((first|apply qa3|apply qaq|apply qak)<;>first|(apply qam;(repeat' first|assumption|exact qaa rfl|apply qaf rfl|apply qab);done)|exact qao _ _|exact qai _|exact qan _|exact qad|exact qag|exact qae|exact qac|exact qah _|exact qau _ (by omega)|exact qat (by omega)|exact qas (by omega)|exact rfl|assumption|apply qav)|(apply qa2 rfl rfl;(focus (repeat' first|assumption|exact qaa rfl|apply qaf rfl|apply qab);done))|(apply qbj rfl rfl;(focus (repeat' first|assumption|exact qaa rfl|apply qaf rfl|apply qab);done);exact rfl)))
          apply qdg (2 - (i + 1)) (by omega)
          refine ⟨i + 1, v, rfl, by omega, by (repeat' first|assumption|exact qaa rfl|apply qaf rfl|apply qab), by (repeat' first|assumption|exact qaa rfl|apply qaf rfl|apply qab), by (repeat' first|assumption|exact qaa rfl|apply qaf rfl|apply qab), by (repeat' first|assumption|exact qaa rfl|apply qaf rfl|apply qab), kp, ?_, gv, nv, iv⟩
          rw [hfl, List.append_nil]; exact sv'
        apply O_append (new := ints l) (m := l.length) (bytes := 8)
        · exact qbb (by (focus first|(apply qam;(repeat' first|assumption|exact qaa rfl|apply qaf rfl|apply qab);done)|exact qao _ _|exact qai _|exact qan _|exact qad|exact qag|exact qae|exact qac|exact qah _)) (qbb (by (focus first|(apply qam;(repeat' first|assumption|exact qaa rfl|apply qaf rfl|apply qab);done)|exact qao _ _|exact qai _|exact qan _|exact qad|exact qag|exact qae|exact qac|exact qah _)) qbi)
        · exact sv'
        · exact gv
        · exact ou2
        · exact ints_ones l
        · rfl
        · simp only [room]; omega
        intro v' g3 kb3 s3 gr3 iv3 ne3
        refine ⟨Undis.off rfl, ?_⟩
        (repeat (first|refine KW.go ?_|((first|apply qaw|apply qaz|apply qa1|apply qa4|apply qay|apply qax|apply qar|apply qal|apply qaj|apply qap)<;>first|(apply qam;(repeat' first|assumption|exact qaa rfl|apply qaf rfl|apply qab);done)|exact qao _ _|exact qai _|exact qan _|exact qad|exact qag|exact qae|exact qac|exact qah _|exact qau _ (by omega)|exact qat (by omega)|exact qas (by omega)|exact rfl|assumption|apply qav)|((first|apply qa3|apply qaq|apply qak)<;>first|(apply qam;(repeat' first|assumption|exact qaa rfl|apply qaf rfl|apply qab);done)|exact qao _ _|exact qai _|exact qan _|exact qad|exact qag|exact qae|exact qac|exact qah _|exact qau _ (by omega)|exact qat (by omega)|exact qas (by omega)|exact rfl|assumption|apply qav)|(apply qa2 rfl rfl;(focus (repeat' first|assumption|exact qaa rfl|apply qaf rfl|apply qab);done))|(apply qbj rfl rfl;(focus (repeat' first|assumption|exact qaa rfl|apply qaf rfl|apply qab);done);exact rfl)))
        apply qdg (2 - (i + 1)) (by omega)
        refine ⟨i + 1, v', rfl, by omega, by (repeat' first|assumption|exact qaa rfl|apply qaf rfl|apply qab), by (repeat' first|assumption|exact qaa rfl|apply qaf rfl|apply qab), by (repeat' first|assumption|exact qaa rfl|apply qaf rfl|apply qab), by (repeat' first|assumption|exact qaa rfl|apply qaf rfl|apply qab), kp.trans (kb3.weaken fun k hk => iv k hk), ?_, gr3, ?_, fun k hk => ?_⟩
        · rw [hfl, Ints, List.length_append, ints_append]; exact s3
        · exact ne3 (List.length_pos_iff.2 hl0)
        · rcases iv3 k hk with q | q
          · exact iv k q
          · have := kp.next; omega
      · intro c
        have : i = 2 := by simp at c; omega
        subst this
        (repeat (first|refine KW.go ?_|((first|apply qaw|apply qaz|apply qa1|apply qa4|apply qay|apply qax|apply qar|apply qal|apply qaj|apply qap)<;>first|(apply qam;(repeat' first|assumption|exact qaa rfl|apply qaf rfl|apply qab);done)|exact qao _ _|exact qai _|exact qan _|exact qad|exact qag|exact qae|exact qac|exact qah _|exact qau _ (by omega)|exact qat (by omega)|exact qas (by omega)|exact rfl|assumption|apply qav)|((first|apply qa3|apply qaq|apply qak)<;>first|(apply qam;(repeat' first|assumption|exact qaa rfl|apply qaf rfl|apply qab);done)|exact qao _ _|exact qai _|exact qan _|exact qad|exact qag|exact qae|exact qac|exact qah _|exact qau _ (by omega)|exact qat (by omega)|exact qas (by omega)|exact rfl|assumption|apply qav)|(apply qa2 rfl rfl;(focus (repeat' first|assumption|exact qaa rfl|apply qaf rfl|apply qab);done))|(apply qbj rfl rfl;(focus (repeat' first|assumption|exact qaa rfl|apply qaf rfl|apply qab);done);exact rfl)))
        apply K_mid
        exact ⟨kp.toKeep w, v, by (repeat' first|assumption|exact qaa rfl|apply qaf rfl|apply qab), by simpa using sv', gv, nv, iv⟩
  rintro T g2 ⟨kp, v, t6, q⟩
  (repeat (first|refine KW.go ?_|((first|apply qaw|apply qaz|apply qa1|apply qa4|apply qay|apply qax|apply qar|apply qal|apply qaj|apply qap)<;>first|(apply qam;(repeat' first|assumption|exact qaa rfl|apply qaf rfl|apply qab);done)|exact qao _ _|exact qai _|exact qan _|exact qad|exact qag|exact qae|exact qac|exact qah _|exact qau _ (by omega)|exact qat (by omega)|exact qas (by omega)|exact rfl|assumption|apply qav)|((first|apply qa3|apply qaq|apply qak)<;>first|(apply qam;(repeat' first|assumption|exact qaa rfl|apply qaf rfl|apply qab);done)|exact qao _ _|exact qai _|exact qan _|exact qad|exact qag|exact qae|exact qac|exact qah _|exact qau _ (by omega)|exact qat (by omega)|exact qas (by omega)|exact rfl|assumption|apply qav)|(apply qa2 rfl rfl;(focus (repeat' first|assumption|exact qaa rfl|apply qaf rfl|apply qab);done))|(apply qbj rfl rfl;(focus (repeat' first|assumption|exact qaa rfl|apply qaf rfl|apply qab);done);exact rfl)))
  (apply qbl rfl; (repeat' first|assumption|exact qaa rfl|apply qaf rfl|apply qab))
  exact ⟨kp, q⟩
end Go.Am
namespace Go.Am
open Go Go.Proofs AM
set_option maxRecDepth 10000
variable {pol : Pol} {sums : Sums}

def turnOp (turn : Int) (k : Nat) : Int := if turn.tmod 2 = 0 ∨ k = 0 then 1 else if k = 1 then 3 else 2
def turnK (turn : Int) (len : Nat) : Nat := ((turn.tmod len + len).tmod len).toNat
def rot (order : List Nat) (k : Nat) : List Nat := order.drop k ++ order.take k
def opAt (pats : List Ptn) (turn : Int) (o : List Nat) (j : Nat) : Int := match o[j]? with
  | some x => match pats[x]? with
    | some p => turnOp turn (qb4 (qbo pats o j) p).length
    | none => 0
  | none => 0
def qcx (pats : List Ptn) (turn : Int) (o : List Nat) (i : Nat) : List Int := (List.range o.length).map fun j => if j < i then opAt pats turn o j else 0
theorem qcf (pats : List Ptn) (turn : Int) (o : List Nat) (i : Nat) : (qcx pats turn o i).length = o.length := by simp [qcx]
theorem turnOps_set (pats : List Ptn) (turn : Int) (o : List Nat) (i : Nat) : (qcx pats turn o i).set i (opAt pats turn o i) = qcx pats turn o (i + 1) := by
  apply List.ext_getElem
  · simp [qcx]
  · intro j h1 h2
    simp only [qcx, List.getElem_set, List.getElem_map, List.getElem_range]
    by_cases e : i = j
    · subst e; simp
    · rw [if_neg e]
      by_cases h3 : j < i
      · rw [if_pos h3, if_pos (by omega)]
      · rw [if_neg h3, if_neg (by omega)]
theorem turnOps_zero (pats : List Ptn) (turn : Int) (o : List Nat) : qcx pats turn o 0 = List.replicate o.length 0 := by
  apply List.ext_getElem
  · simp [qcx]
  · intro j h1 h2; simp [qcx]
theorem turnK_lt (turn : Int) {len : Nat} (h : 0 < len) : turnK turn len < len := by
  have h1 : (turn.tmod len + len).tmod len < len := Int.tmod_lt_of_pos _ (by omega)
  unfold turnK; omega
theorem turnK_eq (turn : Int) {len : Nat} (h : 0 < len) : (turn.tmod len + len).tmod len = (turnK turn len : Nat) := by
  have h0 : -(len : Int) < turn.tmod len := Int.lt_tmod_of_pos _ (by omega)
  have : 0 ≤ (turn.tmod len + len).tmod len := Int.tmod_nonneg _ (by omega)
  unfold turnK; omega
theorem rot_length (order : List Nat) (k : Nat) (h : k ≤ order.length) : (rot order k).length = order.length := by simp [rot]; omega

attribute [local irreducible] KSeq KMid KBlock KLoop KOps KFunc Runs qb9 qbn qdl aop qbt qbq qbv qbv? qbd qbw qa9
attribute [local irreducible] KRound KAssign
theorem turned1_spec (hs : sums 22 = none) {n : Nat} (hn : 1 ≤ n) (turn : Int) (k : Nat) (h : Hp) : Runs (qbt Try.prog pol sums n (.func (.func 22) [] []) [.int .i64 turn, .int .i64 (k : Nat)]) h (fun v h' => h = h' ∧ v = .int .i64 (turnOp turn k)) := by
  obtain ⟨n, rfl⟩ : ∃ m, n = m + 1 := ⟨n - 1, by omega⟩
  refine qcq (by assumption) Try.func22 rfl (by simp [Try.f22]) ?_
  have a0 : qbq (qa9 Try.f22.ntmps (([] ++ [.int .i64 turn, .int .i64 (k : Nat)] ++ []) : List AV)) 0 = .int .i64 turn := qa8 rfl
  have a1 : qbq (qa9 Try.f22.ntmps (([] ++ [.int .i64 turn, .int .i64 (k : Nat)] ++ []) : List AV)) 1 = .int .i64 (k : Nat) := qa8 rfl
  generalize qa9 Try.f22.ntmps (([] ++ [.int .i64 turn, .int .i64 (k : Nat)] ++ []) : List AV) = T at *
  show Runs (qbn _ _ _ _ 16 _ _ _) _ _
  (repeat (first|refine KW.go ?_|((first|apply qaw|apply qaz|apply qa1|apply qa4|apply qay|apply qax|apply qar|apply qal|apply qaj|apply qap)<;>first|(apply qam;(repeat' first|assumption|exact qaa rfl|apply qaf rfl|apply qab);done)|exact qao _ _|exact qai _|exact qan _|exact qad|exact qag|exact qae|exact qac|exact qah _|exact qau _ (by omega)|exact qat (by omega)|exact qas (by omega)|exact rfl|assumption|apply qav)|((first|apply qa3|apply qaq|apply qak)<;>first|(apply qam;(repeat' first|assumption|exact qaa rfl|apply qaf rfl|apply qab);done)|exact qao _ _|exact qai _|exact qan _|exact qad|exact qag|exact qae|exact qac|exact qah _|exact qau _ (by omega)|exact qat (by omega)|exact qas (by omega)|exact rfl|assumption|apply qav)|(apply qa2 rfl rfl;(focus (repeat' first|assumption|exact qaa rfl|apply qaf rfl|apply qab);done))|(apply qbj rfl rfl;(focus (repeat' first|assumption|exact qaa rfl|apply qaf rfl|apply qab);done);exact rfl)))
  apply O_rem
  · (focus first|(apply qam;(repeat' first|assumption|exact qaa rfl|apply qaf rfl|apply qab);done)|exact qao _ _|exact qai _|exact qan _|exact qad|exact qag|exact qae|exact qac|exact qah _)
  · (focus first|(apply qam;(repeat' first|assumption|exact qaa rfl|apply qaf rfl|apply qab);done)|exact qao _ _|exact qai _|exact qan _|exact qad|exact qag|exact qae|exact qac|exact qah _)
  · decide
  (repeat (first|refine KW.go ?_|((first|apply qaw|apply qaz|apply qa1|apply qa4|apply qay|apply qax|apply qar|apply qal|apply qaj|apply qap)<;>first|(apply qam;(repeat' first|assumption|exact qaa rfl|apply qaf rfl|apply qab);done)|exact qao _ _|exact qai _|exact qan _|exact qad|exact qag|exact qae|exact qac|exact qah _|exact qau _ (by omega)|exact qat (by omega)|exact qas (by omega)|exact rfl|assumption|apply qav)|((first|apply qa3|apply qaq|apply qak)<;>first|(apply qam;(repeat' first|assumption|exact qaa rfl|apply qaf rfl|apply qab);done)|exact qao _ _|exact qai _|exact qan _|exact qad|exact qag|exact qae|exact qac|exact qah _|exact qau _ (by omega)|exact qat (by omega)|exact qas (by omega)|exact rfl|assumption|apply qav)|(apply qa2 rfl rfl;(focus (repeat' first|assumption|exact qaa rfl|apply qaf rfl|apply qab);done))|(apply qbj rfl rfl;(focus (repeat' first|assumption|exact qaa rfl|apply qaf rfl|apply qab);done);exact rfl)))
  cases hv : (turn.tmod 2 == 0) with
  | true =>
    have hv' : turn.tmod 2 = 0 := by simpa using hv
    (repeat (first|refine KW.go ?_|((first|apply qaw|apply qaz|apply qa1|apply qa4|apply qay|apply qax|apply qar|apply qal|apply qaj|apply qap)<;>first|(apply qam;(repeat' first|assumption|exact qaa rfl|apply qaf rfl|apply qab);done)|exact qao _ _|exact qai _|exact qan _|exact qad|exact qag|exact qae|exact qac|exact qah _|exact qau _ (by omega)|exact qat (by omega)|exact qas (by omega)|exact rfl|assumption|apply qav)|((first|apply qa3|apply qaq|apply qak)<;>first|(apply qam;(repeat' first|assumption|exact qaa rfl|apply qaf rfl|apply qab);done)|exact qao _ _|exact qai _|exact qan _|exact qad|exact qag|exact qae|exact qac|exact qah _|exact qau _ (by omega)|exact qat (by omega)|exact qas (by omega)|exact rfl|assumption|apply qav)|(apply qa2 rfl rfl;(focus (repeat' first|assumption|exact qaa rfl|apply qaf rfl|apply qab);done))|(apply qbj rfl rfl;(focus (repeat' first|assumption|exact qaa rfl|apply qaf rfl|apply qab);done);exact rfl)))
    apply qbx true
    · (focus first|(apply qam;(repeat' first|assumption|exact qaa rfl|apply qaf rfl|apply qab);done)|exact qao _ _|exact qai _|exact qan _|exact qad|exact qag|exact qae|exact qac|exact qah _)
    · intro _
      (repeat (first|refine KW.go ?_|((first|apply qaw|apply qaz|apply qa1|apply qa4|apply qay|apply qax|apply qar|apply qal|apply qaj|apply qap)<;>first|(apply qam;(repeat' first|assumption|exact qaa rfl|apply qaf rfl|apply qab);done)|exact qao _ _|exact qai _|exact qan _|exact qad|exact qag|exact qae|exact qac|exact qah _|exact qau _ (by omega)|exact qat (by omega)|exact qas (by omega)|exact rfl|assumption|apply qav)|((first|apply qa3|apply qaq|apply qak)<;>first|(apply qam;(repeat' first|assumption|exact qaa rfl|apply qaf rfl|apply qab);done)|exact qao _ _|exact qai _|exact qan _|exact qad|exact qag|exact qae|exact qac|exact qah _|exact qau _ (by omega)|exact qat (by omega)|exact qas (by omega)|exact rfl|assumption|apply qav)|(apply qa2 rfl rfl;(focus (repeat' first|assumption|exact qaa rfl|apply qaf rfl|apply qab);done))|(apply qbj rfl rfl;(focus (repeat' first|assumption|exact qaa rfl|apply qaf rfl|apply qab);done);exact rfl)))
      (apply qbl rfl; (repeat' first|assumption|exact qaa rfl|apply qaf rfl|apply qab))
      simp [turnOp, hv']
    · intro c; cases c
  | false =>
    have hv' : ¬ turn.tmod 2 = 0 := by simpa using hv
    (repeat (first|refine KW.go ?_|((first|apply qaw|apply qaz|apply qa1|apply qa4|apply qay|apply qax|apply qar|apply qal|apply qaj|apply qap)<;>first|(apply qam;(repeat' first|assumption|exact qaa rfl|apply qaf rfl|apply qab);done)|exact qao _ _|exact qai _|exact qan _|exact qad|exact qag|exact qae|exact qac|exact qah _|exact qau _ (by omega)|exact qat (by omega)|exact qas (by omega)|exact rfl|assumption|apply qav)|((first|apply qa3|apply qaq|apply qak)<;>first|(apply qam;(repeat' first|assumption|exact qaa rfl|apply qaf rfl|apply qab);done)|exact qao _ _|exact qai _|exact qan _|exact qad|exact qag|exact qae|exact qac|exact qah _|exact qau _ (by omega)|exact qat (by omega)|exact qas (by omega)|exact rfl|assumption|apply qav)|(apply qa2 rfl rfl;(focus (repeat' first|assumption|exact qaa rfl|apply qaf rfl|apply qab);done))|(apply qbj rfl rfl;(focus (repeat' first|assumption|exact qaa rfl|apply qaf rfl|apply qab);done);exact rfl)))
    apply qbx ((k : Int) == 0)
    · (focus first|(apply qam;(repeat' first|assumption|exact qaa rfl|apply qaf rfl|apply qab);done)|exact qao _ _|exact qai _|exact qan _|exact qad|exact qag|exact qae|exact qac|exact qah _)
    · intro c
      have c : k = 0 := by simp at c; omega
      (repeat (first|refine KW.go ?_|((first|apply qaw|apply qaz|apply qa1|apply qa4|apply qay|apply qax|apply qar|apply qal|apply qaj|apply qap)<;>first|(apply qam;(repeat' first|assumption|exact qaa rfl|apply qaf rfl|apply qab);done)|exact qao _ _|exact qai _|exact qan _|exact qad|exact qag|exact qae|exact qac|exact qah _|exact qau _ (by omega)|exact qat (by omega)|exact qas (by omega)|exact rfl|assumption|apply qav)|((first|apply qa3|apply qaq|apply qak)<;>first|(apply qam;(repeat' first|assumption|exact qaa rfl|apply qaf rfl|apply qab);done)|exact qao _ _|exact qai _|exact qan _|exact qad|exact qag|exact qae|exact qac|exact qah _|exact qau _ (by omega)|exact qat (by omega)|exact qas (by omega)|exact rfl|assumption|apply qav)|(apply qa2 rfl rfl;(focus (repeat' first|assumption|exact qaa rfl|apply qaf rfl|apply qab);done))|(apply qbj rfl rfl;(focus (repeat' first|assumption|exact qaa rfl|apply qaf rfl|apply qab);done);exact rfl)))
      (apply qbl rfl; (repeat' first|assumption|exact qaa rfl|apply qaf rfl|apply qab))
      simp [turnOp, c]
    intro c
    have c : ¬ k = 0 := by simp at c; omega
    (repeat (first|refine KW.go ?_|((first|apply qaw|apply qaz|apply qa1|apply qa4|apply qay|apply qax|apply qar|apply qal|apply qaj|apply qap)<;>first|(apply qam;(repeat' first|assumption|exact qaa rfl|apply qaf rfl|apply qab);done)|exact qao _ _|exact qai _|exact qan _|exact qad|exact qag|exact qae|exact qac|exact qah _|exact qau _ (by omega)|exact qat (by omega)|exact qas (by omega)|exact rfl|assumption|apply qav)|((first|apply qa3|apply qaq|apply qak)<;>first|(apply qam;(repeat' first|assumption|exact qaa rfl|apply qaf rfl|apply qab);done)|exact qao _ _|exact qai _|exact qan _|exact qad|exact qag|exact qae|exact qac|exact qah _|exact qau _ (by omega)|exact qat (by omega)|exact qas (by omega)|exact rfl|assumption|apply qav)|(apply qa2 rfl rfl;(focus (repeat' first|assumption|exact qaa rfl|apply qaf rfl|apply qab);done))|(apply qbj rfl rfl;(focus (repeat' first|assumption|exact qaa rfl|apply qaf rfl|apply qab);done);exact rfl)))
    apply qbx ((k : Int) == 1)
    · (focus first|(apply qam;(repeat' first|assumption|exact qaa rfl|apply qaf rfl|apply qab);done)|exact qao _ _|exact qai _|exact qan _|exact qad|exact qag|exact qae|exact qac|exact qah _)
    · intro c1
      have c1 : k = 1 := by simp at c1; omega
      (repeat (first|refine KW.go ?_|((first|apply qaw|apply qaz|apply qa1|apply qa4|apply qay|apply qax|apply qar|apply qal|apply qaj|apply qap)<;>first|(apply qam;(repeat' first|assumption|exact qaa rfl|apply qaf rfl|apply qab);done)|exact qao _ _|exact qai _|exact qan _|exact qad|exact qag|exact qae|exact qac|exact qah _|exact qau _ (by omega)|exact qat (by omega)|exact qas (by omega)|exact rfl|assumption|apply qav)|((first|apply qa3|apply qaq|apply qak)<;>first|(apply qam;(repeat' first|assumption|exact qaa rfl|apply qaf rfl|apply qab);done)|exact qao _ _|exact qai _|exact qan _|exact qad|exact qag|exact qae|exact qac|exact qah _|exact qau _ (by omega)|exact qat (by omega)|exact qas (by omega)|exact rfl|assumption|apply qav)|(apply qa2 rfl rfl;(focus (repeat' first|assumption|exact qaa rfl|apply qaf rfl|apply qab);done))|(apply qbj rfl rfl;(focus (repeat' first|assumption|exact qaa rfl|apply qaf rfl|apply qab);done);exact rfl)))
      (apply qbl rfl; (repeat' first|assumption|exact qaa rfl|apply qaf rfl|apply qab))
      simp [turnOp, hv', c1]
    · intro c1
      have c1 : ¬ k = 1 := by simp at c1; omega
      (repeat (first|refine KW.go ?_|((first|apply qaw|apply qaz|apply qa1|apply qa4|apply qay|apply qax|apply qar|apply qal|apply qaj|apply qap)<;>first|(apply qam;(repeat' first|assumption|exact qaa rfl|apply qaf rfl|apply qab);done)|exact qao _ _|exact qai _|exact qan _|exact qad|exact qag|exact qae|exact qac|exact qah _|exact qau _ (by omega)|exact qat (by omega)|exact qas (by omega)|exact rfl|assumption|apply qav)|((first|apply qa3|apply qaq|apply qak)<;>first|(apply qam;(repeat' first|assumption|exact qaa rfl|apply qaf rfl|apply qab);done)|exact qao _ _|exact qai _|exact qan _|exact qad|exact qag|exact qae|exact qac|exact qah _|exact qau _ (by omega)|exact qat (by omega)|exact qas (by omega)|exact rfl|assumption|apply qav)|(apply qa2 rfl rfl;(focus (repeat' first|assumption|exact qaa rfl|apply qaf rfl|apply qab);done))|(apply qbj rfl rfl;(focus (repeat' first|assumption|exact qaa rfl|apply qaf rfl|apply qab);done);exact rfl)))
      (apply qbl rfl; (repeat' first|assumption|exact qaa rfl|apply qaf rfl|apply qab))
      simp [turnOp, hv', c, c1]

theorem fill2 {v1 v2 : AV} (h1 : acells v1 = [v1]) (h2 : acells v2 = [v2]) (k1 : Am.known v1 = true) (k2 : Am.known v2 = true) : afillL ((List.range 2).map fun i => (i * 1, 1)) (qbh (acells (.sl .nil 0 [])) 2) [(0, v1), (1, v2)] = some [v1, v2] := by
  simp only [afillL, List.range, List.range.loop, List.map_cons, List.map_nil, List.getElem?_cons_zero, List.getElem?_cons_succ, h1, h2, k1, k2]
  rfl
theorem fillP {v1 v2 : AV} (h1 : acells v1 = [v1]) (k1 : Am.known v1 = true) {id n : Nat} (e : v2 = .own id 0 0 n) : afillL [(0, 1), (1, 1)] [.sl .nil 0 [], .sl .nil 0 []] [(0, v1), (1, v2)] = some [v1, v2] := by
  subst e
  simp only [afillL, List.getElem?_cons_zero, List.getElem?_cons_succ, h1, k1]
  rfl
theorem repeat_zero : ∀ n, qbh [.int .i64 0] n = ints (List.replicate n 0)
  | 0 => rfl
  | n + 1 => by simp only [qbh, repeat_zero n, List.replicate_succ]; rfl
theorem turned_spec (S : S27' pol sums) {n : Nat} {h : Hp} {ov qv pv : AV} {order : List Nat} {ops : List Int} {pats : List Ptn} (turn : Int) (hn : order.length + pats.length + 60 ≤ n) (hb2 : pats.length < 2 ^ 28) (hb3 : ops.length < 2 ^ 40)
    (oo : Ints h ov (zs order)) (oq : Ints h qv ops) (po : Rows ptnC 15 h pv pats) (hr : qcw pats (zs order) ops = true) (hol : order.length = pats.length) (hor : ∀ i ∈ order, i < pats.length) (hne : 0 < pats.length) :
    Runs (qbt Try.prog pol sums n (.func (.func 7) [] []) [.agg [ov, qv], .int .i64 turn, pv]) h (fun v h' => Keep h h' ∧ ∃ ov' qid, v = .agg [ov', .own qid 0 0 pats.length] ∧ Ints h' ov' (zs (rot order (turnK turn pats.length))) ∧ qdh ov' = true ∧ qb1 ov' ≠ [] ∧ (∀ k ∈ qb1 ov', h.next ≤ k ∧ k ≠ qid) ∧ h.next ≤ qid ∧
      RowInts h' qid 0 0 true pats.length (qcx pats turn (rot order (turnK turn pats.length)) pats.length)) := by
  apply Runs.wf
  intro w
  have S' := S.rest
  have s7 : sums 7 = none := S' _ (by decide)
  have hk := turnK_lt turn hne
  have hkeq := turnK_eq turn hne
  have ht0 : -(pats.length : Int) < turn.tmod pats.length := Int.lt_tmod_of_pos _ (by omega)
  have ht1 : turn.tmod pats.length < pats.length := Int.tmod_lt_of_pos _ (by omega)
  have hrl := rot_length order (turnK turn pats.length) (by omega)
  generalize hkk : turnK turn pats.length = k at *
  generalize hro : rot order k = o at *
  obtain ⟨n, rfl⟩ : ∃ m, n = m + 1 := ⟨n - 1, by omega⟩
  refine qcq (by assumption) Try.func7 rfl (by simp [Try.f7]) ?_
  have a0 : qbq (qa9 Try.f7.ntmps (([] ++ [.agg [ov, qv], .int .i64 turn, pv] ++ []) : List AV)) 0 = .agg [ov, qv] := qa8 rfl
  have a1 : qbq (qa9 Try.f7.ntmps (([] ++ [.agg [ov, qv], .int .i64 turn, pv] ++ []) : List AV)) 1 = .int .i64 turn := qa8 rfl
  have a2 : qbq (qa9 Try.f7.ntmps (([] ++ [.agg [ov, qv], .int .i64 turn, pv] ++ []) : List AV)) 2 = pv := qa8 rfl
  generalize qa9 Try.f7.ntmps (([] ++ [.agg [ov, qv], .int .i64 turn, pv] ++ []) : List AV) = T at *
  show Runs (qbn _ _ _ _ 64 _ _ _) _ _
  (repeat (first|refine KW.go ?_|((first|apply qaw|apply qaz|apply qa1|apply qa4|apply qay|apply qax|apply qar|apply qal|apply qaj|apply qap)<;>first|(apply qam;(repeat' first|assumption|exact qaa rfl|apply qaf rfl|apply qab);done)|exact qao _ _|exact qai _|exact qan _|exact qad|exact qag|exact qae|exact qac|exact qah _|exact qau _ (by omega)|exact qat (by omega)|exact qas (by omega)|exact rfl|assumption|apply qav)|((first|apply qa3|apply qaq|apply qak)<;>first|(apply qam;(repeat' first|assumption|exact qaa rfl|apply qaf rfl|apply qab);done)|exact qao _ _|exact qai _|exact qan _|exact qad|exact qag|exact qae|exact qac|exact qah _|exact qau _ (by omega)|exact qat (by omega)|exact qas (by omega)|exact rfl|assumption|apply qav)|(apply qa2 rfl rfl;(focus (repeat' first|assumption|exact qaa rfl|apply qaf rfl|apply qab);done))|(apply qbj rfl rfl;(focus (repeat' first|assumption|exact qaa rfl|apply qaf rfl|apply qab);done);exact rfl)))
  apply O_box
  · (focus first|(apply qam;(repeat' first|assumption|exact qaa rfl|apply qaf rfl|apply qab);done)|exact qao _ _|exact qai _|exact qan _|exact qad|exact qag|exact qae|exact qac|exact qah _)
  · rfl
  intro g1 i3 k1 r3 l1 l2
  change Row g1 i3 0 2 [ov, qv] true at r3
  apply O_box
  · (focus first|(apply qam;(repeat' first|assumption|exact qaa rfl|apply qaf rfl|apply qab);done)|exact qao _ _|exact qai _|exact qan _|exact qad|exact qag|exact qae|exact qac|exact qah _)
  · rfl
  intro g2 i4 k2 r4 l3 l4
  change Row g2 i4 0 1 [.int .i64 turn] true at r4
  apply qdn
  intro g3 i6 k3 r6 l5 l6
  change Row g3 i6 0 2 [.sl .nil 0 [], .sl .nil 0 []] true at r6
  replace r3 := (r3.keep k2).keep k3
  replace r4 := r4.keep k3
  have kk := (k1.trans k2).trans k3
  have oo3 := oo.keep kk
  have oq3 := oq.keep kk
  have po3 := po.keep kk
  (repeat (first|refine KW.go ?_|((first|apply qaw|apply qaz|apply qa1|apply qa4|apply qay|apply qax|apply qar|apply qal|apply qaj|apply qap)<;>first|(apply qam;(repeat' first|assumption|exact qaa rfl|apply qaf rfl|apply qab);done)|exact qao _ _|exact qai _|exact qan _|exact qad|exact qag|exact qae|exact qac|exact qah _|exact qau _ (by omega)|exact qat (by omega)|exact qas (by omega)|exact rfl|assumption|apply qav)|((first|apply qa3|apply qaq|apply qak)<;>first|(apply qam;(repeat' first|assumption|exact qaa rfl|apply qaf rfl|apply qab);done)|exact qao _ _|exact qai _|exact qan _|exact qad|exact qag|exact qae|exact qac|exact qah _|exact qau _ (by omega)|exact qat (by omega)|exact qas (by omega)|exact rfl|assumption|apply qav)|(apply qa2 rfl rfl;(focus (repeat' first|assumption|exact qaa rfl|apply qaf rfl|apply qab);done))|(apply qbj rfl rfl;(focus (repeat' first|assumption|exact qaa rfl|apply qaf rfl|apply qab);done);exact rfl)))
  apply qbk (n := 2)
  · (focus first|(apply qam;(repeat' first|assumption|exact qaa rfl|apply qaf rfl|apply qab);done)|exact qao _ _|exact qai _|exact qan _|exact qad|exact qag|exact qae|exact qac|exact qah _)
  · exact r3
  · rfl
  · exact rfl
  (repeat (first|refine KW.go ?_|((first|apply qaw|apply qaz|apply qa1|apply qa4|apply qay|apply qax|apply qar|apply qal|apply qaj|apply qap)<;>first|(apply qam;(repeat' first|assumption|exact qaa rfl|apply qaf rfl|apply qab);done)|exact qao _ _|exact qai _|exact qan _|exact qad|exact qag|exact qae|exact qac|exact qah _|exact qau _ (by omega)|exact qat (by omega)|exact qas (by omega)|exact rfl|assumption|apply qav)|((first|apply qa3|apply qaq|apply qak)<;>first|(apply qam;(repeat' first|assumption|exact qaa rfl|apply qaf rfl|apply qab);done)|exact qao _ _|exact qai _|exact qan _|exact qad|exact qag|exact qae|exact qac|exact qah _|exact qau _ (by omega)|exact qat (by omega)|exact qas (by omega)|exact rfl|assumption|apply qav)|(apply qa2 rfl rfl;(focus (repeat' first|assumption|exact qaa rfl|apply qaf rfl|apply qab);done))|(apply qbj rfl rfl;(focus (repeat' first|assumption|exact qaa rfl|apply qaf rfl|apply qab);done);exact rfl)))
  (apply qb5; (focus first|(apply qam;(repeat' first|assumption|exact qaa rfl|apply qaf rfl|apply qab);done)|exact qao _ _|exact qai _|exact qan _|exact qad|exact qag|exact qae|exact qac|exact qah _); (repeat (apply qbb; (focus first|(apply qam;(repeat' first|assumption|exact qaa rfl|apply qaf rfl|apply qab);done)|exact qao _ _|exact qai _|exact qan _|exact qad|exact qag|exact qae|exact qac|exact qah _))); exact qbi)
  refine (right_spec S (by rw [qcp]; omega) (by rw [qcp]; omega) (by omega) hb3 oo3 oq3 po3).mono ?_
  rintro v g4 ⟨k4, rfl⟩
  refine ⟨Undis.off rfl, ?_⟩
  rw [hr]
  replace r3 := r3.keep k4
  replace r4 := r4.keep k4
  replace r6 := r6.keep k4
  replace oo3 := oo3.keep k4
  replace po3 := po3.keep k4
  replace kk := kk.trans k4
  (repeat (first|refine KW.go ?_|((first|apply qaw|apply qaz|apply qa1|apply qa4|apply qay|apply qax|apply qar|apply qal|apply qaj|apply qap)<;>first|(apply qam;(repeat' first|assumption|exact qaa rfl|apply qaf rfl|apply qab);done)|exact qao _ _|exact qai _|exact qan _|exact qad|exact qag|exact qae|exact qac|exact qah _|exact qau _ (by omega)|exact qat (by omega)|exact qas (by omega)|exact rfl|assumption|apply qav)|((first|apply qa3|apply qaq|apply qak)<;>first|(apply qam;(repeat' first|assumption|exact qaa rfl|apply qaf rfl|apply qab);done)|exact qao _ _|exact qai _|exact qan _|exact qad|exact qag|exact qae|exact qac|exact qah _|exact qau _ (by omega)|exact qat (by omega)|exact qas (by omega)|exact rfl|assumption|apply qav)|(apply qa2 rfl rfl;(focus (repeat' first|assumption|exact qaa rfl|apply qaf rfl|apply qab);done))|(apply qbj rfl rfl;(focus (repeat' first|assumption|exact qaa rfl|apply qaf rfl|apply qab);done);exact rfl)))
  apply qbx false
  · (focus first|(apply qam;(repeat' first|assumption|exact qaa rfl|apply qaf rfl|apply qab);done)|exact qao _ _|exact qai _|exact qan _|exact qad|exact qag|exact qae|exact qac|exact qah _)
  · intro c; cases c
  intro _
  (repeat (first|refine KW.go ?_|((first|apply qaw|apply qaz|apply qa1|apply qa4|apply qay|apply qax|apply qar|apply qal|apply qaj|apply qap)<;>first|(apply qam;(repeat' first|assumption|exact qaa rfl|apply qaf rfl|apply qab);done)|exact qao _ _|exact qai _|exact qan _|exact qad|exact qag|exact qae|exact qac|exact qah _|exact qau _ (by omega)|exact qat (by omega)|exact qas (by omega)|exact rfl|assumption|apply qav)|((first|apply qa3|apply qaq|apply qak)<;>first|(apply qam;(repeat' first|assumption|exact qaa rfl|apply qaf rfl|apply qab);done)|exact qao _ _|exact qai _|exact qan _|exact qad|exact qag|exact qae|exact qac|exact qah _|exact qau _ (by omega)|exact qat (by omega)|exact qas (by omega)|exact rfl|assumption|apply qav)|(apply qa2 rfl rfl;(focus (repeat' first|assumption|exact qaa rfl|apply qaf rfl|apply qab);done))|(apply qbj rfl rfl;(focus (repeat' first|assumption|exact qaa rfl|apply qaf rfl|apply qab);done);exact rfl)))
  apply qbx ((pats.length : Int) == 0)
  · (focus first|(apply qam;(repeat' first|assumption|exact qaa rfl|apply qaf rfl|apply qab);done)|exact qao _ _|exact qai _|exact qan _|exact qad|exact qag|exact qae|exact qac|exact qah _)
  · intro c; exfalso; simp at c; rw [c] at hne; simp at hne
  intro _
  (repeat (first|refine KW.go ?_|((first|apply qaw|apply qaz|apply qa1|apply qa4|apply qay|apply qax|apply qar|apply qal|apply qaj|apply qap)<;>first|(apply qam;(repeat' first|assumption|exact qaa rfl|apply qaf rfl|apply qab);done)|exact qao _ _|exact qai _|exact qan _|exact qad|exact qag|exact qae|exact qac|exact qah _|exact qau _ (by omega)|exact qat (by omega)|exact qas (by omega)|exact rfl|assumption|apply qav)|((first|apply qa3|apply qaq|apply qak)<;>first|(apply qam;(repeat' first|assumption|exact qaa rfl|apply qaf rfl|apply qab);done)|exact qao _ _|exact qai _|exact qan _|exact qad|exact qag|exact qae|exact qac|exact qah _|exact qau _ (by omega)|exact qat (by omega)|exact qas (by omega)|exact rfl|assumption|apply qav)|(apply qa2 rfl rfl;(focus (repeat' first|assumption|exact qaa rfl|apply qaf rfl|apply qab);done))|(apply qbj rfl rfl;(focus (repeat' first|assumption|exact qaa rfl|apply qaf rfl|apply qab);done);exact rfl)))
  apply O_rem
  · (focus first|(apply qam;(repeat' first|assumption|exact qaa rfl|apply qaf rfl|apply qab);done)|exact qao _ _|exact qai _|exact qan _|exact qad|exact qag|exact qae|exact qac|exact qah _)
  · (focus first|(apply qam;(repeat' first|assumption|exact qaa rfl|apply qaf rfl|apply qab);done)|exact qao _ _|exact qai _|exact qan _|exact qad|exact qag|exact qae|exact qac|exact qah _)
  · omega
  (repeat (first|refine KW.go ?_|((first|apply qaw|apply qaz|apply qa1|apply qa4|apply qay|apply qax|apply qar|apply qal|apply qaj|apply qap)<;>first|(apply qam;(repeat' first|assumption|exact qaa rfl|apply qaf rfl|apply qab);done)|exact qao _ _|exact qai _|exact qan _|exact qad|exact qag|exact qae|exact qac|exact qah _|exact qau _ (by omega)|exact qat (by omega)|exact qas (by omega)|exact rfl|assumption|apply qav)|((first|apply qa3|apply qaq|apply qak)<;>first|(apply qam;(repeat' first|assumption|exact qaa rfl|apply qaf rfl|apply qab);done)|exact qao _ _|exact qai _|exact qan _|exact qad|exact qag|exact qae|exact qac|exact qah _|exact qau _ (by omega)|exact qat (by omega)|exact qas (by omega)|exact rfl|assumption|apply qav)|(apply qa2 rfl rfl;(focus (repeat' first|assumption|exact qaa rfl|apply qaf rfl|apply qab);done))|(apply qbj rfl rfl;(focus (repeat' first|assumption|exact qaa rfl|apply qaf rfl|apply qab);done);exact rfl)))
  apply O_rem
  · (focus first|(apply qam;(repeat' first|assumption|exact qaa rfl|apply qaf rfl|apply qab);done)|exact qao _ _|exact qai _|exact qan _|exact qad|exact qag|exact qae|exact qac|exact qah _)
  · (focus first|(apply qam;(repeat' first|assumption|exact qaa rfl|apply qaf rfl|apply qab);done)|exact qao _ _|exact qai _|exact qan _|exact qad|exact qag|exact qae|exact qac|exact qah _)
  · omega
  rw [hkeq]
  (repeat (first|refine KW.go ?_|((first|apply qaw|apply qaz|apply qa1|apply qa4|apply qay|apply qax|apply qar|apply qal|apply qaj|apply qap)<;>first|(apply qam;(repeat' first|assumption|exact qaa rfl|apply qaf rfl|apply qab);done)|exact qao _ _|exact qai _|exact qan _|exact qad|exact qag|exact qae|exact qac|exact qah _|exact qau _ (by omega)|exact qat (by omega)|exact qas (by omega)|exact rfl|assumption|apply qav)|((first|apply qa3|apply qaq|apply qak)<;>first|(apply qam;(repeat' first|assumption|exact qaa rfl|apply qaf rfl|apply qab);done)|exact qao _ _|exact qai _|exact qan _|exact qad|exact qag|exact qae|exact qac|exact qah _|exact qau _ (by omega)|exact qat (by omega)|exact qas (by omega)|exact rfl|assumption|apply qav)|(apply qa2 rfl rfl;(focus (repeat' first|assumption|exact qaa rfl|apply qaf rfl|apply qab);done))|(apply qbj rfl rfl;(focus (repeat' first|assumption|exact qaa rfl|apply qaf rfl|apply qab);done);exact rfl)))
  have hzl : (zs order).length = order.length := qcp order
  (refine R_drawn [0, 1, 2, 3, 4, 5, 6, 7, 10, 11, 8, 9, 12, 13, 14] [0, 1, 0, 7, 0, 16, 0, 112, 255, 511, 0, 1024, 3072, 8191, 16383] (by kernel_rfl) (by kernel_rfl) (by rfl) ?_; dsimp only [qc1, List.map, List.getElem?_cons_zero, List.getElem?_cons_succ])
  (repeat (first|refine KW.go ?_|((first|apply qaw|apply qaz|apply qa1|apply qa4|apply qay|apply qax|apply qar|apply qal|apply qaj|apply qap)<;>first|(apply qam;(repeat' first|assumption|exact qaa rfl|apply qaf rfl|apply qab);done)|exact qao _ _|exact qai _|exact qan _|exact qad|exact qag|exact qae|exact qac|exact qah _|exact qau _ (by omega)|exact qat (by omega)|exact qas (by omega)|exact rfl|assumption|apply qav)|((first|apply qa3|apply qaq|apply qak)<;>first|(apply qam;(repeat' first|assumption|exact qaa rfl|apply qaf rfl|apply qab);done)|exact qao _ _|exact qai _|exact qan _|exact qad|exact qag|exact qae|exact qac|exact qah _|exact qau _ (by omega)|exact qat (by omega)|exact qas (by omega)|exact rfl|assumption|apply qav)|(apply qa2 rfl rfl;(focus (repeat' first|assumption|exact qaa rfl|apply qaf rfl|apply qab);done))|(apply qbj rfl rfl;(focus (repeat' first|assumption|exact qaa rfl|apply qaf rfl|apply qab);done);exact rfl)))
  apply O_slice_v (l := k) (u := (zs order).length)
  · (focus first|(apply qam;(repeat' first|assumption|exact qaa rfl|apply qaf rfl|apply qab);done)|exact qao _ _|exact qai _|exact qan _|exact qad|exact qag|exact qae|exact qac|exact qah _)
  · exact oo3
  · exact bounds_lo (by rw [Option.map_some]; congr 1; (focus first|(apply qam;(repeat' first|assumption|exact qaa rfl|apply qaf rfl|apply qab);done)|exact qao _ _|exact qai _|exact qan _|exact qad|exact qag|exact qae|exact qac|exact qah _)) (by omega)
  · omega
  · omega
  intro v1 s1 hv1 _
  (repeat (first|refine KW.go ?_|((first|apply qaw|apply qaz|apply qa1|apply qa4|apply qay|apply qax|apply qar|apply qal|apply qaj|apply qap)<;>first|(apply qam;(repeat' first|assumption|exact qaa rfl|apply qaf rfl|apply qab);done)|exact qao _ _|exact qai _|exact qan _|exact qad|exact qag|exact qae|exact qac|exact qah _|exact qau _ (by omega)|exact qat (by omega)|exact qas (by omega)|exact rfl|assumption|apply qav)|((first|apply qa3|apply qaq|apply qak)<;>first|(apply qam;(repeat' first|assumption|exact qaa rfl|apply qaf rfl|apply qab);done)|exact qao _ _|exact qai _|exact qan _|exact qad|exact qag|exact qae|exact qac|exact qah _|exact qau _ (by omega)|exact qat (by omega)|exact qas (by omega)|exact rfl|assumption|apply qav)|(apply qa2 rfl rfl;(focus (repeat' first|assumption|exact qaa rfl|apply qaf rfl|apply qab);done))|(apply qbj rfl rfl;(focus (repeat' first|assumption|exact qaa rfl|apply qaf rfl|apply qab);done);exact rfl)))
  apply O_slice_v (l := 0) (u := k)
  · (focus first|(apply qam;(repeat' first|assumption|exact qaa rfl|apply qaf rfl|apply qab);done)|exact qao _ _|exact qai _|exact qan _|exact qad|exact qag|exact qae|exact qac|exact qah _)
  · exact oo3
  · exact bounds_hi (by rw [Option.map_some]; congr 1; (focus first|(apply qam;(repeat' first|assumption|exact qaa rfl|apply qaf rfl|apply qab);done)|exact qao _ _|exact qai _|exact qan _|exact qad|exact qag|exact qae|exact qac|exact qah _)) (by omega)
  · omega
  · omega
  intro v2 s2 hv2 _
  have s1' : Ints g4 v1 (zs (order.drop k)) := by
    have e : ((ints (zs order)).drop (k * 1)).take (((zs order).length - k) * 1) = ints (zs (order.drop k)) := by
      rw [Nat.mul_one, Nat.mul_one, List.take_of_length_le (by simp)]
      simp [ints, zs, List.map_drop]
    rw [e] at s1
    show SlV g4 1 v1 (zs (order.drop k)).length _
    rw [qcp, List.length_drop, ← hzl]
    exact s1
  have s2' : Ints g4 v2 (zs (order.take k)) := by
    have e : ((ints (zs order)).drop (0 * 1)).take ((k - 0) * 1) = ints (zs (order.take k)) := by
      simp [ints, zs, List.map_take]
    rw [e] at s2
    show SlV g4 1 v2 (zs (order.take k)).length _
    rw [qcp, List.length_take, Nat.min_eq_left (by omega)]
    exact s2
  (repeat (first|refine KW.go ?_|((first|apply qaw|apply qaz|apply qa1|apply qa4|apply qay|apply qax|apply qar|apply qal|apply qaj|apply qap)<;>first|(apply qam;(repeat' first|assumption|exact qaa rfl|apply qaf rfl|apply qab);done)|exact qao _ _|exact qai _|exact qan _|exact qad|exact qag|exact qae|exact qac|exact qah _|exact qau _ (by omega)|exact qat (by omega)|exact qas (by omega)|exact rfl|assumption|apply qav)|((first|apply qa3|apply qaq|apply qak)<;>first|(apply qam;(repeat' first|assumption|exact qaa rfl|apply qaf rfl|apply qab);done)|exact qao _ _|exact qai _|exact qan _|exact qad|exact qag|exact qae|exact qac|exact qah _|exact qau _ (by omega)|exact qat (by omega)|exact qas (by omega)|exact rfl|assumption|apply qav)|(apply qa2 rfl rfl;(focus (repeat' first|assumption|exact qaa rfl|apply qaf rfl|apply qab);done))|(apply qbj rfl rfl;(focus (repeat' first|assumption|exact qaa rfl|apply qaf rfl|apply qab);done);exact rfl)))
  apply qcb (c' := [v1, v2])
  · exact qbs (by (focus first|(apply qam;(repeat' first|assumption|exact qaa rfl|apply qaf rfl|apply qab);done)|exact qao _ _|exact qai _|exact qan _|exact qad|exact qag|exact qae|exact qac|exact qah _)) (qbs (by (focus first|(apply qam;(repeat' first|assumption|exact qaa rfl|apply qaf rfl|apply qab);done)|exact qao _ _|exact qai _|exact qan _|exact qad|exact qag|exact qae|exact qac|exact qah _)) qcc)
  · rfl
  · exact fill2 s1.acells s2.acells s1.known s2.known
  · exact S.lit _ _
  intro _
  (apply qb5; (focus first|(apply qam;(repeat' first|assumption|exact qaa rfl|apply qaf rfl|apply qab);done)|exact qao _ _|exact qai _|exact qan _|exact qad|exact qag|exact qae|exact qac|exact qah _); (repeat (apply qbb; (focus first|(apply qam;(repeat' first|assumption|exact qaa rfl|apply qaf rfl|apply qab);done)|exact qao _ _|exact qai _|exact qan _|exact qad|exact qag|exact qae|exact qac|exact qah _))); exact qbi)
  refine (concat_spec S (by omega) s1' s2' (by simp; omega) (by simp; omega)).mono ?_
  rintro ov' g5 ⟨k5, so, go', vo, io⟩
  refine ⟨k5.undis, ?_⟩
  apply O_wf
  intro w5
  have so' : Ints g5 ov' (zs o) := by
    have e : zs (order.drop k) ++ zs (order.take k) = zs o := by rw [← hro]; simp [zs, rot]
    rw [← e]; exact so
  replace r3 := r3.keep k5
  replace r4 := r4.keep k5
  replace r6 := r6.keep k5
  replace po3 := po3.keep k5
  replace kk := kk.trans k5
  (repeat (first|refine KW.go ?_|((first|apply qaw|apply qaz|apply qa1|apply qa4|apply qay|apply qax|apply qar|apply qal|apply qaj|apply qap)<;>first|(apply qam;(repeat' first|assumption|exact qaa rfl|apply qaf rfl|apply qab);done)|exact qao _ _|exact qai _|exact qan _|exact qad|exact qag|exact qae|exact qac|exact qah _|exact qau _ (by omega)|exact qat (by omega)|exact qas (by omega)|exact rfl|assumption|apply qav)|((first|apply qa3|apply qaq|apply qak)<;>first|(apply qam;(repeat' first|assumption|exact qaa rfl|apply qaf rfl|apply qab);done)|exact qao _ _|exact qai _|exact qan _|exact qad|exact qag|exact qae|exact qac|exact qah _|exact qau _ (by omega)|exact qat (by omega)|exact qas (by omega)|exact rfl|assumption|apply qav)|(apply qa2 rfl rfl;(focus (repeat' first|assumption|exact qaa rfl|apply qaf rfl|apply qab);done))|(apply qbj rfl rfl;(focus (repeat' first|assumption|exact qaa rfl|apply qaf rfl|apply qab);done);exact rfl)))
  apply O_makeSlice (n := pats.length) (bytes := 8)
  · (focus first|(apply qam;(repeat' first|assumption|exact qaa rfl|apply qaf rfl|apply qab);done)|exact qao _ _|exact qai _|exact qan _|exact qad|exact qag|exact qae|exact qac|exact qah _)
  · (focus first|(apply qam;(repeat' first|assumption|exact qaa rfl|apply qaf rfl|apply qab);done)|exact qao _ _|exact qai _|exact qan _|exact qad|exact qag|exact qae|exact qac|exact qah _)
  · rfl
  · omega
  · simp [room]; omega
  intro g6 qid k6 rq l7 l8
  replace r3 := r3.keep k6
  replace r4 := r4.keep k6
  replace r6 := r6.keep k6
  replace po3 := po3.keep k6
  replace so' := so'.keep k6
  have hq0 : RowInts g6 qid 0 0 true pats.length (qcx pats turn o 0) := by
    have e : acells (.int .i64 0) = [.int .i64 0] := rfl
    rw [e, repeat_zero] at rq
    refine ⟨_, rq, by simp, by rw [qcf]; omega, ?_⟩
    rw [turnOps_zero, hrl, hol]
    simp [ints]
  replace kk := kk.trans k6
  apply O_build (c' := [ov', .own qid 0 0 pats.length])
  · exact qbs (by (focus first|(apply qam;(repeat' first|assumption|exact qaa rfl|apply qaf rfl|apply qab);done)|exact qao _ _|exact qai _|exact qan _|exact qad|exact qag|exact qae|exact qac|exact qah _)) (qbs (by (focus first|(apply qam;(repeat' first|assumption|exact qaa rfl|apply qaf rfl|apply qab);done)|exact qao _ _|exact qai _|exact qan _|exact qad|exact qag|exact qae|exact qac|exact qah _)) qcc)
  · exact fillP so'.acells so'.known rfl
  apply qcj
  · (focus first|(apply qam;(repeat' first|assumption|exact qaa rfl|apply qaf rfl|apply qab);done)|exact qao _ _|exact qai _|exact qan _|exact qad|exact qag|exact qae|exact qac|exact qah _)
  · (focus first|(apply qam;(repeat' first|assumption|exact qaa rfl|apply qaf rfl|apply qab);done)|exact qao _ _|exact qai _|exact qan _|exact qad|exact qag|exact qae|exact qac|exact qah _)
  · exact r6
  · have h1 : ones [ov', .own qid 0 0 pats.length] = true := by simp [ones, so'.one, show one (.own qid 0 0 pats.length) = true from rfl]
    show (_ && _ && ones [ov', _]) = true
    rw [h1]; rfl
  intro g7 kb7 r7
  refine ⟨Undis.ahead (by kernel_rfl), ?_⟩
  change Row g7 i6 0 2 [ov', .own qid 0 0 pats.length] true at r7
  have h6i : h.next ≤ i6 := by have := k1.next; have := k2.next; omega
  have hi6 : ∀ j, j = i6 → h.get j = none := fun j hj => by subst hj; exact w.get h6i
  have kk7 : Keep h g7 := KeepBut.keep kk kb7 hi6
  have hqi : qid ≠ i6 := by have := k4.next; have := k5.next; omega
  have hg3 : g3.next ≤ g5.next := by have := k4.next; have := k5.next; omega
  have vo5 : ∀ j ∈ qb1 ov', j < g5.next ∧ g4.next ≤ j := fun j hj => ⟨so.lt w5 j hj, io j hj⟩
  have lpv : ∀ j ∈ qb1 pv, j < h.next := po.lt w
  have so7 := so'.keepBut kb7 (fun j hj e => by have := (vo5 j hj).2; have := k4.next; omega)
  have po7 := po3.keepBut kb7 (fun j hj e => by have := lpv j hj; omega)
  have r47 := r4.keepBut kb7 (by omega)
  have hq7 := hq0.keepBut kb7 hqi
  (repeat (first|refine KW.go ?_|((first|apply qaw|apply qaz|apply qa1|apply qa4|apply qay|apply qax|apply qar|apply qal|apply qaj|apply qap)<;>first|(apply qam;(repeat' first|assumption|exact qaa rfl|apply qaf rfl|apply qab);done)|exact qao _ _|exact qai _|exact qan _|exact qad|exact qag|exact qae|exact qac|exact qah _|exact qau _ (by omega)|exact qat (by omega)|exact qas (by omega)|exact rfl|assumption|apply qav)|((first|apply qa3|apply qaq|apply qak)<;>first|(apply qam;(repeat' first|assumption|exact qaa rfl|apply qaf rfl|apply qab);done)|exact qao _ _|exact qai _|exact qan _|exact qad|exact qag|exact qae|exact qac|exact qah _|exact qau _ (by omega)|exact qat (by omega)|exact qas (by omega)|exact rfl|assumption|apply qav)|(apply qa2 rfl rfl;(focus (repeat' first|assumption|exact qaa rfl|apply qaf rfl|apply qab);done))|(apply qbj rfl rfl;(focus (repeat' first|assumption|exact qaa rfl|apply qaf rfl|apply qab);done);exact rfl)))
  apply qbk (n := 2)
  · (focus first|(apply qam;(repeat' first|assumption|exact qaa rfl|apply qaf rfl|apply qab);done)|exact qao _ _|exact qai _|exact qan _|exact qad|exact qag|exact qae|exact qac|exact qah _)
  · exact r7
  · rfl
  · exact rfl
  (repeat (first|refine KW.go ?_|((first|apply qaw|apply qaz|apply qa1|apply qa4|apply qay|apply qax|apply qar|apply qal|apply qaj|apply qap)<;>first|(apply qam;(repeat' first|assumption|exact qaa rfl|apply qaf rfl|apply qab);done)|exact qao _ _|exact qai _|exact qan _|exact qad|exact qag|exact qae|exact qac|exact qah _|exact qau _ (by omega)|exact qat (by omega)|exact qas (by omega)|exact rfl|assumption|apply qav)|((first|apply qa3|apply qaq|apply qak)<;>first|(apply qam;(repeat' first|assumption|exact qaa rfl|apply qaf rfl|apply qab);done)|exact qao _ _|exact qai _|exact qan _|exact qad|exact qag|exact qae|exact qac|exact qah _|exact qau _ (by omega)|exact qat (by omega)|exact qas (by omega)|exact rfl|assumption|apply qav)|(apply qa2 rfl rfl;(focus (repeat' first|assumption|exact qaa rfl|apply qaf rfl|apply qab);done))|(apply qbj rfl rfl;(focus (repeat' first|assumption|exact qaa rfl|apply qaf rfl|apply qab);done);exact rfl)))
  (apply qb5; (focus first|(apply qam;(repeat' first|assumption|exact qaa rfl|apply qaf rfl|apply qab);done)|exact qao _ _|exact qai _|exact qan _|exact qad|exact qag|exact qae|exact qac|exact qah _); (repeat (apply qbb; (focus first|(apply qam;(repeat' first|assumption|exact qaa rfl|apply qaf rfl|apply qab);done)|exact qao _ _|exact qai _|exact qan _|exact qad|exact qag|exact qae|exact qac|exact qah _))); exact qbi)
  refine (each_spec S (by omega) po7.acells po7.known).mono ?_
  rintro v g8 ⟨k8, ip, iq, rfl, rp, rq', l9, l10⟩
  refine ⟨Undis.off rfl, ?_⟩
  replace r7 := r7.keep k8
  replace so7 := so7.keep k8
  replace po7 := po7.keep k8
  replace r47 := r47.keep k8
  replace hq7 := hq7.keep k8
  replace kk7 := kk7.trans k8
  apply O_wf
  intro w8
  (repeat (first|refine KW.go ?_|((first|apply qaw|apply qaz|apply qa1|apply qa4|apply qay|apply qax|apply qar|apply qal|apply qaj|apply qap)<;>first|(apply qam;(repeat' first|assumption|exact qaa rfl|apply qaf rfl|apply qab);done)|exact qao _ _|exact qai _|exact qan _|exact qad|exact qag|exact qae|exact qac|exact qah _|exact qau _ (by omega)|exact qat (by omega)|exact qas (by omega)|exact rfl|assumption|apply qav)|((first|apply qa3|apply qaq|apply qak)<;>first|(apply qam;(repeat' first|assumption|exact qaa rfl|apply qaf rfl|apply qab);done)|exact qao _ _|exact qai _|exact qan _|exact qad|exact qag|exact qae|exact qac|exact qah _|exact qau _ (by omega)|exact qat (by omega)|exact qas (by omega)|exact rfl|assumption|apply qav)|(apply qa2 rfl rfl;(focus (repeat' first|assumption|exact qaa rfl|apply qaf rfl|apply qab);done))|(apply qbj rfl rfl;(focus (repeat' first|assumption|exact qaa rfl|apply qaf rfl|apply qab);done);exact rfl)))
  refine R_gen (fun T => qbq T 4 = .ptr i4 0 0 ∧ qbq T 6 = .ptr i6 0 0 ∧ qbq T 51 = .func (.func 47) [] [.ptr ip 0 0, .ptr iq 0 0]) ⟨by (repeat' first|assumption|exact qaa rfl|apply qaf rfl|apply qab), by (repeat' first|assumption|exact qaa rfl|apply qaf rfl|apply qab), by (repeat' first|assumption|exact qaa rfl|apply qaf rfl|apply qab)⟩ ?_
  rintro T0 ⟨t4, t6, t51⟩
  apply R_rangeFunc (F := .func (.func 47) [] [.ptr ip 0 0, .ptr iq 0 0])
  · (focus first|(apply qam;(repeat' first|assumption|exact qaa rfl|apply qaf rfl|apply qab);done)|exact qao _ _|exact qai _|exact qan _|exact qad|exact qag|exact qae|exact qac|exact qah _)
  · rfl
  intro h2 lid k9 hl l11 l12
  have hrow := rp.keep k9
  have hroq := rq'.keep k9
  replace r7 := r7.keep k9
  replace so7 := so7.keep k9
  replace po7 := po7.keep k9
  replace r47 := r47.keep k9
  replace hq7 := hq7.keep k9
  replace kk7 := kk7.trans k9
  have n78 : g7.next ≤ g8.next := k8.next
  have n67 : g6.next ≤ g7.next := kb7.next
  have n56 : g5.next ≤ g6.next := k6.next
  have hipL : ip < g8.next := rp.lt w8
  have hiqL : iq < g8.next := rq'.lt w8
  have hon : ∀ i ∈ o, i < pats.length := fun i hi => by
    rw [← hro] at hi
    rcases List.mem_append.1 hi with q | q
    · exact hor i (List.mem_of_mem_drop q)
    · exact hor i (List.mem_of_mem_take q)
  have hop : ∀ i (hi : i < o.length) (hp : o[i] < pats.length), opAt pats turn o i = turnOp turn (qb4 (qbo pats o i) pats[o[i]]).length := fun i hi hp => by
    simp [opAt, hi, hp]
  obtain ⟨L, hL⟩ := hl.fam
  refine (each1_spec S (h := h2) (X := fun j => j = lid ∨ j = qid) (n := n) (order := o) (by omega) (by omega) (by omega) hrow hroq so7 po7 hon (fun j hj => by rcases hj with rfl | rfl <;> omega) (by rintro (q | q) <;> omega) (by rintro (q | q) <;> omega)
    (fun j hj q => by have := (vo5 j hj).1; rcases q with q | q <;> omega) (fun j hj q => by have := lpv j hj; have := k1.next; have := k2.next; have := k3.next; rcases q with q | q <;> omega)
    (fun i => qcx pats turn o i)
    (fun i g => KeepBut (fun j => j = lid ∨ j = qid ∨ h2.next ≤ j) h2 g ∧ L g .ready none ∧ RowInts g qid 0 0 true pats.length (qcx pats turn o i))
    (fun _ => False)
    ⟨KeepBut.refl _, (hL _ _ _).2 hl, hq7⟩
    (fun i g g' hi k => ⟨hi.1.trans (k.weaken fun j hj => .inr (.inr hj)), (hL _ _ _).2 (((hL _ _ _).1 hi.2.1).keepBut k (by omega)), hi.2.2.keepBut k (by omega)⟩)
    (fun i g hi => by
      have := hi.2.2.slv
      rw [qcf, hrl, hol] at this
      exact this)
    (fun i => qcf _ _ _ _) ?_).mono ?_
  · rintro i hi hp g m sv fv hm ⟨kp, hl2, hq⟩ ss sf
    obtain ⟨m, rfl⟩ : ∃ q, m = q + 1 := ⟨m - 1, by omega⟩
    replace hl2 := (hL _ _ _).1 hl2
    refine R_yield hl2 rfl ?_
    rw [aparams_cons, aparams_cons, aparams_nil]
    (repeat (first|refine KW.go ?_|((first|apply qaw|apply qaz|apply qa1|apply qa4|apply qay|apply qax|apply qar|apply qal|apply qaj|apply qap)<;>first|(apply qam;(repeat' first|assumption|exact qaa rfl|apply qaf rfl|apply qab);done)|exact qao _ _|exact qai _|exact qan _|exact qad|exact qag|exact qae|exact qac|exact qah _|exact qau _ (by omega)|exact qat (by omega)|exact qas (by omega)|exact rfl|assumption|apply qav)|((first|apply qa3|apply qaq|apply qak)<;>first|(apply qam;(repeat' first|assumption|exact qaa rfl|apply qaf rfl|apply qab);done)|exact qao _ _|exact qai _|exact qan _|exact qad|exact qag|exact qae|exact qac|exact qah _|exact qau _ (by omega)|exact qat (by omega)|exact qas (by omega)|exact rfl|assumption|apply qav)|(apply qa2 rfl rfl;(focus (repeat' first|assumption|exact qaa rfl|apply qaf rfl|apply qab);done))|(apply qbj rfl rfl;(focus (repeat' first|assumption|exact qaa rfl|apply qaf rfl|apply qab);done);exact rfl)))
    apply O_wf
    intro wg
    apply qdn
    intro g9 i9 k9' r9 l13 l14
    apply qcj
    · (focus first|(apply qam;(repeat' first|assumption|exact qaa rfl|apply qaf rfl|apply qab);done)|exact qao _ _|exact qai _|exact qan _|exact qad|exact qag|exact qae|exact qac|exact qah _)
    · (focus first|(apply qam;(repeat' first|assumption|exact qaa rfl|apply qaf rfl|apply qab);done)|exact qao _ _|exact qai _|exact qan _|exact qad|exact qag|exact qae|exact qac|exact qah _)
    · exact r9
    · have h1 := stepC_ones (place := (o[i] : Nat)) (op := (qcx pats turn o i)[i]'(by rw [qcf]; exact hi)) (p := pats[o[i]]) ss.one sf.one
      show (_ && _ && ones (stepC _ _ _ sv fv)) = true
      rw [h1]; rfl
    intro g10 kb10 r10
    refine ⟨Undis.off rfl, ?_⟩
    change Row g10 i9 0 19 (stepC (o[i] : Nat) ((qcx pats turn o i)[i]'(by rw [qcf]; exact hi)) pats[o[i]] sv fv) true at r10
    have k10 : Keep g g10 := KeepBut.keep k9' kb10 fun j hj => wg.get (by omega)
    have hlid := hl2.lt wg
    (repeat (first|refine KW.go ?_|((first|apply qaw|apply qaz|apply qa1|apply qa4|apply qay|apply qax|apply qar|apply qal|apply qaj|apply qap)<;>first|(apply qam;(repeat' first|assumption|exact qaa rfl|apply qaf rfl|apply qab);done)|exact qao _ _|exact qai _|exact qan _|exact qad|exact qag|exact qae|exact qac|exact qah _|exact qau _ (by omega)|exact qat (by omega)|exact qas (by omega)|exact rfl|assumption|apply qav)|((first|apply qa3|apply qaq|apply qak)<;>first|(apply qam;(repeat' first|assumption|exact qaa rfl|apply qaf rfl|apply qab);done)|exact qao _ _|exact qai _|exact qan _|exact qad|exact qag|exact qae|exact qac|exact qah _|exact qau _ (by omega)|exact qat (by omega)|exact qas (by omega)|exact rfl|assumption|apply qav)|(apply qa2 rfl rfl;(focus (repeat' first|assumption|exact qaa rfl|apply qaf rfl|apply qab);done))|(apply qbj rfl rfl;(focus (repeat' first|assumption|exact qaa rfl|apply qaf rfl|apply qab);done);exact rfl)))
    refine K_assign (hl2.keep k10) fun g11 kb11 hl11 => ?_
    have r11 := r10.keepBut kb11 (by omega)
    have ss11 := (ss.keep k10).keepBut kb11 ((ss.keep k10).ne_loop (hl2.keep k10))
    have hg2 : h2.next ≤ g.next := kp.next
    have kp11 : KeepBut (fun j => j = lid ∨ j = qid ∨ h2.next ≤ j) h2 g11 := (kp.trans (k10.but _)).trans (kb11.weaken fun j hj => .inl hj)
    have r7' := r7.keepBut kp11 (by omega)
    have r4' := r47.keepBut kp11 (by omega)
    have hq11 := (hq.keep k10).keepBut kb11 (by omega)
    (repeat (first|refine KW.go ?_|((first|apply qaw|apply qaz|apply qa1|apply qa4|apply qay|apply qax|apply qar|apply qal|apply qaj|apply qap)<;>first|(apply qam;(repeat' first|assumption|exact qaa rfl|apply qaf rfl|apply qab);done)|exact qao _ _|exact qai _|exact qan _|exact qad|exact qag|exact qae|exact qac|exact qah _|exact qau _ (by omega)|exact qat (by omega)|exact qas (by omega)|exact rfl|assumption|apply qav)|((first|apply qa3|apply qaq|apply qak)<;>first|(apply qam;(repeat' first|assumption|exact qaa rfl|apply qaf rfl|apply qab);done)|exact qao _ _|exact qai _|exact qan _|exact qad|exact qag|exact qae|exact qac|exact qah _|exact qau _ (by omega)|exact qat (by omega)|exact qas (by omega)|exact rfl|assumption|apply qav)|(apply qa2 rfl rfl;(focus (repeat' first|assumption|exact qaa rfl|apply qaf rfl|apply qab);done))|(apply qbj rfl rfl;(focus (repeat' first|assumption|exact qaa rfl|apply qaf rfl|apply qab);done);exact rfl)))
    (refine R_drawn [0, 1, 2, 3, 4, 5, 6, 7, 8, 9] [0, 1, 0, 0, 0, 16, 48, 120, 255, 511] (by kernel_rfl) (by kernel_rfl) (by rfl) ?_; dsimp only [qc1, List.map, List.getElem?_cons_zero, List.getElem?_cons_succ])
    (repeat (first|refine KW.go ?_|((first|apply qaw|apply qaz|apply qa1|apply qa4|apply qay|apply qax|apply qar|apply qal|apply qaj|apply qap)<;>first|(apply qam;(repeat' first|assumption|exact qaa rfl|apply qaf rfl|apply qab);done)|exact qao _ _|exact qai _|exact qan _|exact qad|exact qag|exact qae|exact qac|exact qah _|exact qau _ (by omega)|exact qat (by omega)|exact qas (by omega)|exact rfl|assumption|apply qav)|((first|apply qa3|apply qaq|apply qak)<;>first|(apply qam;(repeat' first|assumption|exact qaa rfl|apply qaf rfl|apply qab);done)|exact qao _ _|exact qai _|exact qan _|exact qad|exact qag|exact qae|exact qac|exact qah _|exact qau _ (by omega)|exact qat (by omega)|exact qas (by omega)|exact rfl|assumption|apply qav)|(apply qa2 rfl rfl;(focus (repeat' first|assumption|exact qaa rfl|apply qaf rfl|apply qab);done))|(apply qbj rfl rfl;(focus (repeat' first|assumption|exact qaa rfl|apply qaf rfl|apply qab);done);exact rfl)))
    (apply qb5; (focus first|(apply qam;(repeat' first|assumption|exact qaa rfl|apply qaf rfl|apply qab);done)|exact qao _ _|exact qai _|exact qan _|exact qad|exact qag|exact qae|exact qac|exact qah _); (repeat (apply qbb; (focus first|(apply qam;(repeat' first|assumption|exact qaa rfl|apply qaf rfl|apply qab);done)|exact qao _ _|exact qai _|exact qan _|exact qad|exact qag|exact qae|exact qac|exact qah _))); exact qbi)
    refine (turned1_spec (S' _ (by decide)) (by omega) _ _ _).mono ?_
    rintro v g12 ⟨rfl, rfl⟩
    refine ⟨(Keep.refl _).undis, ?_⟩
    rw [← hop i hi hp]
    obtain ⟨row, q1, q2, q3, q4⟩ := hq11
    rw [qcf, hrl, hol] at q3
    have hi' : i < pats.length := by omega
    apply O_indexAddr_own
    · (focus first|(apply qam;(repeat' first|assumption|exact qaa rfl|apply qaf rfl|apply qab);done)|exact qao _ _|exact qai _|exact qan _|exact qad|exact qag|exact qae|exact qac|exact qah _)
    · exact q1
    · (focus first|(apply qam;(repeat' first|assumption|exact qaa rfl|apply qaf rfl|apply qab);done)|exact qao _ _|exact qai _|exact qan _|exact qad|exact qag|exact qae|exact qac|exact qah _)
    · exact hi'
    · omega
    apply qcj
    · (focus first|(apply qam;(repeat' first|assumption|exact qaa rfl|apply qaf rfl|apply qab);done)|exact qao _ _|exact qai _|exact qan _|exact qad|exact qag|exact qae|exact qac|exact qah _)
    · (focus first|(apply qam;(repeat' first|assumption|exact qaa rfl|apply qaf rfl|apply qab);done)|exact qao _ _|exact qai _|exact qan _|exact qad|exact qag|exact qae|exact qac|exact qah _)
    · exact q1
    · simp [acells, ones, one]; omega
    intro g13 kb13 r13
    refine ⟨Undis.ahead (by kernel_rfl), ?_⟩
    have hs13 := RowInts.splice r13 (l := qcx pats turn o i) (by rw [qcf]; omega) q4 (by rw [qcf]; exact hi)
    rw [turnOps_set, q2] at hs13
    (repeat (first|refine KW.go ?_|((first|apply qaw|apply qaz|apply qa1|apply qa4|apply qay|apply qax|apply qar|apply qal|apply qaj|apply qap)<;>first|(apply qam;(repeat' first|assumption|exact qaa rfl|apply qaf rfl|apply qab);done)|exact qao _ _|exact qai _|exact qan _|exact qad|exact qag|exact qae|exact qac|exact qah _|exact qau _ (by omega)|exact qat (by omega)|exact qas (by omega)|exact rfl|assumption|apply qav)|((first|apply qa3|apply qaq|apply qak)<;>first|(apply qam;(repeat' first|assumption|exact qaa rfl|apply qaf rfl|apply qab);done)|exact qao _ _|exact qai _|exact qan _|exact qad|exact qag|exact qae|exact qac|exact qah _|exact qau _ (by omega)|exact qat (by omega)|exact qas (by omega)|exact rfl|assumption|apply qav)|(apply qa2 rfl rfl;(focus (repeat' first|assumption|exact qaa rfl|apply qaf rfl|apply qab);done))|(apply qbj rfl rfl;(focus (repeat' first|assumption|exact qaa rfl|apply qaf rfl|apply qab);done);exact rfl)))
    refine K_round_end (hl11.keepBut kb13 (by omega)) fun g14 kb14 hl14 => ⟨true, rfl, ?_, fun _ => ⟨?_, (hL _ _ _).2 hl14, hs13.keepBut kb14 (by omega)⟩, fun c => (by cases c)⟩
    · exact (((k10.but _).trans (kb11.weaken fun j hj => .inl hj)).trans (kb13.weaken fun j hj => .inr hj)).trans (kb14.weaken fun j hj => .inl hj)
    · exact (kp11.trans (kb13.weaken fun j hj => .inr (.inl hj))).trans (kb14.weaken fun j hj => .inl hj)
  · rintro _ g ⟨kp, hI | hS⟩
    · obtain ⟨kp1, hl1, hq⟩ := hI
      refine ⟨.ready, none, (hL _ _ _).1 hl1, rfl, fun g15 kb => after_none ?_⟩
      have kp2 : KeepBut (fun j => j = lid ∨ j = qid ∨ h2.next ≤ j) h2 g15 := kp1.trans (kb.weaken fun j hj => .inl hj)
      have r15 := r7.keepBut kp2 (by omega)
      have so15 := so7.keepBut kp2 (fun j hj q => by have := (vo5 j hj).1; rcases q with q | q | q <;> omega)
      have q15 := hq.keepBut kb (by omega)
      have hgh : g1.next ≤ g5.next := by have := k2.next; have := k3.next; omega
      have kf : Keep h g15 := KeepBut.keep kk7 kp2 fun j hj => w.get (by have := k1.next; rcases hj with q | q | q <;> omega)
      (repeat (first|refine KW.go ?_|((first|apply qaw|apply qaz|apply qa1|apply qa4|apply qay|apply qax|apply qar|apply qal|apply qaj|apply qap)<;>first|(apply qam;(repeat' first|assumption|exact qaa rfl|apply qaf rfl|apply qab);done)|exact qao _ _|exact qai _|exact qan _|exact qad|exact qag|exact qae|exact qac|exact qah _|exact qau _ (by omega)|exact qat (by omega)|exact qas (by omega)|exact rfl|assumption|apply qav)|((first|apply qa3|apply qaq|apply qak)<;>first|(apply qam;(repeat' first|assumption|exact qaa rfl|apply qaf rfl|apply qab);done)|exact qao _ _|exact qai _|exact qan _|exact qad|exact qag|exact qae|exact qac|exact qah _|exact qau _ (by omega)|exact qat (by omega)|exact qas (by omega)|exact rfl|assumption|apply qav)|(apply qa2 rfl rfl;(focus (repeat' first|assumption|exact qaa rfl|apply qaf rfl|apply qab);done))|(apply qbj rfl rfl;(focus (repeat' first|assumption|exact qaa rfl|apply qaf rfl|apply qab);done);exact rfl)))
      apply qbk (n := 2)
      · (focus first|(apply qam;(repeat' first|assumption|exact qaa rfl|apply qaf rfl|apply qab);done)|exact qao _ _|exact qai _|exact qan _|exact qad|exact qag|exact qae|exact qac|exact qah _)
      · exact r15
      · rfl
      · exact rfl
      apply qcj
      · (focus first|(apply qam;(repeat' first|assumption|exact qaa rfl|apply qaf rfl|apply qab);done)|exact qao _ _|exact qai _|exact qan _|exact qad|exact qag|exact qae|exact qac|exact qah _)
      · (focus first|(apply qam;(repeat' first|assumption|exact qaa rfl|apply qaf rfl|apply qab);done)|exact qao _ _|exact qai _|exact qan _|exact qad|exact qag|exact qae|exact qac|exact qah _)
      · exact r15
      · have h1 : ones [ov', .own qid 0 0 pats.length] = true := by simp [ones, so'.one, show one (.own qid 0 0 pats.length) = true from rfl]
        show (_ && _ && ones [ov', _]) = true
        rw [h1]; rfl
      intro g16 kb16 r16
      refine ⟨Undis.off rfl, ?_⟩
      (repeat (first|refine KW.go ?_|((first|apply qaw|apply qaz|apply qa1|apply qa4|apply qay|apply qax|apply qar|apply qal|apply qaj|apply qap)<;>first|(apply qam;(repeat' first|assumption|exact qaa rfl|apply qaf rfl|apply qab);done)|exact qao _ _|exact qai _|exact qan _|exact qad|exact qag|exact qae|exact qac|exact qah _|exact qau _ (by omega)|exact qat (by omega)|exact qas (by omega)|exact rfl|assumption|apply qav)|((first|apply qa3|apply qaq|apply qak)<;>first|(apply qam;(repeat' first|assumption|exact qaa rfl|apply qaf rfl|apply qab);done)|exact qao _ _|exact qai _|exact qan _|exact qad|exact qag|exact qae|exact qac|exact qah _|exact qau _ (by omega)|exact qat (by omega)|exact qas (by omega)|exact rfl|assumption|apply qav)|(apply qa2 rfl rfl;(focus (repeat' first|assumption|exact qaa rfl|apply qaf rfl|apply qab);done))|(apply qbj rfl rfl;(focus (repeat' first|assumption|exact qaa rfl|apply qaf rfl|apply qab);done);exact rfl)))
      apply R_res_agg rfl (c' := [ov', .own qid 0 0 pats.length])
      · (repeat' first|assumption|exact qaa rfl|apply qaf rfl|apply qab)
      · exact r16
      · rfl
      · rfl
      refine ⟨KeepBut.keep kf kb16 hi6, ov', qid, rfl, so15.keepBut kb16 (fun j hj e => by have := (vo5 j hj).2; have := k4.next; omega), go', vo, fun j hj => ?_, by have := k1.next; omega, ?_⟩
      · have := vo5 j hj
        have := k1.next; have := k2.next; have := k3.next; have := k4.next
        exact ⟨by omega, by omega⟩
      · have := q15.keepBut kb16 hqi
        rw [hrl, hol] at this
        exact this
    · exact hS.elim
end Go.Am
namespace Go.Am
open Go Go.Proofs AM
set_option maxRecDepth 10000

theorem mayZ_opZ (x : Sts) (known : List Str) (p : Ptn) : mayZ (opZ x known p) (qb4 known p).length = true := by
  unfold opZ
  by_cases h0 : (qb4 known p).length = 0
  · rw [if_pos h0]; simp [mayZ]
  · rw [if_neg h0]
    by_cases h1 : guessZ x p [] ≤ 64
    · rw [if_pos h1]; simp [mayZ]; omega
    · rw [if_neg h1]
      by_cases h2 : (qb4 known p).length = 1
      · rw [if_pos h2, h2]; simp [mayZ]
      · rw [if_neg h2]; simp [mayZ]
theorem mayZ_turn (turn : Int) (k : Nat) : mayZ (turnOp turn k) k = true := by
  unfold turnOp
  split
  · simp [mayZ]
  · rename_i h
    split
    · rename_i h2; subst h2; simp [mayZ]
    · simp [mayZ]; omega

theorem sortZ_range {l : List Int} {n : Nat} (p : l.Perm (zs (List.range n))) : qc8 l = zs (List.range n) := by
  refine sorted_one ((sortZ_perm l).trans p) (sortZ_sorted l) ?_
  unfold zs
  rw [List.pairwise_map]
  exact pw_turn (List.pairwise_lt_range (n := n)) fun a b h => by omega
theorem wholeZ_perm {o : List Nat} {n : Nat} (p : o.Perm (List.range n)) : wholeZ (zs o) n = true := by
  have hl : o.length = n := by have := p.length_eq; simpa using this
  have : qc8 (zs o) = zs (List.range n) := sortZ_range (p.map _)
  simp [wholeZ, this, hl]

theorem filter_nodup {left : List Nat} {i : Nat} (hn : left.Nodup) (hi : i ∈ left) : (i :: left.filter (· ≠ i)).Perm left := by
  induction left with
  | nil => cases hi
  | cons a l ih =>
    obtain ⟨h1, h2⟩ := List.nodup_cons.1 hn
    by_cases e : a = i
    · subst e
      have : l.filter (· ≠ a) = l := List.filter_eq_self.2 fun b hb => by
        have : b ≠ a := fun q => h1 (q ▸ hb)
        simpa using this
      simp only [List.filter_cons, ne_eq, not_true, decide_false, Bool.false_eq_true, if_false]
      simp only [ne_eq] at this
      rw [this]
    · have hi' : i ∈ l := by rcases List.mem_cons.1 hi with q | q; exact absurd q.symm e; exact q
      have := ih h2 hi'
      simp only [List.filter_cons, e, ne_eq, not_false_eq_true, decide_true, if_true]
      simp only [ne_eq] at this
      exact (List.Perm.swap _ _ _).trans (this.cons a)

theorem ofLoop_ok (x : Sts) (pats : List Ptn) : ∀ (n : Nat) (known : List Str) (left : List Nat), left.length = n → left.Nodup → (∀ i ∈ left, i < pats.length) →
    (qde x pats n known left).1.Perm left ∧ (qde x pats n known left).2.length = n ∧
    ∀ i j op, (qde x pats n known left).1[i]? = some j → (qde x pats n known left).2[i]? = some op → ∃ p, pats[j]? = some p ∧ op = opZ x (((qde x pats n known left).1.take i).foldl (fun k j => match pats[j]? with | some p => learnZ k p | none => k) known) p
  | 0, known, left, h, _, _ => by
    have : left = [] := List.length_eq_zero_iff.1 h
    subst this
    exact ⟨.refl _, rfl, fun i j op h1 _ => by simp [qde] at h1⟩
  | n + 1, known, left, h, hn, hp => by
    have hne : left ≠ [] := by rintro rfl; cases h
    obtain ⟨i, hi, hpk⟩ := pickZ_mem (x := x) (pats := pats) (known := known) hne
    have hip := hp i hi
    have hst := ofLoop_step x pats hi hip hpk hp
    rw [h] at hst
    have hpm := filter_nodup hn hi
    have hfl : (left.filter (· ≠ i)).length = n := by have := hpm.length_eq; simp at this ⊢; omega
    rw [hfl] at hst
    rw [hst]
    obtain ⟨a1, a2, a3⟩ := ofLoop_ok x pats n (learnZ known pats[i]) (left.filter (· ≠ i)) hfl (hn.filter _) (fun j hj => hp j (List.mem_filter.1 hj).1)
    refine ⟨(a1.cons i).trans hpm, by rw [List.length_cons, a2], fun k j op h1 h2 => ?_⟩
    cases k with
    | zero =>
      simp only [List.getElem?_cons_zero, Option.some.injEq] at h1 h2
      subst h1 h2
      exact ⟨pats[i], List.getElem?_eq_getElem hip, rfl⟩
    | succ k =>
      simp only [List.getElem?_cons_succ] at h1 h2
      obtain ⟨p, b1, b2⟩ := a3 k j op h1 h2
      refine ⟨p, b1, ?_⟩
      rw [b2]
      simp only [List.take_succ_cons, List.foldl_cons, List.getElem?_eq_getElem hip]
theorem planZ_ok (x : Sts) (pats : List Ptn) : (qdv x pats).1.Perm (List.range pats.length) ∧ (qdv x pats).2.length = pats.length ∧ qcw pats (zs (qdv x pats).1) (qdv x pats).2 = true := by
  obtain ⟨a1, a2, a3⟩ := ofLoop_ok x pats pats.length [] (List.range pats.length) (by simp) List.nodup_range (fun i hi => List.mem_range.1 hi)
  refine ⟨a1, a2, ?_⟩
  have hl : (qdv x pats).1.length = pats.length := by have := a1.length_eq; simpa [qdv] using this
  have ho : (qdv x pats).2.length = pats.length := a2
  simp only [qcw, Bool.and_eq_true, List.all_eq_true]
  refine ⟨⟨wholeZ_perm a1, by simpa using ho⟩, fun i hi => ?_⟩
  have hi := List.mem_range.1 hi
  rw [zs_toNat]
  have h1 : (qdv x pats).1[i]? = some ((qdv x pats).1[i]'(by omega)) := List.getElem?_eq_getElem _
  have h2 : (qdv x pats).2[i]? = some ((qdv x pats).2[i]'(by omega)) := List.getElem?_eq_getElem _
  obtain ⟨p, b1, b2⟩ := a3 i _ _ h1 h2
  unfold stepOk
  rw [h1, h2]
  dsimp only
  rw [b1]
  dsimp only
  rw [b2]
  exact mayZ_opZ _ _ _
theorem rot_perm (o : List Nat) (k : Nat) : (rot o k).Perm o := by
  unfold rot
  exact (List.perm_append_comm).trans (by rw [List.take_append_drop])
theorem turn_ok (pats : List Ptn) (turn : Int) {o : List Nat} (p : o.Perm (List.range pats.length)) : qcw pats (zs o) (qcx pats turn o pats.length) = true := by
  have hl : o.length = pats.length := by have := p.length_eq; simpa using this
  simp only [qcw, Bool.and_eq_true, List.all_eq_true]
  refine ⟨⟨wholeZ_perm p, by simp [qcf, hl]⟩, fun i hi => ?_⟩
  have hi := List.mem_range.1 hi
  rw [zs_toNat]
  have hio : i < o.length := by omega
  have hj : o[i] < pats.length := List.mem_range.1 (p.mem_iff.1 (List.getElem_mem hio))
  unfold stepOk
  rw [List.getElem?_eq_getElem hio]
  have h2 : (qcx pats turn o pats.length)[i]? = some (opAt pats turn o i) := by
    simp [qcx, hio, hi]
  rw [h2]
  dsimp only
  rw [List.getElem?_eq_getElem hj]
  dsimp only
  have : opAt pats turn o i = turnOp turn (qb4 (qbo pats o i) pats[o[i]]).length := by simp [opAt, hio, hj]
  rw [this]
  exact mayZ_turn _ _
end Go.Am
namespace Go.Am
open Go Go.Proofs AM
set_option maxRecDepth 10000

def isTrueR : Option (AV × Hp) → Bool
  | some (.bool true, _) => true
  | _ => false
theorem awake_run : isTrueR ((qbt Try.prog pol27 sums27 3000 (.func (.func 6) [] []) []).run ⟨.leaf, 1⟩) = true := by kernel_rfl
theorem s27' : S27' pol27 sums27 := { s27 with list := rfl, sort := rfl, grow := rfl }

theorem right_twice {pats : List Ptn} {o : List Nat} {ops : List Int} (h2 : 2 ≤ o.length) : qcw pats ((zs o).set 0 ((zs o)[o.length - 1]'(by simp; omega))) ops = false := by
  cases hq : qcw pats ((zs o).set 0 ((zs o)[o.length - 1]'(by simp; omega))) ops with
  | false => rfl
  | true =>
    exfalso
    simp only [qcw, Bool.and_eq_true] at hq
    obtain ⟨o2, h1, _, h3, h4⟩ := wholeZ_true hq.1.1
    have hn : o2.Nodup := h4.nodup_iff.2 List.nodup_range
    have hl : o2.length = o.length := by have := congrArg List.length h1; simpa using this.symm
    have e1 : ((zs o).set 0 ((zs o)[o.length - 1]'(by simp; omega)))[0]? = ((zs o).set 0 ((zs o)[o.length - 1]'(by simp; omega)))[o.length - 1]? := by
      rw [List.getElem?_set_self (by simp; omega), List.getElem?_set_ne (by omega), List.getElem?_eq_getElem (by simp; omega)]
    rw [h1] at e1
    have a1 : 0 < o2.length := by omega
    have a2 : o.length - 1 < o2.length := by omega
    simp only [zs, List.getElem?_map, List.getElem?_eq_getElem a1, List.getElem?_eq_getElem a2, Option.map_some, Option.some.injEq] at e1
    have e2 : o2[0] = o2[o.length - 1] := by omega
    exact List.pairwise_iff_getElem.1 hn 0 (o.length - 1) a1 a2 (by omega) e2
theorem right_less {pats : List Ptn} {order ops : List Int} (h : order.length ≠ pats.length) : qcw pats order ops = false := by
  simp [qcw, wholeZ, h]
theorem right_none {pats : List Ptn} {o : List Nat} {ops : List Int} (h : 0 < pats.length) (ho : ops.length = pats.length) : qcw pats (zs o) (ops.set (pats.length - 1) 4) = false := by
  cases hq : qcw pats (zs o) (ops.set (pats.length - 1) 4) with
  | false => rfl
  | true =>
    exfalso
    simp only [qcw, Bool.and_eq_true, List.all_eq_true] at hq
    have := hq.2 (pats.length - 1) (List.mem_range.2 (by omega))
    rw [zs_toNat] at this
    unfold stepOk at this
    rw [List.getElem?_set, if_pos rfl, if_pos (by omega)] at this
    cases ho2 : o[pats.length - 1]? with
    | none => rw [ho2] at this; cases this
    | some j =>
      rw [ho2] at this
      dsimp only at this
      cases hp : pats[j]? with
      | none => rw [hp] at this; cases this
      | some p => rw [hp] at this; simp [mayZ] at this
theorem right_first {pats : List Ptn} {o : List Nat} {ops : List Int} (h : 0 < pats.length) (ho : ops.length = pats.length) : qcw pats (zs o) (ops.set 0 2) = false := by
  cases hq : qcw pats (zs o) (ops.set 0 2) with
  | false => rfl
  | true =>
    exfalso
    simp only [qcw, Bool.and_eq_true, List.all_eq_true] at hq
    have := hq.2 0 (List.mem_range.2 (by omega))
    rw [zs_toNat] at this
    unfold stepOk at this
    rw [List.getElem?_set, if_pos rfl, if_pos (by omega)] at this
    cases ho2 : o[0]? with
    | none => rw [ho2] at this; cases this
    | some j =>
      rw [ho2] at this
      dsimp only at this
      cases hp : pats[j]? with
      | none => rw [hp] at this; cases this
      | some p => rw [hp] at this; simp [mayZ, qbo, qb4] at this

theorem awake_spec {h : Hp} (hn : h.next = 1) : Runs (qbt Try.prog pol27 sums27 3000 (.func (.func 6) [] []) []) h (fun v h' => Keep h h' ∧ v = .bool true) := fun w => by
  have hr := awake_run
  cases hq : (qbt Try.prog pol27 sums27 3000 (.func (.func 6) [] []) []).run ⟨.leaf, 1⟩ with
  | none => rw [hq] at hr; cases hr
  | some p =>
    obtain ⟨v, h'⟩ := p
    rw [hq] at hr
    have hleaf : ∀ id, (⟨.leaf, 1⟩ : Hp).get id = none := fun id => Tm.get_leaf id
    have hv : v = .bool true := by
      cases v <;> first | cases hr | skip
      rename_i b
      cases b
      · cases hr
      · rfl
    subst hv
    obtain ⟨_, b⟩ := (qbt Try.prog pol27 sums27 3000 (.func (.func 6) [] []) []).good.2 _ _ _ hq (fun id _ _ => hleaf id)
    obtain ⟨g, e1, e2, e3⟩ := b h hn (fun id o ho => by rw [hleaf] at ho; cases ho)
    have hd := ((qbt Try.prog pol27 sums27 3000 (.func (.func 6) [] []) []).good.1 _ _ _ hq).next
    refine ⟨_, g, e1, ⟨fun id o ho => ?_, ?_⟩, rfl⟩
    · have := w id o ho
      rw [e3 id, if_neg, ho]
      rintro (q | q)
      · rw [hleaf] at q; cases q
      · have q1 : 1 ≤ id := q.1
        omega
    · rw [e2, hn]; exact hd
end Go.Am
namespace Go.Am
open Go Go.Proofs AM RowKit ChangeShapes WideShapes Deep
set_option maxRecDepth 10000

inductive Leaf where
  | int (k : IntKind)
  | str
/-- what kind of cell stands at a place of a type's values -/
def leafAt (P : Program) : Nat → TypeId → Nat → Option Leaf
  | 0, _, _ => none
  | n + 1, t, i => match P.underlying t with
    | some (.int k) => cond (Nat.beq i 0) (some (.int k)) none
    | some .string => cond (Nat.beq i 0) (some .str) none
    | some (.struct fs) => match fs.toList.find? (fun f => Nat.ble f.offset i && Nat.blt i (f.offset + P.cellsOf f.type)) with
      | some f => leafAt P n f.type (i - f.offset)
      | none => none
    | _ => none
def fits : Leaf → Value → Prop
  | .int k, v => ∃ n, v = .int k n
  | .str, v => ∃ s, v = .string s
section
variable {H : Type} {enc : TypeId × Value → H} {P : Program} {w : World} {base : Nat} {spare : Nat → Bool} {held : Bool}
theorem leaf_ok : ∀ (n : Nat) {fuel : Nat} {t : TypeId} {cs : List Value} {x : DataW H × List MemPlace} {i : Nat} {κ : Leaf}, DataW.trod enc P w base spare held fuel t cs = some x → leafAt P n t i = some κ → ∃ c, cs[i]? = some c ∧ fits κ c := by
  intro n
  induction n with
  | zero => intro fuel t cs x i κ _ h; cases h
  | succ n ih =>
    intro fuel t cs x i κ h hl
    simp only [leafAt] at hl
    cases hu : P.underlying t with
    | none => rw [hu] at hl; cases hl
    | some d =>
      rw [hu] at hl
      cases d <;> first | cases hl | skip
      · rename_i k
        cases hi : Nat.beq i 0 with
        | false => rw [hi] at hl; cases hl
        | true =>
          obtain rfl := Nat.eq_of_beq_eq_true hi
          rw [hi] at hl; cases hl
          obtain ⟨m, rfl, _⟩ := DataW.trod_int hu h
          exact ⟨_, rfl, m, rfl⟩
      · cases hi : Nat.beq i 0 with
        | false => rw [hi] at hl; cases hl
        | true =>
          obtain rfl := Nat.eq_of_beq_eq_true hi
          rw [hi] at hl; cases hl
          obtain ⟨m, rfl, _⟩ := DataW.trod_string hu h
          exact ⟨_, rfl, m, rfl⟩
      · rename_i fs
        dsimp only at hl
        cases hf : fs.toList.find? (fun f => Nat.ble f.offset i && Nat.blt i (f.offset + P.cellsOf f.type)) with
        | none => rw [hf] at hl; cases hl
        | some f =>
          rw [hf] at hl
          have hfm := List.mem_of_find?_eq_some hf
          have hfp := List.find?_some hf
          simp only [Bool.and_eq_true, Nat.blt_eq, Nat.ble_eq] at hfp
          obtain ⟨xs, m, _, _, hlen, hxl, hg⟩ := DataW.trod_struct hu h
          obtain ⟨j, hj, hjf⟩ := List.getElem_of_mem hfm
          have hja : fs[j]? = some f := by rw [← hjf]; simp
          have h1 := hg j f hja
          have hjx : j < xs.length := by rw [hxl]; simpa using hj
          rw [List.getElem?_eq_getElem hjx] at h1
          obtain ⟨c, hc, hfit⟩ := ih h1 hl
          refine ⟨c, ?_, hfit⟩
          rw [List.getElem?_take, if_pos (by omega), List.getElem?_drop] at hc
          rw [← hc]
          congr 1; omega
end

theorem qdy {H : Type} {enc : TypeId × Value → H} {P : Program} {w : World} {base : Nat} {spare : Nat → Bool} {held : Bool} (n : Nat) {fuel : Nat} {t : TypeId} {cs : List Value} {x : DataW H × List MemPlace} {k : IntKind} (i : Nat) (h : DataW.trod enc P w base spare held fuel t cs = some x) (hl : leafAt P n t i = some (.int k)) : ∃ m, cs[i]? = some (.int k m) := by
  obtain ⟨c, h1, m, rfl⟩ := leaf_ok n h hl; exact ⟨m, h1⟩
theorem qc4 {H : Type} {enc : TypeId × Value → H} {P : Program} {w : World} {base : Nat} {spare : Nat → Bool} {held : Bool} (n : Nat) {fuel : Nat} {t : TypeId} {cs : List Value} {x : DataW H × List MemPlace} (i : Nat) (h : DataW.trod enc P w base spare held fuel t cs = some x) (hl : leafAt P n t i = some .str) : ∃ m, cs[i]? = some (.string m) := by
  obtain ⟨c, h1, m, rfl⟩ := leaf_ok n h hl; exact ⟨m, h1⟩

/-- cells that are as those of an abstract value -/
def Cells (av : List AV) (cs : List Value) : Prop := ∀ (h : Hp) (μ : Nat → Nat) (w : World), VRs h μ w av cs
theorem Cells.nil : Cells [] [] := fun _ _ _ => VRs.nil
theorem Cells.int {k : IntKind} {n : Int} {av : List AV} {cs : List Value} (c : Cells av cs) : Cells (.int k n :: av) (.int k n :: cs) := fun h μ w => VRs.cons (.int _ _) (c h μ w)
theorem Cells.str {s : ByteArray} {av : List AV} {cs : List Value} (c : Cells av cs) : Cells (.str s.data.toList :: av) (.string s :: cs) := fun h μ w => VRs.cons (.str _ _ rfl) (c h μ w)
theorem Cells.append {av av' : List AV} {cs cs' : List Value} (c : Cells av cs) (d : Cells av' cs') : Cells (av ++ av') (cs ++ cs') := fun h μ w => (c h μ w).append (d h μ w)

section
variable {H : Type} {enc : TypeId × Value → H} {w : World} {base : Nat} {spare : Nat → Bool} {held : Bool} {fuel : Nat} {cs : List Value} {x : DataW H × List MemPlace}
theorem open_ptn (h : DataW.trod enc Try.prog w base spare held fuel 48 cs = some x) (hl : cs.length = 15) : ∃ p : Ptn, Cells (ptnC p) cs := by
  obtain ⟨c0, e0⟩ := qc4 9 0 h (by kernel_rfl)
  obtain ⟨c1, e1⟩ := qdy (k := .i64) 9 1 h (by kernel_rfl)
  obtain ⟨c2, e2⟩ := qc4 9 2 h (by kernel_rfl)
  obtain ⟨c3, e3⟩ := qc4 9 3 h (by kernel_rfl)
  obtain ⟨c4, e4⟩ := qc4 9 4 h (by kernel_rfl)
  obtain ⟨c5, e5⟩ := qc4 9 5 h (by kernel_rfl)
  obtain ⟨c6, e6⟩ := qdy (k := .i64) 9 6 h (by kernel_rfl)
  obtain ⟨c7, e7⟩ := qc4 9 7 h (by kernel_rfl)
  obtain ⟨c8, e8⟩ := qc4 9 8 h (by kernel_rfl)
  obtain ⟨c9, e9⟩ := qc4 9 9 h (by kernel_rfl)
  obtain ⟨c10, e10⟩ := qc4 9 10 h (by kernel_rfl)
  obtain ⟨c11, e11⟩ := qdy (k := .i64) 9 11 h (by kernel_rfl)
  obtain ⟨c12, e12⟩ := qc4 9 12 h (by kernel_rfl)
  obtain ⟨c13, e13⟩ := qc4 9 13 h (by kernel_rfl)
  obtain ⟨c14, e14⟩ := qc4 9 14 h (by kernel_rfl)
  match cs, hl with
  | [d0, d1, d2, d3, d4, d5, d6, d7, d8, d9, d10, d11, d12, d13, d14], _ =>
    simp only [List.getElem?_cons_zero, List.getElem?_cons_succ, Option.some.injEq] at *
    subst e0 e1 e2 e3 e4 e5 e6 e7 e8 e9 e10 e11 e12 e13 e14
    exact ⟨⟨⟨c0.data.toList, ⟨c1, c2.data.toList, c3.data.toList, c4.data.toList⟩⟩, ⟨c5.data.toList, ⟨c6, c7.data.toList, c8.data.toList, c9.data.toList⟩⟩, ⟨c10.data.toList, ⟨c11, c12.data.toList, c13.data.toList, c14.data.toList⟩⟩⟩,
      .str (.int (.str (.str (.str (.str (.int (.str (.str (.str (.str (.int (.str (.str (.str .nil))))))))))))))⟩
theorem open_lin (h : DataW.trod enc Try.prog w base spare held fuel 52 cs = some x) (hl : cs.length = 7) : ∃ p : Lin, Cells (linC p) cs := by
  obtain ⟨c0, e0⟩ := qdy (k := .i64) 9 0 h (by kernel_rfl)
  obtain ⟨c1, e1⟩ := qc4 9 1 h (by kernel_rfl)
  obtain ⟨c2, e2⟩ := qc4 9 2 h (by kernel_rfl)
  obtain ⟨c3, e3⟩ := qc4 9 3 h (by kernel_rfl)
  obtain ⟨c4, e4⟩ := qdy (k := .i64) 9 4 h (by kernel_rfl)
  obtain ⟨c5, e5⟩ := qdy (k := .i64) 9 5 h (by kernel_rfl)
  obtain ⟨c6, e6⟩ := qdy (k := .i64) 9 6 h (by kernel_rfl)
  match cs, hl with
  | [d0, d1, d2, d3, d4, d5, d6], _ =>
    simp only [List.getElem?_cons_zero, List.getElem?_cons_succ, Option.some.injEq] at *
    subst e0 e1 e2 e3 e4 e5 e6
    exact ⟨⟨⟨c0, c1.data.toList, c2.data.toList, c3.data.toList⟩, c4, c5, c6⟩, .int (.str (.str (.str (.int (.int (.int .nil))))))⟩

/-- a slice of structs, as it comes in -/
theorem open_rows {α : Type} {f : α → List AV} {sz : Nat} {t e : TypeId} (hf : ∀ a, (f a).length = sz) (ht : Try.prog.underlying t = some (.slice e)) (hc : Try.prog.cellsOf e = sz)
    (hopen : ∀ {fuel : Nat} {cs : List Value} {x : DataW H × List MemPlace}, DataW.trod enc Try.prog w base spare held fuel e cs = some x → cs.length = sz → ∃ a, Cells (f a) cs)
    (h : DataW.trod enc Try.prog w base spare held fuel t cs = some x) : ∃ (v : Value) (l : List α), cs = [v] ∧ VR Hp.none id w (.sl .any l.length (qc3 f l)) v := by
  rcases open_slice ht h with ⟨rfl, _⟩ | ⟨a, len, cap, m, n, D, Pl, rfl, hb, hl, hm, hmm, hx, hi⟩
  · exact ⟨_, [], rfl, .sl .any 0 [] none 0 [] (Nat.le_refl _) (by simp) (by simp) (by simp) (by simp) (by simp) rfl (by simp) (by simp) (by simp)⟩
  · have hlm : len ≤ m := by rw [hmm]; split <;> omega
    rw [hc] at hi
    have key : ∀ k, k ≤ len → ∃ (l : List α) (cs : List Value), l.length = k ∧ Cells (qc3 f l) cs ∧ cs.length = k * sz ∧ ∀ i (hi : i < cs.length), w.cell? (a.add i) = some cs[i] := by
      intro k
      induction k with
      | zero => intro _; exact ⟨[], [], rfl, .nil, by simp, fun i hi => by cases hi⟩
      | succ k ih =>
        intro hk
        obtain ⟨l, cs, h1, h2, h3, h4⟩ := ih (by omega)
        obtain ⟨cs', h5, h6⟩ := hi k (by omega)
        obtain ⟨_, h7, h8⟩ := World.cells?_some h5
        obtain ⟨p, h9⟩ := hopen h6 h7
        refine ⟨l ++ [p], cs ++ cs', by simp [h1], ?_, by simp [h3, h7, Nat.succ_mul], fun i hi => ?_⟩
        · have : qc3 f (l ++ [p]) = qc3 f l ++ f p := by simp [qc3]
          rw [this]; exact h2.append h9
        · by_cases hlt : i < cs.length
          · rw [List.getElem_append_left hlt]; exact h4 i hlt
          · have hi' : i - cs.length < cs'.length := by simp at hi; omega
            rw [List.getElem_append_right (by omega)]
            have := h8 (i - cs.length) (by omega)
            rw [List.getElem?_eq_getElem hi', add_of_add] at this
            rw [← this]
            congr 2; omega
    obtain ⟨l, cs, h1, h2, h3, h4⟩ := key len (Nat.le_refl _)
    have hvr := h2 Hp.none id w
    refine ⟨_, l, rfl, ?_⟩
    rw [h1]
    refine .sl .any len (qc3 f l) (some a) cap cs hl (by simp) (by simp) (by simp) (by simp) (fun ad e hne => ?_) hvr.1 (by simp) (fun ad e i hi => by cases e; exact h4 i hi) hvr.2
    cases e
    refine ⟨fun ⟨i, o, ho, _⟩ => (by rw [Hp.none_get] at ho; cases ho), ?_⟩
    have hcl : 0 < cs.length := by rw [← hvr.1]; exact List.length_pos_iff.2 hne
    have := h4 0 hcl
    unfold World.cell? at this
    cases hq : w.heap[(a.add 0).block]? with
    | none => simp only [hq] at this; cases this
    | some o => rw [qd2] at hq; exact (Array.getElem?_eq_some_iff.1 hq).1
end
end Go.Am
namespace Go.Proofs.Ytallboljaphbpaa
open Go Go.Am Go.ChangeShapes Go.WideShapes Go.ChangeAt Go.RowKit
set_option maxRecDepth 100000

theorem Try.own : ownKnob Try.prog.godebug = none := by kernel_rfl
theorem Try.laidOut : laidOutB Try.prog = true := by kernel_rfl

section
variable {H : Type} {enc : TypeId × Value → H} {w : World}
/-- stats, as they come in -/
theorem open_stats {b0 : Nat} {v : Value} {d : DataW H} {p : List MemPlace} (hv : Value.okWide Try.prog w .any b0 24 v) (h : DataW.Trod enc Try.prog w 0 (fun _ => true) true 24 v d p) :
    ∃ (x : Sts) (lv : AV), VR Hp.none id w (.agg (stsC x lv)) v ∧ Go.Am.Rows linC 7 Hp.none lv x.lines := by
  obtain ⟨cs, rfl, hsz⟩ := okWide_struct Try.underlying24 hv
  obtain ⟨fuel, hf⟩ := h
  obtain ⟨c0, e0⟩ := qdy (k := .i64) 9 0 hf (by kernel_rfl)
  obtain ⟨c1, e1⟩ := qdy (k := .i64) 9 1 hf (by kernel_rfl)
  obtain ⟨c2, e2⟩ := qdy (k := .i64) 9 2 hf (by kernel_rfl)
  obtain ⟨c3, e3⟩ := qdy (k := .i64) 9 3 hf (by kernel_rfl)
  obtain ⟨xs, m, _, _, hlen, hxl, hg⟩ := DataW.trod_struct Try.underlying24 hf
  have h4 := hg 4 _ rfl
  obtain ⟨l⟩ := cs
  have hc5 : Try.prog.cellsOf 24 = 5 := by kernel_rfl
  match l, hsz.trans hc5 with
  | [b0, b1, b2, b3, b4], _ =>
    simp only [Value.cells, List.getElem?_cons_zero, List.getElem?_cons_succ, Option.some.injEq] at e0 e1 e2 e3
    subst e0 e1 e2 e3
    have hx4 : xs[4]? = some (xs[4]'(by rw [hxl]; decide)) := List.getElem?_eq_getElem _
    rw [hx4] at h4
    have h5 : DataW.trod enc Try.prog w 0 (fun _ => true) true m 22 [b4] = some (xs[4]'(by rw [hxl]; decide)) := h4
    obtain ⟨v', l, hv', hr⟩ := open_rows (f := linC) (sz := 7) (α := Lin) linC_len Try.underlying22 (by kernel_rfl) (fun h hl => open_lin h hl) h5
    cases hv'
    refine ⟨⟨c0, c1, c2, c3, l⟩, .sl .any l.length (qc3 linC l), ?_, .imm _ _ _ (qcu linC_len l).symm⟩
    have hcell : VRs Hp.none id w (stsC ⟨c0, c1, c2, c3, l⟩ (.sl .any l.length (qc3 linC l))) [.int .i64 c0, .int .i64 c1, .int .i64 c2, .int .i64 c3, b4] :=
      VRs.cons (.int _ _) (VRs.cons (.int _ _) (VRs.cons (.int _ _) (VRs.cons (.int _ _) (VRs.cons hr VRs.nil))))
    exact .agg _ _ hcell.1 hcell.2
/-- patterns, as they come in -/
theorem open_patterns {b0 : Nat} {v : Value} {d : DataW H} {p : List MemPlace} (hv : Value.okWide Try.prog w .any b0 25 v) (h : DataW.Trod enc Try.prog w 0 (fun _ => true) true 25 v d p) :
    ∃ (l : List Ptn) (pv : AV), VR Hp.none id w pv v ∧ Go.Am.Rows ptnC 15 Hp.none pv l := by
  obtain ⟨a, len, cap, rfl⟩ := okWide_slice Try.underlying25 hv
  obtain ⟨fuel, hf⟩ := h
  obtain ⟨v', l, hv', hr⟩ := open_rows (f := ptnC) (sz := 15) (α := Ptn) ptnC_len Try.underlying25 (by kernel_rfl) (fun h hl => open_ptn h hl) hf
  cases hv'
  exact ⟨l, _, hr, .imm _ _ _ (qcu ptnC_len l).symm⟩
end

end Go.Proofs.Ytallboljaphbpaa
