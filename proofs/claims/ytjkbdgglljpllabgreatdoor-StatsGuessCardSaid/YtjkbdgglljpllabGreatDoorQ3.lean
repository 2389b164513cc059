/- The A-machine: rules for runs of code on inputs that are not known. It holds no program. -/
import Derived.Test.YtjkbdgglljpllabGreatDoorQ2
import Derived.RangeFuncNested
import Derived.Below
set_option linter.unusedVariables false
set_option linter.unusedSimpArgs false
namespace Go.Am
open Go AM

/-- a loop whose rounds count down -/
theorem wpIn_loop_down {F : Fence} {n : Nat} {P : Program} {c : Code} {Q : Exit → Act → World → Prop} {a : Act} {w : World} (R : Nat → Act → World → Prop) (k : Nat) (h₀ : R k a w)
    (round : ∀ k a w, R k a w → ∃ k', k = k' + 1 ∧ c.wpIn F n P (Exit.then (R k') Q) a w) : (Code.loop c).wpIn F n P Q a w := by
  have least : ∀ k a w, R k a w → ∃ m, R m a w ∧ ∀ j, j < m → ¬ R j a w := by
    intro k a w
    induction k using Nat.strongRecOn with
    | _ k ih =>
      intro hk
      by_cases hj : ∃ j, j < k ∧ R j a w
      · obtain ⟨j, h1, h2⟩ := hj; exact ih j h1 h2
      · exact ⟨k, hk, fun j h1 h2 => hj ⟨j, h1, h2⟩⟩
  have total : ∀ a w, ∃ m, (∃ k, R k a w) → R m a w ∧ ∀ j, j < m → ¬ R j a w := fun a w => by
    by_cases hk : ∃ k, R k a w
    · obtain ⟨k, hk⟩ := hk; obtain ⟨m, hm⟩ := least k a w hk; exact ⟨m, fun _ => hm⟩
    · exact ⟨0, fun h => absurd h hk⟩
  refine wpIn_loop (fun a w => ∃ k, R k a w) (fun a w => Classical.choose (total a w)) ⟨k, h₀⟩ (fun a w hI => ?_)
  obtain ⟨h1, _⟩ := Classical.choose_spec (total a w) hI
  obtain ⟨k', hk, hwp⟩ := round _ a w h1
  refine wpIn_mono hwp (fun e a' w' hq => ?_)
  cases e with
  | normal =>
    refine ⟨⟨k', hq⟩, ?_⟩
    obtain ⟨_, h4⟩ := Classical.choose_spec (total a' w') ⟨k', hq⟩
    have h5 : ¬ k' < Classical.choose (total a' w') := fun hlt => h4 k' hlt hq
    show Classical.choose (total a' w') < Classical.choose (total a w)
    rw [hk]
    omega
  | _ => exact hq

section
variable {P : Program} {pol : Pol} {call : Calling} {fn : FuncId} {h h' : Hp} {μ μ' : Nat → Nat} {w w' : World}

/-- what a region that draws its order owes -/
def RegionOk (P : Program) (pol : Pol) (call : Calling) : Prop :=
  ∀ (fn : FuncId) (nt : Nat) (ops : Array Oper) (T T' : Temps) (h h' : Hp) (a : Act) (w : World) (μ : Nat → Nat) (ro : Option Nat),
    (aregion P pol call fn nt ops.toList true T).run h = some (T', h') → SR h μ w → TR h μ w nt T a.tmps → Fresh h h' →
    ∀ t, wpOpsIn (fen ro) 0 P ops (OpsPost h μ w nt T' h' a.defers) (Region.schedule (P.follows .mixedOrders) ops t) a { w with drawn := w.drawn + 1 }

def CPost (B : Nat) (h : Hp) (μ : Nat → Nat) (w : World) (nt : Nat) (e : Exit) (T' : Temps) (h' : Hp) (e1 : Exit) (a1 : Act) (w1 : World) : Prop :=
  e1 = e ∧ ∃ μ', SR h' μ' w1 ∧ Stp h μ w h' μ' w1 ∧ TR h' μ' w1 nt T' a1.tmps ∧ Marks B h' μ' w1 a1.defers

theorem CPost.trans {B : Nat} {h1 : Hp} {μ1 : Nat → Nat} {w1 : World} {nt : Nat} {e : Exit} {T' : Temps} (s : Stp h μ w h1 μ1 w1) {e1 : Exit} {a2 : Act} {w2 : World}
    (p : CPost B h1 μ1 w1 nt e T' h' e1 a2 w2) : CPost B h μ w nt e T' h' e1 a2 w2 := by
  obtain ⟨p1, μ2, p2, p3, p4⟩ := p
  exact ⟨p1, μ2, p2, s.trans p3, p4⟩

/-- what a piece of code owes -/
def CodeOk (P : Program) (pol : Pol) (call : Calling) (fn : FuncId) (nt fuel : Nat) (c : Code) : Prop :=
  ∀ (B : Nat) (ro : Option Nat) (T T' : Temps) (e : Exit) (h h' : Hp) (a : Act) (w : World) (μ : Nat → Nat),
    (acode P pol call fn nt fuel c T).run h = some ((e, T'), h') → SR h μ w → TR h μ w nt T a.tmps → Fresh h h' → Marks B h μ w a.defers → InR h μ ro → B ≤ w.heap.size →
    c.wpIn (fen ro) 0 P (CPost B h μ w nt e T' h') a w

theorem jumpExit_wp {c : Code} {e : Exit} (hj : jumpExit c = some e) {F : Fence} {n : Nat} {Q : Exit → Act → World → Prop} {a : Act} (hq : Q e a w) : c.wpIn F n P Q a w := by
  unfold jumpExit at hj
  split at hj
  · cases hj; exact wpIn_ret hq
  · cases hj; exact wpIn_exit hq
  · cases hj

theorem loopOf_some {id : Nat} {r : FuncId × Nat × Temps × List Tmp × Code × Code × LoopState × Option Code} (e : (loopOf id).run h = some (r, h')) :
    h' = h ∧ ∃ o, h.get id = some o ∧ o.body = .loop r.1 r.2.1 r.2.2.1 r.2.2.2.1 r.2.2.2.2.1 r.2.2.2.2.2.1 r.2.2.2.2.2.2.1 r.2.2.2.2.2.2.2 := by
  obtain ⟨o, h1, e1, e2⟩ := bind_some e
  obtain ⟨ho, rfl⟩ := hget_some e1
  split at e2
  · rename_i hb; obtain ⟨rfl, rfl⟩ := pure_some e2; exact ⟨rfl, o, ho, hb⟩
  · cases e2

/-- a loop's record is written -/
theorem SR.loop (s : SR h μ w) {id : Nat} {o : AObj} {f f' : FuncId} {nt : Nat} {T : Temps} {ps : List Tmp} {a b : Code} {st st' : LoopState} {p p' : Option Code} (ho : h.get id = some o) (hb : o.body = .loop f nt T ps a b st p) :
    ∃ L : Loop, w.heap[μ id]? = some (.loop L) ∧ TR h μ w nt T L.tmps ∧ L.params.toList = ps ∧ L.assign = a ∧ L.body = b ∧ L.state = st ∧ L.pending = p ∧
      SR ⟨h.obj.set id (some ⟨o.ver, o.stamp + 1, .loop f' nt T ps a b st' p', o.ty⟩), h.next⟩ μ (w.putObj (μ id) (.loop { L with state := st', pending := p' })) ∧
      Stp h μ w ⟨h.obj.set id (some ⟨o.ver, o.stamp + 1, .loop f' nt T ps a b st' p', o.ty⟩), h.next⟩ μ (w.putObj (μ id) (.loop { L with state := st', pending := p' })) := by
  obtain ⟨obj, h1, h2⟩ := s.blk id o ho
  rw [hb] at h2
  obtain ⟨L, rfl, h3, h4, h5, h6, h7, h8⟩ := h2
  have hlt : μ id < w.heap.size := (Array.getElem?_eq_some_iff.1 h1).1
  refine ⟨L, h1, h3, h4, h5, h6, h7, h8, ?_⟩
  exact s.put ho (Nat.le_refl _) (by rw [hb]; trivial) World.putObj_size (fun c hc => World.putObj_heap_other hc) (World.putObj_heap_same hlt)
    ⟨_, rfl, h3, h4, h5, h6, rfl, rfl⟩ (fun cs e hc => by rw [h1] at hc; cases hc) rfl rfl rfl

/-- laying a loop's record -/
theorem enter_sim (s : SR h μ w) (hf : h.get h.next = none) (ro : Option Nat) (hr : InR h μ ro) (f f' : FuncId) {nt : Nat} {T : Temps} {a : Act} (tr : TR h μ w nt T a.tmps) (ps : Array Tmp) (x y : Code) {B : Nat} (hB : B ≤ w.heap.size) (hm : Marks B h μ w a.defers) :
    ∃ (l : Nat) (mark : List Deferred) (w₁ : World) (μ₁ : Nat → Nat), (Instr.enterLoop f a.tmps ps x y (fen ro).round).run P w = .ok (l, mark) w₁ ∧ μ₁ h.next = l ∧
      SR ⟨h.obj.set h.next (some ⟨0, 0, .loop f' nt T ps.toList x y .ready none, none⟩), h.next + 1⟩ μ₁ w₁ ∧
      Stp h μ w ⟨h.obj.set h.next (some ⟨0, 0, .loop f' nt T ps.toList x y .ready none, none⟩), h.next + 1⟩ μ₁ w₁ ∧
      Marks B ⟨h.obj.set h.next (some ⟨0, 0, .loop f' nt T ps.toList x y .ready none, none⟩), h.next + 1⟩ μ₁ w₁ (mark ++ a.defers) := by
  cases ro with
  | some l₀ =>
    obtain ⟨id, o, f0, nt0, T0, ps0, a0, b0, st0, p0, ho, hb, rfl⟩ := hr l₀ rfl
    obtain ⟨obj, h1, h2⟩ := s.blk id o ho
    rw [hb] at h2
    obtain ⟨L, rfl, _⟩ := h2
    obtain ⟨s1, s2⟩ := s.alloc hf (.loop { state := .ready, pending := none, fn := f, tmps := a.tmps, params := ps, assign := x, body := y, defers := L.defers }) (.loop f' nt T ps.toList x y .ready none)
      ⟨_, rfl, tr, rfl, rfl, rfl, rfl, rfl⟩
    exact ⟨w.heap.size, [], _, _, run_enterLoop_inner h1 f a.tmps ps x y, by simp [upd], s1, s2, hm.mono s2⟩
  | none =>
    obtain ⟨s1, s2⟩ := s.beside (.deferred (some []))
    obtain ⟨s3, s4⟩ := s1.alloc hf (.loop { state := .ready, pending := none, fn := f, tmps := a.tmps, params := ps, assign := x, body := y, defers := w.heap.size }) (.loop f' nt T ps.toList x y .ready none)
      ⟨_, rfl, tr.mono s2, rfl, rfl, rfl, rfl, rfl⟩
    refine ⟨w.heap.size + 1, [{ target := .collected w.heap.size, args := #[] }], _, _, run_enterLoop_outer f a.tmps ps x y, by simp [upd, World.size_alloc], s3, s2.trans s4, ?_⟩
    refine ⟨⟨w.heap.size, rfl, hB, by simp [World.size_alloc]; omega, fun hh => ?_, ?_, fun d2 hd e => ?_⟩, (hm.mono s2).mono s4⟩
    · have := s4.held _ (by simp) hh
      obtain ⟨id, o, ho, hm⟩ := this
      obtain ⟨obj, h1, _⟩ := s.blk id o ho
      have := (Array.getElem?_eq_some_iff.1 h1).1
      omega
    · rw [heap_alloc_lt _ _ _ (by simp)]
      exact World.alloc_heap_new w _
    · exact Nat.lt_irrefl _ (hm.lt d2 hd _ e)

theorem callSem_enter {x : Value} {xs : Array Value} {f : FuncId} {as : Array Value} (e : (callSem x xs).run P w = .ok (.enter f as) w) :
    ∃ d, (Deferred.ofValue x xs).run P w = .ok d w ∧ (invoke d.target d.args).run P w = .ok (.enter f as) w := by
  unfold callSem at e
  rw [Sem.run_bind] at e
  unfold Deferred.ofValue at e ⊢
  split at e
  · exact ⟨_, rfl, e⟩
  · exact ⟨_, rfl, e⟩
  · cases e

theorem acode_wp (hcall : CallOk P call) (hreg : RegionOk P pol call) (nt fuel : Nat) : ∀ c : Code, CodeOk P pol call fn nt fuel c
  | .skip => fun B ro T T' e h h' a w μ er s tr F m i hB => by
    obtain ⟨e1, rfl⟩ := pure_some er
    cases e1
    exact wpIn_skip ⟨rfl, μ, s, Stp.refl _ _ _, tr, m⟩
  | .label _ => fun B ro T T' e h h' a w μ er s tr F m i hB => by
    obtain ⟨e1, rfl⟩ := pure_some er
    cases e1
    exact wpIn_label ⟨rfl, μ, s, Stp.refl _ _ _, tr, m⟩
  | .exit id => fun B ro T T' e h h' a w μ er s tr F m i hB => by
    obtain ⟨e1, rfl⟩ := pure_some er
    cases e1
    exact wpIn_exit ⟨rfl, μ, s, Stp.refl _ _ _, tr, m⟩
  | .ret => fun B ro T T' e h h' a w μ er s tr F m i hB => by
    obtain ⟨e1, rfl⟩ := pure_some er
    cases e1
    exact wpIn_ret ⟨rfl, μ, s, Stp.refl _ _ _, tr, m⟩
  | .goto _ => fun B ro T T' e h h' a w μ er s tr F m i hB => by cases er
  | .refuse _ => fun B ro T T' e h h' a w μ er s tr F m i hB => by cases er
  | .scope _ => fun B ro T T' e h h' a w μ er s tr F m i hB => by cases er
  | .region id ops draw => fun B ro T T' e h h' a w μ er s tr F m i hB => by
    simp only [acode] at er
    obtain ⟨T1, h1, e1, e2, F1, F2⟩ := bind_fresh er F
    obtain ⟨e3, rfl⟩ := pure_some e2
    cases e3
    have fin : ∀ (e1 : Exit) (a1 : Act) (w1 : World), OpsPost h μ w nt T' h' a.defers e1 a1 w1 → CPost B h μ w nt .normal T' h' e1 a1 w1 := by
      rintro e1 a1 w1 ⟨p1, μ', p2, p3, p4, p5⟩
      exact ⟨p1, μ', p2, p3, p4, by rw [p5]; exact m.mono p3⟩
    cases draw with
    | false =>
      refine wpIn_region (wpOpsIn_mono fin _ _ _ ?_)
      have := aops_wp hcall ro nt (ops := ops) (List.range ops.size) (by simpa [aregion] using e1) s tr F1
      exact this
    | true =>
      exact wpIn_region_draw fun t => wpOpsIn_mono fin _ _ _ (hreg fn nt ops T T' h h' a w μ ro e1 s tr F1 t)
  | .seq x y => fun B ro T T' e h h' a w μ er s tr F m i hB => by
    simp only [acode] at er
    obtain ⟨⟨ex, T1⟩, h1, e1, e2, F1, F2⟩ := bind_fresh er F
    refine wpIn_seq (wpIn_mono (acode_wp hcall hreg nt fuel x B ro T T1 ex h h1 a w μ e1 s tr F1 m i hB) (fun e0 a1 w1 hp => ?_))
    have hp0 := hp
    obtain ⟨rfl, μ1, s1, s2, s3, s4⟩ := hp
    cases e0 with
    | normal =>
      exact wpIn_mono (acode_wp hcall hreg nt fuel y B ro T1 T' e h1 h' a1 w1 μ1 e2 s1 s3 F2 s4 (i.mono s2) (Nat.le_trans hB s2.size)) (fun _ _ _ => CPost.trans s2)
    | _ =>
      obtain ⟨e3, rfl⟩ := pure_some e2
      cases e3
      exact hp0
  | .cond c x y => fun B ro T T' e h h' a w μ er s tr F m i hB => by
    simp only [acode] at er
    have hv := tr.eval s.gl c
    split at er
    · rename_i hc
      rw [hc] at hv
      generalize hx : a.eval c = v at hv
      cases hv
      exact wpIn_cond_true hx (acode_wp hcall hreg nt fuel x B ro T T' e h h' a w μ er s tr F m i hB)
    · rename_i hc
      rw [hc] at hv
      generalize hx : a.eval c = v at hv
      cases hv
      exact wpIn_cond_false hx (acode_wp hcall hreg nt fuel y B ro T T' e h h' a w μ er s tr F m i hB)
    · cases er
  | .block id b => fun B ro T T' e h h' a w μ er s tr F m i hB => by
    simp only [acode] at er
    obtain ⟨⟨ex, T1⟩, h1, e1, e2, F1, F2⟩ := bind_fresh er F
    refine wpIn_block (wpIn_mono (acode_wp hcall hreg nt fuel b B ro T T1 ex h h1 a w μ e1 s tr F1 m i hB) (fun e0 a1 w1 hp => ?_))
    obtain ⟨rfl, μ1, s1, s2, s3, s4⟩ := hp
    cases e0 with
    | exit id' =>
      dsimp only at e2
      split at e2
      · rename_i hid
        rw [Nat.beq_eq] at hid
        obtain ⟨e3, rfl⟩ := pure_some e2
        cases e3
        simp only [Exit.inBlock, hid, if_true]
        exact ⟨rfl, μ1, s1, s2, s3, s4⟩
      · rename_i hid
        have hne : id' ≠ id := fun k => by rw [k] at hid; simp at hid
        obtain ⟨e3, rfl⟩ := pure_some e2
        cases e3
        simp only [Exit.inBlock, hne, if_false]
        exact ⟨rfl, μ1, s1, s2, s3, s4⟩
    | _ =>
      obtain ⟨e3, rfl⟩ := pure_some e2
      cases e3
      exact ⟨rfl, μ1, s1, s2, s3, s4⟩
  | .loop b => fun B ro T T' e h h' a w μ er s tr F m i hB => by
    simp only [acode] at er
    refine wpIn_loop_down (fun k a1 w1 => ∃ T1 h1 μ1, (aloop (acode P pol call fn nt fuel b) k T1).run h1 = some ((e, T'), h') ∧ SR h1 μ1 w1 ∧ Stp h μ w h1 μ1 w1 ∧ TR h1 μ1 w1 nt T1 a1.tmps ∧ Fresh h1 h' ∧ Marks B h1 μ1 w1 a1.defers)
      fuel ⟨T, h, μ, er, s, Stp.refl _ _ _, tr, F, m⟩ (fun k a1 w1 hk => ?_)
    obtain ⟨T1, h1, μ1, er1, s1, st1, tr1, F1, m1⟩ := hk
    cases k with
    | zero => cases er1
    | succ k =>
      refine ⟨k, rfl, ?_⟩
      simp only [aloop] at er1
      obtain ⟨⟨ex, T2⟩, h2, e1, e2, F2, F3⟩ := bind_fresh er1 F1
      refine wpIn_mono (acode_wp hcall hreg nt fuel b B ro T1 T2 ex h1 h2 a1 w1 μ1 e1 s1 tr1 F2 m1 (i.mono st1) (Nat.le_trans hB st1.size)) (fun e0 a2 w2 hp => ?_)
      obtain ⟨rfl, μ2, s2, st2, tr2, m2⟩ := hp
      cases e0 with
      | normal => exact ⟨T2, h2, μ2, e2, s2, st1.trans st2, tr2, F3, m2⟩
      | _ =>
        obtain ⟨e3, rfl⟩ := pure_some e2
        cases e3
        exact ⟨rfl, μ2, s2, st1.trans st2, tr2, m2⟩
  | .rangeFunc f ps x y => fun B ro T T' e h h' a w μ er s tr F m i hB => by
    simp only [acode] at er
    obtain ⟨_, h0, e1, e2, F1, F2⟩ := bind_fresh er F
    obtain ⟨hy, rfl⟩ := guard_some e1
    clear e1 er
    obtain ⟨id, h1, e3, e4, F3, F4⟩ := bind_fresh e2 F2
    obtain ⟨rfl, rfl⟩ := halloc_some e3
    obtain ⟨r, h2, e5, e6, F5, F6⟩ := bind_fresh e4 F4
    obtain ⟨rec, h3, e7, e8, F7, F8⟩ := bind_fresh e6 F6
    obtain ⟨rfl, o, ho, hb⟩ := loopOf_some e7
    obtain ⟨f', nt', T1, ps', x', y', st, p⟩ := rec
    dsimp only at hb e8
    obtain ⟨o2, h4, e9, e10, F9, F10⟩ := bind_fresh e8 F8
    obtain ⟨ho2, rfl⟩ := hget_some e9
    rw [ho] at ho2; cases ho2
    refine wpIn_rangeFunc fun g _ => ?_
    obtain ⟨l, mark, w₁, μ₁, he, hl, s1, st1, m1⟩ := enter_sim (P := P) s F3.new ro i g fn tr ps x y hB m
    have hyield : VR ⟨h0.obj.set h0.next (some ⟨0, 0, .loop fn nt T ps.toList x y .ready none, none⟩), h0.next + 1⟩ μ₁ w₁ (.func (.yield h0.next) [] []) (.func (.yield l) #[] #[]) := by
      rw [← hl]; exact .yield h0.next _ (get_new _) rfl
    have hk := hcall _ _ _ μ₁ w₁ r h4 (a.eval f) [.func (.yield l) #[] #[]] s1 ((tr.eval s.gl f).mono st1) (VRs.cons hyield .nil) e5 F5
    generalize hres : (callSem (a.eval f) [Value.func (.yield l) #[] #[]].toArray).run P w₁ = res at hk
    unfold Meets at hk
    split at hk
    · rename_i g' as w₂
      obtain ⟨rfl, hk⟩ := hk
      obtain ⟨d, q1, q2⟩ := callSem_enter hres
      refine ⟨l, mark, w₂, d, w₂, g', as, w₂, he, ?_, fun _ _ => trivial, q2, (fun hd => by cases hd), CallsIn.mono (F := fen ro) hk fun en w3 hg => ?_⟩
      · simpa [resolve, rangeCall, Act.eval] using q1
      · cases en with
        | panicked _ => exact hg.elim
        | outgrown => exact hg.elim
        | returned rv =>
          obtain ⟨μ2, s2, st2, _⟩ := hg
          obtain ⟨o', ho', _, hlike, heq⟩ := st2.live h0.next _ (get_new _)
          have hm2 := (heq (.inr rfl)).1
          rw [hl] at hm2
          obtain ⟨L, q3, q4, q5, q6, q7, q8, q9, s3, st3⟩ := s2.loop (f' := f') (st' := .exhausted) (p' := p) ho hb
          rw [hm2] at q3 s3 st3
          have stAll := (st1.trans st2).trans st3
          obtain ⟨_, h5, e21, e22⟩ := bind_some e10
          obtain ⟨hst, rfl⟩ := guard_some e21
          have hst : st ≠ .busy := by rintro rfl; cases hst
          have hpend : L.pending = p := q9
          refine ⟨p, _, by rw [← hpend]; exact run_endLoop q3 (by rw [q8]; exact hst), ?_⟩
          have hsame : ({ L with state := .exhausted } : Loop) = { L with state := .exhausted, pending := p } := by rw [← hpend]
          rw [hsame]
          obtain ⟨_, hh, e12, e13⟩ := bind_some e22
          obtain ⟨o3, ho3, _, rfl⟩ := hput_some e12
          rw [ho] at ho3; cases ho3
          have mAll : Marks B _ μ2 _ (mark ++ a.defers) := (m1.mono st2).mono st3
          cases p with
          | none =>
            obtain ⟨e14, rfl⟩ := pure_some e13
            cases e14
            exact ⟨rfl, μ2, s3, stAll, tr.mono stAll, mAll⟩
          | some c =>
            obtain ⟨ex, hh, e15, e16⟩ := bind_some e13
            obtain ⟨hj, rfl⟩ := ofOption_some e15
            obtain ⟨e14, rfl⟩ := pure_some e16
            cases e14
            exact jumpExit_wp hj ⟨rfl, μ2, s3, stAll, tr.mono stAll, mAll⟩
    · obtain ⟨hyy, _⟩ := hk
      rw [hyy] at hy; cases hy
    · exact hk.elim
end
end Go.Am
namespace Go.Am
open Go AM

section
variable {P : Program} {pol : Pol} {call : Calling} {h h' : Hp} {μ μ' : Nat → Nat} {w w' : World}

/-! ### results -/
def resultSem (tmps : Array Value) : ResultVar → Sem Value
  | .tmp t => pure (tmps.getD t undef)
  | .cell a t => do loadVar t (← asAddr (tmps.getD a undef))

theorem load_asAddr {t : TypeId} {x y : Value} (e : (Instr.loadAt t x).run P w = .ok y w) : (do loadVar t (← asAddr x) : Sem Value).run P w = .ok y w := by
  unfold Instr.loadAt at e
  cases x with
  | pointer a =>
    cases a with
    | none => simp [Instr.sureAddr] at e
    | some ad => simpa [Instr.sureAddr, asAddr] using e
  | _ => simp [Instr.sureAddr] at e

theorem aresult_sim (s : SR h μ w) {nt : Nat} {T : Temps} {tmps : Array Value} (tr : TR h μ w nt T tmps) (r : ResultVar) {v : AV} (e : (aresult P T r).run h = some (v, h')) :
    h' = h ∧ ∃ x, (resultSem tmps r).run P w = .ok x w ∧ VR h μ w v x := by
  cases r with
  | tmp t =>
    obtain ⟨rfl, rfl⟩ := pure_some e
    exact ⟨rfl, _, rfl, tr.2 t⟩
  | cell a ty =>
    obtain ⟨rfl, y, h1, h2⟩ := aload_sim s e (tr.2 a)
    exact ⟨rfl, y, load_asAddr h1, h2⟩

theorem aresultList_sim (s : SR h μ w) {nt : Nat} {T : Temps} {tmps : Array Value} (tr : TR h μ w nt T tmps) (l : List ResultVar) : ∀ {vs : List AV}, (aresultList P T l).run h = some (vs, h') →
    h' = h ∧ ∃ xs, (l.mapM (resultSem tmps)).run P w = .ok xs w ∧ VRs h μ w vs xs := by
  induction l with
  | nil =>
    intro vs e
    obtain ⟨rfl, rfl⟩ := pure_some e
    exact ⟨rfl, [], rfl, VRs.nil⟩
  | cons r rs ih =>
    intro vs e
    obtain ⟨v, h1, e1, e2⟩ := bind_some e
    obtain ⟨hh1, x, q1, q2⟩ := aresult_sim s tr r e1
    rw [hh1] at e2
    obtain ⟨vs', h2, e3, e4⟩ := bind_some e2
    obtain ⟨rfl, hh⟩ := pure_some e4
    rw [← hh] at e3
    obtain ⟨rfl, xs, q3, q4⟩ := ih e3
    refine ⟨rfl, x :: xs, ?_, VRs.cons q2 q4⟩
    rw [List.mapM_cons, Sem.run_bind, q1]
    simp only [Result.andThen]
    rw [Sem.run_bind, q3]
    rfl

theorem aresults_sim (s : SR h μ w) {nt : Nat} {T : Temps} {tmps : Array Value} (tr : TR h μ w nt T tmps) {f : Func} {v : AV} (e : (aresults P f T).run h = some (v, h')) :
    h' = h ∧ ∃ x, (results f tmps).run P w = .ok x w ∧ VR h μ w v x := by
  obtain ⟨vs, h1, e1, e2⟩ := bind_some e
  obtain ⟨rfl, xs, q1, q2⟩ := aresultList_sim s tr f.results.toList e1
  have hm : (f.results.mapM (resultSem tmps)).run P w = .ok xs.toArray w := by
    rw [Array.mapM_eq_mapM_toList, map_eq_pure_bind, Sem.run_bind, q1, Result.andThen, Sem.run_pure]
  have hres : results f tmps = (do let vs ← f.results.mapM (resultSem tmps); pure (if h : vs.size = 1 then vs[0] else .tuple vs)) := by
    unfold results
    congr 2
  rw [hres, Sem.run_bind, hm]
  simp only [Result.andThen]
  split at e2
  · rename_i v1
    obtain ⟨rfl, rfl⟩ := pure_some e2
    obtain ⟨x, rfl⟩ : ∃ x, xs = [x] := by
      have := q2.1
      cases xs with
      | nil => simp at this
      | cons x r => cases r with
        | nil => exact ⟨x, rfl⟩
        | cons _ _ => simp at this
    exact ⟨rfl, x, rfl, q2.2 0 (by simp) (by simp)⟩
  · rename_i hne
    obtain ⟨rfl, rfl⟩ := pure_some e2
    refine ⟨rfl, .tuple xs.toArray, ?_, .tuple _ _ q2.1 q2.2⟩
    have : ¬ xs.toArray.size = 1 := by
      intro h1
      have h2 := q2.1
      simp at h1
      rw [h1] at h2
      obtain ⟨a, rfl⟩ := List.length_eq_one_iff.1 h2
      exact hne a rfl
    rw [dif_neg this]
    rfl

/-! ### entering a function -/
theorem tget_tempsFrom : ∀ (l : List AV) (i : Nat) (T : Temps) (t : Nat), tget (tempsFrom i l T) t = if i ≤ t ∧ t < i + l.length then l.getD (t - i) .undef else tget T t
  | [], i, T, t => by simp [tempsFrom]; intro h1 h2; omega
  | v :: r, i, T, t => by
    rw [tempsFrom, tget_tempsFrom r (i + 1)]
    by_cases h1 : i + 1 ≤ t ∧ t < i + 1 + r.length
    · rw [if_pos h1, if_pos (by simp; omega)]
      obtain ⟨k, rfl⟩ : ∃ k, t = i + 1 + k := ⟨t - (i + 1), by omega⟩
      rw [show i + 1 + k - (i + 1) = k by omega, show i + 1 + k - i = k + 1 by omega]
      rfl
    · rw [if_neg h1]
      by_cases h2 : t = i
      · subst h2
        rw [if_pos (by simp)]
        simp [tget, Tm.get_set]
      · rw [if_neg (by simp; omega)]
        simp [tget, Tm.get_set, h2]

theorem TR_entry {args : List AV} {xs : List Value} (r : VRs h μ w args xs) {nt : Nat} (hle : args.length ≤ nt) :
    TR h μ w nt (tempsOf nt args) (xs.toArray ++ Array.replicate (nt - xs.toArray.size) undef) := by
  have hl := r.1
  refine ⟨by simp; omega, fun t => ?_⟩
  unfold tempsOf
  rw [List.take_of_length_le (by omega), tget_tempsFrom]
  by_cases ht : t < args.length
  · rw [if_pos ⟨Nat.zero_le _, by omega⟩]
    have h2 : t < xs.length := by omega
    have := r.2 t ht h2
    rw [show args.getD (t - 0) .undef = args[t] by simp [List.getD, ht]]
    rw [show (xs.toArray ++ Array.replicate (nt - xs.toArray.size) undef).getD t undef = xs[t] by simp [Array.getD, h2]; intro h; omega]
    exact this
  · rw [if_neg (by omega)]
    have h1 : tget (.leaf : Temps) t = .tuple [] := by simp [tget, Tm.get_leaf]
    have h2 : (xs.toArray ++ Array.replicate (nt - xs.toArray.size) undef).getD t undef = undef := by
      simp only [Array.getD_eq_getD_getElem?, Array.getElem?_append, Array.getElem?_replicate]
      rw [if_neg (by simp; omega)]
      split <;> rfl
    rw [h1, h2]
    exact VR_undef

/-! ### leaving a function -/
theorem leaves {B : Nat} {fn : Func} {tmps : Array Value} {R : Ending → World → Prop} : ∀ (ds : List Deferred) (w : World), SR h μ w → Marks B h μ w ds →
    (∀ w', SR h μ w' → (∀ {v : AV} {x : Value}, VR h μ w v x → VR h μ w' v x) → w'.heap.size = w.heap.size → (∀ c, c < B → w'.heap[c]? = w.heap[c]?) → w'.os = w.os → w'.tape = w.tape → w'.output = w.output →
      ∃ v, (results fn tmps).run P w' = .ok v w' ∧ R (.returned v) w') → LeavesInM Fence.wide 0 P fn tmps R ds .returning w
  | [], w, s, _, k => k w s (fun r => r) rfl (fun _ _ => rfl) rfl rfl rfl
  | d :: ds, w, s, ⟨⟨D, h1, h2, h3, h4, h5, h6⟩, r⟩, k => by
    refine ⟨by simp, .inl ⟨D, _, h1, run_takeDeferred h5, ?_⟩⟩
    obtain ⟨s1, vr⟩ := shut s h4 h5
    have hoth : ∀ c, c ≠ D → (w.putObj D (.deferred none)).heap[c]? = w.heap[c]? := fun c hc => World.putObj_heap_other hc
    have hmk : ∀ (ds : List Deferred), (∀ d2 ∈ ds, d2.target ≠ .collected D) → Marks B h μ w ds → Marks B h μ (w.putObj D (.deferred none)) ds := by
      intro ds
      induction ds with
      | nil => exact fun _ _ => trivial
      | cons d0 ds ih =>
        rintro hne ⟨⟨D', g1, g2, g3, g4, g5, g6⟩, g7⟩
        refine ⟨⟨D', g1, g2, by rw [World.putObj_size]; exact g3, g4, ?_, g6⟩, ih (fun d2 hd => hne d2 (List.mem_cons_of_mem _ hd)) g7⟩
        rw [hoth D' (fun e => hne d0 (List.mem_cons_self) (by rw [g1, e]))]
        exact g5
    refine leaves ds _ s1 (hmk ds h6 r) (fun w' s' vr' hz hB ho ht hp => ?_)
    exact k w' s' (fun q => vr' (vr q)) (by rw [hz, World.putObj_size]) (fun c hc => by rw [hB c hc, hoth c (by omega)]) ho ht hp

/-! ### functions -/
def SumsOk (P : Program) (sums : Sums) : Prop :=
  ∀ (f : FuncId) (s : List AV → AM AV), sums f = some s → (∃ fn c, P.funcs[f]? = some fn ∧ fn.body = some c) ∧
    ∀ (args : List AV) (h h' : Hp) (v : AV) (μ : Nat → Nat) (w : World) (xs : List Value), (s args).run h = some (v, h') → SR h μ w → VRs h μ w args xs → Fresh h h' →
      CallsIn Fence.wide 0 P f xs.toArray w (Got h μ w v h')

theorem afunc_calls (hcall : CallOk P call) (hreg : RegionOk P pol call) {sums : Sums} (hs : SumsOk P sums) (n : Nat) (f : FuncId) {args : List AV} {v : AV} {xs : List Value}
    (e : (afunc P pol sums call n f args).run h = some (v, h')) (s : SR h μ w) (r : VRs h μ w args xs) (F : Fresh h h') :
    (∃ fn c, P.funcs[f]? = some fn ∧ fn.body = some c) ∧ CallsIn Fence.wide 0 P f xs.toArray w (Got h μ w v h') := by
  unfold afunc at e
  split at e
  · rename_i sm hsm
    obtain ⟨h1, h2⟩ := hs f sm hsm
    exact ⟨h1, h2 args h h' v μ w xs e s r F⟩
  · split at e
    · cases e
    · rename_i fn hfn
      split at e
      · cases e
      · rename_i c hc
        refine ⟨⟨fn, c, hfn, hc⟩, ?_⟩
        obtain ⟨_, h1, e1, e2, F1, F2⟩ := bind_fresh e F
        obtain ⟨hg, rfl⟩ := guard_some e1
        obtain ⟨⟨ex, T'⟩, h2, e3, e4, F3, F4⟩ := bind_fresh e2 F2
        refine callsIn_of_wp_marks hfn hc trivial ?_
        have tr := TR_entry r (nt := fn.ntmps) (by simpa using hg)
        refine wpIn_mono (acode_wp hcall hreg fn.ntmps n c w.heap.size none _ T' ex h1 h2 { tmps := xs.toArray ++ Array.replicate (fn.ntmps - xs.toArray.size) undef, defers := [] } w μ e3 s tr F3 trivial (fun l hl => by cases hl) (Nat.le_refl _)) (fun e1 a1 w1 hp => ?_)
        obtain ⟨rfl, μ1, s1, st1, tr1, m1⟩ := hp
        have done : (aresults P fn T').run h2 = some (v, h') → LeavesInM Fence.wide 0 P fn a1.tmps (Got h1 μ w v h') a1.defers .returning w1 := by
          intro e5
          refine leaves a1.defers w1 s1 m1 (fun w2 s2 vr hz hB ho ht hp => ?_)
          obtain ⟨rfl, x, q1, q2⟩ := aresults_sim s2 (⟨tr1.1, fun t => vr (tr1.2 t)⟩ : TR h2 μ1 w2 fn.ntmps T' a1.tmps) e5
          refine ⟨x, q1, μ1, s2, ⟨by rw [hz]; exact st1.size, fun id o ho' => ?_, fun c hc hh => by rw [hB c hc]; exact st1.old c hc hh, st1.held, by rw [ho]; exact st1.os, by rw [ht]; exact st1.tape, by rw [hp]; exact st1.output⟩, q2⟩
          obtain ⟨o', g1, g2, g3, g4⟩ := st1.live id o ho'
          refine ⟨o', g1, g2, g3, fun hc => ?_⟩
          obtain ⟨g5, g6⟩ := g4 hc
          have hlt : μ id < w.heap.size := by
            obtain ⟨obj, hb, _⟩ := s.blk id o ho'; exact (Array.getElem?_eq_some_iff.1 hb).1
          exact ⟨g5, fun cs e hcs => by rw [hB _ hlt]; exact g6 cs e hcs⟩
        cases e1 with
        | normal => exact done e4
        | ret => exact done e4
        | _ => cases e4

/-! ### rounds -/
theorem TR_params {nt : Nat} : ∀ (ps : List Tmp) (args : List AV) (xs : List Value) (T : Temps) (tmps : Array Value), VRs h μ w args xs → TR h μ w nt T tmps →
    TR h μ w nt (aparams nt ps args T) ((ps.zip xs).foldl (fun tmps (t, a) => tmps.setIfInBounds t a) tmps)
  | [], _, _, T, tmps, _, tr => by simpa [aparams] using tr
  | p :: ps, args, xs, T, tmps, r, tr => by
    cases args with
    | nil =>
      have := r.1
      cases xs with
      | nil => simpa [aparams] using tr
      | cons _ _ => simp at this
    | cons a args =>
      cases xs with
      | nil => have := r.1; simp at this
      | cons x xs =>
        simp only [aparams, List.zip_cons_cons, List.foldl_cons]
        exact TR_params ps args xs _ _ r.tail (tr.put p r.head)

theorem around_ok (hcall : CallOk P call) (hreg : RegionOk P pol call) (n : Nat) (l : Nat) {args : List AV} {v : AV} {xs : List Value}
    (e : (around P pol call n l args).run h = some (v, h')) (s : SR h μ w) (r : VRs h μ w args xs) (F : Fresh h h') :
    ∃ L : Loop, w.heap[μ l]? = some (.loop L) ∧ xs.length = L.params.size ∧
      RoundIn Fence.wide 0 P (μ l) L.fn ((L.params.zip xs.toArray).foldl (fun tmps (t, a) => tmps.setIfInBounds t a) L.tmps) L.assign L.body w (Got h μ w v h') := by
  unfold around at e
  obtain ⟨⟨f, nt, T, ps, x, y, st0, p0⟩, h1, e1, e2, F1, F2⟩ := bind_fresh e F
  obtain ⟨rfl, o, ho, hb⟩ := loopOf_some e1
  dsimp only at hb e2
  obtain ⟨_, h2, e3, e4, F3, F4⟩ := bind_fresh e2 F2
  obtain ⟨hg, rfl⟩ := guard_some e3
  obtain ⟨⟨ex, T1⟩, h3, e5, e6, F5, F6⟩ := bind_fresh e4 F4
  obtain ⟨obj, hw, hor⟩ := s.blk l o ho
  rw [hb] at hor
  obtain ⟨L, rfl, tr, hps, rfl, rfl, hst, hpd⟩ := hor
  have hlen : xs.length = L.params.size := by
    have h1 := r.1
    rw [Nat.beq_eq] at hg
    rw [← h1, ← hg, ← hps]; simp
  refine ⟨L, hw, hlen, roundIn_of_wpIn trivial ?_⟩
  have hfold : (L.params.zip xs.toArray).foldl (fun tmps (t, a) => tmps.setIfInBounds t a) L.tmps = (ps.zip xs).foldl (fun tmps (t, a) => tmps.setIfInBounds t a) L.tmps := by
    rw [← hps, ← Array.foldl_toList]; simp
  rw [hfold]
  have tr1 := TR_params ps args xs T L.tmps r tr
  have inr : ∀ {h' : Hp} {μ' : Nat → Nat} {w' : World}, Stp h2 μ w h' μ' w' → InR h' μ' (some (μ l)) := fun st => InR.mono (fun l' hl' => by cases hl'; exact ⟨l, o, _, _, _, _, _, _, _, _, ho, hb, rfl⟩) st
  refine wpIn_mono (F := fen (some (μ l))) (acode_wp hcall hreg nt n L.assign w.heap.size (some (μ l)) _ T1 ex h2 h3 { tmps := _, defers := [] } w μ e5 s tr1 F5 trivial (inr (Stp.refl _ _ _)) (Nat.le_refl _)) (fun e1 a1 w1 hp => ?_)
  obtain ⟨rfl, μ1, s1, st1, tr2, m1⟩ := hp
  cases e1 with
  | normal =>
    dsimp only at e6
    obtain ⟨⟨f', nt', T', ps', x', y', st, p⟩, h4, e7, e8, F7, F8⟩ := bind_fresh e6 F6
    obtain ⟨rfl, o1, ho1, hb1⟩ := loopOf_some e7
    dsimp only at hb1 e8
    obtain ⟨o1', h5, e9, e10, F9, F10⟩ := bind_fresh e8 F8
    obtain ⟨ho1', rfl⟩ := hget_some e9
    rw [ho1] at ho1'; cases ho1'
    obtain ⟨_, h6, e11, e12, F11, F12⟩ := bind_fresh e10 F10
    obtain ⟨hrd, rfl⟩ := guard_some e11
    obtain rfl : st = .ready := by cases st <;> first | rfl | cases hrd
    obtain ⟨_, h7, e13, e14, F13, F14⟩ := bind_fresh e12 F12
    obtain ⟨o1', ho1', _, rfl⟩ := hput_some e13
    rw [ho1] at ho1'; cases ho1'
    obtain ⟨o', g1, _, g3, g4⟩ := st1.live l o ho
    have hm1 := (g4 (.inr (by rw [hb]; rfl))).1
    obtain ⟨L1, q1, q2, q3, q4, q5, q6, q7, s2, st2⟩ := s1.loop (f' := f') (st' := .busy) (p' := p) ho1 hb1
    rw [hm1] at q1 s2 st2
    have hsame : ({ L1 with state := .busy } : Loop) = { L1 with state := .busy, pending := p } := by rw [← q7]
    refine ⟨_, run_beginRound q1 q6, ?_⟩
    rw [hsame]
    obtain ⟨⟨e2, T2⟩, h8, e15, e16, F15, F16⟩ := bind_fresh e14 F14
    refine wpIn_mono (F := fen (some (μ l))) (acode_wp hcall hreg nt n L.body w.heap.size (some (μ l)) T1 T2 e2 _ h8 a1 _ μ1 e15 s2 (tr2.mono st2) F15 (m1.mono st2) (inr (st1.trans st2)) (by rw [World.putObj_size]; exact st1.size)) (fun e3 a3 w3 hp => ?_)
    obtain ⟨rfl, μ3, s3, st3, tr3, m3⟩ := hp
    dsimp only at e16
    obtain ⟨⟨f2, nt2, T3, ps2, x2, y2, st4, p4⟩, h9, e17, e18, F17, F18⟩ := bind_fresh e16 F16
    obtain ⟨rfl, o2, ho2, hb2⟩ := loopOf_some e17
    dsimp only at hb2 e18
    obtain ⟨o2', h10, e19, e20, F19, F20⟩ := bind_fresh e18 F18
    obtain ⟨ho2', rfl⟩ := hget_some e19
    rw [ho2] at ho2'; cases ho2'
    obtain ⟨⟨st5, p5⟩, h11, e21, e22, F21, F22⟩ := bind_fresh e20 F20
    obtain ⟨hre, rfl⟩ := ofOption_some e21
    dsimp only at e22
    obtain ⟨_, h12, e23, e24, F23, F24⟩ := bind_fresh e22 F22
    obtain ⟨o2', ho2', _, rfl⟩ := hput_some e23
    rw [ho2] at ho2'; cases ho2'
    obtain ⟨rfl, rfl⟩ := pure_some e24
    obtain ⟨o'', k1, _, k3, k4⟩ := (st2.trans st3).live l o1 ho1
    have hm3 := (k4 (.inr (by rw [hb1]; rfl))).1
    rw [hm1] at hm3
    obtain ⟨L2, r1, r2, r3, r4, r5, r6, r7, s4, st6⟩ := s3.loop (f' := f2) (st' := st5) (p' := p5) ho2 hb2
    rw [hm3] at r1 s4 st6
    have stAll := ((st1.trans st2).trans st3).trans st6
    have fin : ∀ jump : Option Code, (st5, p5) = (if jump.isNone then LoopState.ready else .done, jump) →
        (Instr.endRound (μ l) jump).run P w3 = .ok (.bool p5.isNone) (w3.putObj (μ l) (.loop { L2 with state := st5, pending := p5 })) := by
      intro jump hj
      simp only [Prod.mk.injEq] at hj
      obtain ⟨rfl, rfl⟩ := hj
      exact run_endRound p5 r1
    cases e3 with
    | normal => cases hre; exact ⟨_, _, fin none rfl, μ3, s4, stAll, .bool _⟩
    | ret => cases hre; exact ⟨_, _, fin (some .ret) rfl, μ3, s4, stAll, .bool _⟩
    | exit id => cases hre; exact ⟨_, _, fin (some (.exit id)) rfl, μ3, s4, stAll, .bool _⟩
    | _ => cases hre
  | _ => cases e6

/-! ### calls, whatever the fuel -/
structure ProgOk (P : Program) : Prop where
  mixed : P.follows .mixedOrders = true
  name : ∀ (f : FuncId) (fn : Func), P.funcs[f]? = some fn → (fn.name == "runtime.NumGoroutine") = false

theorem acall_ok {sums : Sums} (hP : ProgOk P) (hs : SumsOk P sums) (hreg : ∀ call, CallOk P call → RegionOk P pol call) : ∀ n, CallOk P (acall P pol sums n)
  | 0 => fun v args h μ w r h' x xs s rv ra e F => by cases e
  | n + 1 => fun v args h μ w r h' x xs s rv ra e F => by
    have ih := acall_ok hP hs hreg n
    have hr := hreg _ ih
    cases rv with
    | func f first captured vf vc hl1 hl2 hr1 hr2 =>
      simp only [acall] at e
      have r1 : VRs h μ w first vf := ⟨hl1, hr1⟩
      have r2 : VRs h μ w captured vc := ⟨hl2, hr2⟩
      obtain ⟨⟨fn, c, hfn, hc⟩, hk⟩ := afunc_calls ih hr hs n f e s ((r1.append ra).append r2) F
      have hrun : (callSem (.func (.func f) vf.toArray vc.toArray) xs.toArray).run P w = .ok (.enter f (vf ++ xs ++ vc).toArray) w := by
        have hn : fn.name ≠ "runtime.NumGoroutine" := by simpa using hP.name f fn hfn
        simp [callSem, Deferred.ofValue, invoke, callFunc, hfn, hn, hc]
      rw [hrun]
      exact ⟨rfl, hk⟩
    | yield l o ho hb =>
      simp only [acall] at e
      obtain ⟨L, hw, hlen, hk⟩ := around_ok ih hr n l e s (by simpa using ra) F
      have hrun : (callSem (.func (.yield (μ l)) #[] #[]) xs.toArray).run P w = .ok (.round (μ l) L.fn ((L.params.zip xs.toArray).foldl (fun tmps (t, a) => tmps.setIfInBounds t a) L.tmps) L.assign L.body) w := by
        simp only [callSem, Deferred.ofValue]
        rw [Sem.run_bind]
        simp only [Sem.run_pure, Result.andThen, invoke]
        rw [Array.empty_append]
        exact run_yield hw (by simpa using hlen)
      rw [hrun]
      exact ⟨rfl, rfl, hk⟩
    | _ => cases e
end
end Go.Am
namespace Go.Am
open Go AM

/-- an object is, to who looks at it, as it was -/
def Alike (c : Bool) (o o2 : AObj) : Prop := o2 = o ∨ (c = false ∧ o2.ver = o.ver ∧ ∃ e cells fix cells' fix', o.body = .row e cells fix ∧ o2.body = .row e cells' fix' ∧ cells.length = cells'.length)

theorem Alike.refl (c : Bool) (o : AObj) : Alike c o o := .inl rfl
theorem Alike.trans {c : Bool} {o o2 o3 : AObj} (a : Alike c o o2) (b : Alike c o2 o3) : Alike c o o3 := by
  rcases a with rfl | ⟨rfl, a1, e, cells, fix, cells', fix', a2, a3, a4⟩
  · exact b
  · rcases b with rfl | ⟨_, b1, e', dells, gix, dells', gix', b2, b3, b4⟩
    · exact .inr ⟨rfl, a1, e, cells, fix, cells', fix', a2, a3, a4⟩
    · rw [a3] at b2
      injection b2 with b5 b6 b7
      subst b5 b6
      exact .inr ⟨rfl, b1.trans a1, e, cells, fix, dells', gix', a2, b3, a4.trans b4⟩

def Like (ids : List (Bool × Nat)) (h g : Hp) : Prop := ∀ c id, (c, id) ∈ ids → ∀ o, h.get id = some o → ∃ o2, g.get id = some o2 ∧ Alike c o o2

/-- a computation that changes nothing, and looks at nothing else -/
def Reads {α : Type} (ids : List (Bool × Nat)) (m : AM α) : Prop := ∀ h v h', m.run h = some (v, h') → h' = h ∧ ∀ g, Like ids h g → m.run g = some (v, g)

section
variable {α β : Type} {ids : List (Bool × Nat)}
theorem Reads.pure (a : α) : Reads ids (pure a : AM α) := fun h v h' e => by
  obtain ⟨rfl, rfl⟩ := pure_some e; exact ⟨rfl, fun g _ => rfl⟩
theorem Reads.fail : Reads ids (fail : AM α) := fun h v h' e => by cases e
theorem Reads.bind {m : AM α} {f : α → AM β} (a : Reads ids m) (b : ∀ x, Reads ids (f x)) : Reads ids (m >>= f) := fun h v h' e => by
  obtain ⟨x, h1, e1, e2⟩ := bind_some e
  obtain ⟨rfl, k1⟩ := a _ _ _ e1
  obtain ⟨rfl, k2⟩ := b x _ _ _ e2
  refine ⟨rfl, fun g hg => ?_⟩
  rw [run_bind, k1 g hg]
  exact k2 g hg
theorem Reads.guard (b : Bool) : Reads ids (AM.guard b) := by
  cases b
  · exact Reads.fail
  · exact Reads.pure ()
theorem Reads.ofOption (o : Option α) : Reads ids (AM.ofOption o) := by
  cases o
  · exact Reads.fail
  · exact Reads.pure _
theorem Reads.there (id : Nat) (c : Bool) (hm : (c, id) ∈ ids) {f : AObj → AM β} (hf : ∀ o o2, f o = f o2) (b : ∀ x, Reads ids (f x)) : Reads ids (AM.hget id >>= f) := fun h v h' e => by
  obtain ⟨x, h1, e1, e2⟩ := bind_some e
  obtain ⟨ho, rfl⟩ := hget_some e1
  obtain ⟨rfl, k2⟩ := b x _ _ _ e2
  refine ⟨rfl, fun g hg => ?_⟩
  obtain ⟨o2, ho2, _⟩ := hg c id hm x ho
  have : (AM.hget id).run g = some (o2, g) := by simp only [hget, ho2]
  rw [run_bind, this]
  dsimp only
  rw [hf o2 x]
  exact k2 g hg
theorem Reads.row (id ver : Nat) (c : Bool) (hm : (c, id) ∈ ids) {f : Nat × List AV × Bool → AM β} (hf : c = false → ∀ e cells fix cells' fix', cells.length = cells'.length → f (e, cells, fix) = f (e, cells', fix')) (b : ∀ x, Reads ids (f x)) :
    Reads ids (rowOf id ver >>= f) := fun h v h' e => by
  obtain ⟨⟨esz, cells, fix⟩, h1, e1, e2⟩ := bind_some e
  obtain ⟨rfl, o, ho, hv, hb⟩ := rowOf_some e1
  obtain ⟨rfl, k2⟩ := b _ _ _ _ e2
  refine ⟨rfl, fun g hg => ?_⟩
  obtain ⟨o2, ho2, hal⟩ := hg c id hm o ho
  have key : ∀ cells' fix', o2.ver = ver → o2.body = .row esz cells' fix' → (rowOf id ver).run g = some ((esz, cells', fix'), g) := by
    intro cells' fix' h1 h2
    unfold rowOf
    have : (AM.hget id).run g = some (o2, g) := by simp only [hget, ho2]
    rw [run_bind, this]
    dsimp only
    rw [run_bind, h1, show Nat.beq ver ver = true by simp, h2]
    rfl
  rcases hal with rfl | ⟨rfl, a1, e', dells, gix, cells', fix', a2, a3, a4⟩
  · rw [run_bind, key cells fix hv hb]
    exact k2 g hg
  · rw [hb] at a2
    injection a2 with a5 a6 a7
    subst a5 a6
    rw [run_bind, key cells' fix' (a1.trans hv) a3]
    dsimp only
    rw [← hf rfl esz cells fix cells' fix' a4]
    exact k2 g hg
theorem Reads.map (id : Nat) (c : Bool) (hm : (c, id) ∈ ids) : Reads ids (mapOf id) := fun h v h' e => by
  obtain ⟨rfl, o, ho, hb⟩ := mapOf_some e
  refine ⟨rfl, fun g hg => ?_⟩
  obtain ⟨o2, ho2, hal⟩ := hg c id hm o ho
  rcases hal with rfl | ⟨_, _, e', dells, gix, cells', fix', a2, _⟩
  · unfold mapOf
    have : (AM.hget id).run g = some (o2, g) := by simp only [hget, ho2]
    rw [run_bind, this]
    dsimp only
    rw [hb]
    rfl
  · rw [hb] at a2; cases a2
theorem Reads.row' (id ver : Nat) (c : Bool) (hm : (c, id) ∈ ids) (b : AM β) (hb : Reads ids b) : Reads ids (do let _ ← rowOf id ver; b) := Reads.row id ver c hm (fun _ _ _ _ _ _ _ => rfl) (fun _ => hb)

variable {P : Program}
theorem Reads.sz (t : TypeId) : Reads ids (szOf P t) := Reads.ofOption _
theorem Reads.bytes (t : TypeId) : Reads ids (bytesOf P t) := Reads.ofOption _
theorem Reads.elem (t : TypeId) : Reads ids (elemOf P t) := by unfold elemOf; (repeat' first|exact Reads.pure _|exact Reads.fail|exact Reads.guard _|exact Reads.ofOption _|(refine Reads.bind ?_ fun _ => ?_)|split)
theorem Reads.zero (t : TypeId) : Reads ids (zeroOf P t) := by unfold zeroOf; (repeat' first|exact Reads.pure _|exact Reads.fail|exact Reads.guard _|exact Reads.ofOption _|(refine Reads.bind ?_ fun _ => ?_)|split)
theorem Reads.aread (t : TypeId) (cells : List AV) : Reads ids (aread P t cells) := by unfold Am.aread underOf szOf; (repeat' first|exact Reads.pure _|exact Reads.fail|exact Reads.guard _|exact Reads.ofOption _|(refine Reads.bind ?_ fun _ => ?_)|split)
theorem Reads.afill (place : Nat → Option (Nat × Nat)) : ∀ (cells : List AV) (l : List (Nat × AV)), Reads ids (afill place cells l) := by
  intro cells l
  induction l generalizing cells with
  | nil => exact Reads.pure _
  | cons x r ih =>
    obtain ⟨i, v⟩ := x
    simp only [Am.afill]
    split
    · exact Reads.fail
    · exact Reads.bind (Reads.guard _) fun _ => ih _
theorem Reads.build (t : TypeId) (l : List (Nat × AV)) : Reads ids (abuild P t l) := by
  unfold abuild
  refine Reads.bind (Reads.zero _) fun _ => ?_
  split
  · exact Reads.bind (Reads.guard _) fun _ => Reads.bind (Reads.afill _ _ _) fun _ => Reads.pure _
  · exact Reads.bind (Reads.sz _) fun _ => Reads.bind (Reads.afill _ _ _) fun _ => Reads.pure _
  · exact Reads.fail
theorem Reads.buildSlice (t : TypeId) (len : Nat) (l : List (Nat × AV)) : Reads ids (abuildSlice P t len l) := by
  unfold abuildSlice
  refine Reads.bind (Reads.elem _) fun _ => Reads.bind (Reads.sz _) fun _ => Reads.bind (Reads.guard _) fun _ => Reads.bind ?_ fun _ => Reads.bind (Reads.guard _) fun _ => Reads.bind (Reads.afill _ _ _) fun _ => Reads.pure _
  unfold zeroUnless
  split
  · exact Reads.pure _
  · exact Reads.zero _

theorem Reads.int (op : BinOp) (k : IntKind) (x y : Int) : Reads ids (aintop op k x y) := by unfold aintop; (repeat' first|exact Reads.pure _|exact Reads.fail|exact Reads.guard _|exact Reads.ofOption _|(refine Reads.bind ?_ fun _ => ?_)|split)
theorem Reads.shift (op : BinOp) (k : IntKind) (x y : Int) : Reads ids (ashift op k x y) := by unfold ashift; (repeat' first|exact Reads.pure _|exact Reads.fail|exact Reads.guard _|exact Reads.ofOption _|(refine Reads.bind ?_ fun _ => ?_)|split)
theorem Reads.strop (op : BinOp) (x y : List UInt8) : Reads ids (astrop op x y) := by unfold astrop; (repeat' first|exact Reads.pure _|exact Reads.fail|exact Reads.guard _|exact Reads.ofOption _|(refine Reads.bind ?_ fun _ => ?_)|split)
theorem Reads.un (op : UnOp) (x : AV) : Reads ids (aun op x) := by
  unfold aun
  repeat' first | exact Reads.pure _ | exact Reads.fail | exact Reads.int _ _ _ _ | split
theorem Reads.abytes (x : AV) (hx : ∀ id ∈ avIds x, (true, id) ∈ ids) : Reads ids (abytes x) := by
  unfold Am.abytes sliceCells
  refine Reads.bind ?_ fun _ => Reads.ofOption _
  split
  · exact Reads.bind (Reads.guard _) fun _ => Reads.pure _
  · exact Reads.row _ _ true (hx _ (by simp [avIds])) (fun hc => by cases hc) fun _ => Reads.bind (Reads.guard _) fun _ => Reads.pure _
  · exact Reads.fail
theorem Reads.convert (s d : TypeId) (x : AV) (hx : ∀ id ∈ avIds x, (true, id) ∈ ids) : Reads ids (aconvert P s d x) := by
  unfold aconvert
  split
  · exact Reads.pure _
  · exact Reads.pure _
  · exact Reads.bind (Reads.guard _) fun _ => Reads.pure _
  · split
    · exact Reads.bind (Reads.abytes _ hx) fun _ => Reads.pure _
    · exact Reads.fail
  · split
    · exact Reads.pure _
    · exact Reads.fail
  · exact Reads.fail
theorem Reads.fieldAt (t : TypeId) (f : Nat) : Reads ids (fieldAt P t f) := by unfold Am.fieldAt; (repeat' first|exact Reads.pure _|exact Reads.fail|exact Reads.guard _|exact Reads.ofOption _|(refine Reads.bind ?_ fun _ => ?_)|split)
theorem Reads.fieldAddr (t : TypeId) (x : AV) (f : Nat) : Reads ids (afieldAddr P t x f) := by
  unfold afieldAddr
  refine Reads.bind (Reads.fieldAt _ _) fun _ => Reads.bind (Reads.sz _) fun _ => ?_
  (repeat' first|exact Reads.pure _|exact Reads.fail|exact Reads.guard _|exact Reads.ofOption _|(refine Reads.bind ?_ fun _ => ?_)|split)
theorem Reads.field (t : TypeId) (x : AV) (f : Nat) : Reads ids (afield P t x f) := by
  unfold afield
  refine Reads.bind (Reads.fieldAt _ _) fun _ => ?_
  split
  · exact Reads.bind (Reads.guard _) fun _ => Reads.aread _ _
  · exact Reads.fail
theorem Reads.index (t : TypeId) (x i : AV) : Reads ids (aindex P t x i) := by
  unfold aindex
  split
  · split
    · exact Reads.bind (Reads.sz _) fun _ => Reads.bind (Reads.guard _) fun _ => Reads.aread _ _
    · (repeat' first|exact Reads.pure _|exact Reads.fail|exact Reads.guard _|exact Reads.ofOption _|(refine Reads.bind ?_ fun _ => ?_)|split)
    · exact Reads.fail
  · exact Reads.fail

theorem Reads.nilKind (c : Bool) (d : TypeDesc) (x : AV) (hm : ∀ id ∈ avIds x, (c, id) ∈ ids) : Reads ids (nilKind d x) := by
  unfold Am.nilKind
  split
  case h_3 => exact Reads.row' _ _ c (hm _ (by simp [avIds])) _ (Reads.pure _)
  case h_7 => exact Reads.row' _ _ c (hm _ (by simp [avIds])) _ (Reads.pure _)
  case h_9 => exact Reads.there _ c (hm _ (by simp [avIds])) (fun _ _ => rfl) (fun _ => Reads.pure _)
  all_goals (repeat' first|exact Reads.pure _|exact Reads.fail|exact Reads.guard _|exact Reads.ofOption _|(refine Reads.bind ?_ fun _ => ?_)|split)
theorem Reads.equal (c : Bool) (t : TypeId) (x y : AV) (hx : ∀ id ∈ avIds x, (c, id) ∈ ids) (hy : ∀ id ∈ avIds y, (c, id) ∈ ids) : Reads ids (aequal P t x y) := by
  unfold aequal
  split
  · (repeat' first|exact Reads.pure _|exact Reads.fail|exact Reads.guard _|exact Reads.ofOption _|(refine Reads.bind ?_ fun _ => ?_)|split)
  · (repeat' first|exact Reads.pure _|exact Reads.fail|exact Reads.guard _|exact Reads.ofOption _|(refine Reads.bind ?_ fun _ => ?_)|split)
  · exact Reads.bind (Reads.nilKind c _ _ hx) fun _ => Reads.bind (Reads.nilKind c _ _ hy) fun _ => Reads.bind (Reads.guard _) fun _ => Reads.pure _
  · (repeat' first|exact Reads.pure _|exact Reads.fail|exact Reads.guard _|exact Reads.ofOption _|(refine Reads.bind ?_ fun _ => ?_)|split)
theorem Reads.bin (c : Bool) (op : BinOp) (t : TypeId) (x y : AV) (hx : ∀ id ∈ avIds x, (c, id) ∈ ids) (hy : ∀ id ∈ avIds y, (c, id) ∈ ids) : Reads ids (abin P op t x y) := by
  unfold abin
  split
  · exact Reads.shift _ _ _ _
  · exact Reads.shift _ _ _ _
  · split
    · exact Reads.int _ _ _ _
    · exact Reads.fail
  · exact Reads.strop _ _ _
  · exact Reads.bind (Reads.equal c _ _ _ hx hy) fun _ => Reads.pure _
  · exact Reads.bind (Reads.equal c _ _ _ hx hy) fun _ => Reads.pure _
  · exact Reads.fail
theorem Reads.indexAddr (t : TypeId) (x i : AV) (hx : ∀ id ∈ avIds x, (false, id) ∈ ids) : Reads ids (aindexAddr P t x i) := by
  unfold aindexAddr
  split
  · split
    · exact Reads.bind (Reads.sz _) fun _ => by (repeat' first|exact Reads.pure _|exact Reads.fail|exact Reads.guard _|exact Reads.ofOption _|(refine Reads.bind ?_ fun _ => ?_)|split)
    · refine Reads.bind (Reads.sz _) fun _ => Reads.row _ _ false (hx _ (by simp [avIds])) (fun _ e cells fix cells' fix' hl => ?_) fun _ => ?_
      · dsimp only; rw [hl]
      · (repeat' first|exact Reads.pure _|exact Reads.fail|exact Reads.guard _|exact Reads.ofOption _|(refine Reads.bind ?_ fun _ => ?_)|split)
    · exact Reads.bind (Reads.sz _) fun _ => by (repeat' first|exact Reads.pure _|exact Reads.fail|exact Reads.guard _|exact Reads.ofOption _|(refine Reads.bind ?_ fun _ => ?_)|split)
    · exact Reads.bind (Reads.sz _) fun _ => by (repeat' first|exact Reads.pure _|exact Reads.fail|exact Reads.guard _|exact Reads.ofOption _|(refine Reads.bind ?_ fun _ => ?_)|split)
    · exact Reads.fail
  · exact Reads.fail
theorem Reads.bound (m o : Nat) (x : Option AV) : Reads ids (abound m o x) := by unfold abound; (repeat' first|exact Reads.pure _|exact Reads.fail|exact Reads.guard _|exact Reads.ofOption _|(refine Reads.bind ?_ fun _ => ?_)|split)
theorem Reads.bounds (n m : Nat) (lo hi : Option AV) : Reads ids (abounds n m lo hi) :=
  Reads.bind (Reads.bound _ _ _) fun _ => Reads.bind (Reads.bound _ _ _) fun _ => Reads.pure _
theorem Reads.slice (t : TypeId) (x : AV) (lo hi mx : Option AV) (hx : ∀ id ∈ avIds x, (false, id) ∈ ids) : Reads ids (aslice P t x lo hi mx) := by
  unfold aslice
  split
  · refine Reads.bind (Reads.bounds _ _ _ _) fun _ => ?_
    dsimp only
    (repeat' first|exact Reads.pure _|exact Reads.fail|exact Reads.guard _|exact Reads.ofOption _|(refine Reads.bind ?_ fun _ => ?_)|split)
  · exact Reads.bind (Reads.elem _) fun _ => Reads.bind (Reads.sz _) fun _ => Reads.bind (Reads.guard _) fun _ => Reads.bind (Reads.bounds _ _ _ _) fun _ => Reads.pure _
  · refine Reads.bind (Reads.elem _) fun _ => Reads.bind (Reads.sz _) fun _ => Reads.row _ _ false (hx _ (by simp [avIds])) (fun _ e cells fix cells' fix' hl => ?_) fun _ => ?_
    · dsimp only; rw [hl]
    · exact Reads.bind (Reads.guard _) fun _ => Reads.bind (Reads.bounds _ _ _ _) fun _ => Reads.pure _
  · split
    · exact Reads.bind (Reads.elem _) fun _ => Reads.bind (Reads.sz _) fun _ => Reads.pure _
    · exact Reads.fail
  · split
    · exact Reads.bind (Reads.elem _) fun _ => Reads.bind (Reads.sz _) fun _ => Reads.row' _ _ false (hx _ (by simp [avIds])) _ (Reads.pure _)
    · exact Reads.fail
  · exact Reads.fail
theorem Reads.load (t : TypeId) (x : AV) (hx : ∀ id ∈ avIds x, (true, id) ∈ ids) : Reads ids (aload P t x) := by
  unfold aload
  split
  · exact Reads.aread _ _
  · exact Reads.row _ _ true (hx _ (by simp [avIds])) (fun hc => by cases hc) fun _ => Reads.aread _ _
  · exact Reads.fail
theorem Reads.lookup (t : TypeId) (x k : AV) (ok : Bool) (hx : ∀ id ∈ avIds x, (true, id) ∈ ids) : Reads ids (alookup P t x k ok) := by
  unfold alookup
  split
  · refine Reads.bind (Reads.guard _) fun _ => Reads.bind ?_ fun _ => Reads.bind (Reads.ofOption _) fun _ => Reads.bind (Reads.zero _) fun _ => Reads.pure _
    unfold entriesOf
    split
    · exact Reads.pure _
    · exact Reads.map _ true (hx _ (by simp [avIds]))
    · exact Reads.fail
  · exact Reads.fail
theorem Reads.len (t : TypeId) (x : AV) (hx : ∀ id ∈ avIds x, (false, id) ∈ ids) : Reads ids (alen P t x) := by
  unfold alen
  split
  · (repeat' first|exact Reads.pure _|exact Reads.fail|exact Reads.guard _|exact Reads.ofOption _|(refine Reads.bind ?_ fun _ => ?_)|split)
  · (repeat' first|exact Reads.pure _|exact Reads.fail|exact Reads.guard _|exact Reads.ofOption _|(refine Reads.bind ?_ fun _ => ?_)|split)
  · (repeat' first|exact Reads.pure _|exact Reads.fail|exact Reads.guard _|exact Reads.ofOption _|(refine Reads.bind ?_ fun _ => ?_)|split)
  · split
    · (repeat' first|exact Reads.pure _|exact Reads.fail|exact Reads.guard _|exact Reads.ofOption _|(refine Reads.bind ?_ fun _ => ?_)|split)
    · exact Reads.row' _ _ false (hx _ (by simp [avIds])) _ (Reads.pure _)
    · (repeat' first|exact Reads.pure _|exact Reads.fail|exact Reads.guard _|exact Reads.ofOption _|(refine Reads.bind ?_ fun _ => ?_)|split)
  · split
    · (repeat' first|exact Reads.pure _|exact Reads.fail|exact Reads.guard _|exact Reads.ofOption _|(refine Reads.bind ?_ fun _ => ?_)|split)
    · exact Reads.bind (Reads.map _ false (hx _ (by simp [avIds]))) fun _ => Reads.pure _
    · (repeat' first|exact Reads.pure _|exact Reads.fail|exact Reads.guard _|exact Reads.ofOption _|(refine Reads.bind ?_ fun _ => ?_)|split)
  · (repeat' first|exact Reads.pure _|exact Reads.fail|exact Reads.guard _|exact Reads.ofOption _|(refine Reads.bind ?_ fun _ => ?_)|split)
theorem Reads.max2 (b : Bool) (x y : AV) : Reads ids (amax2 b x y) := by unfold amax2; (repeat' first|exact Reads.pure _|exact Reads.fail|exact Reads.guard _|exact Reads.ofOption _|(refine Reads.bind ?_ fun _ => ?_)|split)
theorem Reads.fold (b : Bool) : ∀ (l : List AV) (x : AV), Reads ids (afold b x l) := by
  intro l
  induction l with
  | nil => exact fun x => Reads.pure _
  | cons y r ih => exact fun x => Reads.bind (Reads.max2 _ _ _) fun _ => ih _

variable {pol : Pol} {call : Calling} {fn : FuncId}

/-- AN OPERATION OF CLASS 0 READS WHAT ITS OPERANDS NAME -/
theorem aop_reads {o : Oper} (h0 : opClass o.op = 0) (ρ : Operand → AV) : Reads (operIds ρ o) (aop P pol call fn o ρ) := by
  obtain ⟨dst, op, ty, pos, after, gd⟩ := o
  have one : ∀ (c : Bool), looksIn op = some c → ∀ x ∈ op.operands, ∀ id ∈ avIds (ρ x), (c, id) ∈ operIds ρ ⟨dst, op, ty, pos, after, gd⟩ := by
    intro c hc x hx id hid
    unfold operIds
    rw [hc]
    exact List.mem_flatMap.2 ⟨x, by simpa using hx, List.mem_map.2 ⟨id, hid, rfl⟩⟩
  cases op with
  | move x => exact Reads.pure _
  | assign x => exact Reads.pure _
  | pick c a b => simp only [aop]; (repeat' first|exact Reads.pure _|exact Reads.fail|exact Reads.guard _|exact Reads.ofOption _|(refine Reads.bind ?_ fun _ => ?_)|split)
  | build t parts => exact Reads.build _ _
  | load t a => exact Reads.load _ _ (one true rfl a (by simp [Op.operands]))
  | nilCheck x => simp only [aop]; (repeat' first|exact Reads.pure _|exact Reads.fail|exact Reads.guard _|exact Reads.ofOption _|(refine Reads.bind ?_ fun _ => ?_)|split)
  | binOp op t x y u => exact Reads.bin false _ _ _ _ (one false rfl x (by simp [Op.operands])) (one false rfl y (by simp [Op.operands]))
  | unOp op t x => exact Reads.un _ _
  | convert s d x => exact Reads.convert _ _ _ (one true rfl x (by simp [Op.operands]))
  | makeInterface t x => simp only [aop]; (repeat' first|exact Reads.pure _|exact Reads.fail|exact Reads.guard _|exact Reads.ofOption _|(refine Reads.bind ?_ fun _ => ?_)|split)
  | makeFunc f first captured =>
    cases f with
    | func f => exact Reads.pure _
    | _ => exact Reads.fail
  | slice t x lo hi mx => exact Reads.slice _ _ _ _ _ (one false rfl x (by simp [Op.operands]))
  | fieldAddr s x f => exact Reads.fieldAddr _ _ _
  | field s x f => exact Reads.field _ _ _
  | indexAddr t x i => exact Reads.indexAddr _ _ _ (one false rfl x (by simp [Op.operands]))
  | index t x i => exact Reads.index _ _ _
  | lookup t x i ok => exact Reads.lookup _ _ _ _ (one true rfl x (by simp [Op.operands]))
  | extract t i => simp only [aop]; (repeat' first|exact Reads.pure _|exact Reads.fail|exact Reads.guard _|exact Reads.ofOption _|(refine Reads.bind ?_ fun _ => ?_)|split)
  | call c =>
    simp only [opClass] at h0
    cases hc : c.callee with
    | value f => rw [hc] at h0; cases h0
    | invoke r n => rw [hc] at h0; cases h0
    | builtin b =>
      simp only [aop, hc]
      have mem : ∀ x l, c.args.toList.map ρ = x :: l → ∃ y ∈ c.args.toList, ρ y = x := fun x l e => List.mem_map.1 (by rw [e]; exact List.mem_cons_self)
      have arg : ∀ (k : Bool), looksIn (.call c) = some k → ∀ x l, c.args.toList.map ρ = x :: l → ∀ id ∈ avIds x, (k, id) ∈ operIds ρ ⟨dst, .call c, ty, pos, after, gd⟩ := by
        intro k hk x l e id hid
        obtain ⟨y, hy, rfl⟩ := mem x l e
        exact one k hk y (by simpa [Op.operands, Call.operands] using .inr (by simpa using hy)) id hid
      generalize hl : c.args.toList.map ρ = l at arg
      unfold abuiltin
      split
      · exact Reads.len _ _ (arg false (by simp [looksIn, hc]) _ _ rfl)
      · rw [hc] at h0; cases h0
      · rw [hc] at h0; cases h0
      · rw [hc] at h0; cases h0
      · rw [hc] at h0; cases h0
      · exact Reads.fold _ _ _
      · exact Reads.fold _ _ _
      · split
        · (repeat' first|exact Reads.pure _|exact Reads.fail|exact Reads.guard _|exact Reads.ofOption _|(refine Reads.bind ?_ fun _ => ?_)|split)
        · (repeat' first|exact Reads.pure _|exact Reads.fail|exact Reads.guard _|exact Reads.ofOption _|(refine Reads.bind ?_ fun _ => ?_)|split)
        · (repeat' first|exact Reads.pure _|exact Reads.fail|exact Reads.guard _|exact Reads.ofOption _|(refine Reads.bind ?_ fun _ => ?_)|split)
        · exact Reads.row _ _ true (arg true (by simp [looksIn, hc]) _ _ rfl _ (by simp [avIds])) (fun hc => by cases hc) fun _ => by (repeat' first|exact Reads.pure _|exact Reads.fail|exact Reads.guard _|exact Reads.ofOption _|(refine Reads.bind ?_ fun _ => ?_)|split)
        · (repeat' first|exact Reads.pure _|exact Reads.fail|exact Reads.guard _|exact Reads.ofOption _|(refine Reads.bind ?_ fun _ => ?_)|split)
      · (repeat' first|exact Reads.pure _|exact Reads.fail|exact Reads.guard _|exact Reads.ofOption _|(refine Reads.bind ?_ fun _ => ?_)|split)
  | _ => first | (cases h0; done) | exact Reads.fail

/-! ### what is made -/
/-- makes one object at most, looks at none -/
def Makes {α : Type} (m : AM α) : Prop := ∀ h v h', m.run h = some (v, h') → ∀ g : Hp, g.next = h.next → ∃ g', m.run g = some (v, g') ∧
  ((h' = h ∧ g' = g) ∨ ∃ b : Body × Option Nat, h' = ⟨h.obj.set h.next (some ⟨0, 0, b.1, b.2⟩), h.next + 1⟩ ∧ g' = ⟨g.obj.set g.next (some ⟨0, 0, b.1, b.2⟩), g.next + 1⟩)

theorem Makes.reads {m : AM α} (r : Reads [] m) : Makes m := fun h v h' e g _ => by
  obtain ⟨rfl, k⟩ := r h v h' e
  exact ⟨g, k g (fun c id hm => by cases hm), .inl ⟨rfl, rfl⟩⟩
theorem Makes.bind {m : AM α} {f : α → AM β} (r : Reads [] m) (b : ∀ x, Makes (f x)) : Makes (m >>= f) := fun h v h' e g hg => by
  obtain ⟨x, h1, e1, e2⟩ := bind_some e
  obtain ⟨rfl, k⟩ := r _ _ _ e1
  obtain ⟨g', k1, k2⟩ := b x _ _ _ e2 g hg
  refine ⟨g', ?_, k2⟩
  rw [run_bind, k g (fun c id hm => by cases hm)]
  exact k1
theorem Makes.allocT (b : Body) (ty : Option Nat) (f : Nat → α) : Makes (do let id ← AM.hallocT b ty; Pure.pure (f id)) := fun h v h' e g hg => by
  obtain ⟨id, h1, e1, e2⟩ := bind_some e
  obtain ⟨rfl, rfl⟩ := hallocT_some e1
  obtain ⟨rfl, rfl⟩ := pure_some e2
  exact ⟨_, by rw [run_bind]; simp only [AM.hallocT]; rw [hg]; rfl, .inr ⟨(b, ty), rfl, by rw [hg]⟩⟩
theorem Makes.alloc (b : Body) (f : Nat → α) : Makes (do let id ← AM.halloc b; Pure.pure (f id)) := Makes.allocT b none f

/-- AN OPERATION OF CLASS 1 MAKES ONE OBJECT AT MOST -/
theorem aop_makes {o : Oper} (h1 : opClass o.op = 1) (ρ : Operand → AV) : Makes (aop P pol call fn o ρ) := by
  obtain ⟨dst, op, ty, pos, after, gd⟩ := o
  cases op with
  | alloc t => exact Makes.bind (Reads.zero _) fun _ => Makes.allocT _ _ _
  | box t x => exact Makes.bind (Reads.guard _) fun _ => Makes.allocT _ _ _
  | makeMap t r =>
    cases r with
    | none => exact Makes.alloc _ _
    | some _ => exact Makes.reads Reads.fail
  | makeSlice t l c =>
    simp only [aop]
    split
    · exact Makes.bind (Reads.elem _) fun _ => Makes.bind (Reads.sz _) fun _ => Makes.bind (Reads.bytes _) fun _ => Makes.bind (Reads.zero _) fun _ => Makes.bind (Reads.guard _) fun _ => Makes.alloc _ _
    · exact Makes.reads Reads.fail
  | buildSlice t len parts =>
    simp only [aop]
    refine Makes.bind (Reads.buildSlice _ _ _) fun x => ?_
    split
    · exact Makes.alloc _ _
    · exact Makes.reads (Reads.pure _)
  | range t x =>
    simp only [aop]
    unfold arange
    split
    · exact Makes.alloc _ _
    · exact Makes.reads Reads.fail
  | call c =>
    simp only [opClass] at h1
    split at h1 <;> cases h1
  | _ => cases h1

/-! ### only the operands count -/
theorem aop_congr {ρ ρ' : Operand → AV} (o : Oper) (h : ∀ x ∈ o.op.operands, ρ x = ρ' x) : aop P pol call fn o ρ = aop P pol call fn o ρ' := by
  obtain ⟨dst, op, ty, pos, after, gd⟩ := o
  have pairs : ∀ ps : Array (Nat × Operand), (∀ x ∈ ps.map (·.2), ρ x = ρ' x) →
      (ps.toList.map fun (i, x) => (i, ρ x)) = (ps.toList.map fun (i, x) => (i, ρ' x)) := fun ps hp =>
    List.map_congr_left fun p hm => by
      obtain ⟨i, x⟩ := p
      simp only [hp x (Array.mem_map.2 ⟨(i, x), by simpa using hm, rfl⟩)]
  have many : ∀ xs : Array Operand, (∀ x ∈ xs, ρ x = ρ' x) → xs.toList.map ρ = xs.toList.map ρ' := fun xs hp =>
    List.map_congr_left fun x hm => hp x (by simpa using hm)
  have opt : ∀ x : Option Operand, (∀ y, x = some y → ρ y = ρ' y) → x.map ρ = x.map ρ' := fun x hp => by
    cases x with
    | none => rfl
    | some y => simp [hp y rfl]
  cases op <;> simp only [Op.operands] at h <;> simp only [aop]
  case build t ps => rw [pairs ps fun x hx => h x (by simpa using hx)]
  case buildSlice t n ps => rw [pairs ps fun x hx => h x (by simpa using hx)]
  case makeFunc f first captured =>
    cases f with
    | func f => simp only; rw [many first fun x hx => h x (by simp [hx]), many captured fun x hx => h x (by simp [hx])]
    | _ => rfl
  case call c =>
    cases hc : c.callee with
    | value f => simp only; rw [h f (by simp [Call.operands, hc]), many c.args fun x hx => h x (by simp [Call.operands, hx])]
    | builtin b => simp only; rw [many c.args fun x hx => h x (by simp [Call.operands, hx])]
    | invoke r n => simp only; rw [h r (by simp [Call.operands, hc]), many c.args fun x hx => h x (by simp [Call.operands, hx])]
  case makeMap t r => cases r <;> rfl
  case slice t x lo hi mx => rw [h x (by simp), opt lo fun y hy => h y (by simp [hy]), opt hi fun y hy => h y (by simp [hy]), opt mx fun y hy => h y (by simp [hy])]
  all_goals (first | rfl | (simp_all; done))
end
end Go.Am
namespace Go.Am
open Go AM

/-! ### what comes ahead -/
theorem testBit_edge {acc : List Nat} {e : Edge} {j : Nat} (h : Nat.testBit (edgeMask acc e) j = true) : Region.binds .any e = true ∧ (e.on = j ∨ Nat.testBit (acc.getD e.on 0) j = true) := by
  unfold edgeMask at h
  cases hb : Region.binds .any e with
  | false => rw [hb] at h; simp at h
  | true =>
    rw [hb] at h
    simp only [cond_true] at h
    change Nat.testBit (2 ^ e.on ||| acc.getD e.on 0) j = true at h
    rw [Nat.testBit_or, Bool.or_eq_true, Nat.testBit_two_pow] at h
    rcases h with h | h
    · exact ⟨rfl, .inl (by simpa using h)⟩
    · exact ⟨rfl, .inr h⟩

theorem testBit_mask {acc : List Nat} {o : Oper} {j : Nat} (h : Nat.testBit (maskOf acc o) j = true) : ∃ e ∈ o.after, Region.binds .any e = true ∧ (e.on = j ∨ Nat.testBit (acc.getD e.on 0) j = true) := by
  have key : ∀ (l : List Edge) (s : Nat), Nat.testBit (l.foldl (fun s e => Nat.lor s (edgeMask acc e)) s) j = true → Nat.testBit s j = true ∨ ∃ e ∈ l, Nat.testBit (edgeMask acc e) j = true := by
    intro l
    induction l with
    | nil => exact fun s h => .inl h
    | cons e r ih =>
      intro s h
      rcases ih _ h with h1 | ⟨e', h1, h2⟩
      · change Nat.testBit (s ||| edgeMask acc e) j = true at h1
        rw [Nat.testBit_or, Bool.or_eq_true] at h1
        rcases h1 with h1 | h1
        · exact .inl h1
        · exact .inr ⟨e, List.mem_cons_self, h1⟩
      · exact .inr ⟨e', List.mem_cons_of_mem _ h1, h2⟩
  rcases key _ _ h with h1 | ⟨e, h1, h2⟩
  · simp at h1
  · exact ⟨e, by simpa using h1, testBit_edge h2⟩

def masksFrom (acc : List Nat) (ops : List Oper) : List Nat := ops.foldl (fun acc o => acc ++ [maskOf acc o]) acc

theorem masksFrom_take : ∀ (ops : List Oper) (acc : List Nat), (masksFrom acc ops).take acc.length = acc
  | [], acc => by simp [masksFrom]
  | o :: r, acc => by
    have h := masksFrom_take r (acc ++ [maskOf acc o])
    have h2 := congrArg (List.take acc.length) h
    rw [List.take_take] at h2
    simp only [List.length_append, List.length_singleton, List.take_left'] at h2
    rw [Nat.min_eq_left (by omega)] at h2
    exact h2

theorem masksFrom_at : ∀ (ops : List Oper) (acc : List Nat) (i : Nat) (o : Oper), ops[i]? = some o →
    (masksFrom acc ops).getD (acc.length + i) 0 = maskOf ((masksFrom acc ops).take (acc.length + i)) o
  | [], _, _, _, h => by simp at h
  | x :: r, acc, i, o, h => by
    cases i with
    | zero =>
      simp only [List.getElem?_cons_zero, Option.some.injEq] at h
      subst h
      rw [Nat.add_zero, masksFrom_take (x :: r) acc]
      have h := masksFrom_take r (acc ++ [maskOf acc x])
      change (masksFrom (acc ++ [maskOf acc x]) r).getD acc.length 0 = _
      have h2 : ((masksFrom (acc ++ [maskOf acc x]) r).take (acc ++ [maskOf acc x]).length)[acc.length]? = some (maskOf acc x) := by rw [h]; simp
      rw [List.getElem?_take] at h2
      split at h2
      · rw [List.getD_eq_getElem?_getD, h2]; rfl
      · cases h2
    | succ i =>
      simp only [List.getElem?_cons_succ] at h
      have := masksFrom_at r (acc ++ [maskOf acc x]) i o h
      simp only [List.length_append, List.length_singleton] at this
      rw [show acc.length + (i + 1) = acc.length + 1 + i by omega]
      exact this

theorem ahead_spec {L : List Oper} {j i : Nat} {o : Oper} (ho : L[i]? = some o) (h : ahead (masks L) j i = true) :
    ∃ e ∈ o.after, Region.binds .any e = true ∧ (e.on = j ∨ (e.on < i ∧ ahead (masks L) j e.on = true)) := by
  unfold ahead at h
  have h1 := masksFrom_at L [] i o ho
  simp only [List.length_nil, Nat.zero_add] at h1
  change Nat.testBit ((masksFrom [] L).getD i 0) j = true at h
  rw [h1] at h
  obtain ⟨e, h2, h3, h4⟩ := testBit_mask h
  refine ⟨e, h2, h3, ?_⟩
  rcases h4 with h4 | h4
  · exact .inl h4
  · rw [List.getD_eq_getElem?_getD, List.getElem?_take] at h4
    split at h4
    · rename_i hlt
      refine .inr ⟨hlt, ?_⟩
      unfold ahead
      rw [List.getD_eq_getElem?_getD]
      exact h4
    · simp at h4

/-- what is closed under 'after' is closed under 'ahead' -/
theorem ahead_closed {L : List Oper} {S : Nat → Prop} (hS : ∀ i o, L[i]? = some o → S i → ∀ e ∈ o.after, Region.binds .any e = true → S e.on) {j : Nat} : ∀ (i : Nat),
    (∀ o, L[i]? = some o → ∀ e ∈ o.after, Region.binds .any e = true → S e.on) → (∃ o, L[i]? = some o) → ahead (masks L) j i = true → S j := by
  intro i
  induction i using Nat.strongRecOn with
  | _ i ih =>
    rintro hi ⟨o, ho⟩ h
    obtain ⟨e, h1, h2, h3⟩ := ahead_spec ho h
    rcases h3 with rfl | ⟨h3, h4⟩
    · exact hi o ho e h1 h2
    · have hlt : e.on < L.length := by have := (List.getElem?_eq_some_iff.1 ho).1; omega
      exact ih e.on h3 (fun o' ho' => hS _ _ ho' (hi o ho e h1 h2)) ⟨_, List.getElem?_eq_getElem hlt⟩ h4

/-! ### what the order says -/
theorem inList_iff (t : Nat) (l : List Nat) : inList t l = true ↔ t ∈ l := by
  induction l with
  | nil => simp [inList]
  | cons u r ih => simp only [inList, Bool.or_eq_true, Nat.beq_eq, ih, List.mem_cons]; exact ⟨fun h => h.elim (fun e => .inl e.symm) .inr, fun h => h.elim (fun e => .inl e.symm) .inr⟩
theorem dstIn_false {o : Oper} {l : List Nat} (h : dstIn o l = false) {d : Nat} (hd : o.dst = some d) : d ∉ l := by
  unfold dstIn at h
  rw [hd] at h
  intro hm
  rw [← inList_iff] at hm
  simp only at h
  rw [h] at hm; cases hm

structure Stands (L : List Oper) (ms l : List Nat) : Prop where
  all : ∀ i, i < L.length → i ∈ l
  pair : ∀ (p q i j : Nat) (a b : Oper), p < q → l[p]? = some i → l[q]? = some j → L[i]? = some a → L[j]? = some b →
    i ≠ j ∧ ahead ms j i = false ∧ (ahead ms i j = true ∨ opClass a.op = 0 ∨ opClass b.op = 1) ∧
    (∀ d, b.dst = some d → d ∈ looksAt L a → ahead ms i j = true) ∧ (∀ d, b.dst = some d → a.dst ≠ some d) ∧ (∀ d, a.dst = some d → d ∈ looksAt L b → ahead ms i j = true)
  closed : ∀ (p i : Nat) (o : Oper), l[p]? = some i → L[i]? = some o → ∀ e ∈ o.after, Region.binds .any e = true → ∃ q, q < p ∧ l[q]? = some e.on

theorem stands_pair {L : List Oper} {ms : List Nat} : ∀ (l : List Nat), standsFrom L ms l = true → ∀ (p q i j : Nat), p < q → l[p]? = some i → l[q]? = some j →
    mayStand L ms i j = true ∧ ahead ms j i = false ∧ tidy L ms i j = true ∧ Nat.beq i j = false
  | [], _, p, q, i, j, _, hp, _ => by simp at hp
  | x :: r, h, p, q, i, j, hlt, hp, hq => by
    simp only [standsFrom, Bool.and_eq_true, List.all_eq_true] at h
    cases q with
    | zero => omega
    | succ q =>
      simp only [List.getElem?_cons_succ] at hq
      cases p with
      | zero =>
        simp only [List.getElem?_cons_zero, Option.some.injEq] at hp
        subst hp
        have := h.1 j (List.mem_of_getElem? hq)
        simp only [Bool.not_eq_true'] at this
        exact ⟨this.1.1.1, this.1.1.2, this.1.2, this.2⟩
      | succ p =>
        simp only [List.getElem?_cons_succ] at hp
        exact stands_pair r h.2 p q i j (by omega) hp hq

theorem closed_spec {L : List Oper} : ∀ (l done : List Nat), closedFrom L done l = true → ∀ (p i : Nat) (o : Oper), l[p]? = some i → L[i]? = some o → ∀ e ∈ o.after, Region.binds .any e = true →
    e.on ∈ done ∨ ∃ q, q < p ∧ l[q]? = some e.on
  | [], _, _, p, i, o, hp, _ => by simp at hp
  | x :: r, done, h, p, i, o, hp, ho => fun e he hb => by
    simp only [closedFrom, Bool.and_eq_true] at h
    cases p with
    | zero =>
      simp only [List.getElem?_cons_zero, Option.some.injEq] at hp
      subst hp
      have h1 := h.1
      rw [ho] at h1
      simp only [List.all_eq_true] at h1
      have := h1 e (by simpa using he)
      rw [hb] at this
      exact .inl ((inList_iff _ _).1 (by simpa using this))
    | succ p =>
      simp only [List.getElem?_cons_succ] at hp
      rcases closed_spec r (x :: done) h.2 p i o hp ho e he hb with h1 | ⟨q, h1, h2⟩
      · rcases List.mem_cons.1 h1 with h1 | h1
        · exact .inr ⟨0, by omega, by simp [h1]⟩
        · exact .inl h1
      · exact .inr ⟨q + 1, by omega, by simpa using h2⟩

theorem orderOf_spec {L : List Oper} {l : List Nat} (h : orderOf L = some l) : Stands L (masks L) l := by
  unfold orderOf at h
  simp only at h
  generalize canon L (masks L) = l' at h
  cases hc : (((List.range L.length).all fun i => inList i l') && standsFrom L (masks L) l' && closedFrom L [] l') with
  | false => rw [hc] at h; cases h
  | true =>
    rw [hc] at h
    cases h
    simp only [Bool.and_eq_true, List.all_eq_true] at hc
    obtain ⟨⟨h1, h2⟩, h3⟩ := hc
    refine ⟨fun i hi => (inList_iff _ _).1 (h1 i (List.mem_range.2 hi)), fun p q i j a b hlt hp hq ha hb => ?_, fun p i o hp ho e he hbd => ?_⟩
    · obtain ⟨m1, m2, m3, m4⟩ := stands_pair l h2 p q i j hlt hp hq
      have hne : i ≠ j := fun e => by subst e; simp at m4
      refine ⟨hne, m2, ?_, ?_⟩
      · unfold mayStand clsAt at m1
        rw [ha, hb] at m1
        simp only [Bool.or_eq_true] at m1
        rcases m1 with m1 | m1
        · exact .inl m1
        · split at m1
          · exact .inr (.inl ‹_›)
          · exact .inr (.inr ‹_›)
          · cases m1
      · unfold tidy at m3
        rw [ha, hb] at m3
        simp only [Bool.and_eq_true, Bool.not_eq_true', Bool.or_eq_true] at m3
        obtain ⟨⟨t1, t2⟩, t3⟩ := m3
        refine ⟨fun d hd hm => t1.elim (fun t1 => absurd hm (dstIn_false t1 hd)) id, fun d hd hd' => ?_, fun d hd hm => ?_⟩
        · exact dstIn_false t2 hd (by rw [hd']; simp)
        · rcases t3 with t3 | t3
          · exact absurd hm (dstIn_false t3 hd)
          · exact t3
    · rcases closed_spec l [] h3 p i o hp ho e he hbd with h4 | h4
      · cases h4
      · exact h4

/-! ### a run, step for step -/
def SameSign (c : Bool) (id : Nat) (h h2 : Hp) : Prop := ∃ o o2, h.get id = some o ∧ h2.get id = some o2 ∧ signOf c o = signOf c o2

theorem astamps_some : ∀ (l : List (Bool × Nat)) {h h' : Hp} {r : List (List Nat)}, (astamps l).run h = some (r, h') → h' = h ∧ r = l.map (fun x => ((h.get x.2).map (signOf x.1)).getD []) ∧ ∀ x ∈ l, ∃ o, h.get x.2 = some o := by
  intro l
  induction l with
  | nil => intro h h' r e; obtain ⟨rfl, rfl⟩ := pure_some e; exact ⟨rfl, rfl, fun _ hx => by cases hx⟩
  | cons x l ih =>
    intro h h' r e
    obtain ⟨c, id⟩ := x
    obtain ⟨o, h1, e1, e2⟩ := bind_some e
    obtain ⟨ho, rfl⟩ := hget_some e1
    obtain ⟨r', h2, e3, e4⟩ := bind_some e2
    obtain ⟨rfl, rfl, k⟩ := ih e3
    obtain ⟨rfl, rfl⟩ := pure_some e4
    refine ⟨rfl, by simp [ho], fun x hx => ?_⟩
    rcases List.mem_cons.1 hx with rfl | hx
    · exact ⟨o, ho⟩
    · exact k x hx

theorem astamps_same {l : List (Bool × Nat)} {h h1 h2 h3 : Hp} {r r' : List (List Nat)} (e : (astamps l).run h = some (r, h1)) (e' : (astamps l).run h2 = some (r', h3)) (hr : r = r') :
    ∀ c id, (c, id) ∈ l → SameSign c id h h2 := by
  obtain ⟨_, rfl, k⟩ := astamps_some l e
  obtain ⟨_, rfl, k'⟩ := astamps_some l e'
  intro c id hm
  obtain ⟨o, ho⟩ := k _ hm
  obtain ⟨o', ho'⟩ := k' _ hm
  have := List.map_inj_left.1 hr (c, id) hm
  simp only [ho, ho', Option.map_some, Option.getD_some] at this
  exact ⟨o, o', ho, ho', this⟩

theorem awanted_reads (L : List Oper) (T : Temps) (o : Oper) : Reads [] (awanted L T o) := by unfold awanted; (repeat' first|exact Reads.pure _|exact Reads.fail|exact Reads.guard _|exact Reads.ofOption _|(refine Reads.bind ?_ fun _ => ?_)|split)

structure Tr (P : Program) (pol : Pol) (call : Calling) (fn : FuncId) (nt : Nat) (L : List Oper) (ms l : List Nat) (seen : List (Nat × List (Bool × Nat))) (T0 : Temps) (h0 : Hp) (T' : Temps) (h' : Hp)
    (Ts : Nat → Temps) (hs : Nat → Hp) (vs : Nat → AV) (bs : Nat → Bool) : Prop where
  T0 : Ts 0 = T0
  h0 : hs 0 = h0
  Tn : Ts l.length = T'
  hn : hs l.length = h'
  step : ∀ p i, l[p]? = some i → ∃ o, L[i]? = some o ∧ (awanted L (Ts p) o).run (hs p) = some (bs p, hs p) ∧ Ts (p + 1) = tput? nt (Ts p) o.dst (vs p) ∧
    (bs p = false → hs (p + 1) = hs p ∧ vs p = .tuple []) ∧ (bs p = true → (aop P pol call fn o (aeval (Ts p))).run (hs p) = some (vs p, hs (p + 1)))
  stay0 : ∀ p i o, l[p]? = some i → L[i]? = some o → bs p = true → opClass o.op ≠ 0 → opClass o.op ≠ 1 → ∀ s ∈ seen, ahead ms s.1 i = false → ∀ c id, (c, id) ∈ s.2 → SameSign c id (hs p) (hs (p + 1))
  stay : ∀ p i o q j oj, l[p]? = some i → L[i]? = some o → bs p = true → opClass o.op ≠ 0 → opClass o.op ≠ 1 → q < p → l[q]? = some j → L[j]? = some oj → bs q = true → opClass oj.op = 0 → ahead ms j i = false →
    ∀ c id, (c, id) ∈ operIds (aeval (Ts q)) oj → SameSign c id (hs p) (hs (p + 1))

def conz {α : Type} (x : α) (f : Nat → α) : Nat → α
  | 0 => x
  | p + 1 => f p

theorem trace_of {P : Program} {pol : Pol} {call : Calling} {fn : FuncId} {nt : Nat} {L : List Oper} {ms : List Nat} {T' : Temps} {h' : Hp} : ∀ (l : List Nat) (seen : List (Nat × List (Bool × Nat))) (T : Temps) (h : Hp),
    (aopsD P pol call fn nt L ms l seen T).run h = some (T', h') → ∃ Ts hs vs bs, Tr P pol call fn nt L ms l seen T h T' h' Ts hs vs bs := by
  intro l
  induction l with
  | nil =>
    intro seen T h e
    obtain ⟨rfl, rfl⟩ := pure_some e
    exact ⟨fun _ => T', fun _ => h', fun _ => .undef, fun _ => false, rfl, rfl, rfl, rfl, fun p i hp => by simp at hp, fun p i o hp => by simp at hp, fun p i o q j oj hp => by simp at hp⟩
  | cons i rest ih =>
    intro seen T h e
    simp only [aopsD] at e
    cases ho : L[i]? with
    | none => rw [ho] at e; cases e
    | some o =>
      rw [ho] at e
      dsimp only at e
      obtain ⟨b, h1, e1, e2⟩ := bind_some e
      obtain ⟨hh, _⟩ := awanted_reads L T o _ _ _ e1
      subst hh
      -- what the rest gives
      have fin : ∀ (seen1 : List (Nat × List (Bool × Nat))) (v : AV) (h2 : Hp), (aopsD P pol call fn nt L ms rest seen1 (tput? nt T o.dst v)).run h2 = some (T', h') →
          (b = false → h2 = h1 ∧ v = .tuple []) → (b = true → (aop P pol call fn o (aeval T)).run h1 = some (v, h2)) → (∀ s ∈ seen, s ∈ seen1) → (b = true → opClass o.op = 0 → (i, operIds (aeval T) o) ∈ seen1) →
          (b = true → opClass o.op ≠ 0 → opClass o.op ≠ 1 → ∀ s ∈ seen, ahead ms s.1 i = false → ∀ c id, (c, id) ∈ s.2 → SameSign c id h1 h2) →
          ∃ Ts hs vs bs, Tr P pol call fn nt L ms (i :: rest) seen T h1 T' h' Ts hs vs bs := by
        intro seen1 v h2 er hb0 hb1 hsub hin hst
        obtain ⟨Ts, hs, vs, bs, t⟩ := ih seen1 _ h2 er
        refine ⟨conz T Ts, conz h1 hs, conz v vs, conz b bs, rfl, rfl, t.Tn, t.hn, fun p k hp => ?_, fun p k ok hp hk hb hc0 hc1 s hs hah c id hm => ?_, fun p k ok q j oj hp hk hb hc0 hc1 hlt hq hj hbq hcj hah c id hm => ?_⟩
        · cases p with
          | zero =>
            simp only [List.getElem?_cons_zero, Option.some.injEq] at hp
            subst hp
            exact ⟨o, ho, e1, t.T0, fun h => ⟨t.h0.trans (hb0 h).1, (hb0 h).2⟩, fun h => by rw [show conz h1 hs 1 = h2 from t.h0]; exact hb1 h⟩
          | succ p => exact t.step p k (by simpa using hp)
        · cases p with
          | zero =>
            simp only [List.getElem?_cons_zero, Option.some.injEq] at hp
            subst hp
            rw [ho] at hk; cases hk
            have := hst hb hc0 hc1 s hs hah c id hm
            rw [show conz h1 _ (0 + 1) = h2 from t.h0]
            exact this
          | succ p => exact t.stay0 p k ok (by simpa using hp) hk hb hc0 hc1 s (hsub s hs) hah c id hm
        · cases p with
          | zero => omega
          | succ p =>
            cases q with
            | zero =>
              simp only [List.getElem?_cons_zero, Option.some.injEq] at hq
              subst hq
              rw [ho] at hj; cases hj
              exact t.stay0 p k ok (by simpa using hp) hk hb hc0 hc1 _ (hin hbq hcj) hah c id hm
            | succ q => exact t.stay p k ok q j oj (by simpa using hp) hk hb hc0 hc1 (by omega) (by simpa using hq) hj hbq hcj hah c id hm
      cases b with
      | false => exact fin seen (.tuple []) h1 e2 (fun _ => ⟨rfl, rfl⟩) (fun h => by cases h) (fun _ h => h) (fun h => by cases h) (fun h => by cases h)
      | true =>
        dsimp only at e2
        split at e2
        · rename_i hc
          obtain ⟨v, h2, e3, e4⟩ := bind_some e2
          exact fin _ v h2 e4 (fun h => by cases h) (fun _ => e3) (fun s h => List.mem_cons_of_mem _ h) (fun _ _ => List.mem_cons_self) (fun _ h => absurd hc h)
        · rename_i hc
          obtain ⟨v, h2, e3, e4⟩ := bind_some e2
          exact fin _ v h2 e4 (fun h => by cases h) (fun _ => e3) (fun s h => h) (fun _ h => by rw [hc] at h; cases h) (fun _ _ h => absurd hc h)
        · rename_i hc0 hc1
          obtain ⟨b1, h2, e3, e4⟩ := bind_some e2
          obtain ⟨v, h3, e5, e6⟩ := bind_some e4
          obtain ⟨b2, h4, e7, e8⟩ := bind_some e6
          obtain ⟨_, h5, e9, e10⟩ := bind_some e8
          obtain ⟨hg, rfl⟩ := guard_some e9
          obtain ⟨rfl, _⟩ := astamps_some _ e3
          obtain ⟨rfl, _⟩ := astamps_some _ e7
          refine fin _ v _ e10 (fun h => by cases h) (fun _ => e5) (fun s h => h) (fun _ h => absurd h hc0) (fun _ _ _ s hs hah c id hm => ?_)
          refine astamps_same e3 e7 (by simpa using hg) c id (List.mem_flatMap.2 ⟨s, List.mem_filter.2 ⟨hs, by rw [hah]; rfl⟩, hm⟩)
end Go.Am
namespace Go.Am
open Go AM

theorem sign_alike {c : Bool} {o o2 : AObj} (hs : o.stamp = o2.stamp → o = o2) (e : signOf c o = signOf c o2) : Alike c o o2 := by
  unfold signOf at e
  cases c with
  | true =>
    simp only at e
    exact .inl (hs (by simpa using e)).symm
  | false =>
    cases h1 : o.body with
    | row e1 c1 f1 =>
      cases h2 : o2.body with
      | row e2 c2 f2 =>
        rw [h1, h2] at e
        simp only [List.cons.injEq, and_true] at e
        obtain ⟨q1, rfl, q3⟩ := e
        exact .inr ⟨rfl, q1.symm, e1, c1, f1, c2, f2, h1, h2, q3⟩
      | _ => rw [h1, h2] at e; simp at e
    | _ =>
      cases h2 : o2.body with
      | row e2 c2 f2 => rw [h1, h2] at e; simp at e
      | _ => rw [h1, h2] at e; exact .inl (hs (by simpa using e)).symm

theorem awanted_congr {L : List Oper} {T T' : Temps} {o : Oper} (h : ∀ t ∈ looksAt L o, tget T t = tget T' t) : awanted L T o = awanted L T' o := by
  unfold awanted
  split
  · rfl
  · rename_i j want hg
    cases hd : (L[j]?).bind (·.dst) with
    | none => rfl
    | some t =>
      have : t ∈ looksAt L o := by
        unfold looksAt
        rw [hg]
        simp only [hd]
        exact List.mem_append_right _ (by simp)
      dsimp only
      rw [h t this]

theorem aop_looks {P : Program} {pol : Pol} {call : Calling} {fn : FuncId} {L : List Oper} {T T' : Temps} {o : Oper} (h : ∀ t ∈ looksAt L o, tget T t = tget T' t) :
    aop P pol call fn o (aeval T) = aop P pol call fn o (aeval T') := aop_congr o fun x hx => by
  cases x with
  | tmp t =>
    refine h t (List.mem_append_left _ (List.mem_filterMap.2 ⟨.tmp t, by simpa using hx, rfl⟩))
  | _ => rfl

section
variable {P : Program} {pol : Pol} {call : Calling} {fn : FuncId} {nt : Nat} {ops : Array Oper} {l : List Nat} {T0 T' : Temps} {h0 h' : Hp} {Ts : Nat → Temps} {hs : Nat → Hp} {vs : Nat → AV} {bs : Nat → Bool}

/-- where the taking of a region's operations stands -/
structure Inw (nt : Nat) (L : List Oper) (l : List Nat) (T0 : Temps) (hs : Nat → Hp) (vs : Nat → AV) (bs : Nat → Bool) (S : Nat → Prop) (k : Nat) (T : Temps) (g : Hp) (μ : Nat → Nat) (a : Act) (w : World) : Prop where
  kn : k ≤ l.length
  sr : SR g μ w
  tr : TR g μ w nt T a.tmps
  t1 : ∀ p i o d, l[p]? = some i → L[i]? = some o → S i → o.dst = some d → d < nt → tget T d = vs p
  t2 : ∀ d : Nat, (∀ (p i : Nat) (o : Oper), l[p]? = some i → L[i]? = some o → S i → o.dst = some d → ¬ d < nt) → tget T d = tget T0 d
  k1 : ∀ p i o, l[p]? = some i → L[i]? = some o → bs p = true → opClass o.op ≠ 0 → p < k → S i
  k2 : ∀ p i o, l[p]? = some i → L[i]? = some o → bs p = true → opClass o.op ≠ 0 → opClass o.op ≠ 1 → k ≤ p → ¬ S i
  k3 : ∀ id o, (hs k).get id = some o → g.get id = some o
  k4 : ∀ p i o, l[p]? = some i → L[i]? = some o → bs p = true → opClass o.op = 1 → k ≤ p → S i → ∀ b : Body × Option Nat, hs (p + 1) = ⟨(hs p).obj.set (hs p).next (some ⟨0, 0, b.1, b.2⟩), (hs p).next + 1⟩ → g.get (hs p).next = some ⟨0, 0, b.1, b.2⟩
  k5 : ∀ id o, g.get id = some o → (hs k).get id = some o ∨ ∃ p i op, l[p]? = some i ∧ L[i]? = some op ∧ bs p = true ∧ opClass op.op = 1 ∧ k ≤ p ∧ S i ∧ id = (hs p).next ∧ (hs (p + 1)).get id = some o

variable (t : Tr P pol call fn nt ops.toList (masks ops.toList) l [] T0 h0 T' h' Ts hs vs bs) (st : Stands ops.toList (masks ops.toList) l) (F : Fresh h0 h')
include t

theorem Tr.at {p : Nat} (hp : p < l.length) : ∃ i o, l[p]? = some i ∧ ops.toList[i]? = some o := by
  obtain ⟨o, ho, _⟩ := t.step p _ (List.getElem?_eq_getElem hp)
  exact ⟨_, o, List.getElem?_eq_getElem hp, ho⟩

theorem Tr.dom1 {p : Nat} (hp : p < l.length) : Dom (hs p) (hs (p + 1)) := by
  obtain ⟨o, ho, h1, h2, h3, h4⟩ := t.step p _ (List.getElem?_eq_getElem hp)
  cases hb : bs p with
  | false => rw [(h3 hb).1]; exact Dom.refl _
  | true => exact AM.dom _ (h4 hb)

theorem Tr.dom {p : Nat} : ∀ {q : Nat}, p ≤ q → q ≤ l.length → Dom (hs p) (hs q) := by
  intro q
  induction q with
  | zero => intro h _; rw [show p = 0 by omega]; exact Dom.refl _
  | succ q ih =>
    intro h hn
    by_cases e : p = q + 1
    · rw [e]; exact Dom.refl _
    · exact (ih (by omega) (by omega)).trans (t.dom1 (by omega))

include F
theorem Tr.fresh {p q : Nat} (h : p ≤ q) (hn : q ≤ l.length) : Fresh (hs p) (hs q) := by
  have d0 := t.dom (p := 0) (q := p) (Nat.zero_le _) (by omega)
  have d1 := t.dom (p := q) (q := l.length) hn (Nat.le_refl _)
  rw [t.h0] at d0
  rw [t.hn] at d1
  exact (F.right d0).left d1.next

theorem Tr.below {q id : Nat} {o : AObj} (hq : q ≤ l.length) (h : (hs q).get id = some o) (h1 : h0.next ≤ id) (h2 : id < h'.next) : id < (hs q).next := by
  have d0 := t.dom (p := 0) (q := q) (Nat.zero_le _) hq
  rw [t.h0] at d0
  rcases d0.dom id o h with ⟨o', ho'⟩ | ⟨_, h3⟩
  · rw [F id h1 h2] at ho'; cases ho'
  · exact h3

omit F in
theorem Tr.op {p i : Nat} {o : Oper} (hp : l[p]? = some i) (ho : ops.toList[i]? = some o) (hb : bs p = true) : (aop P pol call fn o (aeval (Ts p))).run (hs p) = some (vs p, hs (p + 1)) := by
  obtain ⟨o', ho', _, _, _, h4⟩ := t.step p i hp
  rw [ho] at ho'; cases ho'
  exact h4 hb

omit F in
theorem Tr.zero {p i : Nat} {o : Oper} (hp : l[p]? = some i) (ho : ops.toList[i]? = some o) (hb : bs p = true) (hc : opClass o.op = 0) : hs (p + 1) = hs p :=
  (aop_reads hc _ _ _ _ (t.op hp ho hb)).1
omit F in
theorem Tr.one {p i : Nat} {o : Oper} (hp : l[p]? = some i) (ho : ops.toList[i]? = some o) (hb : bs p = true) (hc : opClass o.op = 1) :
    hs (p + 1) = hs p ∨ ∃ b : Body × Option Nat, hs (p + 1) = ⟨(hs p).obj.set (hs p).next (some ⟨0, 0, b.1, b.2⟩), (hs p).next + 1⟩ := by
  obtain ⟨_, _, h⟩ := aop_makes hc _ _ _ _ (t.op hp ho hb) (hs p) rfl
  rcases h with ⟨h, _⟩ | ⟨b, h, _⟩
  · exact .inl h
  · exact .inr ⟨b, h⟩

omit F in
/-- what the run of a first part has made lies in the heap -/
theorem Inw.upTo {S : Nat → Prop} {k : Nat} {T : Temps} {g : Hp} {μ : Nat → Nat} {a : Act} {w : World} (v : Inw nt ops.toList l T0 hs vs bs S k T g μ a w) : ∀ {q : Nat}, k ≤ q → q ≤ l.length →
    (∀ r j oj, k ≤ r → r < q → l[r]? = some j → ops.toList[j]? = some oj → bs r = true → opClass oj.op ≠ 0 → opClass oj.op = 1 ∧ S j) → ∀ id o, (hs q).get id = some o → g.get id = some o := by
  intro q
  induction q with
  | zero => intro h _ _ id o ho; exact v.k3 id o (by rw [show k = 0 by omega]; exact ho)
  | succ q ih =>
    intro h hn hall id o ho
    by_cases e : k = q + 1
    · exact v.k3 id o (by rw [e]; exact ho)
    · have ih' := ih (by omega) (by omega) (fun r j oj h1 h2 => hall r j oj h1 (by omega))
      obtain ⟨i, oi, hi, hoi⟩ := t.at (p := q) (by omega)
      obtain ⟨o', ho', _, _, h3, _⟩ := t.step q i hi
      rw [hoi] at ho'; cases ho'
      cases hb : bs q with
      | false => rw [(h3 hb).1] at ho; exact ih' id o ho
      | true =>
        by_cases hc : opClass oi.op = 0
        · rw [t.zero hi hoi hb hc] at ho; exact ih' id o ho
        · obtain ⟨hc1, hS⟩ := hall q i oi (by omega) (by omega) hi hoi hb hc
          rcases t.one hi hoi hb hc1 with h5 | ⟨b, h5⟩
          · rw [h5] at ho; exact ih' id o ho
          · have k4 := v.k4 q i oi hi hoi hb hc1 (by omega) hS b h5
            rw [h5] at ho
            change ((hs q).obj.set _ _).get id = _ at ho
            rw [Tm.get_set] at ho
            split at ho
            · rename_i e; subst e; cases ho; exact k4
            · exact ih' id o ho

include st
omit F in
theorem Inw.same {S : Nat → Prop} {k : Nat} {T : Temps} {g : Hp} {μ : Nat → Nat} {a : Act} {w : World} (v : Inw nt ops.toList l T0 hs vs bs S k T g μ a w) {p i : Nat} {o : Oper} (hp : l[p]? = some i) (ho : ops.toList[i]? = some o)
    (hnS : ¬ S i) (hah : ∀ j, ahead (masks ops.toList) j i = true → S j) (hcl : ∀ i' j, S i' → ahead (masks ops.toList) j i' = true → S j) : ∀ u ∈ looksAt ops.toList o, tget T u = tget (Ts p) u := by
  have hpn := (List.getElem?_eq_some_iff.1 hp).1
  have key : ∀ q, q ≤ l.length → ∀ u, (∃ r j oj, r < q ∧ l[r]? = some j ∧ ops.toList[j]? = some oj ∧ oj.dst = some u ∧ u < nt ∧ tget (Ts q) u = vs r) ∨
      ((∀ r j oj, r < q → l[r]? = some j → ops.toList[j]? = some oj → oj.dst = some u → ¬ u < nt) ∧ tget (Ts q) u = tget T0 u) := by
    intro q
    induction q with
    | zero => intro _ u; exact .inr ⟨fun r j oj h => by omega, by rw [t.T0]⟩
    | succ q ih =>
      intro hn u
      obtain ⟨j, oj, hj, hoj⟩ := t.at (p := q) (by omega)
      obtain ⟨o', ho', _, h2, _, _⟩ := t.step q j hj
      rw [hoj] at ho'; cases ho'
      have ih' := ih (by omega) u
      by_cases hd : oj.dst = some u ∧ u < nt
      · refine .inl ⟨q, j, oj, by omega, hj, hoj, hd.1, hd.2, ?_⟩
        rw [h2, hd.1]
        simp only [tput?]
        rw [tget_tput, if_pos ⟨hd.2, rfl⟩]
      · have heq : tget (Ts (q + 1)) u = tget (Ts q) u := by
          rw [h2]
          cases hdst : oj.dst with
          | none => rfl
          | some d =>
            simp only [tput?]
            rw [tget_tput, if_neg]
            rintro ⟨h5, rfl⟩
            exact hd ⟨hdst, h5⟩
        rcases ih' with ⟨r, j', oj', r1, r2, r3, r4, r5, r6⟩ | ⟨r1, r2⟩
        · exact .inl ⟨r, j', oj', by omega, r2, r3, r4, r5, by rw [heq]; exact r6⟩
        · refine .inr ⟨fun r j' oj' g1 g2 g3 g4 g5 => ?_, by rw [heq]; exact r2⟩
          by_cases e : r = q
          · rw [e, hj] at g2; cases g2
            rw [hoj] at g3; cases g3
            exact hd ⟨g4, g5⟩
          · exact r1 r j' oj' (by omega) g2 g3 g4 g5
  intro u hu
  rcases key p (by omega) u with ⟨r, j, oj, r1, r2, r3, r4, r5, r6⟩ | ⟨r1, r2⟩
  · have := (st.pair r p j i oj o r1 r2 hp r3 ho).2.2.2.2.2 u r4 hu
    rw [r6]
    exact v.t1 r j oj u r2 r3 (hah j this) r4 r5
  · rw [r2]
    refine v.t2 u (fun r j oj h1 h2 h3 h4 h5 => ?_)
    rcases Nat.lt_trichotomy r p with hlt | heq | hgt
    · exact r1 r j oj hlt h1 h2 h4 h5
    · subst heq
      rw [hp] at h1; cases h1
      exact hnS h3
    · exact hnS (hcl j i h3 ((st.pair p r i j o oj hgt hp h1 ho h2).2.2.2.1 u h4 hu))

include F
omit st in
/-- the numbers that an operation hands out are free, in whatever order -/
theorem Inw.free {S : Nat → Prop} {k : Nat} {T : Temps} {g : Hp} {μ : Nat → Nat} {a : Act} {w : World} (v : Inw nt ops.toList l T0 hs vs bs S k T g μ a w) {p i : Nat} {o : Oper} (hp : l[p]? = some i) (_ho : ops.toList[i]? = some o)
    (hnS : ¬ S i) (hk : k ≤ p) : ∀ id, (hs p).next ≤ id → id < (hs (p + 1)).next → g.get id = none := by
  have hpn := (List.getElem?_eq_some_iff.1 hp).1
  intro id h1 h2
  have d0 := (t.dom (p := 0) (q := p) (Nat.zero_le _) (by omega)).next
  have d1 := (t.dom (p := p + 1) (q := l.length) (by omega) (Nat.le_refl _)).next
  rw [t.h0] at d0
  rw [t.hn] at d1
  cases hg : g.get id with
  | none => rfl
  | some ob =>
    exfalso
    rcases v.k5 id ob hg with h3 | ⟨r, j, oj, r1, r2, r3, r4, r5, r6, r7, r8⟩
    · have := t.below F v.kn h3 (by omega) (by omega)
      have := (t.dom hk (by omega)).next
      omega
    · have hrn := (List.getElem?_eq_some_iff.1 r1).1
      rcases Nat.lt_trichotomy r p with hlt | heq | hgt
      · have := t.below F (q := r + 1) (by omega) r8 (by omega) (by omega)
        have := (t.dom (p := r + 1) (q := p) (by omega) (by omega)).next
        omega
      · subst heq
        rw [hp] at r1; cases r1
        exact hnS r6
      · have := (t.dom (p := p + 1) (q := r) (by omega) (by omega)).next
        omega
end
end Go.Am
namespace Go.Am
open Go AM

section
variable {P : Program} {pol : Pol} {call : Calling} {fn : FuncId} {nt : Nat} {ops : Array Oper} {l : List Nat} {T0 T' : Temps} {h0 h' : Hp} {Ts : Nat → Temps} {hs : Nat → Hp} {vs : Nat → AV} {bs : Nat → Bool}

theorem Inw.put {S S' : Nat → Prop} {k k' : Nat} {T : Temps} {g g' : Hp} {μ μ' : Nat → Nat} {a : Act} {w w' : World} (st : Stands ops.toList (masks ops.toList) l)
    (v : Inw nt ops.toList l T0 hs vs bs S k T g μ a w) {p i : Nat} {o : Oper} (hp : l[p]? = some i) (ho : ops.toList[i]? = some o) (hS' : ∀ j, S' j ↔ S j ∨ j = i)
    {x : Value} (s' : SR g' μ' w') (stp : Stp g μ w g' μ' w') (hx : VR g' μ' w' (vs p) x) (kn : k' ≤ l.length)
    (k1 : ∀ p i o, l[p]? = some i → ops.toList[i]? = some o → bs p = true → opClass o.op ≠ 0 → p < k' → S' i)
    (k2 : ∀ p i o, l[p]? = some i → ops.toList[i]? = some o → bs p = true → opClass o.op ≠ 0 → opClass o.op ≠ 1 → k' ≤ p → ¬ S' i)
    (k3 : ∀ id o, (hs k').get id = some o → g'.get id = some o)
    (k4 : ∀ p i o, l[p]? = some i → ops.toList[i]? = some o → bs p = true → opClass o.op = 1 → k' ≤ p → S' i → ∀ b : Body × Option Nat, hs (p + 1) = ⟨(hs p).obj.set (hs p).next (some ⟨0, 0, b.1, b.2⟩), (hs p).next + 1⟩ → g'.get (hs p).next = some ⟨0, 0, b.1, b.2⟩)
    (k5 : ∀ id o, g'.get id = some o → (hs k').get id = some o ∨ ∃ p i op, l[p]? = some i ∧ ops.toList[i]? = some op ∧ bs p = true ∧ opClass op.op = 1 ∧ k' ≤ p ∧ S' i ∧ id = (hs p).next ∧ (hs (p + 1)).get id = some o) :
    Inw nt ops.toList l T0 hs vs bs S' k' (tput? nt T o.dst (vs p)) g' μ' (a.put o.dst x) w' := by
  have hget : ∀ d, tget (tput? nt T o.dst (vs p)) d = if o.dst = some d ∧ d < nt then vs p else tget T d := by
    intro d
    cases hd : o.dst with
    | none => simp [tput?]
    | some e =>
      simp only [tput?]
      rw [tget_tput]
      by_cases h : e < nt ∧ d = e
      · rw [if_pos h, if_pos ⟨by rw [h.2], h.2 ▸ h.1⟩]
      · rw [if_neg h, if_neg]
        rintro ⟨h1, h2⟩
        cases h1
        exact h ⟨h2, rfl⟩
  refine ⟨kn, s', (v.tr.mono stp).put? o.dst hx, fun q j oj d hq hj hSj hd hlt => ?_, fun d hall => ?_, k1, k2, k3, k4, k5⟩
  · rw [hget]
    rcases Nat.lt_trichotomy q p with h | h | h
    · rw [if_neg]
      · refine v.t1 q j oj d hq hj (((hS' j).1 hSj).resolve_right ?_) hd hlt
        exact (st.pair q p j i oj o h hq hp hj ho).1
      · rintro ⟨h1, _⟩
        exact (st.pair q p j i oj o h hq hp hj ho).2.2.2.2.1 d h1 hd
    · subst h
      rw [hp] at hq; cases hq
      rw [ho] at hj; cases hj
      rw [if_pos ⟨hd, hlt⟩]
    · rw [if_neg]
      · refine v.t1 q j oj d hq hj (((hS' j).1 hSj).resolve_right ?_) hd hlt
        exact fun e => (st.pair p q i j o oj h hp hq ho hj).1 e.symm
      · rintro ⟨h1, _⟩
        exact (st.pair p q i j o oj h hp hq ho hj).2.2.2.2.1 d hd h1
  · rw [hget, if_neg]
    · exact v.t2 d (fun q j oj hq hj hSj => hall q j oj hq hj ((hS' j).2 (.inl hSj)))
    · rintro ⟨h1, h2⟩
      exact hall p i o hp ho ((hS' i).2 (.inr rfl)) h1 h2

theorem SR.nextIs {h : Hp} {μ : Nat → Nat} {w : World} (s : SR h μ w) (n : Nat) : SR ⟨h.obj, n⟩ μ w ∧ Stp h μ w ⟨h.obj, n⟩ μ w := s.ext (fun _ => rfl)

/-- ONE OPERATION, IN WHATEVER PLACE -/
theorem Inw.step (hcall : CallOk P call) (ro : Option Nat) (t : Tr P pol call fn nt ops.toList (masks ops.toList) l [] T0 h0 T' h' Ts hs vs bs) (st : Stands ops.toList (masks ops.toList) l) (F : Fresh h0 h')
    {S S' : Nat → Prop} {k : Nat} {T : Temps} {g : Hp} {μ : Nat → Nat} {a : Act} {w : World}
    (v : Inw nt ops.toList l T0 hs vs bs S k T g μ a w) {p i : Nat} {o : Oper} (hp : l[p]? = some i) (ho : ops.toList[i]? = some o) (hnS : ¬ S i) (hah : ∀ j, ahead (masks ops.toList) j i = true → S j)
    (hcl : ∀ i' j, S i' → ahead (masks ops.toList) j i' = true → S j) (hS' : ∀ j, S' j ↔ S j ∨ j = i) {Q : Exit → Act → World → Prop} {K : Act → World → Prop}
    (hK : ∀ k' T1 g' μ' a' w', Inw nt ops.toList l T0 hs vs bs S' k' T1 g' μ' a' w' → Stp g μ w g' μ' w' → a'.defers = a.defers → K a' w') : wpOpIn (fen ro) 0 P ops Q i K a w := by
  have hpn := (List.getElem?_eq_some_iff.1 hp).1
  have hsame := v.same t st hp ho hnS hah hcl
  obtain ⟨o', ho', haw, hT, hno, hyes⟩ := t.step p i hp
  rw [ho] at ho'; cases ho'
  have hwant : Region.wanted o (yielded ops a.tmps) = bs p := by
    have h1 := (awanted_reads ops.toList (Ts p) o _ _ _ haw).2 g (fun c id hm => by cases hm)
    rw [← awanted_congr hsame] at h1
    exact (awanted_sim v.tr o h1).2
  have uniq : ∀ {q : Nat}, l[q]? = some i → q = p := fun {q} hq => by
    rcases Nat.lt_trichotomy q p with h | h | h
    · exact absurd rfl (st.pair q p i i o o h hq hp ho ho).1
    · exact h
    · exact absurd rfl (st.pair p q i i o o h hp hq ho ho).1
  have hS1 : ∀ {j}, S j → S' j := fun h => (hS' _).2 (.inl h)
  have other : ∀ {q j}, l[q]? = some j → q ≠ p → S' j → S j := fun {q j} hq hne h => ((hS' j).1 h).resolve_right (fun e => hne (uniq (e ▸ hq)))
  unfold wpOpIn
  rw [show ops[i]? = some o by rw [← Array.getElem?_toList]; exact ho]
  dsimp only
  rw [hwant]
  cases hb : bs p with
  | false =>
    simp only [Bool.false_eq_true, if_false]
    obtain ⟨hh, hv⟩ := hno hb
    refine ⟨fun _ _ => trivial, hK k _ g μ _ w (v.put st hp ho hS' v.sr (Stp.refl _ _ _) (x := Go.undef) (by rw [hv]; exact VR_undef) v.kn (fun q j oj h1 h2 h3 h4 h5 => hS1 (v.k1 q j oj h1 h2 h3 h4 h5))
      (fun q j oj h1 h2 h3 h4 h5 h6 h7 => v.k2 q j oj h1 h2 h3 h4 h5 h6 (other h1 (fun e => by rw [e, hb] at h3; cases h3) h7)) v.k3
      (fun q j oj h1 h2 h3 h4 h5 h6 b h7 => v.k4 q j oj h1 h2 h3 h4 h5 (other h1 (fun e => by rw [e, hb] at h3; cases h3) h6) b h7)
      (fun id ob h1 => (v.k5 id ob h1).elim .inl fun ⟨q, j, oj, r1, r2, r3, r4, r5, r6, r7⟩ => .inr ⟨q, j, oj, r1, r2, r3, r4, r5, hS1 r6, r7⟩)) (Stp.refl _ _ _) (put_defers _ _ _)⟩
  | true =>
    simp only [if_true]
    have hrun := hyes hb
    have hcongr : aop P pol call fn o (aeval (Ts p)) = aop P pol call fn o (aeval T) := (aop_looks hsame).symm
    -- the call of the machine, whatever the heap that it starts from
    have go : ∀ (g1 : Hp) (n : Nat), (aop P pol call fn o (aeval (Ts p))).run ⟨g.obj, n⟩ = some (vs p, g1) → Fresh ⟨g.obj, n⟩ g1 →
        (∀ x μ' w', SR g1 μ' w' → Stp g μ w g1 μ' w' → VR g1 μ' w' (vs p) x → K (a.put o.dst x) w') → o.wpIn (fen ro) 0 P a w K Q := by
      intro g1 n hr hF hk
      obtain ⟨s1, s2⟩ := v.sr.nextIs n
      rw [hcongr] at hr
      refine Oper.wpIn_mono (fun a' w' hn => ?_) (aop_wp hcall ro s1 ((v.tr.mono s2).eval s1.gl) hr hF Q)
      obtain ⟨μ', x, q1, q2, q3, rfl⟩ := hn
      exact hk x μ' w' q1 (s2.trans q2) q3
    by_cases hc0 : opClass o.op = 0
    · -- it reads
      have rds := aop_reads (P := P) (pol := pol) (call := call) (fn := fn) hc0 (aeval (Ts p)) _ _ _ hrun
      have like : Like (operIds (aeval (Ts p)) o) (hs p) g := by
        intro c id hm o1 ho1
        by_cases hk : k ≤ p
        · have up := v.upTo t hk (by omega) (fun r j oj h1 h2 h3 h4 h5 h6 => by
            have hS : S j := by
              rcases (st.pair r p j i oj o h2 h3 hp h4 ho).2.2.1 with h | h | h
              · exact hah j h
              · exact absurd h h6
              · rw [hc0] at h; cases h
            refine ⟨?_, hS⟩
            by_cases hc : opClass oj.op = 1
            · exact hc
            · exact absurd hS (v.k2 r j oj h3 h4 h5 h6 hc h1))
          exact ⟨o1, up id o1 ho1, Alike.refl _ _⟩
        · have chain : ∀ q, p ≤ q → q ≤ k → ∃ o2, (hs q).get id = some o2 ∧ Alike c o1 o2 := by
            intro q
            induction q with
            | zero => intro h _; exact ⟨o1, by rw [show (0 : Nat) = p by omega]; exact ho1, Alike.refl _ _⟩
            | succ q ih =>
              intro h hqk
              by_cases e : p = q + 1
              · exact ⟨o1, by rw [← e]; exact ho1, Alike.refl _ _⟩
              · obtain ⟨o2, h2, hal⟩ := ih (by omega) (by omega)
                have hqn : q < l.length := by have := v.kn; omega
                obtain ⟨j, oj, hj, hoj⟩ := t.at hqn
                obtain ⟨oj', hoj', _, _, h3, _⟩ := t.step q j hj
                rw [hoj] at hoj'; cases hoj'
                cases hbq : bs q with
                | false => rw [(h3 hbq).1]; exact ⟨o2, h2, hal⟩
                | true =>
                  by_cases hcq : opClass oj.op = 0
                  · rw [t.zero hj hoj hbq hcq]; exact ⟨o2, h2, hal⟩
                  · by_cases hcq1 : opClass oj.op = 1
                    · rcases t.one hj hoj hbq hcq1 with h5 | ⟨b, h5⟩
                      · rw [h5]; exact ⟨o2, h2, hal⟩
                      · refine ⟨o2, ?_, hal⟩
                        have hf := t.fresh F (p := q) (q := q + 1) (by omega) (by omega)
                        have hne : id ≠ (hs q).next := fun e => by
                          have := hf (hs q).next (Nat.le_refl _) (by rw [h5]; exact Nat.lt_succ_self _)
                          rw [← e, h2] at this; cases this
                        rw [h5]
                        show ((hs q).obj.set _ _).get id = _
                        rw [Tm.get_set, if_neg hne]; exact h2
                    · have hpq : p < q := by
                        rcases Nat.lt_or_ge p q with h | h
                        · exact h
                        · have : p = q := by omega
                          subst this
                          rw [hp] at hj; cases hj
                          rw [ho] at hoj; cases hoj
                          exact absurd hc0 hcq
                      have hna : ahead (masks ops.toList) i j = false := by
                        cases hna : ahead (masks ops.toList) i j with
                        | false => rfl
                        | true => exact absurd (hcl j i (v.k1 q j oj hj hoj hbq hcq (by omega)) hna) hnS
                      obtain ⟨oa, ob, q1, q2, q3⟩ := t.stay q j oj p i o hj hoj hbq hcq hcq1 hpq hp ho hb hc0 hna c id hm
                      rw [h2] at q1; cases q1
                      have hfr := ((aop P pol call fn oj (aeval (Ts q))).good.2 _ _ _ (t.op hj hoj hbq) (t.fresh F (by omega) (by omega))).1
                      exact ⟨ob, q2, hal.trans (sign_alike (hfr id _ _ h2 q2).2.2 q3)⟩
          obtain ⟨o2, h2, hal⟩ := chain k (by omega) (Nat.le_refl _)
          exact ⟨o2, v.k3 id o2 h2, hal⟩
      refine go g g.next (rds.2 g like) (fun id h1 h2 => absurd h2 (Nat.not_lt.2 h1)) (fun x μ' w' s' stp hx => ?_)
      have ne : ∀ {q j oj}, l[q]? = some j → ops.toList[j]? = some oj → opClass oj.op ≠ 0 → q ≠ p := fun {q j oj} h1 h2 h3 e => by
        subst e
        rw [hp] at h1; cases h1
        rw [ho] at h2; cases h2
        exact h3 hc0
      exact hK k _ g μ' _ w' (v.put st hp ho hS' s' stp hx v.kn (fun q j oj h1 h2 h3 h4 h5 => hS1 (v.k1 q j oj h1 h2 h3 h4 h5))
        (fun q j oj h1 h2 h3 h4 h5 h6 h7 => v.k2 q j oj h1 h2 h3 h4 h5 h6 (other h1 (ne h1 h2 h4) h7)) v.k3
        (fun q j oj h1 h2 h3 h4 h5 h6 b h7 => v.k4 q j oj h1 h2 h3 h4 h5 (other h1 (ne h1 h2 (by rw [h4]; decide)) h6) b h7)
        (fun id ob h1 => (v.k5 id ob h1).elim .inl fun ⟨q, j, oj, r1, r2, r3, r4, r5, r6, r7⟩ => .inr ⟨q, j, oj, r1, r2, r3, r4, r5, hS1 r6, r7⟩)) stp (put_defers _ _ _)
    · have hkp : k ≤ p := by
        rcases Nat.lt_or_ge p k with h | h
        · exact absurd (v.k1 p i o hp ho hb hc0 h) hnS
        · exact h
      have hfree := v.free t F hp ho hnS hkp
      by_cases hc1 : opClass o.op = 1
      · -- it makes
        classical
        obtain ⟨g1, hr1, halt⟩ := aop_makes (P := P) (pol := pol) (call := call) (fn := fn) hc1 (aeval (Ts p)) _ _ _ hrun ⟨g.obj, (hs p).next⟩ rfl
        have hF : Fresh ⟨g.obj, (hs p).next⟩ g1 := by
          intro id h1 h2
          refine hfree id h1 ?_
          rcases halt with ⟨e1, rfl⟩ | ⟨b, e1, rfl⟩
          · rw [e1]; exact h2
          · rw [e1]; exact h2
        have hget : ∀ id, g1.get id = if (∃ b : Body × Option Nat, hs (p + 1) = ⟨(hs p).obj.set (hs p).next (some ⟨0, 0, b.1, b.2⟩), (hs p).next + 1⟩) ∧ id = (hs p).next then (hs (p + 1)).get id else g.get id := by
          intro id
          rcases halt with ⟨e1, rfl⟩ | ⟨b, e1, rfl⟩
          · rw [if_neg]
            rintro ⟨⟨b, h1⟩, _⟩
            rw [e1] at h1
            have := congrArg Hp.next h1
            simp at this
          · show (g.obj.set _ _).get id = _
            rw [Tm.get_set]
            by_cases e : id = (hs p).next
            · rw [if_pos e, if_pos ⟨⟨b, e1⟩, e⟩, e1]
              show _ = ((hs p).obj.set _ _).get id
              rw [Tm.get_set, if_pos e]
            · rw [if_neg e, if_neg (fun h => e h.2)]
        have hnew : ∀ b : Body × Option Nat, hs (p + 1) = ⟨(hs p).obj.set (hs p).next (some ⟨0, 0, b.1, b.2⟩), (hs p).next + 1⟩ → (hs (p + 1)).get (hs p).next = some ⟨0, 0, b.1, b.2⟩ ∧ g.get (hs p).next = none := by
          intro b e
          refine ⟨by rw [e]; show ((hs p).obj.set _ _).get _ = _; rw [Tm.get_set, if_pos rfl], hfree _ (Nat.le_refl _) (by rw [e]; exact Nat.lt_succ_self _)⟩
        have keep : ∀ id ob, g.get id = some ob → g1.get id = some ob := by
          intro id ob h1
          rw [hget, if_neg]
          · exact h1
          · rintro ⟨⟨b, e⟩, rfl⟩
            rw [(hnew b e).2] at h1; cases h1
        refine go g1 (hs p).next hr1 hF (fun x μ' w' s' stp hx => ?_)
        refine hK k _ g1 μ' _ w' (v.put st hp ho hS' s' stp hx v.kn (fun q j oj h1 h2 h3 h4 h5 => hS1 (v.k1 q j oj h1 h2 h3 h4 h5)) (fun q j oj h1 h2 h3 h4 h5 h6 h7 => ?_) (fun id ob h1 => keep id ob (v.k3 id ob h1))
          (fun q j oj h1 h2 h3 h4 h5 h6 b h7 => ?_) (fun id ob h1 => ?_)) stp (put_defers _ _ _)
        · refine v.k2 q j oj h1 h2 h3 h4 h5 h6 (other h1 (fun e => ?_) h7)
          subst e
          rw [hp] at h1; cases h1
          rw [ho] at h2; cases h2
          exact h5 hc1
        · by_cases e : q = p
          · subst e
            rw [hget, if_pos ⟨⟨b, h7⟩, rfl⟩]
            exact (hnew b h7).1
          · exact keep _ _ (v.k4 q j oj h1 h2 h3 h4 h5 (other h1 e h6) b h7)
        · rw [hget] at h1
          split at h1
          · rename_i hh
            exact .inr ⟨p, i, o, hp, ho, hb, hc1, hkp, (hS' i).2 (.inr rfl), hh.2, h1⟩
          · exact (v.k5 id ob h1).elim .inl fun ⟨q, j, oj, r1, r2, r3, r4, r5, r6, r7⟩ => .inr ⟨q, j, oj, r1, r2, r3, r4, r5, hS1 r6, r7⟩
      · -- it does what it likes
        have mid : ∀ r j oj, k ≤ r → r < p → l[r]? = some j → ops.toList[j]? = some oj → bs r = true → opClass oj.op ≠ 0 → opClass oj.op = 1 ∧ S j := fun r j oj h1 h2 h3 h4 h5 h6 => by
          have hS : S j := by
            rcases (st.pair r p j i oj o h2 h3 hp h4 ho).2.2.1 with h | h | h
            · exact hah j h
            · exact absurd h h6
            · exact absurd h hc1
          refine ⟨?_, hS⟩
          by_cases hc : opClass oj.op = 1
          · exact hc
          · exact absurd hS (v.k2 r j oj h3 h4 h5 h6 hc h1)
        have up := v.upTo t hkp (by omega) mid
        obtain ⟨g1, hr1, hn1, hget⟩ := ((aop P pol call fn o (aeval (Ts p))).good.2 _ _ _ hrun (t.fresh F (by omega) (by omega))).2 ⟨g.obj, (hs p).next⟩ rfl up
        have hF : Fresh ⟨g.obj, (hs p).next⟩ g1 := fun id h1 h2 => hfree id h1 (by rw [← hn1]; exact h2)
        have d1 := t.dom1 hpn
        have din : ∀ id ob, (hs (p + 1)).get id = some ob → ((hs p).get id).isSome = true ∨ (hs p).next ≤ id ∧ id < (hs (p + 1)).next := fun id ob h1 => by
          rcases d1.dom id ob h1 with ⟨o2, h2⟩ | h2
          · exact .inl (by rw [h2]; rfl)
          · exact .inr h2
        refine go g1 (hs p).next hr1 hF (fun x μ' w' s' stp hx => ?_)
        refine hK (p + 1) _ g1 μ' _ w' (v.put st hp ho hS' s' stp hx (by omega) (fun q j oj h1 h2 h3 h4 h5 => ?_) (fun q j oj h1 h2 h3 h4 h5 h6 h7 => v.k2 q j oj h1 h2 h3 h4 h5 (by omega) (other h1 (by omega) h7))
          (fun id ob h1 => by rw [hget, if_pos (din id ob h1)]; exact h1) (fun q j oj h1 h2 h3 h4 h5 h6 b h7 => ?_) (fun id ob h1 => ?_)) stp (put_defers _ _ _)
        · by_cases e : q = p
          · subst e
            rw [hp] at h1; cases h1
            exact (hS' _).2 (.inr rfl)
          · by_cases hq : q < k
            · exact hS1 (v.k1 q j oj h1 h2 h3 h4 hq)
            · exact hS1 (mid q j oj (by omega) (by omega) h1 h2 h3 h4).2
        · have k4 := v.k4 q j oj h1 h2 h3 h4 (by omega) (other h1 (by omega) h6) b h7
          have hqn := (List.getElem?_eq_some_iff.1 h1).1
          have hle := (t.dom (p := p + 1) (q := q) (by omega) (by omega)).next
          rw [hget, if_neg]
          · exact k4
          · rintro (h8 | h8)
            · obtain ⟨ob, hob⟩ := Option.isSome_iff_exists.1 h8
              have hfq := t.fresh F (p := q) (q := q + 1) (by omega) (by omega) (hs q).next (Nat.le_refl _) (by rw [h7]; exact Nat.lt_succ_self _)
              obtain ⟨ob', hob'⟩ := (t.dom (p := p) (q := q) (by omega) (by omega)).pers _ ob hob
              rw [hfq] at hob'; cases hob'
            · omega
        · rw [hget] at h1
          split at h1
          · exact .inl h1
          · rename_i hnc
            rcases v.k5 id ob h1 with h2 | ⟨q, j, oj, r1, r2, r3, r4, r5, r6, r7, r8⟩
            · obtain ⟨ob', hob'⟩ := (t.dom (p := k) (q := p) hkp (by omega)).pers _ ob h2
              exact absurd (.inl (by rw [hob']; rfl)) hnc
            · rcases Nat.lt_trichotomy q p with h | h | h
              · obtain ⟨ob', hob'⟩ := (t.dom (p := q + 1) (q := p) (by omega) (by omega)).pers _ ob r8
                exact absurd (.inl (by rw [hob']; rfl)) hnc
              · subst h
                rw [hp] at r1; cases r1
                exact absurd r6 hnS
              · exact .inr ⟨q, j, oj, r1, r2, r3, r4, by omega, hS1 r6, r7, r8⟩

/-- when all are taken -/
theorem Inw.done (t : Tr P pol call fn nt ops.toList (masks ops.toList) l [] T0 h0 T' h' Ts hs vs bs)
    {S : Nat → Prop} {k : Nat} {T : Temps} {g : Hp} {μ μ0 : Nat → Nat} {a : Act} {w w0 : World} {ds : List Deferred} (v : Inw nt ops.toList l T0 hs vs bs S k T g μ a w) (hall : ∀ (p i : Nat), l[p]? = some i → S i)
    (stp : Stp h0 μ0 w0 g μ w) (hd : a.defers = ds) : OpsPost h0 μ0 w0 nt T' h' ds .normal a w := by
  have up := v.upTo t v.kn (Nat.le_refl _) (fun r j oj h1 h2 h3 h4 h5 h6 => by
    have hS := hall r j h3
    refine ⟨?_, hS⟩
    by_cases hc : opClass oj.op = 1
    · exact hc
    · exact absurd hS (v.k2 r j oj h3 h4 h5 h6 hc h1))
  rw [t.hn] at up
  have hget : ∀ id, h'.get id = g.get id := by
    intro id
    cases hg : g.get id with
    | none =>
      cases hh : h'.get id with
      | none => rfl
      | some ob => rw [up id ob hh] at hg; cases hg
    | some ob =>
      rcases v.k5 id ob hg with h1 | ⟨q, j, oj, r1, _, _, _, _, _, _, r8⟩
      · obtain ⟨o2, h2⟩ := (t.dom (p := k) (q := l.length) v.kn (Nat.le_refl _)).pers _ _ h1
        rw [t.hn] at h2
        have := up id o2 h2
        rw [hg] at this; cases this
        exact h2
      · have hqn := (List.getElem?_eq_some_iff.1 r1).1
        obtain ⟨o2, h2⟩ := (t.dom (p := q + 1) (q := l.length) (by omega) (Nat.le_refl _)).pers _ _ r8
        rw [t.hn] at h2
        have := up id o2 h2
        rw [hg] at this; cases this
        exact h2
  obtain ⟨s1, s2⟩ := v.sr.ext hget
  have hT : ∀ d, tget T' d = tget T d := by
    have key : ∀ q, q ≤ l.length → ∀ u, (∃ r j oj, r < q ∧ l[r]? = some j ∧ ops.toList[j]? = some oj ∧ oj.dst = some u ∧ u < nt ∧ tget (Ts q) u = vs r) ∨
        ((∀ r j oj, r < q → l[r]? = some j → ops.toList[j]? = some oj → oj.dst = some u → ¬ u < nt) ∧ tget (Ts q) u = tget T0 u) := by
      intro q
      induction q with
      | zero => intro _ u; exact .inr ⟨fun r j oj h => by omega, by rw [t.T0]⟩
      | succ q ih =>
        intro hn u
        obtain ⟨j, oj, hj, hoj⟩ := t.at (p := q) (by omega)
        obtain ⟨o', ho', _, h2, _, _⟩ := t.step q j hj
        rw [hoj] at ho'; cases ho'
        have ih' := ih (by omega) u
        by_cases hd : oj.dst = some u ∧ u < nt
        · refine .inl ⟨q, j, oj, by omega, hj, hoj, hd.1, hd.2, ?_⟩
          rw [h2, hd.1]
          simp only [tput?]
          rw [tget_tput, if_pos ⟨hd.2, rfl⟩]
        · have heq : tget (Ts (q + 1)) u = tget (Ts q) u := by
            rw [h2]
            cases hdst : oj.dst with
            | none => rfl
            | some d =>
              simp only [tput?]
              rw [tget_tput, if_neg]
              rintro ⟨h5, rfl⟩
              exact hd ⟨hdst, h5⟩
          rcases ih' with ⟨r, j', oj', r1, r2, r3, r4, r5, r6⟩ | ⟨r1, r2⟩
          · exact .inl ⟨r, j', oj', by omega, r2, r3, r4, r5, by rw [heq]; exact r6⟩
          · refine .inr ⟨fun r j' oj' g1 g2 g3 g4 g5 => ?_, by rw [heq]; exact r2⟩
            by_cases e : r = q
            · rw [e, hj] at g2; cases g2
              rw [hoj] at g3; cases g3
              exact hd ⟨g4, g5⟩
            · exact r1 r j' oj' (by omega) g2 g3 g4 g5
    intro u
    have hk := key l.length (Nat.le_refl _) u
    rw [t.Tn] at hk
    rcases hk with ⟨r, j, oj, r1, r2, r3, r4, r5, r6⟩ | ⟨r1, r2⟩
    · rw [r6, v.t1 r j oj u r2 r3 (hall r j r2) r4 r5]
    · rw [r2, v.t2 u (fun q j oj h1 h2 _ h4 => r1 q j oj (List.getElem?_eq_some_iff.1 h1).1 h1 h2 h4)]
  refine ⟨rfl, μ, s1, stp.trans s2, ⟨v.tr.1, fun d => ?_⟩, hd⟩
  rw [hT]
  exact (v.tr.2 d).mono s2

def todo (n : Nat) (listed : Array Bool) : Nat := ((List.range n).filter fun i => !(listed.getD i false)).length

theorem region_ok (hP : ProgOk P) (hcall : CallOk P call) : RegionOk P pol call := by
  intro fn nt ops T T' h h' a w μ ro e s tr F tt
  rw [hP.mixed]
  simp only [Region.schedule, Bool.true_or, if_true]
  simp only [aregion] at e
  cases hl : orderOf ops.toList with
  | none => rw [hl] at e; cases e
  | some l =>
    rw [hl] at e
    dsimp only at e
    have st := orderOf_spec hl
    obtain ⟨Ts, hs, vs, bs, t⟩ := trace_of l [] T h e
    have main : ∀ (fuel : Nat) (listed : Array Bool) (k : Nat) (T1 : Temps) (g : Hp) (μ1 : Nat → Nat) (a1 : Act) (w1 : World), listed.size = ops.size → todo ops.size listed ≤ fuel →
        (∀ i o, ops.toList[i]? = some o → listed.getD i false = true → ∀ ed ∈ o.after, Region.binds .any ed = true → listed.getD ed.on false = true) →
        Inw nt ops.toList l T hs vs bs (fun i => listed.getD i false = true) k T1 g μ1 a1 w1 → Stp h μ w g μ1 w1 → a1.defers = a.defers →
        wpAnyIn (fen ro) 0 P .any ops (OpsPost h μ w nt T' h' a.defers) fuel listed a1 w1 := by
      intro fuel
      induction fuel with
      | zero =>
        intro listed k T1 g μ1 a1 w1 hsz htd hcl v stp hd
        have hall : ∀ i, i < ops.size → listed.getD i false = true := by
          intro i hi
          cases hli : listed.getD i false with
          | true => rfl
          | false =>
            have : i ∈ (List.range ops.size).filter fun i => !(listed.getD i false) := List.mem_filter.2 ⟨List.mem_range.2 hi, by rw [hli]; rfl⟩
            have hlen := List.length_pos_of_mem this
            unfold todo at htd
            omega
        refine ⟨?_, v.done t (fun p i hp => ?_) stp hd⟩
        · cases hr : Region.ready .any ops listed with
          | nil => rfl
          | cons j r =>
            have hj : j ∈ Region.ready .any ops listed := by rw [hr]; exact List.mem_cons_self
            obtain ⟨h1, o, ho, _⟩ := mem_ready.1 hj
            have hlt := (Array.getElem?_eq_some_iff.1 ho).1
            have := hall j hlt
            simp only [Array.getD_eq_getD_getElem?] at this h1
            rw [Array.getElem?_eq_getElem (by omega)] at this h1
            simp only [Option.getD_some] at this h1
            rw [h1] at this; cases this
        · obtain ⟨o, ho, _⟩ := t.step p i hp
          have := (List.getElem?_eq_some_iff.1 ho).1
          exact hall i (by simpa using this)
      | succ fuel ih =>
        intro listed k T1 g μ1 a1 w1 hsz htd hcl v stp hd
        have hclosed : ∀ i' j, listed.getD i' false = true → ahead (masks ops.toList) j i' = true → listed.getD j false = true := by
          intro i' j h1 h2
          have hlt : i' < ops.size := by
            rcases Nat.lt_or_ge i' ops.size with h | h
            · exact h
            · simp only [Array.getD_eq_getD_getElem?] at h1
              rw [Array.getElem?_eq_none (by omega)] at h1; cases h1
          exact ahead_closed (S := fun i => listed.getD i false = true) (fun i o ho hi => hcl i o ho hi) i' (fun o ho => hcl i' o ho h1) ⟨_, List.getElem?_eq_getElem (by simpa using hlt)⟩ h2
        refine ⟨fun hr => ?_, fun i hi => ?_⟩
        · -- nothing is ready: all are taken
          refine v.done t ?_ stp hd
          intro p
          induction p using Nat.strongRecOn with
          | _ p ihp =>
            intro i hp
            obtain ⟨o, ho, _⟩ := t.step p i hp
            have hlt := (List.getElem?_eq_some_iff.1 ho).1
            have hlt' : i < ops.size := by simpa using hlt
            show listed.getD i false = true
            cases hli : listed.getD i false with
            | true => rfl
            | false =>
              have : i ∈ Region.ready .any ops listed := by
                refine mem_ready.2 ⟨?_, o, by rw [← Array.getElem?_toList]; exact ho, fun ed hed hb => ?_⟩
                · simp only [Array.getD_eq_getD_getElem?] at hli ⊢
                  rw [Array.getElem?_eq_getElem (by omega)] at hli ⊢
                  exact hli
                · obtain ⟨q, hq, hlq⟩ := st.closed p i o hp ho ed hed hb
                  exact ihp q hq ed.on hlq
              rw [hr] at this; cases this
        · obtain ⟨hun, o, ho, hbefore⟩ := mem_ready.1 hi
          have hlt := (Array.getElem?_eq_some_iff.1 ho).1
          have hoL : ops.toList[i]? = some o := by rw [Array.getElem?_toList]; exact ho
          have hnS : ¬ listed.getD i false = true := by
            intro hc
            simp only [Array.getD_eq_getD_getElem?] at hc hun
            rw [Array.getElem?_eq_getElem (by omega)] at hc hun
            simp only [Option.getD_some] at hc hun
            rw [hun] at hc; cases hc
          obtain ⟨p, hp⟩ := List.getElem?_of_mem (st.all i (by simpa using hlt))
          have hS' : ∀ j, (listed.setIfInBounds i true).getD j false = true ↔ listed.getD j false = true ∨ j = i := by
            intro j
            simp only [Array.getD_eq_getD_getElem?, Array.getElem?_setIfInBounds]
            by_cases e : i = j
            · subst e
              rw [if_pos rfl, if_pos (by omega)]
              simp
            · rw [if_neg e]
              exact ⟨.inl, fun h => h.resolve_right (fun h => e h.symm)⟩
          refine v.step hcall ro t st F hp hoL hnS
            (fun j hj => ahead_closed (S := fun i => listed.getD i false = true) (fun i o ho hi => hcl i o ho hi) i (fun o' ho' ed hed hb => by rw [hoL] at ho'; cases ho'; exact hbefore ed hed hb) ⟨o, hoL⟩ hj)
            hclosed hS' (fun k' T2 g' μ' a' w' v' stp' hd' => ih (listed.setIfInBounds i true) k' T2 g' μ' a' w' (by simpa using hsz) ?_ ?_ v' (stp.trans stp') (hd'.trans hd))
          · -- one less
            have hmem : i ∈ (List.range ops.size).filter fun i => !(listed.getD i false) := List.mem_filter.2 ⟨List.mem_range.2 hlt, by simpa using hnS⟩
            have hle : todo ops.size (listed.setIfInBounds i true) < todo ops.size listed := by
              unfold todo
              have hf : ((List.range ops.size).filter fun j => !((listed.setIfInBounds i true).getD j false)) = ((List.range ops.size).filter fun i => !(listed.getD i false)).filter fun j => !(Nat.beq j i) := by
                rw [List.filter_filter]
                refine List.filter_congr fun j _ => ?_
                have := hS' j
                cases h1 : (listed.setIfInBounds i true).getD j false <;> cases h2 : listed.getD j false <;> cases h3 : Nat.beq j i <;> simp_all
              rw [hf]
              have hn : ∀ (L : List Nat), i ∈ L → (L.filter fun j => !(Nat.beq j i)).length < L.length := by
                intro L
                induction L with
                | nil => intro h; cases h
                | cons x L ihL =>
                  intro h
                  rw [List.filter_cons]
                  by_cases e : x = i
                  · subst e
                    simp only [Nat.beq_refl, Bool.not_true, Bool.false_eq_true, if_false, List.length_cons]
                    exact Nat.lt_succ_of_le (List.length_filter_le _ _)
                  · have hb : Nat.beq x i = false := by
                      cases hq : Nat.beq x i with
                      | false => rfl
                      | true => exact absurd (Nat.eq_of_beq_eq_true hq) e
                    simp only [hb, Bool.not_false, if_true, List.length_cons]
                    have := ihL ((List.mem_cons.1 h).resolve_left (fun h => e h.symm))
                    omega
              exact hn _ hmem
            omega
          · intro j oj hoj hj ed hed hb
            rcases (hS' j).1 hj with h1 | rfl
            · exact (hS' _).2 (.inl (hcl j oj hoj h1 ed hed hb))
            · rw [hoL] at hoj; cases hoj
              exact (hS' _).2 (.inl (hbefore ed hed hb))
    obtain ⟨s1, s2⟩ := s.drawn (w' := { w with drawn := w.drawn + 1 }) rfl rfl rfl rfl
    refine wpAnyIn_sound ops.size tt _ a _ (main ops.size (Array.replicate ops.size false) 0 T h μ a _ (by simp) ?_ ?_ ?_ s2 rfl)
    · unfold todo
      exact Nat.le_trans (List.length_filter_le _ _) (by simp)
    · intro i o _ hi
      exfalso
      simp only [Array.getD_eq_getD_getElem?, Array.getElem?_replicate] at hi
      split at hi <;> cases hi
    · have none : ∀ i, ¬ ((Array.replicate ops.size false).getD i false = true) := by
        intro i hi
        simp only [Array.getD_eq_getD_getElem?, Array.getElem?_replicate] at hi
        split at hi <;> cases hi
      exact ⟨Nat.zero_le _, s1, tr.mono s2, fun p i o d _ _ hS => absurd hS (none i), fun _ _ => rfl, fun p i o _ _ _ _ h => absurd h (Nat.not_lt_zero _), fun p i o _ _ _ _ _ _ hS => none i hS,
        fun id o ho => by rw [t.h0] at ho; exact ho, fun p i o _ _ _ _ _ hS => absurd hS (none i), fun id o ho => .inl (by rw [t.h0]; exact ho)⟩

/-- THE A-MACHINE TELLS THE TRUTH -/
theorem acall_sound {sums : Sums} (hP : ProgOk P) (hs : SumsOk P sums) (n : Nat) : CallOk P (acall P pol sums n) := acall_ok hP hs (fun _ hc => region_ok hP hc) n
end
end Go.Am
namespace Go.Am
open Go AM RowKit

def Hp.none : Hp := ⟨.leaf, 0⟩
theorem Hp.none_get (id : Nat) : Hp.none.get id = Option.none := Tm.get_leaf id

theorem SR.none (μ : Nat → Nat) (w : World) (k : Gl Hp.none μ w) : SR Hp.none μ w := ⟨fun id o h => (by rw [Hp.none_get] at h; cases h), fun i j o o' h => (by rw [Hp.none_get] at h; cases h), k, fun id o t h => (by rw [Hp.none_get] at h; cases h)⟩

section
variable {P : Program} {pol : Pol} {sums : Sums}

/-- THE WAY IN -/
theorem entry (hP : ProgOk P) (hs : SumsOk P sums) {n : Nat} {f : FuncId} {args : List AV} {v : AV} {h' : Hp} {μ : Nat → Nat} {w : World} {xs : List Value}
    (e : (acall P pol sums (n + 1) (.func (.func f) [] []) args).run Hp.none = some (v, h')) (r : VRs Hp.none μ w args xs) (k : Gl Hp.none μ w) :
    Calls P f xs.toArray w fun en w' => ∃ x μ', en = .returned x ∧ VR h' μ' w' v x ∧ Below w.heap.size w w' := by
  simp only [acall, List.nil_append, List.append_nil] at e
  have hc := acall_sound (pol := pol) hP hs n
  obtain ⟨_, hk⟩ := afunc_calls hc (region_ok hP hc) hs n f e (SR.none μ w k) r (fun id _ _ => Hp.none_get id)
  refine callsIn_wide.1 (CallsIn.mono hk fun en w' hg => ?_)
  cases en with
  | returned x =>
    obtain ⟨μ', _, st, hv⟩ := hg
    exact ⟨x, μ', rfl, hv, st.os, st.tape, st.output, st.size, fun k hk => st.old k hk (fun ⟨id, o, ho, _⟩ => by rw [Hp.none_get] at ho; cases ho)⟩
  | panicked _ => exact hg.elim
  | outgrown => exact hg.elim
end

/-! ### runs that end well -/
def Runs {α : Type} (m : AM α) (h : Hp) (Q : α → Hp → Prop) : Prop := h.WF → ∃ a h', m.run h = some (a, h') ∧ Q a h'

theorem Dom.wf {h h' : Hp} (d : Dom h h') (w : h.WF) : h'.WF := fun id o e => by
  rcases d.dom id o e with ⟨o', e'⟩ | ⟨_, e'⟩
  · exact Nat.lt_of_lt_of_le (w id o' e') d.next
  · exact e'
theorem run_wf {α : Type} {m : AM α} {h h' : Hp} {a : α} (e : m.run h = some (a, h')) (w : h.WF) : h'.WF := (m.good.1 h a h' e).wf w
theorem Hp.WF.none : Hp.none.WF := fun id o e => by rw [Hp.none_get] at e; cases e

section
variable {α β : Type} {h : Hp}
theorem Runs.wf {m : AM α} {Q : α → Hp → Prop} (k : h.WF → Runs m h Q) : Runs m h Q := fun w => k w w
theorem Runs.pure {a : α} {Q : α → Hp → Prop} (q : Q a h) : Runs (Pure.pure a : AM α) h Q := fun _ => ⟨a, h, rfl, q⟩
theorem Runs.bind {m : AM α} {f : α → AM β} {Q : β → Hp → Prop} (r : Runs m h fun a h1 => Runs (f a) h1 Q) : Runs (m >>= f) h Q := fun w => by
  obtain ⟨a, h1, e1, r⟩ := r w
  obtain ⟨b, h2, e2, q⟩ := r (run_wf e1 w)
  exact ⟨b, h2, by rw [run_bind, e1]; exact e2, q⟩
theorem Runs.mono {m : AM α} {Q Q' : α → Hp → Prop} (r : Runs m h Q) (k : ∀ a h', Q a h' → Q' a h') : Runs m h Q' := fun w => by
  obtain ⟨a, h1, e, q⟩ := r w
  exact ⟨a, h1, e, k a h1 q⟩
/-- what a run that is known gives -/
theorem Runs.of {m : AM α} {Q : α → Hp → Prop} {a : α} {h' : Hp} (e : m.run h = some (a, h')) (q : Q a h') : Runs m h Q := fun _ => ⟨a, h', e, q⟩
theorem Runs.guard {b : Bool} {Q : Unit → Hp → Prop} (hb : b = true) (q : Q () h) : Runs (AM.guard b) h Q := by
  subst hb; exact fun _ => ⟨(), h, rfl, q⟩
theorem Runs.ofOption {o : Option α} {a : α} {Q : α → Hp → Prop} (ho : o = some a) (q : Q a h) : Runs (AM.ofOption o) h Q := by
  subst ho; exact fun _ => ⟨a, h, rfl, q⟩
theorem Runs.hget {id : Nat} {o : AObj} {Q : AObj → Hp → Prop} (ho : h.get id = some o) (q : Q o h) : Runs (AM.hget id) h Q :=
  fun _ => ⟨o, h, by simp only [AM.hget, ho], q⟩
theorem Runs.hput {id ver : Nat} {b : Body} {o : AObj} {Q : Unit → Hp → Prop} (ho : h.get id = some o) (hv : o.ver ≤ ver) (q : Q () ⟨h.obj.set id (some ⟨ver, o.stamp + 1, b, o.ty⟩), h.next⟩) : Runs (AM.hput id ver b) h Q :=
  fun _ => ⟨(), _, by simp only [AM.hput, AM.hputF, ho]; rw [show Nat.ble o.ver ver = true by simpa using hv]; rfl, q⟩
theorem Runs.hputF {id ver : Nat} {b : Body} {f : Option Nat → Option Nat} {o : AObj} {Q : Unit → Hp → Prop} (ho : h.get id = some o) (hv : o.ver ≤ ver) (q : Q () ⟨h.obj.set id (some ⟨ver, o.stamp + 1, b, f o.ty⟩), h.next⟩) : Runs (AM.hputF id ver b f) h Q :=
  fun _ => ⟨(), _, by simp only [AM.hputF, ho]; rw [show Nat.ble o.ver ver = true by simpa using hv]; rfl, q⟩
theorem Runs.hallocT {b : Body} {ty : Option Nat} {Q : Nat → Hp → Prop} (q : Q h.next ⟨h.obj.set h.next (some ⟨0, 0, b, ty⟩), h.next + 1⟩) : Runs (AM.hallocT b ty) h Q :=
  fun _ => ⟨h.next, _, rfl, q⟩
theorem Runs.halloc {b : Body} {Q : Nat → Hp → Prop} (q : Q h.next ⟨h.obj.set h.next (some ⟨0, 0, b, none⟩), h.next + 1⟩) : Runs (AM.halloc b) h Q :=
  fun _ => ⟨h.next, _, rfl, q⟩
theorem Runs.row {id ver esz : Nat} {cells : List AV} {fix : Bool} {stamp : Nat} {ty : Option Nat} {Q : Nat × List AV × Bool → Hp → Prop} (ho : h.get id = some ⟨ver, stamp, .row esz cells fix, ty⟩) (q : Q (esz, cells, fix) h) : Runs (rowOf id ver) h Q := by
  unfold rowOf
  refine Runs.bind (Runs.hget ho (Runs.bind (Runs.guard (by simp) ?_)))
  exact Runs.pure q
theorem row_run {id ver esz : Nat} {cells : List AV} {fix : Bool} {stamp : Nat} {ty : Option Nat} (ho : h.get id = some ⟨ver, stamp, .row esz cells fix, ty⟩) : (rowOf id ver).run h = some ((esz, cells, fix), h) := by
  simp only [rowOf, run_bind, AM.hget, ho]
  simp [AM.guard, run_pure]
  rfl

theorem get_set_eq (T : Tm AObj) (n id : Nat) (o : AObj) : (⟨T.set id (some o), n⟩ : Hp).get id = some o := by
  show (T.set id _).get id = _
  rw [Tm.get_set, if_pos rfl]
theorem get_set_ne (T : Tm AObj) (n : Nat) {id i : Nat} (o : AObj) (e : i ≠ id) : (⟨T.set id (some o), n⟩ : Hp).get i = (⟨T, n⟩ : Hp).get i := by
  show (T.set id _).get i = _
  rw [Tm.get_set, if_neg e]
end

/-! ### heaps that keep what lay in them -/
/-- from a heap on: what lay in it lies there unchanged -/
structure Keep (h h' : Hp) : Prop where
  same : ∀ id o, h.get id = some o → h'.get id = some o
  next : h.next ≤ h'.next
/-- the same, but for some objects -/
structure KeepBut (X : Nat → Prop) (h h' : Hp) : Prop where
  same : ∀ id o, ¬ X id → h.get id = some o → h'.get id = some o
  next : h.next ≤ h'.next

theorem Keep.refl (h : Hp) : Keep h h := ⟨fun _ _ e => e, Nat.le_refl _⟩
theorem Keep.trans {h h1 h2 : Hp} (a : Keep h h1) (b : Keep h1 h2) : Keep h h2 := ⟨fun id o e => b.same id o (a.same id o e), Nat.le_trans a.next b.next⟩
theorem Keep.but {h h' : Hp} (k : Keep h h') (X : Nat → Prop) : KeepBut X h h' := ⟨fun id o _ e => k.same id o e, k.next⟩
theorem KeepBut.refl {X : Nat → Prop} (h : Hp) : KeepBut X h h := (Keep.refl h).but X
theorem KeepBut.trans {X : Nat → Prop} {h h1 h2 : Hp} (a : KeepBut X h h1) (b : KeepBut X h1 h2) : KeepBut X h h2 := ⟨fun id o x e => b.same id o x (a.same id o x e), Nat.le_trans a.next b.next⟩
theorem KeepBut.weaken {X Y : Nat → Prop} {h h' : Hp} (k : KeepBut X h h') (s : ∀ i, X i → Y i) : KeepBut Y h h' := ⟨fun id o x e => k.same id o (fun q => x (s _ q)) e, k.next⟩
/-- what was not there at the start may be written: nothing old has changed -/
theorem KeepBut.keep {X : Nat → Prop} {h0 h1 h : Hp} (a : Keep h0 h1) (k : KeepBut X h1 h) (hX : ∀ id, X id → h0.get id = Option.none) : Keep h0 h :=
  ⟨fun id o e => k.same id o (fun x => by rw [hX id x] at e; cases e) (a.same id o e), Nat.le_trans a.next k.next⟩
theorem KeepBut.all {X : Nat → Prop} {h h' : Hp} (k : KeepBut X h h') (hX : ∀ id, X id → h.get id = Option.none) : Keep h h' := KeepBut.keep (Keep.refl h) k hX
theorem Hp.WF.get {h : Hp} (w : h.WF) {id : Nat} (e : h.next ≤ id) : h.get id = Option.none := by
  cases q : h.get id with
  | none => rfl
  | some o => have := w _ o q; omega
theorem Keep.allocT {h : Hp} (w : h.WF) (b : Body) (ty : Option Nat) : Keep h ⟨h.obj.set h.next (some ⟨0, 0, b, ty⟩), h.next + 1⟩ where
  same := fun id o e => by
    show (h.obj.set _ _).get id = _
    rw [Tm.get_set, if_neg (fun q => by have := w id o e; omega)]
    exact e
  next := Nat.le_succ _
theorem Keep.alloc {h : Hp} (w : h.WF) (b : Body) : Keep h ⟨h.obj.set h.next (some ⟨0, 0, b, none⟩), h.next + 1⟩ where
  same := fun id o e => by
    show (h.obj.set _ _).get id = _
    rw [Tm.get_set, if_neg (fun q => by have := w id o e; omega)]
    exact e
  next := Nat.le_succ _
theorem KeepBut.put {h : Hp} {id : Nat} (o : AObj) : KeepBut (· = id) h ⟨h.obj.set id (some o), h.next⟩ where
  same := fun i x hi e => by
    show (h.obj.set _ _).get i = _
    rw [Tm.get_set, if_neg hi]
    exact e
  next := Nat.le_refl _

/-- a row lies in a heap -/
def Row (h : Hp) (id ver esz : Nat) (cells : List AV) (fix : Bool) : Prop := ∃ st ty, h.get id = some ⟨ver, st, .row esz cells fix, ty⟩
def MapAt (h : Hp) (id : Nat) (es : List (AV × AV)) : Prop := ∃ ver st ty, h.get id = some ⟨ver, st, .map es, ty⟩
theorem Row.keep {h h' : Hp} {id ver esz : Nat} {cells : List AV} {fix : Bool} (r : Row h id ver esz cells fix) (k : Keep h h') : Row h' id ver esz cells fix := by
  obtain ⟨st, ty, e⟩ := r; exact ⟨st, ty, k.same _ _ e⟩
theorem Row.keepBut {X : Nat → Prop} {h h' : Hp} {id ver esz : Nat} {cells : List AV} {fix : Bool} (r : Row h id ver esz cells fix) (k : KeepBut X h h') (n : ¬ X id) : Row h' id ver esz cells fix := by
  obtain ⟨st, ty, e⟩ := r; exact ⟨st, ty, k.same _ _ n e⟩
theorem MapAt.keep {h h' : Hp} {id : Nat} {es : List (AV × AV)} (r : MapAt h id es) (k : Keep h h') : MapAt h' id es := by
  obtain ⟨v, st, ty, e⟩ := r; exact ⟨v, st, ty, k.same _ _ e⟩
theorem MapAt.keepBut {X : Nat → Prop} {h h' : Hp} {id : Nat} {es : List (AV × AV)} (r : MapAt h id es) (k : KeepBut X h h') (n : ¬ X id) : MapAt h' id es := by
  obtain ⟨v, st, ty, e⟩ := r; exact ⟨v, st, ty, k.same _ _ n e⟩
theorem Row.lt {h : Hp} {id ver esz : Nat} {cells : List AV} {fix : Bool} (r : Row h id ver esz cells fix) (w : h.WF) : id < h.next := by
  obtain ⟨st, ty, e⟩ := r; exact w _ _ e
theorem MapAt.lt {h : Hp} {id : Nat} {es : List (AV × AV)} (r : MapAt h id es) (w : h.WF) : id < h.next := by
  obtain ⟨v, st, ty, e⟩ := r; exact w _ _ e
theorem Row.ne_map {h : Hp} {id id' ver esz : Nat} {cells : List AV} {fix : Bool} {es : List (AV × AV)} (r : Row h id ver esz cells fix) (m : MapAt h id' es) : id ≠ id' := by
  rintro rfl
  obtain ⟨st, ty, e⟩ := r; obtain ⟨v, st', ty', e'⟩ := m
  rw [e] at e'; cases e'
end Go.Am
namespace Go.Am
open Go AM

section
variable {P : Program} {pol : Pol} {call : Calling} {fn nt fuel : Nat} {h : Hp} {T : Temps} {sums : Sums}

/-- what is owed behind the first half of a sequence, behind a block, behind a round of a loop -/
def KSeq (P : Program) (pol : Pol) (call : Calling) (fn nt fuel : Nat) (b : Code) (Q : Exit × Temps → Hp → Prop) : Exit × Temps → Hp → Prop := fun x h1 => match x with
  | (.normal, T1) => Runs (acode P pol call fn nt fuel b T1) h1 Q
  | x => Q x h1
def KBlock (id : Nat) (Q : Exit × Temps → Hp → Prop) : Exit × Temps → Hp → Prop := fun x h1 => match x with
  | (.exit id', T1) => if id' = id then Q (.normal, T1) h1 else Q (.exit id', T1) h1
  | x => Q x h1
def KLoop (I : Nat → Temps → Hp → Prop) (k : Nat) (Q : Exit × Temps → Hp → Prop) : Exit × Temps → Hp → Prop := fun x h1 => match x with
  | (.normal, T1) => ∃ k', k = k' + 1 ∧ I k' T1 h1
  | x => Q x h1
def KOps (Q : Exit × Temps → Hp → Prop) : Temps → Hp → Prop := fun T1 h1 => Q (.normal, T1) h1
section
variable {b : Code} {Q : Exit × Temps → Hp → Prop} {id id' k : Nat} {I : Nat → Temps → Hp → Prop}
theorem K_seq (r : Runs (acode P pol call fn nt fuel b T) h Q) : KSeq P pol call fn nt fuel b Q (.normal, T) h := r
theorem K_seq_ret (r : Q (.ret, T) h) : KSeq P pol call fn nt fuel b Q (.ret, T) h := r
theorem K_seq_exit (r : Q (.exit id, T) h) : KSeq P pol call fn nt fuel b Q (.exit id, T) h := r
theorem K_block (r : Q (.normal, T) h) : KBlock id Q (.normal, T) h := r
theorem K_block_ret (r : Q (.ret, T) h) : KBlock id Q (.ret, T) h := r
theorem K_block_exit (r : Q (.normal, T) h) : KBlock id Q (.exit id, T) h := by show ite _ _ _; rw [if_pos rfl]; exact r
theorem K_block_other (e : Nat.beq id' id = false) (r : Q (.exit id', T) h) : KBlock id Q (.exit id', T) h := by
  show ite _ _ _
  rw [if_neg (by rintro rfl; simp at e)]; exact r
theorem K_loop (k' : Nat) (e : k = k' + 1) (r : I k' T h) : KLoop I k Q (.normal, T) h := ⟨k', e, r⟩
theorem K_loop_ret (r : Q (.ret, T) h) : KLoop I k Q (.ret, T) h := r
theorem K_loop_exit (r : Q (.exit id, T) h) : KLoop I k Q (.exit id, T) h := r
theorem K_ops (r : Q (.normal, T) h) : KOps Q T h := r
end
theorem R_seq {a b : Code} {Q : Exit × Temps → Hp → Prop} (r : Runs (acode P pol call fn nt fuel a T) h (KSeq P pol call fn nt fuel b Q)) : Runs (acode P pol call fn nt fuel (.seq a b) T) h Q := by
  simp only [acode]
  refine Runs.bind (r.mono fun x h1 k => ?_)
  obtain ⟨e, T1⟩ := x
  cases e <;> first | exact k | exact Runs.pure k
theorem R_block {id : Nat} {b : Code} {Q : Exit × Temps → Hp → Prop} (r : Runs (acode P pol call fn nt fuel b T) h (KBlock id Q)) : Runs (acode P pol call fn nt fuel (.block id b) T) h Q := by
  simp only [acode]
  refine Runs.bind (r.mono fun x h1 k => ?_)
  obtain ⟨e, T1⟩ := x
  cases e <;> first | exact Runs.pure k | skip
  rename_i id'
  change ite _ _ _ at k
  dsimp only
  by_cases e : id' = id
  · rw [if_pos e] at k; rw [show Nat.beq id' id = true by simpa using e]; exact Runs.pure k
  · rw [if_neg e] at k
    rw [show Nat.beq id' id = false by cases hq : Nat.beq id' id with | false => rfl | true => exact absurd (Nat.eq_of_beq_eq_true hq) e]
    exact Runs.pure k
theorem R_cond {c : Operand} {a b : Code} (v : Bool) {Q : Exit × Temps → Hp → Prop} (hc : aeval T c = .bool v) (r1 : v = true → Runs (acode P pol call fn nt fuel a T) h Q) (r2 : v = false → Runs (acode P pol call fn nt fuel b T) h Q) :
    Runs (acode P pol call fn nt fuel (.cond c a b) T) h Q := by
  simp only [acode, hc]
  cases v
  · exact r2 rfl
  · exact r1 rfl
theorem R_ret {Q : Exit × Temps → Hp → Prop} (q : Q (.ret, T) h) : Runs (acode P pol call fn nt fuel .ret T) h Q := Runs.pure q
theorem R_skip {Q : Exit × Temps → Hp → Prop} (q : Q (.normal, T) h) : Runs (acode P pol call fn nt fuel .skip T) h Q := Runs.pure q
theorem R_exit {id : Nat} {Q : Exit × Temps → Hp → Prop} (q : Q (.exit id, T) h) : Runs (acode P pol call fn nt fuel (.exit id) T) h Q := Runs.pure q
/-- a loop whose rounds count down -/
theorem R_loop {b : Code} {Q : Exit × Temps → Hp → Prop} (I : Nat → Temps → Hp → Prop) (k : Nat) (hk : k < fuel) (h0 : I k T h)
    (round : ∀ k T h, I k T h → Runs (acode P pol call fn nt fuel b T) h (KLoop I k Q)) : Runs (acode P pol call fn nt fuel (.loop b) T) h Q := by
  simp only [acode]
  have key : ∀ (k n : Nat) (T : Temps) (h : Hp), k < n → I k T h → Runs (aloop (acode P pol call fn nt fuel b) n T) h Q := by
    intro k
    induction k with
    | zero =>
      intro n T h hn hI
      obtain ⟨m, rfl⟩ : ∃ m, n = m + 1 := ⟨n - 1, by omega⟩
      simp only [aloop]
      refine Runs.bind ((round 0 T h hI).mono fun x h1 q => ?_)
      obtain ⟨e, T1⟩ := x
      cases e with
      | normal => obtain ⟨k', e, _⟩ := q; omega
      | _ => exact Runs.pure q
    | succ k ih =>
      intro n T h hn hI
      obtain ⟨m, rfl⟩ : ∃ m, n = m + 1 := ⟨n - 1, by omega⟩
      simp only [aloop]
      refine Runs.bind ((round (k + 1) T h hI).mono fun x h1 q => ?_)
      obtain ⟨e, T1⟩ := x
      cases e with
      | normal =>
        obtain ⟨k', e, hI'⟩ := q
        obtain rfl : k' = k := by omega
        exact ih m T1 h1 (by omega) hI'
      | _ => exact Runs.pure q
  exact key k fuel T h hk h0

/-- what is owed at the end of a function -/
def KFunc (P : Program) (fn' : Func) (Q : AV → Hp → Prop) : Exit × Temps → Hp → Prop := fun x h1 => (x.1 = .normal ∨ x.1 = .ret) ∧ Runs (aresults P fn' x.2) h1 Q
theorem K_func_ret {fn' : Func} {Q : AV → Hp → Prop} (r : Runs (aresults P fn' T) h Q) : KFunc P fn' Q (.ret, T) h := ⟨.inr rfl, r⟩
theorem K_func_end {fn' : Func} {Q : AV → Hp → Prop} (r : Runs (aresults P fn' T) h Q) : KFunc P fn' Q (.normal, T) h := ⟨.inl rfl, r⟩
theorem R_results1 {fn' : Func} {t : Tmp} {v : AV} {Q : AV → Hp → Prop} (hr : fn'.results = #[.tmp t]) (hv : tget T t = v) (q : Q v h) : Runs (aresults P fn' T) h Q := by
  subst hv
  unfold aresults
  rw [hr]
  exact Runs.bind (Runs.bind (Runs.pure (Runs.bind (Runs.pure (Runs.pure (Runs.pure q))))))
theorem R_results0 {fn' : Func} {Q : AV → Hp → Prop} (hr : fn'.results = #[]) (q : Q (.tuple []) h) : Runs (aresults P fn' T) h Q := by
  unfold aresults
  rw [hr]
  exact Runs.bind (Runs.pure (Runs.pure q))
theorem R_results2 {fn' : Func} {t u : Tmp} {v x : AV} {Q : AV → Hp → Prop} (hr : fn'.results = #[.tmp t, .tmp u]) (hv : tget T t = v) (hx : tget T u = x) (q : Q (.tuple [v, x]) h) : Runs (aresults P fn' T) h Q := by
  subst hv hx
  unfold aresults
  rw [hr]
  exact Runs.bind (Runs.bind (Runs.pure (Runs.bind (Runs.bind (Runs.pure (Runs.bind (Runs.pure (Runs.pure (Runs.pure (Runs.pure q))))))))))
theorem R_results_cell {fn' : Func} {t : Tmp} {ty : TypeId} {a v : AV} {Q : AV → Hp → Prop} (hr : fn'.results = #[.cell t ty]) (ha : tget T t = a) (hv : (aload P ty a).run h = some (v, h)) (q : Q v h) : Runs (aresults P fn' T) h Q := by
  subst ha
  unfold aresults
  rw [hr]
  exact Runs.bind (Runs.bind (Runs.of hv (Runs.bind (Runs.pure (Runs.pure (Runs.pure q))))))

theorem R_func {f : FuncId} {fn' : Func} {c : Code} {first captured args : List AV} {n : Nat} {Q : AV → Hp → Prop} (hs : sums f = none) (hf : P.funcs[f]? = some fn') (hc : fn'.body = some c) (hl : (first ++ args ++ captured).length ≤ fn'.ntmps)
    (r : Runs (acode P pol (acall P pol sums n) f fn'.ntmps n c (tempsOf fn'.ntmps (first ++ args ++ captured))) h (KFunc P fn' Q)) :
    Runs (acall P pol sums (n + 1) (.func (.func f) first captured) args) h Q := by
  simp only [acall, afunc, hs, hf, hc]
  refine Runs.bind (Runs.guard (by simpa using hl) (Runs.bind (r.mono fun x h1 k => ?_)))
  obtain ⟨e, T1⟩ := x
  obtain ⟨k1, k2⟩ := k
  rcases k1 with k1 | k1
  · simp only at k1; subst k1; exact k2
  · simp only at k1; subst k1; exact k2
theorem R_sum {f : FuncId} {s : List AV → AM AV} {first captured args : List AV} {n : Nat} {Q : AV → Hp → Prop} (hs : sums f = some s) (r : Runs (s (first ++ args ++ captured)) h Q) :
    Runs (acall P pol sums (n + 1) (.func (.func f) first captured) args) h Q := by
  simp only [acall, afunc, hs]
  exact r

theorem tempsOf_arg {nt : Nat} {args : List AV} {i : Nat} {v : AV} (e : args[i]? = some v) : tget (tempsOf nt args) i = v := by
  obtain ⟨h1, rfl⟩ := List.getElem?_eq_some_iff.1 e
  unfold tempsOf
  rw [List.take_of_length_le (by omega), tget_tempsFrom, if_pos ⟨Nat.zero_le _, by omega⟩]
  simp [List.getD, h1]
end
end Go.Am
