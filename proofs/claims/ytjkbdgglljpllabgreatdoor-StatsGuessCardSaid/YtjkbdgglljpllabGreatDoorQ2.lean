/- The A-machine: regions in their own order; marks; what a block that is shut leaves. It holds no program. -/
import Derived.Test.YtjkbdgglljpllabGreatDoorQ1
import Derived.MapKept
import Derived.Laws.AppendOwn
import Derived.Laws.MakeOwn
import Derived.Lib.UnsafeStr
import Derived.Lib.ConvBytes
import Derived.OrdersIn
set_option linter.unusedVariables false
set_option linter.unusedSimpArgs false
namespace Go.Am
open Go AM

section
variable {P : Program} {h h' : Hp} {μ : Nat → Nat} {w : World}

def OVR (h : Hp) (μ : Nat → Nat) (w : World) : Option AV → Option Value → Prop
  | none, none => True
  | some a, some x => VR h μ w a x
  | _, _ => False

theorem abound_sim {most other : Nat} {b : Option AV} {b' : Option Value} {u : Nat} (e : (abound most other b).run h = some (u, h')) (r : OVR h μ w b b') :
    h' = h ∧ ((b = none ∧ b' = none ∧ u = other) ∨ (u ≤ most ∧ ∃ y, b' = some y ∧ ∀ (cap : Nat) (c : BoundsCode), most ≤ cap → (Instr.sliceBound y cap c).run P w = .ok u w)) := by
  unfold abound at e
  split at e
  · rename_i k i
    obtain ⟨_, h3, e5, e6⟩ := bind_some e
    obtain ⟨hg, rfl⟩ := guard_some e5
    obtain ⟨rfl, rfl⟩ := pure_some e6
    have hg := of_decide_eq_true hg
    cases b' with
    | none => exact r.elim
    | some x =>
      cases r
      refine ⟨rfl, .inr ⟨by omega, _, rfl, fun cap c hc => ?_⟩⟩
      have : 0 ≤ i ∧ i ≤ (cap : Int) := by omega
      simp [Instr.sliceBound, asIntOf, this.1, this.2]
  · obtain ⟨rfl, rfl⟩ := pure_some e
    cases b' with
    | none => exact ⟨rfl, .inl ⟨rfl, rfl, rfl⟩⟩
    | some x => exact r.elim
  · cases e

theorem abounds_sim {n m : Nat} {lo hi : Option AV} {lo' hi' : Option Value} {l u : Nat} (e : (abounds n m lo hi).run h = some ((l, u), h')) (r1 : OVR h μ w lo lo') (r2 : OVR h μ w hi hi') (hnm : n ≤ m) :
    h' = h ∧ l ≤ u ∧ u ≤ m ∧ (hi = none → u = n) ∧ ∀ (isS : Bool) (cap : Nat), m ≤ cap → (Instr.sliceBounds isS n cap lo' hi' none).run P w = .ok (l, u, cap) w := by
  obtain ⟨u', h1, e1, e2⟩ := bind_some e
  obtain ⟨l', h2, e3, e4⟩ := bind_some e2
  obtain ⟨rfl, k1⟩ := abound_sim (P := P) e1 r2
  obtain ⟨rfl, k2⟩ := abound_sim (P := P) e3 r1
  obtain ⟨he, rfl⟩ := pure_some e4
  simp only [Prod.mk.injEq] at he
  obtain ⟨rfl, rfl⟩ := he
  refine ⟨rfl, ?_, ?_, ?_, fun isS cap hc => ?_⟩
  · rcases k2 with ⟨_, _, h0⟩ | ⟨h0, _⟩ <;> omega
  · rcases k1 with ⟨_, _, h0⟩ | ⟨h0, _⟩ <;> omega
  · rintro rfl
    rcases k1 with ⟨_, _, h0⟩ | ⟨_, y, rfl, _⟩
    · exact h0
    · exact r2.elim
  · rcases k1 with ⟨_, rfl, rfl⟩ | ⟨_, y, rfl, hy⟩ <;> rcases k2 with ⟨_, rfl, rfl⟩ | ⟨_, z, rfl, hz⟩
    · simp [Instr.sliceBounds]
    · simp [Instr.sliceBounds, hz _ _ (Nat.le_refl _)]
    · simp [Instr.sliceBounds, hy _ _ hc]
    · simp [Instr.sliceBounds, hy _ _ hc, hz _ _ (Nat.le_refl _)]

theorem slice_sim (s : SR h μ w) {t : Nat} {a : AV} {x : Value} {lo hi mx : Option AV} {lo' hi' mx' : Option Value} (r : VR h μ w a x) (r1 : OVR h μ w lo lo') (r2 : OVR h μ w hi hi') (r3 : OVR h μ w mx mx') :
    PSim P h μ w (aslice P t a lo hi mx) (Instr.sliceAt t x lo' hi' mx') := by
  intro v h' e
  unfold aslice at e
  split at e
  · -- texts
    rename_i str
    obtain ⟨⟨l, u⟩, h1, e1, e2⟩ := bind_some e
    cases mx' with
    | some _ => exact r3.elim
    | none =>
    cases r with | str s' _ e' =>
    subst e'
    obtain ⟨rfl, hlu, hum, _, hrun⟩ := abounds_sim (P := P) e1 r1 r2 (Nat.le_refl _)
    dsimp only at e2
    split at e2
    · rename_i hu
      obtain ⟨rfl, rfl⟩ := pure_some e2
      have hsz : s'.data.toList.length = s'.size := by rw [Array.length_toList]; rfl
      have := hrun false s'.size (by omega)
      rw [hsz] at this
      refine ⟨rfl, .string (s'.extract l u), ?_, .str _ _ ?_⟩
      · simp [Instr.sliceAt, Instr.slice, Sem.run_bind, run_underlying hu, this]
      · simp [List.take_drop, show l + (u - l) = u by omega]
    · cases e2
  · -- slices that nobody writes
    rename_i k n cells
    obtain ⟨el, h1, e1, e2⟩ := bind_some e
    obtain ⟨rfl, hu⟩ := elemOf_some e1
    obtain ⟨sz, h2, e3, e4⟩ := bind_some e2
    obtain ⟨rfl, inf, hi2, hn⟩ := szOf_some e3
    obtain ⟨_, h3, e5, e6⟩ := bind_some e4
    obtain ⟨hg, rfl⟩ := guard_some e5
    obtain ⟨⟨l, u⟩, h4, e7, e8⟩ := bind_some e6
    obtain ⟨rfl, rfl⟩ := pure_some e8
    cases mx' with
    | some _ => exact r3.elim
    | none =>
    obtain ⟨rfl, hlu, hum, _, hrun⟩ := abounds_sim (P := P) e7 r1 r2 (Nat.le_refl _)
    have hlen : n * sz = cells.length := by simpa using hg
    cases r with
    | sl _ _ _ A cap vals hle hnil hfull htight hpos hh hl hs hc hr =>
      have hb := hrun true cap hle
      refine ⟨rfl, .slice (if cap = l then A else A.map (·.add (l * sz))) (u - l) (cap - l), ?_, ?_⟩
      · simp [Instr.sliceAt, Instr.slice, Sem.run_bind, run_underlying hu, hb, run_sizeOf' hi2, hn]
      · have rr := ((VRs.drop (μ := μ) (w := w) ⟨hl, hr⟩ (l * sz)).take ((u - l) * sz))
        have hA : ∀ ad', (if cap = l then A else A.map (·.add (l * sz))) = some ad' → ∃ ad, A = some ad ∧ ((cap = l ∧ ad' = ad) ∨ ad' = ad.add (l * sz)) := by
          intro ad' he
          by_cases hcl : cap = l
          · rw [if_pos hcl] at he; exact ⟨ad', he, .inl ⟨hcl, rfl⟩⟩
          · rw [if_neg hcl] at he
            cases A with
            | none => cases he
            | some ad => cases he; exact ⟨ad, rfl, .inr rfl⟩
        have hS : A.isSome = true → (if cap = l then A else A.map (·.add (l * sz))).isSome = true := by
          intro hA'; split <;> simp [hA']
        have hz : cap = l → u - l = 0 := by omega
        refine .sl _ _ _ _ _ ((vals.drop (l * sz)).take ((u - l) * sz)) (by omega) ?_ ?_ ?_ (fun h0 => hS (hpos (by omega))) ?_ rr.1 ?_ ?_ rr.2
        · intro hk
          have : k = .nil := by cases k <;> simp at hk ⊢ <;> (cases hb2 : Nat.beq u n <;> rw [hb2] at hk <;> cases hk)
          obtain ⟨h1, h2⟩ := hnil this
          exact ⟨by rw [h1]; split <;> rfl, by omega⟩
        · intro hk
          have : k = .full ∧ u = n := by
            cases k <;> simp at hk ⊢ <;> (cases hb2 : Nat.beq u n <;> rw [hb2] at hk <;> first | (cases hk; done) | exact Nat.eq_of_beq_eq_true hb2)
          obtain ⟨h1, h2⟩ := hfull this.1
          exact ⟨hS h1, by omega⟩
        · intro hk
          have : k = .tight ∧ u = n := by
            cases k <;> simp at hk ⊢ <;> (cases hb2 : Nat.beq u n <;> rw [hb2] at hk <;> first | (cases hk; done) | exact Nat.eq_of_beq_eq_true hb2)
          have := htight this.1
          omega
        · intro ad' he hne
          obtain ⟨ad, rfl, hd⟩ := hA ad' he
          have hne2 : cells ≠ [] := by rintro rfl; simp at hne
          obtain ⟨q1, q2⟩ := hh ad rfl hne2
          rcases hd with ⟨_, rfl⟩ | rfl
          · exact ⟨q1, q2⟩
          · rw [add_block]; exact ⟨q1, q2⟩
        · intro hne
          have hne2 : cells ≠ [] := by rintro rfl; simp at hne
          exact hS (hs hne2)
        · intro ad' he
          obtain ⟨ad, rfl, hd⟩ := hA ad' he
          rcases hd with ⟨hcl, rfl⟩ | rfl
          · intro i hi
            simp [hz hcl] at hi
          · exact At.take (At.drop (hc ad rfl) (l * sz)) _
  · -- slices that are written
    rename_i id ver off n
    obtain ⟨el, h1, e1, e2⟩ := bind_some e
    obtain ⟨rfl, hu⟩ := elemOf_some e1
    obtain ⟨sz, h2, e3, e4⟩ := bind_some e2
    obtain ⟨rfl, inf, hi2, hn⟩ := szOf_some e3
    obtain ⟨⟨esz, cells, fix⟩, h3, e5, e6⟩ := bind_some e4
    obtain ⟨rfl, o, ho, hv, hbody⟩ := rowOf_some e5
    obtain ⟨_, h4, e7, e8⟩ := bind_some e6
    obtain ⟨hg, rfl⟩ := guard_some e7
    obtain ⟨⟨l, u⟩, h5, e9, e10⟩ := bind_some e8
    obtain ⟨rfl, rfl⟩ := pure_some e10
    cases mx' with
    | some _ => exact r3.elim
    | none =>
    have hnm : n ≤ roomIn n off sz cells.length := by unfold roomIn; cases (Nat.ble 1 n || Nat.beq off 0) <;> simp <;> omega
    obtain ⟨rfl, hlu, hum, _, hrun⟩ := abounds_sim (P := P) e9 r1 r2 hnm
    simp only [Bool.and_eq_true, Nat.beq_eq, Nat.ble_eq] at hg
    obtain ⟨rfl, hfit⟩ := hg
    obtain ⟨ad, cap, rfl, hcap, hex⟩ := r.own_live ho hv hbody
    have hroom : roomIn n off esz cells.length ≤ cap ∧ (roomIn n off esz cells.length = n ∨ 0 < n ∨ off = 0) := by
      unfold roomIn
      cases hq : (Nat.ble 1 n || Nat.beq off 0) with
      | false => exact ⟨hcap, .inl rfl⟩
      | true =>
        have hcond : 0 < n ∨ off = 0 := by
          rcases Bool.or_eq_true_iff.1 hq with q | q
          · left; exact Nat.lt_of_succ_le (by simpa using q)
          · right; simpa using q
        obtain ⟨_, cs, ty, hw, hsz⟩ := hex hcond
        obtain ⟨cs2, ty2, hw2, hcs, _, _⟩ := s.row ho hbody
        rw [hw] at hw2
        injection hw2 with hw2
        injection hw2 with c1 c2
        subst c1
        refine ⟨?_, .inr hcond⟩
        simp only [cond_true]
        have h1 : (cells.length - off) / esz ≤ cap := by
          rcases Nat.eq_zero_or_pos esz with h0 | h0
          · rw [h0, Nat.div_zero]; omega
          · exact Nat.le_of_lt_succ ((Nat.div_lt_iff_lt_mul h0).2 (by rw [Nat.succ_mul]; omega))
        omega
    have hb := hrun true cap hroom.1
    refine ⟨rfl, .slice (some (if cap = l then ad else ad.add (l * esz))) (u - l) (cap - l), ?_, ?_⟩
    · simp [Instr.sliceAt, Instr.slice, Sem.run_bind, run_underlying hu, hb, run_sizeOf' hi2, hn]
      split <;> rfl
    · refine .own _ _ _ _ o ho hv esz (fun _ _ _ q => by rw [hbody] at q; cases q; rfl) _ _ (by omega) (fun hcond => ?_)
      by_cases hcl : cap = l
      · -- nothing behind: an offset 0
        have hul : u - l = 0 := by omega
        have hoff : off + l * esz = 0 := by omega
        have : off = 0 := by omega
        subst this
        have hle0 : l * esz = 0 := by omega
        obtain ⟨rfl, cs, ty, hw, hsz⟩ := hex (.inr rfl)
        rw [if_pos hcl]
        refine ⟨by rw [hle0], cs, ty, hw, ?_⟩
        rw [← hsz, hcl]; simp [hle0]
      · rw [if_neg hcl]
        have hcond2 : 0 < n ∨ off = 0 := by
          rcases hroom.2 with hr | hr
          · rcases hcond with hc | hc
            · left; omega
            · right; omega
          · exact hr
        obtain ⟨rfl, cs, ty, hw, hsz⟩ := hex hcond2
        refine ⟨add_plain _ _ _, cs, ty, hw, ?_⟩
        rw [← hsz, Nat.add_assoc, ← Nat.add_mul]
        congr 2
        omega
  · -- s[:0:0]
    rename_i k n cells k2
    split at e
    · rename_i k3
      obtain ⟨el, h1, e1, e2⟩ := bind_some e
      obtain ⟨rfl, hu⟩ := elemOf_some e1
      obtain ⟨sz, h2, e3, e4⟩ := bind_some e2
      obtain ⟨rfl, inf, hi2, hn⟩ := szOf_some e3
      obtain ⟨rfl, rfl⟩ := pure_some e4
      cases lo' with
      | some _ => exact r1.elim
      | none =>
      cases hi' with
      | none => exact r2.elim
      | some y =>
      cases mx' with
      | none => exact r3.elim
      | some z =>
      cases r2; cases r3
      cases r with
      | sl _ _ _ A cap vals hle hnil hfull htight hpos hh hl hs hc hr =>
        refine ⟨rfl, .slice A 0 0, ?_, .sl _ _ _ _ _ [] (Nat.le_refl _) ?_ ?_ (fun _ => rfl) (fun h0 => absurd h0 (Nat.lt_irrefl _)) (fun _ _ hne => absurd rfl hne) rfl (fun hne => absurd rfl hne) (fun _ _ i hi => absurd hi (Nat.not_lt_zero _)) (fun i hi => absurd hi (Nat.not_lt_zero _))⟩
        · simp [Instr.sliceAt, Instr.slice, run_underlying hu, Instr.sliceBounds, Instr.sliceBound, asIntOf, run_sizeOf' hi2]
        · intro hk; cases k <;> simp at hk
          exact ⟨(hnil rfl).1, rfl⟩
        · intro hk; cases k <;> simp at hk
    · cases e
  · rename_i id ver off n k2
    split at e
    · obtain ⟨el, h1, e1, e2⟩ := bind_some e
      obtain ⟨rfl, hu⟩ := elemOf_some e1
      obtain ⟨sz, h2, e3, e4⟩ := bind_some e2
      obtain ⟨rfl, inf, hi2, hn⟩ := szOf_some e3
      obtain ⟨⟨esz, cells, fix⟩, h3, e5, e6⟩ := bind_some e4
      obtain ⟨rfl, o, ho, hv, hbody⟩ := rowOf_some e5
      obtain ⟨rfl, rfl⟩ := pure_some e6
      cases lo' with
      | some _ => exact r1.elim
      | none =>
      cases hi' with
      | none => exact r2.elim
      | some y =>
      cases mx' with
      | none => exact r3.elim
      | some z =>
      cases r2; cases r3
      obtain ⟨ad, cap, rfl, hcap, hex⟩ := r.own_live ho hv hbody
      refine ⟨rfl, .slice (some ad) 0 0, ?_, .sl _ _ _ _ _ [] (Nat.le_refl _) (fun hk => by cases hk) (fun hk => by cases hk) (fun _ => rfl) (fun h0 => absurd h0 (Nat.lt_irrefl _)) (fun _ _ hne => absurd rfl hne) rfl (fun hne => absurd rfl hne) (fun _ _ i hi => absurd hi (Nat.not_lt_zero _)) (fun i hi => absurd hi (Nat.not_lt_zero _))⟩
      simp [Instr.sliceAt, Instr.slice, run_underlying hu, Instr.sliceBounds, Instr.sliceBound, asIntOf, run_sizeOf' hi2]
    · cases e
  · cases e

/-! ### maps, lengths -/
theorem SR.mapBorn (s : SR h μ w) {id : Nat} {o : AObj} {es : List (AV × AV)} (ho : h.get id = some o) (hb : o.body = .map es) :
    ∃ ms clock, w.heap[μ id]? = some (.map ms clock) ∧ VRs h μ w (es.map (·.1)) (ms.toList.map (·.key)) ∧ VRs h μ w (es.map (·.2)) (ms.toList.map (·.val)) ∧ Born ms clock := by
  obtain ⟨obj, h1, h2⟩ := s.blk id o ho
  rw [hb] at h2
  obtain ⟨ms, c, rfl, h3, h4, h5⟩ := h2
  exact ⟨ms, c, h1, h3, h4, h5⟩
theorem SR.map (s : SR h μ w) {id : Nat} {o : AObj} {es : List (AV × AV)} (ho : h.get id = some o) (hb : o.body = .map es) :
    ∃ ms clock, w.heap[μ id]? = some (.map ms clock) ∧ VRs h μ w (es.map (·.1)) (ms.toList.map (·.key)) ∧ VRs h μ w (es.map (·.2)) (ms.toList.map (·.val)) := by
  obtain ⟨obj, h1, h2⟩ := s.blk id o ho
  rw [hb] at h2
  obtain ⟨ms, c, rfl, h3, h4, _⟩ := h2
  exact ⟨ms, c, h1, h3, h4⟩

theorem goodKey_sim {kt : Nat} {k : AV} {y : Value} (hg : goodKey P kt k = true) (r : VR h μ w k y) : (∃ j n, P.underlying kt = some (.int j) ∧ k = .int j n ∧ y = .int j n) ∨
    (∃ s : ByteArray, P.underlying kt = some .string ∧ k = .str s.data.toList ∧ y = .string s) := by
  unfold goodKey at hg
  split at hg
  · rename_i j k' n hu
    cases r
    obtain rfl := of_decide_eq_true hg
    exact .inl ⟨_, _, hu, rfl, rfl⟩
  · rename_i l hu
    cases r with | str s _ e => subst e; exact .inr ⟨s, hu, rfl, rfl⟩
  · cases hg

theorem checkKey_sim {kt : Nat} {k : AV} {y : Value} (hg : goodKey P kt k = true) (r : VR h μ w k y) (em : Bool) : (Instr.checkKey em 10000 kt y).run P w = .ok () w := by
  have key : ∀ d : Nat, (Instr.checkKey em (d + 1) kt y).run P w = .ok () w := by
    intro d
    rcases goodKey_sim hg r with ⟨j, n, hu, rfl, rfl⟩ | ⟨s, hu, rfl, rfl⟩ <;> simp [Instr.checkKey, run_underlying hu]
  exact key 9999

theorem findNow_sim {kt : Nat} {k : AV} {y : Value} {d : TypeDesc} (hu : P.underlying kt = some d) (hg : goodKey P kt k = true) (r : VR h μ w k y) :
    ∀ (es : List (AV × AV)) (ms : List MapEntry) (i : Nat) (res : Option AV), VRs h μ w (es.map (·.1)) (ms.map (·.key)) → VRs h μ w (es.map (·.2)) (ms.map (·.val)) → afind k es = some res →
      ∃ q, Instr.findNow d y ms i = some q ∧ match res with
        | none => q = none
        | some v => ∃ (j : Nat) (e : MapEntry), q = some (i + j, e.val) ∧ ms[j]? = some e ∧ VR h μ w v e.val := by
  intro es
  induction es with
  | nil =>
    intro ms i res r1 r2 e
    cases e
    have : ms = [] := by have := r1.1; simp at this; exact List.eq_nil_of_length_eq_zero this.symm
    subst this
    exact ⟨none, rfl, rfl⟩
  | cons p es ih =>
    intro ms i res r1 r2 e
    obtain ⟨x, v⟩ := p
    cases ms with
    | nil => have := r1.1; simp at this
    | cons m ms =>
      have hk : VR h μ w x m.key := r1.2 0 (by simp) (by simp)
      have hv : VR h μ w v m.val := r2.2 0 (by simp) (by simp)
      have r1' : VRs h μ w (es.map (·.1)) (ms.map (·.key)) := ⟨by have := r1.1; simpa using this, fun j h1 h2 => by simpa using r1.2 (j + 1) (by simpa using h1) (by simpa using h2)⟩
      have r2' : VRs h μ w (es.map (·.2)) (ms.map (·.val)) := ⟨by have := r2.1; simpa using this, fun j h1 h2 => by simpa using r2.2 (j + 1) (by simpa using h1) (by simpa using h2)⟩
      have same : ∀ b, keyEq k x = some b → Instr.sameNow d y m.key = some b := by
        intro b hb
        generalize m.key = mk at hk ⊢
        rcases goodKey_sim hg r with ⟨j, n, hu', rfl, rfl⟩ | ⟨s, hu', rfl, rfl⟩
        · rw [hu] at hu'; cases hu'
          unfold keyEq at hb
          split at hb
          · rename_i heq; cases heq; cases hk
            exact hb
          · rename_i heq; cases heq
          · rename_i heq; cases heq
          · cases hb
        · rw [hu] at hu'; cases hu'
          unfold keyEq at hb
          split at hb
          · rename_i heq; cases heq
          · rename_i heq; cases heq
            cases hk with | str s2 _ e2 =>
            subst e2
            cases hb
            simp only [Instr.sameNow]
            rw [beq_toListBytes, toList_bytes, toList_bytes]
          · rename_i heq; cases heq
          · cases hb
      rw [afind] at e
      split at e
      · rename_i hb
        cases e
        exact ⟨some (i, m.val), by simp [Instr.findNow, same true hb], 0, m, rfl, rfl, hv⟩
      · rename_i hb
        obtain ⟨q, hq, hres⟩ := ih ms (i + 1) res r1' r2' e
        refine ⟨q, by simp [Instr.findNow, same false hb, hq], ?_⟩
        cases res with
        | none => exact hres
        | some v' =>
          obtain ⟨j, e', h1, h2, h3⟩ := hres
          exact ⟨j + 1, e', by rw [h1]; congr 2; omega, by simpa using h2, h3⟩
      · cases e

theorem findKey_sim {kt : Nat} {k : AV} {y : Value} (hg : goodKey P kt k = true) (r : VR h μ w k y) {es : List (AV × AV)} {ms : List MapEntry} {res : Option AV}
    (r1 : VRs h μ w (es.map (·.1)) (ms.map (·.key))) (r2 : VRs h μ w (es.map (·.2)) (ms.map (·.val))) (e : afind k es = some res) :
    match res with
    | none => (Instr.findKey kt y ms).run P w = .ok none w
    | some v => ∃ (j : Nat) (e : MapEntry), (Instr.findKey kt y ms).run P w = .ok (some (j, e.val)) w ∧ ms[j]? = some e ∧ VR h μ w v e.val := by
  have hu : ∃ d, P.underlying kt = some d := by
    rcases goodKey_sim hg r with ⟨j, n, hu, _⟩ | ⟨s, hu, _⟩ <;> exact ⟨_, hu⟩
  obtain ⟨d, hu⟩ := hu
  obtain ⟨q, hq, hres⟩ := findNow_sim hu hg r es ms 0 res r1 r2 e
  have hrun : (Instr.findKey kt y ms).run P w = .ok q w := by simp [Instr.findKey, run_underlying hu, hq]
  cases res with
  | none => rw [hrun, hres]
  | some v =>
    obtain ⟨j, e', h1, h2, h3⟩ := hres
    exact ⟨j, e', by rw [hrun, h1]; simp, h2, h3⟩

theorem entriesOf_sim (s : SR h μ w) {a : AV} {x : Value} {es : List (AV × AV)} (e : (entriesOf a).run h = some (es, h')) (r : VR h μ w a x) :
    h' = h ∧ ∃ ms : Array MapEntry, VRs h μ w (es.map (·.1)) (ms.toList.map (·.key)) ∧ VRs h μ w (es.map (·.2)) (ms.toList.map (·.val)) ∧
      ((a = .nilmap ∧ x = .map none ∧ ms = #[]) ∨ (∃ id clock, a = .mapv id ∧ x = .map (some (μ id)) ∧ w.heap[μ id]? = some (.map ms clock))) := by
  unfold entriesOf at e
  split at e
  · obtain ⟨rfl, rfl⟩ := pure_some e
    cases r
    exact ⟨rfl, #[], VRs.nil, VRs.nil, .inl ⟨rfl, rfl, rfl⟩⟩
  · obtain ⟨rfl, o, ho, hb⟩ := mapOf_some e
    obtain ⟨ms, c, h1, h2, h3⟩ := s.map ho hb
    obtain rfl := r.map_live
    exact ⟨rfl, ms, h2, h3, .inr ⟨_, c, rfl, rfl, h1⟩⟩
  · cases e

theorem lookup_sim (s : SR h μ w) {t : Nat} {a k : AV} {x y : Value} {ok : Bool} (r : VR h μ w a x) (r2 : VR h μ w k y) : PSim P h μ w (alookup P t a k ok) (Instr.lookup t x y ok) := by
  intro v h' e
  unfold alookup at e
  split at e
  · rename_i kt et hu
    obtain ⟨_, h1, e1, e2⟩ := bind_some e
    obtain ⟨hg, rfl⟩ := guard_some e1
    obtain ⟨es, h2, e3, e4⟩ := bind_some e2
    obtain ⟨rfl, ms, q1, q2, hx⟩ := entriesOf_sim s e3 r
    obtain ⟨res, h3, e5, e6⟩ := bind_some e4
    obtain ⟨hf, rfl⟩ := ofOption_some e5
    obtain ⟨z, h4, e7, e8⟩ := bind_some e6
    obtain ⟨rfl, inf, z', hi, hz, rfl⟩ := zeroOf_some e7
    obtain ⟨rfl, rfl⟩ := pure_some e8
    have hck : ∀ em, (Instr.checkKey em 10000 kt y).run P w = .ok () w := fun em => checkKey_sim hg r2 em
    have hfk := findKey_sim hg r2 q1 q2 hf
    have hrun : ∀ (val : Value) (isS : Bool) (q : Option (Nat × Value)), (Instr.findKey kt y ms.toList).run P w = .ok q w → (match q with | some (_, v) => val = v ∧ isS = true | none => val = z' ∧ isS = false) →
        (Instr.lookup t x y ok).run P w = .ok (if ok then .tuple #[val, .bool isS] else val) w := by
      intro val isS q hq hm
      rcases hx with ⟨_, rfl, rfl⟩ | ⟨id, c, _, rfl, hw⟩
      · cases q with
        | none => obtain ⟨rfl, rfl⟩ := hm; simp at hck hq; simp [Instr.lookup, run_underlying hu, hck, hq, run_zeroValue' hi hz]
        | some p => obtain ⟨rfl, rfl⟩ := hm; simp at hck hq; simp [Instr.lookup, run_underlying hu, hck, hq]
      · cases q with
        | none => obtain ⟨rfl, rfl⟩ := hm; simp [Instr.lookup, run_underlying hu, getObj, Sem.run, hw, hck, hq, run_zeroValue' hi hz]
        | some p => obtain ⟨rfl, rfl⟩ := hm; simp [Instr.lookup, run_underlying hu, getObj, Sem.run, hw, hck, hq]
    cases res with
    | none =>
      refine ⟨rfl, _, hrun z' false none hfk ⟨rfl, rfl⟩, ?_⟩
      cases ok
      · exact VR_ofVal _
      · exact .tuple [_, _] [_, _] rfl (VRs.cons (VR_ofVal _) (VRs.cons (.bool _) .nil)).2
    | some v' =>
      obtain ⟨j, e', h1, h2, h3⟩ := hfk
      refine ⟨rfl, _, hrun e'.val true _ h1 ⟨rfl, rfl⟩, ?_⟩
      cases ok
      · exact h3
      · exact .tuple [_, _] [_, _] rfl (VRs.cons h3 (VRs.cons (.bool _) .nil)).2
  · cases e

theorem len_sim (s : SR h μ w) {t ty : Nat} {ts : List TypeId} {a : AV} {x : Value} {xs : List Value} (r : VR h μ w a x) : PSim P h μ w (alen P t a) (Builtin.len_ (t :: ts).toArray ty (x :: xs).toArray) := by
  intro v h' e
  unfold alen at e
  have hd : ∀ d, P.underlying t = some d → (Builtin.len_ (t :: ts).toArray ty (x :: xs).toArray).run P w = (Builtin.len_ #[t] ty #[x]).run P w := by
    intro d hd; simp [Builtin.len_]
  split at e
  · rename_i n el hu; obtain ⟨rfl, rfl⟩ := pure_some e; exact ⟨rfl, _, by rw [hd _ hu]; simp [Builtin.len_, run_underlying hu, goInt], .int _ _⟩
  · rename_i ar hu
    split at e
    · rename_i n el hu2; obtain ⟨rfl, rfl⟩ := pure_some e; exact ⟨rfl, _, by rw [hd _ hu]; simp [Builtin.len_, run_underlying hu, run_underlying hu2, goInt], .int _ _⟩
    · cases e
  · rename_i hu
    split at e
    · obtain ⟨rfl, rfl⟩ := pure_some e
      cases r with | str s' _ e' =>
      subst e'
      have hsz : s'.data.toList.length = s'.size := by rw [Array.length_toList]; rfl
      exact ⟨rfl, .int .i64 s'.size, by rw [hd _ hu]; simp [Builtin.len_, run_underlying hu, goInt], by rw [hsz]; exact .int _ _⟩
    · cases e
  · rename_i el hu
    split at e
    · obtain ⟨rfl, rfl⟩ := pure_some e
      cases r
      exact ⟨rfl, _, by rw [hd _ hu]; simp [Builtin.len_, run_underlying hu, goInt], .int _ _⟩
    · obtain ⟨⟨esz, cells, fix⟩, h3, e5, e6⟩ := bind_some e
      obtain ⟨rfl, o, ho, hv, hbody⟩ := rowOf_some e5
      obtain ⟨rfl, rfl⟩ := pure_some e6
      obtain ⟨ad, cap, rfl, _⟩ := r.own_live ho hv hbody
      exact ⟨rfl, _, by rw [hd _ hu]; simp [Builtin.len_, run_underlying hu, goInt], .int _ _⟩
    · cases e
  · rename_i kt et hu
    split at e
    · obtain ⟨rfl, rfl⟩ := pure_some e
      cases r
      exact ⟨rfl, _, by rw [hd _ hu]; simp [Builtin.len_, run_underlying hu, goInt], .int _ _⟩
    · obtain ⟨es, h1, e1, e2⟩ := bind_some e
      obtain ⟨rfl, o, ho, hb⟩ := mapOf_some e1
      obtain ⟨ms, c, q1, q2, q3⟩ := s.map ho hb
      obtain ⟨rfl, rfl⟩ := pure_some e2
      obtain rfl := r.map_live
      have hl : es.length = ms.size := by have := q2.1; simpa using this
      exact ⟨rfl, .int .i64 ms.size, by rw [hd _ hu]; simp [Builtin.len_, run_underlying hu, goInt, getObj, Sem.run, q1], by rw [hl]; exact .int _ _⟩
    · cases e
  · cases e
end
end Go.Am
namespace Go.Am
open Go AM

section
variable {P : Program} {h h' : Hp} {μ : Nat → Nat} {w : World}

def MSim (P : Program) (h : Hp) (μ : Nat → Nat) (w : World) (m : AM AV) (s : Sem Value) : Prop :=
  ∀ v h', m.run h = some (v, h') → Fresh h h' → ∃ μ' w' x, s.run P w = .ok x w' ∧ SR h' μ' w' ∧ Stp h μ w h' μ' w' ∧ VR h' μ' w' v x

theorem PSim.m (s : SR h μ w) {m : AM AV} {q : Sem Value} (p : PSim P h μ w m q) : MSim P h μ w m q := fun v h' e _ => by
  obtain ⟨rfl, x, h1, h2⟩ := p v h' e
  exact ⟨μ, w, x, h1, s, Stp.refl _ _ _, h2⟩

theorem VRs_ofVal (z : Value) : VRs h μ w (acells (ofVal z)) z.cells.toList := by
  unfold ofVal
  split
  · rename_i cs
    have : VRs h μ w (cs.toList.map ofCell) (cs.toList.map id) := VRs.map _ fun i _ => VR_ofCell _
    simpa [acells, Value.cells] using this
  · exact VRs.cons (.iface _ _ _ (VR_ofCell _)) .nil
  · rename_i h1 h2
    have : z.cells = #[z] := by cases z <;> first | rfl | (exact absurd rfl (h1 _))
    rw [this]
    have hc : acells (ofCell z) = [ofCell z] := by
      unfold ofCell; split <;> rfl
    rw [hc]
    exact VRs.cons (VR_ofCell z) .nil

theorem known_ne {v : AV} (hk : known v = true) : v ≠ .undef := by rintro rfl; cases hk

theorem Fresh.new {b : Body} {ty : Option Nat} (hf : Fresh h ⟨h.obj.set h.next (some ⟨0, 0, b, ty⟩), h.next + 1⟩) : h.get h.next = none := hf _ (Nat.le_refl _) (Nat.lt_succ_self _)

/-- a row is made, of a type that is told -/
theorem SR.newRowT (s : SR h μ w) (hf : h.get h.next = none) (ty : TypeId) (esz : Nat) {cells : List AV} {cs : Array Value} (r : VRs h μ w cells (cs.toList.take cells.length)) (hle : cells.length ≤ cs.size) (fix : Bool) (hfix : fix = true → cs.size = cells.length) :
    SR ⟨h.obj.set h.next (some ⟨0, 0, .row esz cells fix, some ty⟩), h.next + 1⟩ (upd μ h.next w.heap.size) (w.alloc (.cells cs ty)) ∧
    Stp h μ w ⟨h.obj.set h.next (some ⟨0, 0, .row esz cells fix, some ty⟩), h.next + 1⟩ (upd μ h.next w.heap.size) (w.alloc (.cells cs ty)) :=
  s.allocT hf (.cells cs ty) (.row esz cells fix) ⟨cs, ty, rfl, hle, hfix, r⟩ (some ty) fun t q => by cases q; exact ⟨cs, (0, 0), rfl⟩
/-- a row is made -/
theorem SR.newRow (s : SR h μ w) (hf : h.get h.next = none) (ty : TypeId) (esz : Nat) {cells : List AV} {cs : Array Value} (r : VRs h μ w cells (cs.toList.take cells.length)) (hle : cells.length ≤ cs.size) (fix : Bool) (hfix : fix = true → cs.size = cells.length) :
    SR ⟨h.obj.set h.next (some ⟨0, 0, .row esz cells fix, none⟩), h.next + 1⟩ (upd μ h.next w.heap.size) (w.alloc (.cells cs ty)) ∧
    Stp h μ w ⟨h.obj.set h.next (some ⟨0, 0, .row esz cells fix, none⟩), h.next + 1⟩ (upd μ h.next w.heap.size) (w.alloc (.cells cs ty)) :=
  s.alloc hf _ _ ⟨cs, ty, rfl, hle, hfix, r⟩

theorem get_new (b : Body) {ty : Option Nat} : (⟨h.obj.set h.next (some ⟨0, 0, b, ty⟩), h.next + 1⟩ : Hp).get h.next = some ⟨0, 0, b, ty⟩ := by
  show (h.obj.set _ _).get _ = _
  rw [Tm.get_set, if_pos rfl]

theorem VR_newPtr (b : Body) (w' : World) {ty : Option Nat} : VR ⟨h.obj.set h.next (some ⟨0, 0, b, ty⟩), h.next + 1⟩ (upd μ h.next w.heap.size) w' (.ptr h.next 0 0) (.pointer (some ⟨w.heap.size, 0, none⟩)) := by
  have := VR.ptr (h := ⟨h.obj.set h.next (some ⟨0, 0, b, ty⟩), h.next + 1⟩) (μ := upd μ h.next w.heap.size) (w := w') h.next 0 0 _ (get_new b) rfl
  simpa [upd] using this

theorem alloc_sim (s : SR h μ w) (t : TypeId) : MSim P h μ w (do let z ← zeroOf P t; let id ← AM.hallocT (.row (acells z).length (acells z) true) (some t); pure (.ptr id 0 0)) (Instr.alloc t true (.tuple #[])) := by
  intro v h' e hF
  obtain ⟨z, h1, e1, e2⟩ := bind_some e
  obtain ⟨rfl, i, z', hi, hz, rfl⟩ := zeroOf_some e1
  obtain ⟨id, h2, e3, e4⟩ := bind_some e2
  obtain ⟨rfl, rfl⟩ := hallocT_some e3
  obtain ⟨rfl, rfl⟩ := pure_some e4
  have r := VRs_ofVal (h := h1) (μ := μ) (w := w) z'
  obtain ⟨s1, s2⟩ := s.newRowT hF.new t (acells (ofVal z')).length (cs := z'.cells) (by rw [r.1, List.take_of_length_le (Nat.le_refl _)]; exact r) (by have := r.1; simp at this; omega) true (fun _ => by have := r.1; simp at this; omega)
  exact ⟨_, _, _, by simp [Instr.alloc, run_zeroValue' hi hz, newVar, newRow], s1, s2, VR_newPtr _ _⟩

theorem box_sim (s : SR h μ w) (t : TypeId) {a : AV} {x : Value} (r : VR h μ w a x) : MSim P h μ w (do AM.guard (known a); let id ← AM.hallocT (.row (acells a).length (acells a) true) (some t); pure (.ptr id 0 0)) (Instr.box t x) := by
  intro v h' e hF
  obtain ⟨_, h1, e1, e2⟩ := bind_some e
  obtain ⟨hg, rfl⟩ := guard_some e1
  obtain ⟨id, h2, e3, e4⟩ := bind_some e2
  obtain ⟨rfl, rfl⟩ := hallocT_some e3
  obtain ⟨rfl, rfl⟩ := pure_some e4
  have r := r.cells (known_ne hg)
  obtain ⟨s1, s2⟩ := s.newRowT hF.new t (acells a).length (cs := x.cells) (by rw [r.1, List.take_of_length_le (Nat.le_refl _)]; exact r) (by have := r.1; simp at this; omega) true (fun _ => by have := r.1; simp at this; omega)
  exact ⟨_, _, _, by simp [Instr.box, newVar, newRow], s1, s2, VR_newPtr _ _⟩

theorem makeMap_sim (s : SR h μ w) (t : TypeId) : MSim P h μ w (do let id ← AM.halloc (.map []); pure (.mapv id)) (Instr.makeMap t none) := by
  intro v h' e hF
  obtain ⟨id, h2, e3, e4⟩ := bind_some e
  obtain ⟨rfl, rfl⟩ := halloc_some e3
  obtain ⟨rfl, rfl⟩ := pure_some e4
  obtain ⟨s1, s2⟩ := s.alloc hF.new (.map #[] 0) (.map []) ⟨#[], 0, rfl, VRs.nil, VRs.nil, Born.none⟩
  refine ⟨_, _, .map (some w.heap.size), by simp [Instr.makeMap], s1, s2, ?_⟩
  have := VR.mapv (h := ⟨h.obj.set h.next (some ⟨0, 0, .map [], none⟩), h.next + 1⟩) (μ := upd μ h.next w.heap.size) (w := w.alloc (.map #[] 0)) h.next _ (get_new _) [] rfl
  simpa [upd] using this

/-! ### literals -/
theorem foldl_set (vs : List Value) : ∀ (off : Nat) (cs : Array Value), off + vs.length ≤ cs.size →
    (vs.zipIdx.foldl (fun (cs : Array Value) (p : Value × Nat) => cs.setIfInBounds (off + p.2) p.1) cs).toList = cs.toList.take off ++ vs ++ cs.toList.drop (off + vs.length) := by
  have gen : ∀ (vs : List Value) (k off : Nat) (cs : Array Value), off + k + vs.length ≤ cs.size →
      ((vs.zipIdx k).foldl (fun (cs : Array Value) (p : Value × Nat) => cs.setIfInBounds (off + p.2) p.1) cs).toList = cs.toList.take (off + k) ++ vs ++ cs.toList.drop (off + k + vs.length) := by
    intro vs
    induction vs with
    | nil => intro k off cs _; simp
    | cons v vs ih =>
      intro k off cs hle
      simp only [List.zipIdx_cons, List.foldl_cons]
      rw [ih (k + 1) off _ (by simp at hle ⊢; omega)]
      have := list_seg_step cs.toList (off + k) v vs (by simp at hle ⊢; omega)
      simpa [Array.toList_setIfInBounds, Nat.add_assoc] using this
  intro off cs hle
  exact gen vs 0 off cs (by simpa using hle)

theorem afill_sim {place : Nat → Option (Nat × Nat)} {place' : Nat → Option (Nat × Nat)} (hp : ∀ i q, place i = some q → place' i = some q) :
    ∀ (parts : List (Nat × AV)) (parts' : List (Nat × Value)) (cells : List AV) (cs : Array Value) (out : List AV), parts.map (·.1) = parts'.map (·.1) → VRs h μ w (parts.map (·.2)) (parts'.map (·.2)) → VRs h μ w cells cs.toList →
      (afill place cells parts).run h = some (out, h') → h' = h ∧ ∃ cs' : Array Value, Instr.fill place' cs parts' = some cs' ∧ VRs h μ w out cs'.toList := by
  intro parts
  induction parts with
  | nil =>
    intro parts' cells cs out h1 h2 h3 e
    obtain ⟨rfl, rfl⟩ := pure_some e
    have : parts' = [] := by simpa using h1.symm
    subst this
    exact ⟨rfl, cs, rfl, h3⟩
  | cons p parts ih =>
    intro parts' cells cs out h1 h2 h3 e
    obtain ⟨i, v⟩ := p
    cases parts' with
    | nil => simp at h1
    | cons q parts' =>
      obtain ⟨i', x⟩ := q
      simp only [List.map_cons, List.cons.injEq] at h1
      obtain ⟨rfl, h1⟩ := h1
      have hv : VR h μ w v x := h2.2 0 (by simp) (by simp)
      have h2' : VRs h μ w (parts.map (·.2)) (parts'.map (·.2)) := ⟨by have := h2.1; simpa using this, fun j a b => by simpa using h2.2 (j + 1) (by simpa using a) (by simpa using b)⟩
      rw [afill] at e
      cases hpl : place i with
      | none => rw [hpl] at e; cases e
      | some os =>
        obtain ⟨off, size⟩ := os
        rw [hpl] at e
        obtain ⟨_, h4, e1, e2⟩ := bind_some e
        obtain ⟨hg, rfl⟩ := guard_some e1
        simp only [Bool.and_eq_true, Nat.beq_eq, Nat.ble_eq] at hg
        obtain ⟨⟨hl, hfit⟩, hk⟩ := hg
        have rc := hv.cells (known_ne hk)
        have hxl : x.cells.toList.length = size := by rw [← rc.1]; exact hl
        have hxs : x.cells.size = size := by simpa using hxl
        have hcs : cs.size = cells.length := by have := h3.1; simp at this; omega
        have hf := foldl_set x.cells.toList off cs (by omega)
        have hsp := h3.splice rc off
        rw [← hf] at hsp
        obtain ⟨rfl, cs', hfill, hr⟩ := ih parts' _ _ out h1 h2' hsp e2
        refine ⟨rfl, cs', ?_, hr⟩
        rw [Instr.fill, hp _ _ hpl]
        have hno : ¬ ((decide (x.cells.size ≠ size) || decide (off + x.cells.size > cs.size)) = true) := by simp; omega
        dsimp only
        rw [if_neg hno]
        rw [← hfill]
        congr 1
        rw [← Array.foldl_toList]
        simp
end
end Go.Am
namespace Go.Am
open Go AM

section
variable {P : Program} {h h' : Hp} {μ : Nat → Nat} {w : World}

theorem run_mapM_list {α β : Type} (f : α → Sem β) (g : α → β) : ∀ (l : List α), (∀ x ∈ l, (f x).run P w = .ok (g x) w) → (l.mapM f).run P w = .ok (l.map g) w
  | [], _ => by simp
  | x :: l, hx => by
    have := run_mapM_list f g l (fun y hy => hx y (by simp [hy]))
    simp [List.mapM_cons, hx x (by simp), this]
theorem run_mapM_array {α β : Type} (f : α → Sem β) (g : α → β) (l : Array α) (hx : ∀ x ∈ l, (f x).run P w = .ok (g x) w) : (l.mapM f).run P w = .ok (l.map g) w := by
  obtain ⟨l⟩ := l
  rw [List.mapM_toArray]
  have := run_mapM_list (P := P) (w := w) f g l (fun x hx' => hx x (by simpa using hx'))
  simp [this]

theorem parts_map (ps : Array (Nat × Operand)) (ρ : Operand → AV) (ρ' : Operand → Value) (hρ : ∀ x, VR h μ w (ρ x) (ρ' x)) :
    ((ps.toList.map fun (i, x) => (i, ρ x)).map (·.1)) = (((ps.map fun (i, x) => (i, ρ' x)).toList).map (·.1)) ∧
    VRs h μ w ((ps.toList.map fun (i, x) => (i, ρ x)).map (·.2)) (((ps.map fun (i, x) => (i, ρ' x)).toList).map (·.2)) := by
  constructor
  · simp
  · simp only [Array.toList_map, List.map_map]
    exact VRs.map _ fun p _ => hρ p.2

theorem build_sim {t : TypeId} {parts : List (Nat × AV)} {parts' : Array (Nat × Value)} (h1 : parts.map (·.1) = parts'.toList.map (·.1)) (h2 : VRs h μ w (parts.map (·.2)) (parts'.toList.map (·.2))) :
    PSim P h μ w (abuild P t parts) (Instr.build t parts') := by
  intro v h' e
  obtain ⟨z, h3, e1, e2⟩ := bind_some e
  obtain ⟨rfl, i, z', hi, hz, rfl⟩ := zeroOf_some e1
  have rz := VRs_ofVal (h := h3) (μ := μ) (w := w) z'
  split at e2
  · rename_i fs hu
    obtain ⟨_, h4, e3, e4⟩ := bind_some e2
    obtain ⟨hg, rfl⟩ := guard_some e3
    obtain ⟨out, h5, e5, e6⟩ := bind_some e4
    obtain ⟨rfl, rfl⟩ := pure_some e6
    have hall : ∀ f ∈ fs, ∃ inf, P.info? f.type = some inf := fun f hf => by
      have := List.all_eq_true.1 hg f (by simpa using hf)
      exact Option.isSome_iff_exists.1 this
    obtain ⟨rfl, cs', hfill, hr⟩ := afill_sim (place' := ((fs.map fun f => (f.offset, P.cellsOf f.type))[·]?)) (fun i q hq => by
      cases hf : fs.toList[i]? with
      | none => rw [hf] at hq; cases hq
      | some f =>
        rw [hf] at hq
        simp only [Option.bind_some, Option.map_eq_some_iff] at hq
        obtain ⟨inf, hinf, rfl⟩ := hq
        have hf' : fs[i]? = some f := by simpa using hf
        simp [hf', Program.cellsOf, hinf]) parts parts'.toList _ _ out h1 h2 rz e5
    refine ⟨rfl, .agg cs', ?_, ?_⟩
    · have hm : (fs.mapM fun f => (do pure (f.offset, ← sizeOf f.type) : Sem (Nat × Nat))).run P w = .ok (fs.map fun f => (f.offset, P.cellsOf f.type)) w :=
        run_mapM_array _ _ fs fun f hf => by
          obtain ⟨inf, hinf⟩ := hall f hf
          simp [run_sizeOf' hinf, Program.cellsOf, hinf]
      simp only [Instr.build, Sem.run_bind, run_zeroValue' hi hz, Result.andThen, run_underlying hu, hm, hfill, Sem.run_pure]
    · have : cs' = cs'.toList.toArray := by simp
      rw [this]; exact .agg _ _ hr.1 hr.2
  · rename_i n el hu
    obtain ⟨sz, h4, e3, e4⟩ := bind_some e2
    obtain ⟨rfl, inf, hinf, hn⟩ := szOf_some e3
    obtain ⟨out, h5, e5, e6⟩ := bind_some e4
    obtain ⟨rfl, rfl⟩ := pure_some e6
    obtain ⟨rfl, cs', hfill, hr⟩ := afill_sim (place' := fun i => some (i * sz, sz)) (fun i q hq => hq) parts parts'.toList _ _ out h1 h2 rz e5
    refine ⟨rfl, .agg cs', ?_, ?_⟩
    · simp only [Instr.build, Sem.run_bind, run_zeroValue' hi hz, Result.andThen, run_underlying hu, run_sizeOf' hinf, hn, hfill, Sem.run_pure]
    · have : cs' = cs'.toList.toArray := by simp
      rw [this]; exact .agg _ _ hr.1 hr.2
  · cases e2

theorem length_repeat (z : List AV) (n : Nat) : (repeatCells z n).length = n * z.length := by
  induction n with
  | zero => simp [repeatCells]
  | succ n ih => simp [repeatCells, ih, Nat.succ_mul, Nat.add_comm]

/-- the model's row of zeros -/
def zerosOf (z : Array Value) (n : Nat) : List Value := (List.range (n * z.size)).map fun i => z[i % z.size]!
theorem zerosOf_succ (z : Array Value) (n : Nat) : zerosOf z (n + 1) = z.toList ++ zerosOf z n := by
  apply List.ext_getElem
  · simp [zerosOf, Nat.succ_mul, Nat.add_comm]
  · intro i h1 h2
    simp only [zerosOf, List.length_map, List.length_range] at h1
    have hz : 0 < z.size := by
      rcases Nat.eq_zero_or_pos z.size with h0 | h0
      · rw [h0] at h1; simp at h1
      · exact h0
    by_cases hi : i < z.size
    · rw [List.getElem_append_left (by simpa using hi)]
      simp [zerosOf, Nat.mod_eq_of_lt hi, hi]
    · rw [List.getElem_append_right (by simp; omega)]
      simp only [zerosOf, List.getElem_map, List.getElem_range, Array.length_toList]
      congr 1
      rw [Nat.mod_eq_sub_mod (by omega)]
theorem VRs_zeros (z : Value) (n : Nat) : VRs h μ w (repeatCells (acells (ofVal z)) n) (zerosOf z.cells n) := by
  induction n with
  | zero => simpa [repeatCells, zerosOf] using VRs.nil
  | succ n ih => rw [zerosOf_succ]; exact (VRs_ofVal z).append ih

theorem buildSlice_sim {t : TypeId} {len : Nat} {parts : List (Nat × AV)} {parts' : Array (Nat × Value)} {n : Nat} {out : List AV} (h1 : parts.map (·.1) = parts'.toList.map (·.1)) (h2 : VRs h μ w (parts.map (·.2)) (parts'.toList.map (·.2)))
    (e : (abuildSlice P t len parts).run h = some ((n, out), h')) :
    h' = h ∧ ∃ (cs : Array Value) (el : TypeId), (Instr.buildSlice t len parts').run P w = .ok (.slice (some ⟨w.heap.size, 0, none⟩) len len) (w.alloc (.cells cs el)) ∧ VRs h μ w out cs.toList ∧ P.underlying t = some (.slice el) ∧
      (∃ inf, P.info? el = some inf ∧ inf.size = n) ∧ out.length = len * n := by
  obtain ⟨el, h3, e1, e2⟩ := bind_some e
  obtain ⟨rfl, hu⟩ := elemOf_some e1
  obtain ⟨sz, h4, e3, e4⟩ := bind_some e2
  obtain ⟨rfl, inf, hinf, hn⟩ := szOf_some e3
  obtain ⟨_, h5, e5, e6⟩ := bind_some e4
  obtain ⟨hg, rfl⟩ := guard_some e5
  obtain ⟨z, h6, e7, e8⟩ := bind_some e6
  obtain ⟨_, h8, e11, e12⟩ := bind_some e8
  obtain ⟨hg2, rfl⟩ := guard_some e11
  obtain ⟨out', h7, e9, e10⟩ := bind_some e12
  obtain ⟨he, rfl⟩ := pure_some e10
  simp only [Prod.mk.injEq] at he
  obtain ⟨rfl, rfl⟩ := he
  have hle : ¬ len * n > 16777216 := by have := hg; simp at this; omega
  have hz : h8 = h5 ∧ ∃ zero : Array Value, ((len * n = 0 ∧ zero = #[]) ∨ (len * n ≠ 0 ∧ ∃ z', (zeroValue el).run P w = .ok z' w ∧ zero = z'.cells)) ∧
      VRs h5 μ w (repeatCells (acells z) len) ((Array.range (len * n)).map (zero[· % zero.size]!)).toList ∧ (repeatCells (acells z) len).length = len * n := by
    cases len with
    | zero =>
      obtain ⟨rfl, rfl⟩ := pure_some e7
      exact ⟨rfl, #[], .inl ⟨by simp, rfl⟩, by simpa [repeatCells] using VRs.nil, by simp [repeatCells]⟩
    | succ k =>
      obtain ⟨rfl, i, z', hi, hz', rfl⟩ := zeroOf_some e7
      have hlen : (acells (ofVal z')).length = n := by simpa using hg2
      have rz := VRs_ofVal (h := h8) (μ := μ) (w := w) z'
      have hsz : z'.cells.size = n := by have := rz.1; simp at this; omega
      have hv := VRs_zeros (h := h8) (μ := μ) (w := w) z' (k + 1)
      have hlr : (repeatCells (acells (ofVal z')) (k + 1)).length = (k + 1) * n := by rw [length_repeat, hlen]
      by_cases h0 : (k + 1) * n = 0
      · refine ⟨rfl, #[], .inl ⟨h0, rfl⟩, ?_, hlr⟩
        have : zerosOf z'.cells (k + 1) = [] := by simp [zerosOf, hsz, h0]
        rw [this] at hv
        simpa [h0] using hv
      · refine ⟨rfl, z'.cells, .inr ⟨h0, z', run_zeroValue' hi hz', rfl⟩, ?_, hlr⟩
        have : ((Array.range ((k + 1) * n)).map (z'.cells[· % z'.cells.size]!)).toList = zerosOf z'.cells (k + 1) := by
          simp [zerosOf, hsz]
        rw [this]; exact hv
  obtain ⟨rfl, zero, hzero, hr0, hl0⟩ := hz
  obtain ⟨rfl, cs', hfill, hr⟩ := afill_sim (place' := fun i => some (i * n, n)) (fun i q hq => hq) parts parts'.toList _ _ out h1 h2 hr0 e9
  have hout : out.length = len * n := by
    have h3 := hr.1
    have h4 : ∀ (ps : List (Nat × Value)) (cs cs' : Array Value), Instr.fill (fun i => some (i * n, n)) cs ps = some cs' → cs'.size = cs.size := by
      intro ps
      induction ps with
      | nil => intro cs cs' e; cases e; rfl
      | cons q ps ih =>
        intro cs cs' e
        rw [Instr.fill] at e
        dsimp only at e
        split at e
        · cases e
        · rename_i hno
          rw [ih _ _ e, ← Array.foldl_toList]
          have : ∀ (l : List (Value × Nat)) (cs : Array Value), (l.foldl (fun (cs : Array Value) (p : Value × Nat) => cs.setIfInBounds (q.1 * n + p.2) p.1) cs).size = cs.size := by
            intro l
            induction l with
            | nil => intro cs; rfl
            | cons p l ih => intro cs; rw [List.foldl_cons, ih]; simp
          exact this _ _
    have h5 := h4 _ _ _ hfill
    have h6 := hr0.1
    simp at h3 h5 h6
    omega
  refine ⟨rfl, cs', el, ?_, hr, hu, ⟨inf, hinf, hn⟩, hout⟩
  rcases hzero with ⟨h0, rfl⟩ | ⟨h0, z', hz', rfl⟩
  · have hf2 : Instr.fill (fun i => some (i * n, n)) #[] parts'.toList = some cs' := by
      have : ((Array.range (len * n)).map fun i => (#[] : Array Value)[i % (#[] : Array Value).size]!) = #[] := by simp [h0]
      rw [this] at hfill; exact hfill
    have hf3 : Instr.fill (fun i => some (i * n, n)) ((Array.range 0).map fun _ => (default : Value)) parts'.toList = some cs' := by
      rw [show ((Array.range 0).map fun _ => (default : Value)) = #[] from Array.eq_empty_of_size_eq_zero (by simp)]; exact hf2
    simp [Instr.buildSlice, run_underlying hu, run_sizeOf' hinf, hn, h0, hf3, newRow]
  · simp [Instr.buildSlice, run_underlying hu, run_sizeOf' hinf, hn, hle, h0, hz', hfill, newRow]
end
end Go.Am
namespace Go.Am
open Go AM

section
variable {P : Program} {h h' : Hp} {μ : Nat → Nat} {w : World}

theorem keepTy_le {e : Nat} {x : Option Nat} {u : Nat} (h : keepTy e x = some u) : x = some u := by
  cases x with
  | none => cases h
  | some v =>
    simp only [keepTy] at h
    cases hb : Nat.beq v e with
    | false => rw [hb] at h; cases h
    | true => rw [hb] at h; cases h; rw [Nat.eq_of_beq_eq_true hb]
theorem keepTy_eq {e : Nat} {x : Option Nat} {u : Nat} (h : keepTy e x = some u) : u = e := by
  cases x with
  | none => cases h
  | some v =>
    simp only [keepTy] at h
    cases hb : Nat.beq v e with
    | false => rw [hb] at h; cases h
    | true => rw [hb] at h; cases h; rfl
theorem At.heap {wd : World} {ad : Addr} {vals : List Value} (a : At w ad vals) (hh : wd.heap = w.heap) : At wd ad vals := fun i hi => by
  have := a i hi
  unfold World.cell? at this ⊢
  rw [hh]; exact this

/-- what the model reads of a slice's first cells -/
theorem sliceCells_sim (s : SR h μ w) {sz m : Nat} {a : AV} {x : Value} {cells : List AV} (e : (sliceCells sz a).run h = some ((m, cells), h')) (r : VR h μ w a x) :
    h' = h ∧ cells.length = m * sz ∧ (Builtin.lenOf x).run P w = .ok m w ∧ (∃ A cap, x = .slice A m cap) ∧ ∀ k, k * sz ≤ cells.length → ∃ vals : List Value, (∀ wd : World, wd.heap = w.heap → (Builtin.firstCells sz k x).run P wd = .ok vals.toArray wd) ∧ VRs h μ w (cells.take (k * sz)) vals := by
  unfold sliceCells at e
  split at e
  · rename_i kk n cl
    obtain ⟨_, h1, e1, e2⟩ := bind_some e
    obtain ⟨hg, rfl⟩ := guard_some e1
    obtain ⟨he, rfl⟩ := pure_some e2
    simp only [Prod.mk.injEq] at he
    obtain ⟨rfl, rfl⟩ := he
    cases r with
    | sl _ _ _ A cap vals hle hnil hfull htight hpos hh hl hs hc hr =>
      refine ⟨rfl, by have := hg; simp at this; omega, by simp [Builtin.lenOf], ⟨_, _, rfl⟩, fun k hk => ?_⟩
      have rr := VRs.take (h := h') (μ := μ) (w := w) ⟨hl, hr⟩ (k * sz)
      refine ⟨vals.take (k * sz), fun wd hwd => ?_, rr⟩
      cases A with
      | none =>
        have hc0 : cells = [] := by
          rcases List.eq_nil_or_concat cells with h0 | ⟨_, _, h0⟩
          · exact h0
          · have := hs (by rw [h0]; simp); cases this
        have hv0 : vals = [] := by subst hc0; exact List.eq_nil_of_length_eq_zero hl.symm
        subst hv0
        simp [Builtin.firstCells]
      | some ad =>
        have hlen : (vals.take (k * sz)).length = k * sz := by simp; omega
        have := ((At.take (hc ad rfl) (k * sz)).heap hwd).load (P := P)
        rw [hlen] at this
        simpa [Builtin.firstCells] using this
  · rename_i id ver off n
    obtain ⟨⟨esz, cl, fix⟩, h1, e1, e2⟩ := bind_some e
    obtain ⟨rfl, o, ho, hv, hbody⟩ := rowOf_some e1
    obtain ⟨_, h2, e3, e4⟩ := bind_some e2
    obtain ⟨hg, rfl⟩ := guard_some e3
    obtain ⟨he, rfl⟩ := pure_some e4
    simp only [Prod.mk.injEq] at he
    obtain ⟨rfl, rfl⟩ := he
    have hg' : off + m * sz ≤ cl.length := by simpa using hg
    obtain ⟨ad, cap, rfl, hcap, hex⟩ := r.own_live ho hv hbody
    have hlen : ((cl.drop off).take (m * sz)).length = m * sz := by simp; omega
    refine ⟨rfl, hlen, by simp [Builtin.lenOf], ⟨_, _, rfl⟩, fun k hk => ?_⟩
    obtain ⟨cs, ty, hw, hle, _, hr⟩ := s.row ho hbody
    by_cases hm : 0 < m ∨ off = 0
    · obtain ⟨rfl, _⟩ := hex hm
      have rr := ((hr.drop off).take (m * sz)).take (k * sz)
      refine ⟨_, fun wd hwd => ?_, rr⟩
      have hat : At w ⟨μ id, off, none⟩ ((((cs.toList.take cl.length).drop off).take (m * sz)).take (k * sz)) := At.take (At.take (At.row hw cl.length) _) _
      have hl2 : ((((cs.toList.take cl.length).drop off).take (m * sz)).take (k * sz)).length = k * sz := by rw [← rr.1]; simp at hlen hk ⊢; omega
      have := (hat.heap hwd).load (P := P)
      rw [hl2] at this
      simpa [Builtin.firstCells] using this
    · have hm0 : m = 0 := by omega
      have hk0 : k * sz = 0 := by rw [hlen, hm0] at hk; simpa using hk
      refine ⟨[], fun wd _ => ?_, by rw [hk0]; simpa using VRs.nil⟩
      simp [Builtin.firstCells, hk0, loadCells, loadCellsFrom]
  · cases e

theorem run_firstCells_bytes {s : ByteArray} : (Builtin.firstCells 1 s.data.toList.length (.string s)).run P w = .ok ((s.data.toList.map fun b => Value.int .u8 b.toNat).toArray) w := by
  have hsz : s.data.toList.length = s.size := by rw [Array.length_toList]; rfl
  have : s.extract 0 s.size = s := by simp
  simp only [Builtin.firstCells, hsz, this, Sem.run_pure]
  congr 1
  apply Array.ext'
  simp

theorem VRs_bytes (l : List UInt8) : VRs h μ w (bytesAV l) (l.map fun b => Value.int .u8 b.toNat) := VRs.map l fun _ _ => .int _ _

theorem sourceCells_sim (s : SR h μ w) {el sz m : Nat} {a : AV} {x : Value} {cells : List AV} (e : (sourceCells P el sz a).run h = some ((m, cells), h')) (r : VR h μ w a x) :
    h' = h ∧ cells.length = m * sz ∧ (Builtin.lenOf x).run P w = .ok m w ∧ ((∃ A cap, x = .slice A m cap) ∨ ∃ b, x = .string b) ∧ ∃ vals : List Value, (∀ wd : World, wd.heap = w.heap → (Builtin.firstCells sz m x).run P wd = .ok vals.toArray wd) ∧ VRs h μ w cells vals := by
  unfold sourceCells at e
  split at e
  · rename_i l
    obtain ⟨_, h1, e1, e2⟩ := bind_some e
    obtain ⟨hg, rfl⟩ := guard_some e1
    obtain ⟨he, rfl⟩ := pure_some e2
    simp only [Prod.mk.injEq] at he
    obtain ⟨rfl, rfl⟩ := he
    have h1 : sz = 1 := by
      split at hg
      · simpa using hg
      · cases hg
    subst h1
    cases r with | str b _ e' =>
    subst e'
    have hsz : b.data.toList.length = b.size := by rw [Array.length_toList]; rfl
    exact ⟨rfl, by simp [bytesAV], by simp [Builtin.lenOf], .inr ⟨b, rfl⟩, _, fun _ _ => run_firstCells_bytes, VRs_bytes _⟩
  · obtain ⟨rfl, h1, h2, h3, h4⟩ := sliceCells_sim (P := P) s e r
    obtain ⟨vals, h5, h6⟩ := h4 m (by omega)
    exact ⟨rfl, h1, h2, .inl h3, vals, h5, by rw [← h1, List.take_length] at h6; exact h6⟩

theorem notInt (d : TypeDesc) (hd : ∀ k, d ≠ .int k) : (match d with | .int _ => true | _ => false) = false := by cases d <;> first | rfl | exact absurd rfl (hd _)

theorem run_append_room {t u ty el n m cap : Nat} {i : TypeInfo} {d : TypeDesc} {A : Option Addr} {x : Value} {news : List Value} {ts : List TypeId} {xs : List Value} (ht : P.underlying t = some (.slice el)) (hu : P.underlying u = some d) (hd : ∀ k, d ≠ .int k)
    (hi : P.info? el = some i) (hl : (Builtin.lenOf x).run P w = .ok m w) (hf : (Builtin.firstCells i.size m x).run P w = .ok news.toArray w) (hroom : n + m ≤ cap) :
    (Builtin.append_ (t :: u :: ts).toArray ty (.slice A n cap :: x :: xs).toArray).run P w = match A with
      | none => .ok (.slice A (n + m) cap) w
      | some a => ((storeCells (a.add (n * i.size)) news).run P w).andThen fun _ w' => .ok (.slice A (n + m) cap) w' := by
  cases A <;> simp [Builtin.append_, run_underlying ht, run_underlying hu, run_sizeOf' hi, hl, hf, hroom]

theorem run_append_grown {t u ty el n m cap : Nat} {i : TypeInfo} {z : Value} {d : TypeDesc} {A : Option Addr} {x : Value} {olds news : List Value} {ts : List TypeId} {xs : List Value} (ht : P.underlying t = some (.slice el)) (hu : P.underlying u = some d) (hd : ∀ k, d ≠ .int k)
    (hi : P.info? el = some i) (hz : i.zero = some z) (hl : (Builtin.lenOf x).run P w = .ok m w) (hf : (Builtin.firstCells i.size m x).run P w.drew = .ok news.toArray w.drew)
    (ho : (Builtin.firstCells i.size n (.slice A n cap)).run P w.drew = .ok olds.toArray w.drew) (hb0 : i.bytes ≠ 0) (hbytes : (n + m) * i.bytes ≤ 140737488355328) (hroom : cap < n + m) :
    (Builtin.append_ (t :: u :: ts).toArray ty (.slice A n cap :: x :: xs).toArray).run P w =
      .ok (.slice (some ⟨w.heap.size, 0, none⟩) (n + m) (grownCap w (n + m) cap el)) (w.drew.alloc (.cells (olds.toArray ++ news.toArray ++ Builtin.zeroCells z.cells (grownCap w (n + m) cap el - (n + m))) el)) := by
  have hfit := growslice_fits hroom hbytes
  have hno : ¬ n + m ≤ cap := by omega
  have hfit' : ¬ (Builtin.nextslicecap (n + m) cap * i.bytes > 2 ^ 48) := by omega
  simp [Builtin.append_, run_underlying ht, run_underlying hu, run_sizeOf' hi, run_typeInfo' hi, hl, hno, hb0, hfit', ho, hf, run_zeroValue' hi hz, newRow]
  simp [Question.forced, grownCap]
  rw [show (olds ++ news).toArray = olds.toArray ++ news.toArray from by simp, Array.append_assoc]

theorem ones_new {cells new : List AV} {vals : List Value} (r : VRs h μ w new vals) (hl : new.length = cells.length) : vals.length = cells.length := by rw [← r.1, hl]

theorem append_sim (s : SR h μ w) {ts : List TypeId} {ty : TypeId} {args : List AV} {vs : List Value} (r : VRs h μ w args vs) : MSim P h μ w (aappendOp P ts args) (Builtin.append_ ts.toArray ty vs.toArray) := by
  intro v h' e hF
  unfold aappendOp at e
  split at e
  · rename_i t u ts a b as
    obtain ⟨x, vs, rfl⟩ : ∃ x vs', vs = x :: vs' := by cases vs with | nil => have := r.1; simp at this | cons x vs => exact ⟨x, vs, rfl⟩
    obtain ⟨y, vs, rfl⟩ : ∃ y vs', vs = y :: vs' := by cases vs with | nil => have := r.1; simp at this | cons x vs => exact ⟨x, vs, rfl⟩
    have ra : VR h μ w a x := r.2 0 (by simp) (by simp)
    have rb : VR h μ w b y := r.2 1 (by simp) (by simp)
    clear r
    obtain ⟨el, h1, e1, e2⟩ := bind_some e
    obtain ⟨rfl, ht⟩ := elemOf_some e1
    obtain ⟨sz, h2, e3, e4⟩ := bind_some e2
    obtain ⟨rfl, i, hi, hn⟩ := szOf_some e3
    obtain ⟨bytes, h3, e5, e6⟩ := bind_some e4
    obtain ⟨rfl, i2, hi2, hb⟩ := bytesOf_some e5
    rw [hi] at hi2; cases hi2
    obtain ⟨_, h4, e7, e8⟩ := bind_some e6
    obtain ⟨hg, rfl⟩ := guard_some e7
    obtain ⟨_, h5, e9, e10⟩ := bind_some e8
    obtain ⟨hg2, rfl⟩ := guard_some e9
    obtain ⟨z, h6, e11, e12⟩ := bind_some e10
    obtain ⟨rfl, i3, z', hi3, hz, rfl⟩ := zeroOf_some e11
    rw [hi] at hi3; cases hi3
    obtain ⟨_, h7, e13, e14⟩ := bind_some e12
    obtain ⟨hg3, rfl⟩ := guard_some e13
    obtain ⟨⟨m, new⟩, h8, e15, e16⟩ := bind_some e14
    obtain ⟨rfl, hnl, hlen, hshape, news, hf, rn⟩ := sourceCells_sim (P := P) s e15 rb
    dsimp only at e16
    have hu : ∃ d, P.underlying u = some d ∧ ∀ k, d ≠ .int k := by
      split at hg2
      · cases hg2
      · rename_i d hne hd; exact ⟨d, hd, fun k hk => by subst hk; exact hne k rfl⟩
      · cases hg2
    obtain ⟨d, hu, hd⟩ := hu
    simp only [Bool.and_eq_true, Bool.not_eq_true', Bool.eq_false_iff, ne_eq, Nat.beq_eq] at hg hg3
    have hzl : z'.cells.size = sz := by
      have := (VRs_ofVal (h := h8) (μ := μ) (w := w) z').1; simp at this; omega
    subst hn hb
    have hnewl : news.length = m * i.size := by rw [← rn.1, hnl]
    -- growing: the new row
    have grown : ∀ (A : Option Addr) (n cap : Nat) (cells : List AV) (olds : List Value), x = .slice A n cap → VRs h8 μ w cells olds → cells.length = n * i.size →
        (∀ wd : World, wd.heap = w.heap → (Builtin.firstCells i.size n (.slice A n cap)).run P wd = .ok olds.toArray wd) →
        (n + m) * i.bytes ≤ 140737488355328 → cap < n + m →
        ∃ (cs : Array Value) (C : Nat), (Builtin.append_ (t :: u :: ts).toArray ty (x :: y :: vs).toArray).run P w = .ok (.slice (some ⟨w.heap.size, 0, none⟩) (n + m) C) (w.drew.alloc (.cells cs el)) ∧ n + m ≤ C ∧ C * i.size = cs.size ∧
          VRs h8 μ w (cells ++ new) (cs.toList.take (cells ++ new).length) ∧ (cells ++ new).length ≤ cs.size := by
      intro A n cap cells olds hx ro hcl hfo hbd hcap
      subst hx
      have hrun := run_append_grown (P := P) (w := w) (ty := ty) (ts := ts) (xs := vs) ht hu hd hi hz hlen (hf w.drew rfl) (hfo w.drew rfl) hg.2 hbd hcap
      have hge := grownCap_ge w (n + m) cap el
      have hol : olds.length = n * i.size := by rw [← ro.1, hcl]
      refine ⟨_, _, hrun, hge, ?_, ?_, ?_⟩
      · simp only [Array.size_append, List.size_toArray, hol, hnewl, size_zeroCells, hzl, ← Nat.add_mul]
        congr 1; omega
      · have hh := ro.append rn
        have : (olds.toArray ++ news.toArray ++ Builtin.zeroCells z'.cells (grownCap w (n + m) cap el - (n + m))).toList.take (cells ++ new).length = olds ++ news := by
          rw [hh.1, Array.toList_append]
          have h2 : (olds.toArray ++ news.toArray).toList = olds ++ news := by simp
          rw [h2]; exact List.take_left
        rw [this]; exact hh
      · rw [(ro.append rn).1]; simp
    have grownSR : SR h8 μ w.drew ∧ Stp h8 μ w h8 μ w.drew := s.drawn rfl rfl rfl rfl
    unfold aappend at e16
    split at e16
    · -- a slice that nobody writes
      rename_i k n cells
      split at e16
      · -- nothing is appended
        obtain ⟨rfl, rfl⟩ := pure_some e16
        have hn0 : news = [] := List.eq_nil_of_length_eq_zero (by rw [hnewl]; simp)
        subst hn0
        cases ra with
        | sl _ _ _ A cap vals hle hnil hfull htight hpos hh hl hs hc hr =>
          refine ⟨μ, w, _, ?_, s, Stp.refl _ _ _, .sl _ _ _ A cap vals hle hnil hfull htight hpos hh hl hs hc hr⟩
          rw [run_append_room (P := P) (w := w) ht hu hd hi hlen (hf w rfl) (by omega)]
          cases A <;> simp [storeCells]
      · rename_i hm0
        obtain ⟨_, h9, e17, e18⟩ := bind_some e16
        obtain ⟨hg4, rfl⟩ := guard_some e17
        obtain ⟨id, h10, e19, e20⟩ := bind_some e18
        obtain ⟨rfl, rfl⟩ := hallocT_some e19
        obtain ⟨rfl, rfl⟩ := pure_some e20
        simp only [Bool.and_eq_true, Nat.beq_eq, Nat.ble_eq] at hg4
        obtain ⟨⟨⟨⟨hcl, hbd⟩, hmx⟩, hk⟩, _⟩ := hg4
        have hra := ra
        cases ra with
        | sl _ _ _ A cap vals hle hnil hfull htight hpos hh hl hs hc hr =>
          have hcap : cap = n := by
            cases k with
            | nil => obtain ⟨_, h0⟩ := hnil rfl; omega
            | full => exact (hfull rfl).2
            | tight => exact htight rfl
            | any => cases hk
          subst hcap
          have hsc : (sliceCells i.size (.sl k cap cells)).run h9 = some ((cap, cells), h9) := by
            simp only [sliceCells]
            rw [AM.run_bind]
            have : (AM.guard (Nat.beq (cap * i.size) cells.length)).run h9 = some ((), h9) := by rw [show Nat.beq (cap * i.size) cells.length = true by simpa using hcl]; rfl
            rw [this]; rfl
          obtain ⟨_, h1, _, _, h4⟩ := sliceCells_sim (P := P) s hsc hra
          obtain ⟨olds, ho1, ho2⟩ := h4 cap (by omega)
          rw [← h1, List.take_length] at ho2
          obtain ⟨cs, C, q1, q2, q3, q4, q5⟩ := grown A cap cap cells olds rfl ho2 h1 ho1 (by simpa [room] using hbd) (by have := Nat.pos_of_ne_zero hm0; omega)
          obtain ⟨s1, s2⟩ := grownSR
          have q4' : VRs h9 μ w.drew (cells ++ new) (cs.toList.take (cells ++ new).length) := q4.mono s2
          obtain ⟨s3, s4⟩ := s1.newRowT hF.new el i.size q4' q5 false (fun hf => by cases hf)
          refine ⟨_, _, _, q1, s3, Stp.trans s2 s4, ?_⟩
          refine .own _ _ _ _ _ (get_new _) rfl i.size (fun _ _ _ q => by cases q; rfl) _ _ q2 (fun _ => ?_)
          refine ⟨by simp [upd], cs, el, ?_, by simpa using q3⟩
          have := World.alloc_heap_new w.drew (.cells cs el)
          simpa [upd] using this
    · -- a slice that is written
      rename_i id ver off n
      obtain ⟨⟨esz, cells, fix⟩, h9, e17, e18⟩ := bind_some e16
      obtain ⟨rfl, o, ho, hv, hbody⟩ := rowOf_some e17
      obtain ⟨_, h10, e19, e20⟩ := bind_some e18
      obtain ⟨hg4, rfl⟩ := guard_some e19
      obtain rfl : esz = i.size := by simpa using hg4
      obtain ⟨ad, cap, rfl, hcap, hex⟩ := ra.own_live ho hv hbody
      split at e20
      · obtain ⟨rfl, rfl⟩ := pure_some e20
        have hn0 : news = [] := List.eq_nil_of_length_eq_zero (by rw [hnewl]; simp)
        subst hn0
        refine ⟨μ, w, _, ?_, s, Stp.refl _ _ _, ra⟩
        rw [run_append_room (P := P) (w := w) ht hu hd hi hlen (hf w rfl) (by omega)]
        simp [storeCells]
      · rename_i hm0
        have hm1 := Nat.pos_of_ne_zero hm0
        obtain ⟨_, h11, e21, e22⟩ := bind_some e20
        obtain ⟨hg5, rfl⟩ := guard_some e21
        simp only [Bool.and_eq_true, Nat.beq_eq, Nat.ble_eq] at hg5
        obtain ⟨⟨⟨⟨⟨rfl, hfit⟩, hbd⟩, hmx⟩, hnl2⟩, hone⟩ := hg5
        obtain ⟨rfl, cs, ty', hw, hsz⟩ := hex (.inr rfl)
        obtain ⟨cs2, ty2, hw2, hcs, hfix, hr⟩ := s.row ho hbody
        rw [hw] at hw2
        injection hw2 with hw2
        injection hw2 with c1 c2
        subst c1 c2
        have hs0 : 0 < i.size := Nat.pos_of_ne_zero hg.1
        have hcz : cap * i.size = cs.size := by omega
        have hadd : (⟨μ id, 0, none⟩ : Addr).add (n * i.size) = ⟨μ id, n * i.size, none⟩ := by rw [add_plain]; simp
        have hmul : (n + m) * i.size = n * i.size + m * i.size := Nat.add_mul _ _ _
        -- in place
        have inplace : n + m ≤ cap → ∀ (ver' : Nat) (cells' : List AV) (fix' : Bool), o.ver ≤ ver' → cells'.length ≤ cs.size → (fix' = true → cs.size = cells'.length) →
            VRs h11 μ w cells' ((cs.toList.take (n * i.size) ++ news ++ cs.toList.drop (n * i.size + news.length)).take cells'.length) → ∃ w', (Builtin.append_ (t :: u :: ts).toArray ty (.slice (some ⟨μ id, 0, none⟩) n cap :: y :: vs).toArray).run P w = .ok (.slice (some ⟨μ id, 0, none⟩) (n + m) cap) w' ∧
              SR ⟨h11.obj.set id (some ⟨ver', o.stamp + 1, .row i.size cells' fix', o.ty⟩), h11.next⟩ μ w' ∧ Stp h11 μ w ⟨h11.obj.set id (some ⟨ver', o.stamp + 1, .row i.size cells' fix', o.ty⟩), h11.next⟩ μ w' ∧
              ∃ cs' : Array Value, w'.heap[μ id]? = some (.cells cs' ty' (0, 0)) ∧ 0 + cap * i.size = cs'.size := by
          intro hroom ver' cells' fix' q1 q2 q3 q4
          have hfit2 : n * i.size + news.length ≤ cs.size := by rw [hnewl, ← hmul, ← hcz]; exact Nat.mul_le_mul_right _ hroom
          obtain ⟨hst, hsr⟩ := s.splice (P := P) ho hbody hw rn (rn.oneCells hone) hfit2
          obtain ⟨s1, s2⟩ := hsr ver' cells' fix' q1 q2 q3 q4
          refine ⟨_, ?_, s1, s2, _, setRow_heap w (μ id) cs _ ty' _ hw, by simp; omega⟩
          rw [run_append_room (P := P) (w := w) ht hu hd hi hlen (hf w rfl) hroom]
          dsimp only
          rw [hadd, hst]
          rfl
        split at e22
        · -- there are so many cells already
          rename_i hble
          have hble : (n + m) * i.size ≤ cells.length := by simpa using hble
          obtain ⟨_, h12, e23, e24⟩ := bind_some e22
          obtain ⟨o2, ho2, hle2, rfl⟩ := hput_some e23
          rw [ho] at ho2; cases ho2
          obtain ⟨rfl, rfl⟩ := pure_some e24
          have hroom : n + m ≤ cap := by
            have : (n + m) * i.size ≤ cap * i.size := by rw [hcz]; omega
            exact Nat.le_of_mul_le_mul_right this hs0
          have hl : (Am.splice cells (n * i.size) new).length = cells.length := length_splice (by rw [hnl]; omega)
          obtain ⟨w', q1, s1, s2, q2⟩ := inplace hroom ver (Am.splice cells (n * i.size) new) fix hle2 (by omega) (fun hf => by rw [hl]; exact hfix hf) (by
            have hsp := hr.splice rn (n * i.size)
            rw [splice_take _ _ _ _ _ hnewl (by omega) (by simpa using hcs)] at hsp
            rw [hl]; exact hsp)
          refine ⟨μ, w', _, q1, s1, s2, ?_⟩
          have hg' : (⟨h11.obj.set id (some ⟨ver, o.stamp + 1, .row i.size (Am.splice cells (n * i.size) new) fix, o.ty⟩), h11.next⟩ : Hp).get id = some ⟨ver, o.stamp + 1, .row i.size (Am.splice cells (n * i.size) new) fix, o.ty⟩ := by
            show (h11.obj.set _ _).get _ = _
            rw [Tm.get_set, if_pos rfl]
          exact .own _ _ _ _ _ hg' rfl i.size (fun _ _ _ q => by cases q; rfl) _ _ hroom (fun _ => ⟨rfl, q2.elim fun cs' hc => ⟨cs', ty', hc⟩⟩)
        · -- more cells than there are
          rename_i hble
          have hble : ¬ (n + m) * i.size ≤ cells.length := by intro hc; rw [← Nat.ble_eq] at hc; rw [hc] at hble; cases hble
          obtain ⟨_, h12, e23, e24⟩ := bind_some e22
          obtain ⟨o2, ho2, hle2, rfl⟩ := hputF_some e23
          rw [ho] at ho2; cases ho2
          obtain ⟨rfl, rfl⟩ := pure_some e24
          have hcl : (cells.take (n * i.size)).length = n * i.size := by simp; omega
          have hlen2 : (cells.take (n * i.size) ++ new).length = (n + m) * i.size := by rw [List.length_append, hcl, hnl, hmul]
          have hg' : (⟨h11.obj.set id (some ⟨ver + 1, o.stamp + 1, .row i.size (cells.take (n * i.size) ++ new) false, keepTy el o.ty⟩), h11.next⟩ : Hp).get id = some ⟨ver + 1, o.stamp + 1, .row i.size (cells.take (n * i.size) ++ new) false, keepTy el o.ty⟩ := by
            show (h11.obj.set _ _).get _ = _
            rw [Tm.get_set, if_pos rfl]
          have hr2 := (hr.take (n * i.size))
          rw [List.take_take, Nat.min_eq_left (by omega)] at hr2
          by_cases hroom : n + m ≤ cap
          · obtain ⟨w', q1, s1, s2, q2⟩ := inplace hroom (ver + 1) (cells.take (n * i.size) ++ new) false (by omega) (by rw [hlen2, ← hcz]; exact Nat.mul_le_mul_right _ hroom) (fun hf => by cases hf) (by
              have hh := hr2.append rn
              have hcsz : (cs.toList.take (n * i.size)).length = n * i.size := by rw [← hr2.1, hcl]
              rw [hlen2, List.take_append, List.take_append, hcsz]
              have : (n + m) * i.size - n * i.size = news.length := by rw [hnewl, hmul]; omega
              rw [List.take_of_length_le (l := cs.toList.take (n * i.size)) (by rw [hcsz, hmul]; omega), this, List.take_length]
              have : (n + m) * i.size - (cs.toList.take (n * i.size) ++ news).length = 0 := by rw [List.length_append, hcsz, hnewl, hmul]; omega
              rw [this, List.take_zero, List.append_nil]
              exact hh)
            obtain ⟨s5, s6⟩ := s1.lessTy (t' := keepTy el o.ty) (fun u hu => keepTy_le hu)
            refine ⟨μ, w', _, q1, s5, s2.trans s6, ?_⟩
            exact .own _ _ _ _ _ hg' rfl i.size (fun _ _ _ q => by cases q; rfl) _ _ hroom (fun _ => ⟨rfl, q2.elim fun cs' hc => ⟨cs', ty', hc⟩⟩)
          · -- grown
            have hsc : (sliceCells i.size (.own id ver 0 n)).run h11 = some ((n, (cells.drop 0).take (n * i.size)), h11) := by
              simp only [sliceCells]
              rw [AM.run_bind]
              rw [e17]
              dsimp only
              rw [AM.run_bind]
              have : (AM.guard (Nat.ble (0 + n * i.size) cells.length)).run h11 = some ((), h11) := by rw [show Nat.ble (0 + n * i.size) cells.length = true by simpa using hfit]; rfl
              rw [this]; rfl
            obtain ⟨_, q1, _, _, q4⟩ := sliceCells_sim (P := P) s hsc ra
            obtain ⟨olds, ho1, ho2⟩ := q4 n (by omega)
            rw [List.drop_zero, List.take_take, Nat.min_self] at ho2
            obtain ⟨cs', C, p1, p2, p3, p4, p5⟩ := grown _ n cap _ olds rfl ho2 (by simpa using hcl) ho1 (by simpa [room] using hbd) (by omega)
            obtain ⟨s1, s2⟩ := grownSR
            have p4' : VRs h11 μ w.drew (cells.take (n * i.size) ++ new) (cs'.toList.take (cells.take (n * i.size) ++ new).length) := p4.mono s2
            obtain ⟨s3, s4⟩ := s1.move (ver := ver + 1) (b := .row i.size (cells.take (n * i.size) ++ new) false) (obj := .cells cs' el) ho (by omega) (by rw [hbody]; rfl) (by rw [hbody]; rfl) ⟨cs', el, rfl, p5, (fun hf => by cases hf), p4'⟩ (keepTy el) (fun u hu => by rw [keepTy_eq hu]; exact ⟨cs', (0, 0), rfl⟩)
            refine ⟨_, _, _, p1, s3, Stp.trans s2 s4, ?_⟩
            refine .own _ _ _ _ _ hg' rfl i.size (fun _ _ _ q => by cases q; rfl) _ _ p2 (fun _ => ?_)
            refine ⟨by simp [upd], cs', el, ?_, by simpa using p3⟩
            have := World.alloc_heap_new w.drew (.cells cs' el)
            simpa [upd] using this
    · cases e16
  · cases e
end
end Go.Am
namespace Go.Am
open Go AM

section
variable {P : Program} {h h' : Hp} {μ : Nat → Nat} {w : World}

theorem heap_putObj_other {r c : Nat} {o : Obj} (hc : c ≠ r) : (w.putObj r o).heap[c]? = w.heap[c]? := World.putObj_heap_other hc

theorem run_setObj_map' {r : Nat} {ms : Array MapEntry} {c : Nat} (o : Obj) (hw : w.heap[r]? = some (.map ms c)) : (setObj r o).run P w = .ok () (w.putObj r o) := by
  simp [setObj, Sem.run, hw, World.putObj]
theorem run_getObj_map' {r : Nat} {ms : Array MapEntry} {c : Nat} (hw : w.heap[r]? = some (.map ms c)) : (getObj r).run P w = .ok (.map ms c) w := by
  simp [getObj, Sem.run, hw]

theorem Born.push {ms : Array MapEntry} {c : Nat} (b : Born ms c) (y x : Value) : Born (ms.push ⟨y, x, c⟩) (c + 1) := by
  refine ⟨?_, fun z hz => ?_⟩
  · simp only [Array.toList_push, List.map_append, List.map_cons, List.map_nil]
    rw [List.nodup_append]
    refine ⟨b.1, by simp, fun u hu v hv => ?_⟩
    simp at hv
    obtain ⟨z, hz, rfl⟩ := List.mem_map.1 hu
    have := b.2 z hz
    omega
  · simp only [Array.toList_push, List.mem_append, List.mem_singleton] at hz
    rcases hz with hz | rfl
    · have := b.2 z hz; omega
    · exact Nat.lt_succ_self _
theorem Born.modify {ms : Array MapEntry} {c : Nat} (b : Born ms c) {f : MapEntry → MapEntry} (j : Nat) (hf : ∀ e, (f e).born = e.born) : Born (ms.modify j f) c := by
  have h1 : (ms.modify j f).toList.map (·.born) = ms.toList.map (·.born) := by
    apply List.ext_getElem?
    intro i
    simp only [List.getElem?_map, Array.getElem?_toList, Array.getElem?_modify]
    split
    · cases ms[i]? <;> simp [hf]
    · rfl
  refine ⟨by rw [h1]; exact b.1, fun z hz => ?_⟩
  have h2 : z.born ∈ (ms.modify j f).toList.map (·.born) := List.mem_map_of_mem hz
  rw [h1] at h2
  obtain ⟨y, hy, e⟩ := List.mem_map.1 h2
  rw [← e]; exact b.2 y hy
/-- a map is written -/
theorem SR.putMap (s : SR h μ w) {id : Nat} {o : AObj} {es es' : List (AV × AV)} {ms ms' : Array MapEntry} {c c' : Nat} (ho : h.get id = some o) (hb : o.body = .map es) (hw : w.heap[μ id]? = some (.map ms c))
    (r1 : VRs h μ w (es'.map (·.1)) (ms'.toList.map (·.key))) (r2 : VRs h μ w (es'.map (·.2)) (ms'.toList.map (·.val))) (hbn : Born ms' c') :
    SR ⟨h.obj.set id (some ⟨o.ver, o.stamp + 1, .map es', o.ty⟩), h.next⟩ μ (w.putObj (μ id) (.map ms' c')) ∧ Stp h μ w ⟨h.obj.set id (some ⟨o.ver, o.stamp + 1, .map es', o.ty⟩), h.next⟩ μ (w.putObj (μ id) (.map ms' c')) := by
  have hlt : μ id < w.heap.size := (Array.getElem?_eq_some_iff.1 hw).1
  exact s.put ho (Nat.le_refl _) (by rw [hb]; trivial) (by simp) (fun k hk => heap_putObj_other hk) (World.putObj_heap_same hlt) ⟨ms', c', rfl, r1, r2, hbn⟩ (fun cs e hc => by rw [hw] at hc; cases hc) rfl rfl rfl

theorem sameBits_key {kt : Nat} {k : AV} {y : Value} {x : AV} {z : Value} (hg : goodKey P kt k = true) (r : VR h μ w k y) (hk : keyEq k x = some true) (rx : VR h μ w x z) (d : Nat) : Instr.sameBits d z y = true ∧ z = y := by
  rcases goodKey_sim hg r with ⟨j, n, _, rfl, rfl⟩ | ⟨s, _, rfl, rfl⟩
  · unfold keyEq at hk
    split at hk
    · rename_i heq; cases heq; cases rx
      split at hk
      · rename_i hj; subst hj
        simp at hk
        subst hk
        exact ⟨by cases d <;> simp [Instr.sameBits], rfl⟩
      · cases hk
    · rename_i heq; cases heq
    · rename_i heq; cases heq
    · cases hk
  · unfold keyEq at hk
    split at hk
    · rename_i heq; cases heq
    · rename_i heq; cases heq
      cases rx with | str s2 _ e2 =>
      subst e2
      have h1 : s.data.toList = s2.data.toList := by simpa using hk
      have : s2 = s := by
        obtain ⟨⟨a⟩⟩ := s; obtain ⟨⟨b⟩⟩ := s2
        simp at h1; rw [h1]
      subst this
      refine ⟨?_, rfl⟩
      have hb : (s2 == s2) = true := by rw [beq_toListBytes]; simp
      cases d <;> simp [Instr.sameBits, hb]
    · rename_i heq; cases heq
    · cases hk

theorem sameNow_sim {kt : Nat} {k x : AV} {y z : Value} {d : TypeDesc} {b : Bool} (hu : P.underlying kt = some d) (hg : goodKey P kt k = true) (r : VR h μ w k y) (rx : VR h μ w x z) (hb : keyEq k x = some b) : Instr.sameNow d y z = some b := by
  rcases goodKey_sim hg r with ⟨j, n, hu', rfl, rfl⟩ | ⟨s, hu', rfl, rfl⟩
  · rw [hu] at hu'; cases hu'
    unfold keyEq at hb
    split at hb
    · rename_i heq; cases heq; cases rx
      exact hb
    · rename_i heq; cases heq
    · rename_i heq; cases heq
    · cases hb
  · rw [hu] at hu'; cases hu'
    unfold keyEq at hb
    split at hb
    · rename_i heq; cases heq
    · rename_i heq; cases heq
      cases rx with | str s2 _ e2 =>
      subst e2
      cases hb
      simp only [Instr.sameNow]
      rw [beq_toListBytes, toList_bytes, toList_bytes]
    · rename_i heq; cases heq
    · cases hb

def keysOf (ms : List MapEntry) : List Value := ms.map (·.key)
def valsOf (ms : List MapEntry) : List Value := ms.map (·.val)

theorem VRs.tail {a : AV} {x : Value} {l : List AV} {xs : List Value} (r : VRs h μ w (a :: l) (x :: xs)) : VRs h μ w l xs :=
  ⟨by have := r.1; simpa using this, fun j h1 h2 => r.2 (j + 1) (Nat.succ_lt_succ h1) (Nat.succ_lt_succ h2)⟩
theorem VRs.head {a : AV} {x : Value} {l : List AV} {xs : List Value} (r : VRs h μ w (a :: l) (x :: xs)) : VR h μ w a x := r.2 0 (by simp) (by simp)

/-- the place of an entry, and the entries when it is written -/
theorem findUpd_sim {kt : Nat} {k v : AV} {y x : Value} {d : TypeDesc} (hu : P.underlying kt = some d) (hg : goodKey P kt k = true) (r : VR h μ w k y) (rv : VR h μ w v x) :
    ∀ (es : List (AV × AV)) (ms : List MapEntry) (i : Nat) (res : Option AV) (c : Nat), VRs h μ w (es.map (·.1)) (keysOf ms) → VRs h μ w (es.map (·.2)) (valsOf ms) → afind k es = some res →
      match res with
      | none => Instr.findNow d y ms i = some none ∧ VRs h μ w ((aupd k v es).map (·.1)) (keysOf (ms ++ [⟨y, x, c⟩])) ∧ VRs h μ w ((aupd k v es).map (·.2)) (valsOf (ms ++ [⟨y, x, c⟩]))
      | some _ => ∃ (j : Nat) (e : MapEntry), Instr.findNow d y ms i = some (some (i + j, e.val)) ∧ ms[j]? = some e ∧ e.key = y ∧
          VRs h μ w ((aupd k v es).map (·.1)) (keysOf (ms.modify j fun e => { e with key := y, val := x })) ∧ VRs h μ w ((aupd k v es).map (·.2)) (valsOf (ms.modify j fun e => { e with key := y, val := x })) := by
  intro es
  induction es with
  | nil =>
    intro ms i res c r1 r2 e
    cases e
    have : ms = [] := by have := r1.1; simp [keysOf] at this; exact List.eq_nil_of_length_eq_zero this.symm
    subst this
    exact ⟨rfl, VRs.cons r .nil, VRs.cons rv .nil⟩
  | cons p es ih =>
    intro ms i res c r1 r2 e
    obtain ⟨xk, xv⟩ := p
    cases ms with
    | nil => have := r1.1; simp [keysOf] at this
    | cons m ms =>
      have hk : VR h μ w xk m.key := r1.head
      have hv : VR h μ w xv m.val := r2.head
      rw [afind] at e
      split at e
      · rename_i hb
        cases e
        refine ⟨0, m, by simp [Instr.findNow, sameNow_sim hu hg r hk hb], rfl, (sameBits_key hg r hb hk 0).2, ?_, ?_⟩
        · simp only [aupd, hb]; exact VRs.cons r r1.tail
        · simp only [aupd, hb]; exact VRs.cons rv r2.tail
      · rename_i hb
        have hrec := ih ms (i + 1) res c r1.tail r2.tail e
        cases res with
        | none =>
          obtain ⟨h1, h2, h3⟩ := hrec
          refine ⟨by simp [Instr.findNow, sameNow_sim hu hg r hk hb, h1], ?_, ?_⟩
          · simp only [aupd, hb]; exact VRs.cons hk h2
          · simp only [aupd, hb]; exact VRs.cons hv h3
        | some v' =>
          obtain ⟨j, e', h1, h2, h3, h4, h5⟩ := hrec
          refine ⟨j + 1, e', by simp [Instr.findNow, sameNow_sim hu hg r hk hb, h1]; omega, by simpa using h2, h3, ?_, ?_⟩
          · simp only [aupd, hb]; exact VRs.cons hk h4
          · simp only [aupd, hb]; exact VRs.cons hv h5
      · cases e

theorem mapUpdate_sim (s : SR h μ w) {t : Nat} {a k v : AV} {z y x : Value} {u : Unit} (e : (amapUpdate P t a k v).run h = some (u, h')) (ra : VR h μ w a z) (r : VR h μ w k y) (rv : VR h μ w v x) :
    ∃ w', (Instr.mapUpdate t z y x).run P w = .ok () w' ∧ SR h' μ w' ∧ Stp h μ w h' μ w' := by
  unfold amapUpdate at e
  split at e
  · rename_i kt et id hut
    obtain ⟨_, h1, e1, e2⟩ := bind_some e
    obtain ⟨hg, rfl⟩ := guard_some e1
    obtain ⟨o, h2, e3, e4⟩ := bind_some e2
    obtain ⟨ho, rfl⟩ := hget_some e3
    split at e4
    · rename_i es hb
      obtain ⟨res, h3, e5, e6⟩ := bind_some e4
      obtain ⟨hf, rfl⟩ := ofOption_some e5
      obtain ⟨o2, ho2, _, rfl⟩ := hput_some e6
      rw [ho] at ho2; cases ho2
      obtain ⟨ms, c, hw, q1, q2, hbn⟩ := s.mapBorn ho hb
      obtain rfl := ra.map_live
      have hud : ∃ d, P.underlying kt = some d := by
        rcases goodKey_sim hg r with ⟨j, n, hu, _⟩ | ⟨s, hu, _⟩ <;> exact ⟨_, hu⟩
      obtain ⟨d, hud⟩ := hud
      have hck : (Instr.checkKey false 10000 kt y).run P w = .ok () w := checkKey_sim hg r false
      have hrec := findUpd_sim hud hg r rv es ms.toList 0 res c q1 q2 hf
      cases res with
      | none =>
        obtain ⟨h1, h2, h4⟩ := hrec
        have hfk : (Instr.findKey kt y ms.toList).run P w = .ok none w := by simp [Instr.findKey, run_underlying hud, h1]
        obtain ⟨s1, s2⟩ := s.putMap (ms' := ms.push ⟨y, x, c⟩) (c' := c + 1) ho hb hw (by simpa [keysOf] using h2) (by simpa [valsOf] using h4) (hbn.push _ _)
        refine ⟨_, ?_, s1, s2⟩
        simp [Instr.mapUpdate, run_underlying hut, run_getObj_map' hw, hck, hfk, run_setObj_map' _ hw]
      | some v' =>
        obtain ⟨j, e', h1, h2, h4, h5, h6⟩ := hrec
        have hfk : (Instr.findKey kt y ms.toList).run P w = .ok (some (j, e'.val)) w := by simp [Instr.findKey, run_underlying hud, h1]
        obtain ⟨s1, s2⟩ := s.putMap (ms' := ms.modify j fun e => { e with key := y, val := x }) (c' := c) ho hb hw (by simpa [keysOf] using h5) (by simpa [valsOf] using h6) (hbn.modify _ (fun _ => rfl))
        refine ⟨_, ?_, s1, s2⟩
        have hms : ms[j]? = some e' := by simpa using h2
        have hsb : ∀ n, Instr.sameBits n y y = true := by
          intro n
          rcases goodKey_sim hg r with ⟨_, _, _, _, rfl⟩ | ⟨st, _, _, rfl⟩
          · cases n <;> simp [Instr.sameBits]
          · have hb : (st == st) = true := by rw [beq_toListBytes]; simp
            cases n <;> simp [Instr.sameBits, hb]
        have hkt : (Instr.keyThatStays y y).run P w = .ok y w := by simp [Instr.keyThatStays, hsb]
        simp [Instr.mapUpdate, run_underlying hut, run_getObj_map' hw, hck, hfk, run_setObj_map' _ hw, hms, h4, hkt]
    · cases e4
  · cases e

def mm : Bool → Value → Value → Sem Value
  | true => Builtin.max2
  | false => Builtin.min2
theorem amax2_sim {mx : Bool} {a b : AV} {x y : Value} (ra : VR h μ w a x) (rb : VR h μ w b y) : PSim P h μ w (amax2 mx a b) (mm mx x y) := by
  intro v h' e
  unfold amax2 at e
  split at e
  · rename_i k i k' j
    obtain ⟨_, h1, e1, e2⟩ := bind_some e
    obtain ⟨hg, rfl⟩ := guard_some e1
    obtain ⟨rfl, rfl⟩ := pure_some e2
    cases ra; cases rb
    cases mx
    · exact ⟨rfl, _, by simp [mm, Builtin.min2], .int _ _⟩
    · exact ⟨rfl, _, by simp [mm, Builtin.max2], .int _ _⟩
  · cases e
theorem afold_sim (mx : Bool) (l : List AV) : ∀ (xs : List Value) (a : AV) (x : Value), VR h μ w a x → VRs h μ w l xs → PSim P h μ w (afold mx a l) (xs.foldlM (mm mx) x) := by
  induction l with
  | nil =>
    intro xs a x ra r
    have : xs = [] := by have := r.1; simp at this; exact List.eq_nil_of_length_eq_zero this.symm
    subst this
    exact PSim.pure ra (by simp)
  | cons b l ih =>
    intro xs a x ra r
    cases xs with
    | nil => have := r.1; simp at this
    | cons y xs =>
      intro v h' e
      obtain ⟨z, h1, e1, e2⟩ := bind_some e
      obtain ⟨rfl, z', q1, q2⟩ := amax2_sim (P := P) ra r.head z h1 e1
      obtain ⟨rfl, v', q3, q4⟩ := ih xs z z' q2 r.tail v h' e2
      refine ⟨rfl, v', ?_, q4⟩
      rw [List.foldlM_cons, Sem.run_bind, q1]
      exact q3

theorem makeSlice_sim (s : SR h μ w) {t : TypeId} {l c : Int} : MSim P h μ w (do
      let e ← elemOf P t
      let sz ← szOf P e
      let bytes ← bytesOf P e
      let z ← zeroOf P e
      AM.guard (decide (0 ≤ l ∧ l ≤ c) && Nat.ble (c.toNat * bytes) room && Nat.ble c.toNat maxInt && Nat.beq (acells z).length sz && !(Nat.beq sz 0))
      let id ← AM.halloc (.row sz (repeatCells (acells z) c.toNat) true)
      pure (.own id 0 0 l.toNat)) (Instr.makeSlice t (.int .i64 l) (.int .i64 c)) := by
  intro v h' e hF
  obtain ⟨el, h1, e1, e2⟩ := bind_some e
  obtain ⟨rfl, hu⟩ := elemOf_some e1
  obtain ⟨sz, h2, e3, e4⟩ := bind_some e2
  obtain ⟨rfl, i, hi, hn⟩ := szOf_some e3
  obtain ⟨bytes, h3, e5, e6⟩ := bind_some e4
  obtain ⟨rfl, i2, hi2, hb⟩ := bytesOf_some e5
  rw [hi] at hi2; cases hi2
  obtain ⟨z, h4, e7, e8⟩ := bind_some e6
  obtain ⟨rfl, i3, z', hi3, hz, rfl⟩ := zeroOf_some e7
  rw [hi] at hi3; cases hi3
  obtain ⟨_, h5, e9, e10⟩ := bind_some e8
  obtain ⟨hg, rfl⟩ := guard_some e9
  obtain ⟨id, h6, e11, e12⟩ := bind_some e10
  obtain ⟨rfl, rfl⟩ := halloc_some e11
  obtain ⟨rfl, rfl⟩ := pure_some e12
  simp only [Bool.and_eq_true, Nat.beq_eq, Nat.ble_eq, Bool.not_eq_true', Bool.eq_false_iff, ne_eq, decide_eq_true_eq] at hg
  obtain ⟨⟨⟨⟨⟨hl0, hlc⟩, hroom⟩, hmx⟩, hzl⟩, hsz⟩ := hg
  have hc0 : 0 ≤ c := Int.le_trans hl0 hlc
  subst hn hb
  have hzs : z'.cells.size = i.size := by have := (VRs_ofVal (h := h5) (μ := μ) (w := w) z').1; simp at this; omega
  have hv := VRs_zeros (h := h5) (μ := μ) (w := w) z' c.toNat
  have hlr : (repeatCells (acells (ofVal z')) c.toNat).length = c.toNat * i.size := by rw [length_repeat, hzl]
  obtain ⟨s1, s2⟩ := s.newRow hF.new el i.size (cs := (zerosOf z'.cells c.toNat).toArray) (cells := repeatCells (acells (ofVal z')) c.toNat) (by rw [hv.1]; simpa using hv) (by rw [hv.1]; simp) true (fun _ => by rw [hv.1]; simp)
  have hmade : zerosOf z'.cells c.toNat = (madeCells z'.cells (c.toNat * i.size)).toList := by
    rw [← hzs]; simp [zerosOf, madeCells]
  refine ⟨_, _, .slice (some ⟨w.heap.size, 0, none⟩) l.toNat c.toNat, ?_, s1, s2, ?_⟩
  · have hbig : ((i.bytes : Int) * c ≤ 281474976710656) ∧ c ≤ 9223372036854775807 := by
      have h1 : ((c.toNat * i.bytes : Nat) : Int) ≤ 140737488355328 := by simp only [room] at hroom; omega
      rw [Int.natCast_mul, Int.toNat_of_nonneg hc0, Int.mul_comm] at h1
      simp only [maxInt] at hmx
      omega
    rw [run_make (P := P) w t el i z' hu hi hz .i64 .i64 l c hl0 hlc hbig.1 hbig.2, hmade]
  · refine .own _ _ _ _ _ (get_new _) rfl i.size (fun _ _ _ q => by cases q; rfl) _ _ (by omega) (fun _ => ⟨by simp [upd], (zerosOf z'.cells c.toNat).toArray, el, ?_, ?_⟩)
    · have := World.alloc_heap_new w (.cells (zerosOf z'.cells c.toNat).toArray el)
      simpa [upd] using this
    · rw [Nat.zero_add, ← hlr, hv.1]; simp
end
end Go.Am
namespace Go.Am
open Go AM

section
variable {P : Program} {h h' : Hp} {μ : Nat → Nat} {w : World}

theorem zeroCells_zeros (z : Array Value) (n : Nat) : (Builtin.zeroCells z n).toList = zerosOf z n := by simp [Builtin.zeroCells, zerosOf]

theorem ones_repeat {z : List AV} (hz : ones z = true) (n : Nat) : ones (repeatCells z n) = true := by
  induction n with
  | zero => rfl
  | succ n ih =>
    unfold ones at *
    rw [repeatCells, List.all_append, hz, ih]; rfl

theorem clear_sim (s : SR h μ w) {ts : List TypeId} {ty : TypeId} {args : List AV} {vs : List Value} (r : VRs h μ w args vs) : MSim P h μ w (aclear P ts args) (Builtin.clear_ ts.toArray ty vs.toArray) := by
  intro v h' e _
  unfold aclear at e
  split at e
  · rename_i t ts d ds
    obtain ⟨x, vs, rfl⟩ : ∃ x vs', vs = x :: vs' := by cases vs with | nil => have := r.1; simp at this | cons x vs => exact ⟨x, vs, rfl⟩
    have ra := r.head
    split at e
    · rename_i el id ver off n hu
      obtain ⟨sz, h2, e3, e4⟩ := bind_some e
      obtain ⟨rfl, i, hi, hn⟩ := szOf_some e3
      obtain ⟨z, h4, e7, e8⟩ := bind_some e4
      obtain ⟨rfl, i3, z', hi3, hz, rfl⟩ := zeroOf_some e7
      rw [hi] at hi3; cases hi3
      obtain ⟨⟨esz, cells, fix⟩, h9, e17, e18⟩ := bind_some e8
      obtain ⟨rfl, o, ho, hv, hbody⟩ := rowOf_some e17
      obtain ⟨ad, cap, rfl, hcap, hex⟩ := ra.own_live ho hv hbody
      dsimp only at e18
      split at e18
      · obtain ⟨rfl, rfl⟩ := pure_some e18
        exact ⟨μ, w, .tuple #[], by simp [Builtin.clear_, run_underlying hu], s, Stp.refl _ _ _, .tuple [] [] rfl (fun _ h1 => absurd h1 (Nat.not_lt_zero _))⟩
      · rename_i hn0
        obtain ⟨_, h10, e19, e20⟩ := bind_some e18
        obtain ⟨hg, rfl⟩ := guard_some e19
        obtain ⟨_, h11, e21, e22⟩ := bind_some e20
        obtain ⟨o2, ho2, hle, rfl⟩ := hput_some e21
        rw [ho] at ho2; cases ho2
        obtain ⟨rfl, rfl⟩ := pure_some e22
        simp only [Bool.and_eq_true, Nat.beq_eq, Nat.ble_eq] at hg
        obtain ⟨⟨⟨rfl, hfit⟩, hzl⟩, hone⟩ := hg
        have hn1 := Nat.pos_of_ne_zero hn0
        obtain ⟨rfl, _⟩ := hex (.inl hn1)
        obtain ⟨cs, ty', hw, hcs, hfix, hr⟩ := s.row ho hbody
        have rz := VRs_zeros (h := h10) (μ := μ) (w := w) z' n
        have hrl : (repeatCells (acells (ofVal z')) n).length = n * esz := by rw [length_repeat, hzl]
        have hzn : (zerosOf z'.cells n).length = n * esz := by rw [← rz.1, hrl]
        have hones := ones_repeat hone n
        obtain ⟨hst, hsr⟩ := s.splice (P := P) ho hbody hw (off := off) rz (rz.oneCells hones) (by rw [hzn]; omega)
        have hl : (Am.splice cells off (repeatCells (acells (ofVal z')) n)).length = cells.length := length_splice (by rw [hrl]; omega)
        obtain ⟨s1, s2⟩ := hsr ver (Am.splice cells off (repeatCells (acells (ofVal z')) n)) fix hle (by omega) (fun hf => by rw [hfix hf, hl]) (by
          have hsp := hr.splice rz off
          rw [splice_take _ _ _ _ _ hzn hfit (by simpa using hcs)] at hsp
          rw [hl]; exact hsp)
        refine ⟨μ, _, .tuple #[], ?_, s1, s2, .tuple [] [] rfl (fun _ h1 => absurd h1 (Nat.not_lt_zero _))⟩
        obtain ⟨k, rfl⟩ : ∃ k, n = k + 1 := ⟨n - 1, by omega⟩
        simp [Builtin.clear_, run_underlying hu, run_zeroValue' hi hz, zeroCells_zeros, hst]
    · rename_i el k n cells hu
      split at e
      · obtain ⟨rfl, rfl⟩ := pure_some e
        refine ⟨μ, w, .tuple #[], ?_, s, Stp.refl _ _ _, .tuple [] [] rfl (fun _ h1 => absurd h1 (Nat.not_lt_zero _))⟩
        cases ra with | sl _ _ _ A cap => cases A <;> simp [Builtin.clear_, run_underlying hu]
      · cases e
    · cases e
  · cases e

theorem foldl_push : ∀ (l : List Int) (b : ByteArray), l.foldl (fun b n => b.push (UInt8.ofNat n.toNat)) b = ⟨b.data ++ (l.map fun n => UInt8.ofNat n.toNat).toArray⟩
  | [], b => by simp
  | n :: l, b => by
    rw [List.foldl_cons, foldl_push l]
    simp [ByteArray.push]
theorem bytes_loop (l : List Int) {a : Addr} {n cap : Nat} (hl : (loadCells a n).run P w = .ok (l.map fun b => Value.int .u8 b).toArray w) : (Conv.bytesToString (.slice (some a) n cap)).run P w = .ok (.string ⟨(l.map fun n => UInt8.ofNat n.toNat).toArray⟩) w := by
  unfold Conv.bytesToString
  simp only [Sem.run_bind, hl, Result.andThen]
  simp
  rw [foldl_push]
  simp [ByteArray.empty, ByteArray.emptyWithCapacity]
  rfl
theorem avBytes_sim : ∀ {cells : List AV} {l : List UInt8} {vals : List Value}, avBytes cells = some l → VRs h μ w cells vals → ∃ ns : List Int, vals = ns.map (fun b => Value.int .u8 b) ∧ l = ns.map fun n => UInt8.ofNat n.toNat
  | [], l, vals, e, r => by
    cases e
    have : vals = [] := List.eq_nil_of_length_eq_zero r.1.symm
    exact ⟨[], this, rfl⟩
  | c :: cells, l, vals, e, r => by
    cases vals with
    | nil => have := r.1; simp at this
    | cons x vals =>
      simp only [avBytes] at e
      cases h1 : avByte c with
      | none => rw [h1] at e; cases e
      | some b =>
        cases h2 : avBytes cells with
        | none => rw [h1, h2] at e; cases e
        | some l' =>
          rw [h1, h2] at e; cases e
          obtain ⟨ns, rfl, rfl⟩ := avBytes_sim h2 r.tail
          have r0 := r.head
          unfold avByte at h1
          split at h1
          · rename_i n
            cases h1
            cases r0
            exact ⟨n :: ns, rfl, rfl⟩
          · cases h1
theorem abytes_sim (s : SR h μ w) {a : AV} {x : Value} {l : List UInt8} (e : (abytes a).run h = some (l, h')) (r : VR h μ w a x) : h' = h ∧ (Conv.bytesToString x).run P w = .ok (.string ⟨l.toArray⟩) w := by
  unfold abytes at e
  obtain ⟨⟨m, cells⟩, h1, e1, e2⟩ := bind_some e
  obtain ⟨rfl, hl, _, ⟨A, cap, rfl⟩, hk⟩ := sliceCells_sim (P := P) s e1 r
  dsimp only at e2
  cases hb : avBytes cells with
  | none => rw [hb] at e2; cases e2
  | some l' =>
    rw [hb] at e2
    obtain ⟨rfl, rfl⟩ := pure_some e2
    refine ⟨rfl, ?_⟩
    obtain ⟨vals, hv, rv⟩ := hk m (by omega)
    rw [← hl, List.take_length] at rv
    obtain ⟨ns, rfl, rfl⟩ := avBytes_sim hb rv
    have hv := hv w rfl
    cases A with
    | none =>
      have hns : ns = [] := by
        simp [Builtin.firstCells, Sem.run_pure] at hv
        exact hv
      subst hns
      simp [Conv.bytesToString, ByteArray.empty, ByteArray.emptyWithCapacity]
      rfl
    | some ad =>
      refine bytes_loop ns ?_
      simpa [Builtin.firstCells] using hv
theorem SR.bytes (s : SR h μ w) (e : TypeId) (b : ByteArray) : SR h μ (Lib.bytesWorld w e b) ∧ Stp h μ w h μ (Lib.bytesWorld w e b) :=
  s.below ⟨rfl, rfl, rfl, by rw [Lib.bytesWorld_size]; omega, fun j hj => Lib.bytesWorld_at_old w e b j hj⟩
theorem convert_sim (s : SR h μ w) {src dst : TypeId} {a : AV} {x : Value} (r : VR h μ w a x) : MSim P h μ w (aconvert P src dst a) (convert src dst x) := by
  intro v h' e hF
  unfold aconvert at e
  split at e
  · rename_i d k k' n hs hd
    obtain ⟨rfl, rfl⟩ := pure_some e
    cases r
    refine ⟨μ, w, .int k (k.wrap n), ?_, s, Stp.refl _ _ _, .int _ _⟩
    simp only [convert, Sem.run_bind, run_underlying hs, run_underlying hd, Result.andThen]
    simp [Conv.intToInt]
  · rename_i d l hs hd
    obtain ⟨rfl, rfl⟩ := pure_some e
    cases r with | str s' _ e' =>
    refine ⟨μ, w, .string s', ?_, s, Stp.refl _ _ _, .str _ _ e'⟩
    simp only [convert, Sem.run_bind, run_underlying hs, run_underlying hd, Result.andThen]
    simp
  · rename_i k0 k n hs hd
    obtain ⟨_, h1, e1, e2⟩ := bind_some e
    obtain ⟨hg, rfl⟩ := guard_some e1
    obtain ⟨rfl, rfl⟩ := pure_some e2
    have hg := of_decide_eq_true hg
    cases r
    refine ⟨μ, w, .string (Utf8.encode n), ?_, s, Stp.refl _ _ _, .str _ _ ?_⟩
    · simp only [convert, Sem.run_bind, run_underlying hs, run_underlying hd, Result.andThen]
      simp [Conv.intToString]
    · have hv : Utf8.valid n = true := by simp [Utf8.valid]; omega
      simp only [Utf8.encode, hv, if_true]
      rw [if_pos (show n.toNat < 0x80 by omega)]
  · rename_i _ el hs hd _
    split at e
    · rename_i hu
      obtain ⟨l, h1, e1, e2⟩ := bind_some e
      obtain ⟨rfl, rfl⟩ := pure_some e2
      obtain ⟨rfl, hr⟩ := abytes_sim (P := P) s e1 r
      refine ⟨μ, w, .string ⟨l.toArray⟩, ?_, s, Stp.refl _ _ _, .str _ _ rfl⟩
      cases x <;> first | (simp only [convert, Sem.run_bind, run_underlying hs, run_underlying hd, Result.andThen, run_underlying hu]; exact hr) | (simp [Conv.bytesToString, stuck] at hr; done)
    · cases e
  · rename_i _ el l hs hd
    split at e
    · rename_i hu
      obtain ⟨rfl, rfl⟩ := pure_some e
      cases r with | str s' _ e' =>
      obtain ⟨sb, stb⟩ := s.bytes el s'
      refine ⟨μ, _, _, Lib.run_convert_string_bytes w src dst el s' hs hd hu, sb, stb, ?_⟩
      have hlen : l.length = s'.size := by rw [← e']; exact Array.length_toList
      have hnew := Lib.bytesWorld_at_new w el s'
      have hbl := (Array.getElem?_eq_some_iff.1 hnew).1
      have hv : VRs h' μ (Lib.bytesWorld w el s') (bytesAV l) (l.map fun b => Value.int .u8 b.toNat) := by
        refine ⟨by simp [bytesAV], fun i h1 h2 => ?_⟩
        simp only [bytesAV, List.getElem_map]
        exact .int _ _
      have e2 : (Value.slice (some ⟨w.heap.size, 0, none⟩) s'.size (grownCap w s'.size 0 el)) = .slice (some ⟨w.heap.size, 0, none⟩) l.length (grownCap w s'.size 0 el) := by rw [hlen]
      rw [e2]
      refine .sl .any l.length (bytesAV l) (some ⟨w.heap.size, 0, none⟩) _ _ (by rw [hlen]; exact grownCap_ge w s'.size 0 el) (fun q => by cases q) (fun q => by cases q) (fun q => by cases q) (fun _ => rfl) (fun ad ha _ => ?_) hv.1 (fun _ => rfl) (fun ad ha i hi => ?_) hv.2
      · cases ha
        refine ⟨fun ⟨id, o, ho, hm⟩ => ?_, hbl⟩
        obtain ⟨x, h1, _⟩ := s.blk id o ho
        have := (Array.getElem?_eq_some_iff.1 h1).1
        simp only at hm
        omega
      · cases ha
        have hi' : i < s'.size := by rw [← hlen]; simpa using hi
        have := Lib.bytesWorld_cell w el s' i hi'
        have ha : (⟨w.heap.size, 0, none⟩ : Addr).add i = ⟨w.heap.size, i, none⟩ := by cases i <;> simp [Addr.add]
        rw [ha, this]
        subst e'
        have h3 : i < s'.data.toList.length := by rw [Array.length_toList]; exact hi'
        simp [List.getD, List.getElem?_eq_getElem h3]
    · cases e
  · cases e
theorem range_sim (s : SR h μ w) {t : TypeId} {a : AV} {x : Value} (r : VR h μ w a x) : MSim P h μ w (arange P t a) (Instr.range t x) := by
  intro v h' e hF
  unfold arange at e
  split at e
  · rename_i l hu
    obtain ⟨id, h2, e3, e4⟩ := bind_some e
    obtain ⟨rfl, rfl⟩ := halloc_some e3
    obtain ⟨rfl, rfl⟩ := pure_some e4
    cases r with
    | str b _ hb =>
      obtain ⟨s1, s2⟩ := s.alloc hF.new (.stringIter b 0) (.siter l 0) ⟨b, rfl, hb⟩
      exact ⟨_, _, .pointer (some ⟨w.heap.size, 0, none⟩), by simp [Instr.range, run_underlying hu], s1, s2, VR_newPtr _ _⟩
  · cases e
theorem next_sim (s : SR h μ w) {ty : TypeId} {a : AV} {x : Value} {b : Bool} (r : VR h μ w a x) : MSim P h μ w (anext a b) (Instr.next x b ty) := by
  intro v h' e hF
  unfold anext at e
  split at e
  · rename_i id ver
    obtain ⟨o, h1, e1, e2⟩ := bind_some e
    obtain ⟨ho, rfl⟩ := hget_some e1
    obtain ⟨_, h2, e3, e4⟩ := bind_some e2
    obtain ⟨hg, rfl⟩ := guard_some e3
    have hv : o.ver = ver := by simpa using hg
    obtain rfl := r.ptr_live ho hv
    obtain ⟨obj, hw, hor⟩ := s.blk id o ho
    split at e4
    · rename_i l pos hb
      rw [hb] at hor
      obtain ⟨bs, rfl, hbs⟩ := hor
      split at e4
      · rename_i hp
        obtain ⟨rfl, rfl⟩ := pure_some e4
        refine ⟨μ, w, .tuple #[.bool false], ?_, s, Stp.refl _ _ _, .tuple [.bool false] [.bool false] rfl (fun i h1 h2 => by
          obtain rfl : i = 0 := by simp at h1; omega
          exact .bool _)⟩
        have : ¬ pos < bs.size := by
          have := List.getElem?_eq_none_iff.1 hp
          rw [← hbs, Array.length_toList] at this
          exact Nat.not_lt.2 this
        simp [Instr.next, getObj, Sem.run, hw, this]
      · rename_i c hp
        obtain ⟨_, h3, e5, e6⟩ := bind_some e4
        obtain ⟨hg2, rfl⟩ := guard_some e5
        have hc : c.toNat < 128 := by simpa [Nat.blt_eq] using hg2
        obtain ⟨_, h4, e7, e8⟩ := bind_some e6
        obtain ⟨o', ho', hle, rfl⟩ := hput_some e7
        obtain ⟨rfl, rfl⟩ := pure_some e8
        rw [ho] at ho'; cases ho'
        obtain ⟨hlt, hget⟩ := List.getElem?_eq_some_iff.1 hp
        have hsz : pos < bs.size := by rw [← hbs, Array.length_toList] at hlt; exact hlt
        have hat : (bs.get! pos).toNat = c.toNat := by
          have : bs.get! pos = c := by
            subst hbs
            simp [ByteArray.get!] at hget ⊢
            rw [getElem!_pos bs.data pos (by simpa using hlt)]
            exact hget
          rw [this]
        have hdec : Utf8.decode bs pos = (c.toNat, 1) := by
          simp only [Utf8.decode, Nat.add_zero, hat]
          rw [if_pos (by omega)]
        have hlt2 : μ id < w.heap.size := (Array.getElem?_eq_some_iff.1 hw).1
        obtain ⟨s1, s2⟩ := s.put (w' := w.putObj (μ id) (.stringIter bs (pos + 1))) (ver := ver) (b := .siter l (pos + 1)) ho hle (by rw [hb]; trivial) (by simp) (fun k hk => heap_putObj_other hk) (World.putObj_heap_same hlt2) ⟨bs, rfl, hbs⟩ (fun cs e hc => by rw [hw] at hc; cases hc) rfl rfl rfl
        refine ⟨μ, _, .tuple #[.bool true, .int .i64 pos, .int .i32 c.toNat], ?_, s1, s2, .tuple [.bool true, .int .i64 pos, .int .i32 c.toNat] [.bool true, .int .i64 pos, .int .i32 c.toNat] rfl (fun i h1 h2 => ?_)⟩
        · simp [Instr.next, getObj, setObj, Sem.run, hw, hsz, hdec, World.putObj, goInt]
        · match i, h1 with
          | 0, _ => exact .bool _
          | 1, _ => exact .int _ _
          | 2, _ => exact .int _ _
    · cases e4
  · cases e

theorem cap_sim (s : SR h μ w) {t ty : Nat} {ts : List TypeId} {args : List AV} {vs : List Value} (r : VRs h μ w args vs) : PSim P h μ w (abuiltin P .cap (t :: ts) args) (Builtin.cap_ (t :: ts).toArray ty vs.toArray) := by
  intro v h' e
  cases args with
  | nil => cases e
  | cons a args =>
  obtain ⟨x, vs, rfl⟩ : ∃ x vs', vs = x :: vs' := by cases vs with | nil => have := r.1; simp at this | cons x vs => exact ⟨x, vs, rfl⟩
  have ra := r.head
  simp only [abuiltin] at e
  split at e
  · rename_i hu
    obtain ⟨rfl, rfl⟩ := pure_some e
    cases ra with | sl _ _ _ A cap vals hn hnil =>
      obtain ⟨rfl, rfl⟩ := hnil rfl
      exact ⟨rfl, .int .i64 0, by simp [Builtin.cap_, run_underlying hu, goInt], .int _ _⟩
  · rename_i hu
    obtain ⟨rfl, rfl⟩ := pure_some e
    cases ra with | sl _ n _ A cap vals hn hnil hfull =>
      obtain ⟨_, rfl⟩ := hfull rfl
      exact ⟨rfl, .int .i64 cap, by simp [Builtin.cap_, run_underlying hu, goInt], .int _ _⟩
  · rename_i hu
    obtain ⟨rfl, rfl⟩ := pure_some e
    cases ra with | sl _ n _ A cap vals hn hnil hfull htight =>
      obtain rfl := htight rfl
      exact ⟨rfl, .int .i64 cap, by simp [Builtin.cap_, run_underlying hu, goInt], .int _ _⟩
  · rename_i el id ver off n hu
    obtain ⟨⟨esz, cells, fix⟩, h9, e17, e18⟩ := bind_some e
    obtain ⟨rfl, o, ho, hv, hbody⟩ := rowOf_some e17
    obtain ⟨_, h10, e19, e20⟩ := bind_some e18
    obtain ⟨hg, rfl⟩ := guard_some e19
    obtain ⟨rfl, rfl⟩ := pure_some e20
    simp only [Bool.and_eq_true, Nat.beq_eq, Nat.ble_eq, Bool.not_eq_true', Bool.eq_false_iff, ne_eq, Bool.or_eq_true] at hg
    obtain ⟨⟨⟨rfl, hlen⟩, hsz⟩, h0⟩ := hg
    obtain ⟨ad, cap, rfl, hcap, hex⟩ := ra.own_live ho hv hbody
    obtain ⟨rfl, cs, ty', hw, hcz⟩ := hex (by omega)
    obtain ⟨cs2, ty2, hw2, hcs, hfix, hr⟩ := s.row ho hbody
    rw [hw] at hw2
    injection hw2 with hw2
    injection hw2 with c1 c2
    subst c1 c2
    have : cells.length - off = cap * esz := by have := hfix rfl; omega
    have : (cells.length - off) / esz = cap := by rw [this]; exact Nat.mul_div_cancel _ (Nat.pos_of_ne_zero hsz)
    rw [this]
    exact ⟨rfl, .int .i64 cap, by simp [Builtin.cap_, run_underlying hu, goInt], .int _ _⟩
  · cases e

theorem bytes_exact : ∀ {cells : List AV} {l : List UInt8} {vals : List Value}, avBytes cells = some l → VRs h μ w cells vals → cells.all byteOk = true → vals = l.map fun b => Value.int .u8 (b.toNat : Int)
  | [], l, vals, e, r, _ => by
    cases e
    exact List.eq_nil_of_length_eq_zero r.1.symm
  | c :: cells, l, vals, e, r, hb => by
    cases vals with
    | nil => have := r.1; simp at this
    | cons x vals =>
      simp only [List.all_cons, Bool.and_eq_true] at hb
      simp only [avBytes] at e
      cases h1 : avByte c with
      | none => rw [h1] at e; cases e
      | some b =>
        cases h2 : avBytes cells with
        | none => rw [h1, h2] at e; cases e
        | some l' =>
          rw [h1, h2] at e; cases e
          have ih := bytes_exact h2 r.tail hb.2
          subst ih
          have r0 := r.head
          have hb1 := hb.1
          unfold avByte at h1
          split at h1
          · rename_i n
            cases h1
            cases r0
            simp only [byteOk, decide_eq_true_eq] at hb1
            simp only [List.map_cons, List.cons.injEq, and_true, Value.int.injEq, true_and]
            have : n.toNat < 256 := by omega
            rw [show (UInt8.ofNat n.toNat).toNat = n.toNat from by rw [UInt8.toNat_ofNat']; exact Nat.mod_eq_of_lt this]
            omega
          · cases h1
theorem usdata_sim (s : SR h μ w) {ts : Array TypeId} {ty : TypeId} {a v : AV} {x : Value} (e : (ausdata a).run h = some (v, h')) (r : VR h μ w a x) :
    ∃ μ' w' y, (Builtin.unsafeSliceData_ ts ty #[x]).run P w = .ok y w' ∧ SR h' μ' w' ∧ Stp h μ w h' μ' w' ∧ VR h' μ' w' v y := by
  unfold ausdata at e
  split at e
  · obtain ⟨rfl, rfl⟩ := pure_some e
    cases r with | sl _ _ _ A cap vals hn hnil =>
      obtain ⟨rfl, rfl⟩ := hnil rfl
      exact ⟨μ, w, _, Lib.run_unsafeSliceData_nil _ _ _ _ _, s, Stp.refl _ _ _, .nilptr⟩
  · obtain ⟨⟨esz, cells, fix⟩, h9, e17, e18⟩ := bind_some e
    obtain ⟨rfl, o, ho, hv, hbody⟩ := rowOf_some e17
    obtain ⟨_, h10, e19, e20⟩ := bind_some e18
    obtain ⟨hg, rfl⟩ := guard_some e19
    obtain ⟨rfl, rfl⟩ := pure_some e20
    have hg' := Nat.le_of_ble_eq_true hg
    obtain ⟨ad, cap, rfl, hcap, hex⟩ := r.own_live ho hv hbody
    obtain ⟨rfl, _⟩ := hex (by omega)
    exact ⟨μ, w, _, Lib.run_unsafeSliceData_row _ _ _ _ _ _ (by omega), s, Stp.refl _ _ _, .ptr _ _ _ o ho hv⟩
  · cases e
theorem ustring_sim (s : SR h μ w) {pt it ty : TypeId} {a b v : AV} {x y : Value} (e : (austring P pt a b).run h = some (v, h')) (r : VR h μ w a x) (r2 : VR h μ w b y) :
    ∃ μ' w' z, (Builtin.unsafeString_ #[pt, it] ty #[x, y]).run P w = .ok z w' ∧ SR h' μ' w' ∧ Stp h μ w h' μ' w' ∧ VR h' μ' w' v z := by
  unfold austring at e
  split at e
  · obtain ⟨_, h10, e19, e20⟩ := bind_some e
    obtain ⟨hg, rfl⟩ := guard_some e19
    obtain ⟨rfl, rfl⟩ := pure_some e20
    simp only [decide_eq_true_eq] at hg
    subst hg
    cases r
    cases r2
    exact ⟨μ, w, _, Lib.run_unsafeString_none _ _ _ _ _, s, Stp.refl _ _ _, .str _ _ rfl⟩
  · rename_i id ver off n
    obtain ⟨o, h1, e1, e2⟩ := bind_some e
    obtain ⟨ho, rfl⟩ := hget_some e1
    obtain ⟨_, h3, e3, e4⟩ := bind_some e2
    obtain ⟨hg, rfl⟩ := guard_some e3
    simp only [Bool.and_eq_true, Nat.beq_eq, decide_eq_true_eq] at hg
    obtain ⟨⟨hv, rfl⟩, hn⟩ := hg
    split at e4
    · rename_i esz cells fix t e' hbody hty hu
      obtain ⟨_, h5, e5, e6⟩ := bind_some e4
      obtain ⟨hg2, rfl⟩ := guard_some e5
      simp only [Bool.and_eq_true, Nat.beq_eq, Nat.ble_eq] at hg2
      obtain ⟨⟨⟨⟨rfl, hlen⟩, hc1⟩, hall⟩, hmx⟩ := hg2
      obtain ⟨l, h7, e7, e8⟩ := bind_some e6
      obtain ⟨hl, rfl⟩ := ofOption_some e7
      obtain ⟨_, h9, e9, e10⟩ := bind_some e8
      obtain ⟨o2, ho2, _, rfl⟩ := hputF_some e9
      rw [ho] at ho2; cases ho2
      obtain ⟨rfl, rfl⟩ := pure_some e10
      obtain rfl := r.ptr_live ho hv
      cases r2
      obtain ⟨cs, ty', hw, hcs, _, hr⟩ := s.row ho hbody
      obtain ⟨cs2, fr, hw2⟩ := s.tys _ _ _ ho hty (by rw [hbody]; intro q; cases q)
      rw [hw] at hw2
      injection hw2 with hw2
      injection hw2 with c1 c2 c3
      subst c1 c2
      have hr2 := hr.take n.toNat
      have hx := bytes_exact hl hr2 hall
      rw [List.take_take, Nat.min_eq_left hlen] at hx
      have hll : l.length = n.toNat := by
        have := congrArg List.length hx
        simp only [List.length_take, List.length_map, Array.length_toList] at this
        omega
      have hne : l ≠ [] := by rintro rfl; simp at hll; omega
      have hsh : w.shape? (μ id) = some (ty', cs.size) := by simp [World.shape?, hw]
      have hrun := Lib.run_unsafeString_row (P := P) w pt it ty ty' hu hc1 (μ id) cs.size hsh l hne (by omega) (by unfold maxInt at hmx; omega) (fun j x hj => by
        rw [add_plain]
        have h1 : (cs.toList.take n.toNat)[j]? = some (.int .u8 (x.toNat : Int)) := by rw [hx]; simp [hj]
        rw [List.getElem?_take] at h1
        split at h1
        · simp only [World.cell?, hw]
          simpa using h1
        · cases h1)
      have hnl : (l.length : Int) = n := by rw [hll]; omega
      rw [hnl] at hrun
      obtain ⟨g, hfz⟩ : ∃ g, w.freeze ⟨μ id, 0, none⟩ l.length = { w with heap := w.heap.modify (μ id) g } := by
        unfold World.freeze
        rw [if_neg (by omega)]
        exact ⟨_, rfl⟩
      obtain ⟨s1, s2⟩ := s.kill (w' := w.freeze ⟨μ id, 0, none⟩ l.length) (f := fun _ => Option.none) ho (ver := ver + 1) (by omega) (by rw [hbody]; rfl) (by rw [hfz]; simp) (fun c hc => by rw [hfz]; simp [Array.getElem?_modify, Ne.symm hc]) (by rw [hfz]) (by rw [hfz]) (by rw [hfz])
      exact ⟨μ, _, _, hrun, s1, s2, .str _ _ rfl⟩
    · cases e4
  · cases e
theorem VRs.toArray_get {l : List AV} {xs : List Value} (r : VRs h μ w l xs) : xs.length = l.length := r.1.symm

theorem builtin_sim (s : SR h μ w) {b : Builtin} {ts : List TypeId} {ty : TypeId} {cs : Array Bool} {args : List AV} {vs : List Value} (r : VRs h μ w args vs) {v : AV} (e : (abuiltin P b ts args).run h = some (v, h')) (hF : Fresh h h') :
    ∃ μ' w' x, (builtin b ts.toArray ty cs vs.toArray).run P w = .ok (.value x) w' ∧ SR h' μ' w' ∧ Stp h μ w h' μ' w' ∧ VR h' μ' w' v x := by
  have fin : ∀ (q : Sem Value), (∃ μ' w' x, q.run P w = .ok x w' ∧ SR h' μ' w' ∧ Stp h μ w h' μ' w' ∧ VR h' μ' w' v x) → (builtin b ts.toArray ty cs vs.toArray) = (do pure (.value (← q))) →
      ∃ μ' w' x, (builtin b ts.toArray ty cs vs.toArray).run P w = .ok (.value x) w' ∧ SR h' μ' w' ∧ Stp h μ w h' μ' w' ∧ VR h' μ' w' v x := by
    rintro q ⟨μ', w', x, h1, h2⟩ hq
    exact ⟨μ', w', x, by rw [hq]; simp [h1], h2⟩
  unfold abuiltin at e
  split at e
  · rename_i t ts a args
    obtain ⟨x, vs, rfl⟩ : ∃ x vs', vs = x :: vs' := by cases vs with | nil => have := r.1; simp at this | cons x vs => exact ⟨x, vs, rfl⟩
    exact fin _ ((len_sim s r.head).m s v h' e hF) rfl
  · exact fin _ (append_sim s r v h' e hF) rfl
  · exact fin _ (clear_sim s r v h' e hF) rfl
  · rename_i a
    obtain ⟨x, rfl⟩ : ∃ x, vs = [x] := List.length_eq_one_iff.1 r.1.symm
    exact fin (Builtin.unsafeSliceData_ ts.toArray ty #[x]) (usdata_sim s e r.head) rfl
  · rename_i pt it a b
    obtain ⟨x, y, rfl⟩ : ∃ x y, vs = [x, y] := by
      match vs, r.1 with
      | [x, y], _ => exact ⟨x, y, rfl⟩
    exact fin (Builtin.unsafeString_ #[pt, it] ty #[x, y]) (ustring_sim s e r.head r.tail.head) rfl
  · rename_i a args
    obtain ⟨x, vs, rfl⟩ : ∃ x vs', vs = x :: vs' := by cases vs with | nil => have := r.1; simp at this | cons x vs => exact ⟨x, vs, rfl⟩
    exact fin (vs.foldlM (mm true) x) ((afold_sim true args vs a x r.head r.tail).m s v h' e hF) rfl
  · rename_i a args
    obtain ⟨x, vs, rfl⟩ : ∃ x vs', vs = x :: vs' := by cases vs with | nil => have := r.1; simp at this | cons x vs => exact ⟨x, vs, rfl⟩
    exact fin (vs.foldlM (mm false) x) ((afold_sim false args vs a x r.head r.tail).m s v h' e hF) rfl
  · rename_i t ts a args
    have := (cap_sim (P := P) (ty := ty) (ts := ts) s r).m s v h' (by simp only [abuiltin]; exact e) hF
    exact fin _ this rfl
  · cases e

def plainCall (o : Oper) : Bool := match o.op with
  | .call c => match c.callee with
    | .builtin _ => true
    | _ => false
  | _ => true

theorem OVR_map {ρ : Operand → AV} {ρ' : Operand → Value} (hρ : ∀ x, VR h μ w (ρ x) (ρ' x)) (x : Option Operand) : OVR h μ w (x.map ρ) (x.map ρ') := by
  cases x with
  | none => trivial
  | some x => exact hρ x

theorem VRs_operands {ρ : Operand → AV} {ρ' : Operand → Value} (hρ : ∀ x, VR h μ w (ρ x) (ρ' x)) (l : Array Operand) : VRs h μ w (l.toList.map ρ) (l.map ρ').toList := by
  simp only [Array.toList_map]
  exact VRs.map _ fun x _ => hρ x

/-- ONE OPERATION THAT CALLS NO FUNCTION -/
theorem aop_sim (s : SR h μ w) {pol : Pol} {call : Calling} {fn : FuncId} {o : Oper} {ρ : Operand → AV} {ρ' : Operand → Value} (hρ : ∀ x, VR h μ w (ρ x) (ρ' x)) (hc : plainCall o = true) {v : AV} (e : (aop P pol call fn o ρ).run h = some (v, h')) (hF : Fresh h h') :
    ∃ μ' w' x, ((execOp ρ' o).run P w = .ok (.value x) w' ∨ ((execOp ρ' o).run P w = .ok .skip w' ∧ x = Go.undef)) ∧ SR h' μ' w' ∧ Stp h μ w h' μ' w' ∧ VR h' μ' w' v x := by
  have val : ∀ (q : Sem Value), (∃ μ' w' x, q.run P w = .ok x w' ∧ SR h' μ' w' ∧ Stp h μ w h' μ' w' ∧ VR h' μ' w' v x) → (execOp ρ' o) = (do pure (.value (← q))) →
      ∃ μ' w' x, ((execOp ρ' o).run P w = .ok (.value x) w' ∨ ((execOp ρ' o).run P w = .ok .skip w' ∧ x = Go.undef)) ∧ SR h' μ' w' ∧ Stp h μ w h' μ' w' ∧ VR h' μ' w' v x := by
    rintro q ⟨μ', w', x, h1, h2⟩ hq
    exact ⟨μ', w', x, .inl (by rw [hq]; simp [h1]), h2⟩
  have unit : ∀ (q : Sem Unit), (∃ w', q.run P w = .ok () w' ∧ SR h' μ w' ∧ Stp h μ w h' μ w') → v = .tuple [] → (execOp ρ' o) = (do q; pure .skip) →
      ∃ μ' w' x, ((execOp ρ' o).run P w = .ok (.value x) w' ∨ ((execOp ρ' o).run P w = .ok .skip w' ∧ x = Go.undef)) ∧ SR h' μ' w' ∧ Stp h μ w h' μ' w' ∧ VR h' μ' w' v x := by
    rintro q ⟨w', h1, h2, h3⟩ rfl hq
    exact ⟨μ, w', Go.undef, .inr ⟨by rw [hq]; simp [h1], rfl⟩, h2, h3, VR_undef⟩
  obtain ⟨dst, op, ty, pos, after, gd⟩ := o
  cases op with
  | move x =>
    obtain ⟨rfl, rfl⟩ := pure_some e
    exact ⟨μ, w, ρ' x, .inl rfl, s, Stp.refl _ _ _, hρ x⟩
  | assign x =>
    obtain ⟨rfl, rfl⟩ := pure_some e
    exact ⟨μ, w, ρ' x, .inl rfl, s, Stp.refl _ _ _, hρ x⟩
  | pick c a b =>
    have hcv := hρ c
    simp only [aop] at e
    split at e
    · rename_i hcb
      rw [hcb] at hcv
      obtain ⟨rfl, rfl⟩ := pure_some e
      refine ⟨μ, w, ρ' a, .inl ?_, s, Stp.refl _ _ _, hρ a⟩
      generalize hx : ρ' c = x at hcv
      cases hcv
      simp [execOp, hx, asBool]
    · rename_i hcb
      rw [hcb] at hcv
      obtain ⟨rfl, rfl⟩ := pure_some e
      refine ⟨μ, w, ρ' b, .inl ?_, s, Stp.refl _ _ _, hρ b⟩
      generalize hx : ρ' c = x at hcv
      cases hcv
      simp [execOp, hx, asBool]
    · cases e
  | alloc t => exact val _ (alloc_sim s t v h' e hF) rfl
  | box t x => exact val _ (box_sim s t (hρ x) v h' e hF) rfl
  | build t parts =>
    obtain ⟨h1, h2⟩ := parts_map parts ρ ρ' hρ
    exact val _ ((build_sim h1 h2).m s v h' e hF) rfl
  | buildSlice t len parts =>
    obtain ⟨h1, h2⟩ := parts_map parts ρ ρ' hρ
    simp only [aop] at e
    obtain ⟨⟨n, cells⟩, h3, e1, e2⟩ := bind_some e
    obtain ⟨rfl, cs, el, hrun, hr, hu, ⟨inf, hinf, hn⟩, hlen⟩ := buildSlice_sim (P := P) h1 h2 e1
    dsimp only at e2
    split at e2
    · obtain ⟨id, h4, e3, e4⟩ := bind_some e2
      obtain ⟨rfl, rfl⟩ := halloc_some e3
      obtain ⟨rfl, rfl⟩ := pure_some e4
      have hcs : cs.size = cells.length := by have := hr.1; simp at this; omega
      obtain ⟨s1, s2⟩ := s.newRow hF.new el n (cs := cs) (cells := cells) (by rw [← hcs, List.take_of_length_le (by simp)]; exact hr) (by omega) true (fun _ => hcs)
      refine val _ ⟨_, _, _, hrun, s1, s2, ?_⟩ rfl
      refine .own _ _ _ _ _ (get_new _) rfl n (fun _ _ _ q => by cases q; rfl) _ _ (Nat.le_refl _) (fun _ => ⟨by simp [upd], cs, el, ?_, by omega⟩)
      have := World.alloc_heap_new w (.cells cs el)
      simpa [upd] using this
    · obtain ⟨rfl, rfl⟩ := pure_some e2
      obtain ⟨s1, s2⟩ := s.beside (.cells cs el)
      refine val _ ⟨μ, _, _, hrun, s1, s2, ?_⟩ rfl
      have hr' := hr.mono s2
      have hnew := World.alloc_heap_new w (.cells cs el)
      have hnh : ¬ Held h' μ w.heap.size := by
        rintro ⟨id, o, ho, hm⟩
        obtain ⟨obj, hb, _⟩ := s.blk id o ho
        have := (Array.getElem?_eq_some_iff.1 hb).1
        omega
      refine .sl .full len cells _ len cs.toList (Nat.le_refl _) (fun hk => by cases hk) (fun _ => ⟨rfl, rfl⟩) (fun hk => by cases hk) (fun _ => rfl) (fun ad had _ => ?_) hr'.1 (fun _ => rfl) (fun ad had => ?_) hr'.2
      · cases had; exact ⟨hnh, by simp⟩
      · cases had
        have := At.row (off := 0) hnew cs.size
        rw [List.take_of_length_le (by simp), List.drop_zero] at this
        exact this
  | load t a =>
    obtain ⟨rfl, y, h1, h2⟩ := aload_sim s e (hρ a)
    exact val _ ⟨μ, w, y, h1, s, Stp.refl _ _ _, h2⟩ rfl
  | store t a x =>
    obtain ⟨u, h1, e1, e2⟩ := bind_some e
    obtain ⟨rfl, rfl⟩ := pure_some e2
    exact unit _ (astore_sim s e1 (hρ a) (hρ x)) rfl rfl
  | nilCheck x =>
    have hx := hρ x
    simp only [aop] at e
    split at e
    · rename_i hr
      obtain ⟨rfl, rfl⟩ := pure_some e
      rw [hr] at hx
      refine ⟨μ, w, ρ' x, .inl ?_, s, Stp.refl _ _ _, hx⟩
      generalize hy : ρ' x = y at hx
      cases hx <;> simp [execOp, hy]
    · rename_i hr
      obtain ⟨rfl, rfl⟩ := pure_some e
      rw [hr] at hx
      refine ⟨μ, w, ρ' x, .inl ?_, s, Stp.refl _ _ _, hx⟩
      generalize hy : ρ' x = y at hx
      cases hx
      simp [execOp, hy]
    · cases e
  | binOp op t x y u => exact val _ ((abin_sim s op t x y (hρ x) (hρ y)).m s v h' e hF) rfl
  | unOp op t x => exact val _ ((aun_sim op (hρ x)).m s v h' e hF) rfl
  | range t x => exact val _ (range_sim s (hρ x) v h' e hF) rfl
  | next it b => exact val _ (next_sim s (hρ it) v h' e hF) rfl
  | convert a b x => exact val _ (convert_sim s (hρ x) v h' e hF) rfl
  | makeInterface t x =>
    simp only [aop] at e
    split at e
    · cases e
    · rename_i d hne hu
      obtain ⟨rfl, rfl⟩ := pure_some e
      refine val _ ⟨μ, w, .iface t (ρ' x), ?_, s, Stp.refl _ _ _, .iface _ _ _ (hρ x)⟩ rfl
      simp only [Instr.makeInterface, Sem.run_bind, run_underlying hu, Result.andThen]
      cases d <;> first | rfl | exact absurd rfl (hne _)
    · cases e
  | makeFunc f first captured =>
    cases f with
    | func f =>
      obtain ⟨rfl, rfl⟩ := pure_some e
      have r1 := VRs_operands hρ first
      have r2 := VRs_operands hρ captured
      refine val _ ⟨μ, w, .func (.func f) (first.map ρ') (captured.map ρ'), rfl, s, Stp.refl _ _ _, ?_⟩ rfl
      have := VR.func (h := h') (μ := μ) (w := w) f _ _ _ _ r1.1 r2.1 r1.2 r2.2
      rw [Array.toArray_toList, Array.toArray_toList] at this
      exact this
    | _ => cases e
  | makeMap t r =>
    cases r with
    | none => exact val _ (makeMap_sim s t v h' e hF) rfl
    | some _ => cases e
  | makeSlice t l c =>
    have hl := hρ l
    have hcc := hρ c
    simp only [aop] at e
    split at e
    · rename_i l' c' hl' hc'
      rw [hl'] at hl
      rw [hc'] at hcc
      refine val (Instr.makeSlice t (ρ' l) (ρ' c)) ?_ rfl
      generalize ρ' l = x at hl
      generalize ρ' c = y at hcc
      cases hl; cases hcc
      exact makeSlice_sim s v h' e hF
    · cases e
  | slice t x lo hi mx => exact val _ ((slice_sim s (hρ x) (OVR_map hρ lo) (OVR_map hρ hi) (OVR_map hρ mx)).m s v h' e hF) rfl
  | fieldAddr t x f => exact val _ ((fieldAddr_sim s (hρ x)).m s v h' e hF) rfl
  | field t x f => exact val _ ((field_sim (hρ x)).m s v h' e hF) rfl
  | indexAddr t x i => exact val _ ((indexAddr_sim s (hρ x) (hρ i)).m s v h' e hF) rfl
  | index t x i => exact val _ ((index_sim (hρ x) (hρ i)).m s v h' e hF) rfl
  | lookup t x i ok => exact val _ ((lookup_sim s (hρ x) (hρ i)).m s v h' e hF) rfl
  | mapUpdate t m k x =>
    obtain ⟨u, h1, e1, e2⟩ := bind_some e
    obtain ⟨rfl, rfl⟩ := pure_some e2
    exact unit _ (mapUpdate_sim s e1 (hρ m) (hρ k) (hρ x)) rfl rfl
  | insert t m k x =>
    obtain ⟨u, h1, e1, e2⟩ := bind_some e
    obtain ⟨rfl, rfl⟩ := pure_some e2
    exact unit _ (mapUpdate_sim s e1 (hρ m) (hρ k) (hρ x)) rfl rfl
  | extract t i =>
    have ht := hρ t
    simp only [aop] at e
    split at e
    · rename_i vs ht'
      rw [ht'] at ht
      exact val _ ((extract_sim ht i).m s v h' e hF) rfl
    · cases e
  | call c =>
    simp only [plainCall] at hc
    split at hc
    · rename_i b hb
      simp only [aop, hb] at e
      obtain ⟨μ', w', x, h1, h2⟩ := builtin_sim (P := P) (ty := ty) (cs := (c.args.map fun | .const _ => true | _ => false)) s (VRs_operands hρ c.args) e hF
      refine ⟨μ', w', x, .inl ?_, h2⟩
      simp only [Array.toArray_toList] at h1
      simp [execOp, resolve, hb, invoke]
      exact h1
    · cases hc
  | _ => cases e
end
end Go.Am
namespace Go.Am
open Go AM

/-- the fence of an activation, of a round -/
def fen (ro : Option Nat) : Fence := { Fence.wide with round := ro }

def callSem (x : Value) (xs : Array Value) : Sem Next := do
  let d ← Deferred.ofValue x xs
  invoke d.target d.args

section
variable (P : Program)

/-- how a call ends that an abstract one tells -/
def Got (h : Hp) (μ : Nat → Nat) (w : World) (v : AV) (h' : Hp) : Ending → World → Prop
  | .returned x, w' => ∃ μ', SR h' μ' w' ∧ Stp h μ w h' μ' w' ∧ VR h' μ' w' v x
  | _, _ => False

def Meets (v : AV) (R : Ending → World → Prop) (w : World) : Result Next → Prop
  | .ok (.enter f as) w' => w' = w ∧ CallsIn Fence.wide 0 P f as w R
  | .ok (.round l f t a b) w' => isYield v = true ∧ w' = w ∧ RoundIn Fence.wide 0 P l f t a b w R
  | _ => False

def CallOk (call : Calling) : Prop :=
  ∀ (v : AV) (args : List AV) (h : Hp) (μ : Nat → Nat) (w : World) (r : AV) (h' : Hp) (x : Value) (xs : List Value),
    SR h μ w → VR h μ w v x → VRs h μ w args xs → (call v args).run h = some (r, h') → Fresh h h' →
    Meets P v (Got h μ w r h') w ((callSem x xs.toArray).run P w)
end

section
variable {P : Program} {pol : Pol} {call : Calling} {fn : FuncId} {h h' : Hp} {μ : Nat → Nat} {w : World}

/-- what lies behind an operation -/
def Next1 (h : Hp) (μ : Nat → Nat) (w : World) (a : Act) (o : Oper) (v : AV) (h' : Hp) (a' : Act) (w' : World) : Prop :=
  ∃ μ' x, SR h' μ' w' ∧ Stp h μ w h' μ' w' ∧ VR h' μ' w' v x ∧ a' = a.put o.dst x

theorem aop_defer {o : Oper} {ρ : Operand → AV} {r : AV × Hp} (e : (aop P pol call fn o ρ).run h = some r) : ∀ c, o.op ≠ .defer c := by
  intro c hc
  simp only [aop, hc] at e
  cases e

theorem methodOf_some {t : TypeId} {n : String} {f : FuncId} (e : methodOf P t n = some f) (v : Value) (k : Nat) : (method (k + 1) t v n).run P w = .ok (f, v) w := by
  unfold methodOf at e
  split at e
  · rename_i i d hi hd
    split at e
    · rename_i m hm
      split at e
      · rename_i g p hp hf
        have hp' : m.path = #[] := by
          have := congrArg List.toArray hp; simpa using this
        have hm' : i.methods.find? (fun x => x.name == n) = some m := by rw [← Array.find?_toList]; exact hm
        cases d with
        | pointer el =>
          cases p with
          | false => cases e
          | true =>
            cases e
            simp [method, Sem.run_bind, Result.andThen, run_typeInfo' hi, hm', hp', follow, hf, receiverAt, Place.get, run_underlying hd]
        | _ =>
          cases p with
          | true => cases e
          | false =>
            cases e
            simp [method, Sem.run_bind, Result.andThen, run_typeInfo' hi, hm', hp', follow, hf, receiverAt, Place.get, run_underlying hd]
      · cases e
    · cases e
  · cases e
theorem meets_upon {ro : Option Nat} {Q : Exit → Act → World → Prop} {o : Oper} {a : Act} {v fv : AV} {x : Value} {xs : Array Value} (hk : Meets P fv (Got h μ w v h') w ((callSem x xs).run P w)) (hx : (execOp a.eval o).run P w = (callSem x xs).run P w) :
    o.uponIn (fen ro) 0 P a (Next1 h μ w a o v h') Q ((execOp a.eval o).run P w) := by
  rw [hx]
  generalize (callSem x xs).run P w = res at hk
  unfold Meets at hk
  split at hk
  · obtain ⟨rfl, hk⟩ := hk
    rw [Oper.uponIn_enter]
    refine ⟨(fun hd => by cases hd), CallsIn.mono (F := fen ro) hk fun e' w' hg => ?_⟩
    cases e' with
    | returned x => obtain ⟨μ', g1, g2, g3⟩ := hg; exact ⟨μ', x, g1, g2, g3, rfl⟩
    | panicked _ => exact hg.elim
    | outgrown => exact hg.elim
  · obtain ⟨_, rfl, hk⟩ := hk
    rw [Oper.uponIn_round]
    refine ⟨(fun hd => by cases hd), RoundIn.mono (F := fen ro) hk fun e' w' hg => ?_⟩
    cases e' with
    | returned x => obtain ⟨μ', g1, g2, g3⟩ := hg; exact ⟨μ', x, g1, g2, g3, rfl⟩
    | panicked _ => exact hg.elim
    | outgrown => exact hg.elim
  · exact hk.elim
theorem aop_wp (hcall : CallOk P call) (ro : Option Nat) (s : SR h μ w) {o : Oper} {ρ : Operand → AV} {a : Act} (hρ : ∀ x, VR h μ w (ρ x) (a.eval x)) {v : AV}
    (e : (aop P pol call fn o ρ).run h = some (v, h')) (hF : Fresh h h') (Q : Exit → Act → World → Prop) :
    o.wpIn (fen ro) 0 P a w (Next1 h μ w a o v h') Q := by
  refine ⟨fun _ _ => trivial, ?_⟩
  rw [Oper.semAt_eq _ _ _ (aop_defer e)]
  by_cases hc : plainCall o = true
  · obtain ⟨μ', w', x, h1, h2, h3, h4⟩ := aop_sim (P := P) s hρ hc e hF
    rcases h1 with h1 | ⟨h1, rfl⟩
    · rw [h1, Oper.uponIn_value]; exact ⟨μ', x, h2, h3, h4, rfl⟩
    · rw [h1, Oper.uponIn_skip]; exact ⟨μ', _, h2, h3, h4, rfl⟩
  · obtain ⟨dst, op, ty, pos, after, gd⟩ := o
    cases op with
    | call c =>
      simp only [plainCall] at hc
      cases hcal : c.callee with
      | builtin b => rw [hcal] at hc; exact absurd rfl hc
      | invoke r n =>
        simp only [aop, hcal] at e
        have hr := hρ r
        generalize hrv : a.eval r = rv at hr
        generalize ρ r = ra at e hr
        cases hr with
        | iface t v0 v1 hv1 =>
          dsimp only at e
          cases hm : methodOf P t n with
          | none => rw [hm] at e; cases e
          | some f =>
            rw [hm] at e
            dsimp only at e
            have hk := hcall _ _ h μ w v h' (.func (.func f) #[] #[]) (v1 :: (c.args.map a.eval).toList) s (.func f [] [] [] [] rfl rfl (fun i h1 => absurd h1 (Nat.not_lt_zero _)) (fun i h1 => absurd h1 (Nat.not_lt_zero _))) (VRs.cons hv1 (VRs_operands hρ c.args)) e hF
            have hx : (execOp a.eval ⟨dst, .call c, ty, pos, after, gd⟩).run P w = (callSem (.func (.func f) #[] #[]) (v1 :: (c.args.map a.eval).toList).toArray).run P w := by
              have hdep : P.types.size + Made.depth = (P.types.size + 99) + 1 := rfl
              have h0 : ∀ (x : Value) (Y : Array Value), (#[x] ++ Y)[0]? = some x := fun x Y => by simp [Array.getElem?_append]
              have hX : ∀ (x : Value) (Y : Array Value), (#[x] ++ Y).extract 1 (#[x] ++ Y).size = Y := fun x Y => by apply Array.ext'; simp
              simp only [execOp, resolve, hcal, callSem, Deferred.ofValue, invoke, hrv, pure_bind, h0, hX, callMethod]
              have hh : (#[v1] ++ Array.map a.eval c.args) = (v1 :: List.map a.eval c.args.toList).toArray := by apply Array.ext'; simp
              simp [Sem.run_bind, Result.andThen, hdep, methodOf_some hm, hh]
            exact meets_upon hk hx
        | _ => cases e
      | value f =>
        simp only [aop, hcal] at e
        have hk := hcall _ _ h μ w v h' _ _ s (hρ f) (VRs_operands hρ c.args) e hF
        refine meets_upon hk ?_
        simp only [execOp, resolve, hcal, callSem, Array.toArray_toList]
    | _ => exact absurd rfl hc

/-- whether an operation is carried out -/
theorem awanted_sim {ops : Array Oper} {nt : Nat} {T : Temps} {a : Act} (tr : TR h μ w nt T a.tmps) (o : Oper) {b : Bool} (e : (awanted ops.toList T o).run h = some (b, h')) :
    h' = h ∧ Region.wanted o (yielded ops a.tmps) = b := by
  unfold awanted at e
  unfold Region.wanted
  split at e
  · rename_i hg
    obtain ⟨rfl, rfl⟩ := pure_some e
    rw [hg]; exact ⟨rfl, rfl⟩
  · rename_i j want hg
    rw [hg]
    simp only [yielded]
    rw [Array.getElem?_toList] at e
    cases hd : (ops[j]?).bind (·.dst) with
    | none =>
      rw [hd] at e
      obtain ⟨rfl, rfl⟩ := pure_some e
      exact ⟨rfl, rfl⟩
    | some t =>
      rw [hd] at e
      dsimp only at e
      simp only [Option.bind_some]
      have hv := tr.2 t
      have hget : a.tmps[t]? = some (a.tmps.getD t Go.undef) ∨ (a.tmps[t]? = none ∧ a.tmps.getD t Go.undef = Go.undef) := by
        by_cases hlt : t < a.tmps.size
        · left; simp [Array.getD, hlt]
        · right; simp [Array.getD, hlt]
      split at e
      · rename_i c hT
        obtain ⟨rfl, rfl⟩ := pure_some e
        rw [hT] at hv
        rcases hget with hget | ⟨_, hu⟩
        · rw [hget]
          generalize a.tmps.getD t Go.undef = x at hv
          cases hv
          refine ⟨rfl, ?_⟩
          cases c <;> cases want <;> rfl
        · rw [hu] at hv; cases hv
      · cases e
      · rename_i hn1 hn2
        obtain ⟨rfl, rfl⟩ := pure_some e
        refine ⟨rfl, ?_⟩
        rcases hget with hget | ⟨hget, _⟩
        · rw [hget]
          generalize a.tmps.getD t Go.undef = x at hv
          cases x <;> first | rfl | skip
          rename_i c
          generalize tget T t = y at hv hn1 hn2
          cases hv
          · exact absurd rfl hn2
          · exact absurd rfl (hn1 _)
          · rename_i r; cases r
        · rw [hget]; rfl
end
end Go.Am
namespace Go.Am
open Go AM

theorem AM.dom {α : Type} (m : AM α) {h h' : Hp} {a : α} (e : m.run h = some (a, h')) : Dom h h' := m.good.1 h a h' e

/-- A BIND, TAKEN APART -/
theorem bind_fresh {α β : Type} {m : AM α} {f : α → AM β} {h h' : Hp} {r : β} (e : (m >>= f).run h = some (r, h')) (F : Fresh h h') :
    ∃ a h1, m.run h = some (a, h1) ∧ (f a).run h1 = some (r, h') ∧ Fresh h h1 ∧ Fresh h1 h' := by
  obtain ⟨a, h1, e1, e2⟩ := bind_some e
  exact ⟨a, h1, e1, e2, F.left (AM.dom _ e2).next, F.right (AM.dom _ e1)⟩

section
variable {P : Program} {pol : Pol} {call : Calling} {fn : FuncId} {h h' : Hp} {μ μ' : Nat → Nat} {w w' : World}

/-! ### a region in its own order -/
def OpsPost (h : Hp) (μ : Nat → Nat) (w : World) (nt : Nat) (T' : Temps) (h' : Hp) (ds : List Deferred) (e1 : Exit) (a1 : Act) (w1 : World) : Prop :=
  e1 = .normal ∧ ∃ μ', SR h' μ' w1 ∧ Stp h μ w h' μ' w1 ∧ TR h' μ' w1 nt T' a1.tmps ∧ a1.defers = ds

theorem OpsPost.trans {h1 : Hp} {μ1 : Nat → Nat} {w1 : World} {nt : Nat} {T' : Temps} {ds : List Deferred} (s : Stp h μ w h1 μ1 w1) {e1 : Exit} {a2 : Act} {w2 : World}
    (p : OpsPost h1 μ1 w1 nt T' h' ds e1 a2 w2) : OpsPost h μ w nt T' h' ds e1 a2 w2 := by
  obtain ⟨p1, μ2, p2, p3, p4⟩ := p
  exact ⟨p1, μ2, p2, s.trans p3, p4⟩

theorem wpOpsIn_mono {F : Fence} {n : Nat} {ops : Array Oper} {Q Q' : Exit → Act → World → Prop} (hq : ∀ e a w, Q e a w → Q' e a w) (l : List Nat) : ∀ (a : Act) (w : World),
    wpOpsIn F n P ops Q l a w → wpOpsIn F n P ops Q' l a w := by
  induction l with
  | nil => exact fun a w hh => hq _ _ _ hh
  | cons i rest ih =>
    intro a w hh
    simp only [wpOpsIn] at hh ⊢
    split
    · rename_i ho; simp only [ho] at hh; exact ih _ _ hh
    · rename_i o ho
      simp only [ho] at hh
      split
      · rename_i hw
        simp only [hw, if_true] at hh
        have h2 := Oper.wpIn_mono (K' := wpOpsIn F n P ops Q' rest) ih hh
        refine ⟨h2.1, ?_⟩
        have h3 := h2.2
        generalize (o.semAt F.round a.eval).run P w = r at *
        cases r with
        | ok x w' =>
          cases x <;> simp only [Oper.uponIn] at h3 ⊢ <;>
            first
              | exact h3
              | exact ⟨h3.1, CallsIn.mono h3.2 (fun e w'' he => by cases e <;> first | exact he | exact hq _ _ _ he | (obtain ⟨x, y, z⟩ := he; exact ⟨x, y, hq _ _ _ z⟩))⟩
              | exact ⟨h3.1, RoundIn.mono h3.2 (fun e w'' he => by cases e <;> first | exact he | exact hq _ _ _ he | (obtain ⟨x, y, z⟩ := he; exact ⟨x, y, hq _ _ _ z⟩))⟩
        | halt x w' => cases x <;> simp only [Oper.uponIn] at h3 ⊢ <;> first | exact h3 | exact hq _ _ _ h3
      · rename_i hw
        simp only [hw] at hh
        exact ⟨hh.1, ih _ _ hh.2⟩

theorem put_defers (a : Act) (d : Option Tmp) (x : Value) : (a.put d x).defers = a.defers := by cases d <;> rfl

theorem aops_wp (hcall : CallOk P call) (ro : Option Nat) (nt : Nat) {ops : Array Oper} (l : List Nat) : ∀ {T T' : Temps} {h : Hp} {a : Act} {w : World} {μ : Nat → Nat},
    (aops P pol call fn nt ops.toList l T).run h = some (T', h') → SR h μ w → TR h μ w nt T a.tmps → Fresh h h' → wpOpsIn (fen ro) 0 P ops (OpsPost h μ w nt T' h' a.defers) l a w := by
  induction l with
  | nil =>
    intro T T' h a w μ e s tr F
    obtain ⟨rfl, rfl⟩ := pure_some e
    exact ⟨rfl, μ, s, Stp.refl _ _ _, tr, rfl⟩
  | cons i rest ih =>
    intro T T' h a w μ e s tr F
    simp only [aops, Array.getElem?_toList] at e
    simp only [wpOpsIn]
    cases ho : ops[i]? with
    | none => rw [ho] at e; cases e
    | some o =>
      rw [ho] at e
      dsimp only at e ⊢
      obtain ⟨b, h1, e1, e2, F1, F2⟩ := bind_fresh e F
      obtain ⟨rfl, hw⟩ := awanted_sim tr o e1
      rw [hw]
      cases b with
      | true =>
        simp only [if_true]
        dsimp only at e2
        obtain ⟨v, h2, e3, e4, F3, F4⟩ := bind_fresh e2 F2
        refine Oper.wpIn_mono (fun a' w' hn => ?_) (aop_wp hcall ro s (tr.eval s.gl) e3 F3 _)
        obtain ⟨μ', x, s1, s2, hv, rfl⟩ := hn
        have := ih e4 s1 ((tr.mono s2).put? o.dst hv) F4
        rw [put_defers] at this
        exact wpOpsIn_mono (fun _ _ _ => OpsPost.trans s2) _ _ _ this
      | false =>
        simp only [Bool.false_eq_true, if_false]
        dsimp only at e2
        refine ⟨fun _ _ => trivial, ?_⟩
        have := ih e2 s (tr.put? o.dst VR_undef) F2
        rw [put_defers] at this
        exact this

/-! ### marks -/
/-- the deferred calls of an activation: marks alone, each with a block of its own that is open and empty -/
def Marks (B : Nat) (h : Hp) (μ : Nat → Nat) (w : World) : List Deferred → Prop
  | [] => True
  | d :: ds => (∃ D, d.target = .collected D ∧ B ≤ D ∧ D < w.heap.size ∧ ¬ Held h μ D ∧ w.heap[D]? = some (.deferred (some [])) ∧ ∀ d2 ∈ ds, d2.target ≠ .collected D) ∧ Marks B h μ w ds

theorem Marks.mono {B : Nat} (s : Stp h μ w h' μ' w') : ∀ {ds : List Deferred}, Marks B h μ w ds → Marks B h' μ' w' ds
  | [], _ => trivial
  | _ :: _, ⟨⟨D, h1, h2, h3, h4, h5, h6⟩, r⟩ => ⟨⟨D, h1, h2, Nat.lt_of_lt_of_le h3 s.size, fun k => h4 (s.held D h3 k), by rw [s.old D h3 h4]; exact h5, h6⟩, r.mono s⟩

theorem Marks.lt {B : Nat} : ∀ {ds : List Deferred}, Marks B h μ w ds → ∀ d ∈ ds, ∀ D, d.target = .collected D → D < w.heap.size
  | [], _, d, hd, _, _ => by cases hd
  | d0 :: ds, ⟨⟨D, h1, _, h3, _⟩, r⟩, d, hd, D', hD => by
    rcases List.mem_cons.1 hd with rfl | hd
    · rw [h1] at hD; cases hD; exact h3
    · exact r.lt d hd D' hD

/-- the record of the loop whose round this is -/
def InR (h : Hp) (μ : Nat → Nat) (ro : Option Nat) : Prop := ∀ l, ro = some l → ∃ id o f nt T ps a b st p, h.get id = some o ∧ o.body = .loop f nt T ps a b st p ∧ μ id = l

theorem InR.mono {ro : Option Nat} (i : InR h μ ro) (s : Stp h μ w h' μ' w') : InR h' μ' ro := fun l hl => by
  obtain ⟨id, o, f, nt, T, ps, a, b, st, p, h1, h2, h3⟩ := i l hl
  obtain ⟨o', ho', _, hlike, heq⟩ := s.live id o h1
  have hm := (heq (.inr (by rw [h2]; rfl))).1
  rw [h2] at hlike
  cases hb : o'.body with
  | loop f nt T ps a b st p => exact ⟨id, o', f, nt, T, ps, a, b, st, p, ho', hb, by rw [hm]; exact h3⟩
  | row _ _ _ => rw [hb] at hlike; exact hlike.elim
  | map _ => rw [hb] at hlike; exact hlike.elim
  | siter _ _ => rw [hb] at hlike; exact hlike.elim
  | dead => rw [hb] at hlike; exact hlike.elim

/-! ### a block is shut -/
theorem VR.same (hz : w'.heap.size = w.heap.size) (hc : ∀ a, w'.cell? a = w.cell? a) (hh : ∀ id o, h.get id = some o → w'.heap[μ id]? = w.heap[μ id]?) {v : AV} {x : Value} (r : VR h μ w v x) : VR h μ w' v x := by
  induction r with
  | undef v => exact .undef v
  | bool b => exact .bool b
  | int k n => exact .int k n
  | str s l e => exact .str s l e
  | nilptr => exact .nilptr
  | ptr id ver off o ho hv => exact .ptr id ver off o ho hv
  | ptrOld id ver off x o ho hv => exact .ptrOld id ver off x o ho hv
  | iptr cells ad vals h1 hb hl hcc hr ih => exact .iptr cells ad vals h1 (by omega) hl (fun i hi => by rw [hc]; exact hcc i hi) ih
  | sl k n cells A cap vals hn hnil hfull htight hpos h1 hl hs hcc hr ih =>
    exact .sl k n cells A cap vals hn hnil hfull htight hpos (fun ad e hne => by rw [hz]; exact h1 ad e hne) hl hs (fun ad e i hi => by rw [hc]; exact hcc ad e i hi) ih
  | bag cells cells' x p r ih => exact .bag cells cells' x p ih
  | own id ver off n o ho hv esz hbody ad cap hn hex =>
    exact .own id ver off n o ho hv esz hbody ad cap hn (fun k => by rw [hh id o ho]; exact hex k)
  | ownOld id ver off n x m cap o ho hv => exact .ownOld id ver off n x m cap o ho hv
  | nilmap => exact .nilmap
  | mapv id o ho es hbody => exact .mapv id o ho es hbody
  | nilfunc => exact .nilfunc
  | func f first captured vf vc hl1 hl2 hr1 hr2 ih1 ih2 => exact .func f first captured vf vc hl1 hl2 ih1 ih2
  | yield l o ho hbody => exact .yield l o ho hbody
  | niliface => exact .niliface
  | iface t v v' hr ih => exact .iface t v v' ih
  | agg cells vals hl hr ih => exact .agg cells vals hl ih
  | tuple cells vals hl hr ih => exact .tuple cells vals hl ih

/-- a block that no object is, and that holds no cells, is shut -/
theorem shut {D : Nat} {ds : Option (List Deferred)} (s : SR h μ w) (hn : ¬ Held h μ D) (hd : w.heap[D]? = some (.deferred ds)) :
    SR h μ (w.putObj D (.deferred none)) ∧ (∀ {v : AV} {x : Value}, VR h μ w v x → VR h μ (w.putObj D (.deferred none)) v x) := by
  have hlt : D < w.heap.size := (Array.getElem?_eq_some_iff.1 hd).1
  have hoth : ∀ c, c ≠ D → (w.putObj D (.deferred none)).heap[c]? = w.heap[c]? := fun c hc => World.putObj_heap_other hc
  have hcell : ∀ a, (w.putObj D (.deferred none)).cell? a = w.cell? a := fun a => by
    by_cases e : a.block = D
    · unfold World.cell?
      rw [e, hd, World.putObj_heap_same hlt]
    · exact cell?_of_heap (hoth _ e)
  have hheld : ∀ id o, h.get id = some o → (w.putObj D (.deferred none)).heap[μ id]? = w.heap[μ id]? := fun id o ho => hoth _ (fun e => hn ⟨id, o, ho, e⟩)
  have vr : ∀ {v : AV} {x : Value}, VR h μ w v x → VR h μ (w.putObj D (.deferred none)) v x := fun r => r.same World.putObj_size hcell hheld
  have vrs : ∀ {v : List AV} {x : List Value}, VRs h μ w v x → VRs h μ (w.putObj D (.deferred none)) v x := fun r => ⟨r.1, fun i h1 h2 => vr (r.2 i h1 h2)⟩
  refine ⟨⟨fun id o ho => ?_, s.inj, fun g l hg => by
    obtain ⟨k1, k2, k3⟩ := s.gl g l hg
    exact ⟨k1, by rw [World.putObj_size]; exact k2, fun i hi => by rw [hcell]; exact k3 i hi⟩, fun id o t ho ht hd => by rw [hheld id o ho]; exact s.tys id o t ho ht hd⟩, vr⟩
  obtain ⟨obj, h1, h2⟩ := s.blk id o ho
  refine ⟨obj, by rw [hheld id o ho]; exact h1, ?_⟩
  revert h2
  cases o.body with
  | row esz cells fix => rintro ⟨cs, e, h1, h2, h3, h4⟩; exact ⟨cs, e, h1, h2, h3, vrs h4⟩
  | map es => rintro ⟨ms, c, h1, h2, h3, hbn⟩; exact ⟨ms, c, h1, vrs h2, vrs h3, hbn⟩
  | loop f nt T ps a b st p => rintro ⟨L, h1, h3, h4⟩; exact ⟨L, h1, ⟨h3.1, fun t => vr (h3.2 t)⟩, h4⟩
  | siter _ _ => exact fun k => k
  | dead => exact fun k => k
end
end Go.Am
