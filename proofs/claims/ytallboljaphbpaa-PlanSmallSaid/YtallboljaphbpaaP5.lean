/- PlanSmall: the law returns true. No condition. -/
import Derived.Test.YtallboljaphbpaaP4
set_option linter.unusedVariables false
set_option linter.unusedSimpArgs false
namespace Go.Am
open Go Go.Proofs AM
set_option maxRecDepth 10000
set_option synthInstance.maxHeartbeats 400000
set_option synthInstance.maxSize 4000
set_option linter.unusedVariables false
variable {pol : Pol} {sums : Sums}
theorem sub_perm : ∀ (o l : List Nat), o.Nodup → (∀ x ∈ o, x ∈ l) → ∃ r, l.Perm (o ++ r)
  | [], l, _, _ => ⟨l, .refl _⟩
  | x :: o, l, hn, hs => by
    obtain ⟨hx, hn⟩ := List.nodup_cons.1 hn
    obtain ⟨r, hr⟩ := sub_perm o l hn fun y hy => hs y (List.mem_cons_of_mem _ hy)
    have hxr : x ∈ r := (List.mem_append.1 (hr.mem_iff.1 (hs x List.mem_cons_self))).resolve_left hx
    exact ⟨r.erase x, hr.trans (((List.perm_cons_erase hxr).append_left o).trans List.perm_middle)⟩
theorem perm_range {o : List Nat} {n : Nat} (hl : o.length = n) (hb : ∀ j ∈ o, j < n) (hn : o.Nodup) : o.Perm (List.range n) := by
  obtain ⟨r, hr⟩ := sub_perm o (List.range n) hn fun x hx => List.mem_range.2 (hb x hx)
  have := hr.length_eq
  simp at this
  have : r = [] := List.eq_nil_of_length_eq_zero (by omega)
  subst this
  simpa using hr.symm
theorem whole_good {order : List Int} {n : Nat} (hl : order.length = n) (h : ∀ i (hi : i < order.length), 0 ≤ order[i] ∧ order[i] < (n : Int) ∧ order[i] ∉ order.take i) : ∃ o : List Nat, order = zs o ∧ (∀ j ∈ o, j < n) ∧ o.length = n ∧ o.Perm (List.range n) := by
  have hz : order = zs (order.map Int.toNat) := by
    apply List.ext_getElem
    · simp
    · intro i h1 h2
      have := (h i h1).1
      simp [zs]
      omega
  have hb : ∀ j ∈ order.map Int.toNat, j < n := fun j hj => by
    obtain ⟨z, hz, rfl⟩ := List.mem_map.1 hj
    obtain ⟨i, hi, rfl⟩ := List.getElem_of_mem hz
    have := h i hi
    omega
  have hn : order.Nodup := List.pairwise_iff_getElem.2 fun i j hi hj hij e => by
    refine (h j hj).2.2 ?_
    rw [List.mem_take_iff_getElem]
    exact ⟨i, by omega, e⟩
  have hn' : (order.map Int.toNat).Nodup := List.pairwise_map.2 (List.Pairwise.imp_of_mem (fun {a b} ha hb' hab e => hab (by
    obtain ⟨i, hi, rfl⟩ := List.getElem_of_mem ha
    obtain ⟨j, hj, rfl⟩ := List.getElem_of_mem hb'
    have := (h i hi).1
    have := (h j hj).1
    omega)) hn)
  exact ⟨_, hz, hb, by simp [hl], perm_range (by simp [hl]) hb hn'⟩
theorem whole_bad {order : List Int} {n : Nat} (h : wholeZ order n = true) : ∀ i (hi : i < order.length), 0 ≤ order[i] ∧ order[i] < (n : Int) ∧ order[i] ∉ order.take i := by
  obtain ⟨o, rfl, hb, hl, hp⟩ := wholeZ_true h
  have hn : o.Nodup := hp.nodup_iff.2 List.nodup_range
  intro i hi
  have hi' : i < o.length := by simpa [zs] using hi
  have e : (zs o)[i] = (o[i] : Int) := by simp [zs]
  rw [e]
  refine ⟨by omega, by have := hb _ (List.getElem_mem hi'); omega, fun q => ?_⟩
  rw [List.mem_take_iff_getElem] at q
  obtain ⟨j, hj, ej⟩ := q
  have hjo : j < o.length := by simp at hj; omega
  have : o[j] = o[i] := by simp [zs] at ej; omega
  have hij : j < i := by simp at hj; omega
  exact List.pairwise_iff_getElem.1 hn j i hjo hi' hij this
theorem ahead_take (pats : List Ptn) (o : List Nat) (i : Nat) : qbk pats (o.take i) (o.take i).length = qbk pats o i := by unfold qbk; rw [List.take_length]
theorem hasrows_zs {L W : List Ck} {v : AV} {o : List Nat} {i : Nat} [a : HasRows L W v qbd 1 (zs o)] (hi : i ≤ o.length) : HasRows L W (subV v 0 i 1) qbd 1 (zs (o.take i)) := ⟨fun h k => by
  have := sub_rows (f := qbd) (lo := 0) (hi := i) (fun x => rfl) (a.has h k) (Nat.zero_le _) (by rw [qa7]; exact hi)
  rw [List.drop_zero, Nat.sub_zero] at this
  rw [show zs (o.take i) = (zs o).take i by simp [zs]]
  exact this⟩
theorem right_len {pats : List Ptn} {order ops : List Int} (h : order.length ≠ pats.length ∨ ops.length ≠ pats.length) : qbf pats order ops = false := by
  rcases h with h | h <;> simp [qbf, wholeZ, h]
theorem right_bad {pats : List Ptn} {order ops : List Int} {i : Nat} (hi : i < order.length) (h : order[i] < 0 ∨ (pats.length : Int) ≤ order[i] ∨ order[i] ∈ order.take i) : qbf pats order ops = false := by
  cases hw : wholeZ order pats.length with
  | false => simp [qbf, hw]
  | true =>
    have := whole_bad hw i hi
    rcases h with h | h | h
    · omega
    · omega
    · exact absurd h this.2.2
theorem right_steps {pats : List Ptn} {o : List Nat} {ops : List Int} (hp : o.Perm (List.range pats.length)) (ho : ops.length = pats.length) : qbf pats (zs o) ops = (List.range pats.length).all (stepOk pats o ops) := by
  unfold qbf
  rw [wholeZ_perm hp, ho, zs_toNat]
  simp
theorem step_eq {pats : List Ptn} {o : List Nat} {ops : List Int} {i j : Nat} {op : Int} {p : Ptn} (h1 : o[i]? = some j) (h2 : ops[i]? = some op) (h3 : pats[j]? = some p) : stepOk pats o ops i = mayZ op (qa1 (qaq pats o i) p).length := by
  simp [stepOk, h1, h2, h3]
section
attribute [local irreducible] ACo AK AT qa3 ARs Fin Cal KLp KFun
theorem rightR_w (S : S27' pol sums) {n : Nat} {W : List Ck} {ov qv pv : AV} {order ops : List Int} {pats : List Ptn} [HasRows [] W ov qbd 1 order] [HasRows [] W qv qbd 1 ops] [HasRows [] W pv qcd 15 pats] (hn : 4 * pats.length + 60 ≤ n) (hb : pats.length < 2 ^ 28) :
    Cal [] W (qat Try.prog pol sums n (.func (.func 35) [] []) [.agg [ov, qv], pv]) (fun r N => r = .int .i64 (if qbf pats order ops then 0 else 18) ∧ N = []) := by
  refine qbh (f := 35) (nt := 90) (rs := [.tmp 4]) (by omega) (by first | assumption | exact S.rest _ (by decide)) Try.func35 rfl rfl rfl rfl fun m h0 T hm aT => ?_
  by_cases c1 : order.length = pats.length
  rotate_left
  · have : Is ((order.length : Int) != (pats.length : Int)) true := ⟨by simp; omega⟩
    (repeat first|refine Wk.go ?_|refine qal ?_|intro _)
    exact fin ⟨by rw [right_len (.inl c1)]; rfl, rfl⟩
  have : Is ((order.length : Int) != (pats.length : Int)) false := ⟨by simp [c1]⟩
  by_cases c2 : ops.length = pats.length
  rotate_left
  · have : Is ((ops.length : Int) != (pats.length : Int)) true := ⟨by simp; omega⟩
    (repeat first|refine Wk.go ?_|refine qal ?_|intro _)
    exact fin ⟨by rw [right_len (.inr c2)]; rfl, rfl⟩
  have : Is ((ops.length : Int) != (pats.length : Int)) false := ⟨by simp [c2]⟩
  (repeat first|refine Wk.go ?_|refine qal ?_|intro _)
  refine A_loopR (fun d T => ∃ i, d = pats.length - i ∧ i ≤ pats.length ∧ Lk T 5 (.int .i64 (i : Nat)) ∧ ∀ j (hj : j < order.length), j < i → 0 ≤ order[j] ∧ order[j] < (pats.length : Int) ∧ order[j] ∉ order.take j) [1, 2] pats.length (by omega) ⟨0, rfl, Nat.zero_le _, lkz (by rfl), fun j _ hj => by omega⟩ (by rfl) ?_
  rintro d T1 ⟨i, rfl, hi, h5, hall⟩ hA
  (repeat first|refine Wk.go ?_|refine qal ?_|intro _)
  refine ⟨fun c => ?_, fun c => ?_⟩
  · have c : i < pats.length := by simpa using c
    have hio : i < order.length := by omega
    generalize hz : order[i] = z
    have e1 : ElAt order i z := ⟨by rw [List.getElem?_eq_getElem hio, hz]⟩
    have hbad : z < 0 ∨ (pats.length : Int) ≤ z ∨ z ∈ order.take i → (18 : Int) = if qbf pats order ops then 0 else 18 := fun q => by rw [right_bad hio (by rw [hz]; exact q)]; rfl
    by_cases q1 : z < 0
    · have : Is (decide (z < 0)) true := ⟨by simpa using q1⟩
      (repeat first|refine Wk.go ?_|refine qal ?_|intro _)
      refine qbo [0, 1, 2, 3, 4, 5, 6, 7, 8, 9, 10, 11, 12, 13, 14, 15, 16, 17, 18, 19, 20, 21, 22, 23, 24, 25, 26, 27] [0, 1, 0, 7, 15, 31, 63, 127, 255, 127, 1023, 2047, 127, 4223, 16383, 32767, 65535, 131071, 262143, 131071, 1048575, 131071, 2228223, 131071, 14811135, 31588351, 67108863, 134217727] (by kernel_rfl) (by kernel_rfl) (by rfl) ?_
      (repeat first|refine Wk.go ?_|refine qal ?_|intro _)
      exact fin ⟨by rw [← hbad (.inl q1)], rfl⟩
    have : Is (decide (z < 0)) false := ⟨by simp; omega⟩
    by_cases q2 : z ≥ (pats.length : Int)
    · have : Is (decide (z ≥ (pats.length : Int))) true := ⟨by simpa using q2⟩
      (repeat first|refine Wk.go ?_|refine qal ?_|intro _)
      refine qbo [0, 1, 2, 3, 4, 5, 6, 7, 8, 9, 10, 11, 12, 13, 14, 15, 16, 17, 18, 19, 20, 21, 22, 23, 24, 25, 26, 27] [0, 1, 0, 7, 15, 31, 63, 127, 255, 127, 1023, 2047, 127, 4223, 16383, 32767, 65535, 131071, 262143, 131071, 1048575, 131071, 2228223, 131071, 14811135, 31588351, 67108863, 134217727] (by kernel_rfl) (by kernel_rfl) (by rfl) ?_
      (repeat first|refine Wk.go ?_|refine qal ?_|intro _)
      exact fin ⟨by rw [← hbad (.inr (.inl q2))], rfl⟩
    have : Is (decide (z ≥ (pats.length : Int))) false := ⟨by simp; omega⟩
    (repeat first|refine Wk.go ?_|refine qal ?_|intro _)
    refine qbo [0, 1, 2, 3, 4, 5, 6, 7, 8, 9, 10, 11, 12, 13, 14, 15, 16, 17, 18, 19, 20, 21, 22, 23, 24, 25, 26, 27] [0, 1, 0, 7, 15, 31, 63, 127, 255, 127, 1023, 2047, 127, 4223, 16383, 32767, 65535, 131071, 262143, 131071, 1048575, 131071, 2228223, 131071, 14811135, 31588351, 67108863, 134217727] (by kernel_rfl) (by kernel_rfl) (by rfl) ?_
    (repeat first|refine Wk.go ?_|refine qal ?_|intro _)
    refine qad (inR_w S (l := (order.drop 0).take (i - 0)) z (by simp; omega) (by simp; omega)) ?_
    rintro _ _ ⟨rfl, rfl⟩
    have he : (order.drop 0).take (i - 0) = order.take i := by simp
    rw [he]
    by_cases q3 : z ∈ order.take i
    · have : Is (decide (z ∈ order.take i)) true := ⟨by simpa using q3⟩
      (repeat first|refine Wk.go ?_|refine qal ?_|intro _)
      exact fin ⟨by rw [← hbad (.inr (.inr q3))], rfl⟩
    have : Is (decide (z ∈ order.take i)) false := ⟨by simpa using q3⟩
    (repeat first|refine Wk.go ?_|refine qal ?_|intro _)
    refine lend (pats.length - (i + 1)) _ (by omega) ⟨rfl, i + 1, rfl, c, inferInstance, fun j hj hji => ?_⟩
    by_cases e : j = i
    · subst e
      rw [hz]
      exact ⟨by omega, by omega, q3⟩
    · exact hall j hj (by omega)
  have c : i = pats.length := by
    have : ¬ i < pats.length := by simpa using c
    omega
  subst c
  obtain ⟨o, rfl, hor, hol, hp⟩ := whole_good c1 fun j hj => hall j hj (by omega)
  have hrs := right_steps (ops := ops) hp c2
  (repeat first|refine Wk.go ?_|refine qal ?_|intro _)
  refine A_loopR (fun d T => ∃ i, d = pats.length - i ∧ i ≤ pats.length ∧ Lk T 6 (.int .i64 (i : Nat)) ∧ ∀ j, j < i → stepOk pats o ops j = true) [1, 2] pats.length (by omega) ⟨0, rfl, Nat.zero_le _, lkz (by rfl), fun j hj => by omega⟩ (by rfl) ?_
  rintro d T2 ⟨i, rfl, hi, h6, hall⟩ hA2
  (repeat first|refine Wk.go ?_|refine qal ?_|intro _)
  refine ⟨fun c => ?_, fun c => ?_⟩
  · have c : i < pats.length := by simpa using c
    have hj : o[i]? = some (o[i]'(by omega)) := List.getElem?_eq_getElem _
    have hjl : o[i]'(by omega) < pats.length := hor _ (List.getElem_mem _)
    generalize o[i]'(by omega) = j at *
    have hpj : pats[j]? = some pats[j] := List.getElem?_eq_getElem hjl
    generalize pats[j] = p at *
    have hq : ops[i]? = some (ops[i]'(by omega)) := List.getElem?_eq_getElem _
    generalize ops[i]'(by omega) = op at *
    have := zs_at hj
    have := ElAt.mk hpj
    have := ElAt.mk hq
    have hse := step_eq hj hq hpj
    rw [← vars_ahead pats o (by omega) (by simpa using hor) p] at hse
    have htl : (o.take i).length = i := by rw [List.length_take]; omega
    have hal := qcs pats o i
    have hvl := qbe (qbk pats o i)
    (repeat first|refine Wk.go ?_|refine qal ?_|intro _)
    refine qbo [0, 1, 2, 3, 4, 5, 6, 7, 8, 9, 10, 11, 12, 13, 14, 15, 16, 17, 18, 19] [0, 0, 2, 0, 14, 30, 63, 127, 0, 0, 512, 0, 3584, 7936, 16383, 32767, 65535, 65535, 131071, 524287] (by kernel_rfl) (by kernel_rfl) (by rfl) ?_
    (repeat first|refine Wk.go ?_|refine qal ?_|intro _)
    refine qad (knownR_w (hr := hasrows_zs (by omega)) S (pats := pats) (order := o.take i) (by omega) (by omega) fun k hk => hor k (List.mem_of_mem_take hk)) ?_
    rintro r _ rfl
    rw [ahead_take]
    (repeat first|refine Wk.go ?_|refine qal ?_|intro _)
    refine qad (partsR_w S (l := qbu (qbk pats o i)) p (by omega) (by omega)) ?_
    rintro _ _ ⟨a, b, rfl, rfl⟩
    (repeat first|refine Wk.go ?_|refine qal ?_|intro _)
    refine qad (mayR_w S op (qa1 (qbu (qbk pats o i)) p).length (by omega)) ?_
    rintro _ _ ⟨rfl, rfl⟩
    rw [← hse]
    (repeat first|refine Wk.go ?_|refine qal ?_|intro _)
    refine ⟨fun e => ?_, fun e => ?_⟩
    · have e : stepOk pats o ops i = false := by simpa using e
      have hf : qbf pats (zs o) ops = false := by
        rw [hrs]
        cases hq : (List.range pats.length).all (stepOk pats o ops) with
        | false => rfl
        | true => rw [List.all_eq_true.1 hq i (List.mem_range.2 c)] at e; cases e
      (repeat first|refine Wk.go ?_|refine qal ?_|intro _)
      exact fin ⟨by rw [hf]; rfl, rfl⟩
    · have e : stepOk pats o ops i = true := by simpa using e
      (repeat first|refine Wk.go ?_|refine qal ?_|intro _)
      refine lend (pats.length - (i + 1)) _ (by omega) ⟨rfl, i + 1, rfl, c, inferInstance, fun k hk => ?_⟩
      by_cases q : k = i
      · rw [q]; exact e
      · exact hall k (by omega)
  · have c : i = pats.length := by
      have : ¬ i < pats.length := by simpa using c
      omega
    subst c
    have ht : qbf pats (zs o) ops = true := by
      rw [hrs]
      exact List.all_eq_true.2 fun k hk => hall k (List.mem_range.1 hk)
    (repeat first|refine Wk.go ?_|refine qal ?_|intro _)
    exact fin ⟨by rw [ht]; rfl, rfl⟩
end
end Go.Am
namespace Go.Am
open Go Go.Proofs AM
set_option maxRecDepth 10000
set_option synthInstance.maxHeartbeats 400000
set_option synthInstance.maxSize 4000
set_option linter.unusedVariables false
variable {pol : Pol} {sums : Sums}
class OneV (v : AV) : Prop where eq : one v = true
structure SRec where
  place : Int
  op : Int
  p : Ptn
  sv : AV
  fv : AV
  hs : one sv = true
  hf : one fv = true
abbrev srecC (r : SRec) : List AV := stepL r.place r.op r.p r.sv r.fv
instance : FL srecC 19 := ⟨fun _ => rfl⟩
instance : FOne srecC := ⟨fun x => by simp [ones, x.hs, x.hf, show ∀ k c, one (.int k c) = true from fun _ _ => rfl, show ∀ s, one (.str s) = true from fun _ => rfl]⟩
instance enc_step {place op : Int} {p : Ptn} {sv fv : AV} [a : OneV sv] [b : OneV fv] : Enc (stepL place op p sv fv) srecC ⟨place, op, p, sv, fv, a.eq, b.eq⟩ := ⟨rfl⟩
theorem know_one {h0 : Hp} {X : List Nat} {W L : List Ck} {P : Program} {call : qa6} {fn nt fuel : Nat} {T : qag} {Q : Exit × qag → Hp → Prop} {c : Code} {α : Type} {f : α → List AV} {sz : Nat} {l : List α} (v : AV) [r : HasRows L W v f sz l] (g : OneV v → ACo ⟨h0, X, W⟩ L P pol call fn nt fuel c T Q) : ACo ⟨h0, X, W⟩ L P pol call fn nt fuel c T Q :=
  fun h s => g ⟨(r.has h s.all).one⟩ h s
theorem fresh_congr {l m : List Str} (h : ∀ t, t ∈ l ↔ t ∈ m) (p : Ptn) : fresh l p = fresh m p := List.filter_congr fun t _ => by simp [h t]
theorem fresh_ahead (pats : List Ptn) (order : List Nat) {i : Nat} (hi : i ≤ order.length) (hor : ∀ j ∈ order, j < pats.length) (p : Ptn) : fresh (qbu (qbk pats order i)) p = fresh (qaq pats order i) p :=
  fresh_congr (fun t => by rw [mem_vars, (known_all pats order i hi hor).2]) p
/-- what the document's steps are -/
def StepsAre (pats : List Ptn) (o : List Nat) (ops : List Int) (D : List Ck) (recs : List SRec) : Prop := ∀ k rec, recs[k]? = some rec → ∃ (j : Nat) (p : Ptn) (op : Int), o[k]? = some j ∧ pats[j]? = some p ∧ ops[k]? = some op ∧ rec.place = (j : Int) ∧ rec.op = op ∧ rec.p = p ∧ HasRows D [] rec.sv strC 1 (qa1 (qaq pats o k) p) ∧ HasRows D [] rec.fv strC 1 (fresh (qaq pats o k) p)
section
attribute [local irreducible] ACo AK AT qa3 ARs Fin Cal KLp KFun
theorem stepsBad_w (S : S27' pol sums) {n : Nat} {W : List Ck} {ov qv pv : AV} {order ops : List Int} {pats : List Ptn} [HasRows [] W ov qbd 1 order] [HasRows [] W qv qbd 1 ops] [HasRows [] W pv qcd 15 pats] (hn : 4 * pats.length + 61 ≤ n) (hb : pats.length < 2 ^ 28) (hr : qbf pats order ops = false) :
    Cal [] W (qat Try.prog pol sums n (.func (.func 38) [] []) [.agg [ov, qv], pv]) (fun r N => r = .sl .nil 0 [] ∧ N = []) := by
  refine qbh (f := 38) (nt := 59) (rs := [.tmp 4]) (by omega) (by first | assumption | exact S.rest _ (by decide)) Try.func38 rfl rfl rfl rfl fun m h0 T hm aT => ?_
  (repeat first|refine Wk.go ?_|refine qal ?_|intro _)
  refine qad (rightR_w S (order := order) (ops := ops) (pats := pats) (by omega) hb) ?_
  rintro _ _ ⟨rfl, rfl⟩
  rw [hr, show (if false = true then (0 : Int) else 18) = 18 from rfl]
  (repeat first|refine Wk.go ?_|refine qal ?_|intro _)
  refine condT (by rfl) ?_
  (repeat first|refine Wk.go ?_|refine qal ?_|intro _)
  exact fin ⟨rfl, rfl⟩
theorem stepsR_w (S : S27' pol sums) {n : Nat} {W : List Ck} {ov qv pv : AV} {o : List Nat} {ops : List Int} {pats : List Ptn} [HasRows [] W ov qbd 1 (zs o)] [HasRows [] W qv qbd 1 ops] [HasRows [] W pv qcd 15 pats] (hn : 4 * pats.length + 61 ≤ n) (hb : pats.length < 2 ^ 28) (hr : qbf pats (zs o) ops = true) (hor : ∀ i ∈ o, i < pats.length) (hol : o.length = pats.length) (hop : ops.length = pats.length) :
    Cal [] W (qat Try.prog pol sums n (.func (.func 38) [] []) [.agg [ov, qv], pv]) (fun r N => ∃ recs D, N = .rows srecC 19 r recs :: D ∧ recs.length = pats.length ∧ StepsAre pats o ops D recs) := by
  refine qbh (f := 38) (nt := 59) (rs := [.tmp 4]) (by omega) (by first | assumption | exact S.rest _ (by decide)) Try.func38 rfl rfl rfl rfl fun m h0 T hm aT => ?_
  (repeat first|refine Wk.go ?_|refine qal ?_|intro _)
  refine qad (rightR_w S (order := zs o) (ops := ops) (pats := pats) (by omega) hb) ?_
  rintro _ _ ⟨rfl, rfl⟩
  rw [hr, show (if true = true then (0 : Int) else 18) = 0 from rfl]
  (repeat first|refine Wk.go ?_|refine qal ?_|intro _)
  rename_i i2
  refine condF (by rfl) ?_
  (repeat first|refine Wk.go ?_|refine qal ?_|intro _)
  refine qc2 srecC 19 (.sl .nil 0 []) ?_
  refine A_loop (fun d L T => ∃ i v recs D, d = pats.length - i ∧ i ≤ pats.length ∧ Lk T 6 (.int .i64 (i : Nat)) ∧ Lk T 5 v ∧ L = .rows srecC 19 v recs :: .row i2 0 2 [ov, qv] true :: D ∧ recs.length = i ∧ StepsAre pats o ops D recs)
    [1, 2, 4] pats.length (by omega) ⟨0, _, [], [], rfl, Nat.zero_le _, lkz (by rfl), inferInstance, rfl, rfl, fun k rec h => by cases h⟩ (by rfl) ?_
  rintro d L T1 ⟨i, v, recs, D, rfl, hi, h6, h5, rfl, hrl, hall⟩ hA
  (repeat first|refine Wk.go ?_|refine qal ?_|intro _)
  refine ⟨fun c => ?_, fun c => ?_⟩
  · have c : i < pats.length := by simpa using c
    have hj : o[i]? = some (o[i]'(by omega)) := List.getElem?_eq_getElem _
    have hjl : o[i]'(by omega) < pats.length := hor _ (List.getElem_mem _)
    generalize o[i]'(by omega) = j at *
    have hpj : pats[j]? = some pats[j] := List.getElem?_eq_getElem hjl
    generalize pats[j] = p at *
    have hq : ops[i]? = some (ops[i]'(by omega)) := List.getElem?_eq_getElem _
    generalize ops[i]'(by omega) = op at *
    have := zs_at hj
    have := ElAt.mk hpj
    have := ElAt.mk hq
    have htl : (o.take i).length = i := by rw [List.length_take]; omega
    have hal := qcs pats o i
    have hvl := qbe (qbk pats o i)
    (repeat first|refine Wk.go ?_|refine qal ?_|intro _)
    refine qbo [0, 1, 2, 3, 4, 5, 6, 7, 8, 9, 10, 11, 12] [0, 0, 0, 4, 0, 28, 62, 127, 255, 511, 511, 1023, 4095] (by kernel_rfl) (by kernel_rfl) (by rfl) ?_
    (repeat first|refine Wk.go ?_|refine qal ?_|intro _)
    refine qad (knownR_w (hr := hasrows_zs (by omega)) S (pats := pats) (order := o.take i) (by omega) (by omega) fun k hk => hor k (List.mem_of_mem_take hk)) ?_
    rintro r _ rfl
    rw [ahead_take]
    (repeat first|refine Wk.go ?_|refine qal ?_|intro _)
    refine qad (partsR_w S (l := qbu (qbk pats o i)) p (by omega) (by omega)) ?_
    rintro _ _ ⟨a, b, rfl, rfl⟩
    rw [vars_ahead pats o (by omega) hor p, fresh_ahead pats o (by omega) hor p]
    (repeat first|refine Wk.go ?_|refine qal ?_|intro _)
    refine know_one a fun _ => know_one b fun _ => ?_
    refine qbo [0, 1, 2, 3, 4, 5, 6, 7, 8, 9, 10, 11, 12, 13, 14, 15] [0, 1, 0, 7, 15, 0, 32, 0, 224, 480, 0, 0, 0, 8191, 0, 32767] (by kernel_rfl) (by kernel_rfl) (by rfl) ?_
    (repeat first|refine Wk.go ?_|refine qal ?_|intro _)
    rename_i v2
    refine lend (pats.length - (i + 1)) (.rows srecC 19 v2 (recs ++ [⟨(j : Int), op, p, a, b, OneV.eq, OneV.eq⟩]) :: .row i2 0 2 [ov, qv] true :: .rows strC 1 a (qa1 (qaq pats o i) p) :: .rows strC 1 b (fresh (qaq pats o i) p) :: D) (by omega) ⟨i + 1, v2, _, _, rfl, c, inferInstance, inferInstance, rfl, by simp [hrl], fun k rec hk => ?_⟩
    by_cases q : k < recs.length
    · rw [List.getElem?_append_left q] at hk
      obtain ⟨j', p', op', e1, e2, e3, e4, e5, e6, e7, e8⟩ := hall k rec hk
      exact ⟨j', p', op', e1, e2, e3, e4, e5, e6, inferInstance, inferInstance⟩
    · rw [List.getElem?_append_right (by omega)] at hk
      have : k = i := by
        have := (List.getElem?_eq_some_iff.1 hk).1
        simp at this
        omega
      subst this
      rw [hrl, Nat.sub_self] at hk
      cases hk
      exact ⟨j, p, op, hj, hpj, hq, rfl, rfl, rfl, inferInstance, inferInstance⟩
  · have c : i = pats.length := by
      have : ¬ i < pats.length := by simpa using c
      omega
    (repeat first|refine Wk.go ?_|refine qal ?_|intro _)
    exact fin ⟨recs, D, rfl, by omega, hall⟩
end
end Go.Am
namespace Go.Am
open Go Go.Proofs AM
set_option maxRecDepth 10000
set_option synthInstance.maxHeartbeats 400000
set_option synthInstance.maxSize 4000
set_option linter.unusedVariables false
variable {pol : Pol} {sums : Sums}
theorem turnK_ref (turn : Int) {len : Nat} (h : 0 < len) : (qct turn len : Int) = if turn.tmod len < 0 then turn.tmod len + len else turn.tmod len := by
  rw [← turnK_eq turn h]
  have h0 : -(len : Int) < turn.tmod len := Int.lt_tmod_of_pos _ (by omega)
  have h1 : turn.tmod len < len := Int.tmod_lt_of_pos _ (by omega)
  generalize turn.tmod len = z at *
  split
  · rw [Int.tmod_eq_of_lt (by omega) (by omega)]
  · rw [Int.tmod_eq_emod_of_nonneg (by omega), Int.add_emod_right, Int.emod_eq_of_lt (by omega) (by omega)]
theorem rot_zs (o : List Nat) (k : Nat) : ((zs o).drop k).take ((zs o).length - k) ++ ((zs o).drop 0).take (k - 0) = zs (rot o k) := by
  rw [List.take_of_length_le (by simp)]
  simp [zs, rot]
def turnL (pats : List Ptn) (turn : Int) (o : List Nat) (i : Nat) : List Int := (List.range i).map (opAt pats turn o)
theorem turnL_succ (pats : List Ptn) (turn : Int) (o : List Nat) (i : Nat) : turnL pats turn o (i + 1) = turnL pats turn o i ++ [opAt pats turn o i] := by simp [turnL, List.range_succ]
theorem turnL_all (pats : List Ptn) (turn : Int) (o : List Nat) : turnL pats turn o o.length = qb1 pats turn o o.length := by
  unfold turnL qb1
  refine List.map_congr_left fun j hj => ?_
  rw [if_pos (List.mem_range.1 hj)]
section
attribute [local irreducible] ACo AK AT qa3 ARs Fin Cal KLp KFun
theorem turnedBad_w (S : S27' pol sums) {n : Nat} {W : List Ck} {ov qv pv : AV} {order ops : List Int} {pats : List Ptn} (turn : Int) [HasRows [] W ov qbd 1 order] [HasRows [] W qv qbd 1 ops] [HasRows [] W pv qcd 15 pats] (hn : 4 * pats.length + 61 ≤ n) (hb : pats.length < 2 ^ 28) (hr : qbf pats order ops = false) :
    Cal [] W (qat Try.prog pol sums n (.func (.func 37) [] []) [.agg [ov, qv], .int .i64 turn, pv]) (fun r N => r = .agg [ov, qv] ∧ N = []) := by
  refine qbh (f := 37) (nt := 91) (rs := [.cell 6 83]) (by omega) (by first | assumption | exact S.rest _ (by decide)) Try.func37 rfl rfl rfl rfl fun m h0 T hm aT => ?_
  (repeat first|refine Wk.go ?_|refine qal ?_|intro _)
  refine qad (rightR_w S (order := order) (ops := ops) (pats := pats) (by omega) hb) ?_
  rintro _ _ ⟨rfl, rfl⟩
  rw [hr, show (if false = true then (0 : Int) else 18) = 18 from rfl]
  (repeat first|refine Wk.go ?_|refine qal ?_|intro _)
  refine condT (by rfl) ?_
  (repeat first|refine Wk.go ?_|refine qal ?_|intro _)
  exact fin ⟨rfl, rfl⟩
theorem turnedNil_w (S : S27' pol sums) {n : Nat} {W : List Ck} {ov qv pv : AV} (turn : Int) [HasRows [] W ov qbd 1 (zs [])] [HasRows [] W qv qbd 1 ([] : List Int)] [HasRows [] W pv qcd 15 ([] : List Ptn)] (hn : 61 ≤ n) :
    Cal [] W (qat Try.prog pol sums n (.func (.func 37) [] []) [.agg [ov, qv], .int .i64 turn, pv]) (fun r N => r = .agg [.sl .nil 0 [], .sl .nil 0 []] ∧ N = []) := by
  refine qbh (f := 37) (nt := 91) (rs := [.cell 6 83]) (by omega) (by first | assumption | exact S.rest _ (by decide)) Try.func37 rfl rfl rfl rfl fun m h0 T hm aT => ?_
  (repeat first|refine Wk.go ?_|refine qal ?_|intro _)
  refine qad (rightR_w S (order := zs []) (ops := []) (pats := []) (by simp; omega) (by simp)) ?_
  rintro _ _ ⟨rfl, rfl⟩
  rw [show qbf [] (zs []) [] = true from rfl, show (if true = true then (0 : Int) else 18) = 0 from rfl]
  (repeat first|refine Wk.go ?_|refine qal ?_|intro _)
  refine condF (by rfl) ?_
  (repeat first|refine Wk.go ?_|refine qal ?_|intro _)
  refine condT (by rfl) ?_
  (repeat first|refine Wk.go ?_|refine qal ?_|intro _)
  exact fin ⟨rfl, rfl⟩
theorem turnedR_w (S : S27' pol sums) {n : Nat} {W : List Ck} {ov qv pv : AV} {o : List Nat} {ops : List Int} {pats : List Ptn} (turn : Int) [HasRows [] W ov qbd 1 (zs o)] [HasRows [] W qv qbd 1 ops] [HasRows [] W pv qcd 15 pats] (hn : 4 * pats.length + 61 ≤ n) (hb : pats.length < 2 ^ 28) (hr : qbf pats (zs o) ops = true) (hor : ∀ i ∈ o, i < pats.length) (hol : o.length = pats.length) (hne : 0 < pats.length) :
    Cal [] W (qat Try.prog pol sums n (.func (.func 37) [] []) [.agg [ov, qv], .int .i64 turn, pv]) (fun r N => ∃ ov' qv', r = .agg [ov', qv'] ∧ N = [.rows qbd 1 ov' (zs (rot o (qct turn pats.length))), .rows qbd 1 qv' (qb1 pats turn (rot o (qct turn pats.length)) pats.length)]) := by
  have hk := turnK_lt turn hne
  have hkr := turnK_ref turn hne
  have ht0 : -(pats.length : Int) < turn.tmod pats.length := Int.lt_tmod_of_pos _ (by omega)
  have ht1 : turn.tmod pats.length < pats.length := Int.tmod_lt_of_pos _ (by omega)
  have hz : (zs o).length = pats.length := by rw [qa7, hol]
  have hrl := rot_length o (qct turn pats.length) (by omega)
  have hro := rot_zs o (qct turn pats.length)
  have hor' : ∀ i ∈ rot o (qct turn pats.length), i < pats.length := fun i hi => hor i ((rot_perm o _).mem_iff.1 hi)
  refine qbh (f := 37) (nt := 91) (rs := [.cell 6 83]) (by omega) (by first | assumption | exact S.rest _ (by decide)) Try.func37 rfl rfl rfl rfl fun m h0 T hm aT => ?_
  (repeat first|refine Wk.go ?_|refine qal ?_|intro _)
  refine qad (rightR_w S (order := zs o) (ops := ops) (pats := pats) (by omega) hb) ?_
  rintro _ _ ⟨rfl, rfl⟩
  rw [hr, show (if true = true then (0 : Int) else 18) = 0 from rfl]
  (repeat first|refine Wk.go ?_|refine qal ?_|intro _)
  rename_i i3 i6
  refine condF (by rfl) ?_
  have : Is ((pats.length : Int) == 0) false := ⟨by simp; intro e; rw [e] at hne; cases hne⟩
  generalize hkk : qct turn pats.length = k at *
  generalize hoo : rot o k = o' at *
  have hz2 : (zs o').length = pats.length := by rw [qa7, hrl, hol]
  have hen : turnL pats turn o' pats.length = qb1 pats turn o' pats.length := by
    have := turnL_all pats turn o'
    rw [hrl, hol] at this
    exact this
  have tl : ∀ i, (turnL pats turn o' i).length = i := fun i => by simp [turnL]
  by_cases q : turn.tmod pats.length < 0
  have : Is (decide (turn.tmod pats.length < 0)) true := ⟨by simpa using q⟩
  rw [if_pos q] at hkr
  (repeat first|refine Wk.go ?_|refine qal ?_|intro _)
  rw [← hkr]
  rotate_left
  have : Is (decide (turn.tmod pats.length < 0)) false := ⟨by simpa using q⟩
  rw [if_neg q] at hkr
  (repeat first|refine Wk.go ?_|refine qal ?_|intro _)
  rw [← hkr]
  all_goals
    refine qbo [1, 2, 3, 4, 6, 7, 8, 9, 0, 5, 10, 11, 12, 13] [0, 0, 2, 0, 14, 31, 0, 64, 0, 448, 1023, 2047, 0, 8191] (by kernel_rfl) (by kernel_rfl) (by rfl) ?_
    (repeat first|refine Wk.go ?_|refine qal ?_|intro _)
    rename_i v8 i8
    rw [hro]
    refine qc2 qbd 1 (.sl .nil 0 []) ?_
    refine A_loopS (fun d L T => ∃ i qv' xs, d = pats.length - i ∧ i ≤ pats.length ∧ Lk T 9 (.int .i64 (i : Nat)) ∧ L = [.row i8 0 2 [v8, qv'] true, .rows qbd 1 v8 (zs o'), .rows qbd 1 qv' xs, .row i6 0 2 [.sl .nil 0 [], .sl .nil 0 []] true] ∧ xs = turnL pats turn o' i)
      [1, 2, 6, 8] pats.length (by omega) ⟨0, .sl .nil 0 [], [], rfl, Nat.zero_le _, lkz (by rfl), rfl, rfl⟩ (by rfl) ?_
    rintro d L T1 ⟨i, qv', xs, rfl, hi, h9, rfl, hxs⟩ hA
    have tli : xs.length = i := by rw [hxs]; exact tl i
    (repeat first|refine Wk.go ?_|refine qal ?_|intro _)
    refine ⟨fun c => ?_, fun c => ?_⟩
    · have c : i < pats.length := by simpa using c
      have hj : o'[i]? = some (o'[i]'(by omega)) := List.getElem?_eq_getElem _
      have hjl : o'[i]'(by omega) < pats.length := hor' _ (List.getElem_mem _)
      generalize o'[i]'(by omega) = j at *
      have hpj : pats[j]? = some pats[j] := List.getElem?_eq_getElem hjl
      generalize pats[j] = p at *
      have := zs_at hj
      have := ElAt.mk hpj
      have htl : (o'.take i).length = i := by rw [List.length_take]; omega
      have hal := qcs pats o' i
      have hvl := qbe (qbk pats o' i)
      have hoa : opAt pats turn o' i = turnOp turn (qa1 (qaq pats o' i) p).length := by simp [opAt, hj, hpj]
      (repeat first|refine Wk.go ?_|refine qal ?_|intro _)
      refine qbo [0, 1, 2, 3, 4, 5, 6, 7, 8, 9, 10, 11, 12, 13, 14, 15, 16, 17, 18, 19] [0, 0, 2, 0, 14, 30, 63, 127, 0, 0, 512, 0, 3584, 7936, 16383, 32767, 65535, 65535, 131071, 524287] (by kernel_rfl) (by kernel_rfl) (by rfl) ?_
      (repeat first|refine Wk.go ?_|refine qal ?_|intro _)
      refine qad (knownR_w (hr := hasrows_zs (by omega)) S (pats := pats) (order := o'.take i) (by omega) (by omega) fun k hk => hor' k (List.mem_of_mem_take hk)) ?_
      rintro r _ rfl
      rw [ahead_take]
      (repeat first|refine Wk.go ?_|refine qal ?_|intro _)
      refine qad (partsR_w S (l := qbu (qbk pats o' i)) p (by omega) (by omega)) ?_
      rintro _ _ ⟨a, b, rfl, rfl⟩
      rw [vars_ahead pats o' (by omega) hor' p]
      generalize hsh : qa1 (qaq pats o' i) p = sh at *
      have key : ((turn.tmod 2 = 0 ∨ sh.length = 0) ∧ opAt pats turn o' i = 1) ∨ (turn.tmod 2 ≠ 0 ∧ sh.length = 1 ∧ opAt pats turn o' i = 3) ∨ (turn.tmod 2 ≠ 0 ∧ sh.length > 1 ∧ opAt pats turn o' i = 2) := by
        rw [hoa]
        unfold turnOp
        split
        · exact .inl ⟨by assumption, rfl⟩
        · split
          · exact .inr (.inl ⟨by omega, by assumption, rfl⟩)
          · exact .inr (.inr ⟨by omega, by omega, rfl⟩)
      have he := turnL_succ pats turn o' i
      rcases key with ⟨k1, k2⟩ | ⟨k1, k2, k3⟩ | ⟨k1, k2, k3⟩
      · rw [k2] at he
        by_cases k0 : turn.tmod 2 = 0
        · have : Is (turn.tmod 2 != 0) false := ⟨by simp [k0]⟩
          (repeat first|refine Wk.go ?_|refine qal ?_|intro _)
          rename_i v9
          exact lend (pats.length - (i + 1)) _ (by omega) ⟨i + 1, v9, xs ++ [1], rfl, c, inferInstance, rfl, by rw [hxs, he]⟩
        · have k1 := k1.resolve_left k0
          have : Is (turn.tmod 2 != 0) true := ⟨by simp [k0]⟩
          have : Is ((sh.length : Int) == 1) false := ⟨by simp; omega⟩
          have : Is (decide ((sh.length : Int) > 1)) false := ⟨by simp; omega⟩
          (repeat first|refine Wk.go ?_|refine qal ?_|intro _)
          rename_i v9
          exact lend (pats.length - (i + 1)) _ (by omega) ⟨i + 1, v9, xs ++ [1], rfl, c, inferInstance, rfl, by rw [hxs, he]⟩
      · rw [k3] at he
        have : Is (turn.tmod 2 != 0) true := ⟨by simp [k1]⟩
        have : Is ((sh.length : Int) == 1) true := ⟨by simp; omega⟩
        have : Is (decide ((sh.length : Int) > 1)) false := ⟨by simp; omega⟩
        (repeat first|refine Wk.go ?_|refine qal ?_|intro _)
        rename_i v9
        exact lend (pats.length - (i + 1)) _ (by omega) ⟨i + 1, v9, xs ++ [3], rfl, c, inferInstance, rfl, by rw [hxs, he]⟩
      · rw [k3] at he
        have : Is (turn.tmod 2 != 0) true := ⟨by simp [k1]⟩
        have : Is ((sh.length : Int) == 1) false := ⟨by simp; omega⟩
        have : Is (decide ((sh.length : Int) > 1)) true := ⟨by simp; omega⟩
        (repeat first|refine Wk.go ?_|refine qal ?_|intro _)
        rename_i v9
        exact lend (pats.length - (i + 1)) _ (by omega) ⟨i + 1, v9, xs ++ [2], rfl, c, inferInstance, rfl, by rw [hxs, he]⟩
    · have c : i = pats.length := by
        have : ¬ i < pats.length := by simpa using c
        omega
      subst c
      rw [hxs, hen]
      (repeat first|refine Wk.go ?_|refine qal ?_|intro _)
      exact fin ⟨_, _, rfl, rfl⟩
end
end Go.Am
namespace Go.Am
open Go Go.Proofs AM
set_option maxRecDepth 10000
set_option synthInstance.maxHeartbeats 400000
set_option synthInstance.maxSize 4000
set_option linter.unusedVariables false
variable {pol : Pol} {sums : Sums}
def I64 (z : Int) : Prop := -9223372036854775808 ≤ z ∧ z < 9223372036854775808
theorem wrap_id {z : Int} (h : I64 z) : IntKind.wrap .i64 z = z := wrap64 rfl h
theorem tdiv_step {a b : Int} (ha : 1 ≤ a) (hb : 1 ≤ b) : (a.tmod b = 0 → a.tdiv b = (a - 1).tdiv b + 1) ∧ (a.tmod b ≠ 0 → a.tdiv b = (a - 1).tdiv b) := by
  rw [Int.tmod_eq_emod_of_nonneg (by omega), Int.tdiv_eq_ediv_of_nonneg (by omega), Int.tdiv_eq_ediv_of_nonneg (by omega)]
  have h1 := Int.emod_add_mul_ediv a b
  have h2 := Int.emod_nonneg a (show b ≠ 0 by omega)
  have h3 := Int.emod_lt_of_pos a (show 0 < b by omega)
  constructor
  · intro h
    have := (Int.ediv_emod_unique (a := a - 1) (b := b) (r := b - 1) (q := a / b - 1) (by omega)).2 ⟨by rw [Int.mul_sub]; omega, by omega, by omega⟩
    omega
  · intro h
    have := (Int.ediv_emod_unique (a := a - 1) (b := b) (r := a % b - 1) (q := a / b) (by omega)).2 ⟨by omega, by omega, by omega⟩
    omega
theorem tdiv_le {a b : Int} (ha : 0 ≤ a) (hb : 1 ≤ b) : 0 ≤ a.tdiv b ∧ a.tdiv b ≤ a := by
  rw [Int.tdiv_eq_ediv_of_nonneg ha]
  exact ⟨Int.ediv_nonneg ha (by omega), Int.ediv_le_self _ ha⟩
theorem partZ_eq {a : Int} (b : Int) (h : I64 a) : partZ a b = if a < 1 then 0 else (a - 1).tdiv (if 1 > b then 1 else b) + 1 := by
  unfold partZ
  split
  · rfl
  · unfold I64 at h
    have hb : 1 ≤ (if 1 > b then 1 else b) := by split <;> omega
    generalize (if 1 > b then (1 : Int) else b) = c at *
    rw [wrap_id (z := a - 1) ⟨by omega, by omega⟩]
    have := tdiv_le (a := a - 1) (by omega) hb
    rw [wrap_id (z := (a - 1).tdiv c) ⟨by omega, by omega⟩, wrap_id ⟨by omega, by omega⟩]
theorem partZ_range {a : Int} (b : Int) (h : I64 a) : I64 (partZ a b) := by
  rw [partZ_eq b h]
  split
  · exact ⟨by omega, by omega⟩
  · unfold I64 at *
    have hb : 1 ≤ (if 1 > b then 1 else b) := by split <;> omega
    have := tdiv_le (a := a - 1) (by omega) hb
    omega
/-- numbers that there are -/
def StsOk (x : Sts) : Prop := I64 x.tri ∧ ∀ l ∈ x.lines, I64 l.tri
theorem ofZ_ok {x : Sts} (h : StsOk x) (p : Slt) : I64 (ofZ x p).tri := by
  unfold ofZ
  split
  · exact h.1
  · cases hf : x.lines.find? (fun l => decide (l.term = p.term)) with
    | none => exact ⟨by decide, by decide⟩
    | some l => exact h.2 l (List.mem_of_find?_eq_some hf)
instance : SEq Try.prog 39 trmC where
  eql a b := (abin_struct (by kernel_rfl) (by kernel_rfl) (trm_eqIn a b)).1
  neq a b := (abin_struct (by kernel_rfl) (by kernel_rfl) (trm_eqIn a b)).2
instance enc_trm {t : Trm} : Enc (trmC t) trmC t := ⟨rfl⟩
section
attribute [local irreducible] ACo AK AT qa3 ARs Fin Cal KLp KFun
theorem partR_w (S : S27' pol sums) {n : Nat} {W : List Ck} {a b : Int} (hn : 1 ≤ n) (ha : I64 a) : Cal [] W (qat Try.prog pol sums n (.func (.func 78) [] []) [.int .i64 a, .int .i64 b]) (fun r N => r = .int .i64 (partZ a b) ∧ N = []) := by
  rw [partZ_eq b ha]
  unfold I64 at ha
  have hb : 1 ≤ (if 1 > b then 1 else b) := by split <;> omega
  refine qbh (f := 78) (nt := 22) (rs := [.tmp 4]) (by omega) (by first | assumption | exact S.rest _ (by decide)) Try.func78 rfl rfl rfl rfl fun m h0 T hm aT => ?_
  by_cases c1 : a < 1
  · have : Is (decide (a < 1)) true := ⟨by simpa using c1⟩
    (repeat first|refine Wk.go ?_|refine qal ?_|intro _)
    exact fin ⟨by rw [if_pos c1], rfl⟩
  have : Is (decide (a < 1)) false := ⟨by simp; omega⟩
  rw [if_neg c1]
  generalize hc : (if 1 > b then (1 : Int) else b) = c at *
  have hs := tdiv_step (a := a) (b := c) (by omega) hb
  have hl := tdiv_le (a := a) (b := c) (by omega) hb
  have hw : IntKind.wrap .i64 (a.tdiv c) = a.tdiv c := wrap_id ⟨by omega, by omega⟩
  by_cases c2 : a.tmod c = 0
  · have : Is (a.tmod (if 1 > b then (1 : Int) else b) == 0) true := ⟨by rw [hc]; simpa using c2⟩
    (repeat first|refine Wk.go ?_|refine qal ?_|intro _)
    rw [hc]
    (repeat first|refine Wk.go ?_|refine qal ?_|intro _)
    exact fin ⟨by rw [hw, hs.1 c2], rfl⟩
  · have : Is (a.tmod (if 1 > b then (1 : Int) else b) == 0) false := ⟨by rw [hc]; simpa using c2⟩
    have hr : a.tdiv c < a := by
      rw [hs.2 c2]
      have := tdiv_le (a := a - 1) (b := c) (by omega) hb
      omega
    (repeat first|refine Wk.go ?_|refine qal ?_|intro _)
    rw [hc, hw]
    (repeat first|refine Wk.go ?_|refine qal ?_|intro _)
    exact fin ⟨by rw [hs.2 c2], rfl⟩
theorem toldR_w (S : S27' pol sums) {n : Nat} {W : List Ck} {v : AV} {l : List Str} [HasRows [] W v strC 1 l] (s : Slt) (hn : l.length + 1 < n) (hb : l.length < 2 ^ 60) :
    Cal [] W (qat Try.prog pol sums n (.func (.func 77) [] []) [.agg (sltC s), v]) (fun r N => r = .bool (qcn l s) ∧ N = []) := by
  refine qbh (f := 77) (nt := 22) (rs := [.tmp 4]) (by omega) (by first | assumption | exact S.rest _ (by decide)) Try.func77 rfl rfl rfl rfl fun m h0 T hm aT => ?_
  by_cases c0 : s.var = []
  · have : Is (s.var == []) true := ⟨by simp [c0]⟩
    (repeat first|refine Wk.go ?_|refine qal ?_|intro _)
    exact fin ⟨by simp [qcn, c0], rfl⟩
  have : Is (s.var == []) false := ⟨by simpa using c0⟩
  (repeat first|refine Wk.go ?_|refine qal ?_|intro _)
  rename_i i2
  refine A_loopR (fun k T => ∃ i, k = l.length - i ∧ i ≤ l.length ∧ Lk T 5 (.int .i64 (i : Nat)) ∧ ∀ j, j < i → l[j]? ≠ some s.var) [1, 2] l.length (by omega) ⟨0, rfl, Nat.zero_le _, lkz (by rfl), fun j hj => by omega⟩ (by rfl) ?_
  rintro k T1 ⟨i, rfl, hi, h5, hall⟩ hA
  (repeat first|refine Wk.go ?_|refine qal ?_|intro _)
  refine ⟨fun c => ?_, fun c => ?_⟩
  · have c : i < l.length := by simpa using c
    have : ElAt l i l[i] := ⟨List.getElem?_eq_getElem c⟩
    (repeat first|refine Wk.go ?_|refine qal ?_|intro _)
    refine qbo [0, 1, 2, 3, 4, 5, 6] [0, 0, 3, 7, 0, 16, 63] (by kernel_rfl) (by kernel_rfl) (by rfl) ?_
    by_cases e : l[i] = s.var
    · have : Is (l[i] == s.var) true := ⟨by simpa using e⟩
      (repeat first|refine Wk.go ?_|refine qal ?_|intro _)
      exact fin ⟨by simp [qcn, ← e], rfl⟩
    · have : Is (l[i] == s.var) false := ⟨by simpa using e⟩
      (repeat first|refine Wk.go ?_|refine qal ?_|intro _)
      refine lend (l.length - (i + 1)) _ (by omega) ⟨rfl, i + 1, rfl, c, inferInstance, fun j hj => ?_⟩
      by_cases q : j = i
      · subst q; simp [c, e]
      · exact hall j (by omega)
  · have c : ¬ i < l.length := by simpa using c
    (repeat first|refine Wk.go ?_|refine qal ?_|intro _)
    refine fin ⟨?_, rfl⟩
    have : s.var ∉ l := fun q => by
      obtain ⟨j, hj, e⟩ := List.getElem_of_mem q
      exact hall j (by omega) (by rw [List.getElem?_eq_getElem hj, e])
    simp [qcn, c0, this]
end
end Go.Am
namespace Go.Am
open Go Go.Proofs AM
set_option maxRecDepth 10000
set_option synthInstance.maxHeartbeats 400000
set_option synthInstance.maxSize 4000
set_option linter.unusedVariables false
variable {pol : Pol} {sums : Sums}
theorem find_first (l : List Lin) (q : Lin → Bool) {i : Nat} (hi : i < l.length) : (l.drop i).find? q = if q l[i] then some l[i] else (l.drop (i + 1)).find? q := by
  rw [List.drop_eq_getElem_cons hi, List.find?_cons]
  split <;> simp_all
section
attribute [local irreducible] ACo AK AT qa3 ARs Fin Cal KLp KFun
instance enc_lin {x : Lin} : Enc (linC x) linC x := ⟨rfl⟩
theorem guessR_w (S : S27' pol sums) {n : Nat} {W : List Ck} {x : Sts} {lv nv : AV} {known : List Str} (p : Ptn) [hlv : HasRows [] W lv linC 7 x.lines] [hnv : HasRows [] W nv strC 1 known] (hx : StsOk x) (hn : x.lines.length + known.length + 10 ≤ n) (hb : x.lines.length < 2 ^ 40) (hb2 : known.length < 2 ^ 40) :
    Cal [] W (qat Try.prog pol sums n (.func (.func 63) [] []) [.agg (stsC x lv), .agg (qcd p), nv]) (fun r N => r = .int .i64 (qb6 x p known) ∧ N = []) := by
  have ho := ofZ_ok hx p.p
  by_cases c0 : p.p.var = []
  · have hof : ofZ x p.p = (x.lines.find? (fun l => decide (l.term = p.p.term))).getD noLin := by unfold ofZ; rw [if_neg (by simpa using c0)]
    have hg : qb6 x p known = (if qcn known p.o then partZ (if qcn known p.s then partZ (ofZ x p.p).tri (ofZ x p.p).sub else (ofZ x p.p).tri) (ofZ x p.p).obj else (if qcn known p.s then partZ (ofZ x p.p).tri (ofZ x p.p).sub else (ofZ x p.p).tri)) := by
      simp only [qb6]
      rw [if_neg (show ¬ (p.p.var ≠ [] ∧ qcn known p.p = true) by simp [c0])]
    rw [hg]
    generalize hl : ofZ x p.p = ln at *
    refine qbh (f := 63) (nt := 78) (rs := [.tmp 6]) (by omega) (by first | assumption | exact S.rest _ (by decide)) Try.func63 rfl rfl rfl rfl fun m h0 T hm aT => ?_
    have : Is (p.p.var == []) true := ⟨by simp [c0]⟩
    have : Is (!(p.p.var == [])) false := ⟨by simp [c0]⟩
    (repeat first|refine Wk.go ?_|refine qal ?_|intro _)
    rename_i i3 i4 i7
    refine A_loopS (fun d L T => ∃ cur, d ≤ x.lines.length ∧ Lk T 8 (.int .i64 ((d : Int) - 1)) ∧ L = [.row i7 0 7 (linC cur) true, .row i4 0 15 (qcd p) true, .row i3 0 5 (stsC x lv) true] ∧ cur = ((x.lines.drop d).find? (fun l => decide (l.term = p.p.term))).getD noLin)
      [2, 3, 4, 6, 7] x.lines.length (by omega) ⟨⟨⟨0, [], [], []⟩, 0, 0, 0⟩, by omega, inferInstance, rfl, by rw [List.drop_length]; rfl⟩ (by rfl) ?_
    rintro d L T1 ⟨cur, hi, h8, rfl, hcur⟩ hA
    match d, hi, h8, hcur with
    | 0, hi, h8, hcur =>
      have h8' : Lk T1 8 (.int .i64 (-1)) := lkz (by simp)
      clear h8
      have : Is (decide ((-1 : Int) ≥ 0)) false := ⟨by decide⟩
      have hcl : cur = ln := by rw [hcur, List.drop_zero, ← hof]
      subst hcl
      (repeat first|refine Wk.go ?_|refine qal ?_|intro _)
      refine qad (toldR_w S (l := known) p.s (by omega) (by omega)) ?_
      rintro _ _ ⟨rfl, rfl⟩
      cases t1 : qcn known p.s
      · (repeat first|refine Wk.go ?_|refine qal ?_|intro _)
        refine qad (toldR_w S (l := known) p.o (by omega) (by omega)) ?_
        rintro _ _ ⟨rfl, rfl⟩
        cases t2 : qcn known p.o
        · (repeat first|refine Wk.go ?_|refine qal ?_|intro _)
          exact fin ⟨by simp, rfl⟩
        · (repeat first|refine Wk.go ?_|refine qal ?_|intro _)
          refine qad (partR_w S (by omega) ho) ?_
          rintro _ _ ⟨rfl, rfl⟩
          (repeat first|refine Wk.go ?_|refine qal ?_|intro _)
          exact fin ⟨by simp, rfl⟩
      · (repeat first|refine Wk.go ?_|refine qal ?_|intro _)
        refine qad (partR_w S (by omega) ho) ?_
        rintro _ _ ⟨rfl, rfl⟩
        (repeat first|refine Wk.go ?_|refine qal ?_|intro _)
        refine qad (toldR_w S (l := known) p.o (by omega) (by omega)) ?_
        rintro _ _ ⟨rfl, rfl⟩
        cases t2 : qcn known p.o
        · (repeat first|refine Wk.go ?_|refine qal ?_|intro _)
          exact fin ⟨by simp, rfl⟩
        · (repeat first|refine Wk.go ?_|refine qal ?_|intro _)
          refine qad (partR_w S (by omega) (partZ_range _ ho)) ?_
          rintro _ _ ⟨rfl, rfl⟩
          (repeat first|refine Wk.go ?_|refine qal ?_|intro _)
          exact fin ⟨by simp, rfl⟩
    | i + 1, hi, h8, hcur =>
      have h8' : Lk T1 8 (.int .i64 (i : Nat)) := lkz (by omega)
      clear h8
      have : Is (decide ((i : Int) ≥ 0)) true := ⟨by simp⟩
      generalize hli : x.lines[i] = li
      have e1 : ElAt x.lines i li := ⟨by rw [List.getElem?_eq_getElem (by omega), hli]⟩
      have hff := find_first x.lines (fun l => decide (l.term = p.p.term)) (i := i) (by omega)
      rw [hli] at hff
      (repeat first|refine Wk.go ?_|refine qal ?_|intro _)
      refine qbo [0, 1, 2, 3, 4, 5, 6, 7, 8, 9] [0, 1, 0, 7, 15, 31, 0, 64, 192, 511] (by kernel_rfl) (by kernel_rfl) (by rfl) ?_
      by_cases e : li.term = p.p.term
      · have : Is (decide (li.term = p.p.term)) true := ⟨by simpa using e⟩
        (repeat first|refine Wk.go ?_|refine qal ?_|intro _)
        exact lend i _ (by omega) ⟨li, by omega, inferInstance, rfl, by rw [hff, if_pos (by simpa using e)]; rfl⟩
      · have : Is (decide (li.term = p.p.term)) false := ⟨by simpa using e⟩
        (repeat first|refine Wk.go ?_|refine qal ?_|intro _)
        exact lend i _ (by omega) ⟨cur, by omega, inferInstance, rfl, by rw [hff, if_neg (by simpa using e)]; exact hcur⟩
  have hof : ofZ x p.p = ⟨noTrm, x.tri, x.sub, x.obj⟩ := by unfold ofZ; rw [if_pos c0]
  have hg : ∀ t1 t2 t3, qcn known p.s = t1 → qcn known p.o = t2 → qcn known p.p = t3 → qb6 x p known = (let n := if t1 then partZ x.tri x.sub else x.tri; let n := if t2 then partZ n x.obj else n; if t3 then partZ n x.pre else n) := by
    rintro _ _ _ rfl rfl rfl
    simp only [qb6, hof]
    cases qcn known p.p <;> simp [c0]
  refine qbh (f := 63) (nt := 78) (rs := [.tmp 6]) (by omega) (by first | assumption | exact S.rest _ (by decide)) Try.func63 rfl rfl rfl rfl fun m h0 T hm aT => ?_
  have : Is (p.p.var == []) false := ⟨by simpa using c0⟩
  have : Is (!(p.p.var == [])) true := ⟨by simpa using c0⟩
  (repeat first|refine Wk.go ?_|refine qal ?_|intro _)
  refine qad (toldR_w S (l := known) p.s (by omega) (by omega)) ?_
  rintro _ _ ⟨rfl, rfl⟩
  cases t1 : qcn known p.s
  · (repeat first|refine Wk.go ?_|refine qal ?_|intro _)
    refine qad (toldR_w S (l := known) p.o (by omega) (by omega)) ?_
    rintro _ _ ⟨rfl, rfl⟩
    cases t2 : qcn known p.o
    · (repeat first|refine Wk.go ?_|refine qal ?_|intro _)
      refine qad (toldR_w S (l := known) p.p (by omega) (by omega)) ?_
      rintro _ _ ⟨rfl, rfl⟩
      cases t3 : qcn known p.p
      · (repeat first|refine Wk.go ?_|refine qal ?_|intro _)
        exact fin ⟨by rw [hg _ _ _ t1 t2 t3]; rfl, rfl⟩
      · (repeat first|refine Wk.go ?_|refine qal ?_|intro _)
        refine qad (partR_w S (by omega) hx.1) ?_
        rintro _ _ ⟨rfl, rfl⟩
        (repeat first|refine Wk.go ?_|refine qal ?_|intro _)
        exact fin ⟨by rw [hg _ _ _ t1 t2 t3]; rfl, rfl⟩
    · (repeat first|refine Wk.go ?_|refine qal ?_|intro _)
      refine qad (partR_w S (by omega) hx.1) ?_
      rintro _ _ ⟨rfl, rfl⟩
      (repeat first|refine Wk.go ?_|refine qal ?_|intro _)
      refine qad (toldR_w S (l := known) p.p (by omega) (by omega)) ?_
      rintro _ _ ⟨rfl, rfl⟩
      cases t3 : qcn known p.p
      · (repeat first|refine Wk.go ?_|refine qal ?_|intro _)
        exact fin ⟨by rw [hg _ _ _ t1 t2 t3]; rfl, rfl⟩
      · (repeat first|refine Wk.go ?_|refine qal ?_|intro _)
        refine qad (partR_w S (by omega) (partZ_range _ hx.1)) ?_
        rintro _ _ ⟨rfl, rfl⟩
        (repeat first|refine Wk.go ?_|refine qal ?_|intro _)
        exact fin ⟨by rw [hg _ _ _ t1 t2 t3]; rfl, rfl⟩
  · (repeat first|refine Wk.go ?_|refine qal ?_|intro _)
    refine qad (partR_w S (by omega) hx.1) ?_
    rintro _ _ ⟨rfl, rfl⟩
    (repeat first|refine Wk.go ?_|refine qal ?_|intro _)
    refine qad (toldR_w S (l := known) p.o (by omega) (by omega)) ?_
    rintro _ _ ⟨rfl, rfl⟩
    cases t2 : qcn known p.o
    · (repeat first|refine Wk.go ?_|refine qal ?_|intro _)
      refine qad (toldR_w S (l := known) p.p (by omega) (by omega)) ?_
      rintro _ _ ⟨rfl, rfl⟩
      cases t3 : qcn known p.p
      · (repeat first|refine Wk.go ?_|refine qal ?_|intro _)
        exact fin ⟨by rw [hg _ _ _ t1 t2 t3]; rfl, rfl⟩
      · (repeat first|refine Wk.go ?_|refine qal ?_|intro _)
        refine qad (partR_w S (by omega) (partZ_range _ hx.1)) ?_
        rintro _ _ ⟨rfl, rfl⟩
        (repeat first|refine Wk.go ?_|refine qal ?_|intro _)
        exact fin ⟨by rw [hg _ _ _ t1 t2 t3]; rfl, rfl⟩
    · (repeat first|refine Wk.go ?_|refine qal ?_|intro _)
      refine qad (partR_w S (by omega) (partZ_range _ hx.1)) ?_
      rintro _ _ ⟨rfl, rfl⟩
      (repeat first|refine Wk.go ?_|refine qal ?_|intro _)
      refine qad (toldR_w S (l := known) p.p (by omega) (by omega)) ?_
      rintro _ _ ⟨rfl, rfl⟩
      cases t3 : qcn known p.p
      · (repeat first|refine Wk.go ?_|refine qal ?_|intro _)
        exact fin ⟨by rw [hg _ _ _ t1 t2 t3]; rfl, rfl⟩
      · (repeat first|refine Wk.go ?_|refine qal ?_|intro _)
        refine qad (partR_w S (by omega) (partZ_range _ (partZ_range _ hx.1))) ?_
        rintro _ _ ⟨rfl, rfl⟩
        (repeat first|refine Wk.go ?_|refine qal ?_|intro _)
        exact fin ⟨by rw [hg _ _ _ t1 t2 t3]; rfl, rfl⟩
end
end Go.Am
namespace Go.Am
open Go Go.Proofs AM
set_option maxRecDepth 10000
set_option linter.unusedVariables false
theorem filter_two (left r : List Nat) (i : Nat) : left.filter (fun j => decide (j ∉ i :: r)) = (left.filter (· ≠ i)).filter (fun j => decide (j ∉ r)) := by
  rw [List.filter_filter]
  refine List.filter_congr fun j _ => ?_
  rw [Bool.eq_iff_iff]
  simp
  exact And.comm
theorem ofLoop_pick (x : Sts) (pats : List Ptn) : ∀ (n : Nat) (known : List Str) (left : List Nat), left.length = n → left.Nodup → (∀ i ∈ left, i < pats.length) →
    ∀ (k j : Nat), (qcm x pats n known left).1[k]? = some j → (j : Int) = pickZ x pats (((qcm x pats n known left).1.take k).foldl (fun k j => match pats[j]? with | some p => learnZ k p | none => k) known) (left.filter fun i => decide (i ∉ (qcm x pats n known left).1.take k))
  | 0, known, left, h, _, _ => fun k j h1 => by
    have : left = [] := List.length_eq_zero_iff.1 h
    subst this
    simp [qcm] at h1
  | n + 1, known, left, h, hn, hp => by
    have hne : left ≠ [] := by rintro rfl; cases h
    obtain ⟨i, hi, hpk⟩ := pickZ_mem (x := x) (pats := pats) (known := known) hne
    have hip := hp i hi
    have hst := ofLoop_step x pats hi hip hpk hp
    rw [h] at hst
    have hpm := filter_nodup hn hi
    have hfl : (left.filter (· ≠ i)).length = n := by have := hpm.length_eq; simp at this ⊢; omega
    rw [hfl] at hst
    have ih := ofLoop_pick x pats n (learnZ known pats[i]) (left.filter (· ≠ i)) hfl (hn.filter _) (fun j hj => hp j (List.mem_filter.1 hj).1)
    rw [hst]
    intro k j h1
    cases k with
    | zero =>
      simp only [List.getElem?_cons_zero, Option.some.injEq] at h1
      subst h1
      show (i : Int) = pickZ x pats known _
      rw [← hpk]
      congr 1
      exact (List.filter_eq_self.2 fun a _ => by simp).symm
    | succ k =>
      simp only [List.getElem?_cons_succ] at h1
      have b := ih k j h1
      rw [List.take_succ_cons, filter_two, List.foldl_cons, List.getElem?_eq_getElem hip]
      exact b
def leftL (pats : List Ptn) (o : List Nat) (k : Nat) : List Nat := (List.range pats.length).filter fun i => decide (i ∉ o.take k)
def nearB (names : List Str) (p : Ptn) : Bool := decide (0 < (qa1 names p).length) || (fresh names p).length == 0
def nearAt (pats : List Ptn) (names : List Str) (i : Nat) : Bool := match pats[i]? with
  | some p => nearB names p
  | none => false
def bestL (pats : List Ptn) (names : List Str) (o : List Nat) (k : Nat) : List Nat := if 0 < k ∧ 0 < ((leftL pats o k).filter (nearAt pats names)).length then (leftL pats o k).filter (nearAt pats names) else leftL pats o k
def gAt (x : Sts) (pats : List Ptn) (names : List Str) (i : Nat) : Int := match pats[i]? with
  | some p => qb6 x p names
  | none => 0
def pickL (g : Nat → Int) (a : Nat) (l : List Nat) : Nat := l.foldl (fun m e => if g e < g m then e else m) a
theorem minZ_pick (x : Sts) (pats : List Ptn) (known : List Str) : ∀ (l : List Nat) (a : Nat), a < pats.length → (∀ e ∈ l, e < pats.length ∧ a < e) → l.Pairwise (· < ·) → minZ (cmpZ x pats known) (a : Int) (zs l) = (pickL (gAt x pats known) a l : Nat)
  | [], a, _, _, _ => rfl
  | e :: l, a, ha, hl, hp => by
    obtain ⟨h1, hp⟩ := List.pairwise_cons.1 hp
    obtain ⟨he, hae⟩ := hl e List.mem_cons_self
    have hc : cmpZ x pats known (e : Int) (a : Int) < 0 ↔ gAt x pats known e < gAt x pats known a := by
      simp only [cmpZ, gAt, Int.toNat_natCast, List.getElem?_eq_getElem ha, List.getElem?_eq_getElem he]
      split
      · rename_i q; rw [q]; omega
      · split <;> omega
    show (zs l).foldl _ (if cmpZ x pats known (e : Int) (a : Int) < 0 then (e : Int) else a) = ((l.foldl _ (if gAt x pats known e < gAt x pats known a then e else a) : Nat) : Int)
    by_cases q : gAt x pats known e < gAt x pats known a
    · rw [if_pos (hc.2 q), if_pos q]
      exact minZ_pick x pats known l e he (fun f hf => ⟨(hl f (List.mem_cons_of_mem _ hf)).1, h1 f hf⟩) hp
    · rw [if_neg (fun c => q (hc.1 c)), if_neg q]
      exact minZ_pick x pats known l a ha (fun f hf => hl f (List.mem_cons_of_mem _ hf)) hp
theorem guess_congr {l m : List Str} (h : ∀ t, t ∈ l ↔ t ∈ m) (x : Sts) (p : Ptn) : qb6 x p l = qb6 x p m := by
  have ht : ∀ s, qcn l s = qcn m s := fun s => by simp [qcn, h]
  simp only [qb6, ht]
theorem plan_step (x : Sts) (pats : List Ptn) {k : Nat} (hk : k < pats.length) : ∃ (a j : Nat) (l : List Nat) (p : Ptn), bestL pats (qbu (qbk pats (qb4 x pats).1 k)) (qb4 x pats).1 k = a :: l ∧ (qb4 x pats).1[k]? = some j ∧ pats[j]? = some p ∧ pickL (gAt x pats (qbu (qbk pats (qb4 x pats).1 k))) a l = j ∧ (qb4 x pats).2[k]? = some (opZ x (qbu (qbk pats (qb4 x pats).1 k)) p) ∧ ∀ e ∈ a :: l, e < pats.length := by
  obtain ⟨hperm, hops, hright⟩ := planZ_ok x pats
  have hpk := ofLoop_pick x pats pats.length [] (List.range pats.length) (by simp) List.nodup_range (fun i hi => List.mem_range.1 hi) k
  have hok := (ofLoop_ok x pats pats.length [] (List.range pats.length) (by simp) List.nodup_range (fun i hi => List.mem_range.1 hi)).2.2 k
  change ∀ j, (qb4 x pats).1[k]? = some j → (j : Int) = pickZ x pats (qaq pats (qb4 x pats).1 k) (leftL pats (qb4 x pats).1 k) at hpk
  change ∀ j op, (qb4 x pats).1[k]? = some j → (qb4 x pats).2[k]? = some op → ∃ p, pats[j]? = some p ∧ op = opZ x (qaq pats (qb4 x pats).1 k) p at hok
  generalize (qb4 x pats).1 = o at *
  generalize (qb4 x pats).2 = q at *
  have hor : ∀ j ∈ o, j < pats.length := fun j hj => List.mem_range.1 (hperm.mem_iff.1 hj)
  have hol : o.length = pats.length := by have := hperm.length_eq; simpa using this
  have hj : o[k]? = some (o[k]'(by omega)) := List.getElem?_eq_getElem _
  have hq : q[k]? = some (q[k]'(by omega)) := List.getElem?_eq_getElem _
  generalize o[k]'(by omega) = j at *
  generalize q[k]'(by omega) = op at *
  obtain ⟨p, hp, rfl⟩ := hok j op hj hq
  have hpk := hpk j hj
  have hkn : ∀ t, t ∈ qaq pats o k ↔ t ∈ qbu (qbk pats o k) := fun t => by rw [mem_vars, (known_all pats o k (by omega) hor).2]
  have hop : opZ x (qaq pats o k) p = opZ x (qbu (qbk pats o k)) p := by simp only [opZ, shared_congr hkn]
  have hg : gAt x pats (qaq pats o k) = gAt x pats (qbu (qbk pats o k)) := by
    funext i
    simp only [gAt]
    cases pats[i]? with
    | none => rfl
    | some p => exact guess_congr hkn x p
  have hlm : ∀ e ∈ leftL pats o k, e < pats.length := fun e he => List.mem_range.1 (List.mem_filter.1 he).1
  have hnear : ∀ i ∈ leftL pats o k, (!(farI (qaq pats o k) pats (i : Int))) = nearAt pats (qbu (qbk pats o k)) i := fun i hi => by
    simp only [farI, farZ, nearAt, nearB, Int.toNat_natCast, List.getElem?_eq_getElem (hlm i hi), shared_congr hkn, fresh_congr hkn]
    generalize (qa1 (qbu (qbk pats o k)) _).length = A
    generalize (fresh (qbu (qbk pats o k)) _).length = B
    cases A <;> cases B <;> simp
  have hll : (leftL pats o k).length = pats.length - k := by
    have h1 : (leftL pats o k).Perm (o.drop k) := by
      have hnd : o.Nodup := hperm.nodup_iff.2 List.nodup_range
      refine (List.perm_ext_iff_of_nodup (List.nodup_range.filter _) (hnd.sublist (List.drop_sublist _ _))).2 fun a => ?_
      rw [List.mem_filter, List.mem_range]
      have hsp : ∀ a, a ∈ o ↔ a ∈ o.take k ∨ a ∈ o.drop k := fun a => by rw [← List.mem_append, List.take_append_drop]
      have hdj : ∀ a, a ∈ o.take k → a ∉ o.drop k := fun a h1 h2 => by
        have := hnd
        rw [← List.take_append_drop k o] at this
        exact (List.nodup_append.1 this).2.2 a h1 a h2 rfl
      constructor
      · rintro ⟨h1, h2⟩
        exact ((hsp a).1 (hperm.mem_iff.2 (List.mem_range.2 h1))).resolve_left (by simpa using h2)
      · intro h
        exact ⟨hor a ((hsp a).2 (.inr h)), by simpa using fun c => hdj a c h⟩
    rw [h1.length_eq, List.length_drop, hol]
  have hbest : nearZ (qaq pats o k) pats (leftL pats o k) = bestL pats (qbu (qbk pats o k)) o k := by
    unfold nearZ bestL
    dsimp only
    rw [List.filter_congr hnear, hll]
    by_cases c1 : ((leftL pats o k).filter (nearAt pats (qbu (qbk pats o k)))).length = 0
    · rw [if_pos (.inl c1), if_neg (by omega)]
    · by_cases c2 : k = 0
      · rw [if_pos (.inr (by omega)), if_neg (by omega)]
      · rw [if_neg (by omega), if_pos (by omega)]
  have hsort : (bestL pats (qbu (qbk pats o k)) o k).Pairwise (· < ·) := by
    have h1 : (leftL pats o k).Pairwise (· < ·) := List.pairwise_lt_range.filter _
    unfold bestL
    split
    · exact h1.filter _
    · exact h1
  have hbm : ∀ e ∈ bestL pats (qbu (qbk pats o k)) o k, e < pats.length := fun e he => by
    unfold bestL at he
    split at he
    · exact hlm e (List.mem_filter.1 he).1
    · exact hlm e he
  have hne : nearZ (qaq pats o k) pats (leftL pats o k) ≠ [] := nearZ_ne (by intro c; rw [c] at hll; simp at hll; omega)
  unfold pickZ at hpk
  rw [hbest] at hpk hne
  generalize hb : bestL pats (qbu (qbk pats o k)) o k = best at *
  cases best with
  | nil => exact absurd rfl hne
  | cons a l =>
    obtain ⟨s1, s2⟩ := List.pairwise_cons.1 hsort
    dsimp only at hpk
    rw [minZ_pick x pats _ l a (hbm a List.mem_cons_self) (fun e he => ⟨hbm e (List.mem_cons_of_mem _ he), s1 e he⟩) s2, hg] at hpk
    exact ⟨a, j, l, p, rfl, hj, hp, by omega, by rw [hq, hop], hbm⟩
end Go.Am
namespace Go.Am
open Go Go.Proofs AM
set_option maxRecDepth 10000
set_option synthInstance.maxHeartbeats 400000
set_option synthInstance.maxSize 4000
set_option maxHeartbeats 1600000
set_option linter.unusedVariables false
variable {pol : Pol} {sums : Sums}
def bsL (o : List Nat) (k i : Nat) : List Nat := (List.range i).filter fun i => decide (i ∉ o.take k)
theorem bsL_succ (o : List Nat) (k i : Nat) : bsL o k (i + 1) = bsL o k i ++ if i ∈ o.take k then [] else [i] := by
  unfold bsL
  rw [List.range_succ, List.filter_append]
  congr 1
  by_cases c : i ∈ o.take k <;> simp [c]
theorem bsL_length (o : List Nat) (k i : Nat) : (bsL o k i).length ≤ i := by
  have := List.length_filter_le (fun i => decide (i ∉ o.take k)) (List.range i)
  rw [List.length_range] at this
  exact this
theorem zs_snoc (l : List Nat) (i : Nat) : zs (l ++ [i]) = zs l ++ [(i : Int)] := by simp [zs]
theorem mem_zs {l : List Nat} {i : Nat} : (i : Int) ∈ zs l ↔ i ∈ l := by
  simp only [zs, List.mem_map]
  exact ⟨fun ⟨a, h, e⟩ => (by omega : a = i) ▸ h, fun h => ⟨i, h, rfl⟩⟩
theorem gAt_eq {x : Sts} {pats : List Ptn} {names : List Str} {i : Nat} {p : Ptn} (h : pats[i]? = some p) : gAt x pats names i = qb6 x p names := by simp [gAt, h]
theorem nearAt_eq {pats : List Ptn} {names : List Str} {i : Nat} {p : Ptn} (h : pats[i]? = some p) : nearAt pats names i = nearB names p := by simp [nearAt, h]
section
attribute [local irreducible] ACo AK AT qa3 ARs Fin Cal KLp KFun
theorem ofR_w (S : S27' pol sums) {n : Nat} {W : List Ck} {x : Sts} {lv pv : AV} {pats : List Ptn} [HasRows [] W lv linC 7 x.lines] [HasRows [] W pv qcd 15 pats] (hx : StsOk x) (hn : x.lines.length + 8 * pats.length + 100 ≤ n) (hb : x.lines.length < 2 ^ 28) (hb2 : pats.length < 2 ^ 28) :
    Cal [] W (qat Try.prog pol sums n (.func (.func 33) [] []) [.agg (stsC x lv), pv]) (fun r N => ∃ ov qv, r = .agg [ov, qv] ∧ N = [.rows qbd 1 ov (zs (qb4 x pats).1), .rows qbd 1 qv (qb4 x pats).2]) := by
  obtain ⟨hperm, hops, _⟩ := planZ_ok x pats
  have hstep := fun k hk => plan_step x pats (k := k) hk
  generalize (qb4 x pats).1 = o at *
  generalize (qb4 x pats).2 = q at *
  have hor : ∀ j ∈ o, j < pats.length := fun j hj => List.mem_range.1 (hperm.mem_iff.1 hj)
  have hol : o.length = pats.length := by have := hperm.length_eq; simpa using this
  have hnil : ∀ L W : List Ck, HasRows L W (.sl .nil 0 []) strC 1 ([] : List Str) := fun L W => ⟨fun h k => .imm _ 0 [] (by simp)⟩
  refine qbh (f := 33) (nt := 141) (rs := [.cell 4 83]) (by omega) (by first | assumption | exact S.rest _ (by decide)) Try.func33 rfl rfl rfl rfl fun m h0 T hm aT => ?_
  (repeat first|refine Wk.go ?_|refine qal ?_|intro _)
  rename_i i2 i4 i5
  refine qc2 qbd 1 (.sl .nil 0 []) (qc2 qbd 1 (.sl .nil 0 []) ?_)
  refine A_loopS (fun d L T => ∃ k ov qv xs ys, d = pats.length - k ∧ k ≤ pats.length ∧ L = [.row i5 0 2 [ov, qv] true, .rows qbd 1 ov xs, .rows qbd 1 qv ys, .row i4 0 2 [.sl .nil 0 [], .sl .nil 0 []] true, .row i2 0 5 (stsC x lv) true] ∧ xs = zs (o.take k) ∧ ys = q.take k)
    [1, 2, 4, 5] pats.length (by omega) ⟨0, .sl .nil 0 [], .sl .nil 0 [], [], [], rfl, Nat.zero_le _, rfl, rfl, rfl⟩ (by rfl) ?_
  rintro d L T1 ⟨k, ov, qv, xs, ys, rfl, hk, rfl, rfl, rfl⟩ hA
  have hzl : (zs (o.take k)).length = k := by rw [qa7, List.length_take]; omega
  have hql : (q.take k).length = k := by rw [List.length_take]; omega
  by_cases c : k < pats.length
  rotate_left
  · have : Is (decide (((zs (o.take k)).length : Int) < (pats.length : Int))) false := ⟨by simp; omega⟩
    rw [show o.take k = o from List.take_of_length_le (by omega), show q.take k = q from List.take_of_length_le (by omega)] at *
    (repeat first|refine Wk.go ?_|refine qal ?_|intro _)
    exact fin ⟨_, _, rfl, rfl⟩
  have : Is (decide (((zs (o.take k)).length : Int) < (pats.length : Int))) true := ⟨by simp; omega⟩
  obtain ⟨a, j, l, p, hbest, hj, hp, hpick, hopq, hbm⟩ := hstep k c
  have hal := qcs pats o k
  have hvl := qbe (qbk pats o k)
  have htl : (o.take k).length = k := by rw [List.length_take]; omega
  (repeat first|refine Wk.go ?_|refine qal ?_|intro _)
  refine qad (knownR_w S (pats := pats) (order := o.take k) (by omega) (by omega) fun e he => hor e (List.mem_of_mem_take he)) ?_
  rintro nv _ rfl
  rw [ahead_take]
  generalize hnames : qbu (qbk pats o k) = names at *
  (repeat first|refine Wk.go ?_|refine qal ?_|intro _)
  refine qc2 qbd 1 (.sl .nil 0 []) (qc2 qbd 1 (.sl .nil 0 []) ?_)
  refine A_loopS (fun d L T => ∃ i b c bl cl, d = pats.length - i ∧ i ≤ pats.length ∧ Lk T 7 b ∧ Lk T 8 c ∧ Lk T 9 (.int .i64 (i : Nat)) ∧ L = [.rows qbd 1 b bl, .rows qbd 1 c cl, .rows strC 1 nv names, .row i5 0 2 [ov, qv] true, .rows qbd 1 ov (zs (o.take k)), .rows qbd 1 qv (q.take k), .row i4 0 2 [.sl .nil 0 [], .sl .nil 0 []] true, .row i2 0 5 (stsC x lv) true] ∧ bl = zs (bsL o k i) ∧ cl = zs ((bsL o k i).filter (nearAt pats names)))
    [1, 2, 4, 5, 17, 18, 19, 20, 21, 22, 23, 24, 25, 26, 6] pats.length (by omega) ⟨0, .sl .nil 0 [], .sl .nil 0 [], [], [], rfl, Nat.zero_le _, inferInstance, inferInstance, lkz (by rfl), rfl, rfl, rfl⟩ (by rfl) ?_
  rintro d L T2 ⟨i, b, cc, bl, cl, rfl, hi, h7, h8, h9, rfl, hbl, hcl⟩ hA2
  have hbsl := bsL_length o k i
  have hcsl := List.length_filter_le (nearAt pats names) (bsL o k i)
  have hbll : bl.length ≤ i := by rw [hbl, qa7]; exact hbsl
  have hcll : cl.length ≤ i := by rw [hcl, qa7]; omega
  by_cases ci : i < pats.length
  · have : Is (decide ((i : Int) < (pats.length : Int))) true := ⟨by simp; omega⟩
    have hsucc := bsL_succ o k i
    have hpi : pats[i]? = some pats[i] := List.getElem?_eq_getElem ci
    generalize pats[i] = pi at *
    have := ElAt.mk hpi
    have hna := nearAt_eq (names := names) hpi
    (repeat first|refine Wk.go ?_|refine qal ?_|intro _)
    refine qad (inR_w S (l := zs (o.take k)) (i : Int) (by omega) (by omega)) ?_
    rintro _ _ ⟨rfl, rfl⟩
    by_cases ct : i ∈ o.take k
    · have : Is (decide ((i : Int) ∈ zs (o.take k))) true := ⟨by simpa using mem_zs.2 ct⟩
      rw [if_pos ct, List.append_nil] at hsucc
      (repeat first|refine Wk.go ?_|refine qal ?_|intro _)
      exact lend (pats.length - (i + 1)) _ (by omega) ⟨i + 1, b, cc, bl, cl, rfl, ci, inferInstance, inferInstance, inferInstance, rfl, by rw [hsucc, hbl], by rw [hsucc, hcl]⟩
    have : Is (decide ((i : Int) ∈ zs (o.take k))) false := ⟨by simpa using fun h => ct (mem_zs.1 h)⟩
    rw [if_neg ct] at hsucc
    (repeat first|refine Wk.go ?_|refine qal ?_|intro _)
    rename_i b'
    refine qad (partsR_w S (l := names) pi (by omega) (by omega)) ?_
    rintro _ _ ⟨av, fv, rfl, rfl⟩
    have hbl' : bl ++ [(i : Int)] = zs (bsL o k (i + 1)) := by rw [hsucc, zs_snoc, hbl]
    have hcl1 : nearB names pi = true → cl ++ [(i : Int)] = zs ((bsL o k (i + 1)).filter (nearAt pats names)) := fun h => by
      rw [hsucc, List.filter_append, List.filter_cons_of_pos (by rw [hna]; exact h), List.filter_nil, zs_snoc, hcl]
    have hcl0 : nearB names pi = false → cl = zs ((bsL o k (i + 1)).filter (nearAt pats names)) := fun h => by
      rw [hsucc, List.filter_append, List.filter_cons_of_neg (by rw [hna, h]; simp), List.filter_nil, List.append_nil, hcl]
    by_cases q1 : 0 < (qa1 names pi).length
    · have : Is (decide (((qa1 names pi).length : Int) > 0)) true := ⟨by simp; omega⟩
      (repeat first|refine Wk.go ?_|refine qal ?_|intro _)
      rename_i c'
      exact lend (pats.length - (i + 1)) [.rows qbd 1 b' (bl ++ [(i : Int)]), .rows qbd 1 c' (cl ++ [(i : Int)]), .rows strC 1 nv names, .row i5 0 2 [ov, qv] true, .rows qbd 1 ov (zs (o.take k)), .rows qbd 1 qv (q.take k), .row i4 0 2 [.sl .nil 0 [], .sl .nil 0 []] true, .row i2 0 5 (stsC x lv) true] (by omega) ⟨i + 1, b', c', _, _, rfl, ci, inferInstance, inferInstance, inferInstance, rfl, hbl', hcl1 (by simp [nearB, q1])⟩
    have : Is (decide (((qa1 names pi).length : Int) > 0)) false := ⟨decide_eq_false (by omega)⟩
    by_cases q2 : (fresh names pi).length = 0
    · have : Is (((fresh names pi).length : Int) == 0) true := ⟨by simp; exact List.length_eq_zero_iff.1 q2⟩
      (repeat first|refine Wk.go ?_|refine qal ?_|intro _)
      rename_i c'
      exact lend (pats.length - (i + 1)) [.rows qbd 1 b' (bl ++ [(i : Int)]), .rows qbd 1 c' (cl ++ [(i : Int)]), .rows strC 1 nv names, .row i5 0 2 [ov, qv] true, .rows qbd 1 ov (zs (o.take k)), .rows qbd 1 qv (q.take k), .row i4 0 2 [.sl .nil 0 [], .sl .nil 0 []] true, .row i2 0 5 (stsC x lv) true] (by omega) ⟨i + 1, b', c', _, _, rfl, ci, inferInstance, inferInstance, inferInstance, rfl, hbl', hcl1 (by simp [nearB, q2])⟩
    have : Is (((fresh names pi).length : Int) == 0) false := ⟨by simp; intro e; exact q2 (by rw [e]; rfl)⟩
    (repeat first|refine Wk.go ?_|refine qal ?_|intro _)
    exact lend (pats.length - (i + 1)) [.rows qbd 1 b' (bl ++ [(i : Int)]), .rows qbd 1 cc cl, .rows strC 1 nv names, .row i5 0 2 [ov, qv] true, .rows qbd 1 ov (zs (o.take k)), .rows qbd 1 qv (q.take k), .row i4 0 2 [.sl .nil 0 [], .sl .nil 0 []] true, .row i2 0 5 (stsC x lv) true] (by omega) ⟨i + 1, b', cc, _, _, rfl, ci, inferInstance, inferInstance, inferInstance, rfl, hbl', hcl0 (by simp [nearB, q1, q2])⟩
  have : Is (decide ((i : Int) < (pats.length : Int))) false := ⟨by simp; omega⟩
  have : i = pats.length := by omega
  subst this
  have hbd : bl = zs (leftL pats o k) := hbl
  have hcd : cl = zs ((leftL pats o k).filter (nearAt pats names)) := hcl
  have key : (0 < k ∧ 0 < cl.length ∧ cl = zs (a :: l)) ∨ (0 < k ∧ cl.length = 0 ∧ bl = zs (a :: l)) ∨ (k = 0 ∧ bl = zs (a :: l)) := by
    unfold bestL at hbest
    have hll : cl.length = ((leftL pats o k).filter (nearAt pats names)).length := by rw [hcd, qa7]
    by_cases c1 : 0 < k
    · by_cases c2 : 0 < cl.length
      · rw [if_pos ⟨c1, by omega⟩] at hbest
        exact .inl ⟨c1, c2, by rw [hcd, hbest]⟩
      · rw [if_neg (by omega)] at hbest
        exact .inr (.inl ⟨c1, by omega, by rw [hbd, hbest]⟩)
    · rw [if_neg (by omega)] at hbest
      exact .inr (.inr ⟨by omega, by rw [hbd, hbest]⟩)
  clear hbl hcl hbd hcd hbsl hcsl
  have hal1 : (zs (a :: l)).length = l.length + 1 := by simp
  have ha0 : ElAt (zs (a :: l)) 0 (a : Int) := ⟨rfl⟩
  have haz := hbm a List.mem_cons_self
  rcases key with ⟨c1, c2, rfl⟩ | ⟨c1, c2, rfl⟩ | ⟨c1, rfl⟩
  have : Is (decide (((zs (o.take k)).length : Int) > 0)) true := ⟨decide_eq_true (by omega)⟩
  have : Is (decide (((zs (a :: l)).length : Int) > 0)) true := ⟨decide_eq_true (by omega)⟩
  (repeat first|refine Wk.go ?_|refine qal ?_|intro _)
  rotate_left
  have : Is (decide (((zs (o.take k)).length : Int) > 0)) true := ⟨decide_eq_true (by omega)⟩
  have : Is (decide ((cl.length : Int) > 0)) false := ⟨decide_eq_false (by omega)⟩
  (repeat first|refine Wk.go ?_|refine qal ?_|intro _)
  rotate_left
  have : Is (decide (((zs (o.take k)).length : Int) > 0)) false := ⟨decide_eq_false (by omega)⟩
  (repeat first|refine Wk.go ?_|refine qal ?_|intro _)
  rotate_left
  all_goals
    refine A_loopR (fun d T => ∃ i cur pc, d = l.length - i ∧ i ≤ l.length ∧ Lk T 12 (.int .i64 (cur : Nat)) ∧ Lk T 13 (.int .i64 ((i + 1 : Nat) : Int)) ∧ cur = pickL (gAt x pats names) a (l.take i) ∧ pats[cur]? = some pc)
      [1, 2, 4, 5, 17, 18, 19, 20, 21, 22, 23, 24, 25, 26, 6, 7, 8, 9, 27, 28, 29, 30, 33, 34, 35, 36, 37, 38, 39, 40, 42, 43, 44, 45, 46, 47, 41, 48, 49, 10, 11, 50, 51, 52, 53, 54, 55, 56, 57, 58, 59, 60, 61, 31, 32, 62, 63, 64, 65, 66, 67, 68, 69, 70, 71, 72, 73, 74] l.length (by omega) ⟨0, a, pats[a], rfl, Nat.zero_le _, inferInstance, lkz (by rfl), rfl, List.getElem?_eq_getElem haz⟩ (by rfl) ?_
    rintro d T3 ⟨i, cur, pc, rfl, hi4, h12, h13, hcur, hpc⟩ hA3
    by_cases ci4 : i < l.length
    · have : Is (decide (((i + 1 : Nat) : Int) < ((zs (a :: l)).length : Int))) true := ⟨decide_eq_true (by omega)⟩
      have hel : l[i]? = some l[i] := List.getElem?_eq_getElem ci4
      have hem : l[i] ∈ a :: l := List.mem_cons_of_mem _ (List.getElem_mem ci4)
      have hpk : pickL (gAt x pats names) a (l.take (i + 1)) = if gAt x pats names l[i] < gAt x pats names cur then l[i] else cur := by
        rw [hcur]
        unfold pickL
        rw [List.take_succ_eq_append_getElem ci4, List.foldl_append]
        rfl
      generalize l[i] = e at *
      have hel1 : ElAt (zs (a :: l)) (i + 1) (e : Int) := ⟨by simp [zs, hel]⟩
      have hez := hbm e hem
      have hpe : pats[e]? = some pats[e] := List.getElem?_eq_getElem hez
      generalize pats[e] = pe at *
      have := ElAt.mk hpe
      have := ElAt.mk hpc
      have hcz : cur < pats.length := (List.getElem?_eq_some_iff.1 hpc).1
      rw [gAt_eq hpe, gAt_eq hpc] at hpk
      (repeat first|refine Wk.go ?_|refine qal ?_|intro _)
      refine qbo [0, 1, 2, 3, 4, 5, 6, 7, 8, 10, 11, 12, 13, 14, 15, 9, 16, 17] [0, 0, 0, 0, 12, 28, 62, 126, 0, 511, 0, 0, 0, 6144, 14336, 0, 65535, 131071] (by kernel_rfl) (by kernel_rfl) (by rfl) ?_
      (repeat first|refine Wk.go ?_|refine qal ?_|intro _)
      refine qad (guessR_w S (x := x) (known := names) pe hx (by omega) (by omega) (by omega)) ?_
      rintro _ _ ⟨rfl, rfl⟩
      (repeat first|refine Wk.go ?_|refine qal ?_|intro _)
      refine qad (guessR_w S (x := x) (known := names) pc hx (by omega) (by omega) (by omega)) ?_
      rintro _ _ ⟨rfl, rfl⟩
      by_cases cg : qb6 x pe names < qb6 x pc names
      · have : Is (decide (qb6 x pe names < qb6 x pc names)) true := ⟨decide_eq_true cg⟩
        rw [if_pos cg] at hpk
        (repeat first|refine Wk.go ?_|refine qal ?_|intro _)
        exact lend (l.length - (i + 1)) _ (by omega) ⟨rfl, i + 1, e, pe, rfl, ci4, inferInstance, inferInstance, hpk.symm, hpe⟩
      · have : Is (decide (qb6 x pe names < qb6 x pc names)) false := ⟨decide_eq_false cg⟩
        rw [if_neg cg] at hpk
        (repeat first|refine Wk.go ?_|refine qal ?_|intro _)
        exact lend (l.length - (i + 1)) _ (by omega) ⟨rfl, i + 1, cur, pc, rfl, ci4, inferInstance, inferInstance, hpk.symm, hpc⟩
    have : Is (decide (((i + 1 : Nat) : Int) < ((zs (a :: l)).length : Int))) false := ⟨decide_eq_false (by omega)⟩
    have : i = l.length := by omega
    subst this
    rw [List.take_length] at hcur
    have hcj : cur = j := by rw [hcur, hpick]
    subst hcj
    obtain rfl : p = pc := by rw [hp] at hpc; exact Option.some.inj hpc
    have := ElAt.mk hp
    have hcz : cur < pats.length := (List.getElem?_eq_some_iff.1 hp).1
    (repeat first|refine Wk.go ?_|refine qal ?_|intro _)
    refine qad (partsR_w S (l := names) p (by omega) (by omega)) ?_
    rintro _ _ ⟨av, fv, rfl, rfl⟩
    have ho1 : zs (o.take (k + 1)) = zs (o.take k) ++ [(cur : Int)] := by rw [List.take_add_one, hj, Option.toList_some, zs_snoc]
    have hq1 : q.take (k + 1) = q.take k ++ [opZ x names p] := by rw [List.take_add_one, hopq, Option.toList_some]
    unfold opZ at hq1
    by_cases s0 : (qa1 names p).length = 0
    · have : Is (((qa1 names p).length : Int) == 0) true := ⟨beq_iff_eq.2 (by omega)⟩
      rw [if_pos s0] at hq1
      (repeat first|refine Wk.go ?_|refine qal ?_|intro _)
      rename_i v1 v2
      exact lend (pats.length - (k + 1)) [.row i5 0 2 [v1, v2] true, .rows qbd 1 v1 (zs (o.take k) ++ [(cur : Int)]), .rows qbd 1 v2 (q.take k ++ [1]), .row i4 0 2 [.sl .nil 0 [], .sl .nil 0 []] true, .row i2 0 5 (stsC x lv) true] (by omega) ⟨k + 1, v1, v2, _, _, rfl, c, rfl, ho1.symm, hq1.symm⟩
    have : Is (((qa1 names p).length : Int) == 0) false := ⟨beq_eq_false_iff_ne.2 (by omega)⟩
    rw [if_neg s0] at hq1
    (repeat first|refine Wk.go ?_|refine qal ?_|intro _)
    refine qbo [0, 1, 2, 3, 4, 5, 6, 7] [0, 0, 0, 6, 14, 31, 63, 127] (by kernel_rfl) (by kernel_rfl) (by rfl) ?_
    (repeat first|refine Wk.go ?_|refine qal ?_|intro _)
    refine qad (guessR_w (hnv := hnil _ _) S (x := x) (known := []) p hx (by simp; omega) (by omega) (by simp)) ?_
    rintro _ _ ⟨rfl, rfl⟩
    by_cases s1 : qb6 x p [] ≤ 64
    · have : Is (decide (qb6 x p [] ≤ 64)) true := ⟨decide_eq_true s1⟩
      rw [if_pos s1] at hq1
      (repeat first|refine Wk.go ?_|refine qal ?_|intro _)
      rename_i v1 v2
      exact lend (pats.length - (k + 1)) [.row i5 0 2 [v1, v2] true, .rows qbd 1 v1 (zs (o.take k) ++ [(cur : Int)]), .rows qbd 1 v2 (q.take k ++ [2]), .row i4 0 2 [.sl .nil 0 [], .sl .nil 0 []] true, .row i2 0 5 (stsC x lv) true] (by omega) ⟨k + 1, v1, v2, _, _, rfl, c, rfl, ho1.symm, hq1.symm⟩
    have : Is (decide (qb6 x p [] ≤ 64)) false := ⟨decide_eq_false s1⟩
    rw [if_neg s1] at hq1
    by_cases s2 : (qa1 names p).length = 1
    · have : Is (((qa1 names p).length : Int) == 1) true := ⟨beq_iff_eq.2 (by omega)⟩
      rw [if_pos s2] at hq1
      (repeat first|refine Wk.go ?_|refine qal ?_|intro _)
      rename_i v1 v2
      exact lend (pats.length - (k + 1)) [.row i5 0 2 [v1, v2] true, .rows qbd 1 v1 (zs (o.take k) ++ [(cur : Int)]), .rows qbd 1 v2 (q.take k ++ [3]), .row i4 0 2 [.sl .nil 0 [], .sl .nil 0 []] true, .row i2 0 5 (stsC x lv) true] (by omega) ⟨k + 1, v1, v2, _, _, rfl, c, rfl, ho1.symm, hq1.symm⟩
    have : Is (((qa1 names p).length : Int) == 1) false := ⟨beq_eq_false_iff_ne.2 (by omega)⟩
    rw [if_neg s2] at hq1
    (repeat first|refine Wk.go ?_|refine qal ?_|intro _)
    rename_i v1 v2
    exact lend (pats.length - (k + 1)) [.row i5 0 2 [v1, v2] true, .rows qbd 1 v1 (zs (o.take k) ++ [(cur : Int)]), .rows qbd 1 v2 (q.take k ++ [1]), .row i4 0 2 [.sl .nil 0 [], .sl .nil 0 []] true, .row i2 0 5 (stsC x lv) true] (by omega) ⟨k + 1, v1, v2, _, _, rfl, c, rfl, ho1.symm, hq1.symm⟩
end
end Go.Am
namespace Go.Am
open Go Go.Proofs AM
set_option maxRecDepth 10000
set_option synthInstance.maxHeartbeats 400000
set_option synthInstance.maxSize 4000
set_option linter.unusedVariables false
variable {pol : Pol} {sums : Sums}
section
attribute [local irreducible] ACo AK AT qa3 ARs Fin Cal KLp KFun
theorem rightG_w (S : S27' pol sums) {n : Nat} {W : List Ck} {ov qv pv : AV} {order ops : List Int} {pats : List Ptn} [a : HasRows [] W ov qbd 1 order] [b : HasRows [] W qv qbd 1 ops] [c : HasRows [] W pv qcd 15 pats]
    (hn : order.length + pats.length + 40 ≤ n) (hb : order.length < 2 ^ 30) (hb2 : pats.length < 2 ^ 30) (hb3 : ops.length < 2 ^ 40) :
    Cal [] W (qat Try.prog pol sums n (.func (.func 9) [] []) [.agg [ov, qv], pv]) (fun r N => r = .int .i64 (if qbf pats order ops then 0 else 18) ∧ N = []) :=
  Cal.of0 fun h w k => (right_spec S hn hb hb2 hb3 (a.ints k) (b.ints k) (c.has h k)).mono fun r h' ⟨k1, e⟩ => ⟨k1, e⟩
theorem stepsBadP_w (S : S27' pol sums) {n : Nat} {W : List Ck} {ov qv pv : AV} {order ops : List Int} {pats : List Ptn} [HasRows [] W ov qbd 1 order] [HasRows [] W qv qbd 1 ops] [HasRows [] W pv qcd 15 pats]
    (hn : order.length + pats.length + 41 ≤ n) (hb : order.length < 2 ^ 30) (hb2 : pats.length < 2 ^ 30) (hb3 : ops.length < 2 ^ 40) (hr : qbf pats order ops = false) :
    Cal [] W (qat Try.prog pol sums n (.func (.func 39) [] []) [.agg [ov, qv], pv]) (fun r N => r = .func (.func 65) [] [] ∧ N = []) := by
  refine qbh (f := 39) (nt := 12) (rs := [.tmp 4]) (by omega) (by first | assumption | exact S.rest _ (by decide)) Try.func39 rfl rfl rfl rfl fun m h0 T hm aT => ?_
  (repeat first|refine Wk.go ?_|refine qal ?_|intro _)
  refine qad (rightG_w S (order := order) (ops := ops) (pats := pats) (by omega) hb hb2 hb3) ?_
  rintro r _ ⟨rfl, rfl⟩
  rw [hr, show (if false = true then (0 : Int) else 18) = 18 from rfl]
  (repeat first|refine Wk.go ?_|refine qal ?_|intro _)
  refine condT (by rfl) ?_
  (repeat first|refine Wk.go ?_|refine qal ?_|intro _)
  exact fin ⟨rfl, rfl⟩
theorem turnedP_w (S : S27' pol sums) {n : Nat} {W : List Ck} {ov qv pv : AV} {order : List Nat} {ops : List Int} {pats : List Ptn} (turn : Int) [a : HasRows [] W ov qbd 1 (zs order)] [b : HasRows [] W qv qbd 1 ops] [c : HasRows [] W pv qcd 15 pats] (hn : order.length + pats.length + 60 ≤ n) (hb2 : pats.length < 2 ^ 28) (hb3 : ops.length < 2 ^ 40)
    (hr : qbf pats (zs order) ops = true) (hol : order.length = pats.length) (hor : ∀ i ∈ order, i < pats.length) (hne : 0 < pats.length) :
    Cal [] W (qat Try.prog pol sums n (.func (.func 7) [] []) [.agg [ov, qv], .int .i64 turn, pv]) (fun r N => ∃ ov' qv', r = .agg [ov', qv'] ∧ N = [.arr qbd 1 ov' (zs (rot order (qct turn pats.length))), .ro qbd 1 qv' (qb1 pats turn (rot order (qct turn pats.length)) pats.length)]) :=
  Cal.of fun h w k => (turned_spec S turn hn hb2 hb3 (a.ints k) (b.ints k) (c.has h k) hr hol hor hne).mono fun r h' ⟨k1, ov', qid, e, so, gb, vn, io, iq, rq⟩ => by
    have hk := turnK_lt turn hne
    have hrot := rot_length order (qct turn pats.length) (by omega)
    have htl := qbi pats turn (rot order (qct turn pats.length)) pats.length
    have sq : Ints h' (.own qid 0 0 pats.length) (qb1 pats turn (rot order (qct turn pats.length)) pats.length) := by
      have := rq.slv
      rw [htl, hrot, hol] at this
      exact this
    refine ⟨k1, _, ⟨ov', _, e, rfl⟩, fun c hc => ?_, ro_nd2 (f := qbd) (g := qbd) (sz := 1) (sz' := 1) (l := []) (m := []) fun k hk => by simp only [qa4, List.mem_singleton]; exact (io k hk).2, fun i hi => ?_⟩
    · rcases List.mem_cons.1 hc with rfl | hc
      · exact ⟨so.rows, gb, vn⟩
      · rcases List.mem_singleton.1 hc with rfl; exact sq.rows
    · have hi : i ∈ qa4 ov' ++ (qa4 (.own qid 0 0 pats.length) ++ []) := hi
      simp only [qa4, List.append_nil, List.mem_append, List.mem_singleton] at hi
      rcases hi with q | rfl
      · exact (io i q).1
      · exact iq
end
end Go.Am
namespace Go.Am
open Go Go.Proofs AM
set_option maxRecDepth 10000
set_option synthInstance.maxHeartbeats 400000
set_option synthInstance.maxSize 4000
set_option linter.unusedVariables false
variable {pol : Pol} {sums : Sums}
theorem fin_gw {B : Bs} {L : List Ck} {w : AV} {Q : AV → Hp → Prop} {α : Type} (f : α → List AV) (sz : Nat) (v : AV) [n0 : Nil0 v] (g : Fin B (.gw f sz v [] :: L) w Q) : Fin B L w Q := fun h s => g h (s.nilg f sz)
section
attribute [local irreducible] ACo AK AT qa3 ARs Fin Cal KLp KFun
theorem cloneI_w (S : S27' pol sums) {n k : Nat} {W : List Ck} {V : AV} {l l0 : List Int} [a : HasArrW [] W V qbd 1 l0] [b : HasRows [] W (subV V 0 k 1) qbd 1 l] (hn : 2 ≤ n) (hb : l.length < 2 ^ 40) :
    Cal [] W (qat Try.prog pol sums n (.func (.func 18) [] []) [subV V 0 k 1]) (fun r N => N = [.gw qbd 1 r l]) := by
  by_cases c : l = []
  · subst c
    refine qbh (f := 18) (nt := 8) (rs := [.tmp 2]) (by omega) (by first | assumption | exact S.rest _ (by decide)) Try.func18 rfl rfl rfl rfl fun m h0 T hm aT => ?_
    (repeat first|refine Wk.go ?_|refine qal ?_|intro _)
    exact fin_gw qbd 1 (.sl .full 0 []) (fin rfl)
  · have : NeL l := ⟨c⟩
    refine qbh (f := 18) (nt := 8) (rs := [.tmp 2]) (by omega) (by first | assumption | exact S.rest _ (by decide)) Try.func18 rfl rfl rfl rfl fun m h0 T hm aT => ?_
    (repeat first|refine Wk.go ?_|refine qal ?_|intro _)
    exact fin rfl
theorem cloneO_w (S : S27' pol sums) {n : Nat} {W : List Ck} {v : AV} {l : List Int} [a : HasArrW [] W v qbd 1 l] (hn : 2 ≤ n) (hl : l ≠ []) (hb : l.length < 2 ^ 40) :
    Cal [] W (qat Try.prog pol sums n (.func (.func 19) [] []) [v]) (fun r N => N = [.gw qbd 1 r l]) := by
  have : NeL l := ⟨hl⟩
  have : HasRows [] W v qbd 1 l := a.rows
  refine qbh (f := 19) (nt := 8) (rs := [.tmp 2]) (by omega) (by first | assumption | exact S.rest _ (by decide)) Try.func19 rfl rfl rfl rfl fun m h0 T hm aT => ?_
  (repeat first|refine Wk.go ?_|refine qal ?_|intro _)
  exact fin rfl
theorem cloneN_w (S : S27' pol sums) {n : Nat} {W : List Ck} (hn : 2 ≤ n) :
    Cal [] W (qat Try.prog pol sums n (.func (.func 19) [] []) [.sl .full 0 []]) (fun r N => N = [.gw qbd 1 r []]) := by
  have hnil : ∀ L W : List Ck, HasRows L W (.sl .full 0 []) qbd 1 ([] : List Int) := fun L W => ⟨fun h k => .imm _ 0 [] (by simp)⟩
  refine qbh (f := 19) (nt := 8) (rs := [.tmp 2]) (by omega) (by first | assumption | exact S.rest _ (by decide)) Try.func19 rfl rfl rfl rfl fun m h0 T hm aT => ?_
  (repeat first|refine Wk.go ?_|refine qal ?_|intro _)
  exact fin_gw qbd 1 (.sl .full 0 []) (fin rfl)
theorem turnedBadP_w (S : S27' pol sums) {n k : Nat} {W : List Ck} {V qv pv : AV} {l0 order ops : List Int} {pats : List Ptn} (turn : Int) [a : HasArrW [] W V qbd 1 l0] [b : HasRows [] W (subV V 0 k 1) qbd 1 order] [c : HasRows [] W qv qbd 1 ops] [HasRows [] W pv qcd 15 pats]
    (hn : order.length + pats.length + 60 ≤ n) (hb : order.length < 2 ^ 28) (hb2 : pats.length < 2 ^ 28) (hb3 : ops.length < 2 ^ 28) (hr : qbf pats order ops = false) (hq : (qv = .sl .full 0 [] ∧ ops = []) ∨ (HasArrW [] W qv qbd 1 ops ∧ ops ≠ [])) :
    Cal [] W (qat Try.prog pol sums n (.func (.func 7) [] []) [.agg [subV V 0 k 1, qv], .int .i64 turn, pv]) (fun r N => ∃ ov' qv', r = .agg [ov', qv'] ∧ N = [.gw qbd 1 ov' order, .gw qbd 1 qv' ops]) := by
  refine qbh (f := 7) (nt := 64) (rs := [.cell 6 30]) (by omega) (by first | assumption | exact S.rest _ (by decide)) Try.func7 rfl rfl rfl rfl fun m h0 T hm aT => ?_
  (repeat first|refine Wk.go ?_|refine qal ?_|intro _)
  refine qad (rightG_w S (order := order) (ops := ops) (pats := pats) (by omega) (by omega) (by omega) (by omega)) ?_
  rintro _ _ ⟨rfl, rfl⟩
  rw [hr, show (if false = true then (0 : Int) else 18) = 18 from rfl]
  (repeat first|refine Wk.go ?_|refine qal ?_|intro _)
  refine condT (by rfl) ?_
  (repeat first|refine Wk.go ?_|refine qal ?_|intro _)
  refine qbo [0, 1, 3, 4, 2, 5, 6, 7] [0, 1, 3, 0, 8, 31, 63, 127] (by kernel_rfl) (by kernel_rfl) (by rfl) ?_
  (repeat first|refine Wk.go ?_|refine qal ?_|intro _)
  refine qad (cloneI_w S (l := order) (l0 := l0) (by omega) (by omega)) ?_
  rintro ov' _ rfl
  (repeat first|refine Wk.go ?_|refine qal ?_|intro _)
  rcases hq with ⟨rfl, rfl⟩ | ⟨hq1, hq2⟩
  · refine qad (cloneN_w S (by omega)) ?_
    rintro qv' _ rfl
    (repeat first|refine Wk.go ?_|refine qal ?_|intro _)
    exact fin ⟨_, _, rfl, rfl⟩
  · refine qad (cloneO_w S (l := ops) (by omega) hq2 (by omega)) ?_
    rintro qv' _ rfl
    (repeat first|refine Wk.go ?_|refine qal ?_|intro _)
    exact fin ⟨_, _, rfl, rfl⟩
end
end Go.Am
namespace Go.Am
open Go
section
variable {h h' : Hp} {μ μ' : Nat → Nat} {w w' : World}
/-- an object is written where it lies, and others may be made -/
theorem SR.over (s : SR h μ w) {id ver : Nat} {o : AObj} {b : Body} {obj : Obj} (ho : h.get id = some o) (hle : o.ver ≤ ver) (hlike : o.body.like b)
    (hsz : w.heap.size ≤ w'.heap.size) (hoth : ∀ c, c < w.heap.size → c ≠ μ id → w'.heap[c]? = w.heap[c]?) (hobj : w'.heap[μ id]? = some obj)
    (hor : OR h μ w b obj) (hcells : ∀ cs e, w.heap[μ id]? = some (.cells cs e (0, 0)) → ∃ cs' : Array Value, obj = .cells cs' e (0, 0) ∧ cs'.size = cs.size)
    (hos : w'.os = w.os) (ht : w'.tape = w.tape) (hout : w'.output = w.output) :
    SR ⟨h.obj.set id (some ⟨ver, o.stamp + 1, b⟩), h.next⟩ μ w' ∧ Stp h μ w ⟨h.obj.set id (some ⟨ver, o.stamp + 1, b⟩), h.next⟩ μ w' := by
  have hget : ∀ i, (⟨h.obj.set id (some ⟨ver, o.stamp + 1, b⟩), h.next⟩ : Hp).get i = if i = id then some ⟨ver, o.stamp + 1, b⟩ else h.get i := fun i => Tm.get_set _ _ _ _
  have hne : ∀ i o', h.get i = some o' → i ≠ id → μ i ≠ μ id := fun i o' hi hn e => hn (s.inj i id o' o hi ho e)
  have hlt : ∀ i o', h.get i = some o' → μ i < w.heap.size := fun i o' hi => by
    obtain ⟨x, h1, _⟩ := s.blk i o' hi; exact (Array.getElem?_eq_some_iff.1 h1).1
  have st : Stp h μ w ⟨h.obj.set id (some ⟨ver, o.stamp + 1, b⟩), h.next⟩ μ w' := by
    refine ⟨hsz, fun i o' ho' => ?_, fun c hc hh => ?_, fun c hc hh => ?_, hos, ht, hout⟩
    · by_cases e : i = id
      · subst e
        rw [ho] at ho'; cases ho'
        exact ⟨_, by rw [hget, if_pos rfl], hle, hlike, fun _ => ⟨rfl, fun cs e hc => by obtain ⟨cs', h1, h2⟩ := hcells cs e hc; exact ⟨cs', by rw [hobj, h1], h2⟩⟩⟩
      · exact ⟨o', by rw [hget, if_neg e]; exact ho', Nat.le_refl _, Body.like_refl _, fun _ => ⟨rfl, fun cs _ hc => ⟨cs, by rw [hoth _ (hlt i o' ho') (hne i o' ho' e)]; exact hc, rfl⟩⟩⟩
    · exact hoth c hc (fun e => hh ⟨id, o, ho, e.symm⟩)
    · obtain ⟨i, o', hi, hm⟩ := hh
      rw [hget] at hi
      split at hi
      · rename_i e; subst e; exact ⟨i, o, ho, hm⟩
      · exact ⟨i, o', hi, hm⟩
  refine ⟨⟨fun i o' hi => ?_, fun i j o1 o2 hi hj e => ?_⟩, st⟩
  · rw [hget] at hi
    split at hi
    · rename_i e; subst e; cases hi
      exact ⟨obj, hobj, hor.mono st⟩
    · rename_i e
      obtain ⟨x, h1, h2⟩ := s.blk i o' hi
      exact ⟨x, by rw [hoth _ (hlt i o' hi) (hne i o' hi e)]; exact h1, h2.mono st⟩
  · have f : ∀ k o', (⟨h.obj.set id (some ⟨ver, o.stamp + 1, b⟩), h.next⟩ : Hp).get k = some o' → ∃ o2, h.get k = some o2 := fun k o' hk => by
      rw [hget] at hk
      split at hk
      · rename_i e; subst e; exact ⟨o, ho⟩
      · exact ⟨o', hk⟩
    obtain ⟨a, ha⟩ := f i o1 hi
    obtain ⟨c, hc⟩ := f j o2 hj
    exact s.inj i j a c ha hc e
end
/-- what is written over a slice, up to a room that is not told -/
def overSum : List AV → AM AV
  | [.sl k 0 []] => match k with
    | .any => AM.fail
    | _ => pure (.tuple [])
  | [.own id ver off n] => do
    let (esz, _, _) ← rowOf id ver
    AM.guard (Nat.beq esz 1 && Nat.beq off 0 && Nat.blt n 100000000000)
    AM.hput id (ver + 1) (.row 1 [] false)
    pure (.tuple [])
  | _ => AM.fail
/-- a heap of one row -/
def oneRow (id : Nat) (st ver : Nat) (cells : List AV) : Hp := ⟨Tm.set .leaf id (some ⟨ver, st, .row 1 cells true⟩), id + 1⟩
theorem oneRow_get (id st ver : Nat) (cells : List AV) (i : Nat) : (oneRow id st ver cells).get i = if i = id then some ⟨ver, st, .row 1 cells true⟩ else none := by
  show Tm.get (Tm.set _ _ _) _ = _
  rw [Tm.get_set]
  split
  · rfl
  · exact Tm.get_leaf i
theorem oneRow_wf (id st ver : Nat) (cells : List AV) : (oneRow id st ver cells).WF := fun i o e => by
  rw [oneRow_get] at e
  split at e
  · rename_i q; subst q; exact Nat.lt_succ_self _
  · cases e
theorem oneRow_sr {id st ver : Nat} {μ : Nat → Nat} {w : World} {cs : Array Value} {e : Nat} (hc : w.heap[μ id]? = some (.cells cs e (0, 0))) : SR (oneRow id st ver (List.replicate cs.size .undef)) μ w := by
  refine ⟨fun i o hi => ?_, fun i j o o' hi hj _ => ?_⟩
  · rw [oneRow_get] at hi
    split at hi
    · rename_i q; subst q; cases hi
      refine ⟨_, hc, cs, e, rfl, by simp, fun _ => by simp, by simp, fun k h1 h2 => ?_⟩
      rw [List.getElem_replicate]
      exact .undef _
    · cases hi
  · rw [oneRow_get] at hi hj
    split at hi
    · split at hj
      · omega
      · cases hj
    · cases hi
end Go.Am
namespace Go.Am
open Go AM
set_option linter.unusedVariables false
abbrev idC (a : AV) : List AV := [a]
instance : FL idC 1 := ⟨fun _ => rfl⟩
theorem flat_id : ∀ l : List AV, qca idC l = l
  | [] => rfl
  | a :: l => by rw [qch, flat_id l]; rfl
section
variable {h0 : Hp} {X : List Nat} {W L : List Ck} {P : Program} {pol : Pol} {call : qa6} {fn nt : Nat} {R : Rg} {rest : List (Nat × Oper)} {ds : List (Nat × Option Tmp)} {seen : Seen} {T : qag} {Q : qag → Hp → Prop} {i : Nat} {d : Option Tmp} {ty : TypeId} {pos : String} {after : Array Edge}
variable {id ver n : Nat} {cells : List AV}
/-- a part of a row that is told whole -/
theorem hasrows_id {fix : Bool} (hr : HasRow L W id ver 1 cells fix) (hn : n ≤ cells.length) : HasRows L W (.own id ver 0 n) idC 1 (cells.take n) := ⟨fun h k => by
  have := SlV.own (sz := 1) id ver 0 n cells fix (k _ hr.mem) (by omega)
  rw [List.drop_zero, Nat.mul_one] at this
  show SlV h 1 _ (cells.take n).length _
  rw [flat_id, List.length_take, Nat.min_eq_left hn]; exact this⟩
theorem aops_cap {t e : TypeId} {x : Operand} [ht : TSl P t e] (hx : Ev T x (.own id ver 0 n)) (hr : HasRow L W id ver 1 cells true) (hn : n ≤ cells.length)
    (g : qa3 ⟨h0, X, W⟩ L P pol call fn nt R rest ((i, d) :: ds) ((i, [(true, id)]) :: seen) (qa2? nt T d (.int .i64 (cells.length : Nat))) Q) :
    qa3 ⟨h0, X, W⟩ L P pol call fn nt R ((i, ⟨d, .call ⟨.builtin .cap, [x].toArray, [t].toArray⟩, ty, pos, after, none⟩) :: rest) ds seen T Q := fun h s e' => by
  obtain ⟨st, ho⟩ := s.all _ hr.mem
  have hxe := hx.eq
  refine O_read [(true, id)] rfl rfl ?_ (by simp [ho]) ?_ (g h s e'.step)
  · have : qbr (qaj T) ⟨d, .call ⟨.builtin .cap, [x].toArray, [t].toArray⟩, ty, pos, after, none⟩ = (qb2 (qaj T x)).map fun id => (true, id) := by simp [qbr, looksIn, Op.operands, Call.operands]
    rw [this, hxe]; rfl
  · simp only [aop, List.map_cons, List.map_nil, hxe, qck, ht.un]
    rw [run_bind, qcz ho]
    dsimp only
    rw [show (true && Nat.ble (0 + n * 1) cells.length && !(Nat.beq 1 0) && (Nat.ble 1 n || Nat.beq 0 0)) = true by rw [show Nat.ble (0 + n * 1) cells.length = true by simpa using hn, show Nat.beq 0 0 = true from rfl, Bool.or_true]; rfl, qar, qaa, Nat.div_one, Nat.sub_zero]
    rfl
theorem aops_part {t e : TypeId} {x y : Operand} {u : Nat} {k : IntKind} [ht : TSl P t e] [hs : TSz P e 1] (hx : Ev T x (.own id ver 0 n)) (hy : Ev T y (.int k (u : Int))) (hr : HasRow L W id ver 1 cells true) (hn : n ≤ cells.length) (hu : u ≤ cells.length)
    (g : qa3 ⟨h0, X, W⟩ L P pol call fn nt R rest ((i, d) :: ds) ((i, [(false, id)]) :: seen) (qa2? nt T d (.own id ver 0 u)) Q) :
    qa3 ⟨h0, X, W⟩ L P pol call fn nt R ((i, ⟨d, .slice t x none (some y) none, ty, pos, after, none⟩) :: rest) ds seen T Q := fun h s e' => by
  obtain ⟨st, ho⟩ := s.all _ hr.mem
  have hxe := hx.eq
  have hye := hy.eq
  have hroom : u ≤ roomIn n 0 1 cells.length := by unfold roomIn; simp; omega
  refine O_read [(false, id)] rfl rfl ?_ (by simp [ho]) ?_ (g h s e'.step)
  · exact slice_ids hxe (fun y hy => by cases hy) (fun z hz => by cases hz; rw [hye]; rfl)
  · simp only [aop, hxe, Option.map_none, Option.map_some, hye, aslice, elem_of ht.un]
    rw [qaa, hs.sz, qaa, run_bind, qcz ho]
    dsimp only
    rw [show (Nat.beq 1 1 && Nat.ble (0 + n * 1) cells.length) = true by simp; omega, qar, qaa]
    have hb : qcb n (roomIn n 0 1 cells.length) none (some (.int k (u : Int))) = Pure.pure (0, u) := by
      simp only [qcb, abound]
      rw [show decide (0 ≤ (u : Int) ∧ (u : Int) ≤ (roomIn n 0 1 cells.length : Nat)) = true by simp; omega, qar, qaa, qaa]
      rfl
    rw [hb, qaa]
    simp
    rfl
theorem aops_store1 {t : TypeId} {a x : Operand} {j : Nat} {ik : IntKind} {z : Int} [hs : TSz P t 1] (ha : Ev T a (.ptr id ver j)) (hx : Ev T x (.int ik z)) (hj : j < cells.length) (hc : R.chk = false)
    (g : qa3 ⟨h0, X, W⟩ (.row id ver 1 (splice cells j [.int ik z]) true :: L) P pol call fn nt R rest ((i, d) :: ds) seen (qa2? nt T d (.tuple [])) Q) :
    qa3 ⟨h0, X, W⟩ (.row id ver 1 cells true :: L) P pol call fn nt R ((i, ⟨d, .store t a x, ty, pos, after, none⟩) :: rest) ds seen T Q := fun h s e => O_wf fun w => by
  have r0 : Row h id ver 1 cells true := s.all (.row id ver 1 cells true) (by simp)
  refine qb0 ha.eq hx.eq r0 ?_ fun h1 k r => ⟨Undis.off hc, g h1 ?_ e.step⟩
  · simp [acells, ones, one]; omega
  · have u : Up (.row id ver 1 cells true :: L) (.row id ver 1 cells true) (.row id ver 1 (splice cells j [.int ik z]) true) (.row id ver 1 (splice cells j [.int ik z]) true :: L) := up_0
    exact s.up u w (k.weaken (by rintro i rfl; simp [Ck.row])) r (fun i hi => .inl hi) (by simp [Ck.row])
end
end Go.Am
namespace Go.Am
open Go Go.Proofs AM
set_option maxRecDepth 10000
set_option synthInstance.maxHeartbeats 400000
set_option synthInstance.maxSize 4000
set_option linter.unusedVariables false
variable {pol : Pol} {sums : Sums}
section
attribute [local irreducible] ACo AK AT qa3 ARs Fin Cal KLp KFun
theorem overX_w (hs : sums 41 = none) (h59 : sums 59 = none) {n id ver k : Nat} {cells : List AV} (hk : k ≤ cells.length) (hb : k < 100000000000) (hn : cells.length + 20 ≤ n) :
    Cal [.row id ver 1 cells true] [] (qat Try.prog pol sums n (.func (.func 41) [] []) [.own id ver 0 k]) (fun r N => r = .tuple [] ∧ ∃ cells', N = [.row id ver 1 cells' true] ∧ cells'.length = cells.length) := by
  generalize hu : min cells.length (k + 12) = u
  have huc : u ≤ cells.length := by omega
  have hk' : (cells.take k).length = k := by rw [List.length_take]; omega
  have hmin : (if (((cells.take k).length + 12 : Nat) : Int) < ((cells.length : Nat) : Int) then (((cells.take k).length + 12 : Nat) : Int) else ((cells.length : Nat) : Int)) = ((u : Nat) : Int) := by rw [hk']; split <;> omega
  refine qbh (f := 41) (nt := 23) (rs := []) (by omega) (by first | assumption | exact S.rest _ (by decide)) Try.func41 rfl rfl rfl rfl fun m h0 T hm aT => ?_
  (repeat first|refine Wk.go ?_|refine qal ?_|intro _)
  refine aops_cap inferInstance inferInstance hk ?_
  have hh : HasRows [.row id ver 1 cells true] [] (.own id ver 0 k) idC 1 (cells.take k) := hasrows_id inferInstance hk
  (repeat first|refine Wk.go ?_|refine qal ?_|intro _)
  rw [hmin]
  refine aops_part (u := u) inferInstance inferInstance inferInstance hk huc ?_
  (repeat first|refine Wk.go ?_|refine qal ?_|intro _)
  refine A_loopS (fun d L T => ∃ i cells', d = u - i ∧ i ≤ u ∧ Lk T 3 (.int .i64 (i : Nat)) ∧ L = [.row id ver 1 cells' true] ∧ cells'.length = cells.length)
    [2] u (by omega) ⟨0, cells, rfl, Nat.zero_le _, lkz (by rfl), rfl, rfl⟩ (by rfl) ?_
  rintro d L T1 ⟨i, cells', rfl, hi, h3, rfl, hl⟩ hA
  have hh2 : HasRows [.row id ver 1 cells' true] [] (.own id ver 0 u) idC 1 (cells'.take u) := hasrows_id inferInstance (by omega)
  have hlu : (cells'.take u).length = u := by rw [List.length_take]; omega
  by_cases c : i < u
  · have : Is (decide ((i : Int) < ((cells'.take u).length : Int))) true := ⟨decide_eq_true (by omega)⟩
    (repeat first|refine Wk.go ?_|refine qal ?_|intro _)
    refine qad (mark_w h59 (by omega) (by omega) (by omega)) ?_
    rintro _ _ ⟨rfl, rfl⟩
    (repeat first|refine Wk.go ?_|refine qal ?_|intro _)
    have hsp : ∀ v : AV, (splice cells' i [v]).length = cells.length := fun v => by rw [qby (by simp; omega), hl]
    rw [show elA (.own id ver 0 u) i 1 0 = .ptr id ver i by simp [elA]]
    refine aops_store1 (j := i) inferInstance inferInstance (by omega) rfl ?_
    (repeat first|refine Wk.go ?_|refine qal ?_|intro _)
    exact lend (u - (i + 1)) _ (by omega) ⟨i + 1, splice cells' i [.int .i64 (markZ 2 (i : Nat))], rfl, c, inferInstance, rfl, hsp _⟩
  · have : Is (decide ((i : Int) < ((cells'.take u).length : Int))) false := ⟨decide_eq_false (by omega)⟩
    (repeat first|refine Wk.go ?_|refine qal ?_|intro _)
    exact fin ⟨rfl, cells', rfl, hl⟩
end
end Go.Am
namespace Go.Am
open Go Go.Proofs AM
set_option maxRecDepth 10000
set_option linter.unusedVariables false
theorem over_nil (k : SK) (hk : k = .nil ∨ k = .full ∨ k = .tight) : ∃ h', (qat Try.prog pol27 sums28 100 (.func (.func 41) [] []) [.sl k 0 []]).run ⟨.leaf, 1⟩ = some (.tuple [], h') := by
  rcases hk with rfl | rfl | rfl
  · exact ⟨⟨.leaf, 1⟩, by kernel_rfl⟩
  · exact ⟨⟨.leaf, 1⟩, by kernel_rfl⟩
  · exact ⟨⟨.leaf, 1⟩, by kernel_rfl⟩
theorem over_ok {h h' : Hp} {μ : Nat → Nat} {w : World} {args : List AV} {xs : List Value} {v : AV} (e : (overSum args).run h = some (v, h')) (s : SR h μ w) (r : VRs h μ w args xs) :
    CallsIn Fence.wide 0 Try.prog 41 xs.toArray w (Got h μ w v h') := by
  unfold overSum at e
  split at e
  · rename_i k
    obtain ⟨x, rfl, hx⟩ := one_arg r
    have hk : k = .nil ∨ k = .full ∨ k = .tight := by cases k <;> first | exact .inl rfl | exact .inr (.inl rfl) | exact .inr (.inr rfl) | cases e
    have he : v = .tuple [] ∧ h' = h := by cases k <;> first | (obtain ⟨a, b⟩ := qab e; exact ⟨a, b⟩) | cases e
    obtain ⟨rfl, rfl⟩ := he
    obtain ⟨h2, hr⟩ := over_nil k hk
    have hv : VRs ⟨.leaf, 1⟩ id w [.sl k 0 []] [x] := by
      refine ⟨rfl, fun i h1 h2 => ?_⟩
      obtain rfl : i = 0 := by simp at h1; omega
      cases hx with
      | sl _ _ _ A cap vals hn hnil hfull htight hpos hh hl hs hc hr =>
        obtain rfl : vals = [] := List.length_eq_zero_iff.1 (by simpa using hl.symm)
        exact .sl k 0 [] A cap [] hn hnil hfull htight hpos (fun _ _ c => absurd rfl c) rfl (fun c => absurd rfl c) (fun _ _ i hi => by cases hi) (fun i hi => by cases hi)
    refine callsIn_wide.2 ((entryL progOk sums28_ok hr hv).mono ?_)
    rintro en w' ⟨y, μ', rfl, hy, hb⟩
    obtain ⟨a, b⟩ := SR.below s hb
    cases hy with
    | tuple cells vals hl hr =>
      obtain rfl : vals = [] := List.length_eq_zero_iff.1 (by simpa using hl.symm)
      exact ⟨μ, a, b, .tuple [] [] rfl fun i hi => by cases hi⟩
  · rename_i id ver off n
    obtain ⟨x, rfl, hx⟩ := one_arg r
    obtain ⟨⟨esz, cells, fix⟩, h1, e1, e2⟩ := bind_some e
    obtain ⟨rfl, o, ho, hov, hob⟩ := qbw e1
    obtain ⟨_, h2, e3, e4⟩ := bind_some e2
    obtain ⟨hg, rfl⟩ := qap e3
    obtain ⟨_, h3, e5, e6⟩ := bind_some e4
    obtain ⟨o', ho', hle, rfl⟩ := hput_some e5
    obtain ⟨rfl, rfl⟩ := qab e6
    rw [ho] at ho'; cases ho'
    simp only [Bool.and_eq_true] at hg
    obtain ⟨⟨hg1, hg2⟩, hg3⟩ := hg
    obtain rfl := Nat.eq_of_beq_eq_true hg1
    obtain rfl := Nat.eq_of_beq_eq_true hg2
    have hnb : n < 100000000000 := by simpa [Nat.blt_eq] using hg3
    have key : ∃ cap cs e, x = .slice (some ⟨μ id, 0, none⟩) n cap ∧ n ≤ cap ∧ w.heap[μ id]? = some (.cells cs e (0, 0)) ∧ cap = cs.size := by
      cases hx with
      | own _ _ _ _ o2 ho2 hv2 esz2 cells2 fix2 hb2 ad cap hn hex =>
        rw [ho] at ho2; cases ho2
        rw [hob] at hb2; cases hb2
        obtain ⟨rfl, cs, e, hc, hcs⟩ := hex (.inr rfl)
        exact ⟨cap, cs, e, rfl, hn, hc, by omega⟩
      | ownOld _ _ _ _ a m cap o2 ho2 hv2 =>
        rw [ho] at ho2; cases ho2
        omega
    obtain ⟨cap, cs, e0, rfl, hnc, hc, rfl⟩ := key
    have hrl : (List.replicate cs.size AV.undef).length = cs.size := by simp
    have hS : SR (oneRow id 0 ver (List.replicate cs.size .undef)) μ w := oneRow_sr hc
    have hg3' : (oneRow id 0 ver (List.replicate cs.size .undef)).get id = some ⟨ver, 0, .row 1 (List.replicate cs.size .undef) true⟩ := by rw [oneRow_get, if_pos rfl]
    have hV : VRs (oneRow id 0 ver (List.replicate cs.size .undef)) μ w [.own id ver 0 n] [.slice (some ⟨μ id, 0, none⟩) n cs.size] := by
      refine ⟨rfl, fun i h1 h2 => ?_⟩
      obtain rfl : i = 0 := by simp at h1; omega
      exact .own id ver 0 n _ hg3' rfl 1 _ true rfl _ cs.size hnc fun _ => ⟨rfl, cs, e0, hc, by omega⟩
    have hwf := oneRow_wf id 0 ver (List.replicate cs.size .undef)
    have cal := overX_w (pol := pol27) (sums := sums28) rfl rfl (n := (cs.size + 39) + 1) (id := id) (ver := ver) (k := n) (cells := List.replicate cs.size .undef) (by rw [hrl]; exact hnc) hnb (by rw [hrl]; omega)
    have st : St ⟨oneRow id 0 ver (List.replicate cs.size .undef), cids [.row id ver 1 (List.replicate cs.size .undef) true], []⟩ [.row id ver 1 (List.replicate cs.size .undef) true] (oneRow id 0 ver (List.replicate cs.size .undef)) :=
      ⟨hwf, KeepBut.refl _, fun c hc => by obtain rfl := List.mem_singleton.1 (by simpa using hc); exact ⟨0, hg3'⟩, by simp [cids, Ck.row], fun i hi => .inl hi⟩
    obtain ⟨v, h4, hr, N, ⟨rfl, cells', rfl, hcl⟩, st4⟩ := cal _ st hwf
    obtain ⟨st5, hrow⟩ : Row h4 id ver 1 cells' true := st4.all (.row id ver 1 cells' true) (by simp)
    have hfr : Fresh (oneRow id 0 ver (List.replicate cs.size .undef)) h4 := fun i h1 _ => by
      cases hq : (oneRow id 0 ver (List.replicate cs.size .undef)).get i with
      | none => rfl
      | some o => have := hwf i o hq; omega
    simp only [qat, List.nil_append, List.append_nil] at hr
    have hcs := acall_sound (pol := pol27) progOk sums28_ok (cs.size + 39)
    obtain ⟨_, hk⟩ := afunc_calls hcs (region_ok progOk hcs) sums28_ok _ 41 hr hS hV hfr
    refine CallsIn.mono hk fun en w' hg => ?_
    cases en with
    | returned y =>
      obtain ⟨μ', s4, t4, hy⟩ := hg
      obtain ⟨o4, ho4, hv4, hlike4, heq4⟩ := t4.live id _ hg3'
      rw [hrow] at ho4; cases ho4
      obtain ⟨hmu, hcell⟩ := heq4 (.inl rfl)
      obtain ⟨cs', hc', hsz'⟩ := hcell cs e0 hc
      have hheld : ∀ c, Held (oneRow id 0 ver (List.replicate cs.size .undef)) μ c → c = μ id := fun c ⟨i, o, hi, hm⟩ => by
        rw [oneRow_get] at hi
        split at hi
        · rename_i q; subst q; exact hm.symm
        · cases hi
      obtain ⟨a, b⟩ := s.over (w' := w') (ver := ver + 1) (b := .row 1 [] false) (obj := .cells cs' e0 (0, 0)) ho hle (by rw [hob]; exact rfl) t4.size (fun c hc hne => t4.old c hc fun q => hne (hheld c q)) hc'
        ⟨cs', e0, rfl, by simp, (fun c => by cases c), rfl, fun i h1 => by cases h1⟩ (fun cs2 e2 h2 => by rw [hc] at h2; cases h2; exact ⟨cs', rfl, hsz'⟩) t4.os t4.tape t4.output
      cases hy with
      | tuple cells vals hl hr =>
        obtain rfl : vals = [] := List.length_eq_zero_iff.1 (by simpa using hl.symm)
        exact ⟨μ, a, b, .tuple [] [] rfl fun i hi => by cases hi⟩
    | panicked _ => exact hg.elim
    | outgrown => exact hg.elim
  · cases e
end Go.Am
namespace Go.Am
open Go Go.Proofs AM
set_option maxRecDepth 10000
set_option synthInstance.maxHeartbeats 400000
set_option synthInstance.maxSize 4000
set_option linter.unusedVariables false
variable {pol : Pol} {sums : Sums}
attribute [local irreducible] ACo AK AT qa3 ARs Fin Cal KLp KFun
theorem eq_of_all {α : Type} {l m : List α} (hl : l.length = m.length) (h : ∀ (j : Nat) (x : α), j < l.length → l[j]? = some x → m[j]? = some x) : l = m := by
  apply List.ext_getElem hl
  intro i h1 h2
  have := h i l[i] h1 (List.getElem?_eq_getElem h1)
  rw [List.getElem?_eq_getElem h2] at this
  simpa using this.symm
theorem sameInts_w (S : S27' pol sums) {n : Nat} {W : List Ck} {v u : AV} {l l2 : List Int} [a : HasRows [] W v qbd 1 l] [b : HasRows [] W u qbd 1 l2] (hn : l.length + 2 ≤ n) (hb : l.length < 2 ^ 60) :
    Cal [] W (qat Try.prog pol sums n (.func (.func 17) [] []) [v, u]) (fun r N => r = .bool (decide (l = l2)) ∧ N = []) := by
  refine qbh (f := 17) (nt := 26) (rs := [.tmp 4]) (by omega) (by first | assumption | exact S.rest _ (by decide)) Try.func17 rfl rfl rfl rfl fun m h0 T hm aT => ?_
  by_cases hl : l.length = l2.length
  rotate_left
  · have : Is ((l.length : Int) != (l2.length : Int)) true := ⟨by simp; omega⟩
    (repeat first|refine Wk.go ?_|refine qal ?_|intro _)
    exact fin ⟨by rw [decide_eq_false (fun e => hl (by rw [e]))], rfl⟩
  have : Is ((l.length : Int) != (l2.length : Int)) false := ⟨by simp [hl]⟩
  (repeat first|refine Wk.go ?_|refine qal ?_|intro _)
  refine A_loopR (fun d T => ∃ i, d = l.length - i ∧ i ≤ l.length ∧ Lk T 5 (.int .i64 (i : Nat)) ∧ ∀ j x, j < i → l[j]? = some x → l2[j]? = some x) [0, 1] l.length (by omega) ⟨0, rfl, Nat.zero_le _, lkz (by rfl), fun j x h => by omega⟩ (by rfl) ?_
  rintro d T1 ⟨i, rfl, hi, h5, hall⟩ hA
  by_cases c : i < l.length
  · have : Is (decide ((i : Int) < (l.length : Int))) true := ⟨by simpa using c⟩
    have e1 : ElAt l i l[i] := ⟨List.getElem?_eq_getElem c⟩
    have e2 : ElAt l2 i (l2[i]'(by omega)) := ⟨List.getElem?_eq_getElem _⟩
    by_cases q : l[i] = l2[i]'(by omega)
    · have : Is (l[i] != l2[i]'(by omega)) false := ⟨by simpa using q⟩
      (repeat first|refine Wk.go ?_|refine qal ?_|intro _)
      refine qbo [0, 1, 2, 3, 4, 5, 6, 7, 8] [0, 0, 3, 7, 0, 0, 48, 112, 255] (by kernel_rfl) (by kernel_rfl) (by rfl) ?_
      (repeat first|refine Wk.go ?_|refine qal ?_|intro _)
      refine lend (l.length - (i + 1)) _ (by omega) ⟨rfl, i + 1, rfl, c, inferInstance, fun j x hj hx => ?_⟩
      by_cases e : j = i
      · subst e
        rw [List.getElem?_eq_getElem c] at hx
        rw [List.getElem?_eq_getElem (by omega), ← q]; exact hx
      · exact hall j x (by omega) hx
    · have : Is (l[i] != l2[i]'(by omega)) true := ⟨by simpa using q⟩
      (repeat first|refine Wk.go ?_|refine qal ?_|intro _)
      refine qbo [0, 1, 2, 3, 4, 5, 6, 7, 8] [0, 0, 3, 7, 0, 0, 48, 112, 255] (by kernel_rfl) (by kernel_rfl) (by rfl) ?_
      (repeat first|refine Wk.go ?_|refine qal ?_|intro _)
      refine fin ⟨?_, rfl⟩
      rw [decide_eq_false]
      intro e
      exact q (by subst e; rfl)
  · have : Is (decide ((i : Int) < (l.length : Int))) false := ⟨by simpa using c⟩
    (repeat first|refine Wk.go ?_|refine qal ?_|intro _)
    refine fin ⟨?_, rfl⟩
    rw [decide_eq_true (eq_of_all hl fun j x hj hx => hall j x (by omega) hx)]
theorem sameTexts_w (S : S27' pol sums) {n : Nat} {W : List Ck} {v u : AV} {l l2 : List Str} [a : HasRows [] W v strC 1 l] [b : HasRows [] W u strC 1 l2] (hn : l.length + 2 ≤ n) (hb : l.length < 2 ^ 60) :
    Cal [] W (qat Try.prog pol sums n (.func (.func 40) [] []) [v, u]) (fun r N => r = .bool (decide (l = l2)) ∧ N = []) := by
  refine qbh (f := 40) (nt := 26) (rs := [.tmp 4]) (by omega) (by first | assumption | exact S.rest _ (by decide)) Try.func40 rfl rfl rfl rfl fun m h0 T hm aT => ?_
  by_cases hl : l.length = l2.length
  rotate_left
  · have : Is ((l.length : Int) != (l2.length : Int)) true := ⟨by simp; omega⟩
    (repeat first|refine Wk.go ?_|refine qal ?_|intro _)
    exact fin ⟨by rw [decide_eq_false (fun e => hl (by rw [e]))], rfl⟩
  have : Is ((l.length : Int) != (l2.length : Int)) false := ⟨by simp [hl]⟩
  (repeat first|refine Wk.go ?_|refine qal ?_|intro _)
  refine A_loopR (fun d T => ∃ i, d = l.length - i ∧ i ≤ l.length ∧ Lk T 5 (.int .i64 (i : Nat)) ∧ ∀ j x, j < i → l[j]? = some x → l2[j]? = some x) [0, 1] l.length (by omega) ⟨0, rfl, Nat.zero_le _, lkz (by rfl), fun j x h => by omega⟩ (by rfl) ?_
  rintro d T1 ⟨i, rfl, hi, h5, hall⟩ hA
  by_cases c : i < l.length
  · have : Is (decide ((i : Int) < (l.length : Int))) true := ⟨by simpa using c⟩
    have e1 : ElAt l i l[i] := ⟨List.getElem?_eq_getElem c⟩
    have e2 : ElAt l2 i (l2[i]'(by omega)) := ⟨List.getElem?_eq_getElem _⟩
    by_cases q : l[i] = l2[i]'(by omega)
    · have : Is (l[i] == l2[i]'(by omega)) true := ⟨by simpa using q⟩
      (repeat first|refine Wk.go ?_|refine qal ?_|intro _)
      refine qbo [0, 1, 2, 3, 4, 5, 6, 7, 8] [0, 0, 3, 7, 0, 0, 48, 112, 255] (by kernel_rfl) (by kernel_rfl) (by rfl) ?_
      (repeat first|refine Wk.go ?_|refine qal ?_|intro _)
      refine lend (l.length - (i + 1)) _ (by omega) ⟨rfl, i + 1, rfl, c, inferInstance, fun j x hj hx => ?_⟩
      by_cases e : j = i
      · subst e
        rw [List.getElem?_eq_getElem c] at hx
        rw [List.getElem?_eq_getElem (by omega), ← q]; exact hx
      · exact hall j x (by omega) hx
    · have : Is (l[i] == l2[i]'(by omega)) false := ⟨by simpa using q⟩
      (repeat first|refine Wk.go ?_|refine qal ?_|intro _)
      refine qbo [0, 1, 2, 3, 4, 5, 6, 7, 8] [0, 0, 3, 7, 0, 0, 48, 112, 255] (by kernel_rfl) (by kernel_rfl) (by rfl) ?_
      (repeat first|refine Wk.go ?_|refine qal ?_|intro _)
      refine fin ⟨?_, rfl⟩
      rw [decide_eq_false]
      intro e
      exact q (by subst e; rfl)
  · have : Is (decide ((i : Int) < (l.length : Int))) false := ⟨by simpa using c⟩
    (repeat first|refine Wk.go ?_|refine qal ?_|intro _)
    refine fin ⟨?_, rfl⟩
    rw [decide_eq_true (eq_of_all hl fun j x hj hx => hall j x (by omega) hx)]
instance : FOne linC := ⟨fun _ => rfl⟩
instance enc_lin0 {x : Lin} : Enc (linC x) linC x := ⟨rfl⟩
theorem theirs_w (S : S27' pol sums) {n : Nat} {W : List Ck} {lv : AV} {x : Sts} [a : HasRows [] W lv linC 7 x.lines] (hn : x.lines.length + 2 ≤ n) (hb : x.lines.length < 2 ^ 30) :
    Cal [] W (qat Try.prog pol sums n (.func (.func 34) [] []) [.agg (stsC x lv)]) (fun r N => ∃ lv', r = .agg (stsC x lv') ∧ N = [.rows linC 7 lv' x.lines]) := by
  refine qbh (f := 34) (nt := 42) (rs := [.cell 2 87]) (by omega) (by first | assumption | exact S.rest _ (by decide)) Try.func34 rfl rfl rfl rfl fun m h0 T hm aT => ?_
  (repeat first|refine Wk.go ?_|refine qal ?_|intro _)
  rename_i i1 i2 i3
  refine qc2 linC 7 (.sl .nil 0 []) ?_
  refine A_loop (fun d L T => ∃ i lv' ls, d = x.lines.length - i ∧ i ≤ x.lines.length ∧ Lk T 4 (.int .i64 (i : Nat)) ∧ L = [.rows linC 7 lv' ls, .row i3 0 5 (stsC x lv') true, .row i2 0 5 [.int .i64 0, .int .i64 0, .int .i64 0, .int .i64 0, .sl .nil 0 []] true, .row i1 0 5 (stsC x lv) true] ∧ ls = x.lines.take i)
    [1, 2, 3] x.lines.length (by omega) ⟨0, _, _, rfl, Nat.zero_le _, lkz (by rfl), rfl, rfl⟩ (by rfl) ?_
  rintro d L T1 ⟨i, lv', ls, rfl, hi, h4, rfl, hls⟩ hA
  by_cases c : i < x.lines.length
  · have : Is (decide ((i : Int) < (x.lines.length : Int))) true := ⟨by simpa using c⟩
    generalize hy : x.lines[i] = y
    have hy' : x.lines[i]? = some y := by rw [List.getElem?_eq_getElem c, hy]
    have e1 : ElAt x.lines i y := ⟨hy'⟩
    have hl : ls.length = i := by rw [hls, List.length_take]; omega
    (repeat first|refine Wk.go ?_|refine qal ?_|intro _)
    rename_i lv2
    refine lend (x.lines.length - (i + 1)) _ (by omega) ⟨i + 1, lv2, ls ++ [y], rfl, c, inferInstance, rfl, ?_⟩
    rw [List.take_succ_eq_append_getElem c, hy, hls]
  · have : Is (decide ((i : Int) < (x.lines.length : Int))) false := ⟨by simpa using c⟩
    have hl : ls = x.lines := by rw [hls, List.take_of_length_le (by omega)]
    rw [hl]
    (repeat first|refine Wk.go ?_|refine qal ?_|intro _)
    exact fin ⟨lv', rfl, rfl⟩
theorem ref_w (S : S27' pol sums) {n : Nat} {W : List Ck} {ov qv : AV} {ops : List Int} [b : HasRows [] W qv qbd 1 ops] {α : Type} {f : α → List AV} {sz : Nat} {l : List α} [a : HasRows [] W ov f sz l] (hn : ops.length + 2 ≤ n) (hb : ops.length < 2 ^ 40) :
    Cal [] W (qat Try.prog pol sums n (.func (.func 36) [] []) [.agg [ov, qv]]) (fun r N => ∃ qv', r = .agg [ov, qv'] ∧ N = [.rows qbd 1 qv' ops]) := by
  refine qbh (f := 36) (nt := 26) (rs := [.cell 2 83]) (by omega) (by first | assumption | exact S.rest _ (by decide)) Try.func36 rfl rfl rfl rfl fun m h0 T hm aT => ?_
  (repeat first|refine Wk.go ?_|refine qal ?_|intro _)
  rename_i i1 i2 i3
  refine qc2 qbd 1 (.sl .nil 0 []) ?_
  refine A_loop (fun d L T => ∃ i lv' ls, d = ops.length - i ∧ i ≤ ops.length ∧ Lk T 4 (.int .i64 (i : Nat)) ∧ L = [.rows qbd 1 lv' ls, .row i3 0 2 [ov, lv'] true, .row i2 0 2 [.sl .nil 0 [], .sl .nil 0 []] true, .row i1 0 2 [ov, qv] true] ∧ ls = ops.take i)
    [1, 2, 3] ops.length (by omega) ⟨0, _, _, rfl, Nat.zero_le _, lkz (by rfl), rfl, rfl⟩ (by rfl) ?_
  rintro d L T1 ⟨i, lv', ls, rfl, hi, h4, rfl, hls⟩ hA
  by_cases c : i < ops.length
  · have : Is (decide ((i : Int) < (ops.length : Int))) true := ⟨by simpa using c⟩
    generalize hy : ops[i] = y
    have hy' : ops[i]? = some y := by rw [List.getElem?_eq_getElem c, hy]
    have e1 : ElAt ops i y := ⟨hy'⟩
    have hl : ls.length = i := by rw [hls, List.length_take]; omega
    (repeat first|refine Wk.go ?_|refine qal ?_|intro _)
    refine qbo [0, 1, 2, 3, 4, 5, 6, 7, 8, 9, 10] [0, 1, 0, 4, 0, 28, 60, 124, 255, 511, 1023] (by kernel_rfl) (by kernel_rfl) (by rfl) ?_
    (repeat first|refine Wk.go ?_|refine qal ?_|intro _)
    rename_i lv2
    refine lend (ops.length - (i + 1)) _ (by omega) ⟨i + 1, lv2, ls ++ [y], rfl, c, inferInstance, rfl, ?_⟩
    rw [List.take_succ_eq_append_getElem c, hy, hls]
  · have : Is (decide ((i : Int) < (ops.length : Int))) false := ⟨by simpa using c⟩
    have hl : ls = ops := by rw [hls, List.take_of_length_le (by omega)]
    rw [hl]
    (repeat first|refine Wk.go ?_|refine qal ?_|intro _)
    exact fin ⟨lv', rfl, rfl⟩
/-- are two plans the same? -/
theorem same_w (S : S27' pol sums) {n : Nat} {W : List Ck} {ov qv ov2 qv2 : AV} {o q o2 q2 : List Int} [HasRows [] W ov qbd 1 o] [HasRows [] W qv qbd 1 q] [HasRows [] W ov2 qbd 1 o2] [HasRows [] W qv2 qbd 1 q2] (hn : o.length + q.length + 4 ≤ n) (hb : o.length < 2 ^ 60) (hb2 : q.length < 2 ^ 60) (ho : o = o2) (hq : q = q2) :
    Cal [] W (qat Try.prog pol sums n (.func (.func 32) [] []) [.agg [ov, qv], .agg [ov2, qv2]]) (fun r N => r = .bool true ∧ N = []) := by
  subst ho hq
  refine qbh (f := 32) (nt := 39) (rs := [.tmp 4]) (by omega) (by first | assumption | exact S.rest _ (by decide)) Try.func32 rfl rfl rfl rfl fun m h0 T hm aT => ?_
  (repeat first|refine Wk.go ?_|refine qal ?_|intro _)
  refine qad (sameInts_w S (l := o) (l2 := o) (by omega) hb) ?_
  rintro _ _ ⟨rfl, rfl⟩
  have : Is (decide (o = o)) true := ⟨by simp⟩
  have : Is ((q.length : Int) != (q.length : Int)) false := ⟨by simp⟩
  (repeat first|refine Wk.go ?_|refine qal ?_|intro _)
  refine A_loopR (fun d T => ∃ i, d = q.length - i ∧ i ≤ q.length ∧ Lk T 5 (.int .i64 (i : Nat))) [2, 3] q.length (by omega) ⟨0, rfl, Nat.zero_le _, lkz (by rfl)⟩ (by rfl) ?_
  rintro d T1 ⟨i, rfl, hi, h5⟩ hA
  by_cases c : i < q.length
  · have : Is (decide ((i : Int) < (q.length : Int))) true := ⟨by simpa using c⟩
    have e1 : ElAt q i q[i] := ⟨List.getElem?_eq_getElem c⟩
    have : Is (q[i] != q[i]) false := ⟨by simp⟩
    (repeat first|refine Wk.go ?_|refine qal ?_|intro _)
    refine qbo [0, 1, 2, 3, 4, 5, 6, 7, 8, 9, 10] [0, 1, 0, 7, 15, 0, 32, 0, 224, 480, 1023] (by kernel_rfl) (by kernel_rfl) (by rfl) ?_
    (repeat first|refine Wk.go ?_|refine qal ?_|intro _)
    exact lend (q.length - (i + 1)) _ (by omega) ⟨rfl, i + 1, rfl, c, inferInstance⟩
  · have : Is (decide ((i : Int) < (q.length : Int))) false := ⟨by simpa using c⟩
    (repeat first|refine Wk.go ?_|refine qal ?_|intro _)
    exact fin ⟨rfl, rfl⟩
end Go.Am
namespace Go.Am
open Go AM
set_option linter.unusedVariables false
set_option synthInstance.maxHeartbeats 200000
theorem afill_ok {sz len : Nat} : ∀ {parts : List (Nat × AV)} {cells c' : List AV}, afillL ((List.range len).map fun i => (i * sz, sz)) cells parts = some c' → afill (fun i => some (i * sz, sz)) cells parts = pure c' ∧ c'.length = cells.length := by
  intro parts
  induction parts with
  | nil => intro cells c' e; cases e; exact ⟨rfl, rfl⟩
  | cons p r ih =>
    obtain ⟨j, v⟩ := p
    intro cells c' e
    simp only [afillL] at e
    cases hf : ((List.range len).map fun i => (i * sz, sz))[j]? with
    | none => rw [hf] at e; cases e
    | some p =>
      obtain ⟨off, size⟩ := p
      rw [hf] at e
      obtain ⟨hj, hq⟩ := List.getElem?_eq_some_iff.1 hf
      simp at hq
      obtain ⟨rfl, rfl⟩ := hq
      dsimp only at e
      cases hc : (Nat.beq (acells v).length sz && Nat.ble (j * sz + sz) cells.length && known v) with
      | false => rw [hc] at e; cases e
      | true =>
        rw [hc] at e
        simp only [afill]
        obtain ⟨h1, h2⟩ := ih e
        rw [hc, qar, qaa, h1]
        simp only [Bool.and_eq_true] at hc
        have h3 : (acells v).length = sz := by simpa using hc.1.1
        have h4 : j * sz + sz ≤ cells.length := by simpa using hc.1.2
        exact ⟨rfl, by rw [h2, qby (by omega)]⟩
section
variable {h0 : Hp} {X : List Nat} {W L : List Ck} {P : Program} {pol : Pol} {call : qa6} {fn nt : Nat} {R : Rg} {rest : List (Nat × Oper)} {ds : List (Nat × Option Tmp)} {seen : Seen} {T : qag} {Q : qag → Hp → Prop} {i : Nat} {d : Option Tmp} {ty : TypeId} {pos : String} {after : Array Edge}
variable {α : Type} {f : α → List AV} {sz : Nat}
theorem aops_buildArr {t e : TypeId} {len n : Nat} {parts : List (Nat × Operand)} {l : List (Nat × AV)} {xs : List α} {z : AV} [ht : TSl P t e] [hs : TSz P e sz] [hz' : qam P e z] [hl : Evp T parts l] [hb : BL L W 0 l f xs] [fl : FL f sz] [hn : LenL xs n] [he : Same (Nat.beq n (len + 1)) true]
    (h1 : (Nat.ble ((len + 1) * sz) 16777216 && Nat.beq (acells z).length sz) = true) (h2 : pol.lit fn (d.getD 0) = true)
    (g : ∀ id, qa3 ⟨h0, X, W⟩ (.arr f sz (.own id 0 0 (len + 1)) xs :: L) P pol call fn nt R rest ((i, d) :: ds) seen (qa2? nt T d (.own id 0 0 (len + 1))) Q) :
    qa3 ⟨h0, X, W⟩ L P pol call fn nt R ((i, ⟨d, .buildSlice t (len + 1) parts.toArray, ty, pos, after, none⟩) :: rest) ds seen T Q := fun h s e' => O_wf fun w => by
  simp only [Bool.and_eq_true] at h1
  have hzl : (acells z).length = sz := by simpa using h1.2
  have hlen : xs.length = len + 1 := by rw [hn.eq]; exact Nat.eq_of_beq_eq_true he.eq
  have hv := fill_all (n := len + 1) fl.len xs l 0 [] (qan (acells z) (len + 1)) (hb.p h s.all) (by simp) (by rw [repeat_length, hzl, hlen]) (by omega)
  simp only [List.nil_append] at hv
  obtain ⟨k1, k2⟩ := afill_ok hv
  have hfl : (qca f xs).length = (len + 1) * sz := by rw [qbt fl.len, hlen]
  have hab : qc3 P t (len + 1) l = pure (sz, qca f xs) := by
    simp only [qc3, elem_of ht.un]
    rw [qaa, hs.sz, qaa, h1.1, qar, qaa]
    simp only [zeroUnless, hz'.zero]
    rw [qaa, h1.2, Bool.or_true, qar, qaa, k1, qaa]
  refine O_make rfl rfl ?_
  simp only [aop, hl.eq, hab]
  rw [qaa]
  dsimp only
  rw [h2]
  refine Runs.bind (Runs.halloc (Runs.pure (g h.next _ ?_ e'.step)))
  have r : Row ⟨h.obj.set h.next (some ⟨0, 0, .row sz (qca f xs) true⟩), h.next + 1⟩ h.next 0 sz (qca f xs) true := ⟨_, qbm _ _ _ _⟩
  have hsl : Rows f sz ⟨h.obj.set h.next (some ⟨0, 0, .row sz (qca f xs) true⟩), h.next + 1⟩ (.own h.next 0 0 (len + 1)) xs := by
    have := SlV.own (sz := sz) h.next 0 0 (len + 1) _ true r (by rw [hfl]; omega)
    rw [List.drop_zero, List.take_of_length_le (by omega)] at this
    show SlV _ sz _ xs.length _
    rw [hlen]; exact this
  exact s.new w (Keep.alloc w _) (N := [.arr f sz (.own h.next 0 0 (len + 1)) xs]) (fun c hc => by rcases List.mem_singleton.1 hc with rfl; exact ⟨hsl, rfl, by simp [qa4]⟩) (by simp [cids, Ck.arr, qa4]) (by simp [cids, Ck.arr, qa4])
class LitT (pol : Pol) (fn : Nat) (d : Option Tmp) : Prop where eq : pol.lit fn (d.getD 0) = true
instance (priority := 1300) wk_buildArr {t e : TypeId} {len n : Nat} {parts : List (Nat × Operand)} {l : List (Nat × AV)} {xs : List α} {z : AV} [lt : LitT pol fn d] [ht : TSl P t e] [hs : TSz P e sz] [hz' : qam P e z] [hl : Evp T parts l] [hb : BL L W 0 l f xs] [fl : FL f sz] [hn : LenL xs n] [he : Same (Nat.beq n (len + 1)) true] :
    Wk (qa3 ⟨h0, X, W⟩ L P pol call fn nt R ((i, ⟨d, .buildSlice t (len + 1) parts.toArray, ty, pos, after, none⟩) :: rest) ds seen T Q)
      ((Nat.ble ((len + 1) * sz) 16777216 && Nat.beq (acells z).length sz) = true ∧ ∀ id, qa3 ⟨h0, X, W⟩ (.arr f sz (.own id 0 0 (len + 1)) xs :: L) P pol call fn nt R rest ((i, d) :: ds) seen (qa2? nt T d (.own id 0 0 (len + 1))) Q) :=
  ⟨fun g => aops_buildArr g.1 lt.eq g.2⟩
end
end Go.Am
namespace Go.Am
open Go Go.Proofs AM
set_option maxRecDepth 10000
set_option synthInstance.maxHeartbeats 400000
set_option synthInstance.maxSize 4000
set_option linter.unusedVariables false
variable {pol : Pol} {sums : Sums}
instance (priority := 500) enc_slt5 {a b c d : Str} {k : Int} : Enc [.str a, .int .i64 k, .str b, .str c, .str d] sltC ⟨a, ⟨k, b, c, d⟩⟩ := ⟨rfl⟩
instance (priority := 500) enc_ptn15 {a b c d a' b' c' d' a2 b2 c2 d2 : Str} {k k' k2 : Int} : Enc [.str a, .int .i64 k, .str b, .str c, .str d, .str a', .int .i64 k', .str b', .str c', .str d', .str a2, .int .i64 k2, .str b2, .str c2, .str d2] qcd ⟨⟨a, ⟨k, b, c, d⟩⟩, ⟨a', ⟨k', b', c', d'⟩⟩, ⟨a2, ⟨k2, b2, c2, d2⟩⟩⟩ := ⟨rfl⟩
instance (priority := 500) enc_lin7 {b c d : Str} {k x y z : Int} : Enc [.int .i64 k, .str b, .str c, .str d, .int .i64 x, .int .i64 y, .int .i64 z] linC ⟨⟨k, b, c, d⟩, x, y, z⟩ := ⟨rfl⟩
section
attribute [local irreducible] ACo AK AT qa3 ARs Fin Cal KLp KFun
theorem free_w (h : sums 10 = none) {n : Nat} {W : List Ck} {s : Str} (hn : 1 ≤ n) : Cal [] W (qat Try.prog pol sums n (.func (.func 10) [] []) [.str s]) (fun r N => r = .agg [.str s, .int .i64 0, .str [], .str [], .str []] ∧ N = []) := by
  refine qbh (f := 10) (nt := 5) (rs := [.cell 2 41]) (by omega) (by first | assumption | exact S.rest _ (by decide)) Try.func10 rfl rfl rfl rfl fun m h0 T hm aT => ?_
  (repeat first|refine Wk.go ?_|refine qal ?_|intro _)
  exact fin ⟨rfl, rfl⟩
theorem iri_w (h : sums 12 = none) {n : Nat} {W : List Ck} {s : Str} (hn : 1 ≤ n) : Cal [] W (qat Try.prog pol sums n (.func (.func 12) [] []) [.str s]) (fun r N => r = .agg [.int .i64 1, .str s, .str [], .str []] ∧ N = []) := by
  refine qbh (f := 12) (nt := 5) (rs := [.cell 2 39]) (by omega) (by first | assumption | exact S.rest _ (by decide)) Try.func12 rfl rfl rfl rfl fun m h0 T hm aT => ?_
  (repeat first|refine Wk.go ?_|refine qal ?_|intro _)
  exact fin ⟨rfl, rfl⟩
theorem one_w (h : sums 11 = none) {n : Nat} {W : List Ck} {k : Int} {a b c : Str} (hn : 1 ≤ n) : Cal [] W (qat Try.prog pol sums n (.func (.func 11) [] []) [.agg [.int .i64 k, .str a, .str b, .str c]]) (fun r N => r = .agg [.str [], .int .i64 k, .str a, .str b, .str c] ∧ N = []) := by
  refine qbh (f := 11) (nt := 5) (rs := [.cell 2 41]) (by omega) (by first | assumption | exact S.rest _ (by decide)) Try.func11 rfl rfl rfl rfl fun m h0 T hm aT => ?_
  (repeat first|refine Wk.go ?_|refine qal ?_|intro _)
  exact fin ⟨rfl, rfl⟩
def polE : Pol := ⟨fun f t => Nat.beq f 13 && Nat.beq t 7⟩
abbrev exLin : List Lin := [⟨⟨1, [112], [], []⟩, 2, 2, 2⟩, ⟨⟨1, [113], [], []⟩, 1, 1, 1⟩]
theorem example_w {n : Nat} {W : List Ck} (hn : 20 ≤ n) : Cal [] W (qat Try.prog polE sums28 n (.func (.func 13) [] []) []) (fun r N => ∃ lv pv, r = .tuple [.agg [.int .i64 3, .int .i64 2, .int .i64 2, .int .i64 3, lv], pv] ∧ N = [.arr linC 7 lv exLin]) := by
  have S := s28
  have h13 : sums28 13 = none := rfl
  have : LitT polE 13 (some 7) := ⟨rfl⟩
  refine qbh (f := 13) (nt := 20) (rs := [.cell 0 24, .tmp 1]) (by omega) (by first | assumption | exact S.rest _ (by decide)) Try.func13 rfl rfl rfl rfl fun m h0 T hm aT => ?_
  (repeat first|refine Wk.go ?_|refine qal ?_|intro _)
  refine qad (iri_w (S.rest _ (by decide)) (by omega)) ?_
  rintro _ _ ⟨rfl, rfl⟩
  (repeat first|refine Wk.go ?_|refine qal ?_|intro _)
  refine qad (iri_w (S.rest _ (by decide)) (by omega)) ?_
  rintro _ _ ⟨rfl, rfl⟩
  (repeat first|refine Wk.go ?_|refine qal ?_|intro _)
  refine qbo [0, 1, 2, 3, 4, 5, 6, 7, 8, 9, 11, 10, 12] [0, 0, 2, 6, 14, 14, 46, 110, 238, 494, 1022, 495, 4095] (by kernel_rfl) (by kernel_rfl) (by rfl) ?_
  (repeat first|refine Wk.go ?_|refine qal ?_|intro _)
  refine qad (free_w (S.rest _ (by decide)) (by omega)) ?_
  rintro _ _ ⟨rfl, rfl⟩
  (repeat first|refine Wk.go ?_|refine qal ?_|intro _)
  refine qad (free_w (S.rest _ (by decide)) (by omega)) ?_
  rintro _ _ ⟨rfl, rfl⟩
  (repeat first|refine Wk.go ?_|refine qal ?_|intro _)
  refine qad (free_w (S.rest _ (by decide)) (by omega)) ?_
  rintro _ _ ⟨rfl, rfl⟩
  (repeat first|refine Wk.go ?_|refine qal ?_|intro _)
  refine qad (free_w (S.rest _ (by decide)) (by omega)) ?_
  rintro _ _ ⟨rfl, rfl⟩
  (repeat first|refine Wk.go ?_|refine qal ?_|intro _)
  refine qad (iri_w (S.rest _ (by decide)) (by omega)) ?_
  rintro _ _ ⟨rfl, rfl⟩
  (repeat first|refine Wk.go ?_|refine qal ?_|intro _)
  refine qad (one_w (S.rest _ (by decide)) (by omega)) ?_
  rintro _ _ ⟨rfl, rfl⟩
  (repeat first|refine Wk.go ?_|refine qal ?_|intro _)
  refine qad (free_w (S.rest _ (by decide)) (by omega)) ?_
  rintro _ _ ⟨rfl, rfl⟩
  (repeat first|refine Wk.go ?_|refine qal ?_|intro _)
  exact fin ⟨_, _, rfl, rfl⟩
end
noncomputable def exSum : List AV → AM AV
  | [] => qat Try.prog polE sums28 30 (.func (.func 13) [] []) []
  | _ => AM.fail
theorem ex_ok {args : List AV} {h h' : Hp} {v : AV} {μ : Nat → Nat} {w : World} {xs : List Value} (e : (exSum args).run h = some (v, h')) (s : SR h μ w) (r : VRs h μ w args xs) (hf : Fresh h h') : CallsIn Fence.wide 0 Try.prog 13 xs.toArray w (Got h μ w v h') := by
  match args, e with
  | [], e =>
    unfold exSum at e
    simp only [qat, List.append_nil] at e
    have hcs := acall_sound (pol := polE) progOk sums28_ok 29
    exact (afunc_calls hcs (region_ok progOk hcs) sums28_ok _ 13 e s r hf).2
  | _ :: _, e => cases e
end Go.Am
namespace Go.Am
open Go Go.Proofs AM
set_option maxRecDepth 10000
set_option linter.unusedVariables false
noncomputable def sums29 : Sums := fun f => match Nat.beq f 41 with
  | true => some overSum
  | false => match Nat.beq f 13 with
    | true => some exSum
    | false => sums28 f
theorem s29 : S27' pol27 sums29 where
  lit := fun _ _ => rfl
  has := rfl
  rest := fun f h => by
    have e : Nat.beq f 41 = false := by
      cases hq : Nat.beq f 41 with
      | false => rfl
      | true => exact absurd (List.mem_cons_of_mem _ (List.mem_cons.2 (.inl (Nat.eq_of_beq_eq_true hq)))) h
    have e2 : Nat.beq f 13 = false := by
      cases hq : Nat.beq f 13 with
      | false => rfl
      | true => exact absurd (List.mem_cons_of_mem _ (List.mem_cons_of_mem _ (List.mem_cons.2 (.inl (Nat.eq_of_beq_eq_true hq))))) h
    have := s28.rest f h
    simp only [sums29, e, e2]; exact this
  list := rfl
  sort := rfl
  grow := rfl
theorem sums29_ok : SumsOk Try.prog sums29 := fun f sm h => by
  unfold sums29 at h
  cases h1 : Nat.beq f 41 with
  | true =>
    rw [h1] at h; cases h
    obtain rfl := Nat.eq_of_beq_eq_true h1
    exact ⟨⟨_, _, Try.func41, rfl⟩, fun args h h' v μ w xs e s r _ => over_ok e s r⟩
  | false =>
    rw [h1] at h
    cases h2 : Nat.beq f 13 with
    | true =>
      rw [h2] at h; cases h
      obtain rfl := Nat.eq_of_beq_eq_true h2
      exact ⟨⟨_, _, Try.func13, rfl⟩, fun args h h' v μ w xs e s r hf => ex_ok e s r hf⟩
    | false =>
      rw [h2] at h
      exact sums28_ok f sm h
theorem exs_w {n : Nat} {W : List Ck} (hn : 1 ≤ n) : Cal [] W (qat Try.prog pol27 sums29 n (.func (.func 13) [] []) []) (fun r N => ∃ lv pv, r = .tuple [.agg [.int .i64 3, .int .i64 2, .int .i64 2, .int .i64 3, lv], pv] ∧ N = [.arr linC 7 lv exLin]) :=
  Cal_sum (by omega) (s := exSum) rfl (example_w (n := 30) (by omega))
theorem over_w {n : Nat} {W : List Ck} {v : AV} {xs : List Int} (hn : 1 ≤ n) (hb : xs.length < 100000000000) :
    Cal [.gw qbd 1 v xs] W (qat Try.prog pol27 sums29 n (.func (.func 41) [] []) [v]) (fun r N => r = .tuple [] ∧ N = []) :=
  Cal_sum (by omega) (s := overSum) rfl fun h s => Runs.wf fun w => by
    obtain ⟨r, gb, hv⟩ := s.all (.gw qbd 1 v xs) (by simp)
    have r : SlV h 1 v xs.length (qca qbd xs) := r
    have hfl : (qca qbd xs).length = xs.length * 1 := qbt (f := qbd) (fun _ => rfl) xs
    have hne : xs = [] ↔ xs.length = 0 := List.length_eq_zero_iff.symm
    generalize hN : xs.length = N at *
    generalize hF : qca qbd xs = F at *
    cases r with
    | imm k n _ e =>
      have h0 : N = 0 := by
        cases N with
        | zero => rfl
        | succ m => exact absurd rfl (hv (fun c => by have := hne.1 c; omega))
      subst h0
      obtain rfl : F = [] := List.length_eq_zero_iff.1 (by simpa using hfl)
      have hk : overSum [.sl k 0 []] = pure (.tuple []) := by cases k <;> first | rfl | cases gb
      rw [hk]
      exact Runs.pure ⟨[], ⟨rfl, rfl⟩, s.sb inferInstance⟩
    | own id ver off n row fix r0 e0 =>
      have ho0 : off = 0 := by simpa [qcr] using gb
      subst ho0
      obtain ⟨st, ho⟩ := r0
      unfold overSum
      refine Runs.bind (Runs.row ho ?_)
      dsimp only
      rw [show (Nat.beq 1 1 && Nat.beq 0 0 && Nat.blt N 100000000000) = true by simp [Nat.blt_eq]; omega, qar, qaa]
      refine Runs.bind (Runs.hput ho (by simp) (Runs.pure ⟨[], ⟨rfl, rfl⟩, ?_⟩))
      have u : Up [Ck.gw qbd 1 (.own id ver 0 N) xs] (Ck.gw qbd 1 (.own id ver 0 N) xs) (Ck.row id (ver + 1) 1 [] false) [Ck.row id (ver + 1) 1 [] false] := up_0
      refine St.sb (L := [Ck.row id (ver + 1) 1 [] false]) ?_ inferInstance
      exact s.up u w ((KeepBut.put _).weaken (by rintro i rfl; simp [Ck.gw, qa4])) ⟨_, qbm _ _ _ _⟩ (fun i hi => .inl (by simpa [Ck.row, Ck.gw, qa4] using hi)) (by simp [Ck.row])
end Go.Am
namespace Go.Am
open Go Go.Proofs AM
set_option maxRecDepth 10000
set_option synthInstance.maxHeartbeats 400000
set_option synthInstance.maxSize 4000
set_option linter.unusedVariables false
theorem right_true {pats : List Ptn} {order ops : List Int} (h : qbf pats order ops = true) : ∃ o : List Nat, order = zs o ∧ (∀ i ∈ o, i < pats.length) ∧ o.length = pats.length ∧ o.Perm (List.range pats.length) ∧ ops.length = pats.length := by
  simp only [qbf, Bool.and_eq_true] at h
  obtain ⟨o, h1, h2, h3, h4⟩ := wholeZ_true h.1.1
  exact ⟨o, h1, h2, h3, h4, by simpa using h.1.2⟩
instance hasrows_marksP {L W : List Ck} {V : AV} {l : List Ptn} {i : Nat} [a : HasRows L W V qcd 15 (marksP l i)] : HasRows L W (subV V 0 l.length 15) qcd 15 l :=
  have a' : HasRows L W V qcd 15 (l ++ (List.range i).map fun j => markPt 1 (j : Nat)) := a
  hasrows_pre (r := a')
instance hasrows_marksI {L W : List Ck} {V : AV} {l : List Int} {i : Nat} [a : HasRows L W V qbd 1 (qcw l i)] : HasRows L W (subV V 0 l.length 1) qbd 1 l :=
  have a' : HasRows L W V qbd 1 (l ++ (List.range i).map fun j => markZ 1 (j : Nat)) := a
  hasrows_pre (r := a')
theorem awake29_w {n : Nat} {W : List Ck} (hn : 1 ≤ n) : Cal [] W (qat Try.prog pol27 sums29 n (.func (.func 6) [] []) []) (fun r N => r = .bool true ∧ N = []) :=
  Cal_sum (by omega) (s := awakeSum) rfl (Cal.of0 fun h w k => Runs.pure ⟨Keep.refl h, rfl⟩)
theorem overNil_w {n : Nat} {W : List Ck} (hn : 1 ≤ n) : Cal [] W (qat Try.prog pol27 sums29 n (.func (.func 41) [] []) [.sl .nil 0 []]) (fun r N => r = .tuple [] ∧ N = []) :=
  Cal_sum (by omega) (s := overSum) rfl (Cal.of0 fun h w k => Runs.pure ⟨Keep.refl h, rfl⟩)
theorem overA_w {n : Nat} {W : List Ck} {v : AV} {xs : List Int} (hn : 1 ≤ n) (hb : xs.length < 100000000000) : Cal [.arr qbd 1 v xs] W (qat Try.prog pol27 sums29 n (.func (.func 41) [] []) [v]) (fun r N => r = .tuple [] ∧ N = []) :=
  fun h s => over_w (W := W) (v := v) hn hb h (s.sb (inferInstance : Sb [Ck.arr qbd 1 v xs] [Ck.gw qbd 1 v xs]))
class NilL {α : Type} (l : List α) : Prop where eq : l = []
section
variable {h0 : Hp} {X : List Nat} {W L : List Ck} {P : Program} {pol : Pol} {call : qa6} {fn nt fuel : Nat} {R : Rg} {rest : List (Nat × Oper)} {ds : List (Nat × Option Tmp)} {seen : Seen} {T : qag} {Q : qag → Hp → Prop} {i : Nat} {d : Option Tmp} {ty : TypeId} {pos : String} {after : Array Edge}
variable {α : Type} {f : α → List AV} {sz : Nat}
instance (priority := 1250) wk_append0N {m : List α} {args : List Operand} {t u e e' : TypeId} {bytes : Nat} {z s0 x : AV} [ht : TSl P t e] [hu : TSl P u e'] [hs : TSz P e sz] [hb' : qae P e bytes] [hz' : qam P e z]
    [ha : Evs T args [s0, x]] [n0 : Nil0 s0] [hx : HasRows L W x f sz m] [nl : NilL m] :
    Wk (qa3 ⟨h0, X, W⟩ L P pol call fn nt R ((i, ⟨d, .call ⟨.builtin .append, args.toArray, [t, u].toArray⟩, ty, pos, after, none⟩) :: rest) ds seen T Q)
      ((!(Nat.beq sz 0) && !(Nat.beq bytes 0) && Nat.beq (acells z).length sz) = true ∧ qa3 ⟨h0, X, W⟩ L P pol call fn nt R rest ((i, d) :: ds) seen (qa2? nt T d s0) Q) := by
  obtain rfl := nl.eq
  exact wk_append0
end
section
attribute [local irreducible] ACo AK AT qa3 ARs Fin Cal KLp KFun
theorem none_w {n : Nat} {C W : List Ck} {Y : AV} (hn : 1 ≤ n) : Cal C W (qat Try.prog pol27 sums29 n (.func (.func 65) [] []) [Y]) (fun r N => N = C) := by
  have S := s29
  refine qbh (f := 65) (nt := 2) (rs := []) (by omega) (by first | assumption | exact S.rest _ (by decide)) Try.func65 rfl rfl rfl rfl fun m h0 T hm aT => ?_
  (repeat first|refine Wk.go ?_|refine qal ?_|intro _)
  exact fin rfl
theorem planTells_bad {n : Nat} {W : List Ck} {x : Sts} {lv ov qv pv : AV} {o q : List Int} {pats : List Ptn} (turn : Int) [HasRows [] W lv linC 7 x.lines] [HasRows [] W ov qbd 1 o] [HasRows [] W qv qbd 1 q] [HasRows [] W pv qcd 15 pats]
    (hx : StsOk x) (hn : 2000 ≤ n) (h1 : x.lines.length ≤ 30) (h2 : pats.length ≤ 30) (h3 : o.length + q.length ≤ 120) (hr : qbf pats o q = false) :
    Cal [] W (qat Try.prog pol27 sums29 n (.func (.func 14) [] []) [.agg (stsC x lv), .agg [ov, qv], .int .i64 turn, pv]) (fun r N => r = .bool true ∧ N = []) := by
  have S := s29
  obtain ⟨hperm, hops, hright⟩ := planZ_ok x pats
  have hpl : (qb4 x pats).1.length = pats.length := by have := hperm.length_eq; simpa using this
  have hpz := qa7 (qb4 x pats).1
  have hif : (if qbf pats o q then (0 : Int) else 18) = 18 := by rw [hr]; rfl
  have : Is ((18 : Int) == 18) true := ⟨rfl⟩
  have : Is (decide ((x.lines.length : Int) > 30)) false := ⟨by simp; omega⟩
  have : Is (decide ((pats.length : Int) > 30)) false := ⟨by simp; omega⟩
  have : Is (decide (((o.length + q.length : Nat) : Int) > 120)) false := ⟨by simp; omega⟩
  by_cases hqe : q = []
  have := NilL.mk hqe
  have hnil : ∀ L W : List Ck, HasRows L W (.sl .full 0 []) qbd 1 q := fun L W => by subst hqe; exact ⟨fun h k => .imm _ 0 [] (by simp)⟩
  rotate_left
  have := NeL.mk hqe
  all_goals
    refine qbh (f := 14) (nt := 169) (rs := [.cell 8 4]) (by omega) (by first | assumption | exact S.rest _ (by decide)) Try.func14 rfl rfl rfl rfl fun m h0 T hm aT => ?_
    (repeat first|refine Wk.go ?_|refine qal ?_|intro _)
    refine qbo [0, 2, 3, 1, 4, 5, 6] [0, 1, 0, 4, 15, 31, 63] (by kernel_rfl) (by kernel_rfl) (by rfl) ?_
    (repeat first|refine Wk.go ?_|refine qal ?_|intro _)
    refine qad (lentPats_w S (l := pats) (by omega) (by omega)) ?_
    rintro _ _ ⟨pV, rfl, rfl⟩
    (repeat first|refine Wk.go ?_|refine qal ?_|intro _)
    refine qad (lentInts_w S (l := o) (by omega) (by omega)) ?_
    rintro _ _ ⟨oV, rfl, rfl⟩
    (repeat first|refine Wk.go ?_|refine qal ?_|intro _)
    refine qad (of_w S (x := x) (pats := pats) (by omega) (by omega) (by omega)) ?_
    rintro _ _ ⟨av, bv, rfl, rfl⟩
    (repeat first|refine Wk.go ?_|refine qal ?_|intro _)
    first
    | refine qad (turnedBadP_w S turn (order := o) (ops := q) (pats := pats) (l0 := qcw o 12) (by omega) (by omega) (by omega) (by omega) hr (.inl ⟨rfl, hqe⟩)) ?_
    | refine qad (turnedBadP_w S turn (order := o) (ops := q) (pats := pats) (l0 := qcw o 12) (by omega) (by omega) (by omega) (by omega) hr (.inr ⟨inferInstance, hqe⟩)) ?_
    rintro _ _ ⟨tv, uv, rfl, rfl⟩
    (repeat first|refine Wk.go ?_|refine qal ?_|intro _)
    refine qbo [0, 1, 3, 2, 4, 5, 6, 7, 8, 10, 12, 9, 11, 13, 14, 15, 16, 17, 18, 20, 21, 19, 22, 23, 24, 25, 26] [0, 0, 2, 0, 14, 31, 63, 127, 127, 511, 127, 2047, 127, 8191, 16383, 32767, 65535, 131071, 131071, 393215, 131071, 131071, 4063231, 8388607, 16777215, 0, 67108863] (by kernel_rfl) (by kernel_rfl) (by rfl) ?_
    (repeat first|refine Wk.go ?_|refine qal ?_|intro _)
    refine qad (theirs_w S (x := x) (by omega) (by omega)) ?_
    rintro _ _ ⟨lv', rfl, rfl⟩
    (repeat first|refine Wk.go ?_|refine qal ?_|intro _)
    refine qad (ofR_w S (x := x) (pats := pats) hx (by omega) (by omega) (by omega)) ?_
    rintro _ _ ⟨cv, dv, rfl, rfl⟩
    (repeat first|refine Wk.go ?_|refine qal ?_|intro _)
    refine qad (same_w S (o := zs (qb4 x pats).1) (q := (qb4 x pats).2) (by omega) (by omega) (by omega) rfl rfl) ?_
    rintro _ _ ⟨rfl, rfl⟩
    (repeat first|refine Wk.go ?_|refine qal ?_|intro _)
    refine qad (rightG_w S (order := o) (ops := q) (pats := pats) (by omega) (by omega) (by omega) (by omega)) ?_
    rintro _ _ ⟨rfl, rfl⟩
    rw [hif]
    (repeat first|refine Wk.go ?_|refine qal ?_|intro _)
    refine qad (ref_w S (l := o) (f := qbd) (sz := 1) (ops := q) (by omega) (by omega)) ?_
    rintro _ _ ⟨ev, rfl, rfl⟩
    (repeat first|refine Wk.go ?_|refine qal ?_|intro _)
    refine qad (rightR_w S (order := o) (ops := q) (pats := pats) (by omega) (by omega)) ?_
    rintro _ _ ⟨rfl, rfl⟩
    rw [hif]
    (repeat first|refine Wk.go ?_|refine qal ?_|intro _)
    refine qad (ref_w S (l := o) (f := qbd) (sz := 1) (ops := q) (by omega) (by omega)) ?_
    rintro _ _ ⟨fv, rfl, rfl⟩
    (repeat first|refine Wk.go ?_|refine qal ?_|intro _)
    refine qad (turnedBad_w S turn (order := o) (ops := q) (pats := pats) (by omega) (by omega) hr) ?_
    rintro _ _ ⟨rfl, rfl⟩
    (repeat first|refine Wk.go ?_|refine qal ?_|intro _)
    refine qad (same_w S (o := o) (q := q) (by omega) (by omega) (by omega) rfl rfl) ?_
    rintro _ _ ⟨rfl, rfl⟩
    (repeat first|refine Wk.go ?_|refine qal ?_|intro _)
    refine qad (ref_w S (l := o) (f := qbd) (sz := 1) (ops := q) (by omega) (by omega)) ?_
    rintro _ _ ⟨gv, rfl, rfl⟩
    (repeat first|refine Wk.go ?_|refine qal ?_|intro _)
    refine qad (stepsBad_w S (order := o) (ops := q) (pats := pats) (by omega) (by omega) hr) ?_
    rintro _ _ ⟨rfl, rfl⟩
    (repeat first|refine Wk.go ?_|refine qal ?_|intro _)
    refine qad (awake29_w (by omega)) ?_
    rintro _ _ ⟨rfl, rfl⟩
    (repeat first|refine Wk.go ?_|refine qal ?_|intro _)
    refine qad (stepsBadP_w S (order := o) (ops := q) (pats := pats) (by omega) (by omega) (by omega) (by omega) hr) ?_
    rintro _ _ ⟨rfl, rfl⟩
    (repeat first|refine Wk.go ?_|refine qal ?_|intro _)
    refine A_rangeL (C := []) rfl (fun N => N = []) (fun _ => False) (fun _ _ => False) ?_ ?_ (fun _ q => q.elim) (fun _ _ q => q.elim)
    · intro lid lp hlp
      exact (none_w (by omega)).mono fun v N e => ⟨[], .inl ⟨e, rfl⟩⟩
    · rintro N rfl
      (repeat first|refine Wk.go ?_|refine qal ?_|intro _)
      have : Is ((0 : Int) == ((0 : Nat) : Int)) true := ⟨rfl⟩
      refine A_call (C := [.gw qbd 1 tv o]) trivial (over_w (by omega) (by omega)) ?_
      rintro _ _ ⟨rfl, rfl⟩
      (repeat first|refine Wk.go ?_|refine qal ?_|intro _)
      refine qad (keptPats_w S (l := pats) (by omega) (by omega)) ?_
      rintro _ _ ⟨rfl, rfl⟩
      (repeat first|refine Wk.go ?_|refine qal ?_|intro _)
      refine qad (keptInts_w S (l := o) (by omega) (by omega)) ?_
      rintro _ _ ⟨rfl, rfl⟩
      (repeat first|refine Wk.go ?_|refine qal ?_|intro _)
      exact fin ⟨rfl, rfl⟩
theorem turned0g_w (S : S27' pol27 sums29) {n : Nat} {W : List Ck} {ov qv pv : AV} {o : List Nat} {q : List Int} {pats : List Ptn} (turn : Int) [a : HasRows [] W ov qbd 1 (zs o)] [b : HasRows [] W qv qbd 1 q] [c : HasRows [] W pv qcd 15 pats] (hn : 60 ≤ n) (ho : o = []) (hq : q = []) (hp : pats = []) :
    Cal [] W (qat Try.prog pol27 sums29 n (.func (.func 7) [] []) [.agg [ov, qv], .int .i64 turn, pv]) (fun r N => r = .agg [.sl .nil 0 [], .sl .nil 0 []] ∧ N = []) := by
  subst ho hq hp
  exact turned0_w S turn hn
theorem turnedNilg_w (S : S27' pol27 sums29) {n : Nat} {W : List Ck} {ov qv pv : AV} {o : List Nat} {q : List Int} {pats : List Ptn} (turn : Int) [a : HasRows [] W ov qbd 1 (zs o)] [b : HasRows [] W qv qbd 1 q] [c : HasRows [] W pv qcd 15 pats] (hn : 61 ≤ n) (ho : o = []) (hq : q = []) (hp : pats = []) :
    Cal [] W (qat Try.prog pol27 sums29 n (.func (.func 37) [] []) [.agg [ov, qv], .int .i64 turn, pv]) (fun r N => r = .agg [.sl .nil 0 [], .sl .nil 0 []] ∧ N = []) := by
  subst ho hq hp
  exact turnedNil_w S turn hn
set_option maxHeartbeats 1000000 in
theorem planTells_good {n : Nat} {W : List Ck} {x : Sts} {lv ov qv pv : AV} {o : List Nat} {q : List Int} {pats : List Ptn} (turn : Int) [HasRows [] W lv linC 7 x.lines] [HasRows [] W ov qbd 1 (zs o)] [HasRows [] W qv qbd 1 q] [HasRows [] W pv qcd 15 pats]
    (hx : StsOk x) (hn : 2000 ≤ n) (h1 : x.lines.length ≤ 30) (h2 : pats.length ≤ 30) (hr : qbf pats (zs o) q = true) (hor : ∀ i ∈ o, i < pats.length) (hol : o.length = pats.length) (hop : q.length = pats.length) :
    Cal [] W (qat Try.prog pol27 sums29 n (.func (.func 14) [] []) [.agg (stsC x lv), .agg [ov, qv], .int .i64 turn, pv]) (fun r N => r = .bool true ∧ N = []) := by
  have S := s29
  obtain ⟨hperm, hops, hright⟩ := planZ_ok x pats
  have hpl : (qb4 x pats).1.length = pats.length := by have := hperm.length_eq; simpa using this
  have hpz := qa7 (qb4 x pats).1
  have hz := qa7 o
  have hif : (if qbf pats (zs o) q then (0 : Int) else 18) = 0 := by rw [hr]; rfl
  have : Is ((0 : Int) == 0) true := ⟨rfl⟩
  have : Is (decide ((x.lines.length : Int) > 30)) false := ⟨by simp; omega⟩
  have : Is (decide ((pats.length : Int) > 30)) false := ⟨by simp; omega⟩
  have : Is (decide ((((zs o).length + q.length : Nat) : Int) > 120)) false := ⟨by simp; omega⟩
  have hnil2 : ∀ L W : List Ck, HasRows L W (.sl .nil 0 []) qbd 1 ([] : List Int) := fun L W => ⟨fun h k => .imm _ 0 [] (by simp)⟩
  generalize hO : zs (rot o (qct turn pats.length)) = O2 at *
  generalize hQ : qb1 pats turn (rot o (qct turn pats.length)) pats.length = Q2 at *
  by_cases hp : pats = []
  have hq0 : q = [] := List.eq_nil_of_length_eq_zero (by rw [hop, hp]; rfl)
  have ho0 : o = [] := List.eq_nil_of_length_eq_zero (by rw [hol, hp]; rfl)
  have := NilL.mk hq0
  have hnil : ∀ L W : List Ck, HasRows L W (.sl .full 0 []) qbd 1 q := fun L W => by subst hq0; exact ⟨fun h k => .imm _ 0 [] (by simp)⟩
  rotate_left
  have hne : 0 < pats.length := List.length_pos_iff.2 hp
  have hO2 : O2.length = pats.length := by
    have hk := turnK_lt turn hne
    have h := rot_length o (qct turn pats.length) (by omega)
    rw [← hO, qa7]; omega
  have hQ2 : Q2.length = pats.length := by
    have hk := turnK_lt turn hne
    have h := rot_length o (qct turn pats.length) (by omega)
    rw [← hQ, qbi]; omega
  have := NeL.mk (fun e : q = [] => by rw [e] at hop; simp at hop; omega)
  all_goals
    refine qbh (f := 14) (nt := 169) (rs := [.cell 8 4]) (by omega) (by first | assumption | exact S.rest _ (by decide)) Try.func14 rfl rfl rfl rfl fun m h0 T hm aT => ?_
    (repeat first|refine Wk.go ?_|refine qal ?_|intro _)
    refine qbo [0, 2, 3, 1, 4, 5, 6] [0, 1, 0, 4, 15, 31, 63] (by kernel_rfl) (by kernel_rfl) (by rfl) ?_
    (repeat first|refine Wk.go ?_|refine qal ?_|intro _)
    refine qad (lentPats_w S (l := pats) (by omega) (by omega)) ?_
    rintro _ _ ⟨pV, rfl, rfl⟩
    (repeat first|refine Wk.go ?_|refine qal ?_|intro _)
    refine qad (lentInts_w S (l := zs o) (by omega) (by omega)) ?_
    rintro _ _ ⟨oV, rfl, rfl⟩
    (repeat first|refine Wk.go ?_|refine qal ?_|intro _)
    refine qad (of_w S (x := x) (pats := pats) (by omega) (by omega) (by omega)) ?_
    rintro _ _ ⟨av, bv, rfl, rfl⟩
    (repeat first|refine Wk.go ?_|refine qal ?_|intro _)
    first
    | refine qad (turned0g_w S turn (o := o) (q := q) (pats := pats) (by omega) ho0 hq0 hp) ?_; rintro _ _ ⟨rfl, rfl⟩
    | refine qad (turnedP_w S turn (order := o) (ops := q) (pats := pats) (by omega) (by omega) (by omega) hr hol hor hne) ?_; rintro _ _ ⟨tv, uv, rfl, rfl⟩; rw [hO, hQ]
    (repeat first|refine Wk.go ?_|refine qal ?_|intro _)
    refine qbo [0, 1, 3, 2, 4, 5, 6, 7, 8, 10, 12, 9, 11, 13, 14, 15, 16, 17, 18, 20, 21, 19, 22, 23, 24, 25, 26] [0, 0, 2, 0, 14, 31, 63, 127, 127, 511, 127, 2047, 127, 8191, 16383, 32767, 65535, 131071, 131071, 393215, 131071, 131071, 4063231, 8388607, 16777215, 0, 67108863] (by kernel_rfl) (by kernel_rfl) (by rfl) ?_
    (repeat first|refine Wk.go ?_|refine qal ?_|intro _)
    refine qad (theirs_w S (x := x) (by omega) (by omega)) ?_
    rintro _ _ ⟨lv', rfl, rfl⟩
    (repeat first|refine Wk.go ?_|refine qal ?_|intro _)
    refine qad (ofR_w S (x := x) (pats := pats) hx (by omega) (by omega) (by omega)) ?_
    rintro _ _ ⟨cv, dv, rfl, rfl⟩
    (repeat first|refine Wk.go ?_|refine qal ?_|intro _)
    refine qad (same_w S (o := zs (qb4 x pats).1) (q := (qb4 x pats).2) (by omega) (by omega) (by omega) rfl rfl) ?_
    rintro _ _ ⟨rfl, rfl⟩
    (repeat first|refine Wk.go ?_|refine qal ?_|intro _)
    refine qad (rightG_w S (order := zs o) (ops := q) (pats := pats) (by omega) (by omega) (by omega) (by omega)) ?_
    rintro _ _ ⟨rfl, rfl⟩
    rw [hif]
    (repeat first|refine Wk.go ?_|refine qal ?_|intro _)
    refine qad (ref_w S (l := zs o) (f := qbd) (sz := 1) (ops := q) (by omega) (by omega)) ?_
    rintro _ _ ⟨ev, rfl, rfl⟩
    (repeat first|refine Wk.go ?_|refine qal ?_|intro _)
    refine qad (rightR_w S (order := zs o) (ops := q) (pats := pats) (by omega) (by omega)) ?_
    rintro _ _ ⟨rfl, rfl⟩
    rw [hif]
    (repeat first|refine Wk.go ?_|refine qal ?_|intro _)
    refine qad (ref_w S (l := zs o) (f := qbd) (sz := 1) (ops := q) (by omega) (by omega)) ?_
    rintro _ _ ⟨fv, rfl, rfl⟩
    (repeat first|refine Wk.go ?_|refine qal ?_|intro _)
    first
    | refine qad (turnedNilg_w S turn (o := o) (q := q) (pats := pats) (by omega) ho0 hq0 hp) ?_; rintro _ _ ⟨rfl, rfl⟩
    | refine qad (turnedR_w S turn (o := o) (ops := q) (pats := pats) (by omega) (by omega) hr hor hol hne) ?_; rintro _ _ ⟨tv2, uv2, rfl, rfl⟩; rw [hO, hQ]
    (repeat first|refine Wk.go ?_|refine qal ?_|intro _)
    first
    | refine qad (same_w S (o := O2) (q := Q2) (by omega) (by omega) (by omega) rfl rfl) ?_
    | refine qad (same_w S (o := ([] : List Int)) (q := ([] : List Int)) (by simp; omega) (by simp) (by simp) rfl rfl) ?_
    rintro _ _ ⟨rfl, rfl⟩
    (repeat first|refine Wk.go ?_|refine qal ?_|intro _)
    refine qad (ref_w S (l := zs o) (f := qbd) (sz := 1) (ops := q) (by omega) (by omega)) ?_
    rintro _ _ ⟨gv, rfl, rfl⟩
    (repeat first|refine Wk.go ?_|refine qal ?_|intro _)
    refine A_callT (C := []) trivial (stepsR_w S (o := o) (ops := q) (pats := pats) (by omega) (by omega) hr hor hol hop) ?_
    rintro rv _ ⟨recs, D, rfl, hrl, hall⟩
    (repeat first|refine Wk.go ?_|refine qal ?_|intro _)
    refine qad (awake29_w (by omega)) ?_
    rintro _ _ ⟨rfl, rfl⟩
    (repeat first|refine Wk.go ?_|refine qal ?_|intro _)
    rename_i ik
    refine qad (steps_w S (order := zs o) (ops := q) (pats := pats) (by omega) (by omega) (by omega) (by omega) hr) ?_
    rintro _ _ ⟨ip, iq, rfl, rfl⟩
    (repeat first|refine Wk.go ?_|refine qal ?_|intro _)
    refine A_rangeL (C := [.row ik 0 1 [.int .i64 0] true]) rfl (fun N => N = [.row ik 0 1 [.int .i64 (o.length : Nat)] true]) (fun _ => False) (fun _ _ => False) ?_ ?_ (fun _ q => q.elim) (fun _ _ q => q.elim)
    · intro lid lp hlp
      refine (each1_w S (order := o) (ops := q) (pats := pats) (by omega) (by omega) hor (by omega)
        (fun i C' => C' = lp .ready none :: [.row ik 0 1 [.int .i64 (i : Nat)] true]) (fun _ => False) rfl ?_).mono ?_
      · rintro i j op p E C' m' sv fv hj hpj ho hm rfl hs1 hf1
        simp only [hlp]
        refine Cal_yield (by omega) rfl ?_
        intro m2 h1 e2
        have hio : i < o.length := (List.getElem?_eq_some_iff.1 hj).1
        have hir : i < recs.length := by omega
        generalize hrec : recs[i] = rec
        have hrec' : recs[i]? = some rec := by rw [List.getElem?_eq_getElem hir, hrec]
        obtain ⟨j', p', op', q1, q2, q3, q4, q5, q6, hs2, hf2⟩ := hall i rec hrec'
        rw [hj] at q1; cases q1
        rw [hpj] at q2; cases q2
        rw [ho] at q3; cases q3
        have := ElAt.mk hrec'
        obtain ⟨pl, rop, rp, rs, rf, w1, w2⟩ := rec
        dsimp only at q4 q5 q6 hs2 hf2
        subst q4 q5 q6
        have hs3 : ∀ W : List Ck, HasRows D W rs strC 1 (qa1 (qaq pats o i) rp) := fun W => ⟨fun h k => hs2.has h fun c hc => k c (by simp at hc ⊢; exact .inl hc)⟩
        have hf3 : ∀ W : List Ck, HasRows D W rf strC 1 (fresh (qaq pats o i) rp) := fun W => ⟨fun h k => hf2.has h fun c hc => k c (by simp at hc ⊢; exact .inl hc)⟩
        have : Is (decide ((i : Int) ≥ (recs.length : Int))) false := ⟨by simp; omega⟩
        have : Is ((i : Int) != (i : Int)) false := ⟨by simp⟩
        have : Is ((j : Int) != (j : Int)) false := ⟨by simp⟩
        have : Is (rop != rop) false := ⟨by simp⟩
        have : Is (decide (rp = rp)) true := ⟨by simp⟩
        (repeat first|refine Wk.go ?_|refine qal ?_|intro _)
        refine qad (sameTexts_w S (l := qa1 (qaq pats o i) rp) (l2 := qa1 (qaq pats o i) rp) (by have := shared_fresh (qaq pats o i) rp; have := qbe [rp]; simp at this; omega) (by have := shared_fresh (qaq pats o i) rp; have := qbe [rp]; simp at this; omega)) ?_
        rintro _ _ ⟨rfl, rfl⟩
        have : Is (decide (qa1 (qaq pats o i) rp = qa1 (qaq pats o i) rp)) true := ⟨by simp⟩
        have : Is (decide (fresh (qaq pats o i) rp = fresh (qaq pats o i) rp)) true := ⟨by simp⟩
        (repeat first|refine Wk.go ?_|refine qal ?_|intro _)
        refine qad (sameTexts_w S (l := fresh (qaq pats o i) rp) (l2 := fresh (qaq pats o i) rp) (by have := shared_fresh (qaq pats o i) rp; have := qbe [rp]; simp at this; omega) (by have := shared_fresh (qaq pats o i) rp; have := qbe [rp]; simp at this; omega)) ?_
        rintro _ _ ⟨rfl, rfl⟩
        (repeat first|refine Wk.go ?_|refine qal ?_|intro _)
        exact fin ⟨true, rfl, fun _ => rfl, fun e => by cases e⟩
      · rintro v N (rfl | q)
        · exact ⟨_, .inl ⟨rfl, rfl⟩⟩
        · exact q.elim
    · rintro N rfl
      have : Is ((o.length : Int) == (recs.length : Int)) true := ⟨by simp; omega⟩
      (repeat first|refine Wk.go ?_|refine qal ?_|intro _)
      first
      | refine A_call (C := [.arr qbd 1 tv O2]) trivial (overA_w (by omega) (by omega)) ?_
      | refine qad (overNil_w (by omega)) ?_
      rintro _ _ ⟨rfl, rfl⟩
      (repeat first|refine Wk.go ?_|refine qal ?_|intro _)
      refine qad (keptPats_w S (l := pats) (by omega) (by omega)) ?_
      rintro _ _ ⟨rfl, rfl⟩
      (repeat first|refine Wk.go ?_|refine qal ?_|intro _)
      refine qad (keptInts_w S (l := zs o) (by omega) (by omega)) ?_
      rintro _ _ ⟨rfl, rfl⟩
      (repeat first|refine Wk.go ?_|refine qal ?_|intro _)
      exact fin ⟨rfl, rfl⟩
theorem planTells_w {n : Nat} {W : List Ck} {x : Sts} {lv ov qv pv : AV} {o q : List Int} {pats : List Ptn} (turn : Int) [a : HasRows [] W lv linC 7 x.lines] [b : HasRows [] W ov qbd 1 o] [c : HasRows [] W qv qbd 1 q] [d : HasRows [] W pv qcd 15 pats]
    (hx : StsOk x) (hn : 2000 ≤ n) (h1 : x.lines.length ≤ 30) (h2 : pats.length ≤ 30) (h3 : o.length + q.length ≤ 120) :
    Cal [] W (qat Try.prog pol27 sums29 n (.func (.func 14) [] []) [.agg (stsC x lv), .agg [ov, qv], .int .i64 turn, pv]) (fun r N => r = .bool true ∧ N = []) := by
  cases h : qbf pats o q with
  | false => exact planTells_bad turn hx hn h1 h2 h3 h
  | true =>
    obtain ⟨o', rfl, k1, k2, _, k3⟩ := right_true h
    exact planTells_good turn hx hn h1 h2 h k1 k2 k3
end
end Go.Am
namespace Go.Am
open Go Go.Proofs AM
set_option maxRecDepth 10000
set_option synthInstance.maxHeartbeats 400000
set_option synthInstance.maxSize 4000
set_option linter.unusedVariables false
/-! numbers that are not below 0 -/
section
variable {P : Program} {pol : Pol} {call : qa6} {fn nt : Nat} {R : Rg} {rest : List (Nat × Oper)} {ds : List (Nat × Option Tmp)} {seen : Seen} {T : qag} {Q : qag → Hp → Prop} {i : Nat} {d : Option Tmp} {ty : TypeId} {pos : String} {after : Array Edge} {B : Bs} {L : List Ck}
instance (priority := 1500) arn_rem {t t' : TypeId} {x y : Operand} {k : IntKind} {a b : Int} {n m : Nat} [hx : Ev T x (.int k a)] [hy : Ev T y (.int k b)] [na : NatOf a n] [nb : NatOf b m] :
    Wk (qa3 B L P pol call fn nt R ((i, ⟨d, .binOp .rem t x y t', ty, pos, after, none⟩) :: rest) ds seen T Q) (b ≠ 0 ∧ qa3 B L P pol call fn nt R rest ((i, d) :: ds) ((i, []) :: seen) (qa2? nt T d (.int k ((n % m : Nat) : Int))) Q) := ⟨fun g => Wk.go (P := qa3 B L P pol call fn nt R ((i, ⟨d, .binOp .rem t x y t', ty, pos, after, none⟩) :: rest) ds seen T Q) ⟨g.1, by
    have := g.2
    rw [na.eq, nb.eq]
    exact this⟩⟩
instance (priority := 1500) arn_quo {t t' : TypeId} {x y : Operand} {a b : Int} {n m : Nat} [hx : Ev T x (.int .i64 a)] [hy : Ev T y (.int .i64 b)] [na : NatOf a n] [nb : NatOf b m] :
    Wk (qa3 B L P pol call fn nt R ((i, ⟨d, .binOp .quo t x y t', ty, pos, after, none⟩) :: rest) ds seen T Q) (b ≠ 0 ∧ n < 9223372036854775808 ∧ qa3 B L P pol call fn nt R rest ((i, d) :: ds) ((i, []) :: seen) (qa2? nt T d (.int .i64 ((n / m : Nat) : Int))) Q) := ⟨fun g => Wk.go (P := qa3 B L P pol call fn nt R ((i, ⟨d, .binOp .quo t x y t', ty, pos, after, none⟩) :: rest) ds seen T Q) ⟨g.1, by
    have h2 := g.2.2
    have : (a.tdiv b) = ((n / m : Nat) : Int) := by rw [na.eq, nb.eq]; rfl
    have hle : n / m ≤ n := Nat.div_le_self _ _
    have hn := g.2.1
    generalize n / m = q at *
    rw [this, wrap64 rfl (by omega)]
    exact h2⟩⟩
theorem O_neg {h : Hp} {t : TypeId} {x : Operand} {k : IntKind} {n : Int} (hx : qaj T x = .int k n) (r : qbq P pol call fn nt R rest ((i, []) :: seen) (qa2? nt T d (.int k (k.wrap (0 - n)))) h Q) :
    qbq P pol call fn nt R ((i, ⟨d, .unOp .neg t x, ty, pos, after, none⟩) :: rest) seen T h Q := O_val rfl rfl (by simp [qbr, looksIn]) (by simp only [aop, hx, aun]) r
instance wk_neg {t : TypeId} {x : Operand} {k : IntKind} {n : Int} [hx : Ev T x (.int k n)] : Wk (qa3 B L P pol call fn nt R ((i, ⟨d, .unOp .neg t x, ty, pos, after, none⟩) :: rest) ds seen T Q) (qa3 B L P pol call fn nt R rest ((i, d) :: ds) ((i, []) :: seen) (qa2? nt T d (.int k (k.wrap (0 - n)))) Q) := ⟨aval fun h => O_neg hx.eq⟩
end
instance (priority := 1500) arn_mul {a b : Int} {n m : Nat} [na : NatOf a n] [nb : NatOf b m] : ArC .mul .i64 a b (.int .i64 ((n * m : Nat) : Int)) (n * m < 9223372036854775808) := ⟨fun h => by
  rw [na.eq, nb.eq]
  simp only [intR]
  rw [wrap64 (y := ((n * m : Nat) : Int)) (by simp) (by rw [← Int.natCast_mul]; omega)]⟩
instance (priority := 1400) arw_mul {a b : Int} : ArC .mul .i64 a b (.int .i64 (IntKind.wrap .i64 (a * b))) True := ⟨fun _ => rfl⟩
instance (priority := 1500) arn_add {a b : Int} {n m : Nat} [na : NatOf a n] [nb : NatOf b m] : ArC .add .i64 a b (.int .i64 ((n + m : Nat) : Int)) (n + m < 9223372036854775808) := ⟨fun h => by
  rw [na.eq, nb.eq]
  simp only [intR]
  rw [wrap64 (y := ((n + m : Nat) : Int)) (by simp) (by omega)]⟩
theorem wrap_range (z : Int) : I64 (IntKind.wrap .i64 z) := by
  unfold I64
  simp [IntKind.wrap, IntKind.signed, IntKind.bits]
  omega
abbrev sl7 : List Slt := [⟨[120], ⟨0, [], [], []⟩⟩, ⟨[121], ⟨0, [], [], []⟩⟩, ⟨[], ⟨1, [112], [], []⟩⟩, ⟨[122], ⟨0, [], [], []⟩⟩, ⟨[], ⟨1, [113], [], []⟩⟩, ⟨[119], ⟨0, [], [], []⟩⟩, ⟨[], ⟨1, [110, 111], [], []⟩⟩]
def sl (k : Nat) : Slt := sl7.getD k ⟨[], ⟨0, [], [], []⟩⟩
theorem sl_at (k : Nat) (h : k < 7) : ElAt sl7 k (sl k) := ⟨by unfold sl; rw [List.getD_eq_getElem?_getD, List.getElem?_eq_getElem (show k < sl7.length from h)]; rfl⟩
abbrev kz6 : List Int := [1, 50, -3, 0, 2305843009213693952, 100]
def kz (k : Nat) : Int := kz6.getD k 0
theorem kz_at (k : Nat) (h : k < 6) : ElAt kz6 k (kz k) := ⟨by unfold kz; rw [List.getD_eq_getElem?_getD, List.getElem?_eq_getElem (show k < kz6.length from h)]; rfl⟩
theorem el_at {α : Type} {l : List α} {k : Nat} (h : k < l.length) : ElAt l k l[k] := ⟨List.getElem?_eq_getElem h⟩
theorem tri_set {l l2 : List Lin} {i : Nat} {y : Lin} (e : l.set i y = l2) (h : ∀ x ∈ l, I64 x.tri) (hy : I64 y.tri) : ∀ x ∈ l2, I64 x.tri := by
  subst e
  intro x hx
  rcases List.mem_or_eq_of_mem_set hx with q | rfl
  · exact h x q
  · exact hy
abbrev ordV : List AV := [.sl .nil 0 [], .sl .full 1 [.int .i64 0], fullV qbd [1, 0], fullV qbd [0, 1], fullV qbd [2, 0, 1], fullV qbd [1, 2, 0], fullV qbd [0, 2, 1], fullV qbd [0, 0], fullV qbd [0, 1, 3], fullV qbd [-1, 0], fullV qbd [2, 1, 0]]
theorem ord_at (k : Nat) (h : k < 11) : ∃ (v : AV) (l : List Int), ElAt ordV k v ∧ l.length ≤ 3 ∧ ∀ L W : List Ck, HasRows L W v qbd 1 l := by
  match k, h with
  | 0, _ => exact ⟨_, [], ⟨rfl⟩, by decide, fun L W => ⟨fun h k => .imm _ 0 [] (by simp)⟩⟩
  | 1, _ => exact ⟨_, [0], ⟨rfl⟩, by decide, fun L W => inferInstance⟩
  | 2, _ => exact ⟨_, _, ⟨rfl⟩, by decide, fun L W => qcc⟩
  | 3, _ => exact ⟨_, _, ⟨rfl⟩, by decide, fun L W => qcc⟩
  | 4, _ => exact ⟨_, _, ⟨rfl⟩, by decide, fun L W => qcc⟩
  | 5, _ => exact ⟨_, _, ⟨rfl⟩, by decide, fun L W => qcc⟩
  | 6, _ => exact ⟨_, _, ⟨rfl⟩, by decide, fun L W => qcc⟩
  | 7, _ => exact ⟨_, _, ⟨rfl⟩, by decide, fun L W => qcc⟩
  | 8, _ => exact ⟨_, _, ⟨rfl⟩, by decide, fun L W => qcc⟩
  | 9, _ => exact ⟨_, _, ⟨rfl⟩, by decide, fun L W => qcc⟩
  | 10, _ => exact ⟨_, _, ⟨rfl⟩, by decide, fun L W => qcc⟩
  | k + 11, h => exact absurd h (by omega)
theorem sub3 {l : List Ptn} {k : Nat} (h3 : l.length = 3) (hk : k ≤ 3) : ∃ pl : List Ptn, pl.length ≤ 3 ∧ ∀ L W : List Ck, HasRows L W (subV (fullV qcd l) 0 k 15) qcd 15 pl :=
  ⟨(l.drop 0).take (k - 0), by simp; omega, fun L W => hasrows_sub (r := qcc) (fl := inferInstance) (b := ⟨Nat.zero_le _, by omega⟩)⟩
instance (priority := 300) enc_id {v : AV} : Enc [v] idC v := ⟨rfl⟩
section
attribute [local irreducible] ACo AK AT qa3 ARs Fin Cal KLp KFun
theorem planSmall_w {W : List Ck} : Cal [] W (qat Try.prog pol27 sums29 3001 (.func (.func 4) [] []) []) (fun r N => r = .bool true ∧ N = []) := by
  have S := s29
  refine qbh (f := 4) (nt := 212) (rs := [.tmp 0]) (by omega) (by first | assumption | exact S.rest _ (by decide)) Try.func4 rfl rfl rfl rfl fun m h0 T hm aT => ?_
  (repeat first|refine Wk.go ?_|refine qal ?_|intro _)
  refine qad (free_w (S.rest _ (by decide)) (by omega)) ?_
  rintro _ _ ⟨rfl, rfl⟩
  (repeat first|refine Wk.go ?_|refine qal ?_|intro _)
  refine qad (free_w (S.rest _ (by decide)) (by omega)) ?_
  rintro _ _ ⟨rfl, rfl⟩
  (repeat first|refine Wk.go ?_|refine qal ?_|intro _)
  refine qad (iri_w (S.rest _ (by decide)) (by omega)) ?_
  rintro _ _ ⟨rfl, rfl⟩
  (repeat first|refine Wk.go ?_|refine qal ?_|intro _)
  refine qad (one_w (S.rest _ (by decide)) (by omega)) ?_
  rintro _ _ ⟨rfl, rfl⟩
  (repeat first|refine Wk.go ?_|refine qal ?_|intro _)
  refine qad (free_w (S.rest _ (by decide)) (by omega)) ?_
  rintro _ _ ⟨rfl, rfl⟩
  (repeat first|refine Wk.go ?_|refine qal ?_|intro _)
  refine qad (iri_w (S.rest _ (by decide)) (by omega)) ?_
  rintro _ _ ⟨rfl, rfl⟩
  (repeat first|refine Wk.go ?_|refine qal ?_|intro _)
  refine qad (one_w (S.rest _ (by decide)) (by omega)) ?_
  rintro _ _ ⟨rfl, rfl⟩
  (repeat first|refine Wk.go ?_|refine qal ?_|intro _)
  refine qad (free_w (S.rest _ (by decide)) (by omega)) ?_
  rintro _ _ ⟨rfl, rfl⟩
  (repeat first|refine Wk.go ?_|refine qal ?_|intro _)
  refine qad (iri_w (S.rest _ (by decide)) (by omega)) ?_
  rintro _ _ ⟨rfl, rfl⟩
  (repeat first|refine Wk.go ?_|refine qal ?_|intro _)
  refine qad (one_w (S.rest _ (by decide)) (by omega)) ?_
  rintro _ _ ⟨rfl, rfl⟩
  (repeat first|refine Wk.go ?_|refine qal ?_|intro _)
  refine A_loopR (fun d T => ∃ n, d = 1100 - n ∧ n ≤ 1100 ∧ Lk T 3 (.int .i64 (n : Nat))) [1, 2] 1100 (by omega) ⟨0, rfl, Nat.zero_le _, lkz (by rfl)⟩ (by rfl) ?_
  rintro d T1 ⟨n, rfl, hn, h3⟩ hA
  by_cases c : n < 1100
  · have : Is (decide ((n : Int) < 1100)) true := ⟨by simp; omega⟩
    (repeat first|refine Wk.go ?_|refine qal ?_|intro _)
    refine qbo [0, 1, 2, 3, 4, 5, 6, 7, 8, 9, 10, 11, 12, 13, 14, 15, 16, 17, 18, 19, 20, 21, 22, 23, 24, 25, 26, 27, 28, 29, 30, 31, 32, 33, 34, 35, 36, 37, 38, 39, 40, 41, 42, 43, 44, 45, 46, 47, 48, 49, 53, 54, 50, 51, 52, 55, 56] [0, 0, 2, 7, 15, 0, 0, 64, 192, 480, 992, 0, 0, 4096, 12288, 30720, 63488, 131071, 0, 0, 524288, 1572864, 3932160, 8126464, 0, 0, 33554432, 100663296, 234881024, 520093696, 1056964608, 0, 0, 4294967296, 12884901888, 32212254720, 66571993088, 137438691328, 0, 0, 549755813888, 1649267441664, 4123168604160, 8521215115264, 0, 0, 35184372088832, 105553116266496, 263882790666240, 545357767376896, 0, 2251524935778304, 4503599627370495, 0, 9007199254740992, 36028797018963967, 72057594037927935] (by kernel_rfl) (by kernel_rfl) (by rfl) ?_
    have := sl_at (n % 7) (by omega)
    have := sl_at (n / 7 % 7) (by omega)
    have := sl_at (n / 3 % 7) (by omega)
    have := sl_at (n / 5 % 7) (by omega)
    have := sl_at (2 + 2 * (n % 2)) (by omega)
    have := sl_at (n / 2 % 7) (by omega)
    have := sl_at (n / 11 % 7) (by omega)
    have := sl_at (n / 13 % 7) (by omega)
    (repeat first|refine Wk.go ?_|refine qal ?_|intro _)
    refine qad (free_w (S.rest _ (by decide)) (by omega)) ?_
    rintro _ _ ⟨rfl, rfl⟩
    (repeat first|refine Wk.go ?_|refine qal ?_|intro _)
    generalize hpv : subV (fullV qcd _) 0 (n % 4) 15 = pv at *
    obtain ⟨pl, hpl, hp⟩ : ∃ pl : List Ptn, pl.length ≤ 3 ∧ ∀ L W : List Ck, HasRows L W pv qcd 15 pl := by rw [← hpv]; exact sub3 rfl (by omega)
    refine qad (exs_w (by omega)) ?_
    rintro _ _ ⟨lv, ev, rfl, rfl⟩
    have := kz_at (n / 4 % 6) (by omega)
    generalize kz (n / 4 % 6) = k at *
    have := el_at (l := exLin) (k := n % 2) (show n % 2 < 2 by omega)
    generalize exLin[n % 2]'(show n % 2 < 2 by omega) = l1 at *
    (repeat first|refine Wk.go ?_|refine qal ?_|intro _)
    have hex : ∀ l ∈ exLin, I64 l.tri := by intro l hl; simp only [exLin, List.mem_cons, List.not_mem_nil, or_false] at hl; rcases hl with rfl | rfl <;> exact ⟨by decide, by decide⟩
    generalize hls : exLin.set (n % 2) ⟨⟨l1.term.kind, l1.term.a, l1.term.b, l1.term.c⟩, IntKind.wrap .i64 (40 * k), l1.sub, l1.obj⟩ = ls at *
    have hl1 : ls.length = 2 := by rw [← hls, List.length_set]; rfl
    have hls1 := tri_set hls hex (wrap_range _)
    have := el_at (l := ls) (k := 0) (by omega)
    have ht0 := hls1 _ (List.getElem_mem (show 0 < ls.length by omega))
    generalize ls[0]'(show 0 < ls.length by omega) = l2 at *
    refine ⟨by omega, ?_⟩
    (repeat first|refine Wk.go ?_|refine qal ?_|intro _)
    generalize hls2 : ls.set 0 _ = ls2 at *
    have hl2 : ls2.length = 2 := by rw [← hls2, List.length_set]; exact hl1
    have hls3 := tri_set hls2 hls1 ht0
    obtain ⟨ov, o, hov, hol, hor⟩ := ord_at (n % 11) (by omega)
    (repeat first|refine Wk.go ?_|refine qal ?_|intro _)
    rename_i i5 i8
    refine qc2 qbd 1 (.sl .nil 0 []) ?_
    refine A_loopS (fun d L T => ∃ i qv xs, d = o.length - i ∧ i ≤ o.length ∧ Lk T 9 (.int .i64 (i : Nat)) ∧ L = [.row i8 0 2 [ov, qv] true, .rows qbd 1 qv xs, .row i5 0 5 [.int .i64 (IntKind.wrap .i64 (3 * k)), .int .i64 2, .int .i64 2, .int .i64 3, lv] true, .arr linC 7 lv ls2] ∧ xs.length = i)
      [0, 1, 2, 3, 33, 34, 37, 38, 39, 40, 41, 42, 43, 44, 45, 46, 47, 48, 49, 50, 51, 52, 53, 54, 55, 56, 57, 58, 59, 60, 61, 62, 63, 64, 65, 66, 67, 68, 69, 70, 71, 72, 73, 74, 75, 76, 77, 78, 79, 80, 81, 82, 83, 84, 85, 86, 87, 88, 89, 90, 91, 92, 4, 94, 93, 95, 96, 5, 97, 98, 99, 100, 101, 102, 7, 103, 104, 105, 106, 107, 108, 109, 110, 111, 112, 113, 114, 115, 116, 117, 118, 119, 120, 121, 122, 123, 124, 125, 126, 127, 8] o.length (by omega) ⟨0, .sl .nil 0 [], [], rfl, Nat.zero_le _, lkz (by rfl), rfl, rfl⟩ (by rfl) ?_
    rintro d L T2 ⟨i, qv, xs, rfl, hi, h9, rfl, hxl⟩ hA2
    by_cases c2 : i < o.length
    · have : Is (decide ((i : Int) < (o.length : Int))) true := ⟨by simp; omega⟩
      have hdi : n / (1 + i * i) ≤ n := Nat.div_le_self _ _
      have hii : i * i ≤ 2 * 2 := Nat.mul_le_mul (by omega) (by omega)
      (repeat first|refine Wk.go ?_|refine qal ?_|intro _)
      refine qbo [0, 1, 2, 3, 4, 5, 6, 7, 8, 9, 10, 11, 12, 13, 14] [0, 1, 0, 0, 0, 24, 56, 124, 0, 508, 1020, 2044, 4095, 8191, 16383] (by kernel_rfl) (by kernel_rfl) (by rfl) ?_
      (repeat first|refine Wk.go ?_|refine qal ?_|intro _)
      rename_i qv2
      exact lend (o.length - (i + 1)) _ (by omega) ⟨i + 1, qv2, xs ++ [(((n / (1 + i * i) + i) % 5 : Nat) : Int)], rfl, c2, inferInstance, rfl, by rw [List.length_append, hxl]; rfl⟩
    · have : Is (decide ((i : Int) < (o.length : Int))) false := ⟨by simp; omega⟩
      obtain ⟨mn, hmn, hm1, hm2⟩ : ∃ mn : Nat, (if (1 : Int) < (xs.length : Int) then 1 else (xs.length : Int)) = (mn : Int) ∧ mn ≤ xs.length ∧ mn ≤ 1 := ⟨min xs.length 1, by split <;> omega, by omega, by omega⟩
      have := NatOf.mk hmn
      have hp1 : n / 6 % 2 * mn ≤ 1 * mn := Nat.mul_le_mul (by omega) (Nat.le_refl _)
      have hp2 : n / 6 % 2 * mn * (n % 13 / 12) ≤ 1 * mn * 1 := Nat.mul_le_mul hp1 (by omega)
      have : NatOf ((xs.length : Int) - ((n / 6 % 2 * mn * (n % 13 / 12) : Nat) : Int)) (xs.length - n / 6 % 2 * mn * (n % 13 / 12)) := ⟨by omega⟩
      (repeat first|refine Wk.go ?_|refine qal ?_|intro _)
      have hsts : StsOk ⟨IntKind.wrap .i64 (3 * k), 2, 2, 3, ls2⟩ := ⟨wrap_range _, hls3⟩
      refine qad (of_w S (x := ⟨IntKind.wrap .i64 (3 * k), 2, 2, 3, ls2⟩) (pats := pl) (by first | omega | (simp only; omega)) (by omega) (by first | omega | (simp only; omega))) ?_
      rintro _ _ ⟨gv, hv, rfl, rfl⟩
      obtain ⟨hperm, hops, hright⟩ := planZ_ok ⟨IntKind.wrap .i64 (3 * k), 2, 2, 3, ls2⟩ pl
      generalize (qb4 ⟨IntKind.wrap .i64 (3 * k), 2, 2, 3, ls2⟩ pl).1 = go at *
      generalize (qb4 ⟨IntKind.wrap .i64 (3 * k), 2, 2, 3, ls2⟩ pl).2 = gq at *
      have hgl : go.length = pl.length := by have := hperm.length_eq; simpa using this
      have hgr : ∀ i ∈ go, i < pl.length := fun i hi => List.mem_range.1 (hperm.mem_iff.1 hi)
      have hgz := qa7 go
      (repeat first|refine Wk.go ?_|refine qal ?_|intro _)
      refine qbo [0, 1, 2, 3, 4, 5, 6, 7, 8, 9, 10, 11, 12, 13, 14, 15, 16, 17, 18, 19, 20, 21, 23, 24, 25, 22, 26, 27, 28] [0, 0, 0, 4, 12, 0, 63, 127, 255, 511, 511, 511, 511, 8191, 16383, 32767, 65535, 131071, 131071, 131071, 655359, 131071, 4063231, 131071, 8519679, 131071, 67108863, 134217727, 268435455] (by kernel_rfl) (by kernel_rfl) (by rfl) ?_
      (repeat first|refine Wk.go ?_|refine qal ?_|intro _)
      refine qad (planTells_w (((n % 7 : Nat) : Int) - 3) (x := ⟨IntKind.wrap .i64 (3 * k), 2, 2, 3, ls2⟩) (o := o) (pats := pl) hsts (by omega) (by first | omega | (simp only; omega)) (by omega) (by simp; omega)) ?_
      rintro _ _ ⟨rfl, rfl⟩
      (repeat first|refine Wk.go ?_|refine qal ?_|intro _)
      refine qad (planTells_w (n : Int) (x := ⟨IntKind.wrap .i64 (3 * k), 2, 2, 3, ls2⟩) (o := zs go) (q := gq) (pats := pl) hsts (by omega) (by first | omega | (simp only; omega)) (by omega) (by omega)) ?_
      rintro _ _ ⟨rfl, rfl⟩
      (repeat first|refine Wk.go ?_|refine qal ?_|intro _)
      by_cases hpe : pl = []
      · have hge : go = [] := List.eq_nil_of_length_eq_zero (by rw [hgl, hpe]; rfl)
        have hqe : gq = [] := List.eq_nil_of_length_eq_zero (by rw [hops, hpe]; rfl)
        have hnil2 : ∀ L W : List Ck, HasRows L W (.sl .nil 0 []) qbd 1 ([] : List Int) := fun L W => ⟨fun h k => .imm _ 0 [] (by simp)⟩
        refine qad (turned0g_w S ((n % 5 : Nat) : Int) (o := go) (q := gq) (pats := pl) (by omega) hge hqe hpe) ?_
        rintro _ _ ⟨rfl, rfl⟩
        (repeat first|refine Wk.go ?_|refine qal ?_|intro _)
        refine qad (planTells_w (IntKind.wrap .i64 (0 - (n : Int))) (x := ⟨IntKind.wrap .i64 (3 * k), 2, 2, 3, ls2⟩) (o := []) (q := []) (pats := pl) hsts (by omega) (by first | omega | (simp only; omega)) (by omega) (by simp)) ?_
        rintro _ _ ⟨rfl, rfl⟩
        (repeat first|refine Wk.go ?_|refine qal ?_|intro _)
        exact lend (1100 - (n + 1)) _ (by omega) ⟨rfl, n + 1, rfl, c, inferInstance⟩
      · have hne : 0 < pl.length := List.length_pos_iff.2 hpe
        refine qad (turned_w S ((n % 5 : Nat) : Int) (order := go) (ops := gq) (pats := pl) (by omega) (by omega) (by omega) hright hgl hgr hne) ?_
        rintro _ _ ⟨tv, uv, rfl, rfl⟩
        have hk := turnK_lt ((n % 5 : Nat) : Int) hne
        have hrl := rot_length go (qct ((n % 5 : Nat) : Int) pl.length) (by omega)
        have hrz := qa7 (rot go (qct ((n % 5 : Nat) : Int) pl.length))
        have htl := qbi pl ((n % 5 : Nat) : Int) (rot go (qct ((n % 5 : Nat) : Int) pl.length)) pl.length
        (repeat first|refine Wk.go ?_|refine qal ?_|intro _)
        refine qad (planTells_w (IntKind.wrap .i64 (0 - (n : Int))) (x := ⟨IntKind.wrap .i64 (3 * k), 2, 2, 3, ls2⟩) (o := zs (rot go (qct ((n % 5 : Nat) : Int) pl.length))) (q := qb1 pl ((n % 5 : Nat) : Int) (rot go (qct ((n % 5 : Nat) : Int) pl.length)) pl.length) (pats := pl) hsts (by omega) (by first | omega | (simp only; omega)) (by omega) (by omega)) ?_
        rintro _ _ ⟨rfl, rfl⟩
        (repeat first|refine Wk.go ?_|refine qal ?_|intro _)
        exact lend (1100 - (n + 1)) _ (by omega) ⟨rfl, n + 1, rfl, c, inferInstance⟩
  · have : Is (decide ((n : Int) < 1100)) false := ⟨by simp; omega⟩
    (repeat first|refine Wk.go ?_|refine qal ?_|intro _)
    have hn1 : ∀ L W : List Ck, HasRows L W (.sl .nil 0 []) qbd 1 ([] : List Int) := fun L W => ⟨fun h k => .imm _ 0 [] (by simp)⟩
    have hn2 : ∀ L W : List Ck, HasRows L W (.sl .nil 0 []) linC 7 ([] : List Lin) := fun L W => ⟨fun h k => .imm _ 0 [] (by simp)⟩
    have hn3 : ∀ L W : List Ck, HasRows L W (.sl .nil 0 []) qcd 15 ([] : List Ptn) := fun L W => ⟨fun h k => .imm _ 0 [] (by simp)⟩
    have hs0 : StsOk ⟨0, 0, 0, 0, []⟩ := ⟨⟨by decide, by decide⟩, fun l h => by cases h⟩
    refine qad (planTells_w 9223372036854775807 (x := ⟨0, 0, 0, 0, []⟩) (a := hn2 _ _) (b := hn1 _ _) (c := hn1 _ _) (d := hn3 _ _) (o := []) (q := []) (pats := []) hs0 (by omega) (by simp) (by simp) (by simp)) ?_
    rintro _ _ ⟨rfl, rfl⟩
    (repeat first|refine Wk.go ?_|refine qal ?_|intro _)
    refine qad (planTells_w (-9223372036854775808) (x := ⟨0, 0, 0, 0, []⟩) (a := hn2 _ _) (b := hn1 _ _) (c := hn1 _ _) (d := hn3 _ _) (o := []) (q := []) (pats := []) hs0 (by omega) (by simp) (by simp) (by simp)) ?_
    rintro _ _ ⟨rfl, rfl⟩
    (repeat first|refine Wk.go ?_|refine qal ?_|intro _)
    refine qad (awake29_w (by omega)) ?_
    rintro _ _ ⟨rfl, rfl⟩
    (repeat first|refine Wk.go ?_|refine qal ?_|intro _)
    exact fin ⟨rfl, rfl⟩
end
end Go.Am
namespace Go.Proofs.Ytallboljaphbpaa
open Go Go.Am Go.ChangeShapes Go.WideShapes Go.ChangeAt Go.RowKit
set_option maxRecDepth 100000
theorem planSmall_calls (w : World) : Calls Try.prog 4 #[] w fun e w' => e = .returned (.bool true) ∧ Below w.heap.size w w' := by
  have st : St ⟨Hp.none, cids [], []⟩ [] Hp.none := ⟨Hp.WF.none, KeepBut.refl _, (fun c hc => by cases hc), by simp [cids], (fun i hi => by cases hi)⟩
  obtain ⟨v, h', e, N, ⟨rfl, rfl⟩, _⟩ := planSmall_w (W := []) _ st Hp.WF.none
  refine (entry (pol := pol27) progOk sums29_ok (n := 3000) (μ := id) e (xs := []) VRs.nil).mono ?_
  rintro en w' ⟨y, μ', rfl, hy, hb⟩
  cases hy
  exact ⟨rfl, hb⟩
theorem planSmall_lifted (os : Os) (started : os.Started) (H : Type) (enc : TypeId × Value → H) :
    ReturnsInHanded {} Try.checked os 4 .any (Rows.planSmallSpec.pre6 enc Try.prog Try.f4 Rows.planSmallRow.domain false) (Rows.planSmallSpec.post enc Try.prog Try.f4 false true false false) := by
  refine returnsInHanded_of_change (C := Try.checked) Try.own started (by kernel_rfl) Try.func4
    (ChangeSpec.witness6 (enc := enc) (C := Try.checked) false ⟨#[], #[], []⟩ 8 (by kernel_rfl) (by kernel_rfl) (by kernel_rfl) (by kernel_rfl)) ?_
  intro W base args ds gs before hval0 hW hcnd _
  have hW' := hW
  obtain ⟨p, q, hA0, hV, rfl, hfz, hnd⟩ := hW
  have hA : DataW.TrodAll enc Try.prog W 0 (fun _ => true) true Try.f4.params.toList args.toList ds p := hA0
  rw [show Try.f4.params.toList = [] by kernel_rfl] at hA
  obtain ⟨rfl, rfl, rfl⟩ := trodAll_none hA
  obtain ⟨rfl, rfl⟩ := trodVars_none hV
  refine (planSmall_calls W).mono fun e W' ⟨he, hb⟩ => ?_
  subst he
  refine ⟨_, rfl, ?_⟩
  refine ⟨_, _, _, [], [], [], hW', ?_, ?_, ?_, hb.frame _, fun c => by cases c⟩
  · exact trodAll_mk1 (t := 4) (v := .bool true) (d := .lit (.bool true)) ⟨1, by kernel_rfl⟩
  · exact trodAll_mk0
  · exact rfl
theorem planSmall_holds : Rows.PlanSmallSaid :=
  OpenClaim.holds_of_wide 4 Try.f4 rfl rfl rfl rfl rfl rfl rfl ⟨rfl, rfl, rfl, rfl, rfl⟩ rfl rfl rfl rfl rfl (by kernel_rfl) Try.func4 (by kernel_rfl)
    (of_decide_eq_true (by kernel_rfl)) (by unfold Func.isWrapper; first | (rw [if_pos (by decide +kernel)]; kernel_rfl) | (rw [if_neg (by decide +kernel)]; exact ⟨rfl, rfl⟩))
    (fun os started H enc _ => planSmall_lifted os started H enc)
end Go.Proofs.Ytallboljaphbpaa
