/- Operations that leave memory as it is: what the small machine says of them holds of the model. By an AI agent. -/
import Derived.Test.YtofcjkbgieenlaaDoorPMRel
import Derived.ChangeKeysEq
import Derived.Laws.BytesArg
import Derived.Laws.BytesString
namespace Go.Proofs.YtofcjkbgieenlaaDoor.PM
open Go
set_option linter.unusedVariables false
set_option linter.unusedSimpArgs false

section
variable {P : Program} {μ : Mu} {w : World}

theorem szOf_some {t n : Nat} (h : szOf P t = some n) : ∃ i, P.info? t = some i ∧ i.size = n ∧ P.cellsOf t = n := by
  unfold szOf at h
  cases hi : P.info? t with
  | none => simp [hi] at h
  | some i => simp [hi] at h; exact ⟨i, rfl, h, by simp [Program.cellsOf, hi, h]⟩

theorem run_size {t n : Nat} (h : szOf P t = some n) : (sizeOf t).run P w = .ok n w := by
  obtain ⟨i, hi, _, hc⟩ := szOf_some h
  rw [run_sizeOf w hi, hc]

theorem run_agg {t : Nat} {b : Bool} (h : aggT P t = some b) : (isAgg t).run P w = .ok b w := by
  unfold aggT at h
  split at h
  · rename_i hu; obtain rfl := Option.some.inj h; simp [isAgg, run_underlying hu]
  · rename_i hu; obtain rfl := Option.some.inj h; simp [isAgg, run_underlying hu]
  · rename_i d h1 h2 hu
    obtain rfl := Option.some.inj h
    cases d <;> first | (simp [isAgg, run_underlying hu]; done) | exact absurd rfl (h1 _) | exact absurd rfl (h2 _ _)
  · cases h

theorem drop_head {l r : List Value} {off : Nat} {v : Value} (h : l.drop off = v :: r) : l[off]? = some v := by
  have := congrArg (·[0]?) h
  simpa using this

theorem partV_sound {t off : Nat} {cs cs' : List Value} (hr : VRs μ cs cs') {v : Value} (h : partV P t cs off = some v) :
    ∃ v', (part t ⟨cs'⟩ off).run P w = .ok v' w ∧ VR μ v v' := by
  unfold partV at h
  split at h
  · rename_i n hn hg
    obtain rfl := Option.some.inj h
    refine ⟨.agg ((⟨cs'⟩ : Array Value).extract off (off + n)), by simp [part, run_agg hg, run_size hn], ?_⟩
    have : (⟨cs'⟩ : Array Value).extract off (off + n) = ⟨(cs'.drop off).take n⟩ := by
      apply Array.toList_inj.1
      simp [List.extract_eq_take_drop]
    rw [this]
    exact .agg ((hr.drop off).take n)
  · rename_i n hn hg
    split at h
    · rename_i x r hd
      obtain rfl := Option.some.inj h
      obtain ⟨v', h1, h2⟩ := hr.get (drop_head hd)
      exact ⟨v', by simp [part, run_agg hg, h1], h2⟩
    · cases h
  · cases h

theorem eqFs_sound {d : Nat} {rec : TypeId → Value → Value → Option Bool} (hrec : ∀ t x y x' y' b, VR μ x x' → VR μ y y' → rec t x y = some b → (Op.equalIn d t x' y').run P w = .ok b w)
    {xs ys xs' ys' : List Value} (hx : VRs μ xs xs') (hy : VRs μ ys ys') : ∀ (fs : List Field) (b : Bool), eqFs P rec xs ys fs = some b → (Op.eqFields d ⟨xs'⟩ ⟨ys'⟩ fs).run P w = .ok b w
  | [], b, h => by obtain rfl := Option.some.inj h; rfl
  | f :: fs, b, h => by
    unfold eqFs at h
    cases hn : (f.name == "_") with
    | true => rw [hn] at h; cases h
    | false =>
      rw [hn] at h
      simp only [cond_false] at h
      have hne : f.name ≠ "_" := by simpa using hn
      cases ha : partV P f.type xs f.offset with
      | none => simp [ha] at h
      | some a =>
        cases hb : partV P f.type ys f.offset with
        | none => simp [ha, hb] at h
        | some c =>
          simp only [ha, hb] at h
          obtain ⟨a', p1, q1⟩ := partV_sound (w := w) hx ha
          obtain ⟨c', p2, q2⟩ := partV_sound (w := w) hy hb
          cases he : rec f.type a c with
          | none => simp [he] at h
          | some r =>
            cases hf : eqFs P rec xs ys fs with
            | none => simp [he, hf] at h
            | some r2 =>
              simp only [he, hf] at h
              obtain rfl := Option.some.inj h
              have p3 := hrec _ _ _ _ _ _ q1 q2 he
              have p4 := eqFs_sound hrec hx hy fs r2 hf
              simp only [Op.eqFields, hne, ne_eq, not_false_eq_true, if_true, Sem.run_bind, p1, p2, p3, Result.andThen_ok]
              cases r
              · simp
              · simpa using p4

theorem eqAs_sound {d e n : Nat} {rec : TypeId → Value → Value → Option Bool} (hn : szOf P e = some n)
    (hrec : ∀ t x y x' y' b, VR μ x x' → VR μ y y' → rec t x y = some b → (Op.equalIn d t x' y').run P w = .ok b w)
    {xs ys xs' ys' : List Value} (hx : VRs μ xs xs') (hy : VRs μ ys ys') : ∀ (is : List Nat) (b : Bool), eqAs P rec e n xs ys is = some b → (Op.eqItems d e (P.cellsOf e) ⟨xs'⟩ ⟨ys'⟩ is).run P w = .ok b w
  | [], b, h => by obtain rfl := Option.some.inj h; rfl
  | i :: is, b, h => by
    have hc := (szOf_some hn).choose_spec.2.2
    unfold eqAs at h
    cases ha : partV P e xs (i * n) with
    | none => simp [ha] at h
    | some a =>
      cases hb : partV P e ys (i * n) with
      | none => simp [ha, hb] at h
      | some c =>
        simp only [ha, hb] at h
        obtain ⟨a', p1, q1⟩ := partV_sound (w := w) hx ha
        obtain ⟨c', p2, q2⟩ := partV_sound (w := w) hy hb
        cases he : rec e a c with
        | none => simp [he] at h
        | some r =>
          cases hf : eqAs P rec e n xs ys is with
          | none => simp [he, hf] at h
          | some r2 =>
            simp only [he, hf] at h
            obtain rfl := Option.some.inj h
            have p3 := hrec _ _ _ _ _ _ q1 q2 he
            have p4 := eqAs_sound hn hrec hx hy is r2 hf
            simp only [hc] at p4 ⊢
            simp only [Op.eqItems, Sem.run_bind, p1, p2, p3, Result.andThen_ok]
            cases r
            · simp
            · simpa using p4

theorem fieldsOf_eq {t : Nat} {fs : Array Field} (h : P.underlying t = some (.struct fs)) : P.fieldsOf t = fs := by
  simp [Program.fieldsOf, h]

theorem eqT_sound : ∀ (d k : Nat) (t : TypeId) (x y x' y' : Value) (b : Bool), VR μ x x' → VR μ y y' → eqT P d t x y = some b → (Op.equalIn (d + k) t x' y').run P w = .ok b w
  | 0, _, _, _, _, _, _, _, _, _, h => by cases h
  | d + 1, k, t, x, y, x', y', b, hx, hy, h => by
    unfold eqT at h
    have hdk : d + 1 + k = (d + k) + 1 := by omega
    rw [hdk]
    split at h
    · rename_i hu; cases hx; cases hy; obtain rfl := Option.some.inj h; exact run_equalIn_bool' w _ _ _ _ hu
    · rename_i k1 k2 a k3 c hu
      cases hk : decide (k2 = k3) with
      | false => rw [hk] at h; cases h
      | true =>
        rw [hk] at h
        obtain rfl := of_decide_eq_true hk
        cases hx; cases hy; obtain rfl := Option.some.inj h
        exact run_equalIn_int w _ _ _ _ _ _ hu
    · rename_i hu; cases hx; cases hy; obtain rfl := Option.some.inj h; exact run_equalIn_string w _ _ _ _ hu
    · rename_i fs xs ys hu
      cases hs : P.stoodInHeld t with
      | true => rw [hs] at h; cases h
      | false =>
        rw [hs] at h
        simp only [cond_false] at h
        cases hx with
        | agg hx =>
          cases hy with
          | agg hy =>
            rw [run_equalIn_struct w _ _ _ _ (by rw [fieldsOf_eq hu]; exact hu) hs, fieldsOf_eq hu]
            exact eqFs_sound (fun t x y x' y' b h1 h2 h3 => eqT_sound d k t x y x' y' b h1 h2 h3) hx hy _ _ h
    · rename_i n e xs ys hu
      split at h
      · rename_i m hm
        cases hx with
        | agg hx =>
          cases hy with
          | agg hy =>
            obtain ⟨i, hi, _, _⟩ := szOf_some hm
            rw [run_equalIn_array w _ _ _ hu hi]
            exact eqAs_sound hm (fun t x y x' y' b h1 h2 h3 => eqT_sound d k t x y x' y' b h1 h2 h3) hx hy _ _ h
      · cases h
    · cases h

theorem pickV_sound {a b a' b' : Value} (c : Bool) (ha : VR μ a a') (hb : VR μ b b') : VR μ (pickV c a b) (if c = true then a' else b') := by
  unfold pickV
  split
  · cases ha; cases hb; cases c <;> exact .bool _
  · rename_i k x k' y
    cases hk : decide (k = k') with
    | false => exact .junk _
    | true =>
      obtain rfl := of_decide_eq_true hk
      cases ha; cases hb; cases c <;> exact .int _ _
  · cases ha; cases hb; cases c <;> exact .string _
  · cases c
    · exact hb
    · exact ha

theorem binI_sound {op : BinOp} {k : IntKind} {a b : Int} {c : Bool} {v : Value} (h : binI op k a b = some (c, v)) (hc : c = true) (t : TypeId) :
    (Go.binOp op t (.int k a) (.int k b)).run P w = .ok v w ∧ VR μ v v := by
  subst hc
  cases op <;> simp only [binI] at h <;> first | cases h | skip
  all_goals try (obtain ⟨h1, rfl⟩ := Prod.mk.inj (Option.some.inj h))
  all_goals first
    | (refine ⟨?_, .int _ _⟩; simp [Go.binOp, Op.intArith, Op.intBits]; done)
    | (refine ⟨?_, .bool _⟩; simp [Go.binOp, Op.intCmp]; done)
    | (refine ⟨?_, .int _ _⟩; have hb : b ≠ 0 := (by simpa using h1); simp [Go.binOp, Op.intDiv, hb]; done)

theorem shI_sound {op : BinOp} {k k' : IntKind} {a b : Int} {c : Bool} {v : Value} (h : shI op k a b = some (c, v)) (hc : c = true) (t : TypeId) :
    (Go.binOp op t (.int k a) (.int k' b)).run P w = .ok v w ∧ VR μ v v := by
  subst hc
  cases op <;> simp only [shI] at h <;> first | cases h | skip
  all_goals
    obtain ⟨h1, rfl⟩ := Prod.mk.inj (Option.some.inj h)
    have hb : ¬ b < 0 := by have := of_decide_eq_true h1; omega
    exact ⟨by simp [Go.binOp, Op.shift, hb], .int _ _⟩

theorem binS_sound {op : BinOp} {a b : ByteArray} {c : Bool} {v : Value} (h : binS op a b = some (c, v)) (hc : c = true) (t : TypeId) :
    (Go.binOp op t (.string a) (.string b)).run P w = .ok v w ∧ VR μ v v := by
  subst hc
  cases op <;> simp only [binS] at h <;> first | cases h | skip
  all_goals try (obtain ⟨h1, rfl⟩ := Prod.mk.inj (Option.some.inj h))
  case add =>
    have hb := of_decide_eq_true h1
    have : ¬ (((a.size + b.size : Nat) : Int) > IntKind.i64.max) := by
      have : IntKind.i64.max = 9223372036854775807 := by decide
      rw [this]; omega
    exact ⟨by simp only [Go.binOp, Op.stringOp, this, if_false, Sem.run_pure], .string _⟩
  all_goals exact ⟨by simp [Go.binOp, Op.stringOp], .bool _⟩

theorem guard_scalar (op : BinOp) (t : TypeId) (x y : Operand) {a b : Value} (ha : ∀ l, a ≠ .agg l) (hn : a ≠ .nilIface) : (eqGuard op t x y a b).run P w = .ok () w := by
  cases op <;> cases a <;> first
    | (exact absurd rfl (ha _))
    | (exact absurd rfl hn)
    | (simp [eqGuard]; done)

theorem run_boolEq {t : TypeId} (hu : P.underlying t = some .bool) (a b : Bool) : (Go.binOp .eql t (.bool a) (.bool b)).run P w = .ok (.bool (a == b)) w ∧ (Go.binOp .neq t (.bool a) (.bool b)).run P w = .ok (.bool (!(a == b))) w := by
  have h : (Op.equal t (.bool a) (.bool b)).run P w = .ok (a == b) w := run_equalIn_bool' w 9999 t a b hu
  exact ⟨by simp [Go.binOp, h], by simp [Go.binOp, h]⟩

theorem gets_sound {H : VH} {C : Codec} {esz : Nat} {l : List C.α} {m : VMode} {p : Place} (r : RowOk μ w C esz l m p) {i : Nat} {x : C.α} (hx : l[i]? = some x) :
    ∀ (n j : Nat), j + n ≤ esz → ∃ vs, vs.length = n ∧ (∀ q v, vs[q]? = some v → w.cell? (p.at i (j + q)) = some v) ∧ VRs μ (gets C x j n) vs
  | 0, j, _ => ⟨[], rfl, by simp, .nil⟩
  | n + 1, j, h => by
    have hl := r.lens x (List.mem_of_getElem? hx)
    have hj : j < (C.enc x).length := by omega
    obtain ⟨v', h1, h2⟩ := r.cells i j x _ hx (List.getElem?_eq_getElem hj)
    obtain ⟨vs, k1, k2, k3⟩ := gets_sound (H := H) r hx n (j + 1) (by omega)
    refine ⟨v' :: vs, by simp [k1], ?_, ?_⟩
    · intro q v hq
      cases q with
      | zero => simp at hq; subst hq; exact h1
      | succ q => rw [show j + (q + 1) = j + 1 + q by omega]; exact k2 q v (by simpa using hq)
    · refine .cons ?_ k3
      rw [C.h_get x j _ (List.getElem?_eq_getElem hj)]
      exact h2

theorem nth_some {C : Codec} {l : List C.α} {i : Nat} (h : i < l.length) : l[i]? = some (nth C l i) := by
  unfold nth
  rw [List.getElem?_eq_getElem h]
  simp [List.getD, List.getElem?_eq_getElem h]

theorem at_add (p : Place) (i j n : Nat) : (p.at i j).add n = p.at i (j + n) := by
  unfold Addr.add Place.at
  split
  · simp_all
  · simp; omega

theorem allI_get {k : IntKind} : ∀ {l : List Value}, allI k l = true → ∀ {i : Nat}, i < l.length → l[i]? = some (.int k (pickI l i))
  | [], _, i, h => by simp at h
  | v :: r, h, i, hi => by
    cases v <;> simp only [allI] at h <;> first | cases h | skip
    simp only [Bool.and_eq_true, decide_eq_true_eq] at h
    obtain ⟨rfl, h2⟩ := h
    cases i with
    | zero => rfl
    | succ i => simpa [pickI] using allI_get h2 (i := i) (by simpa using hi)

theorem allS_get : ∀ {l : List Value}, allS l = true → ∀ {i : Nat}, i < l.length → l[i]? = some (.string (pickS l i))
  | [], _, i, h => by simp at h
  | v :: r, h, i, hi => by
    cases v <;> simp only [allS] at h <;> first | cases h | skip
    cases i with
    | zero => rfl
    | succ i => simpa [pickS] using allS_get h (i := i) (by simpa using hi)

theorem string_at {s : ByteArray} {i : Int} (h0 : 0 ≤ i) (h1 : i < (s.size : Int)) : ∃ b, s[i.toNat]? = some b ∧ ((b.toNat : Nat) : Int) = bt s i := by
  have hlt : i.toNat < s.size := by omega
  refine ⟨s[i.toNat], by simp [hlt], ?_⟩
  unfold bt
  have : s.data.toList.getD i.toNat 0 = s[i.toNat] := by
    have h2 : i.toNat < s.data.toList.length := by simpa using hlt
    simp only [List.getD, List.getElem?_eq_getElem h2, Option.getD_some]
    rfl
  rw [this]

theorem bounds_run (isS : Bool) (len cap : Nat) (lo hi : Option Value) {l h : Int} {k1 k2 : IntKind}
    (hl : (match lo with | some v => v | none => .int .i64 0) = Value.int k1 l) (hh : (match hi with | some v => v | none => .int .i64 (len : Int)) = Value.int k2 h)
    (h0 : 0 ≤ l) (h1 : l ≤ h) (h2 : h ≤ (cap : Int)) : (Instr.sliceBounds isS len cap lo hi none).run P w = .ok (l.toNat, h.toNat, cap) w := by
  have e1 : (match lo with | some v => Instr.sliceBound v h.toNat .sliceB | none => pure 0 : Sem Nat).run P w = .ok l.toNat w := by
    cases lo with
    | none => simp only [Value.int.injEq] at hl; obtain ⟨_, rfl⟩ := hl; rfl
    | some v =>
      simp only at hl
      subst hl
      have : l ≤ ((h.toNat : Nat) : Int) := by omega
      simp [Instr.sliceBound, asIntOf, h0]
      intro hc
      omega
  have e2 : (match hi with | some v => Instr.sliceBound v cap (if isS then .sliceAcap else .sliceAlen) | none => pure len : Sem Nat).run P w = .ok h.toNat w := by
    cases hi with
    | none => simp only [Value.int.injEq] at hh; obtain ⟨_, rfl⟩ := hh; simp
    | some v =>
      simp only at hh
      subst hh
      have : 0 ≤ h := by omega
      simp [Instr.sliceBound, asIntOf, this, h2]
  cases hi with
  | none =>
    cases lo with
    | none => simp only [Sem.run_pure, Result.ok.injEq, and_true] at e1 e2; simp [Instr.sliceBounds, ← e1, ← e2]
    | some v => simp only [Sem.run_pure, Result.ok.injEq, and_true] at e2; simp only [← e2] at e1; simp [Instr.sliceBounds, e1, ← e2]
  | some u =>
    cases lo with
    | none => simp only [Sem.run_pure, Result.ok.injEq, and_true] at e1; simp only at e2; simp [Instr.sliceBounds, ← e1, e2]
    | some v => simp only at e1 e2; simp [Instr.sliceBounds, e1, e2]

theorem gatherB_sound {C : Codec} {l : List C.α} {m : VMode} {p : Place} (r : RowOk μ w C 1 l m p) :
    ∀ (n i : Nat) (xs : List Int), gatherB C l i n = some xs → i + n ≤ l.length → xs.length = n ∧ ∀ q, q < n → w.cell? ⟨p.blk, p.base + i + q, none⟩ = some (.int .u8 (xs.getD q 0))
  | 0, i, xs, h, _ => by
    obtain rfl := Option.some.inj h
    exact ⟨rfl, fun q hq => absurd hq (Nat.not_lt_zero _)⟩
  | n + 1, i, xs, h, hl => by
    simp only [gatherB] at h
    split at h
    · rename_i x r' hx hr'
      obtain rfl := Option.some.inj h
      obtain ⟨k1, k2⟩ := gatherB_sound r n (i + 1) r' hr' (by omega)
      refine ⟨by simp [k1], fun q hq => ?_⟩
      cases q with
      | zero =>
        have hi : i < l.length := by omega
        have hlen := r.lens _ (List.mem_of_getElem? (nth_some hi))
        have h0 : 0 < (C.enc (nth C l i)).length := by omega
        obtain ⟨v', c1, c2⟩ := r.cells i 0 _ _ (nth_some hi) (List.getElem?_eq_getElem h0)
        rw [← C.h_get _ _ _ (List.getElem?_eq_getElem h0), hx] at c2
        cases c2
        have : p.at i 0 = ⟨p.blk, p.base + i + 0, none⟩ := by unfold Place.at; rw [r.pe]; simp
        rw [← this]
        simpa using c1
      | succ q =>
        have := k2 q (by omega)
        rw [show p.base + i + (q + 1) = p.base + (i + 1) + q by omega, this]
        simp
    · cases h

theorem fold_set (off : Nat) : ∀ (cs : List Value) (k : Nat) (l : List Value), off + k + cs.length ≤ l.length →
    ((cs.zipIdx k).foldl (fun (a : Array Value) (x : Value × Nat) => a.setIfInBounds (off + x.2) x.1) ⟨l⟩) = ⟨splice l (off + k) cs⟩
  | [], k, l, _ => by simp [splice]
  | c :: cs, k, l, h => by
    simp only [List.length_cons] at h
    rw [List.zipIdx_cons, List.foldl_cons]
    have hset : (⟨l⟩ : Array Value).setIfInBounds (off + k) c = ⟨l.set (off + k) c⟩ := by
      apply Array.toList_inj.1
      simp
    simp only [hset]
    rw [fold_set off cs (k + 1) (l.set (off + k) c) (by simp; omega)]
    congr 1
    unfold splice
    have hA : (l.take (off + k)).length = off + k := by simp; omega
    have hs : l.set (off + k) c = l.take (off + k) ++ c :: l.drop (off + k + 1) := by
      rw [List.set_eq_take_append_cons_drop, if_pos (by omega)]
    rw [hs]
    generalize l.take (off + k) = A at hA ⊢
    have h1 : (A ++ c :: l.drop (off + k + 1)).take (off + (k + 1)) = A ++ [c] := by
      rw [List.take_append, List.take_of_length_le (by omega), hA, show off + (k + 1) - (off + k) = 1 by omega]
      rfl
    have h2 : (A ++ c :: l.drop (off + k + 1)).drop (off + (k + 1) + cs.length) = l.drop (off + k + (c :: cs).length) := by
      rw [List.drop_append, List.drop_eq_nil_of_le (by omega), hA, show off + (k + 1) + cs.length - (off + k) = cs.length + 1 by omega]
      simp only [List.nil_append, List.drop_succ_cons, List.drop_drop, List.length_cons]
      congr 1
      omega
    rw [h1, h2]
    simp

theorem splice_len {l cs : List Value} {off : Nat} (h : off + cs.length ≤ l.length) : (splice l off cs).length = l.length := by
  simp [splice]
  omega

theorem VRs.splice {l l' cs cs' : List Value} {off : Nat} (h : VRs μ l l') (k : VRs μ cs cs') : VRs μ (splice l off cs) (splice l' off cs') := by
  unfold PM.splice
  rw [k.length]
  exact (h.take off).append (k.append (h.drop _))

theorem cellsOf_sound {v v' : Value} (h : VR μ v v') {cs : List Value} (hc : cellsOf v = some cs) : VRs μ cs v'.cells.toList := by
  have h0 := h
  cases h <;> simp only [cellsOf] at hc <;> first | cases hc | (obtain rfl := Option.some.inj hc)
  all_goals first
    | assumption
    | exact .cons h0 .nil

theorem fillV_sound {place : Nat → Option (Nat × Nat)} {ρ ρ' : Operand → Value} (hρ : ∀ x, VR μ (ρ x) (ρ' x)) : ∀ (ps : List (Nat × Operand)) (l l' r : List Value), VRs μ l l' → fillV place ρ l ps = some r →
    ∃ r', Instr.fill place ⟨l'⟩ (ps.map fun (i, x) => (i, ρ' x)) = some ⟨r'⟩ ∧ VRs μ r r'
  | [], l, l', r, hl, h => by
    obtain rfl := Option.some.inj h
    exact ⟨l', rfl, hl⟩
  | (i, x) :: ps, l, l', r, hl, h => by
    simp only [fillV] at h
    split at h
    · rename_i off n cs hp hcs
      cases hb : (Nat.beq cs.length n && Nat.ble (off + n) l.length) with
      | false => rw [hb] at h; cases h
      | true =>
        rw [hb] at h
        simp only [cond_true] at h
        simp only [Bool.and_eq_true, Nat.ble_eq] at hb
        obtain rfl := Nat.eq_of_beq_eq_true hb.1
        have hv := cellsOf_sound (hρ x) hcs
        obtain ⟨r', h1, h2⟩ := fillV_sound hρ ps _ _ r (hl.splice hv (off := off)) h
        refine ⟨r', ?_, h2⟩
        have hsz : (ρ' x).cells.size = cs.length := by rw [← Array.length_toList]; exact hv.length
        have hf := fold_set off (ρ' x).cells.toList 0 l' (by rw [Array.length_toList, hsz, hl.length]; omega)
        simp only [Nat.add_zero] at hf
        have hf2 : ((ρ' x).cells.zipIdx.foldl (fun cs (x : Value × Nat) => cs.setIfInBounds (off + x.2) x.1) (⟨l'⟩ : Array Value)) = ⟨PM.splice l' off (ρ' x).cells.toList⟩ := by
          rw [← hf, ← Array.foldl_toList, Array.toList_zipIdx]
        have hcond : ¬ ((ρ' x).cells.size ≠ cs.length ∨ off + (ρ' x).cells.size > (⟨l'⟩ : Array Value).size) := by
          rw [hsz]
          have : (⟨l'⟩ : Array Value).size = l.length := hl.length
          rw [this]
          omega
        simp only [List.map_cons, Instr.fill, hp]
        rw [if_neg (by simpa using hcond)]
        rw [hf2]
        exact h1
    · cases h

theorem zeroCells_some {t : TypeId} {zs : List Value} (h : zeroCells P t = some zs) : ∃ i z, P.info? t = some i ∧ i.zero = some z ∧ z.cells.toList = zs ∧ plainL zs = true := by
  unfold zeroCells at h
  split at h
  · rename_i i hi
    split at h
    · rename_i z hz
      cases hp : plainL z.cells.toList with
      | false => rw [hp] at h; cases h
      | true =>
        rw [hp] at h
        obtain rfl := Option.some.inj h
        exact ⟨i, z, hi, hz, rfl, hp⟩
    · cases h
  · cases h

theorem run_zero {t : TypeId} {zs : List Value} (h : zeroCells P t = some zs) : ∃ z, (zeroValue t).run P w = .ok z w ∧ z.cells = ⟨zs⟩ := by
  obtain ⟨i, z, hi, hz, hc, _⟩ := zeroCells_some h
  exact ⟨z, by simp [zeroValue, run_typeInfo w hi, hz], by apply Array.toList_inj.1; simpa using hc⟩

theorem places_run : ∀ (fs : List Field) (pl : List (Nat × Nat)), placesOf P fs = some pl → (fs.mapM (m := Sem) fun f => do pure (f.offset, ← sizeOf f.type)).run P w = .ok pl w
  | [], pl, h => by obtain rfl := Option.some.inj h; simp
  | f :: fs, pl, h => by
    simp only [placesOf] at h
    split at h
    · rename_i n l hn hl
      obtain rfl := Option.some.inj h
      rw [List.mapM_cons]
      simp only [Sem.run_bind, run_size hn, Result.andThen_ok, Sem.run_pure, places_run fs l hl]
    · cases h

theorem opV_sound (o : Oper) {ρ ρ' : Operand → Value} {H : VH} (hr : HR μ H w) (hρ : ∀ x, VR μ (ρ x) (ρ' x)) {c : Bool} {v : Value}
    (h : opV P ρ H o.op = some (c, v)) (hc : c = true) : ∃ v', (execOp ρ' o).run P w = .ok (.value v') w ∧ VR μ v v' := by
  obtain ⟨dst, op, type, pos, after, guard⟩ := o
  simp only at h
  subst hc
  have inv : ∀ {x : Operand} {u : Value}, ρ x = u → VR μ u (ρ' x) := fun hx => hx ▸ hρ _
  cases op
  case move x =>
    simp only [opV] at h
    obtain ⟨_, rfl⟩ := Prod.mk.inj (Option.some.inj h)
    exact ⟨_, by simp [execOp], hρ x⟩
  case assign x =>
    simp only [opV] at h
    obtain ⟨_, rfl⟩ := Prod.mk.inj (Option.some.inj h)
    exact ⟨_, by simp [execOp], hρ x⟩
  case pick c a b =>
    simp only [opV] at h
    split at h
    · rename_i t ht
      obtain ⟨_, rfl⟩ := Prod.mk.inj (Option.some.inj h)
      have hb := inv ht
      generalize hq : ρ' c = q at hb
      cases hb
      exact ⟨_, by simp [execOp, hq, asBool], pickV_sound t (hρ a) (hρ b)⟩
    · cases h
  case unOp op t x =>
    cases op
    case not =>
      simp only [opV] at h
      split at h
      · rename_i b hx
        obtain ⟨_, rfl⟩ := Prod.mk.inj (Option.some.inj h)
        have hb := inv hx
        generalize hq : ρ' x = q at hb
        cases hb
        exact ⟨.bool (!b), by simp [execOp, hq, Op.unary], .bool _⟩
      · cases h
    case neg =>
      simp only [opV] at h
      split at h
      · rename_i k n hx
        obtain ⟨_, rfl⟩ := Prod.mk.inj (Option.some.inj h)
        have hb := inv hx
        generalize hq : ρ' x = q at hb
        cases hb
        exact ⟨.int k (k.wrap (0 - n)), by simp only [execOp, hq, Op.unary, Op.intArith]; rfl, .int _ _⟩
      · cases h
    all_goals (simp only [opV] at h; first | done | cases h)
  case nilCheck x =>
    simp only [opV] at h
    split at h
    · rename_i a hx
      obtain ⟨_, rfl⟩ := Prod.mk.inj (Option.some.inj h)
      have hb := inv hx
      generalize hq : ρ' x = q at hb
      cases hb with
      | ptr hp => exact ⟨_, by simp [execOp, hq], .ptr hp⟩
    · cases h
  case extract x ix =>
    simp only [opV] at h
    split at h
    · rename_i vs hx
      split at h
      · rename_i u r hd
        obtain ⟨_, rfl⟩ := Prod.mk.inj (Option.some.inj h)
        have hb := inv hx
        generalize hq : ρ' x = q at hb
        cases hb with
        | tuple hl =>
          obtain ⟨v', h1, h2⟩ := hl.get (drop_head hd)
          refine ⟨v', ?_, h2⟩
          simp [execOp, hq, Instr.extract, h1]
      · cases h
    · cases h
  case convert src dst x =>
    simp only [opV] at h
    split at h
    · rename_i k1 k2 k3 n h1 h2 h3
      obtain ⟨_, rfl⟩ := Prod.mk.inj (Option.some.inj h)
      have hb := inv h3
      generalize hq : ρ' x = q at hb
      cases hb
      exact ⟨_, by simp [execOp, hq, convert, run_underlying h1, run_underlying h2, Conv.intToInt], .int _ _⟩
    · rename_i s h1 h2 h3
      obtain ⟨_, rfl⟩ := Prod.mk.inj (Option.some.inj h)
      have hb := inv h3
      generalize hq : ρ' x = q at hb
      cases hb
      exact ⟨_, by simp [execOp, hq, convert, run_underlying h1, run_underlying h2], .string _⟩
    · rename_i k1 k3 n h1 h2 h3
      obtain ⟨_, rfl⟩ := Prod.mk.inj (Option.some.inj h)
      have hb := inv h3
      generalize hq : ρ' x = q at hb
      cases hb
      exact ⟨_, by simp [execOp, hq, convert, run_underlying h1, run_underlying h2, Conv.intToString], .string _⟩
    · rename_i e b i0 n c h1 h2 h3
      split at h
      · rename_i C l m hue hg
        split at h
        · rename_i xs hxs
          obtain ⟨h4, rfl⟩ := Prod.mk.inj (Option.some.inj h)
          have h4 := Nat.le_of_ble_eq_true h4
          have hb := inv h3
          generalize hq : ρ' x = q at hb
          refine ⟨.string (strOfNums xs), ?_, .string _⟩
          cases hb with
          | slice hp hle hlim =>
            rename_i c' p
            obtain ⟨p', hp', r⟩ := hr.row _ _ _ _ _ hg
            obtain rfl : p' = p := Option.some.inj (hp'.symm.trans hp)
            obtain ⟨k1, k2⟩ := gatherB_sound r n i0 xs hxs h4
            have hat : p'.at i0 0 = ⟨p'.blk, p'.base + i0, none⟩ := by unfold Place.at; rw [r.pe]; simp
            have := run_convert_bytes_arg (P := P) w src e h1 hue p'.blk (p'.base + i0) n c' xs k1 k2 dst h2
            simp [execOp, hq, hat, this]
          | slice0 a =>
            obtain rfl : xs = [] := by simpa [gatherB] using hxs.symm
            have := run_convert_bytes_string (P := P) w src dst e (some a) 0 0 h1 hue h2
            have h5 := run_bytesToString (P := P) w a 0 0 [] (by simp [loadCells, loadCellsFrom])
            simp only [execOp, hq, Sem.run_bind, this, h5, Result.andThen_ok, Sem.run_pure]
            rfl
        · cases h
      · cases h
    · cases h
  case field t x f =>
    simp only [opV] at h
    split at h
    · rename_i fs cs h1 h2
      split at h
      · rename_i fd hf
        split at h
        · rename_i u hu
          obtain ⟨_, rfl⟩ := Prod.mk.inj (Option.some.inj h)
          have hb := inv h2
          generalize hq : ρ' x = q at hb
          cases hb with
          | agg hl =>
            obtain ⟨v', k1, k2⟩ := partV_sound (w := w) hl hu
            exact ⟨v', by simp [execOp, hq, Instr.field, run_underlying h1, hf, asAgg, k1], k2⟩
        · cases h
      · cases h
    · cases h
  case load t a =>
    simp only [opV] at h
    split at h
    · rename_i b i j ha
      have hb := inv ha
      generalize hq : ρ' a = q at hb
      cases hb with
      | ptr hp =>
        rename_i p
        split at h
        · rename_i C esz l m n hg hn hagg
          obtain ⟨h1, rfl⟩ := Prod.mk.inj (Option.some.inj h)
          simp only [Bool.and_eq_true, decide_eq_true_eq, Nat.ble_eq] at h1
          obtain ⟨p', hp', r⟩ := hr.row _ _ _ _ _ hg
          obtain rfl : p' = p := Option.some.inj (hp'.symm.trans hp)
          obtain ⟨vs, k1, k2, k3⟩ := gets_sound (H := H) r (nth_some h1.1) n j h1.2
          have hl : (loadCells (p'.at i j) n).run P w = .ok ⟨vs⟩ w := by
            have := run_loadCells_list (P := P) w (p'.at i j) vs (fun q v hq => by rw [at_add]; exact k2 q v hq)
            rw [k1] at this
            exact this
          refine ⟨.agg ⟨vs⟩, ?_, .agg k3⟩
          simp [execOp, hq, Instr.loadAt, Instr.sureAddr, loadVar, run_agg hagg, run_size hn, hl]
        · rename_i C esz l m n hg hn hagg
          obtain ⟨h1, rfl⟩ := Prod.mk.inj (Option.some.inj h)
          simp only [Bool.and_eq_true, decide_eq_true_eq, Nat.ble_eq] at h1
          obtain ⟨p', hp', r⟩ := hr.row _ _ _ _ _ hg
          obtain rfl : p' = p := Option.some.inj (hp'.symm.trans hp)
          obtain ⟨vs, k1, k2, k3⟩ := gets_sound (H := H) r (nth_some h1.1) 1 j h1.2
          obtain ⟨v', hv', hrel⟩ := k3.get (i := 0) (v := C.get (nth C l i) j) rfl
          refine ⟨v', ?_, hrel⟩
          have := k2 0 v' hv'
          simp only [Nat.add_zero] at this
          simp [execOp, hq, Instr.loadAt, Instr.sureAddr, loadVar, run_agg hagg, this]
        · cases h
    · cases h
  case slice t x lo hi mx =>
    cases mx with
    | some m => cases h
    | none =>
      simp only [opV] at h
      split at h
      · rename_i s h1 h2
        have hb := inv h2
        generalize hq : ρ' x = q at hb
        cases hb
        split at h
        · rename_i k1 l k2 hh hl0 hh0
          obtain ⟨h3, rfl⟩ := Prod.mk.inj (Option.some.inj h)
          simp only [Bool.and_eq_true, decide_eq_true_eq] at h3
          refine ⟨.string (s.extract l.toNat hh.toNat), ?_, .string _⟩
          have e1 : (match lo.map ρ' with | some v => v | none => .int .i64 0) = Value.int k1 l := by
            cases lo with
            | none => exact hl0
            | some o =>
              have := inv hl0
              simp only [Option.map_some]
              generalize ρ' o = q at this
              cases this
              rfl
          have e2 : (match hi.map ρ' with | some v => v | none => .int .i64 s.size) = Value.int k2 hh := by
            cases hi with
            | none => exact hh0
            | some o =>
              have := inv hh0
              simp only [Option.map_some]
              generalize ρ' o = q at this
              cases this
              rfl
          have := bounds_run (P := P) (w := w) false s.size s.size (lo.map ρ') (hi.map ρ') e1 e2 h3.1 h3.2.1 h3.2.2
          simp [execOp, hq, Instr.sliceAt, Instr.slice, run_underlying h1, this]
        · cases h
      · rename_i e b i0 n c h1 h2
        split at h
        · rename_i C esz lr m m2 k1 l k2 hh hg hsz hl0 hh0
          cases he : Nat.beq esz m2 with
          | false => rw [he] at h; cases h
          | true =>
            rw [he] at h
            simp only [cond_true] at h
            obtain rfl : esz = m2 := Nat.eq_of_beq_eq_true he
            obtain ⟨h3, rfl⟩ := Prod.mk.inj (Option.some.inj h)
            simp only [Bool.and_eq_true, decide_eq_true_eq] at h3
            have hb := inv h2
            generalize hq : ρ' x = q at hb
            have e1 : (match lo.map ρ' with | some v => v | none => .int .i64 0) = Value.int k1 l := by
              cases lo with
              | none => exact hl0
              | some o =>
                have := inv hl0
                simp only [Option.map_some]
                generalize ρ' o = q at this
                cases this
                rfl
            have e2 : (match hi.map ρ' with | some v => v | none => .int .i64 (n : Int)) = Value.int k2 hh := by
              cases hi with
              | none => exact hh0
              | some o =>
                have := inv hh0
                simp only [Option.map_some]
                generalize ρ' o = q at this
                cases this
                rfl
            cases hb with
            | slice hp hle hlim =>
              rename_i c' p
              obtain ⟨p', hp', r⟩ := hr.row _ _ _ _ _ hg
              obtain rfl : p' = p := Option.some.inj (hp'.symm.trans hp)
              have hb := bounds_run (P := P) (w := w) true n c' (lo.map ρ') (hi.map ρ') e1 e2 h3.1 h3.2.1 (by omega)
              have hrun : (execOp ρ' ⟨dst, .slice t x lo hi none, type, pos, after, guard⟩).run P w = .ok (.value (.slice (if c' = l.toNat then some (p'.at i0 0) else some ((p'.at i0 0).add (l.toNat * esz))) (hh.toNat - l.toNat) (c' - l.toNat))) w := by
                simp only [execOp, hq, Instr.sliceAt, Instr.slice, Option.map_none, Sem.run_bind, run_underlying h1, Result.andThen_ok, hb, run_size hsz, Sem.run_pure]
                split <;> rfl
              refine ⟨_, hrun, ?_⟩
              by_cases hcl : c' = l.toNat
              · rw [if_pos hcl]
                have z1 : hh.toNat - l.toNat = 0 := by omega
                have z2 : c' - l.toNat = 0 := by omega
                rw [z1, z2]
                exact .slice0 _
              · rw [if_neg hcl]
                have hadd : (p'.at i0 0).add (l.toNat * esz) = p'.at (i0 + l.toNat) 0 := by
                  rw [at_add]
                  unfold Place.at
                  rw [r.pe, Nat.add_mul]
                  simp [Nat.add_assoc]
                rw [hadd]
                refine .slice hp (by omega) (fun L hL => ?_)
                have := hlim L hL
                rwa [show i0 + l.toNat + (c' - l.toNat) = i0 + c' by omega]
            | slice0 a =>
              have hb := bounds_run (P := P) (w := w) true 0 0 (lo.map ρ') (hi.map ρ') e1 e2 h3.1 h3.2.1 (by simpa using h3.2.2)
              have z0 : l.toNat = 0 := by have := h3.2.2; simp at this; omega
              have z1 : hh.toNat = 0 := by have := h3.2.2; simp at this; omega
              have hrun : (execOp ρ' ⟨dst, .slice t x lo hi none, type, pos, after, guard⟩).run P w = .ok (.value (.slice (some a) 0 0)) w := by
                simp only [execOp, hq, Instr.sliceAt, Instr.slice, Option.map_none, Sem.run_bind, run_underlying h1, Result.andThen_ok, hb, run_size hsz, Sem.run_pure, z0, z1]
                rfl
              refine ⟨_, hrun, ?_⟩
              rw [z0, z1]
              exact .slice0 _
        · cases h
      · cases h
  case build t parts =>
    simp only [opV] at h
    split at h
    · rename_i zs fs hz hu
      split at h
      · rename_i pl hpl
        split at h
        · rename_i l hl
          obtain ⟨_, rfl⟩ := Prod.mk.inj (Option.some.inj h)
          obtain ⟨z, e1, e2⟩ := run_zero (w := w) hz
          obtain ⟨_, _, _, _, _, hp⟩ := zeroCells_some hz
          obtain ⟨r', e3, e4⟩ := fillV_sound (place := fun i => pl[i]?) hρ parts.toList zs zs l (VRs.plain hp) hl
          refine ⟨.agg ⟨r'⟩, ?_, .agg e4⟩
          have e5 := places_run (P := P) (w := w) fs.toList pl hpl
          have e6 : (fs.mapM (m := Sem) fun f => do pure (f.offset, ← sizeOf f.type)).run P w = .ok ⟨pl⟩ w := by
            have ee : fs = fs.toList.toArray := by simp
            rw [ee, List.mapM_toArray]
            simp only [Sem.run_map, e5, Result.andThen_ok]
          have e7 : (parts.map fun (i, x) => (i, ρ' x)).toList = parts.toList.map fun (i, x) => (i, ρ' x) := by simp
          have e8 : (fun i : Nat => (⟨pl⟩ : Array (Nat × Nat))[i]?) = fun i : Nat => pl[i]? := by funext i; simp
          simp only [execOp, Instr.build, Sem.run_bind, e1, Result.andThen_ok, run_underlying hu, e6, e2, e7, e8, e3, Sem.run_pure]
        · cases h
      · cases h
    · rename_i zs n e hz hu
      split at h
      · rename_i m hm
        split at h
        · rename_i l hl
          obtain ⟨_, rfl⟩ := Prod.mk.inj (Option.some.inj h)
          obtain ⟨z, e1, e2⟩ := run_zero (w := w) hz
          obtain ⟨_, _, _, _, _, hp⟩ := zeroCells_some hz
          obtain ⟨r', e3, e4⟩ := fillV_sound (place := fun i => some (i * m, m)) hρ parts.toList zs zs l (VRs.plain hp) hl
          refine ⟨.agg ⟨r'⟩, ?_, .agg e4⟩
          have e7 : (parts.map fun (i, x) => (i, ρ' x)).toList = parts.toList.map fun (i, x) => (i, ρ' x) := by simp
          simp only [execOp, Instr.build, Sem.run_bind, e1, Result.andThen_ok, run_underlying hu, run_size hm, e2, e7, e3, Sem.run_pure]
        · cases h
      · cases h
    · cases h
  case fieldAddr s x f =>
    simp only [opV] at h
    split at h
    · rename_i fs b i j h1 h2
      split at h
      · rename_i fd hf
        split at h
        · rename_i n hn
          obtain ⟨_, rfl⟩ := Prod.mk.inj (Option.some.inj h)
          have hb := inv h2
          generalize hq : ρ' x = q at hb
          cases hb with
          | ptr hp =>
            refine ⟨_, ?_, .ptr hp⟩
            simp [execOp, hq, Instr.fieldAt, run_underlying h1, hf, Instr.sureAddr, fieldPlace, run_size hn, at_add]
        · cases h
      · cases h
    · cases h
  case indexAddr t x ix =>
    simp only [opV] at h
    split at h
    · rename_i e b i0 n c k i h1 h2 h3
      split at h
      · rename_i C esz l m m2 hg hn
        cases he : Nat.beq esz m2 with
        | false => rw [he] at h; cases h
        | true =>
          rw [he] at h
          simp only [cond_true] at h
          obtain rfl : esz = m2 := Nat.eq_of_beq_eq_true he
          obtain ⟨h4, rfl⟩ := Prod.mk.inj (Option.some.inj h)
          simp only [inb, Bool.and_eq_true, decide_eq_true_eq] at h4
          have hb := inv h2
          have hi := inv h3
          generalize hq : ρ' x = q at hb
          generalize hq2 : ρ' ix = q2 at hi
          cases hi
          cases hb with
          | slice hp hle hlim =>
            rename_i p
            obtain ⟨p', hp', r⟩ := hr.row _ _ _ _ _ hg
            obtain rfl : p' = p := Option.some.inj (hp'.symm.trans hp)
            refine ⟨_, ?_, .ptr hp⟩
            have hadd : (p'.at i0 0).add (i.toNat * esz) = p'.at (i0 + i.toNat) 0 := by
              rw [at_add]
              unfold Place.at
              rw [r.pe, Nat.add_mul]
              simp [Nat.add_assoc]
            simp [execOp, hq, hq2, Instr.indexAt, run_underlying h1, asIntOf, h4, run_size hn, hadd]
          | slice0 a => exact absurd h4 (by simp)
      · cases h
    · rename_i len e b i0 j k i h1 h2 h3
      split at h
      · rename_i m hn
        obtain ⟨h4, rfl⟩ := Prod.mk.inj (Option.some.inj h)
        simp only [inb, Bool.and_eq_true, decide_eq_true_eq] at h4
        have hb := inv h2
        have hi := inv h3
        generalize hq : ρ' x = q at hb
        generalize hq2 : ρ' ix = q2 at hi
        cases hi
        cases hb with
        | ptr hp =>
          rename_i p
          refine ⟨_, ?_, .ptr hp⟩
          have hadd : (p.at i0 j).add (i.toNat * m) = p.at i0 (addN j (mulN i.toNat m)) := by
            rw [at_add]
            have e1 : mulN i.toNat m = i.toNat * m := by unfold mulN; split <;> simp
            have e2 : addN j (i.toNat * m) = j + i.toNat * m := by unfold addN; split <;> simp
            rw [e1, e2]
          simp [execOp, hq, hq2, Instr.indexAt, run_underlying h1, asIntOf, Instr.sureAddr, h4, run_size hn, hadd]
      · cases h
    · cases h
  case index t x ix =>
    simp only [opV] at h
    split at h
    · rename_i s k i h1 h2 h3
      obtain ⟨h4, rfl⟩ := Prod.mk.inj (Option.some.inj h)
      simp only [inb, Bool.and_eq_true, decide_eq_true_eq] at h4
      have hb := inv h2
      have hi := inv h3
      generalize hq : ρ' x = q at hb
      generalize hq2 : ρ' ix = q2 at hi
      cases hi; cases hb
      obtain ⟨b, e1, e2⟩ := string_at h4.1 h4.2
      refine ⟨_, ?_, .int _ _⟩
      simp [execOp, hq, hq2, Instr.index, run_underlying h1, asIntOf, h4.1, e1, e2]
    · rename_i len e cs k i h1 h2 h3
      have hb := inv h2
      have hi := inv h3
      generalize hq : ρ' x = q at hb
      generalize hq2 : ρ' ix = q2 at hi
      cases hi
      cases hb with
      | agg hl =>
        rename_i cl cl'
        split at h
        · rename_i k' hs hu
          cases hall : (allI k' cl && Nat.beq cl.length len) with
          | false => rw [hall] at h; cases h
          | true =>
            rw [hall] at h
            simp only [cond_true] at h
            obtain ⟨h4, rfl⟩ := Prod.mk.inj (Option.some.inj h)
            simp only [inb, Bool.and_eq_true, decide_eq_true_eq] at h4
            simp only [Bool.and_eq_true] at hall
            have hlen : cl.length = len := Nat.eq_of_beq_eq_true hall.2
            have hlt : i.toNat < cl.length := by omega
            obtain ⟨v', e1, e2⟩ := hl.get (allI_get hall.1 hlt)
            cases e2
            refine ⟨_, ?_, .int _ _⟩
            have hagg : aggT P e = some false := by simp [aggT, hu]
            simp [execOp, hq, hq2, Instr.index, run_underlying h1, asIntOf, h4.1, h4.2, part, run_agg hagg, run_size hs, e1]
        · rename_i hs hu
          cases hall : (allS cl && Nat.beq cl.length len) with
          | false => rw [hall] at h; cases h
          | true =>
            rw [hall] at h
            simp only [cond_true] at h
            obtain ⟨h4, rfl⟩ := Prod.mk.inj (Option.some.inj h)
            simp only [inb, Bool.and_eq_true, decide_eq_true_eq] at h4
            simp only [Bool.and_eq_true] at hall
            have hlen : cl.length = len := Nat.eq_of_beq_eq_true hall.2
            have hlt : i.toNat < cl.length := by omega
            obtain ⟨v', e1, e2⟩ := hl.get (allS_get hall.1 hlt)
            cases e2
            refine ⟨_, ?_, .string _⟩
            have hagg : aggT P e = some false := by simp [aggT, hu]
            simp [execOp, hq, hq2, Instr.index, run_underlying h1, asIntOf, h4.1, h4.2, part, run_agg hagg, run_size hs, e1]
        · cases h
    · cases h
  case call c =>
    obtain ⟨callee, args, argTypes⟩ := c
    cases callee
    case value f => cases h
    case invoke r m => cases h
    case builtin b =>
      cases b
      case len =>
        simp only [opV] at h
        split at h
        · rename_i x t ha hat
          obtain rfl : args = #[x] := by apply Array.toList_inj.1; simpa using ha
          obtain rfl : argTypes = #[t] := by apply Array.toList_inj.1; simpa using hat
          split at h
          · rename_i s hu hx
            obtain ⟨_, rfl⟩ := Prod.mk.inj (Option.some.inj h)
            have hb := inv hx
            generalize hq : ρ' x = q at hb
            cases hb
            exact ⟨_, by simp [execOp, resolve, invoke, builtin, Builtin.len_, hq, run_underlying hu, goInt], .int _ _⟩
          · rename_i e a n c hu hx
            obtain ⟨_, rfl⟩ := Prod.mk.inj (Option.some.inj h)
            have hb := inv hx
            generalize hq : ρ' x = q at hb
            refine ⟨.int .i64 n, ?_, .int _ _⟩
            cases hb <;> simp [execOp, resolve, invoke, builtin, Builtin.len_, hq, run_underlying hu, goInt]
          · cases h
        · cases h
      all_goals cases h
  case binOp op t x y yt =>
    have hx0 := hρ x
    have hy0 := hρ y
    simp only [opV] at h
    generalize hq1 : ρ' x = qx at hx0
    generalize hq2 : ρ' y = qy at hy0
    have run_of : ∀ {u : Value}, (eqGuard op t x y qx qy).run P w = .ok () w → (Go.binOp op t qx qy).run P w = .ok u w →
        (execOp ρ' ⟨dst, .binOp op t x y yt, type, pos, after, guard⟩).run P w = .ok (.value u) w := fun h1 h2 => by
      simp [execOp, hq1, hq2, h1, h2]
    split at h
    · rename_i k a k' b hx hy
      rw [hx] at hx0; rw [hy] at hy0
      cases hx0; cases hy0
      obtain ⟨e1, e2⟩ := shI_sound (P := P) (μ := μ) (w := w) (k' := k') h rfl t
      exact ⟨v, run_of (guard_scalar _ _ _ _ (by intro l hh; cases hh) (by intro hh; cases hh)) e1, e2⟩
    · rename_i k a k' b hx hy
      rw [hx] at hx0; rw [hy] at hy0
      cases hx0; cases hy0
      obtain ⟨e1, e2⟩ := shI_sound (P := P) (μ := μ) (w := w) (k' := k') h rfl t
      exact ⟨v, run_of (guard_scalar _ _ _ _ (by intro l hh; cases hh) (by intro hh; cases hh)) e1, e2⟩
    · rename_i op' k a k' b hn1 hn2 hx hy
      rw [hx] at hx0; rw [hy] at hy0
      cases hx0; cases hy0
      cases hk : decide (k = k') with
      | false => rw [hk] at h; cases h
      | true =>
        rw [hk] at h
        obtain rfl := of_decide_eq_true hk
        obtain ⟨e1, e2⟩ := binI_sound (P := P) (μ := μ) (w := w) h rfl t
        exact ⟨v, run_of (guard_scalar _ _ _ _ (by intro l hh; cases hh) (by intro hh; cases hh)) e1, e2⟩
    · rename_i op' a b hx hy
      rw [hx] at hx0; rw [hy] at hy0
      cases hx0; cases hy0
      obtain ⟨e1, e2⟩ := binS_sound (P := P) (μ := μ) (w := w) h rfl t
      exact ⟨v, run_of (guard_scalar _ _ _ _ (by intro l hh; cases hh) (by intro hh; cases hh)) e1, e2⟩
    · rename_i a b hx hy
      rw [hx] at hx0; rw [hy] at hy0
      cases hx0; cases hy0
      split at h
      · rename_i hu
        obtain ⟨_, rfl⟩ := Prod.mk.inj (Option.some.inj h)
        exact ⟨_, run_of (guard_scalar _ _ _ _ (by intro l hh; cases hh) (by intro hh; cases hh)) (run_boolEq hu a b).1, .bool _⟩
      · cases h
    · rename_i a b hx hy
      rw [hx] at hx0; rw [hy] at hy0
      cases hx0; cases hy0
      split at h
      · rename_i hu
        obtain ⟨_, rfl⟩ := Prod.mk.inj (Option.some.inj h)
        exact ⟨_, run_of (guard_scalar _ _ _ _ (by intro l hh; cases hh) (by intro hh; cases hh)) (run_boolEq hu a b).2, .bool _⟩
      · cases h
    · rename_i a b hx hy
      rw [hx] at hx0; rw [hy] at hy0
      cases hgt : P.eqGuardType P.depth t with
      | true => rw [hgt] at h; cases h
      | false =>
        rw [hgt] at h
        simp only [cond_false] at h
        split at h
        · rename_i r hr'
          obtain ⟨_, rfl⟩ := Prod.mk.inj (Option.some.inj h)
          cases hx0 with
          | agg hl =>
            cases hy0 with
            | agg hl' =>
              have := eqT_sound (P := P) (w := w) 6 9994 t _ _ _ _ r (.agg hl) (.agg hl') hr'
              refine ⟨.bool r, run_of (run_eqGuard_agg w _ _ _ _ _ _ hgt) ?_, .bool _⟩
              rw [run_eql_struct]
              simp [this]
        · cases h
    · rename_i a b hx hy
      rw [hx] at hx0; rw [hy] at hy0
      cases hgt : P.eqGuardType P.depth t with
      | true => rw [hgt] at h; cases h
      | false =>
        rw [hgt] at h
        simp only [cond_false] at h
        split at h
        · rename_i r hr'
          obtain ⟨_, rfl⟩ := Prod.mk.inj (Option.some.inj h)
          cases hx0 with
          | agg hl =>
            cases hy0 with
            | agg hl' =>
              have := eqT_sound (P := P) (w := w) 6 9994 t _ _ _ _ r (.agg hl) (.agg hl') hr'
              refine ⟨.bool (!r), run_of (run_eqGuard_agg w _ _ _ _ _ _ hgt) ?_, .bool _⟩
              rw [run_neq_struct]
              simp [this]
        · cases h
    · cases h
  all_goals (simp only [opV] at h; first | done | cases h)
end
end Go.Proofs.YtofcjkbgieenlaaDoor.PM
