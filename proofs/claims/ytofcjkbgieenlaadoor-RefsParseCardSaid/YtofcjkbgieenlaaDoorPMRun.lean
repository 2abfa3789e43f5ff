/- The small machine's runs: what it says of a call holds of the model's. By an AI agent. -/
import Derived.Test.YtofcjkbgieenlaaDoorPMRen
import Derived.OrdersHeld
namespace Go.Proofs.YtofcjkbgieenlaaDoor.PM
open Go Go.RowKit
set_option linter.unusedVariables false
set_option linter.unusedSimpArgs false

/-- A function that is entered when it is called. -/
def callable (P : Program) (f : FuncId) : Prop := ∃ fn c, P.funcs[f]? = some fn ∧ (fn.name == "runtime.NumGoroutine") = false ∧ fn.body = some c

/-- What a call comes to, whatever memory there is besides. -/
def Meets (P : Program) (f : FuncId) (args : List Value) (H : VH) (K : Value → VH → Prop) : Prop :=
  ∀ (μ : Mu) (w : World) (args' : List Value), HR μ H w → VRs μ args args' → Calls P f ⟨args'⟩ w fun e w' =>
    ∃ (r r' : Value) (μ' : Mu) (H' : VH), e = .returned r' ∧ VR μ' r r' ∧ HR μ' H' w' ∧ Mu.le μ μ' ∧ H.length ≤ H'.length ∧
      (∀ b, b < H.length → hget H' b = hget H b) ∧ (∀ (b : Nat) (p : Place), H.length ≤ b → μ'[b]? = some p → w.heap.size ≤ p.blk) ∧
      Below w.heap.size w w' ∧ K r H'

def CallOk (P : Program) (call : FuncId → Spec) : Prop := ∀ f args H K, call f args H K → callable P f ∧ Meets P f args H K

/-- What stays so through a run. -/
structure Inv (w0 : World) (μ0 : Mu) (H0 : VH) (μ : Mu) (H : VH) (w : World) : Prop where
  hr : HR μ H w
  below : Below w0.heap.size w0 w
  n0 : H0.length ≤ H.length
  oldμ : ∀ b, b < H0.length → μ[b]? = μ0[b]?
  oldH : ∀ b, b < H0.length → hget H b = hget H0 b
  fresh : ∀ (b : Nat) (p : Place), H0.length ≤ b → μ[b]? = some p → w0.heap.size ≤ p.blk

/-- Rows that are read alone. -/
def Ro (H0 : VH) : Prop := ∀ b, (∃ (C : Codec) (e : Nat) (l : List C.α), hget H0 b = .row C e l .ro ∧ C.flat = true) ∨ hget H0 b = .dead

structure SR (w0 : World) (μ0 : Mu) (H0 : VH) (n : Nat) (μ : Mu) (fr : Fr) (H : VH) (a : Act) (w : World) : Prop where
  inv : Inv w0 μ0 H0 μ H w
  fr : ∀ t, VR μ (lk fr t) (a.tmps.getD t undef)
  sz : n ≤ a.tmps.size
  df : a.defers = []

section
variable {P : Program} {call : FuncId → Spec} {w0 : World} {μ0 : Mu} {H0 : VH} {n : Nat}

theorem ev_sound {μ : Mu} {fr : Fr} {a : Act} (h : ∀ t, VR μ (lk fr t) (a.tmps.getD t undef)) (x : Operand) : VR μ (ev fr x) (a.eval x) := by
  cases x with
  | tmp t => exact h t
  | const v => exact VR.const v
  | global g => exact .junk _
  | func f => exact .func .nil .nil

theorem getD_set (xs : Array Value) (d t : Nat) (v : Value) : (xs.setIfInBounds d v).getD t undef = if d = t ∧ d < xs.size then v else xs.getD t undef := by
  by_cases hdt : d = t
  · subst hdt
    by_cases hd : d < xs.size
    · simp [hd]
    · have h0 : ¬ (d < xs.size) := hd
      have : xs.setIfInBounds d v = xs := Array.setIfInBounds_eq_of_size_le (by omega)
      simp [this, h0]
  · rw [if_neg (fun h => hdt h.1), Array.getD_eq_getD_getElem?, Array.getD_eq_getD_getElem?, Array.getElem?_setIfInBounds_ne hdt]

theorem SR.put {μ : Mu} {fr : Fr} {H : VH} {a : Act} {w : World} (h : SR w0 μ0 H0 n μ fr H a w) {dst : Option Tmp} {v v' : Value} (hv : VR μ v v')
    (hd : ∀ d, dst = some d → d < n) : SR w0 μ0 H0 n μ (put dst v fr) H (a.put dst v') w := by
  cases dst with
  | none => exact h
  | some d =>
    have hdn := hd d rfl
    refine ⟨h.inv, fun t => ?_, by simpa [Act.put] using h.sz, by simpa [Act.put] using h.df⟩
    simp only [PM.put, lk, Act.put, getD_set]
    cases hb : Nat.beq d t with
    | true =>
      obtain rfl := Nat.eq_of_beq_eq_true hb
      rw [if_pos ⟨rfl, Nat.lt_of_lt_of_le hdn h.sz⟩]
      exact hv
    | false =>
      have hne : d ≠ t := fun e => by subst e; simp at hb
      rw [if_neg (fun hh => hne hh.1)]
      exact h.fr t

/-- Writing down what is known. -/
theorem SR.lit {μ : Mu} {fr : Fr} {H : VH} {a : Act} {w : World} (h : SR w0 μ0 H0 n μ fr H a w) {t : Nat} {b : Bool} (hl : lk fr t = .bool b) : SR w0 μ0 H0 n μ ((t, .bool b) :: fr) H a w := by
  refine ⟨h.inv, fun u => ?_, h.sz, h.df⟩
  simp only [lk]
  cases hb : Nat.beq t u with
  | true =>
    obtain rfl := Nat.eq_of_beq_eq_true hb
    have := h.fr t
    rw [hl] at this
    exact this
  | false => exact h.fr u

theorem SR.later {μ μ' : Mu} {fr : Fr} {H H' : VH} {a : Act} {w w' : World} (h : SR w0 μ0 H0 n μ fr H a w) (hi : Inv w0 μ0 H0 μ' H' w') (hm : Mu.le μ μ') : SR w0 μ0 H0 n μ' fr H' a w' :=
  ⟨hi, fun t => (h.fr t).mono hm, h.sz, h.df⟩

theorem Inv.drew {μ : Mu} {H : VH} {w : World} (h : Inv w0 μ0 H0 μ H w) : Inv w0 μ0 H0 μ H { w with drawn := w.drawn + 1 } :=
  ⟨h.hr.later (fun _ _ => rfl) (Nat.le_refl _), h.below.drew, h.n0, h.oldμ, h.oldH, h.fresh⟩

theorem below_setCells {B b : Nat} {a : World} (hb : B ≤ b) : ∀ (vs : List Value) (o : Nat) (w : World), Below B a w → Below B a (w.setCells b o vs)
  | [], _, _, h => h
  | v :: r, o, w, h => below_setCells hb r (o + 1) _ (h.setCell (p := ⟨b, o, none⟩) hb v)

theorem Inv.fresh' {μ : Mu} {H : VH} {w : World} (h : Inv w0 μ0 H0 μ H w) {zs zs' : List Value} (hz : VRs μ zs zs') (T : TypeId) :
    Inv w0 μ0 H0 (μ ++ [⟨w.heap.size, 0, zs.length, some zs.length⟩]) (H ++ [.row raw zs.length [zs] .own]) { w with heap := w.heap.push (.cells ⟨zs'⟩ T (0, 0)) } where
  hr := h.hr.fresh hz T
  below := by
    have := h.below.alloc h.below.size (.cells ⟨zs'⟩ T (0, 0))
    exact this
  n0 := by simp; have := h.n0; omega
  oldμ b hb := by
    rw [List.getElem?_append_left (by rw [h.hr.len]; have := h.n0; omega)]
    exact h.oldμ b hb
  oldH b hb := by
    rw [hget_append_lt (by have := h.n0; omega)]
    exact h.oldH b hb
  fresh b p hb hp := by
    rcases Nat.lt_or_ge b μ.length with hlt | hge
    · rw [List.getElem?_append_left hlt] at hp
      exact h.fresh b p hb hp
    · rw [List.getElem?_append_right hge] at hp
      have : b - μ.length = 0 := by
        rcases Nat.eq_zero_or_pos (b - μ.length) with h0 | h0
        · exact h0
        · rw [List.getElem?_eq_none (by simp; omega)] at hp; cases hp
      rw [this] at hp
      simp at hp
      subst hp
      exact h.below.size

theorem Inv.step {μ μ' : Mu} {H H' : VH} {w w' : World} (h : Inv w0 μ0 H0 μ H w) (hr : HR μ' H' w') (hb : Below w0.heap.size w w') (hlen : H.length ≤ H'.length)
    (hμ : ∀ b, b < H0.length → μ'[b]? = μ[b]?) (hH : ∀ b, b < H0.length → hget H' b = hget H b)
    (hf : ∀ (b : Nat) (p : Place), H0.length ≤ b → μ'[b]? = some p → μ[b]? = some p ∨ w0.heap.size ≤ p.blk) : Inv w0 μ0 H0 μ' H' w' where
  hr := hr
  below := h.below.trans hb
  n0 := Nat.le_trans h.n0 hlen
  oldμ b hb := by rw [hμ b hb]; exact h.oldμ b hb
  oldH b hb := by rw [hH b hb]; exact h.oldH b hb
  fresh b p hb hp := by
    rcases hf b p hb hp with h' | h'
    · exact h.fresh b p hb h'
    · exact h'

theorem snoc_or {μ : Mu} {q : Place} {b : Nat} {p : Place} (h : (μ ++ [q])[b]? = some p) : μ[b]? = some p ∨ p = q := by
  rcases Nat.lt_or_ge b μ.length with hlt | hge
  · rw [List.getElem?_append_left hlt] at h
    exact .inl h
  · rw [List.getElem?_append_right hge] at h
    have : b - μ.length = 0 := by
      rcases Nat.eq_zero_or_pos (b - μ.length) with h0 | h0
      · exact h0
      · rw [List.getElem?_eq_none (by simp; omega)] at h; cases h
    rw [this] at h
    simp at h
    exact .inr h.symm

/-- One block more, which is new. -/
theorem Inv.snoc {μ : Mu} {H : VH} {w w' : World} {X : VB} {q : Place} (h : Inv w0 μ0 H0 μ H w) (hr : HR (μ ++ [q]) (H ++ [X]) w') (hb : Below w0.heap.size w w') (hq : w0.heap.size ≤ q.blk) :
    Inv w0 μ0 H0 (μ ++ [q]) (H ++ [X]) w' :=
  h.step hr hb (by simp) (fun b hb => List.getElem?_append_left (by rw [h.hr.len]; exact Nat.lt_of_lt_of_le hb h.n0)) (fun b hb => hget_append_lt (Nat.lt_of_lt_of_le hb h.n0))
    (fun b p _ hp => (snoc_or hp).imp id (fun e => by subst e; exact hq))

theorem flat_as {C C2 : Codec} : ∀ {l : List C2.α}, okAll C C2 l = true → flat C (asC C C2 l) = flat C2 l
  | [], _ => rfl
  | y :: r, h => by
    simp only [okAll, Bool.and_eq_true] at h
    simp only [asC, flat, flat_as h.2, C.h_dec _ h.1.1]

theorem as_lens {C C2 : Codec} {e : Nat} : ∀ {l : List C2.α}, okAll C C2 l = true → (∀ y ∈ l, (C2.enc y).length = e) → ∀ y ∈ asC C C2 l, (C.enc y).length = e
  | [], _, _, y, hy => by simp [asC] at hy
  | x :: r, h, hl, y, hy => by
    simp only [okAll, Bool.and_eq_true] at h
    simp only [asC, List.mem_cons] at hy
    rcases hy with rfl | hy
    · rw [C.h_dec _ h.1.1]; exact hl x (by simp)
    · exact as_lens h.2 (fun y hy => hl y (by simp [hy])) y hy

theorem as_len {C C2 : Codec} : ∀ {l : List C2.α}, (asC C C2 l).length = l.length
  | [] => rfl
  | _ :: r => by simp [asC, as_len (l := r)]

theorem cellsV_mem : ∀ {l : List Value}, cellsV l = true → ∀ v ∈ l, cellV v = true
  | [], _, v, hv => by simp at hv
  | x :: r, h, v, hv => by
    simp only [cellsV, Bool.and_eq_true] at h
    rcases List.mem_cons.1 hv with rfl | hv
    · exact h.1
    · exact cellsV_mem h.2 v hv

theorem okAll_cells {C C2 : Codec} : ∀ {l : List C2.α}, okAll C C2 l = true → ∀ v ∈ flat C2 l, cellV v = true
  | [], _, v, hv => by simp [flat] at hv
  | y :: r, h, v, hv => by
    simp only [okAll, Bool.and_eq_true] at h
    simp only [flat, List.mem_append] at hv
    rcases hv with hv | hv
    · exact cellsV_mem h.1.2 v hv
    · exact okAll_cells h.2 v hv

/-- A fresh row, with room behind it. -/
theorem HR.freshRow {μ : Mu} {H : VH} {w : World} (h : HR μ H w) {C : Codec} {esz : Nat} {ys : List C.α} {ns' : List Value} (hy : ∀ y ∈ ys, (C.enc y).length = esz) (hv : VRs μ (flat C ys) ns') (rest : List Value) (T : TypeId) :
    HR (μ ++ [⟨w.heap.size, 0, esz, some (ns'.length + rest.length)⟩]) (H ++ [.row C esz ys .own]) { w with heap := w.heap.push (.cells ⟨ns' ++ rest⟩ T (0, 0)) } := by
  have hb : ∀ k, k < w.heap.size → (w.heap.push (.cells ⟨ns' ++ rest⟩ T (0, 0)))[k]? = w.heap[k]? := fun k hk => by
    rw [Array.getElem?_push]; simp [Nat.ne_of_lt hk]
  have hcell : ∀ i, ({ w with heap := w.heap.push (.cells ⟨ns' ++ rest⟩ T (0, 0)) } : World).cell? ⟨w.heap.size, i, none⟩ = (ns' ++ rest)[i]? := fun i => by
    simp [World.cell?]
  refine h.snoc (w' := { w with heap := w.heap.push (.cells ⟨ns' ++ rest⟩ T (0, 0)) }) hb (by simp) (Nat.le_refl _) ⟨rfl, by simp, hy, ?_, ?_⟩
  · intro i j x v h1 h2
    have hj : j < esz := by rw [← hy x (List.mem_of_getElem? h1)]; exact (List.getElem?_eq_some_iff.1 h2).1
    have hf := flat_get hy h1 hj
    rw [h2] at hf
    obtain ⟨v', k1, k2⟩ := hv.get hf
    refine ⟨v', ?_, k2.mono (mu_snoc _ _)⟩
    unfold Place.at
    simp only [Nat.zero_add]
    rw [hcell, List.getElem?_append_left (List.getElem?_eq_some_iff.1 k1).1]
    exact k1
  · intro _
    refine ⟨_, rfl, ?_, fun i hi => ⟨?_, by simp [World.frozen?]⟩⟩
    · rw [hv.length, flat_len hy]; omega
    · rw [Nat.zero_add, hcell]
      exact ⟨_, List.getElem?_eq_getElem (by simpa using hi)⟩

/-- What lies in a row, cell by cell. -/
theorem row_cells {μ : Mu} {w : World} {C : Codec} {esz : Nat} {l : List C.α} {m : VMode} {p : Place} (r : RowOk μ w C esz l m p) : ∀ (n i : Nat), i + n ≤ l.length →
    ∃ ns, VRs μ (flat C ((l.drop i).take n)) ns ∧ ns.length = n * esz ∧ ∀ j u, ns[j]? = some u → w.cell? ((p.at i 0).add j) = some u
  | 0, i, _ => ⟨[], by simpa [flat] using .nil, by simp, fun j u h => by simp at h⟩
  | n + 1, i, h => by
    have hi : i < l.length := by omega
    have hx := nth_some hi
    have hl := r.lens _ (List.mem_of_getElem? hx)
    obtain ⟨ns, k1, k2, k3⟩ := row_cells r n (i + 1) (by omega)
    have hd : (l.drop i).take (n + 1) = nth C l i :: (l.drop (i + 1)).take n := by
      rw [List.drop_eq_getElem_cons hi, List.take_succ_cons]
      congr 1
      rw [List.getElem?_eq_getElem hi] at hx
      exact Option.some.inj hx
    -- the element's own cells
    have one : ∀ (cs : List Value) (j : Nat), (C.enc (nth C l i)).drop j = cs → ∃ vs, VRs μ cs vs ∧ ∀ q u, vs[q]? = some u → w.cell? (p.at i (j + q)) = some u := by
      intro cs
      induction cs with
      | nil => intro j _; exact ⟨[], .nil, fun q u h => by simp at h⟩
      | cons c cs ih =>
        intro j hj
        obtain ⟨v', c1, c2⟩ := r.cells i j _ c hx (drop_head hj)
        obtain ⟨vs, d1, d2⟩ := ih (j + 1) (by
          have := congrArg (List.drop 1) hj
          rwa [List.drop_drop, List.drop_one] at this)
        refine ⟨v' :: vs, .cons c2 d1, fun q u hq => ?_⟩
        cases q with
        | zero => simp at hq; subst hq; exact c1
        | succ q => rw [show j + (q + 1) = j + 1 + q by omega]; exact d2 q u (by simpa using hq)
    obtain ⟨vs, e1, e2⟩ := one _ 0 rfl
    rw [List.drop_zero] at e1
    refine ⟨vs ++ ns, by rw [hd]; exact e1.append k1, by rw [List.length_append, e1.length, hl, k2, Nat.succ_mul]; omega, fun j u hj => ?_⟩
    have hvl : vs.length = esz := by rw [e1.length, hl]
    rcases Nat.lt_or_ge j esz with hlt | hge
    · rw [List.getElem?_append_left (by omega)] at hj
      rw [at_add, Nat.zero_add]
      have := e2 j u hj
      simpa using this
    · rw [List.getElem?_append_right (by omega), hvl] at hj
      have := k3 (j - esz) u hj
      rw [at_add] at this ⊢
      have hpl : p.at (i + 1) (0 + (j - esz)) = p.at i (0 + j) := by
        unfold Place.at
        rw [r.pe, Nat.add_mul]
        simp only [Nat.one_mul, Addr.mk.injEq, and_true, true_and]
        omega
      rwa [hpl] at this

theorem run_append_in {P : Program} (w : World) (t ty e : TypeId) (i : TypeInfo) (ht : P.underlying t = some (.slice e)) (hi : P.info? e = some i) (B a : Addr) (n c' m c : Nat) (news : List Value) {w' : World}
    (hl : news.length = m * i.size) (hnews : ∀ j u, news[j]? = some u → w.cell? (a.add j) = some u) (hroom : n + m ≤ c') (hst : (storeCells (B.add (n * i.size)) news).run P w = .ok () w') :
    (Builtin.append_ #[t, t] ty #[.slice (some B) n c', .slice (some a) m c]).run P w = .ok (.slice (some B) (n + m) c') w' := by
  have hf := run_firstCells_some (P := P) w i.size m a m c news hl hnews
  simp [Builtin.append_, run_underlying ht, sizeOf, typeInfo, hi, Builtin.lenOf, hroom, hf, hst]

theorem run_append_nil0 {P : Program} (w : World) (t ty e : TypeId) (i : TypeInfo) (ht : P.underlying t = some (.slice e)) (hi : P.info? e = some i) (a : Addr) (c : Nat) :
    (Builtin.append_ #[t, t] ty #[.slice none 0 0, .slice (some a) 0 c]).run P w = .ok (.slice none 0 0) w := by
  simp [Builtin.append_, run_underlying ht, sizeOf, typeInfo, hi, Builtin.lenOf, Builtin.firstCells, loadCells, loadCellsFrom]

theorem Below.alloc' {B : Nat} {w : World} (h : B ≤ w.heap.size) (o : Obj) : Below B w { w with heap := w.heap.push o } := (Below.refl B w).alloc h o

theorem below_drewAlloc {B : Nat} {w : World} (h : B ≤ w.heap.size) (o : Obj) : Below B w (w.drew.alloc o) := ((Below.refl B w).drew).alloc h o

theorem below_setCells' {B b : Nat} (hb : B ≤ b) (vs : List Value) (o : Nat) (w : World) : Below B w (w.setCells b o vs) := below_setCells hb vs o w (Below.refl _ _)

/-- 'append' says what it does. -/
theorem append_sound (hro : Ro H0) {μ : Mu} {H : VH} {w : World} {t t0 : TypeId} {s s' x' : Value} {b2 j0 m c : Nat} {K : Value → VH → Prop} {R : Value → World → Prop}
    (inv : Inv w0 μ0 H0 μ H w) (hs : VR μ s s') (hx : VR μ (.slice (some ⟨b2, j0, none⟩) m c) x') (h : appendP P t s (hget H b2) j0 m H K)
    (hR : ∀ v v' μ' H' w', VR μ' v v' → Inv w0 μ0 H0 μ' H' w' → Mu.le μ μ' → K v H' → R v' w') :
    ∃ v' w', (Builtin.append_ #[t, t] t0 #[s', x']).run P w = .ok v' w' ∧ R v' w' := by
  unfold appendP at h
  split at h
  · rename_i e ht
    split at h
    · rename_i n1 by1 zs C2 esz2 l2 m2 hsz hby hz hg2
      obtain ⟨i, z, hi, hiz, hzc, _⟩ := zeroCells_some hz
      obtain ⟨i2, hi2, his, _⟩ := szOf_some hsz
      obtain rfl : i2 = i := Option.some.inj (hi2.symm.trans hi)
      have hbyte : i2.bytes = by1 + 1 := by
        unfold infoB at hby
        rw [hi] at hby
        exact Option.some.inj hby
      cases hc1 : ((Nat.ble (j0 + m) l2.length && Nat.beq esz2 (n1 + 1)) && Nat.beq zs.length (n1 + 1)) with
      | false => rw [hc1] at h; exact h.elim
      | true =>
        rw [hc1] at h
        simp only [need] at h
        simp only [Bool.and_eq_true, Nat.ble_eq] at hc1
        have hle2 : j0 + m ≤ l2.length := hc1.1.1
        obtain rfl := Nat.eq_of_beq_eq_true hc1.1.2
        have hzl : z.cells.size = n1 + 1 := by
          have := Nat.eq_of_beq_eq_true hc1.2
          rw [← hzc, Array.length_toList] at this
          exact this
        obtain ⟨p2, hp2, r2⟩ := inv.hr.row _ _ _ _ _ hg2
        -- what is added
        have hnews : ∃ (a : Addr) (cc : Nat) (ns : List Value), x' = .slice (some a) m cc ∧ VRs μ (flat C2 ((l2.drop j0).take m)) ns ∧ ns.length = m * (n1 + 1) ∧ ∀ j u, ns[j]? = some u → w.cell? (a.add j) = some u := by
          cases hx with
          | slice hp hle hlim =>
            rename_i c' p
            obtain rfl : p = p2 := Option.some.inj (hp.symm.trans hp2)
            obtain ⟨ns, k1, k2, k3⟩ := row_cells r2 m j0 hle2
            exact ⟨_, c', ns, rfl, k1, k2, k3⟩
          | slice0 a => exact ⟨a, 0, [], rfl, by simpa [flat] using .nil, by simp, fun j u h => by simp at h⟩
        obtain ⟨a, cc, ns, rfl, hv, hnl, hcell⟩ := hnews
        have lens2 : ∀ y ∈ (l2.drop j0).take m, (C2.enc y).length = n1 + 1 := fun y hy => r2.lens y (List.mem_of_mem_drop (List.mem_of_mem_take hy))
        have hm : ((l2.drop j0).take m).length = m := by simp; omega
        have hcap : ∀ need old, need ≤ grownCap w need old e := fun need old => grownCap_ge w need old e
        -- a new array
        have fresh : ∀ {C : Codec} {ys : List C.α} {ms : List Value} {nn cp : Nat}, (∀ y ∈ ys, (C.enc y).length = n1 + 1) → VRs μ (flat C ys) ms → ms.length = nn * (n1 + 1) → nn ≤ cp →
            VR (μ ++ [(⟨w.heap.size, 0, n1 + 1, some (ms.length + (Builtin.zeroCells z.cells (cp - nn)).toList.length)⟩ : Place)]) (.slice (some ⟨H.length, 0, none⟩) nn nn) (.slice (some ⟨w.heap.size, 0, none⟩) nn cp) ∧
            Inv w0 μ0 H0 (μ ++ [⟨w.heap.size, 0, n1 + 1, some (ms.length + (Builtin.zeroCells z.cells (cp - nn)).toList.length)⟩]) (H ++ [.row C (n1 + 1) ys .own])
              (w.drew.alloc (.cells (ms.toArray ++ Builtin.zeroCells z.cells (cp - nn)) e)) := by
          intro C ys ms nn cp hy hms hml hcp
          have h1 := (inv.hr.later (w' := w.drew) (fun _ _ => rfl) (Nat.le_refl _)).freshRow hy hms (Builtin.zeroCells z.cells (cp - nn)).toList e
          have harr : (⟨ms ++ (Builtin.zeroCells z.cells (cp - nn)).toList⟩ : Array Value) = ms.toArray ++ Builtin.zeroCells z.cells (cp - nn) := by
            apply Array.toList_inj.1; simp
          rw [harr] at h1
          refine ⟨?_, inv.snoc h1 (below_drewAlloc inv.below.size _) inv.below.size⟩
          have hl : (μ ++ [(⟨w.heap.size, 0, n1 + 1, some (ms.length + (Builtin.zeroCells z.cells (cp - nn)).toList.length)⟩ : Place)])[H.length]? = some ⟨w.heap.size, 0, n1 + 1, some (ms.length + (Builtin.zeroCells z.cells (cp - nn)).toList.length)⟩ := by
            rw [← inv.hr.len]; simp
          have := VR.slice (i := 0) (n := nn) (c := nn) (c' := cp) hl hcp (fun L hL => by
            simp only [Option.some.injEq] at hL
            have hz2 : (Builtin.zeroCells z.cells (cp - nn)).toList.length = (cp - nn) * (n1 + 1) := by rw [Array.length_toList, size_zeroCells, hzl]
            rw [hz2, hml, ← Nat.add_mul, show nn + (cp - nn) = cp by omega] at hL
            rw [← hL, Nat.zero_add]
            exact Nat.le_refl _)
          simpa [Place.at] using this
        split at h
        · -- to nothing
          cases hs
          cases hm0 : Nat.beq m 0 with
          | true =>
            rw [hm0] at h
            obtain rfl := Nat.eq_of_beq_eq_true hm0
            exact ⟨_, _, run_append_nil0 w t t0 e i2 ht hi a cc, hR _ _ μ H w .nils inv (fun _ _ h => h) h⟩
          | false =>
            rw [hm0] at h
            simp only [bcase] at h
            have hmpos : 0 < m := by
              rcases Nat.eq_zero_or_pos m with h0 | h0
              · subst h0; cases hm0
              · exact h0
            cases hc2 : (Nat.ble (m * (by1 + 1)) 140737488355328 && okAll (codecOf P e) C2 ((l2.drop j0).take m)) with
            | false => rw [hc2] at h; exact h.elim
            | true =>
              rw [hc2] at h
              simp only [Bool.and_eq_true, Nat.ble_eq] at hc2
              have hsmall : m ≤ 140737488355328 := Nat.le_trans (Nat.le_mul_of_pos_right m (Nat.succ_pos by1)) hc2.1
              have hrun := run_append_nil (P := P) w t t0 e i2 z ht hi hiz a m cc ns (by rw [his]; exact hnl) hcell hmpos (by omega) (by rw [hbyte]; omega)
              obtain ⟨k1, k2⟩ := fresh (C := codecOf P e) (ys := asC (codecOf P e) C2 ((l2.drop j0).take m)) (ms := ns) (nn := m) (cp := grownCap w m 0 e)
                (as_lens hc2.2 lens2) (by rw [flat_as hc2.2]; exact hv) hnl (hcap m 0)
              exact ⟨_, _, hrun, hR _ _ _ _ _ k1 k2 (mu_snoc _ _) h⟩
        · -- to a row
          rename_i b i0 n cq
          split at h
          · rename_i C esz l hg
            cases hc2 : ((Nat.beq esz (n1 + 1) && Nat.beq (i0 + n) l.length) && (Nat.ble ((n + m) * (by1 + 1)) 140737488355328 && okAll C C2 ((l2.drop j0).take m))) with
            | false => rw [hc2] at h; exact h.elim
            | true =>
              rw [hc2] at h
              simp only [Bool.and_eq_true, Nat.ble_eq] at hc2
              obtain ⟨⟨q1, q2⟩, q3, q4⟩ := hc2
              obtain rfl := Nat.eq_of_beq_eq_true q1
              have hfull := Nat.eq_of_beq_eq_true q2
              have hsmall : n + m ≤ 140737488355328 := Nat.le_trans (Nat.le_mul_of_pos_right (n + m) (Nat.succ_pos by1)) q3
              have hge : H0.length ≤ b := by
                rcases Nat.lt_or_ge b H0.length with hlt | hge
                · exfalso
                  rw [inv.oldH b hlt] at hg
                  rcases hro b with ⟨C', e', l', h', _⟩ | h' <;> rw [h'] at hg <;> cases hg
                · exact hge
              obtain ⟨p, hp, r⟩ := inv.hr.row _ _ _ _ _ hg
              obtain ⟨L, hL, hlen, hcl⟩ := r.own rfl
              have hbl : b < H.length := by rw [← inv.hr.len]; exact mu_lt hp
              have hys : ∀ y ∈ asC C C2 ((l2.drop j0).take m), (C.enc y).length = n1 + 1 := as_lens q4 lens2
              have hfl : VRs μ (flat C (asC C C2 ((l2.drop j0).take m))) ns := by rw [flat_as q4]; exact hv
              have hone : ∀ v ∈ ns, v.oneCell' = true := hv.ones (okAll_cells q4)
              have hst := inv.hr.stale hg
              -- with the old row aside
              have invs : Inv w0 μ0 H0 μ (hset H b (.row C (n1 + 1) l .stale)) w := inv.step hst (Below.refl _ _) (by rw [hset_len]; exact Nat.le_refl _) (fun _ _ => rfl)
                (fun b' hb' => hget_set_ne (by omega)) (fun b' p' _ hp' => .inl hp')
              -- a new array for all
              have grown : ∀ (B : Addr) (c' : Nat) (os : List Value), s' = .slice (some B) n c' → c' < n + m → VRs μ (flat C (l.drop i0)) os → os.length = n * (n1 + 1) → (∀ j u, os[j]? = some u → w.cell? (B.add j) = some u) →
                  ∃ v' w', (Builtin.append_ #[t, t] t0 #[s', .slice (some a) m cc]).run P w = .ok v' w' ∧ R v' w' := by
                intro B c' os hs' hc' hos hol hoc
                subst hs'
                have hrun := run_append_grow (P := P) w t t0 e i2 z ht hi hiz B n c' os (by rw [his]; exact hol) hoc a m cc ns (by rw [his]; exact hnl) hcell hc' (by omega) (by rw [hbyte]; exact growslice_fits hc' q3)
                have hall : VRs μ (flat C (l.drop i0 ++ asC C C2 ((l2.drop j0).take m))) (os ++ ns) := by
                  have : ∀ (x y : List C.α), flat C (x ++ y) = flat C x ++ flat C y := by
                    intro x y
                    induction x with
                    | nil => rfl
                    | cons z x ih => simp [flat, ih]
                  rw [this]
                  exact hos.append hfl
                have hlens : ∀ y ∈ l.drop i0 ++ asC C C2 ((l2.drop j0).take m), (C.enc y).length = n1 + 1 := fun y hy => by
                  rcases List.mem_append.1 hy with hy | hy
                  · exact r.lens y (List.mem_of_mem_drop hy)
                  · exact hys y hy
                have hfr := (hst.later (w' := w.drew) (fun _ _ => rfl) (Nat.le_refl _)).freshRow hlens hall (Builtin.zeroCells z.cells (grownCap w (n + m) c' e - (n + m))).toList e
                have harr : (⟨os ++ ns ++ (Builtin.zeroCells z.cells (grownCap w (n + m) c' e - (n + m))).toList⟩ : Array Value) = os.toArray ++ ns.toArray ++ Builtin.zeroCells z.cells (grownCap w (n + m) c' e - (n + m)) := by
                  apply Array.toList_inj.1; simp
                rw [harr] at hfr
                refine ⟨_, _, hrun, hR _ _ _ _ _ ?_ (invs.snoc hfr (below_drewAlloc inv.below.size _) inv.below.size) (mu_snoc _ _) h⟩
                have hl : (μ ++ [(⟨w.heap.size, 0, n1 + 1, some ((os ++ ns).length + (Builtin.zeroCells z.cells (grownCap w (n + m) c' e - (n + m))).toList.length)⟩ : Place)])[H.length]? = some ⟨w.heap.size, 0, n1 + 1, some ((os ++ ns).length + (Builtin.zeroCells z.cells (grownCap w (n + m) c' e - (n + m))).toList.length)⟩ := by
                  rw [← inv.hr.len]; simp
                have := VR.slice (i := 0) (n := n + m) (c := n + m) (c' := grownCap w (n + m) c' e) hl (hcap _ _) (fun L' hL' => by
                  simp only [Option.some.injEq] at hL'
                  have hg' := hcap (n + m) c'
                  have hz2 : (Builtin.zeroCells z.cells (grownCap w (n + m) c' e - (n + m))).toList.length = (grownCap w (n + m) c' e - (n + m)) * (n1 + 1) := by rw [Array.length_toList, size_zeroCells, hzl]
                  rw [hz2, List.length_append, hol, hnl, ← Nat.add_mul, ← Nat.add_mul, show n + m + (grownCap w (n + m) c' e - (n + m)) = grownCap w (n + m) c' e by omega] at hL'
                  rw [← hL', Nat.zero_add]
                  exact Nat.le_refl _)
                simpa [Place.at] using this
              cases hs with
              | slice hpb hle hlim =>
                rename_i c' pb
                obtain rfl : pb = p := Option.some.inj (hpb.symm.trans hp)
                rcases Nat.lt_or_ge c' (n + m) with hlt | hroom
                · obtain ⟨os, o1, o2, o3⟩ := row_cells r n i0 (by omega)
                  have hto : (l.drop i0).take n = l.drop i0 := List.take_of_length_le (by simp; omega)
                  rw [hto] at o1
                  exact grown _ c' os rfl hlt o1 o2 o3
                · have hroomL : (l.length + (asC C C2 ((l2.drop j0).take m)).length) * (n1 + 1) ≤ L := by
                    rw [as_len, hm, ← hfull]
                    have := hlim L hL
                    rw [r.pe] at this
                    exact Nat.le_trans (Nat.mul_le_mul_right _ (by omega)) this
                  obtain ⟨g1, g2⟩ := inv.hr.grow (P := P) hg hp hL (i0 := i0) (by omega) hys hfl hone hroomL
                  have hadr : (pb.at i0 0).add (n * i2.size) = ⟨pb.blk, pb.base + l.length * (n1 + 1), none⟩ := by
                    rw [at_add, his, ← hfull]
                    unfold Place.at
                    rw [r.pe, Nat.add_mul]
                    simp [Nat.add_assoc]
                  have hrun := run_append_in (P := P) w t t0 e i2 ht hi (pb.at i0 0) a n c' m cc ns (by rw [his]; exact hnl) hcell hroom (by rw [hadr]; exact g1)
                  have hinv : Inv w0 μ0 H0 (μ ++ [⟨pb.blk, pb.base + i0 * (n1 + 1), n1 + 1, some (L - i0 * (n1 + 1))⟩]) (hset H b (.row C (n1 + 1) l .stale) ++ [.row C (n1 + 1) (l.drop i0 ++ asC C C2 ((l2.drop j0).take m)) .own]) (w.setCells pb.blk (pb.base + l.length * (n1 + 1)) ns) := by
                    have hbe := inv.fresh b pb hge hp
                    refine invs.snoc g2 (below_setCells' hbe _ _ _) hbe
                  refine ⟨_, _, hrun, hR _ _ _ _ _ ?_ hinv (mu_snoc _ _) h⟩
                  have hl : (μ ++ [(⟨pb.blk, pb.base + i0 * (n1 + 1), n1 + 1, some (L - i0 * (n1 + 1))⟩ : Place)])[H.length]? = some ⟨pb.blk, pb.base + i0 * (n1 + 1), n1 + 1, some (L - i0 * (n1 + 1))⟩ := by
                    rw [← inv.hr.len]; simp
                  have := VR.slice (i := 0) (n := n + m) (c := n + m) (c' := c') hl hroom (fun L' hL' => by
                    simp only [Option.some.injEq] at hL'
                    subst hL'
                    have := hlim L hL
                    rw [r.pe, Nat.add_mul] at this
                    rw [Nat.zero_add]
                    exact Nat.le_sub_of_add_le (by rw [Nat.add_comm]; exact this))
                  have hat : pb.at i0 0 = ⟨pb.blk, pb.base + i0 * (n1 + 1), none⟩ := by unfold Place.at; rw [r.pe]; simp
                  rw [hat]
                  simpa [Place.at] using this
              | slice0 B =>
                rcases Nat.eq_zero_or_pos m with hm0 | hmpos
                · subst hm0
                  -- nothing to nothing: the row is as it was
                  have hns : ns = [] := List.eq_nil_of_length_eq_zero (by simpa using hnl)
                  subst hns
                  have hroomL : (l.length + (asC C C2 ((l2.drop j0).take 0)).length) * (n1 + 1) ≤ L := by
                    rw [as_len]; simpa using hlen
                  obtain ⟨g1, g2⟩ := inv.hr.grow (P := P) hg hp hL (i0 := i0) (by omega) hys hfl hone hroomL
                  have hrun := run_append_in (P := P) w t t0 e i2 ht hi B a 0 0 0 cc [] (by simp) (fun j u h => by simp at h) (Nat.le_refl _) (w' := w) rfl
                  have hinv : Inv w0 μ0 H0 (μ ++ [⟨p.blk, p.base + i0 * (n1 + 1), n1 + 1, some (L - i0 * (n1 + 1))⟩]) (hset H b (.row C (n1 + 1) l .stale) ++ [.row C (n1 + 1) (l.drop i0 ++ asC C C2 ((l2.drop j0).take 0)) .own]) w :=
                    invs.snoc g2 (Below.refl _ _) (inv.fresh b p hge hp)
                  exact ⟨_, _, hrun, hR _ _ _ _ _ (.slice0 B) hinv (mu_snoc _ _) h⟩
                · refine grown B 0 [] rfl (by omega) ?_ (by simp) (fun j u h => by simp at h)
                  rw [List.drop_eq_nil_of_le (by omega)]
                  exact .nil
          · exact h.elim
        · exact h.elim
    · exact h.elim
  · exact h.elim

theorem partsV_sound {μ : Mu} {ρ ρ' : Operand → Value} {n : Nat} (hρ : ∀ x, VR μ (ρ x) (ρ' x)) : ∀ (ps : List (Nat × Operand)) (k : Nat) (cl : List (List Value)), partsV ρ n k ps = some cl →
    (∀ y ∈ cl, (raw.enc y).length = n) ∧ ∀ (pre rest : List Value), pre.length = k * n → rest.length = cl.length * n →
      ∃ ns, VRs μ (flat raw cl) ns ∧ Instr.fill (fun i => some (i * n, n)) ⟨pre ++ rest⟩ (ps.map fun (i, x) => (i, ρ' x)) = some ⟨pre ++ ns⟩
  | [], k, cl, h => by
    obtain rfl := Option.some.inj h
    refine ⟨fun y hy => by simp at hy, fun pre rest _ hr => ⟨[], .nil, ?_⟩⟩
    have : rest = [] := List.eq_nil_of_length_eq_zero (by simpa using hr)
    rw [this]
    rfl
  | (i, x) :: ps, k, cl, h => by
    simp only [partsV] at h
    split at h
    · rename_i cs l hcs hl
      cases hb : (Nat.beq i k && Nat.beq cs.length n) with
      | false => rw [hb] at h; cases h
      | true =>
        rw [hb] at h
        obtain rfl := Option.some.inj h
        simp only [Bool.and_eq_true] at hb
        obtain rfl := Nat.eq_of_beq_eq_true hb.1
        have hn := Nat.eq_of_beq_eq_true hb.2
        obtain ⟨k1, k2⟩ := partsV_sound hρ ps (i + 1) l hl
        have hv := cellsOf_sound (hρ x) hcs
        have hvl : (ρ' x).cells.toList.length = n := by rw [hv.length, hn]
        have hsz : (ρ' x).cells.size = n := by rw [← Array.length_toList]; exact hvl
        refine ⟨fun y hy => ?_, fun pre rest hpre hrest => ?_⟩
        · rcases List.mem_cons.1 hy with rfl | hy
          · exact hn
          · exact k1 y hy
        · rw [List.length_cons, Nat.succ_mul] at hrest
          obtain ⟨ns, m1, m2⟩ := k2 (pre ++ (ρ' x).cells.toList) (rest.drop n) (by rw [List.length_append, hpre, hvl, Nat.succ_mul]) (by rw [List.length_drop, hrest]; omega)
          refine ⟨(ρ' x).cells.toList ++ ns, hv.append m1, ?_⟩
          have hf := fold_set (i * n) (ρ' x).cells.toList 0 (pre ++ rest) (by rw [List.length_append, hpre, hrest, hvl]; omega)
          simp only [Nat.add_zero] at hf
          have hf2 : ((ρ' x).cells.zipIdx.foldl (fun cs (x : Value × Nat) => cs.setIfInBounds (i * n + x.2) x.1) (⟨pre ++ rest⟩ : Array Value)) = ⟨PM.splice (pre ++ rest) (i * n) (ρ' x).cells.toList⟩ := by
            rw [← hf, ← Array.foldl_toList, Array.toList_zipIdx]
          have hsp : PM.splice (pre ++ rest) (i * n) (ρ' x).cells.toList = (pre ++ (ρ' x).cells.toList) ++ rest.drop n := by
            unfold PM.splice
            rw [hvl, List.take_append_of_le_length (by omega), List.take_of_length_le (by omega), List.drop_append, List.drop_eq_nil_of_le (by omega), hpre, show i * n + n - i * n = n by omega]
            simp
          have hcond : ¬ ((ρ' x).cells.size ≠ n ∨ i * n + (ρ' x).cells.size > (⟨pre ++ rest⟩ : Array Value).size) := by
            rw [hsz]
            have : (⟨pre ++ rest⟩ : Array Value).size = i * n + (l.length * n + n) := by
              show (pre ++ rest).length = _
              rw [List.length_append, hpre, hrest]
            rw [this]
            omega
          simp only [List.map_cons, Instr.fill]
          rw [if_neg (by simpa using hcond), hf2, hsp, m2]
          simp
    · cases h

def Keeps (H H' : VH) : Prop := H.length ≤ H'.length ∧ ∀ b, b < H.length → hget H' b = hget H b
theorem Keeps.refl (H : VH) : Keeps H H := ⟨Nat.le_refl _, fun _ _ => rfl⟩
theorem Keeps.trans {A B C : VH} (h : Keeps A B) (k : Keeps B C) : Keeps A C := ⟨Nat.le_trans h.1 k.1, fun b hb => by rw [k.2 b (Nat.lt_of_lt_of_le hb h.1), h.2 b hb]⟩
theorem Keeps.snoc (H : VH) (X : VB) : Keeps H (H ++ [X]) := ⟨by simp, fun b hb => hget_append_lt hb⟩

/-- A variable that has been made. -/
theorem new_sound {μ : Mu} {H : VH} {w : World} {t : TypeId} {zs zs' : List Value} {K : Value → VH → Prop} (inv : Inv w0 μ0 H0 μ H w) (hz : VRs μ zs zs') (T : TypeId) (h : newP P t zs H K) :
    ∃ v μ' H', VR μ' v (.pointer (some ⟨w.heap.size, 0, none⟩)) ∧ Inv w0 μ0 H0 μ' H' { w with heap := w.heap.push (.cells ⟨zs'⟩ T (0, 0)) } ∧ Mu.le μ μ' ∧ Keeps H H' ∧ K v H' := by
  have hl : (μ ++ [(⟨w.heap.size, 0, zs.length, some zs.length⟩ : Place)])[H.length]? = some ⟨w.heap.size, 0, zs.length, some zs.length⟩ := by
    rw [← inv.hr.len]; simp
  have hp := VR.ptr (i := 0) (j := 0) hl
  unfold newP at h
  split at h
  · rename_i k _
    cases ha : allI k zs with
    | false => rw [ha] at h; exact h.elim
    | true =>
      rw [ha] at h
      have hfr := inv.hr.freshRow (C := arrC k) (esz := zs.length) (ys := [decI zs]) (ns' := zs') (by
        intro y hy
        rw [List.mem_singleton.1 hy]
        show ((decI zs).map (Value.int k)).length = _
        rw [enc_decI ha]) (by
        show VRs μ ((decI zs).map (Value.int k) ++ []) zs'
        rw [enc_decI ha, List.append_nil]
        exact hz) [] T
      simp only [List.append_nil, List.length_nil, Nat.add_zero, hz.length] at hfr
      exact ⟨_, _, _, by simpa [Place.at] using hp, inv.snoc hfr (Below.alloc' inv.below.size _) inv.below.size, mu_snoc _ _, Keeps.snoc _ _, h⟩
  · exact ⟨_, _, _, by simpa [Place.at] using hp, inv.fresh' hz T, mu_snoc _ _, Keeps.snoc _ _, h⟩

theorem opE_default {μ : Mu} {H : VH} {w : World} (o : Oper) {a : Act} {ρ : Operand → Value} {K : Value → VH → Prop} {next : Act → World → Prop} {Q : Exit → Act → World → Prop}
    (inv : Inv w0 μ0 H0 μ H w) (hρ : ∀ x, VR μ (ρ x) (a.eval x))
    (h : match opV P ρ H o.op with | some (c, v) => need c (K v H) | none => False)
    (hnext : ∀ v v' μ' H' w', VR μ' v v' → Inv w0 μ0 H0 μ' H' w' → Mu.le μ μ' → K v H' → next (a.put o.dst v') w') : o.wp P a w next Q := by
  split at h
  · rename_i c v hv
    cases c with
    | false => exact h.elim
    | true =>
      obtain ⟨v', h1, h2⟩ := opV_sound o inv.hr hρ hv rfl
      unfold Oper.wp
      rw [h1, Oper.upon_value]
      exact hnext v v' μ H w h2 inv (fun _ _ h => h) h
  · exact h.elim

theorem opE_sound (hc : CallOk P call) (hro : Ro H0) {μ : Mu} {H : VH} {w : World} (o : Oper) {a : Act} {ρ : Operand → Value} {K : Value → VH → Prop} {next : Act → World → Prop} {Q : Exit → Act → World → Prop}
    (inv : Inv w0 μ0 H0 μ H w) (hρ : ∀ x, VR μ (ρ x) (a.eval x)) (h : opE P call ρ H K o.op)
    (hnext : ∀ v v' μ' H' w', VR μ' v v' → Inv w0 μ0 H0 μ' H' w' → Mu.le μ μ' → K v H' → next (a.put o.dst v') w') : o.wp P a w next Q := by
  have dflt := opE_default (P := P) (Q := Q) o inv hρ (K := K) (next := next)
  obtain ⟨dst, op, type, pos, after, guard⟩ := o
  simp only at h dflt hnext
  cases op
  case alloc t =>
    simp only [opE] at h
    split at h
    · rename_i zs hz
      unfold zeroCells at hz
      split at hz
      · rename_i i hi
        split at hz
        · rename_i z hzz
          cases hp : plainL z.cells.toList with
          | false => rw [hp] at hz; cases hz
          | true =>
            rw [hp] at hz
            obtain rfl := Option.some.inj hz
            have hrun : (execOp a.eval ⟨dst, .alloc t, type, pos, after, guard⟩).run P w = .ok (.value (.pointer (some ⟨w.heap.size, 0, none⟩))) { w with heap := w.heap.push (.cells z.cells t (0, 0)) } := by
              simp [execOp, Instr.alloc, zeroValue, run_typeInfo w hi, hzz, newVar, newRow]
            unfold Oper.wp
            rw [hrun, Oper.upon_value]
            obtain ⟨v, μ', H', k1, k2, k3, _, k5⟩ := new_sound inv (VRs.plain hp) t h
            exact hnext _ _ _ _ _ k1 k2 k3 k5
        · cases hz
      · cases hz
    · exact h.elim
  case box t x =>
    simp only [opE] at h
    split at h
    · rename_i zs hz
      have hv := cellsOf_sound (hρ x) hz
      have hrun : (execOp a.eval ⟨dst, .box t x, type, pos, after, guard⟩).run P w = .ok (.value (.pointer (some ⟨w.heap.size, 0, none⟩))) { w with heap := w.heap.push (.cells (a.eval x).cells t (0, 0)) } := by
        simp [execOp, Instr.box, newVar, newRow]
      unfold Oper.wp
      rw [hrun, Oper.upon_value]
      obtain ⟨v, μ', H', k1, k2, k3, _, k5⟩ := new_sound inv hv t h
      exact hnext _ _ _ _ _ k1 k2 k3 k5
    · exact h.elim
  case store t ad x =>
    simp only [opE] at h
    split at h
    · rename_i c H' hs
      unfold storeG at hs
      split at hs
      · rename_i b i j ha
        split at hs
        · rename_i C esz l m hg hm
          split at hs
          · rename_i cs hcs
            cases hlen : Nat.beq cs.length m with
            | false => rw [hlen] at hs; cases hs
            | true =>
              rw [hlen] at hs
              simp only [cond_true] at hs
              obtain rfl := Nat.eq_of_beq_eq_true hlen
              split at hs
              · rename_i y hy
                obtain ⟨rfl, rfl⟩ := Prod.mk.inj (Option.some.inj hs)
                cases hcond : (decide (i < l.length) && Nat.ble (j + cs.length) esz) with
                | false => rw [hcond] at h; exact h.elim
                | true =>
                  rw [hcond] at h
                  simp only [Bool.and_eq_true, decide_eq_true_eq, Nat.ble_eq] at hcond
                  have hpa := hρ ad
                  rw [ha] at hpa
                  generalize hq : a.eval ad = q at hpa
                  cases hpa with
                  | ptr hp =>
                    rename_i p
                    have hv := cellsOf_sound (hρ x) hcs
                    obtain ⟨p', hp', r⟩ := inv.hr.row _ _ _ _ _ hg
                    obtain rfl : p' = p := Option.some.inj (hp'.symm.trans hp)
                    obtain ⟨e1, e2⟩ := inv.hr.store (P := P) hg hp hcond.1 hcond.2 hy hv
                    have hsz : (a.eval x).cells.size = cs.length := by rw [← Array.length_toList]; exact hv.length
                    have hrun : (execOp a.eval ⟨dst, .store t ad x, type, pos, after, guard⟩).run P w = .ok .skip (w.setCells p'.blk (p'.base + i * esz + j) (a.eval x).cells.toList) := by
                      simp [execOp, hq, Instr.storeAt, Instr.sureAddr, storeVar, run_size hm, hsz, e1]
                    unfold Oper.wp
                    rw [hrun, Oper.upon_skip]
                    have hge : H0.length ≤ b := by
                      rcases Nat.lt_or_ge b H0.length with hlt | hge
                      · exfalso
                        rw [inv.oldH b hlt] at hg
                        rcases hro b with ⟨C', e', l', h', _⟩ | h' <;> rw [h'] at hg <;> cases hg
                      · exact hge
                    refine hnext undef undef μ _ _ (.tuple .nil) ⟨e2, below_setCells (inv.fresh b p' hge hp) _ _ _ inv.below, ?_, inv.oldμ, ?_, inv.fresh⟩ (fun _ _ h => h) h
                    · simp [hset_len]; exact inv.n0
                    · intro b' hb'
                      rw [hget_map _ rfl, hget_set_ne (by omega), inv.oldH b' hb']
                      rcases hro b' with ⟨C', e', l', h', _⟩ | h' <;> rw [h'] <;> rfl
              · cases hs
          · cases hs
        · cases hs
      · cases hs
    · exact h.elim
  case call c =>
    obtain ⟨callee, args, argTypes⟩ := c
    cases callee
    case value f =>
      simp only [opE] at h
      split at h
      · rename_i id first captured hf
        obtain ⟨⟨fn, cd, h1, h2, h3⟩, hm⟩ := hc _ _ _ _ h
        have hfr := hρ f
        rw [hf] at hfr
        generalize hq : a.eval f = q at hfr
        cases hfr with
        | func hl1 hl2 =>
          rename_i l1 m1 l1' m1'
          have hargs : VRs μ (args.toList.map ρ) (args.toList.map a.eval) := VRs.map ρ a.eval hρ _
          have hrun : (execOp a.eval ⟨dst, .call { callee := .value f, args, argTypes }, type, pos, after, guard⟩).run P w = .ok (.enter id ⟨l1' ++ (args.toList.map a.eval ++ m1')⟩) w := by
            simp only [execOp, resolve, hq, Deferred.ofValue, Sem.run_bind, Sem.run_pure, Result.andThen_ok, invoke, callFunc, run_program, h1, h2, h3, Bool.false_eq_true, if_false, Option.isNone_some]
            congr 2
            apply Array.toList_inj.1
            simp
          unfold Oper.wp
          rw [hrun, Oper.upon_enter]
          refine (hm μ w _ inv.hr (hl1.append (hargs.append hl2))).mono ?_
          rintro e w' ⟨r, r', μ', H', rfl, k1, k2, k3, k4, k5, k6, k7, k8⟩
          refine hnext r r' μ' H' w' k1 ⟨k2, inv.below.trans (k7.mono inv.below.size), Nat.le_trans inv.n0 k4, ?_, ?_, ?_⟩ k3 k8
          · intro b hb
            rw [← inv.oldμ b hb]
            have hbl : b < μ.length := by rw [inv.hr.len]; exact Nat.lt_of_lt_of_le hb inv.n0
            rw [List.getElem?_eq_getElem hbl]
            exact k3 b _ (List.getElem?_eq_getElem hbl)
          · intro b hb
            rw [k5 b (Nat.lt_of_lt_of_le hb inv.n0)]
            exact inv.oldH b hb
          · intro b p hb hp
            rcases Nat.lt_or_ge b H.length with hlt | hge
            · have hbl : b < μ.length := by rw [inv.hr.len]; exact hlt
              have := k3 b _ (List.getElem?_eq_getElem hbl)
              rw [hp] at this
              exact inv.fresh b p hb (by rw [List.getElem?_eq_getElem hbl, this])
            · exact Nat.le_trans inv.below.size (k6 b p hge hp)
      · exact h.elim
    case invoke r m => exact dflt h hnext
    case builtin b =>
      cases b
      case append =>
        simp only [opE] at h
        split at h
        · rename_i s x t t' ha hat
          obtain rfl : args = #[s, x] := by apply Array.toList_inj.1; simpa using ha
          obtain rfl : argTypes = #[t, t'] := by apply Array.toList_inj.1; simpa using hat
          cases htt : Nat.beq t t' with
          | false => rw [htt] at h; exact h.elim
          | true =>
            rw [htt] at h
            simp only [cond_true] at h
            obtain rfl := Nat.eq_of_beq_eq_true htt
            split at h
            · rename_i b2 j0 m c hx
              have hxr := hρ x
              rw [hx] at hxr
              obtain ⟨v', w', h1, h2⟩ := append_sound (t0 := type) hro inv (hρ s) hxr h (R := fun v' w' => next (a.put dst v') w') hnext
              have hrun : (execOp a.eval ⟨dst, .call { callee := .builtin .append, args := #[s, x], argTypes := #[t, t] }, type, pos, after, guard⟩).run P w = .ok (.value v') w' := by
                simp [execOp, resolve, invoke, builtin, h1]
              unfold Oper.wp
              rw [hrun, Oper.upon_value]
              exact h2
            · exact h.elim
        · exact h.elim
      all_goals exact dflt h hnext
  case range t x =>
    simp only [opE] at h
    split at h
    · rename_i s hu hx
      have hb := hρ x
      rw [hx] at hb
      generalize hq : a.eval x = q at hb
      cases hb
      have hrun : (execOp a.eval ⟨dst, .range t x, type, pos, after, guard⟩).run P w = .ok (.value (.pointer (some ⟨w.heap.size, 0, none⟩))) { w with heap := w.heap.push (.stringIter s 0) } := by
        simp [execOp, hq, Instr.range, run_underlying hu]
      unfold Oper.wp
      rw [hrun, Oper.upon_value]
      have hinv := inv.snoc (inv.hr.snocIter s 0) (Below.alloc' inv.below.size _) inv.below.size
      refine hnext _ _ _ _ _ ?_ hinv (mu_snoc _ _) h
      have hl : (μ ++ [(⟨w.heap.size, 0, 0, some 0⟩ : Place)])[H.length]? = some ⟨w.heap.size, 0, 0, some 0⟩ := by
        rw [← inv.hr.len]; simp
      have := VR.ptr (i := 0) (j := 0) hl
      simpa [Place.at] using this
    · exact h.elim
  case next it isS =>
    cases isS with
    | false => exact dflt h hnext
    | true =>
      simp only [opE] at h
      split at h
      · rename_i b hit
        have hb := hρ it
        rw [hit] at hb
        generalize hq : a.eval it = q at hb
        cases hb with
        | ptr hp =>
          rename_i p
          split at h
          · rename_i s o hg
            obtain ⟨p', hp', k1, k2⟩ := inv.hr.iter b s o hg
            obtain rfl : p' = p := Option.some.inj (hp'.symm.trans hp)
            have hat : p'.at 0 0 = ⟨p'.blk, 0, none⟩ := by unfold Place.at; rw [k2]; simp
            have hge : H0.length ≤ b := by
              rcases Nat.lt_or_ge b H0.length with hlt | hge
              · exfalso
                rw [inv.oldH b hlt] at hg
                rcases hro b with ⟨C', e', l', h', _⟩ | h' <;> rw [h'] at hg <;> cases hg
              · exact hge
            have hlt : p'.blk < w.heap.size := by
              rcases Nat.lt_or_ge p'.blk w.heap.size with h' | h'
              · exact h'
              · rw [Array.getElem?_eq_none h'] at k1; cases k1
            cases hpos : decide (o < s.size) with
            | true =>
              rw [hpos] at h
              have hpos' := of_decide_eq_true hpos
              have hrun : (execOp a.eval ⟨dst, .next it true, type, pos, after, guard⟩).run P w = .ok (.value (.tuple ⟨[.bool true, .int .i64 o, .int .i32 (Utf8.decode s o).1]⟩)) { w with heap := w.heap.setIfInBounds p'.blk (.stringIter s (o + (Utf8.decode s o).2)) } := by
                simp only [execOp, hq, hat, Instr.next, getObj, setObj, Sem.run_bind, Sem.run, k1, Result.andThen, hpos', if_true, Sem.run_pure]
                simp [goInt, Sem.run, k1]
              unfold Oper.wp
              rw [hrun, Oper.upon_value]
              refine hnext _ _ μ _ _ (.tuple (.cons (.bool _) (.cons (.int _ _) (.cons (.int _ _) .nil)))) (inv.step (inv.hr.setIter hg hp) ?_ (by rw [hset_len]; exact Nat.le_refl _) (fun _ _ => rfl) (fun b' hb' => hget_set_ne (by omega)) (fun b' q _ hq => .inl hq)) (fun _ _ h => h) h
              have hblk := inv.fresh b p' hge hp
              exact ⟨rfl, rfl, rfl, by simp, fun k hk => Array.getElem?_setIfInBounds_ne (by omega)⟩
            | false =>
              rw [hpos] at h
              have hpos' := of_decide_eq_false hpos
              have hrun : (execOp a.eval ⟨dst, .next it true, type, pos, after, guard⟩).run P w = .ok (.value (.tuple ⟨[.bool false]⟩)) w := by
                simp only [execOp, hq, hat, Instr.next, getObj, Sem.run_bind, Sem.run, k1, Result.andThen, hpos', if_false, Sem.run_pure]
                try rfl
              unfold Oper.wp
              rw [hrun, Oper.upon_value]
              exact hnext _ _ μ H w (.tuple (.cons (.bool _) .nil)) inv (fun _ _ h => h) h
          · exact h.elim
      · exact h.elim
  case buildSlice t len parts =>
    simp only [opE] at h
    split at h
    · rename_i e hu
      split at h
      · rename_i n1 zs hsz hz
        split at h
        · rename_i cl hcl
          cases hc2 : ((Nat.beq cl.length len && Nat.ble (len * (n1 + 1)) 16777216) && (Nat.beq zs.length (n1 + 1) && okAll (codecOf P e) raw cl)) with
          | false => rw [hc2] at h; exact h.elim
          | true =>
            rw [hc2] at h
            simp only [Bool.and_eq_true, Nat.ble_eq] at hc2
            obtain ⟨⟨q1, q2⟩, q3, q4⟩ := hc2
            obtain rfl := Nat.eq_of_beq_eq_true q1
            obtain ⟨z, e1, e2⟩ := run_zero (w := w) hz
            obtain ⟨pl, hpl⟩ := partsV_sound (μ := μ) (n := n1 + 1) hρ parts.toList 0 cl hcl
            have hsz2 : (sizeOf e).run P w = .ok (n1 + 1) w := run_size hsz
            obtain ⟨ns, k1, k2⟩ := hpl [] (((Array.range (cl.length * (n1 + 1))).map (z.cells[· % z.cells.size]!)).toList) (by simp) (by simp)
            have e7 : (parts.map fun (i, x) => (i, a.eval x)).toList = parts.toList.map fun (i, x) => (i, a.eval x) := by simp
            have hns : ns.length = cl.length * (n1 + 1) := by rw [k1.length]; exact flat_len (C := raw) pl
            have hrun : (execOp a.eval ⟨dst, .buildSlice t cl.length parts, type, pos, after, guard⟩).run P w = .ok (.value (.slice (some ⟨w.heap.size, 0, none⟩) cl.length cl.length)) { w with heap := w.heap.push (.cells ⟨ns⟩ e (0, 0)) } := by
              have hlim : ¬ (cl.length * (n1 + 1) > 2 ^ 24) := by omega
              by_cases h0 : cl.length = 0
              · have hz0 : cl.length * (n1 + 1) = 0 := by rw [h0]; simp
                have k3 := k2
                simp only [h0, Nat.zero_mul] at k3
                have hlim2 : ¬ ((0 : Nat) > 2 ^ 24) := by omega
                simp only [execOp, Instr.buildSlice, Sem.run_bind, run_underlying hu, Result.andThen_ok, hsz2, hlim2, if_false, hz0, if_true, Sem.run_pure, e7]
                have : (Array.map (fun x : Nat => (#[] : Array Value)[x % (#[] : Array Value).size]!) (Array.range 0)) = ⟨[] ++ ((Array.range 0).map (z.cells[· % z.cells.size]!)).toList⟩ := by simp
                rw [this, k3]
                simp [newRow, h0]
              · have hz0 : ¬ (cl.length * (n1 + 1) = 0) := fun hh => h0 (by
                  rcases Nat.mul_eq_zero.1 hh with hh | hh
                  · exact hh
                  · cases hh)
                have e8 : (⟨[] ++ ((Array.range (cl.length * (n1 + 1))).map (z.cells[· % z.cells.size]!)).toList⟩ : Array Value) = (Array.range (cl.length * (n1 + 1))).map (z.cells[· % z.cells.size]!) := by
                  apply Array.toList_inj.1; simp
                rw [e8] at k2
                simp only [execOp, Instr.buildSlice, Sem.run_bind, run_underlying hu, Result.andThen_ok, hsz2, hlim, if_false, hz0, e1, Sem.run_pure, e7, k2]
                simp [newRow]
            unfold Oper.wp
            rw [hrun, Oper.upon_value]
            have hlens : ∀ y ∈ asC (codecOf P e) raw cl, ((codecOf P e).enc y).length = n1 + 1 := as_lens q4 pl
            have hfr := inv.hr.freshRow (C := codecOf P e) (ys := asC (codecOf P e) raw cl) hlens (by rw [flat_as q4]; exact k1) [] e
            rw [List.append_nil] at hfr
            refine hnext _ _ _ _ _ ?_ (inv.snoc hfr (Below.alloc' inv.below.size _) inv.below.size) (mu_snoc _ _) h
            have hl : (μ ++ [(⟨w.heap.size, 0, n1 + 1, some (ns.length + ([] : List Value).length)⟩ : Place)])[H.length]? = some ⟨w.heap.size, 0, n1 + 1, some (ns.length + ([] : List Value).length)⟩ := by
              rw [← inv.hr.len]; simp
            have := VR.slice (i := 0) (n := cl.length) (c := cl.length) (c' := cl.length) hl (Nat.le_refl _) (fun L hL => by
              simp only [Option.some.injEq, List.length_nil, Nat.add_zero] at hL
              rw [← hL, hns, Nat.zero_add]
              exact Nat.le_refl _)
            simpa [Place.at] using this
        · exact h.elim
      · exact h.elim
    · exact h.elim
  all_goals exact dflt h hnext

/-- Every temporary that is written is one of the frame's. -/
def wfOps (n : Nat) : List Oper → Bool
  | [] => true
  | o :: r => (match o.dst with | some d => Nat.blt d n | none => true) && wfOps n r

theorem wfOps_cons {o : Oper} {r : List Oper} (h : wfOps n (o :: r) = true) : (∀ d, o.dst = some d → d < n) ∧ wfOps n r = true := by
  simp only [wfOps, Bool.and_eq_true] at h
  refine ⟨fun d hd => ?_, h.2⟩
  have := h.1
  rw [hd] at this
  exact Nat.le_of_ble_eq_true this

theorem lk_bool {μ : Mu} {fr : Fr} {H : VH} {a : Act} {w : World} (h : SR w0 μ0 H0 n μ fr H a w) {t : Nat} {b : Bool} (hl : lk fr t = .bool b) : a.tmps.getD t undef = .bool b := by
  have := h.fr t
  rw [hl] at this
  generalize a.tmps.getD t undef = q at this
  cases this
  rfl

theorem getD_some {xs : Array Value} {t : Nat} {v : Value} (h : xs.getD t undef = v) (hv : v ≠ undef) : xs[t]? = some v := by
  rw [Array.getD_eq_getD_getElem?] at h
  cases hx : xs[t]? with
  | none => rw [hx] at h; exact absurd h.symm hv
  | some u => rw [hx] at h; simpa using h

theorem dstOf_some {ops : Array Oper} {j t : Nat} (h : dstOf ops.toList j = some t) : (ops[j]?).bind (·.dst) = some t := by
  unfold dstOf at h
  split at h
  · rename_i o r hd
    have : ops.toList[j]? = some o := by
      have := congrArg (·[0]?) hd
      simpa using this
    rw [Array.getElem?_toList] at this
    rw [this]
    exact h
  · cases h

theorem wanted_none {o : Oper} (ops : Array Oper) (a : Act) (h : o.guard = none) : Region.wanted o (yielded ops a.tmps) = true := by
  simp [Region.wanted, h]

theorem wanted_bool {μ : Mu} {fr : Fr} {H : VH} {a : Act} {w : World} (h : SR w0 μ0 H0 n μ fr H a w) {o : Oper} {ops : Array Oper} {j t : Nat} {want b : Bool} (hg : o.guard = some (j, want))
    (hd : dstOf ops.toList j = some t) (hl : lk fr t = .bool b) : Region.wanted o (yielded ops a.tmps) = (b == want) := by
  have h1 := getD_some (lk_bool h hl) (by intro hh; cases hh)
  simp [Region.wanted, hg, yielded, dstOf_some hd, h1]

theorem wanted_undef {μ : Mu} {fr : Fr} {H : VH} {a : Act} {w : World} (h : SR w0 μ0 H0 n μ fr H a w) {o : Oper} {ops : Array Oper} {j t : Nat} {want : Bool} (hg : o.guard = some (j, want))
    (hd : dstOf ops.toList j = some t) (hl : lk fr t = .tuple ⟨[]⟩) : Region.wanted o (yielded ops a.tmps) = false := by
  have h1 := h.fr t
  rw [hl] at h1
  have h2 : a.tmps.getD t undef = undef := by
    generalize a.tmps.getD t undef = q at h1
    cases h1 with
    | tuple hv => cases hv; rfl
  have h3 : ∀ b, a.tmps[t]? ≠ some (.bool b) := fun b hb => by
    rw [Array.getD_eq_getD_getElem?, hb] at h2
    cases h2
  simp only [Region.wanted, hg, yielded, dstOf_some hd, Option.bind_some]
  cases hx : a.tmps[t]? with
  | none => rfl
  | some v =>
    cases v <;> first | rfl | exact absurd hx (h3 _)

/-- What is asked behind a list of operations, or behind code. -/
def After (w0 : World) (μ0 : Mu) (H0 : VH) (n : Nat) (K : Fr → VH → Prop) (a : Act) (w : World) : Prop :=
  ∃ (fr : Fr) (H : VH) (μ : Mu), SR w0 μ0 H0 n μ fr H a w ∧ K fr H

theorem opsP_sound (hc : CallOk P call) (hro : Ro H0) {ops : Array Oper} {K : Fr → VH → Prop} {Q : Exit → Act → World → Prop}
    (hQ : ∀ a w, After w0 μ0 H0 n K a w → Q .normal a w) : ∀ (l : List Oper) (fr : Fr) (H : VH) (μ : Mu) (a : Act) (w : World), wfOps n l = true →
    opsP P call ops.toList K l fr H → SR w0 μ0 H0 n μ fr H a w → wpList P ops Q l a w
  | [], fr, H, μ, a, w, _, h, sr => hQ a w ⟨fr, H, μ, sr, h⟩
  | o :: rest, fr, H, μ, a, w, hwf, h, sr => by
    obtain ⟨hd, hwf'⟩ := wfOps_cons hwf
    -- the operation is carried out
    have go : ∀ (fr : Fr), SR w0 μ0 H0 n μ fr H a w → opE P call (ev fr) H (fun v H => opsP P call ops.toList K rest (PM.put o.dst v fr) H) o.op → o.wp P a w (wpList P ops Q rest) Q :=
      fun fr sr h => opE_sound hc hro o sr.inv (ev_sound sr.fr) h fun v v' μ' H' w' k1 k2 k3 k4 =>
        opsP_sound hc hro hQ rest _ H' μ' _ w' hwf' k4 ((sr.later k2 k3).put k1 hd)
    -- it is passed over
    have skip : ∀ (fr : Fr), SR w0 μ0 H0 n μ fr H a w → opsP P call ops.toList K rest (PM.put o.dst undef fr) H → wpList P ops Q rest (a.put o.dst undef) w :=
      fun fr sr h => opsP_sound hc hro hQ rest _ H μ _ w hwf' h (sr.put (.tuple .nil) hd)
    unfold opsP at h
    unfold wpList
    split at h
    · rename_i hg
      rw [wanted_none ops a hg, if_pos rfl]
      exact .inl (go fr sr h)
    · rename_i j want hg
      split at h
      · exact h.elim
      · rename_i t ht
        split at h
        · rename_i b hb
          rw [wanted_bool sr hg ht hb]
          cases b with
          | true =>
            have sr' := sr.lit hb
            cases want with
            | true => exact .inl (go _ sr' h)
            | false => exact skip _ sr' h
          | false =>
            have sr' := sr.lit hb
            cases want with
            | true => exact skip _ sr' h
            | false => exact .inl (go _ sr' h)
        · rename_i hb
          rw [wanted_undef sr hg ht hb]
          exact skip fr sr h
        · exact h.elim

theorem silent_opE {op : Op} (hs : silent op = true) {ρ : Operand → Value} {H : VH} {K : Value → VH → Prop} (h : opE P call ρ H K op) : ∃ v, opV P ρ H op = some (true, v) ∧ K v H := by
  have key : (match opV P ρ H op with | some (c, v) => need c (K v H) | none => False) → ∃ v, opV P ρ H op = some (true, v) ∧ K v H := fun h => by
    split at h
    · rename_i c v hv
      cases c with
      | false => exact h.elim
      | true => exact ⟨v, hv, h⟩
    · exact h.elim
  cases op
  case call c =>
    obtain ⟨callee, args, argTypes⟩ := c
    cases callee with
    | value f => cases hs
    | invoke r m => cases hs
    | builtin b =>
      cases b
      case len => exact key h
      all_goals cases hs
  case range t x => cases hs
  case next it b => cases hs
  case buildSlice t l ps => cases hs
  case alloc t => cases hs
  case box t x => cases hs
  case store t a x => cases hs
  all_goals exact key h

theorem still_sound (hc : CallOk P call) {ops : Array Oper} {K : Fr → VH → Prop} {Qs : Act → Prop} {rest : List Oper} {H : VH} {μ : Mu} {w : World}
    (hQ : ∀ fr a, SR w0 μ0 H0 n μ fr H a w → opsP P call ops.toList K rest fr H → Qs a) : ∀ (l : List Oper) (fr : Fr) (a : Act), wfOps n l = true → (∀ o ∈ l, silent o.op = true) →
    opsP P call ops.toList K (l ++ rest) fr H → SR w0 μ0 H0 n μ fr H a w → wpStill P ops w Qs l a
  | [], fr, a, _, _, h, sr => hQ fr a sr h
  | o :: l, fr, a, hwf, hs, h, sr => by
    obtain ⟨hd, hwf'⟩ := wfOps_cons hwf
    have hso := hs o (by simp)
    have hs' : ∀ o ∈ l, silent o.op = true := fun o ho => hs o (by simp [ho])
    have go : ∀ (fr : Fr), SR w0 μ0 H0 n μ fr H a w → opE P call (ev fr) H (fun v H => opsP P call ops.toList K (l ++ rest) (PM.put o.dst v fr) H) o.op → o.still P a w (wpStill P ops w Qs l) :=
      fun fr sr h => by
        obtain ⟨v, hv, hk⟩ := silent_opE hso h
        obtain ⟨v', h1, h2⟩ := opV_sound o sr.inv.hr (ev_sound sr.fr) hv rfl
        unfold Oper.still
        rw [h1]
        exact ⟨rfl, still_sound hc hQ l _ _ hwf' hs' hk (sr.put h2 hd)⟩
    have skip : ∀ (fr : Fr), SR w0 μ0 H0 n μ fr H a w → opsP P call ops.toList K (l ++ rest) (PM.put o.dst undef fr) H → wpStill P ops w Qs l (a.put o.dst undef) :=
      fun fr sr h => still_sound hc hQ l _ _ hwf' hs' h (sr.put (.tuple .nil) hd)
    rw [List.cons_append] at h
    unfold opsP at h
    unfold wpStill
    split at h
    · rename_i hg
      rw [wanted_none ops a hg, if_pos rfl]
      exact go fr sr h
    · rename_i j want hg
      split at h
      · exact h.elim
      · rename_i t ht
        split at h
        · rename_i b hb
          rw [wanted_bool sr hg ht hb]
          cases b with
          | true =>
            have sr' := sr.lit hb
            cases want with
            | true => exact go _ sr' h
            | false => exact skip _ sr' h
          | false =>
            have sr' := sr.lit hb
            cases want with
            | true => exact skip _ sr' h
            | false => exact go _ sr' h
        · rename_i hb
          rw [wanted_undef sr hg ht hb]
          exact skip fr sr h
        · exact h.elim

theorem headLen_le : ∀ l : List Oper, headLen l ≤ l.length
  | [] => Nat.le_refl _
  | o :: r => by
    unfold headLen
    cases silent o.op
    · exact Nat.zero_le _
    · simpa using headLen_le r

theorem headLen_silent : ∀ (l : List Oper), ∀ o ∈ l.take (headLen l), silent o.op = true
  | [], o, h => by simp at h
  | x :: r, o, h => by
    unfold headLen at h
    cases hs : silent x.op with
    | false => rw [hs] at h; simp at h
    | true =>
      rw [hs] at h
      simp only [cond_true, List.take_succ_cons, List.mem_cons] at h
      rcases h with rfl | h
      · exact hs
      · exact headLen_silent r o h

theorem wfOps_append {l m : List Oper} (h : wfOps n (l ++ m) = true) : wfOps n l = true ∧ wfOps n m = true := by
  induction l with
  | nil => exact ⟨rfl, h⟩
  | cons o l ih =>
    simp only [List.cons_append, wfOps, Bool.and_eq_true] at h ⊢
    exact ⟨⟨h.1, (ih h.2).1⟩, (ih h.2).2⟩

/-! ### Regions whose order is drawn: what may be taken first -/
theorem VR.det0 {μ : Mu} {v a b : Value} (h : known0 v = true) (ha : VR μ v a) (hb : VR μ v b) : a = b := by
  unfold known0 at h
  split at h <;> first | (cases ha; cases hb; rfl; done) | skip
  · cases ha with
    | ptr h1 => cases hb with
      | ptr h2 =>
        obtain rfl := Option.some.inj (h1.symm.trans h2)
        rfl
  · cases h
theorem VRs.det0 {μ : Mu} : ∀ {l a b : List Value}, known0L l = true → VRs μ l a → VRs μ l b → a = b
  | _, _, _, _, .nil, .nil => rfl
  | _, _, _, h, .cons h1 h2, .cons h3 h4 => by
    simp only [known0L, Bool.and_eq_true] at h
    rw [VR.det0 h.1 h1 h3, VRs.det0 h.2 h2 h4]
theorem VR.det1 {μ : Mu} {v a b : Value} (h : known1 v = true) (ha : VR μ v a) (hb : VR μ v b) : a = b := by
  unfold known1 at h
  split at h
  · cases ha with
    | agg h1 => cases hb with
      | agg h2 => rw [VRs.det0 h h1 h2]
  · exact VR.det0 h ha hb
theorem VRs.det1 {μ : Mu} : ∀ {l a b : List Value}, known1L l = true → VRs μ l a → VRs μ l b → a = b
  | _, _, _, _, .nil, .nil => rfl
  | _, _, _, h, .cons h1 h2, .cons h3 h4 => by
    simp only [known1L, Bool.and_eq_true] at h
    rw [VR.det1 h.1 h1 h3, VRs.det1 h.2 h2 h4]
theorem VR.det {μ : Mu} {v a b : Value} (h : knownV v = true) (ha : VR μ v a) (hb : VR μ v b) : a = b := by
  unfold knownV at h
  split at h
  · cases ha with
    | tuple h1 => cases hb with
      | tuple h2 => rw [VRs.det1 h h1 h2]
  · exact VR.det1 h ha hb

theorem opV_congr {ρ : Operand → Value} {H H' : VH} (h : ∀ b, hget H b = hget H' b) (op : Op) : opV P ρ H op = opV P ρ H' op := by
  have e : hget H = hget H' := funext h
  unfold opV
  simp only [e]

theorem HR.deads (μ : Mu) (w : World) : HR μ (List.replicate μ.length .dead) w := by
  have hd : ∀ b, hget (List.replicate μ.length VB.dead) b = .dead := fun b => by
    generalize μ.length = n
    induction n generalizing b with
    | zero => rfl
    | succ n ih => cases b with
      | zero => rfl
      | succ b => exact ih b
  refine ⟨by simp, ?_, ?_, ?_, ?_⟩
  · intro b C e l m h; rw [hd] at h; cases h
  · intro b s p h; rw [hd] at h; cases h
  · intro b1 b2 C1 C2 e1 e2 l1 l2 m2 p1 p2 _ h; rw [hd] at h; cases h
  · intro b1 b2 s1 s2 o1 o2 p1 p2 _ h; rw [hd] at h; cases h

theorem HR.mask {μ : Mu} {H D : VH} {w : World} (h : HR μ H w) (hl : D.length = H.length) (hd : ∀ b, hget D b = hget H b ∨ hget D b = .dead) : HR μ D w := by
  have row : ∀ {b : Nat} {C : Codec} {e : Nat} {l : List C.α} {m : VMode}, hget D b = .row C e l m → hget H b = .row C e l m := fun {b C e l m} hg => by
    rcases hd b with h1 | h1
    · rw [← h1]; exact hg
    · rw [h1] at hg; cases hg
  have it : ∀ {b : Nat} {s : ByteArray} {o : Nat}, hget D b = .iter s o → hget H b = .iter s o := fun {b s o} hg => by
    rcases hd b with h1 | h1
    · rw [← h1]; exact hg
    · rw [h1] at hg; cases hg
  exact ⟨by rw [h.len, hl], fun b C e l m hg => h.row b C e l m (row hg), fun b s p hg => h.iter b s p (it hg),
    fun b1 b2 C1 C2 e1 e2 l1 l2 m2 p1 p2 hne g1 g2 => h.sep b1 b2 C1 C2 e1 e2 l1 l2 m2 p1 p2 hne (row g1) (row g2),
    fun b1 b2 s1 s2 o1 o2 p1 p2 hne g1 g2 => h.isep b1 b2 s1 s2 o1 o2 p1 p2 hne (it g1) (it g2)⟩

/-- A world in which all that is told still stands so. -/
def laterS (μ : Mu) (H : VH) (w : World) : Prop := ∃ (μ' : Mu) (H' : VH), Mu.le μ μ' ∧ Keeps H H' ∧ HR μ' H' w
def wholeS (wr : Bool) (μ : Mu) (H : VH) : World → Prop := match wr with | true => fun _ => True | false => laterS μ H

theorem opV_later {μ : Mu} {H : VH} {w : World} (o : Oper) {ρ ρ' : Operand → Value} (hs : laterS μ H w) (hρ : ∀ x, VR μ (ρ x) (ρ' x)) {v : Value} (h : opV P ρ H o.op = some (true, v)) :
    ∃ (v' : Value) (μ' : Mu), (execOp ρ' o).run P w = .ok (.value v') w ∧ Mu.le μ μ' ∧ VR μ' v v' := by
  obtain ⟨μ', H', h1, h2, h3⟩ := hs
  have hD : HR μ' (H ++ List.replicate (H'.length - H.length) .dead) w := by
    refine h3.mask (by simp; have := h2.1; omega) fun b => ?_
    rcases Nat.lt_or_ge b H.length with hb | hb
    · left
      rw [hget_append_lt hb, h2.2 b hb]
    · right
      obtain ⟨c, rfl⟩ : ∃ c, b = H.length + c := ⟨b - H.length, by omega⟩
      rw [hget_append_ge]
      generalize H'.length - H.length = n
      induction n generalizing c with
      | zero => rfl
      | succ n ih => cases c with
        | zero => rfl
        | succ c => exact ih c (by omega)
  have e : opV P ρ (H ++ List.replicate (H'.length - H.length) .dead) o.op = some (true, v) := by
    rw [← h]
    refine opV_congr (fun b => ?_) _
    rcases Nat.lt_or_ge b H.length with hb | hb
    · exact hget_append_lt hb
    · obtain ⟨c, rfl⟩ : ∃ c, b = H.length + c := ⟨b - H.length, by omega⟩
      rw [hget_append_ge, hget_len (H := H) (by omega)]
      generalize H'.length - H.length = n
      induction n generalizing c with
      | zero => rfl
      | succ n ih => cases c with
        | zero => rfl
        | succ c => exact ih c (by omega)
  obtain ⟨v', k1, k2⟩ := opV_sound o hD (fun x => (hρ x).mono h1) e rfl
  exact ⟨v', μ', k1, h1, k2⟩

theorem opV_dead {μ : Mu} (w : World) (o : Oper) {ρ ρ' : Operand → Value} (hρ : ∀ x, VR μ (ρ x) (ρ' x)) {v : Value} (h : opV P ρ [] o.op = some (true, v)) :
    ∃ v' : Value, (execOp ρ' o).run P w = .ok (.value v') w ∧ VR μ v v' := by
  refine opV_sound o (HR.deads μ w) hρ (c := true) ?_ rfl
  rw [← h]
  refine opV_congr (fun b => ?_) _
  generalize μ.length = n
  induction n generalizing b with
  | zero => rfl
  | succ n ih => cases b with
    | zero => rfl
    | succ b => exact ih b

theorem moves_run {o : Oper} (hm : movesOp o.op = true) {ρ : Operand → Value} {v : Value} {w : World} (h : (execOp ρ o).run P w = .ok (.value v) w) (w2 : World) : (execOp ρ o).run P w2 = .ok (.value v) w2 := by
  obtain ⟨dst, op, type, pos, after, guard⟩ := o
  cases op
  case move x => simp [execOp] at h ⊢; exact h
  case assign x => simp [execOp] at h ⊢; exact h
  case pick c a b =>
    generalize hq : ρ c = q at h
    cases q <;> first | (simp [execOp, hq, asBool] at h ⊢; done) | (simp [execOp, hq, asBool] at h ⊢; exact h)
  case extract x i =>
    generalize hq : ρ x = q at h
    cases q <;> first | (simp [execOp, hq, Instr.extract] at h ⊢; done) | (simp [execOp, hq, Instr.extract] at h ⊢; split at h <;> simp_all)
  all_goals cases hm
theorem silent_eq {op : Op} (hs : silent op = true) (ρ : Operand → Value) (H : VH) (K : Value → VH → Prop) : opE P call ρ H K op = (match opV P ρ H op with | some (c, v) => need c (K v H) | none => False) := by
  cases op
  case call c =>
    obtain ⟨callee, args, argTypes⟩ := c
    cases callee with
    | value f => cases hs
    | invoke r m => cases hs
    | builtin b =>
      cases b
      case len => rfl
      all_goals cases hs
  case range t x => cases hs
  case next it b => cases hs
  case buildSlice t l ps => cases hs
  case alloc t => cases hs
  case box t x => cases hs
  case store t a x => cases hs
  all_goals rfl

theorem need_map {b : Bool} {X Y : Prop} (h : need b X) (f : X → Y) : need b Y := by
  cases b
  · exact h.elim
  · exact f h

theorem newP_keeps {t : TypeId} {zs : List Value} {H : VH} {K : Value → VH → Prop} (h : newP P t zs H K) : newP P t zs H (fun v H' => Keeps H H' ∧ K v H') := by
  unfold newP at h ⊢
  split at h
  · exact need_map h fun h => ⟨Keeps.snoc _ _, h⟩
  · exact ⟨Keeps.snoc _ _, h⟩

def meetsC (P : Program) : FuncId → Spec := fun f args H K => callable P f ∧ Meets P f args H K
theorem meetsC_ok : CallOk P (meetsC P) := fun _ _ _ _ h => h

theorem opE_keeps (hc : CallOk P call) {op : Op} (ht : tameOp op = true) {ρ : Operand → Value} {H : VH} {K : Value → VH → Prop} (h : opE P call ρ H K op) :
    opE P (meetsC P) ρ H (fun v H' => Keeps H H' ∧ K v H') op := by
  cases hs : silent op with
  | true =>
    obtain ⟨v, h1, h2⟩ := silent_opE hs h
    rw [silent_eq hs, h1]
    exact ⟨Keeps.refl H, h2⟩
  | false =>
    cases op
    case alloc t =>
      simp only [opE] at h ⊢
      split at h
      · exact newP_keeps h
      · exact h.elim
    case box t x =>
      simp only [opE] at h ⊢
      split at h
      · exact newP_keeps h
      · exact h.elim
    case buildSlice t l ps =>
      simp only [opE] at h ⊢
      split at h
      · split at h
        · split at h
          · exact need_map h fun h => ⟨Keeps.snoc _ _, h⟩
          · exact h.elim
        · exact h.elim
      · exact h.elim
    case range t x =>
      simp only [opE] at h ⊢
      split at h
      · exact ⟨Keeps.snoc _ _, h⟩
      · exact h.elim
    case call c =>
      obtain ⟨callee, args, argTypes⟩ := c
      cases callee with
      | value f =>
        simp only [opE] at h ⊢
        split at h
        · obtain ⟨h1, h2⟩ := hc _ _ _ _ h
          refine ⟨h1, fun μ w args' hr ha => (h2 μ w args' hr ha).mono ?_⟩
          rintro e w' ⟨r, r', μ', H', k1, k2, k3, k4, k5, k6, k7, k8, k9⟩
          exact ⟨r, r', μ', H', k1, k2, k3, k4, k5, k6, k7, k8, ⟨k5, k6⟩, k9⟩
        · exact h.elim
      | invoke r m => cases ht
      | builtin b => cases b <;> first | (cases ht; done) | (cases hs; done)
    all_goals first | (cases ht; done) | (cases hs; done)

/-- The listed ones are listed with all that they wait for. -/
def Closed (ops : Array Oper) (listed : Array Bool) : Prop := ∀ j oj, ops[j]? = some oj → listed.getD j false = true → ∀ e ∈ oj.after, Region.binds .any e = true → listed.getD e.on false = true
def noneOf (wrs : List Nat) (listed : Array Bool) : Prop := ∀ s ∈ wrs, listed.getD s false = false

theorem Closed.set {ops : Array Oper} {listed : Array Bool} {i : Nat} (h : Closed ops listed) (hi : i ∈ Region.ready .any ops listed) : Closed ops (listed.setIfInBounds i true) := by
  obtain ⟨_, oi, hoi, hall⟩ := mem_ready.1 hi
  intro j oj hj hl e he hb
  by_cases hij : i = j
  · subst hij
    have : oj = oi := Option.some.inj (hj.symm.trans hoi)
    subst this
    exact getD_set_true (hall e he hb)
  · rw [getD_set_ne false hij] at hl
    exact getD_set_true (h j oj hj hl e he hb)

theorem waits_closed {ops : Array Oper} {listed : Array Bool} (hc : Closed ops listed) : ∀ (n s i : Nat), waitsB ops n s i = true → listed.getD s false = true → listed.getD i false = true
  | 0, _, _, h, _ => by cases h
  | n + 1, s, i, h, hs => by
    unfold waitsB at h
    split at h
    · rename_i o ho
      obtain ⟨e, he, hb⟩ := List.any_eq_true.1 h
      simp only [Bool.and_eq_true, Bool.or_eq_true] at hb
      have h1 := hc s o ho hs e (by simpa using he) hb.1
      rcases hb.2 with h2 | h2
      · rw [← Nat.eq_of_beq_eq_true h2]; exact h1
      · exact waits_closed hc n e.on i h2 h1
    · cases h

/-- Whatever order is picked from here on, and S holds until one that may write has come up. -/
def wpAnyG (P : Program) (ops : Array Oper) (Q : Exit → Act → World → Prop) (wrs : List Nat) (S : World → Prop) : Nat → Array Bool → Act → World → Prop
  | 0, listed, a, w => Region.ready .any ops listed = [] ∧ Q .normal a w
  | fuel + 1, listed, a, w =>
    (Region.ready .any ops listed = [] → Q .normal a w) ∧
    ∀ i ∈ Region.ready .any ops listed, wpOp P ops Q i (fun a' w' => (noneOf wrs (listed.setIfInBounds i true) → S w') ∧ wpAnyG P ops Q wrs S fuel (listed.setIfInBounds i true) a' w') a w

theorem wpAny_of_G {ops : Array Oper} {Q : Exit → Act → World → Prop} {wrs : List Nat} {S : World → Prop} : ∀ (fuel : Nat) (listed : Array Bool) (a : Act) (w : World),
    wpAnyG P ops Q wrs S fuel listed a w → wpAny P .any ops Q fuel listed a w
  | 0, _, _, _, h => h
  | fuel + 1, _, _, _, h => ⟨h.1, fun i hi => wpOp_mono (fun a' w' h' => wpAny_of_G fuel _ a' w' h'.2) (h.2 i hi)⟩

theorem wpAnyG_weaken {ops : Array Oper} {Q : Exit → Act → World → Prop} {wrs : List Nat} {S T : World → Prop} : ∀ (fuel : Nat) (listed : Array Bool) (a : Act) (w : World),
    (noneOf wrs listed → ∀ w, S w → T w) → wpAnyG P ops Q wrs S fuel listed a w → wpAnyG P ops Q wrs T fuel listed a w
  | 0, _, _, _, _, h => h
  | fuel + 1, listed, _, _, hST, h => ⟨h.1, fun i hi => wpOp_mono (fun a' w' h' => by
      have hn : noneOf wrs (listed.setIfInBounds i true) → noneOf wrs listed := fun hn s hs => by
        have := hn s hs
        cases hl : listed.getD s false with
        | false => rfl
        | true => rw [getD_set_true hl] at this; cases this
      exact ⟨fun hh => hST (hn hh) _ (h'.1 hh), wpAnyG_weaken fuel _ a' w' (fun hh => hST (hn hh)) h'.2⟩) (h.2 i hi)⟩

theorem listed_not {listed : Array Bool} {i : Nat} (h : listed.getD i true = false) : listed.getD i false = false := by
  rcases Nat.lt_or_ge i listed.size with h' | h'
  · simp [h'] at h ⊢; exact h
  · simp [Array.getElem?_eq_none h'] at h

/-- One that may come up now is taken first. -/
theorem wpAnyG_first {ops : Array Oper} {Q : Exit → Act → World → Prop} {wrs : List Nat} {S S0 : World → Prop} {i : Nat} {oi : Oper} {v : Value} (hi : ops[i]? = some oi) (hiw : i ∉ wrs)
    (hsel : ∀ (j : Nat) (o : Oper) cs b, ops[j]? = some o → o.op ≠ .select cs b) (hQ : ∀ c a w, Q (.panic c) (a.put oi.dst v) w → Q (.panic c) a w)
    (hS0 : ∀ (listed : Array Bool) (w : World), Closed ops listed → listed.getD i true = false → (noneOf wrs listed → S w) → S0 w) :
    ∀ (fuel : Nat) (listed : Array Bool) (a : Act) (w : World), Closed ops listed →
      (∀ j oj, ops[j]? = some oj → j ≠ i → listed.getD j true = false → (∀ e ∈ oj.after, Region.binds .any e = true → e.on ≠ i) → oi.apart ops oj = true) →
      i ∈ Region.ready .any ops listed → YieldsIf P ops S0 oi v a → (noneOf wrs listed → S w) →
      wpAnyG P ops Q wrs S fuel (listed.setIfInBounds i true) (a.put oi.dst v) w → wpAnyG P ops Q wrs S (fuel + 1) listed a w := by
  have sub : ∀ (listed : Array Bool) (j : Nat), noneOf wrs (listed.setIfInBounds j true) → noneOf wrs listed := fun listed j hn s hs => by
    have := hn s hs
    cases hl : listed.getD s false with
    | false => rfl
    | true => rw [getD_set_true hl] at this; cases this
  intro fuel
  induction fuel with
  | zero =>
    intro listed a w hcl _ hr hy hS H
    refine ⟨fun h => (by rw [h] at hr; cases hr), fun j hj => ?_⟩
    by_cases hji : j = i
    · subst hji
      exact hy.wpOp hi (hS0 listed w hcl (mem_ready.1 hr).1 hS) ⟨fun hn => hS (sub _ _ hn), H⟩
    · have := ready_mono hj hji
      rw [H.1] at this
      cases this
  | succ fuel ih =>
    intro listed a w hcl hfree hr hy hS H
    refine ⟨fun h => (by rw [h] at hr; cases hr), fun j hj => ?_⟩
    by_cases hji : j = i
    · subst hji
      exact hy.wpOp hi (hS0 listed w hcl (mem_ready.1 hr).1 hS) ⟨fun hn => hS (sub _ _ hn), H⟩
    · have h1 := H.2 j (ready_mono hj hji)
      obtain ⟨hjun, oj, hoj, hall⟩ := mem_ready.1 hj
      have hnot : ∀ e ∈ oj.after, Region.binds .any e = true → e.on ≠ i := fun e he hb heq => by
        have h1 := hall e he hb
        have h0 := (mem_ready.1 hr).1
        rw [heq] at h1
        rw [listed_not h0] at h1
        cases h1
      have h2 := wpOp_putIf hoj (hfree j oj hoj hji hjun hnot) (fun cs b => hsel i oi cs b hi) (fun cs b => hsel j oj cs b hoj) hQ hy h1
      have hfree' : ∀ k ok, ops[k]? = some ok → k ≠ i → (listed.setIfInBounds j true).getD k true = false →
          (∀ e ∈ ok.after, Region.binds .any e = true → e.on ≠ i) → oi.apart ops ok = true := fun k ok hk hki hun hno => by
        refine hfree k ok hk hki ?_ hno
        by_cases hjk : j = k
        · subst hjk; exact hjun
        · rw [getD_set_ne true hjk] at hun; exact hun
      refine wpOp_mono (fun a' w' h3 => ?_) h2
      have hb : noneOf wrs (listed.setIfInBounds j true) → S w' := fun hn => h3.2.1 fun s hs => by
        rw [Array.setIfInBounds_comm _ _ (Ne.symm hji)]
        have hne : i ≠ s := fun hh => by subst hh; exact hiw hs
        rw [getD_set_ne false hne]
        exact hn s hs
      refine ⟨hb, ih (listed.setIfInBounds j true) a' w' (hcl.set hj) hfree' (ready_mono hr (Ne.symm hji)) h3.1 hb ?_⟩
      rw [Array.setIfInBounds_comm _ _ hji]
      exact h3.2.2

theorem wholeS_now {μ : Mu} {H : VH} {w : World} (h : HR μ H w) : laterS μ H w := ⟨μ, H, fun _ _ h => h, Keeps.refl H, h⟩
theorem laterS_mono {μ μ' : Mu} {H H' : VH} (hm : Mu.le μ μ') (hk : Keeps H H') (w : World) (h : laterS μ' H' w) : laterS μ H w := by
  obtain ⟨μ2, H2, k1, k2, k3⟩ := h
  exact ⟨μ2, H2, fun b p hp => k1 b p (hm b p hp), hk.trans k2, k3⟩

theorem drop_get {l : List Oper} {k : Nat} {o : Oper} {r : List Oper} (h : l.drop k = o :: r) : l[k]? = some o := by
  have := congrArg (·[0]?) h
  simpa using this

theorem wf_mem {l : List Oper} (h : wfOps n l = true) : ∀ o ∈ l, ∀ d, o.dst = some d → d < n := by
  induction l with
  | nil => intro x hx; cases hx
  | cons o r ih =>
    intro x hx d hd
    obtain ⟨h1, h2⟩ := wfOps_cons h
    rcases List.mem_cons.1 hx with rfl | hx
    · exact h1 d hd
    · exact ih h2 x hx d hd
theorem writers_mem : ∀ {l : List Oper} {k i : Nat} {o : Oper}, l[i]? = some o → tameOp o.op = false → k + i ∈ writersL k l
  | x :: l, k, 0, o, h, ht => by
    simp at h
    subst h
    simp [writersL, ht]
  | x :: l, k, i + 1, o, h, ht => by
    have := writers_mem (k := k + 1) (l := l) (i := i) (by simpa using h) ht
    rw [show k + (i + 1) = k + 1 + i by omega]
    unfold writersL
    cases tameOp x.op
    · exact List.mem_cons_of_mem _ this
    · exact this
  | [], k, i, o, h, ht => by simp at h

theorem opsD_sound (hc : CallOk P call) (hro : Ro H0) {ops : Array Oper} {wrs : List Nat} {K : Fr → VH → Prop} {Q : Exit → Act → World → Prop}
    (hQ : ∀ a w, After w0 μ0 H0 n K a w → Q .normal a w) (hp : ∀ c a w, ¬ Q (.panic c) a w) (ns : Region.noSelect ops = true) (hwf : wfOps n ops.toList = true)
    (ht : ∀ i o, ops[i]? = some o → i ∉ wrs → tameOp o.op = true) : ∀ (l : List Nat) (listed : Array Bool) (fr : Fr) (H : VH) (μ : Mu) (a : Act) (w : World), schedFrom ops wrs l listed = true → Closed ops listed →
    opsD P call ops.toList K l fr H → SR w0 μ0 H0 n μ fr H a w → wpAnyG P ops Q wrs (laterS μ H) l.length listed a w
  | [], listed, fr, H, μ, a, w, hs, _, h, sr => by
    exact ⟨by simpa [schedFrom] using hs, hQ a w ⟨fr, H, μ, sr, h⟩⟩
  | i :: rest, listed, fr, H, μ, a, w, hs, hcl, h, sr => by
    unfold opsD at h
    split at h
    · exact h.elim
    · rename_i o r hdrop
      have hol := drop_get hdrop
      have ho : ops[i % 1000]? = some o := by rw [← Array.getElem?_toList]; exact hol
      have hmem : o ∈ ops.toList := List.mem_of_getElem? hol
      have hd := wf_mem hwf o hmem
      unfold schedFrom at hs
      rw [Bool.and_eq_true] at hs
      obtain ⟨hs1, hs2⟩ := hs
      have ih := fun fr H μ a w hcl => opsD_sound hc hro hQ hp ns hwf ht rest (listed.setIfInBounds (i % 1000) true) fr H μ a w hs2 hcl
      -- the only one
      have only : i / 1000 = 1 → Region.ready .any ops listed = [i % 1000] := fun hk => by
        rw [hk] at hs1
        simp only at hs1
        split at hs1
        · rename_i j hj
          rw [hj, Nat.eq_of_beq_eq_true hs1]
        · cases hs1
      -- one that is taken first
      have eager : i / 1000 ≠ 1 → i % 1000 ∉ wrs ∧ (i / 1000 ≠ 0 → ∀ s ∈ wrs, waitsB ops 12 s (i % 1000) = true) ∧ (Region.ready .any ops listed).contains (i % 1000) = true ∧ Region.free .any ops listed (i % 1000) = true := fun hk => by
        split at hs1
        · contradiction
        · rename_i h0
          simp only [Bool.and_eq_true, Bool.not_eq_true', List.contains_eq_mem, decide_eq_false_iff_not, decide_eq_true_eq] at hs1
          exact ⟨hs1.1, fun hh => absurd h0 hh, by simpa using hs1.2.1, hs1.2.2⟩
        · simp only [Bool.and_eq_true, Bool.not_eq_true', List.contains_eq_mem, decide_eq_false_iff_not, decide_eq_true_eq, List.all_eq_true] at hs1
          exact ⟨hs1.1.1, fun _ => hs1.1.2, by simpa using hs1.2.1, hs1.2.2⟩
      have free : ∀ (hk : i / 1000 ≠ 1) {S0 : World → Prop} {v : Value}, (i / 1000 ≠ 0 ∨ ∀ w, S0 w) → (∀ w, laterS μ H w → S0 w) → YieldsIf P ops S0 o v a →
          wpAnyG P ops Q wrs (laterS μ H) rest.length (listed.setIfInBounds (i % 1000) true) (a.put o.dst v) w → wpAnyG P ops Q wrs (laterS μ H) (rest.length + 1) listed a w := by
        intro hk S0 v h0 hS hy hgo
        obtain ⟨e1, e2, e3, e4⟩ := eager hk
        refine wpAnyG_first ho e1 (Region.noSelect_spec ns) (fun c a w h => absurd h (hp c _ w)) ?_ rest.length listed a w hcl (Region.free_spec ho e4) (by simpa using e3) hy (fun _ => wholeS_now sr.inv.hr) hgo
        intro listed' w' hcl' hun hS'
        rcases h0 with h0 | h0
        · refine hS _ (hS' fun s hs => ?_)
          cases hl : listed'.getD s false with
          | false => rfl
          | true =>
            have := waits_closed hcl' 12 s _ (e2 h0 s hs) hl
            rw [listed_not hun] at this
            cases this
        · exact h0 w'
      have hcl2 : i % 1000 ∈ Region.ready .any ops listed → Closed ops (listed.setIfInBounds (i % 1000) true) := fun hr => hcl.set hr
      have hready : i % 1000 ∈ Region.ready .any ops listed := by
        by_cases hk : i / 1000 = 1
        · rw [only hk]; exact List.mem_singleton.2 rfl
        · simpa using (eager hk).2.2.1
      -- it is carried out
      have go : ∀ (fr : Fr), SR w0 μ0 H0 n μ fr H a w → Region.wanted o (yielded ops a.tmps) = true →
          stepD P call (i / 1000) o (opsD P call ops.toList K rest) fr H → wpAnyG P ops Q wrs (laterS μ H) (rest.length + 1) listed a w := by
        intro fr sr hw h
        unfold stepD at h
        split at h
        · rename_i hk
          refine ⟨fun hh => (by rw [hh] at hready; cases hready), fun j hj => ?_⟩
          rw [only hk] at hj
          obtain rfl := List.mem_singleton.1 hj
          unfold wpOp
          simp only [ho, hw, if_true]
          left
          by_cases hwr : i % 1000 ∈ wrs
          · refine opE_sound hc hro o sr.inv (ev_sound sr.fr) h fun v v' μ' H' w' k1 k2 k3 k4 => ?_
            have hno : ¬ noneOf wrs (listed.setIfInBounds (i % 1000) true) := fun hn => by
              have h1 := hn _ hwr
              have h2 : (i % 1000) < listed.size := by
                have := (mem_ready.1 hready).1
                rcases Nat.lt_or_ge (i % 1000) listed.size with h' | h'
                · exact h'
                · simp [Array.getElem?_eq_none h'] at this
              simp [h2] at h1
            exact ⟨fun hn => absurd hn hno, wpAnyG_weaken _ _ _ _ (fun hn => absurd hn hno) (ih _ _ _ _ _ (hcl2 hready) k4 ((sr.later k2 k3).put k1 hd))⟩
          · refine opE_sound meetsC_ok hro o sr.inv (ev_sound sr.fr) (opE_keeps hc (ht _ o ho hwr) h) fun v v' μ' H' w' k1 k2 k3 k4 => ⟨fun _ => ⟨μ', H', k3, k4.1, k2.hr⟩, ?_⟩
            exact wpAnyG_weaken _ _ _ _ (fun _ => laterS_mono k3 k4.1) (ih _ _ _ _ _ (hcl2 hready) k4.2 ((sr.later k2 k3).put k1 hd))
        · rename_i m hk
          split at h
          · rename_i c v hv
            cases hcc : (c && (movesOp o.op || knownV v)) with
            | false => rw [hcc] at h; exact h.elim
            | true =>
              rw [hcc] at h
              simp only [Bool.and_eq_true, Bool.or_eq_true] at hcc
              obtain ⟨rfl, hdet⟩ := hcc
              have h : opsD P call ops.toList K rest (PM.put o.dst v fr) H := h
              split at hv
              · obtain ⟨v', k1, k2⟩ := opV_dead w o (ev_sound sr.fr) hv
                refine free hk (S0 := fun _ => True) (.inr fun _ => trivial) (fun _ _ => trivial) (.inl ⟨hw, fun w1 _ => ?_⟩) (ih _ _ _ _ _ (hcl2 hready) h (sr.put k2 hd))
                rcases hdet with hdet | hdet
                · exact moves_run hdet k1 w1
                · obtain ⟨v1, k3, k4⟩ := opV_dead w1 o (ev_sound sr.fr) hv
                  rw [k3, VR.det hdet k4 k2]
              · rename_i hk0
                obtain ⟨v', k1, k2⟩ := opV_sound o sr.inv.hr (ev_sound sr.fr) hv rfl
                refine free hk (S0 := laterS μ H) (.inl fun hh => hk0 hh) (fun _ h => h) (.inl ⟨hw, fun w1 hS => ?_⟩) (ih _ _ _ _ _ (hcl2 hready) h (sr.put k2 hd))
                rcases hdet with hdet | hdet
                · exact moves_run hdet k1 w1
                · obtain ⟨v1, μ1, k3, k4, k5⟩ := opV_later o hS (ev_sound sr.fr) hv
                  rw [k3, VR.det hdet k5 (k2.mono k4)]
          · exact h.elim
      -- it is passed over
      have skip : ∀ (fr : Fr), SR w0 μ0 H0 n μ fr H a w → Region.wanted o (yielded ops a.tmps) = false → opsD P call ops.toList K rest (PM.put o.dst undef fr) H →
          wpAnyG P ops Q wrs (laterS μ H) (rest.length + 1) listed a w := by
        intro fr sr hw h
        have hk := ih _ _ _ _ _ (hcl2 hready) h (sr.put (v := undef) (v' := undef) (.tuple .nil) hd)
        by_cases hk1 : i / 1000 = 1
        · refine ⟨fun hh => (by rw [hh] at hready; cases hready), fun j hj => ?_⟩
          rw [only hk1] at hj
          obtain rfl := List.mem_singleton.1 hj
          unfold wpOp
          simp only [ho, hw, Bool.false_eq_true, if_false]
          exact ⟨fun _ => wholeS_now sr.inv.hr, hk⟩
        · exact free hk1 (S0 := fun _ => True) (.inr fun _ => trivial) (fun _ _ => trivial) (.inr ⟨hw, rfl⟩) hk
      split at h
      · rename_i hg
        exact go fr sr (wanted_none ops a hg) h
      · rename_i j want hg
        split at h
        · exact h.elim
        · rename_i t ht
          split at h
          · rename_i b hb
            have hwd := wanted_bool sr hg ht hb
            cases b with
            | true =>
              have sr' := sr.lit hb
              cases want with
              | true => exact go _ sr' hwd h
              | false => exact skip _ sr' hwd h
            | false =>
              have sr' := sr.lit hb
              cases want with
              | true => exact skip _ sr' hwd h
              | false => exact go _ sr' hwd h
          · rename_i hb
            exact skip fr sr (wanted_undef sr hg ht hb) h
          · exact h.elim

theorem drawn_sound (hm : P.follows .mixedOrders = true) (hc : CallOk P call) (hro : Ro H0) {id : Nat} {l : List Nat} {ops : Array Oper} {K : Fr → VH → Prop} {Q : Exit → Act → World → Prop}
    (hQ : ∀ a w, After w0 μ0 H0 n K a w → Q .normal a w) {fr : Fr} {H : VH} {μ : Mu} {a : Act} {w : World} (hwf : wfOps n ops.toList = true)
    (h : need (schedOk ops l) (opsD P call ops.toList K l fr H)) (sr : SR w0 μ0 H0 n μ fr H a w) : (Code.region id ops true).wp P Q a w := by
  cases hs : schedOk ops l with
  | false => rw [hs] at h; exact h.elim
  | true =>
    rw [hs] at h
    have h : opsD P call ops.toList K l fr H := h
    simp only [schedOk, Bool.and_eq_true] at hs
    obtain ⟨s1, s2, s3⟩ := hs
    have hlen : l.length = ops.size := Nat.eq_of_beq_eq_true s2
    refine wp_mono (Q := fun e a w => e = .normal ∧ After w0 μ0 H0 n K a w) (wp_region_any hm (wpAny_of_G (wrs := writersL 0 ops.toList) (S := laterS μ H) _ _ _ _ ?_)) ?_
    · rw [← hlen]
      refine opsD_sound hc hro (fun a w h => ⟨rfl, h⟩) (fun c a w h => by cases h.1) s1 hwf (fun i o ho hi => ?_) l _ fr H μ a _ ?_ ?_ h (sr.later sr.inv.drew (fun _ _ h => h))
      · cases htt : tameOp o.op with
        | true => rfl
        | false =>
          refine absurd ?_ hi
          have := writers_mem (k := 0) (l := ops.toList) (i := i) (by rw [Array.getElem?_toList]; exact ho) htt
          simpa using this
      · rw [hlen]
        exact s3
      · intro j oj hj hl
        rw [getD_replicate_false] at hl
        cases hl
    · rintro e a w ⟨rfl, h⟩
      exact hQ a w h

theorem region_sound (hm : P.follows .mixedOrders = true) (hc : CallOk P call) (hro : Ro H0) {id : Nat} {sched : Option (List Nat)} {ops : Array Oper} {draw : Bool} {K : Fr → VH → Prop} {Q : Exit → Act → World → Prop}
    (hQ : ∀ a w, After w0 μ0 H0 n K a w → Q .normal a w) {fr : Fr} {H : VH} {μ : Mu} {a : Act} {w : World} (hwf : wfOps n ops.toList = true)
    (h : regionP P call sched ops draw K fr H) (sr : SR w0 μ0 H0 n μ fr H a w) :
    (Code.region id ops draw).wp P Q a w := by
  unfold regionP at h
  cases draw with
  | false => exact wp_region_list (opsP_sound hc hro hQ ops.toList fr H μ a w hwf h sr)
  | true =>
    simp only [cond_true] at h
    split at h
    · exact drawn_sound hm hc hro hQ hwf h sr
    cases hd : drawOk ops with
    | false => rw [hd] at h; exact h.elim
    | true =>
      rw [hd] at h
      have h : opsP P call ops.toList K ops.toList fr H := h
      have sr1 : SR w0 μ0 H0 n μ fr H a { w with drawn := w.drawn + 1 } := sr.later sr.inv.drew (fun _ _ h => h)
      unfold drawOk at hd
      cases hl : Nat.beq (headLen ops.toList) ops.toList.length with
      | true =>
        rw [hl] at hd
        have hlen := Nat.eq_of_beq_eq_true hl
        refine wp_region_still hm hd ?_
        refine still_sound (rest := []) (K := K) (Qs := fun a' => Q .normal a' { w with drawn := w.drawn + 1 }) hc (fun fr' a' sr' hk => hQ _ _ ⟨fr', H, μ, sr', hk⟩) ops.toList fr a hwf ?_ (by simpa using h) sr1
        have := headLen_silent ops.toList
        rw [hlen, List.take_length] at this
        exact this
      | false =>
        rw [hl] at hd
        simp only [cond_false] at hd
        have e : ops = ops.toList.toArray := by simp
        have hsplit : ops.toList.take (headLen ops.toList) ++ ops.toList.drop (headLen ops.toList) = ops.toList := List.take_append_drop _ _
        have hwf2 := wfOps_append (n := n) (l := ops.toList.take (headLen ops.toList)) (m := ops.toList.drop (headLen ops.toList)) (by rw [hsplit]; exact hwf)
        have key : (Code.region id ops.toList.toArray true).wp P Q a w := by
          refine wp_region_still_tail (headLen ops.toList) hm (by rw [← e]; exact hd) ?_
          rw [← e]
          refine still_sound (rest := ops.toList.drop (headLen ops.toList)) (K := K) hc (fun fr' a' sr' hk => ?_) (ops.toList.take (headLen ops.toList)) fr a hwf2.1 (headLen_silent _) (by rw [hsplit]; exact h) sr1
          exact opsP_sound hc hro hQ _ fr' H μ a' _ hwf2.2 hk sr'
        rw [← e] at key
        exact key

/-! ### Code -/
def wfC (n : Nat) : Code → Bool
  | .region _ ops _ => wfOps n ops.toList
  | .seq a b => wfC n a && wfC n b
  | .cond _ a b => wfC n a && wfC n b
  | .block _ c => wfC n c
  | .loop c => wfC n c
  | .scope c => wfC n c
  | _ => true

def toExit : Ex → Exit
  | .normal => .normal
  | .exit id => .exit id
  | .ret => .ret

def QK (w0 : World) (μ0 : Mu) (H0 : VH) (n : Nat) (K : Kont) : Exit → Act → World → Prop :=
  fun e a w => ∃ e', e = toExit e' ∧ After w0 μ0 H0 n (K e') a w

theorem lk_keep (ts : List Nat) (fr : Fr) (t : Nat) : lk (ts.map fun t => (t, lk fr t)) t = lk fr t ∨ lk (ts.map fun t => (t, lk fr t)) t = junk := by
  induction ts with
  | nil => exact .inr rfl
  | cons u ts ih =>
    simp only [List.map_cons, lk]
    cases hb : Nat.beq u t with
    | true =>
      obtain rfl := Nat.eq_of_beq_eq_true hb
      exact .inl rfl
    | false => exact ih

theorem SR.keep {μ : Mu} {fr : Fr} {H : VH} {a : Act} {w : World} (h : SR w0 μ0 H0 n μ fr H a w) (o : Option (List Nat)) : SR w0 μ0 H0 n μ (keepF o fr) H a w := by
  cases o with
  | none => exact h
  | some ts =>
    refine ⟨h.inv, fun t => ?_, h.sz, h.df⟩
    rcases lk_keep ts fr t with h' | h'
    · simp only [keepF]; rw [h']; exact h.fr t
    · simp only [keepF]; rw [h']; exact .junk _

/-- What a part of a text is known to do, it does. -/
def CodeOk (P : Program) (n : Nat) (c : Code) (sp : LSpec) : Prop :=
  ∀ (w0 : World) (μ0 : Mu) (H0 : VH), Ro H0 → ∀ (fr : Fr) (H : VH) (K : Kont) (μ : Mu) (a : Act) (w : World), sp fr H K → SR w0 μ0 H0 n μ fr H a w → c.wp P (QK w0 μ0 H0 n K) a w

def TabOk (P : Program) (n : Nat) (tb : Tab) : Code → Prop
  | .seq a b => TabOk P n tb a ∧ (∀ sp, tb.joins (firstReg b) = some sp → CodeOk P n b sp) ∧ TabOk P n tb b
  | .cond _ a b => TabOk P n tb a ∧ TabOk P n tb b
  | .scope c => TabOk P n tb c
  | .block _ c => TabOk P n tb c
  | .loop c => (∀ sp, tb.loops (firstReg c) = some sp → CodeOk P n (.loop c) sp) ∧ TabOk P n tb c
  | _ => True

theorem lk_map (g : Value → Value) (hg : g junk = junk) : ∀ (fr : Fr) (t : Nat), lk (fr.map fun (t, v) => (t, g v)) t = g (lk fr t)
  | [], t => hg.symm
  | (u, v) :: r, t => by
    simp only [List.map_cons, lk]
    cases Nat.beq u t with
    | true => rfl
    | false => exact lk_map g hg r t

theorem lead_ge {H0 H : VH} (hro : Ro H0) (hle : H0.length ≤ H.length) (ho : ∀ b, b < H0.length → hget H b = hget H0 b) : H0.length ≤ leadRo H := by
  induction H0 generalizing H with
  | nil => exact Nat.zero_le _
  | cons a H0 ih =>
    cases H with
    | nil => simp at hle
    | cons x H =>
      have h0 : x = a := ho 0 (by simp)
      subst h0
      have ihh := ih (H := H) (fun b => hro (b + 1)) (by simpa using hle) (fun b hb => ho (b + 1) (by simpa using hb))
      have h1 := hro 0
      have hx : hget (x :: H0) 0 = x := rfl
      rw [hx] at h1
      rcases h1 with ⟨C, e, l, h1, _⟩ | h1 <;> subst h1 <;> simpa [leadRo] using ihh

/-- Another order of the blocks, by a frame. -/
theorem Inv.canon (hro : Ro H0) {μ : Mu} {H : VH} {w : World} (h : Inv w0 μ0 H0 μ H w) (fr : Fr) : ∃ μ', Inv w0 μ0 H0 μ' (canonH fr H) w ∧ ∀ v v', VR μ v v' → VR μ' (canonV fr H v) v' := by
  cases H with
  | nil => exact ⟨μ, h, fun _ _ h => h⟩
  | cons X H1 =>
    generalize hH : X :: H1 = H at h
    have e1 : ∀ v, canonV fr H v = ren2 (idxN (kept fr H)) v := fun v => by subst hH; rfl
    have e2 : canonH fr H = (kept fr H).map fun b => renB (idxN (kept fr H)) (hget H b) := by subst hH; rfl
    rw [e2]
    obtain ⟨k1, k2, r, k3⟩ := kept_ok fr H
    obtain ⟨p1, p2⟩ := h.hr.pick k1 k2 ⟨0, 0, 0, none⟩
    have hlead := lead_ge hro h.n0 h.oldH
    have hpre : ∀ b, b < H0.length → (kept fr H)[b]? = some b := fun b hb => by
      have hbl : b < leadRo H := Nat.lt_of_lt_of_le hb hlead
      rw [k3, List.getElem?_append_left (by simpa using hbl), List.getElem?_range hbl]
    have hlen : H0.length ≤ (kept fr H).length := by
      rw [k3]; simp; omega
    refine ⟨_, ⟨p1, h.below, by simpa using hlen, fun b hb => ?_, fun b hb => ?_, fun b p hb hp => ?_⟩, fun v v' hv => by rw [e1]; exact hv.ren2 p2⟩
    · have hbl : b < μ.length := by rw [h.hr.len]; exact Nat.lt_of_lt_of_le hb h.n0
      rw [List.getElem?_map, hpre b hb]
      simp only [Option.map_some, List.getD, List.getElem?_eq_getElem hbl, Option.getD_some]
      rw [← h.oldμ b hb, List.getElem?_eq_getElem hbl]
    · rw [hget_mapL, hpre b hb]
      simp only
      rw [h.oldH b hb]
      rcases hro b with ⟨C, e, l, hx, hfl⟩ | hx
      · rw [hx]; simp only [renB, hfl, cond_true]
      · rw [hx]; rfl
    · rw [List.getElem?_map] at hp
      obtain ⟨c, hc, rfl⟩ := Option.map_eq_some_iff.1 hp
      have hcl : c < μ.length := by rw [h.hr.len]; exact k1 c (List.mem_of_getElem? hc)
      simp only [List.getD, List.getElem?_eq_getElem hcl, Option.getD_some]
      refine h.fresh c _ ?_ (List.getElem?_eq_getElem hcl)
      rcases Nat.lt_or_ge c H0.length with hlt | hge
      · exfalso
        have := nodup_at k2 hc (hpre c hlt)
        omega
      · exact hge

theorem SR.canon (hro : Ro H0) {μ : Mu} {fr : Fr} {H : VH} {a : Act} {w : World} (h : SR w0 μ0 H0 n μ fr H a w) : ∃ μ', SR w0 μ0 H0 n μ' (canonFr fr H) (canonH fr H) a w := by
  obtain ⟨μ', h1, h2⟩ := h.inv.canon hro fr
  refine ⟨μ', h1, fun t => ?_, h.sz, h.df⟩
  have : lk (canonFr fr H) t = canonV fr H (lk fr t) := by
    cases H with
    | nil => rfl
    | cons X H1 => exact lk_map _ rfl fr t
  rw [this]
  exact h2 _ _ (h.fr t)

variable {hint : List (Nat × List Nat)} {tb : Tab} {m : Nat} {prev : Code → Fr → VH → Kont → Prop}

theorem runS_sound (hm : P.follows .mixedOrders = true) (hc : CallOk P call) (hro : Ro H0)
    (hprev : ∀ (c : Code) (fr : Fr) (H : VH) (K : Kont) (μ : Mu) (a : Act) (w : World), wfC n c = true → TabOk P n tb c → tb.loops (firstReg c) = none → prev (.loop c) fr H K → SR w0 μ0 H0 n μ fr H a w → Code.rounds P c (QK w0 μ0 H0 n K) m a w) :
    ∀ (c : Code) (fr : Fr) (H : VH) (K : Kont) (μ : Mu) (a : Act) (w : World), wfC n c = true → TabOk P n tb c → runS P call hint tb prev c fr H K → SR w0 μ0 H0 n μ fr H a w →
      c.wp P (QK w0 μ0 H0 n K) a w := by
  intro c
  induction c with
  | skip => intro fr H K μ a w _ _ h sr; exact wp_skip ⟨.normal, rfl, fr, H, μ, sr, h⟩
  | label l => intro fr H K μ a w _ _ h sr; exact wp_label ⟨.normal, rfl, fr, H, μ, sr, h⟩
  | ret => intro fr H K μ a w _ _ h sr; exact wp_ret ⟨.ret, rfl, _, H, μ, sr.keep _, h⟩
  | exit id => intro fr H K μ a w _ _ h sr; exact wp_exit ⟨.exit id, rfl, _, H, μ, sr.keep _, h⟩
  | region id ops draw =>
    intro fr H K μ a w hwf _ h sr
    refine region_sound (K := fun fr H => K .normal (keepF (hintOf hint id) fr) H) hm hc hro (fun a' w' ⟨fr', H', μ', sr', hk⟩ => ⟨.normal, rfl, _, H', μ', sr'.keep _, hk⟩) hwf h sr
  | seq x y ihx ihy =>
    intro fr H K μ a w hwf ht h sr
    simp only [wfC, Bool.and_eq_true] at hwf
    obtain ⟨ht1, ht2, ht3⟩ := ht
    refine wp_seq (wp_mono (ihx fr H _ μ a w hwf.1 ht1 h sr) ?_)
    rintro e a' w' ⟨e', rfl, fr', H', μ', sr', hk⟩
    cases e' with
    | normal =>
      simp only at hk
      split at hk
      · rename_i sp hsp
        obtain ⟨μc, src⟩ := (sr'.keep (hintOf hint (3000 + firstReg y))).canon hro
        exact ht2 sp hsp w0 μ0 H0 hro _ _ K μc a' w' hk src
      · exact ihy fr' H' K μ' a' w' hwf.2 ht3 hk sr'
    | exit id => exact ⟨.exit id, rfl, fr', H', μ', sr', hk⟩
    | ret => exact ⟨.ret, rfl, fr', H', μ', sr', hk⟩
  | cond c x y ihx ihy =>
    intro fr H K μ a w hwf ht h sr
    simp only [wfC, Bool.and_eq_true] at hwf
    simp only [runS] at h
    split at h
    · rename_i t ht'
      have hev := ev_sound sr.fr c
      rw [ht'] at hev
      generalize hq : a.eval c = q at hev
      cases hev
      have lit : SR w0 μ0 H0 n μ (litF c t fr) H a w := by
        cases c with
        | tmp u => exact sr.lit ht'
        | const v => exact sr
        | global g => exact sr
        | func f => exact sr
      cases t with
      | true => exact wp_cond_true hq (ihx _ H K μ a w hwf.1 ht.1 h lit)
      | false => exact wp_cond_false hq (ihy _ H K μ a w hwf.2 ht.2 h lit)
    · exact h.elim
  | block id c ih =>
    intro fr H K μ a w hwf ht h sr
    refine wp_block (wp_mono (ih fr H _ μ a w hwf ht h sr) ?_)
    rintro e a' w' ⟨e', rfl, fr', H', μ', sr', hk⟩
    cases e' with
    | normal => exact ⟨.normal, rfl, fr', H', μ', sr', hk⟩
    | ret => exact ⟨.ret, rfl, fr', H', μ', sr', hk⟩
    | exit id' =>
      simp only [toExit, Exit.inBlock]
      cases hb : Nat.beq id' id with
      | true =>
        obtain rfl := Nat.eq_of_beq_eq_true hb
        simp only [hb, cond_true] at hk
        rw [if_pos rfl]
        exact ⟨.normal, rfl, fr', H', μ', sr', hk⟩
      | false =>
        have hne : id' ≠ id := fun e => by subst e; simp at hb
        simp only [hb, cond_false] at hk
        rw [if_neg hne]
        exact ⟨.exit id', rfl, fr', H', μ', sr', hk⟩
  | loop c ih =>
    intro fr H K μ a w hwf ht h sr
    simp only [runS] at h
    split at h
    · rename_i sp hsp
      obtain ⟨μc, src⟩ := (sr.keep (hintOf hint (4000 + firstReg c))).canon hro
      exact ht.1 sp hsp w0 μ0 H0 hro _ _ K μc a w h src
    · rename_i hsp
      refine wp_loop_rounds (m + 1) ?_
      rw [rounds_succ]
      obtain ⟨μc, src⟩ := (sr.keep (hintOf hint (4000 + firstReg c))).canon hro
      refine wp_mono (ih _ _ _ μc a w hwf ht.2 h src) ?_
      rintro e a' w' ⟨e', rfl, fr', H', μ', sr', hk⟩
      cases e' with
      | normal => exact hprev c fr' H' K μ' a' w' hwf ht.2 hsp hk sr'
      | exit id => exact ⟨.exit id, rfl, fr', H', μ', sr', hk⟩
      | ret => exact ⟨.ret, rfl, fr', H', μ', sr', hk⟩
  | scope c ih =>
    intro fr H K μ a w hwf ht h sr
    refine wp_scope_straight (wp_mono (ih fr H K μ a w hwf ht h sr) ?_)
    rintro e a' w' ⟨e', rfl, hk⟩
    cases e' <;> exact ⟨_, rfl, hk⟩
  | goto l => intro fr H K μ a w _ _ h sr; exact h.elim
  | refuse s => intro fr H K μ a w _ _ h sr; exact h.elim
  | rangeFunc f ps x y ihx ihy => intro fr H K μ a w _ _ h sr; exact h.elim

theorem run_rounds (hm : P.follows .mixedOrders = true) (hc : CallOk P call) (hro : Ro H0) :
    ∀ (k : Nat) (c : Code) (fr : Fr) (H : VH) (K : Kont) (μ : Mu) (a : Act) (w : World), wfC n c = true → TabOk P n tb c → tb.loops (firstReg c) = none → run P call hint tb k (.loop c) fr H K → SR w0 μ0 H0 n μ fr H a w →
      Code.rounds P c (QK w0 μ0 H0 n K) k a w
  | 0, c, fr, H, K, μ, a, w, _, _, _, h, _ => h.elim
  | k + 1, c, fr, H, K, μ, a, w, hwf, ht, hl, h, sr => by
    rw [rounds_succ]
    have h : runS P call hint tb (run P call hint tb k) (.loop c) fr H K := h
    simp only [runS, hl] at h
    obtain ⟨μc, src⟩ := (sr.keep (hintOf hint (4000 + firstReg c))).canon hro
    refine wp_mono (runS_sound (m := k) (prev := run P call hint tb k) hm hc hro (run_rounds hm hc hro k) c _ _ _ μc a w hwf ht h src) ?_
    rintro e a' w' ⟨e', rfl, fr', H', μ', sr', hk⟩
    cases e' with
    | normal => exact run_rounds hm hc hro k c fr' H' K μ' a' w' hwf ht hl hk sr'
    | exit id => exact ⟨.exit id, rfl, fr', H', μ', sr', hk⟩
    | ret => exact ⟨.ret, rfl, fr', H', μ', sr', hk⟩

theorem run_sound (hm : P.follows .mixedOrders = true) (hc : CallOk P call) (hro : Ro H0) (k : Nat) (c : Code) (fr : Fr) (H : VH) (K : Kont) (μ : Mu) (a : Act) (w : World)
    (hwf : wfC n c = true) (ht : TabOk P n tb c) (h : run P call hint tb k c fr H K) (sr : SR w0 μ0 H0 n μ fr H a w) : c.wp P (QK w0 μ0 H0 n K) a w := by
  cases k with
  | zero => exact h.elim
  | succ k => exact runS_sound (m := k) hm hc hro (run_rounds hm hc hro k) c fr H K μ a w hwf ht h sr

/-- A join's contract by a run. -/
theorem join_ok (hm : P.follows .mixedOrders = true) (hc : CallOk P call) {c : Code} {sp : LSpec} (hwf : wfC n c = true) (ht : TabOk P n tb c)
    (h : ∀ fr H K, sp fr H K → ∃ k, run P call hint tb k c fr H K) : CodeOk P n c sp := fun w0 μ0 H0 hro fr H K μ a w hs sr => by
  obtain ⟨k, hk⟩ := h fr H K hs
  exact run_sound hm hc hro k c fr H K μ a w hwf ht hk sr

theorem rnds_rounds (hm : P.follows .mixedOrders = true) (hc : CallOk P call) (hro : Ro H0) :
    ∀ (k : Nat) (c : Code) (fr : Fr) (H : VH) (K : Kont) (μ : Mu) (a : Act) (w : World), wfC n c = true → TabOk P n tb c → rnds P call hint tb k c fr H K → SR w0 μ0 H0 n μ fr H a w →
      Code.rounds P c (QK w0 μ0 H0 n K) k a w
  | 0, c, fr, H, K, μ, a, w, _, _, h, _ => h.elim
  | k + 1, c, fr, H, K, μ, a, w, hwf, ht, h, sr => by
    rw [rounds_succ]
    refine wp_mono (runS_sound (m := k) (prev := run P call hint tb k) hm hc hro (run_rounds hm hc hro k) c fr H _ μ a w hwf ht h sr) ?_
    rintro e a' w' ⟨e', rfl, fr', H', μ', sr', hk⟩
    cases e' with
    | normal =>
      obtain ⟨μc, src⟩ := (sr'.keep (hintOf hint (4000 + firstReg c))).canon hro
      exact rnds_rounds hm hc hro k c _ _ K μc a' w' hwf ht hk src
    | exit id => exact ⟨.exit id, rfl, fr', H', μ', sr', hk⟩
    | ret => exact ⟨.ret, rfl, fr', H', μ', sr', hk⟩

/-- A loop's contract by its rounds. -/
theorem loop_ok (hm : P.follows .mixedOrders = true) (hc : CallOk P call) {c : Code} {sp : LSpec} (hwf : wfC n c = true) (ht : TabOk P n tb c)
    (h : ∀ fr H K, sp fr H K → ∃ k, rnds P call hint tb k c fr H K) : CodeOk P n (.loop c) sp := fun w0 μ0 H0 hro fr H K μ a w hs sr => by
  obtain ⟨k, hk⟩ := h fr H K hs
  exact wp_loop_rounds k (rnds_rounds hm hc hro k c fr H K μ a w hwf ht hk sr)

/-! ### Functions -/
theorem lk_args {μ : Mu} : ∀ (l l' : List Value) (i t : Nat), VRs μ l l' → (lk (argsF i l) t = junk ∨ ∃ v', l'[t - i]? = some v' ∧ i ≤ t ∧ VR μ (lk (argsF i l) t) v')
  | [], _, _, _, _ => .inl rfl
  | v :: l, _, i, t, .cons (v' := v') (l' := l') hv hl => by
    simp only [argsF, lk]
    cases hb : Nat.beq i t with
    | true =>
      obtain rfl := Nat.eq_of_beq_eq_true hb
      exact .inr ⟨v', by simp, Nat.le_refl _, hv⟩
    | false =>
      have hne : i ≠ t := fun e => by subst e; simp at hb
      rcases lk_args l l' (i + 1) t hl with h | ⟨u, h1, h2, h3⟩
      · exact .inl h
      · refine .inr ⟨u, ?_, by omega, h3⟩
        rw [show t - i = (t - (i + 1)) + 1 by omega]
        simpa using h1

def resG (xs : Array Value) : ResultVar → Sem Value
  | .tmp t => pure (xs.getD t undef)
  | .cell a t => do loadVar t (← asAddr (xs.getD a undef))

theorem results_run {fn : Func} {xs : Array Value} {l' : List Value} {w : World} (h : (fn.results.toList.mapM (resG xs)).run P w = .ok l' w) :
    (results fn xs).run P w = .ok (if h : (⟨l'⟩ : Array Value).size = 1 then (⟨l'⟩ : Array Value)[0] else .tuple ⟨l'⟩) w := by
  have e : results fn xs = (do let vs ← fn.results.mapM (resG xs); pure (if h : vs.size = 1 then vs[0] else .tuple vs)) := by
    unfold results
    congr 1
  have e2 : fn.results = fn.results.toList.toArray := by simp
  have h4 : (fn.results.mapM (resG xs)).run P w = .ok ⟨l'⟩ w := by
    rw [e2, List.mapM_toArray]
    simp only [Sem.run_map, h, Result.andThen_ok]
  rw [e, Sem.run_bind, h4, Result.andThen_ok]
  rfl

theorem resF_sound {μ : Mu} {fr : Fr} {H : VH} {a : Act} {w : World} (hr : HR μ H w) (h : ∀ t, VR μ (lk fr t) (a.tmps.getD t undef)) : ∀ (rs : List ResultVar) (c : Bool) (l : List Value), resF P fr H rs = some (c, l) → c = true →
    ∃ l', VRs μ l l' ∧ (rs.mapM (resG a.tmps)).run P w = .ok l' w
  | [], c, l, hs, _ => by
    obtain ⟨_, rfl⟩ := Prod.mk.inj (Option.some.inj hs)
    exact ⟨[], .nil, by simp⟩
  | .tmp t :: r, c, l, hs, hc => by
    simp only [resF] at hs
    split at hs
    · rename_i c2 l2 hl2
      obtain ⟨rfl, rfl⟩ := Prod.mk.inj (Option.some.inj hs)
      obtain ⟨l', h1, h2⟩ := resF_sound hr h r _ l2 hl2 hc
      refine ⟨_ :: l', .cons (h t) h1, ?_⟩
      rw [List.mapM_cons]
      simp only [Sem.run_bind, resG, Sem.run_pure, Result.andThen_ok, h2]
    · cases hs
  | .cell t0 t :: r, c, l, hs, hc => by
    simp only [resF] at hs
    split at hs
    · rename_i ad c1 v c2 l2 hp hv hl2
      obtain ⟨rfl, rfl⟩ := Prod.mk.inj (Option.some.inj hs)
      simp only [Bool.and_eq_true] at hc
      obtain ⟨l', h1, h2⟩ := resF_sound hr h r _ l2 hl2 hc.2
      obtain ⟨v', h3, h4⟩ := opV_sound ⟨none, .load t (.tmp t0), t, "", #[], none⟩ hr (ev_sound h) hv hc.1
      have hq := h t0
      rw [hp] at hq
      generalize hg : a.tmps.getD t0 undef = q at hq
      have h5 : (resG a.tmps (.cell t0 t)).run P w = .ok v' w := by
        cases hq with
        | ptr hb =>
          simp [execOp, Instr.loadAt, Instr.sureAddr, Act.eval, hg] at h3
          simp only [resG, hg, asAddr, Sem.run_bind, Sem.run_pure, Result.andThen_ok]
          revert h3
          generalize (loadVar t _).run P w = q
          intro h3
          cases q with
          | ok a w2 =>
            simp only [Result.andThen_ok] at h3
            cases h3
            rfl
          | halt x w2 => cases h3
      refine ⟨v' :: l', .cons h4 h1, ?_⟩
      rw [List.mapM_cons]
      simp only [Sem.run_bind, h5, Sem.run_pure, Result.andThen_ok, h2]
    · cases hs

theorem oneOr_sound {μ : Mu} {l l' : List Value} (h : VRs μ l l') : VR μ (oneOr l) (if h : (⟨l'⟩ : Array Value).size = 1 then (⟨l'⟩ : Array Value)[0] else .tuple ⟨l'⟩) := by
  cases h with
  | nil => exact .tuple .nil
  | cons a b =>
    cases b with
    | nil => exact a
    | cons c d => exact .tuple (.cons a (.cons c d))

/-- **A run says what a call comes to.** -/
theorem runF_meets (hm : P.follows .mixedOrders = true) (hc : CallOk P call) (hro : Ro H0) {k : Nat} {f : FuncId} {fn : Func} {args : List Value} {K : Value → VH → Prop} (hf : P.funcs[f]? = some fn)
    (hwf : wfC fn.ntmps (bodyOf fn) = true) (ht : TabOk P fn.ntmps tb (bodyOf fn))
    (h : runF P call hint tb k fn args H0 K) : Meets P f args H0 K := by
  intro μ w args' hr hargs
  unfold runF at h
  cases hb : fn.body with
  | none => rw [hb] at h; exact h.elim
  | some c =>
    have hbo : bodyOf fn = c := by simp [bodyOf, hb, orSkip]
    rw [hb] at h
    rw [hbo] at hwf ht
    refine calls_of_wp hf hb ?_
    have sr : SR w μ H0 fn.ntmps μ (argsF 0 args) H0 { tmps := ⟨args'⟩ ++ Array.replicate (fn.ntmps - (⟨args'⟩ : Array Value).size) undef, defers := [] } w := by
      refine ⟨⟨hr, Below.refl _ _, Nat.le_refl _, fun _ _ => rfl, fun _ _ => rfl, ?_⟩, fun t => ?_, by simp; omega, rfl⟩
      · intro b p hb hp
        have := mu_lt hp
        rw [hr.len] at this
        omega
      · rcases lk_args args args' 0 t hargs with h' | ⟨v', h1, _, h3⟩
        · rw [h']; exact .junk _
        · rw [Nat.sub_zero] at h1
          have h1' : args'[t]? = some v' := h1
          have : (⟨args'⟩ ++ Array.replicate (fn.ntmps - (⟨args'⟩ : Array Value).size) undef : Array Value).getD t undef = v' := by
            rw [Array.getD_eq_getD_getElem?, Array.getElem?_append]
            have hlt : t < args'.length := (List.getElem?_eq_some_iff.1 h1').1
            simp [hlt, h1']
            simpa [List.getElem?_eq_getElem hlt] using h1'
          rw [this]
          exact h3
    refine wp_mono (run_sound (P := P) hm hc hro k c _ H0 _ μ _ w hwf ht h sr) ?_
    rintro e a' w' ⟨e', rfl, fr', H', μ', sr', hk⟩
    have fin : (match resF P fr' H' fn.results.toList with | some (c, l) => need c (K (canonV [(0, oneOr l)] H' (oneOr l)) (canonH [(0, oneOr l)] H')) | none => False) →
        (a'.defers = [] ∧ ∃ v, (results fn a'.tmps).run P w' = .ok v w' ∧ ∃ (r r' : Value) (μ' : Mu) (H' : VH), Ending.returned v = .returned r' ∧ VR μ' r r' ∧ HR μ' H' w' ∧ Mu.le μ μ' ∧ H0.length ≤ H'.length ∧
      (∀ b, b < H0.length → hget H' b = hget H0 b) ∧ (∀ (b : Nat) (p : Place), H0.length ≤ b → μ'[b]? = some p → w.heap.size ≤ p.blk) ∧
      Below w.heap.size w w' ∧ K r H') := fun hk => by
      split at hk
      · rename_i cc l hl
        cases cc with
        | false => exact hk.elim
        | true =>
        obtain ⟨l', h1, h2⟩ := resF_sound (P := P) sr'.inv.hr sr'.fr _ _ _ hl rfl
        obtain ⟨μc, c1, c2⟩ := sr'.inv.canon hro [(0, oneOr l)]
        refine ⟨sr'.df, _, ?_, _, _, μc, _, rfl, c2 _ _ (oneOr_sound h1), c1.hr, ?_, c1.n0, c1.oldH, c1.fresh, c1.below, hk⟩
        · exact results_run h2
        · intro b p hp
          have hbl := mu_lt hp
          rw [c1.oldμ b (by rw [← hr.len]; exact hbl)]
          exact hp
      · exact hk.elim
    cases e' with
    | normal => exact fin hk
    | ret => exact fin hk
    | exit id => exact hk.elim

end
end Go.Proofs.YtofcjkbgieenlaaDoor.PM
