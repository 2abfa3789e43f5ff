/- The small machine's runs: what it says of a call holds of the model's. Contracts of functions whose arguments and results hold no address: they serve whatever memory there is. Contracts of functions that read rows and yield what has no address. Texts and lists of bytes, numbers in their kinds. Which temporaries live behind each region, and in which order drawn regions are walked: hints, no more. Contracts of functions of layer 15: zeros and texts of the reference, lists of entries. Contracts of functions of layer 15's reference: numerals, records, heads, names. By an AI agent. -/
import Derived.Test.YtbgilaacfbinbaaGreatDoorRowTarWriteA
import Derived.OrdersHeld
import Derived.Lib.ItoaNum
set_option linter.unusedVariables false
set_option linter.unusedSimpArgs false
namespace Go.Proofs.YtbgilaacfbinbaaGreatDoor.PM
open Go Go.RowKit
set_option linter.unusedVariables false
set_option linter.unusedSimpArgs false

/-- A function that is entered when it is called. -/
def callable (P : Program) (f : FuncId) : Prop := ∃ fn c, P.funcs[f]? = some fn ∧ (fn.name == "runtime.NumGoroutine") = false ∧ fn.body = some c

/-- What a call comes to, whatever memory there is besides. -/
def Meets (P : Program) (f : FuncId) (args : List Value) (H : VH) (K : Value → VH → Prop) : Prop :=
  ∀ (μ : Mu) (w : World) (args' : List Value), Wd w → HR μ H w → VRs μ args args' → Calls P f ⟨args'⟩ w fun e w' =>
    ∃ (r r' : Value) (μ' : Mu) (H' : VH), e = .returned r' ∧ VR μ' r r' ∧ HR μ' H' w' ∧ Mu.le μ μ' ∧ H.length ≤ H'.length ∧
      (∀ b, b < H.length → hget H' b = hget H b) ∧ (∀ (b : Nat) (p : Place), H.length ≤ b → μ'[b]? = some p → w.heap.size ≤ p.blk) ∧
      Below w.heap.size w w' ∧ K r H'

def CallOk (P : Program) (call : FuncId → Spec) : Prop := ∀ f args H K, call f args H K → callable P f ∧ Meets P f args H K

/-- What stays so through a run. -/
structure Inv (w0 : World) (μ0 : Mu) (H0 : VH) (μ : Mu) (H : VH) (w : World) : Prop where
  gl : Wd w0
  hr : HR μ H w
  below : Below w0.heap.size w0 w
  n0 : H0.length ≤ H.length
  oldμ : ∀ b, b < H0.length → μ[b]? = μ0[b]?
  oldH : ∀ b, b < H0.length → hget H b = hget H0 b
  fresh : ∀ (b : Nat) (p : Place), H0.length ≤ b → μ[b]? = some p → w0.heap.size ≤ p.blk

theorem Inv.wd {w0 : World} {μ0 : Mu} {H0 : VH} {μ : Mu} {H : VH} {w : World} (h : Inv w0 μ0 H0 μ H w) : Wd w := h.gl.below h.below

/-- Rows that are read alone. -/
def Ro (H0 : VH) : Prop := ∀ b, (∃ (C : Codec) (e : Nat) (l : List C.α), hget H0 b = .row C e l .ro ∧ C.flat = true) ∨ hget H0 b = .dead

structure SR (w0 : World) (μ0 : Mu) (H0 : VH) (n : Nat) (μ : Mu) (fr : Fr) (H : VH) (a : Act) (w : World) : Prop where
  inv : Inv w0 μ0 H0 μ H w
  fr : ∀ t, VR μ (lk fr t) (a.tmps.getD t undef)
  sz : n ≤ a.tmps.size
  df : a.defers = []

section
variable {P : Program} {call : FuncId → Spec} {w0 : World} {μ0 : Mu} {H0 : VH} {n : Nat}

theorem ev_sound {μ : Mu} {fr : Fr} {a : Act} (h : ∀ t, VR μ (lk fr t) (a.tmps.getD t undef)) (x : Operand) : VR μ (ev fr x) (a.eval x) := by
  cases x with
  | tmp t => exact h t
  | const v => exact VR.const v
  | global g => exact .glob g 0
  | func f => exact .func .nil .nil

theorem getD_set (xs : Array Value) (d t : Nat) (v : Value) : (xs.setIfInBounds d v).getD t undef = if d = t ∧ d < xs.size then v else xs.getD t undef := by
  by_cases hdt : d = t
  · subst hdt
    by_cases hd : d < xs.size
    · simp [hd]
    · have h0 : ¬ (d < xs.size) := hd
      have : xs.setIfInBounds d v = xs := Array.setIfInBounds_eq_of_size_le (by omega)
      simp [this, h0]
  · rw [if_neg (fun h => hdt h.1), Array.getD_eq_getD_getElem?, Array.getD_eq_getD_getElem?, Array.getElem?_setIfInBounds_ne hdt]

theorem SR.put {μ : Mu} {fr : Fr} {H : VH} {a : Act} {w : World} (h : SR w0 μ0 H0 n μ fr H a w) {dst : Option Tmp} {v v' : Value} (hv : VR μ v v')
    (hd : ∀ d, dst = some d → d < n) : SR w0 μ0 H0 n μ (put dst v fr) H (a.put dst v') w := by
  cases dst with
  | none => exact h
  | some d =>
    have hdn := hd d rfl
    refine ⟨h.inv, fun t => ?_, by simpa [Act.put] using h.sz, by simpa [Act.put] using h.df⟩
    simp only [PM.put, lk, Act.put, getD_set]
    cases hb : Nat.beq d t with
    | true =>
      obtain rfl := Nat.eq_of_beq_eq_true hb
      rw [if_pos ⟨rfl, Nat.lt_of_lt_of_le hdn h.sz⟩]
      exact hv
    | false =>
      have hne : d ≠ t := fun e => by subst e; simp at hb
      rw [if_neg (fun hh => hne hh.1)]
      exact h.fr t

/-- Writing down what is known. -/
theorem SR.lit {μ : Mu} {fr : Fr} {H : VH} {a : Act} {w : World} (h : SR w0 μ0 H0 n μ fr H a w) {t : Nat} {b : Bool} (hl : lk fr t = .bool b) : SR w0 μ0 H0 n μ ((t, .bool b) :: fr) H a w := by
  refine ⟨h.inv, fun u => ?_, h.sz, h.df⟩
  simp only [lk]
  cases hb : Nat.beq t u with
  | true =>
    obtain rfl := Nat.eq_of_beq_eq_true hb
    have := h.fr t
    rw [hl] at this
    exact this
  | false => exact h.fr u

theorem SR.later {μ μ' : Mu} {fr : Fr} {H H' : VH} {a : Act} {w w' : World} (h : SR w0 μ0 H0 n μ fr H a w) (hi : Inv w0 μ0 H0 μ' H' w') (hm : Mu.le μ μ') : SR w0 μ0 H0 n μ' fr H' a w' :=
  ⟨hi, fun t => (h.fr t).mono hm, h.sz, h.df⟩

theorem Inv.drew {μ : Mu} {H : VH} {w : World} (h : Inv w0 μ0 H0 μ H w) : Inv w0 μ0 H0 μ H { w with drawn := w.drawn + 1 } :=
  ⟨h.gl, h.hr.later (fun _ _ => rfl) (Nat.le_refl _), h.below.drew, h.n0, h.oldμ, h.oldH, h.fresh⟩

theorem below_setCells {B b : Nat} {a : World} (hb : B ≤ b) : ∀ (vs : List Value) (o : Nat) (w : World), Below B a w → Below B a (w.setCells b o vs)
  | [], _, _, h => h
  | v :: r, o, w, h => below_setCells hb r (o + 1) _ (h.setCell (p := ⟨b, o, none⟩) hb v)

theorem Inv.fresh' {μ : Mu} {H : VH} {w : World} (h : Inv w0 μ0 H0 μ H w) {zs zs' : List Value} (hz : VRs μ zs zs') (T : TypeId) :
    Inv w0 μ0 H0 (μ ++ [⟨w.heap.size, 0, zs.length, some zs.length⟩]) (H ++ [.row raw zs.length [zs] .own]) { w with heap := w.heap.push (.cells ⟨zs'⟩ T (0, 0)) } where
  gl := h.gl
  hr := h.hr.fresh hz T
  below := by
    have := h.below.alloc h.below.size (.cells ⟨zs'⟩ T (0, 0))
    exact this
  n0 := by simp; have := h.n0; omega
  oldμ b hb := by
    rw [List.getElem?_append_left (by rw [h.hr.len]; have := h.n0; omega)]
    exact h.oldμ b hb
  oldH b hb := by
    rw [hget_append_lt (by have := h.n0; omega)]
    exact h.oldH b hb
  fresh b p hb hp := by
    rcases Nat.lt_or_ge b μ.length with hlt | hge
    · rw [List.getElem?_append_left hlt] at hp
      exact h.fresh b p hb hp
    · rw [List.getElem?_append_right hge] at hp
      have : b - μ.length = 0 := by
        rcases Nat.eq_zero_or_pos (b - μ.length) with h0 | h0
        · exact h0
        · rw [List.getElem?_eq_none (by simp; omega)] at hp; cases hp
      rw [this] at hp
      simp at hp
      subst hp
      exact h.below.size

theorem Inv.step {μ μ' : Mu} {H H' : VH} {w w' : World} (h : Inv w0 μ0 H0 μ H w) (hr : HR μ' H' w') (hb : Below w0.heap.size w w') (hlen : H.length ≤ H'.length)
    (hμ : ∀ b, b < H0.length → μ'[b]? = μ[b]?) (hH : ∀ b, b < H0.length → hget H' b = hget H b)
    (hf : ∀ (b : Nat) (p : Place), H0.length ≤ b → μ'[b]? = some p → μ[b]? = some p ∨ w0.heap.size ≤ p.blk) : Inv w0 μ0 H0 μ' H' w' where
  gl := h.gl
  hr := hr
  below := h.below.trans hb
  n0 := Nat.le_trans h.n0 hlen
  oldμ b hb := by rw [hμ b hb]; exact h.oldμ b hb
  oldH b hb := by rw [hH b hb]; exact h.oldH b hb
  fresh b p hb hp := by
    rcases hf b p hb hp with h' | h'
    · exact h.fresh b p hb h'
    · exact h'

theorem snoc_or {μ : Mu} {q : Place} {b : Nat} {p : Place} (h : (μ ++ [q])[b]? = some p) : μ[b]? = some p ∨ p = q := by
  rcases Nat.lt_or_ge b μ.length with hlt | hge
  · rw [List.getElem?_append_left hlt] at h
    exact .inl h
  · rw [List.getElem?_append_right hge] at h
    have : b - μ.length = 0 := by
      rcases Nat.eq_zero_or_pos (b - μ.length) with h0 | h0
      · exact h0
      · rw [List.getElem?_eq_none (by simp; omega)] at h; cases h
    rw [this] at h
    simp at h
    exact .inr h.symm

/-- One block more, which is new. -/
theorem Inv.snoc {μ : Mu} {H : VH} {w w' : World} {X : VB} {q : Place} (h : Inv w0 μ0 H0 μ H w) (hr : HR (μ ++ [q]) (H ++ [X]) w') (hb : Below w0.heap.size w w') (hq : w0.heap.size ≤ q.blk) :
    Inv w0 μ0 H0 (μ ++ [q]) (H ++ [X]) w' :=
  h.step hr hb (by simp) (fun b hb => List.getElem?_append_left (by rw [h.hr.len]; exact Nat.lt_of_lt_of_le hb h.n0)) (fun b hb => hget_append_lt (Nat.lt_of_lt_of_le hb h.n0))
    (fun b p _ hp => (snoc_or hp).imp id (fun e => by subst e; exact hq))

theorem flat_as {C C2 : Codec} : ∀ {l : List C2.α}, okAll C C2 l = true → flat C (asC C C2 l) = flat C2 l
  | [], _ => rfl
  | y :: r, h => by
    simp only [okAll, Bool.and_eq_true] at h
    simp only [asC, flat, flat_as h.2, C.h_dec _ h.1.1]

theorem as_lens {C C2 : Codec} {e : Nat} : ∀ {l : List C2.α}, okAll C C2 l = true → (∀ y ∈ l, (C2.enc y).length = e) → ∀ y ∈ asC C C2 l, (C.enc y).length = e
  | [], _, _, y, hy => by simp [asC] at hy
  | x :: r, h, hl, y, hy => by
    simp only [okAll, Bool.and_eq_true] at h
    simp only [asC, List.mem_cons] at hy
    rcases hy with rfl | hy
    · rw [C.h_dec _ h.1.1]; exact hl x (by simp)
    · exact as_lens h.2 (fun y hy => hl y (by simp [hy])) y hy

theorem as_len {C C2 : Codec} : ∀ {l : List C2.α}, (asC C C2 l).length = l.length
  | [] => rfl
  | _ :: r => by simp [asC, as_len (l := r)]

theorem cellsV_mem : ∀ {l : List Value}, cellsV l = true → ∀ v ∈ l, cellV v = true
  | [], _, v, hv => by simp at hv
  | x :: r, h, v, hv => by
    simp only [cellsV, Bool.and_eq_true] at h
    rcases List.mem_cons.1 hv with rfl | hv
    · exact h.1
    · exact cellsV_mem h.2 v hv

theorem okAll_cells {C C2 : Codec} : ∀ {l : List C2.α}, okAll C C2 l = true → ∀ v ∈ flat C2 l, cellV v = true
  | [], _, v, hv => by simp [flat] at hv
  | y :: r, h, v, hv => by
    simp only [okAll, Bool.and_eq_true] at h
    simp only [flat, List.mem_append] at hv
    rcases hv with hv | hv
    · exact cellsV_mem h.1.2 v hv
    · exact okAll_cells h.2 v hv

/-- A fresh row, with room behind it. -/
theorem HR.freshRow {μ : Mu} {H : VH} {w : World} (h : HR μ H w) {C : Codec} {esz : Nat} {ys : List C.α} {ns' : List Value} (hy : ∀ y ∈ ys, (C.enc y).length = esz) (hv : VRs μ (flat C ys) ns') (rest : List Value) (T : TypeId) :
    HR (μ ++ [⟨w.heap.size, 0, esz, some (ns'.length + rest.length)⟩]) (H ++ [.row C esz ys .own]) { w with heap := w.heap.push (.cells ⟨ns' ++ rest⟩ T (0, 0)) } := by
  have hb : ∀ k, k < w.heap.size → (w.heap.push (.cells ⟨ns' ++ rest⟩ T (0, 0)))[k]? = w.heap[k]? := fun k hk => by
    rw [Array.getElem?_push]; simp [Nat.ne_of_lt hk]
  have hcell : ∀ i, ({ w with heap := w.heap.push (.cells ⟨ns' ++ rest⟩ T (0, 0)) } : World).cell? ⟨w.heap.size, i, none⟩ = (ns' ++ rest)[i]? := fun i => by
    simp [World.cell?]
  refine h.snoc (w' := { w with heap := w.heap.push (.cells ⟨ns' ++ rest⟩ T (0, 0)) }) hb (by simp) (Nat.le_refl _) ⟨rfl, by simp, hy, ?_, ?_⟩
  · intro i j x v h1 h2
    have hj : j < esz := by rw [← hy x (List.mem_of_getElem? h1)]; exact (List.getElem?_eq_some_iff.1 h2).1
    have hf := flat_get hy h1 hj
    rw [h2] at hf
    obtain ⟨v', k1, k2⟩ := hv.get hf
    refine ⟨v', ?_, k2.mono (mu_snoc _ _)⟩
    unfold Place.at
    simp only [Nat.zero_add]
    rw [hcell, List.getElem?_append_left (List.getElem?_eq_some_iff.1 k1).1]
    exact k1
  · intro _
    refine ⟨_, rfl, ?_, fun i hi => ⟨?_, by simp [World.frozen?]⟩⟩
    · rw [hv.length, flat_len hy]; omega
    · rw [Nat.zero_add, hcell]
      exact ⟨_, List.getElem?_eq_getElem (by simpa using hi)⟩

/-- What lies in a row, cell by cell. -/
theorem row_cells {μ : Mu} {w : World} {C : Codec} {esz : Nat} {l : List C.α} {m : VMode} {p : Place} (r : RowOk μ w C esz l m p) : ∀ (n i : Nat), i + n ≤ l.length →
    ∃ ns, VRs μ (flat C ((l.drop i).take n)) ns ∧ ns.length = n * esz ∧ ∀ j u, ns[j]? = some u → w.cell? ((p.at i 0).add j) = some u
  | 0, i, _ => ⟨[], by simpa [flat] using .nil, by simp, fun j u h => by simp at h⟩
  | n + 1, i, h => by
    have hi : i < l.length := by omega
    have hx := nth_some hi
    have hl := r.lens _ (List.mem_of_getElem? hx)
    obtain ⟨ns, k1, k2, k3⟩ := row_cells r n (i + 1) (by omega)
    have hd : (l.drop i).take (n + 1) = nth C l i :: (l.drop (i + 1)).take n := by
      rw [List.drop_eq_getElem_cons hi, List.take_succ_cons]
      congr 1
      rw [List.getElem?_eq_getElem hi] at hx
      exact Option.some.inj hx
    -- the element's own cells
    have one : ∀ (cs : List Value) (j : Nat), (C.enc (nth C l i)).drop j = cs → ∃ vs, VRs μ cs vs ∧ ∀ q u, vs[q]? = some u → w.cell? (p.at i (j + q)) = some u := by
      intro cs
      induction cs with
      | nil => intro j _; exact ⟨[], .nil, fun q u h => by simp at h⟩
      | cons c cs ih =>
        intro j hj
        obtain ⟨v', c1, c2⟩ := r.cells i j _ c hx (drop_head hj)
        obtain ⟨vs, d1, d2⟩ := ih (j + 1) (by
          have := congrArg (List.drop 1) hj
          rwa [List.drop_drop, List.drop_one] at this)
        refine ⟨v' :: vs, .cons c2 d1, fun q u hq => ?_⟩
        cases q with
        | zero => simp at hq; subst hq; exact c1
        | succ q => rw [show j + (q + 1) = j + 1 + q by omega]; exact d2 q u (by simpa using hq)
    obtain ⟨vs, e1, e2⟩ := one _ 0 rfl
    rw [List.drop_zero] at e1
    refine ⟨vs ++ ns, by rw [hd]; exact e1.append k1, by rw [List.length_append, e1.length, hl, k2, Nat.succ_mul]; omega, fun j u hj => ?_⟩
    have hvl : vs.length = esz := by rw [e1.length, hl]
    rcases Nat.lt_or_ge j esz with hlt | hge
    · rw [List.getElem?_append_left (by omega)] at hj
      rw [at_add, Nat.zero_add]
      have := e2 j u hj
      simpa using this
    · rw [List.getElem?_append_right (by omega), hvl] at hj
      have := k3 (j - esz) u hj
      rw [at_add] at this ⊢
      have hpl : p.at (i + 1) (0 + (j - esz)) = p.at i (0 + j) := by
        unfold Place.at
        rw [r.pe, Nat.add_mul]
        simp only [Nat.one_mul, Addr.mk.injEq, and_true, true_and]
        omega
      rwa [hpl] at this

theorem run_append_in {P : Program} (w : World) (t ty e : TypeId) (i : TypeInfo) (ht : P.underlying t = some (.slice e)) (hi : P.info? e = some i) (B a : Addr) (n c' m c : Nat) (news : List Value) {w' : World}
    (hl : news.length = m * i.size) (hnews : ∀ j u, news[j]? = some u → w.cell? (a.add j) = some u) (hroom : n + m ≤ c') (hst : (storeCells (B.add (n * i.size)) news).run P w = .ok () w') :
    (Builtin.append_ #[t, t] ty #[.slice (some B) n c', .slice (some a) m c]).run P w = .ok (.slice (some B) (n + m) c') w' := by
  have hf := run_firstCells_some (P := P) w i.size m a m c news hl hnews
  simp [Builtin.append_, run_underlying ht, sizeOf, typeInfo, hi, Builtin.lenOf, hroom, hf, hst]

theorem run_append_nil0 {P : Program} (w : World) (t ty e : TypeId) (i : TypeInfo) (ht : P.underlying t = some (.slice e)) (hi : P.info? e = some i) (a : Addr) (c : Nat) :
    (Builtin.append_ #[t, t] ty #[.slice none 0 0, .slice (some a) 0 c]).run P w = .ok (.slice none 0 0) w := by
  simp [Builtin.append_, run_underlying ht, sizeOf, typeInfo, hi, Builtin.lenOf, Builtin.firstCells, loadCells, loadCellsFrom]

theorem Below.alloc' {B : Nat} {w : World} (h : B ≤ w.heap.size) (o : Obj) : Below B w { w with heap := w.heap.push o } := (Below.refl B w).alloc h o

theorem below_drewAlloc {B : Nat} {w : World} (h : B ≤ w.heap.size) (o : Obj) : Below B w (w.drew.alloc o) := ((Below.refl B w).drew).alloc h o

theorem below_setCells' {B b : Nat} (hb : B ≤ b) (vs : List Value) (o : Nat) (w : World) : Below B w (w.setCells b o vs) := below_setCells hb vs o w (Below.refl _ _)

/-- 'append' says what it does. -/
theorem append_sound (hro : Ro H0) {μ : Mu} {H : VH} {w : World} {t t0 : TypeId} {s s' x' : Value} {b2 j0 m c : Nat} {K : Value → VH → Prop} {R : Value → World → Prop}
    (inv : Inv w0 μ0 H0 μ H w) (hs : VR μ s s') (hx : VR μ (.slice (some ⟨b2, j0, none⟩) m c) x') (h : appendP P t s (hget H b2) j0 m H K)
    (hR : ∀ v v' μ' H' w', VR μ' v v' → Inv w0 μ0 H0 μ' H' w' → Mu.le μ μ' → K v H' → R v' w') :
    ∃ v' w', (Builtin.append_ #[t, t] t0 #[s', x']).run P w = .ok v' w' ∧ R v' w' := by
  unfold appendP at h
  split at h
  · rename_i e ht
    split at h
    · rename_i n1 by1 zs C2 esz2 l2 m2 hsz hby hz hg2
      obtain ⟨i, z, hi, hiz, hzc, _⟩ := zeroCells_some hz
      obtain ⟨i2, hi2, his, _⟩ := szOf_some hsz
      obtain rfl : i2 = i := Option.some.inj (hi2.symm.trans hi)
      have hbyte : i2.bytes = by1 + 1 := by
        unfold infoB at hby
        rw [hi] at hby
        exact Option.some.inj hby
      cases hc1 : ((Nat.ble (j0 + m) l2.length && Nat.beq esz2 (n1 + 1)) && Nat.beq zs.length (n1 + 1)) with
      | false => rw [hc1] at h; exact h.elim
      | true =>
        rw [hc1] at h
        simp only [need] at h
        simp only [Bool.and_eq_true, Nat.ble_eq] at hc1
        have hle2 : j0 + m ≤ l2.length := hc1.1.1
        obtain rfl := Nat.eq_of_beq_eq_true hc1.1.2
        have hzl : z.cells.size = n1 + 1 := by
          have := Nat.eq_of_beq_eq_true hc1.2
          rw [← hzc, Array.length_toList] at this
          exact this
        obtain ⟨p2, hp2, r2⟩ := inv.hr.row _ _ _ _ _ hg2
        -- what is added
        have hnews : ∃ (a : Addr) (cc : Nat) (ns : List Value), x' = .slice (some a) m cc ∧ VRs μ (flat C2 ((l2.drop j0).take m)) ns ∧ ns.length = m * (n1 + 1) ∧ ∀ j u, ns[j]? = some u → w.cell? (a.add j) = some u := by
          cases hx with
          | slice hp hle hlim =>
            rename_i c' p
            obtain rfl : p = p2 := Option.some.inj (hp.symm.trans hp2)
            obtain ⟨ns, k1, k2, k3⟩ := row_cells r2 m j0 hle2
            exact ⟨_, c', ns, rfl, k1, k2, k3⟩
          | slice0 a => exact ⟨a, 0, [], rfl, by simpa [flat] using .nil, by simp, fun j u h => by simp at h⟩
        obtain ⟨a, cc, ns, rfl, hv, hnl, hcell⟩ := hnews
        have lens2 : ∀ y ∈ (l2.drop j0).take m, (C2.enc y).length = n1 + 1 := fun y hy => r2.lens y (List.mem_of_mem_drop (List.mem_of_mem_take hy))
        have hm : ((l2.drop j0).take m).length = m := by simp; omega
        have hcap : ∀ need old, need ≤ grownCap w need old e := fun need old => grownCap_ge w need old e
        -- a new array
        have fresh : ∀ {C : Codec} {ys : List C.α} {ms : List Value} {nn cp : Nat}, (∀ y ∈ ys, (C.enc y).length = n1 + 1) → VRs μ (flat C ys) ms → ms.length = nn * (n1 + 1) → nn ≤ cp →
            VR (μ ++ [(⟨w.heap.size, 0, n1 + 1, some (ms.length + (Builtin.zeroCells z.cells (cp - nn)).toList.length)⟩ : Place)]) (.slice (some ⟨H.length, 0, none⟩) nn nn) (.slice (some ⟨w.heap.size, 0, none⟩) nn cp) ∧
            Inv w0 μ0 H0 (μ ++ [⟨w.heap.size, 0, n1 + 1, some (ms.length + (Builtin.zeroCells z.cells (cp - nn)).toList.length)⟩]) (H ++ [.row C (n1 + 1) ys .own])
              (w.drew.alloc (.cells (ms.toArray ++ Builtin.zeroCells z.cells (cp - nn)) e)) := by
          intro C ys ms nn cp hy hms hml hcp
          have h1 := (inv.hr.later (w' := w.drew) (fun _ _ => rfl) (Nat.le_refl _)).freshRow hy hms (Builtin.zeroCells z.cells (cp - nn)).toList e
          have harr : (⟨ms ++ (Builtin.zeroCells z.cells (cp - nn)).toList⟩ : Array Value) = ms.toArray ++ Builtin.zeroCells z.cells (cp - nn) := by
            apply Array.toList_inj.1; simp
          rw [harr] at h1
          refine ⟨?_, inv.snoc h1 (below_drewAlloc inv.below.size _) inv.below.size⟩
          have hl : (μ ++ [(⟨w.heap.size, 0, n1 + 1, some (ms.length + (Builtin.zeroCells z.cells (cp - nn)).toList.length)⟩ : Place)])[H.length]? = some ⟨w.heap.size, 0, n1 + 1, some (ms.length + (Builtin.zeroCells z.cells (cp - nn)).toList.length)⟩ := by
            rw [← inv.hr.len]; simp
          have := VR.slice (i := 0) (n := nn) (c := nn) (c' := cp) hl hcp (fun L hL => by
            simp only [Option.some.injEq] at hL
            have hz2 : (Builtin.zeroCells z.cells (cp - nn)).toList.length = (cp - nn) * (n1 + 1) := by rw [Array.length_toList, size_zeroCells, hzl]
            rw [hz2, hml, ← Nat.add_mul, show nn + (cp - nn) = cp by omega] at hL
            rw [← hL, Nat.zero_add]
            exact Nat.le_refl _)
          simpa [Place.at] using this
        split at h
        · -- to nothing
          cases hs
          cases hm0 : Nat.beq m 0 with
          | true =>
            rw [hm0] at h
            obtain rfl := Nat.eq_of_beq_eq_true hm0
            exact ⟨_, _, run_append_nil0 w t t0 e i2 ht hi a cc, hR _ _ μ H w .nils inv (fun _ _ h => h) h⟩
          | false =>
            rw [hm0] at h
            simp only [bcase] at h
            have hmpos : 0 < m := by
              rcases Nat.eq_zero_or_pos m with h0 | h0
              · subst h0; cases hm0
              · exact h0
            cases hc2 : (Nat.ble (m * (by1 + 1)) 140737488355328 && okAll (codecOf P e) C2 ((l2.drop j0).take m)) with
            | false => rw [hc2] at h; exact h.elim
            | true =>
              rw [hc2] at h
              simp only [Bool.and_eq_true, Nat.ble_eq] at hc2
              have hsmall : m ≤ 140737488355328 := Nat.le_trans (Nat.le_mul_of_pos_right m (Nat.succ_pos by1)) hc2.1
              have hrun := run_append_nil (P := P) w t t0 e i2 z ht hi hiz a m cc ns (by rw [his]; exact hnl) hcell hmpos (by omega) (by rw [hbyte]; omega)
              obtain ⟨k1, k2⟩ := fresh (C := codecOf P e) (ys := asC (codecOf P e) C2 ((l2.drop j0).take m)) (ms := ns) (nn := m) (cp := grownCap w m 0 e)
                (as_lens hc2.2 lens2) (by rw [flat_as hc2.2]; exact hv) hnl (hcap m 0)
              exact ⟨_, _, hrun, hR _ _ _ _ _ k1 k2 (mu_snoc _ _) h⟩
        · -- to a row
          rename_i b i0 n cq
          split at h
          · rename_i C esz l hg
            cases hc2 : ((Nat.beq esz (n1 + 1) && Nat.beq (i0 + n) l.length) && (Nat.ble ((n + m) * (by1 + 1)) 140737488355328 && okAll C C2 ((l2.drop j0).take m))) with
            | false => rw [hc2] at h; exact h.elim
            | true =>
              rw [hc2] at h
              simp only [Bool.and_eq_true, Nat.ble_eq] at hc2
              obtain ⟨⟨q1, q2⟩, q3, q4⟩ := hc2
              obtain rfl := Nat.eq_of_beq_eq_true q1
              have hfull := Nat.eq_of_beq_eq_true q2
              have hsmall : n + m ≤ 140737488355328 := Nat.le_trans (Nat.le_mul_of_pos_right (n + m) (Nat.succ_pos by1)) q3
              have hge : H0.length ≤ b := by
                rcases Nat.lt_or_ge b H0.length with hlt | hge
                · exfalso
                  rw [inv.oldH b hlt] at hg
                  rcases hro b with ⟨C', e', l', h', _⟩ | h' <;> rw [h'] at hg <;> cases hg
                · exact hge
              obtain ⟨p, hp, r⟩ := inv.hr.row _ _ _ _ _ hg
              obtain ⟨L, hL, hlen, hcl⟩ := r.own rfl
              have hbl : b < H.length := by rw [← inv.hr.len]; exact mu_lt hp
              have hys : ∀ y ∈ asC C C2 ((l2.drop j0).take m), (C.enc y).length = n1 + 1 := as_lens q4 lens2
              have hfl : VRs μ (flat C (asC C C2 ((l2.drop j0).take m))) ns := by rw [flat_as q4]; exact hv
              have hone : ∀ v ∈ ns, v.oneCell' = true := hv.ones (okAll_cells q4)
              have hst := inv.hr.stale hg
              -- with the old row aside
              have invs : Inv w0 μ0 H0 μ (hset H b (.row C (n1 + 1) l .stale)) w := inv.step hst (Below.refl _ _) (by rw [hset_len]; exact Nat.le_refl _) (fun _ _ => rfl)
                (fun b' hb' => hget_set_ne (by omega)) (fun b' p' _ hp' => .inl hp')
              -- a new array for all
              have grown : ∀ (B : Addr) (c' : Nat) (os : List Value), s' = .slice (some B) n c' → c' < n + m → VRs μ (flat C (l.drop i0)) os → os.length = n * (n1 + 1) → (∀ j u, os[j]? = some u → w.cell? (B.add j) = some u) →
                  ∃ v' w', (Builtin.append_ #[t, t] t0 #[s', .slice (some a) m cc]).run P w = .ok v' w' ∧ R v' w' := by
                intro B c' os hs' hc' hos hol hoc
                subst hs'
                have hrun := run_append_grow (P := P) w t t0 e i2 z ht hi hiz B n c' os (by rw [his]; exact hol) hoc a m cc ns (by rw [his]; exact hnl) hcell hc' (by omega) (by rw [hbyte]; exact growslice_fits hc' q3)
                have hall : VRs μ (flat C (l.drop i0 ++ asC C C2 ((l2.drop j0).take m))) (os ++ ns) := by
                  have : ∀ (x y : List C.α), flat C (x ++ y) = flat C x ++ flat C y := by
                    intro x y
                    induction x with
                    | nil => rfl
                    | cons z x ih => simp [flat, ih]
                  rw [this]
                  exact hos.append hfl
                have hlens : ∀ y ∈ l.drop i0 ++ asC C C2 ((l2.drop j0).take m), (C.enc y).length = n1 + 1 := fun y hy => by
                  rcases List.mem_append.1 hy with hy | hy
                  · exact r.lens y (List.mem_of_mem_drop hy)
                  · exact hys y hy
                have hfr := (hst.later (w' := w.drew) (fun _ _ => rfl) (Nat.le_refl _)).freshRow hlens hall (Builtin.zeroCells z.cells (grownCap w (n + m) c' e - (n + m))).toList e
                have harr : (⟨os ++ ns ++ (Builtin.zeroCells z.cells (grownCap w (n + m) c' e - (n + m))).toList⟩ : Array Value) = os.toArray ++ ns.toArray ++ Builtin.zeroCells z.cells (grownCap w (n + m) c' e - (n + m)) := by
                  apply Array.toList_inj.1; simp
                rw [harr] at hfr
                refine ⟨_, _, hrun, hR _ _ _ _ _ ?_ (invs.snoc hfr (below_drewAlloc inv.below.size _) inv.below.size) (mu_snoc _ _) h⟩
                have hl : (μ ++ [(⟨w.heap.size, 0, n1 + 1, some ((os ++ ns).length + (Builtin.zeroCells z.cells (grownCap w (n + m) c' e - (n + m))).toList.length)⟩ : Place)])[H.length]? = some ⟨w.heap.size, 0, n1 + 1, some ((os ++ ns).length + (Builtin.zeroCells z.cells (grownCap w (n + m) c' e - (n + m))).toList.length)⟩ := by
                  rw [← inv.hr.len]; simp
                have := VR.slice (i := 0) (n := n + m) (c := n + m) (c' := grownCap w (n + m) c' e) hl (hcap _ _) (fun L' hL' => by
                  simp only [Option.some.injEq] at hL'
                  have hg' := hcap (n + m) c'
                  have hz2 : (Builtin.zeroCells z.cells (grownCap w (n + m) c' e - (n + m))).toList.length = (grownCap w (n + m) c' e - (n + m)) * (n1 + 1) := by rw [Array.length_toList, size_zeroCells, hzl]
                  rw [hz2, List.length_append, hol, hnl, ← Nat.add_mul, ← Nat.add_mul, show n + m + (grownCap w (n + m) c' e - (n + m)) = grownCap w (n + m) c' e by omega] at hL'
                  rw [← hL', Nat.zero_add]
                  exact Nat.le_refl _)
                simpa [Place.at] using this
              cases hs with
              | slice hpb hle hlim =>
                rename_i c' pb
                obtain rfl : pb = p := Option.some.inj (hpb.symm.trans hp)
                rcases Nat.lt_or_ge c' (n + m) with hlt | hroom
                · obtain ⟨os, o1, o2, o3⟩ := row_cells r n i0 (by omega)
                  have hto : (l.drop i0).take n = l.drop i0 := List.take_of_length_le (by simp; omega)
                  rw [hto] at o1
                  exact grown _ c' os rfl hlt o1 o2 o3
                · have hroomL : (l.length + (asC C C2 ((l2.drop j0).take m)).length) * (n1 + 1) ≤ L := by
                    rw [as_len, hm, ← hfull]
                    have := hlim L hL
                    rw [r.pe] at this
                    exact Nat.le_trans (Nat.mul_le_mul_right _ (by omega)) this
                  obtain ⟨g1, g2⟩ := inv.hr.grow (P := P) hg hp hL (i0 := i0) (by omega) hys hfl hone hroomL
                  have hadr : (pb.at i0 0).add (n * i2.size) = ⟨pb.blk, pb.base + l.length * (n1 + 1), none⟩ := by
                    rw [at_add, his, ← hfull]
                    unfold Place.at
                    rw [r.pe, Nat.add_mul]
                    simp [Nat.add_assoc]
                  have hrun := run_append_in (P := P) w t t0 e i2 ht hi (pb.at i0 0) a n c' m cc ns (by rw [his]; exact hnl) hcell hroom (by rw [hadr]; exact g1)
                  have hinv : Inv w0 μ0 H0 (μ ++ [⟨pb.blk, pb.base + i0 * (n1 + 1), n1 + 1, some (L - i0 * (n1 + 1))⟩]) (hset H b (.row C (n1 + 1) l .stale) ++ [.row C (n1 + 1) (l.drop i0 ++ asC C C2 ((l2.drop j0).take m)) .own]) (w.setCells pb.blk (pb.base + l.length * (n1 + 1)) ns) := by
                    have hbe := inv.fresh b pb hge hp
                    refine invs.snoc g2 (below_setCells' hbe _ _ _) hbe
                  refine ⟨_, _, hrun, hR _ _ _ _ _ ?_ hinv (mu_snoc _ _) h⟩
                  have hl : (μ ++ [(⟨pb.blk, pb.base + i0 * (n1 + 1), n1 + 1, some (L - i0 * (n1 + 1))⟩ : Place)])[H.length]? = some ⟨pb.blk, pb.base + i0 * (n1 + 1), n1 + 1, some (L - i0 * (n1 + 1))⟩ := by
                    rw [← inv.hr.len]; simp
                  have := VR.slice (i := 0) (n := n + m) (c := n + m) (c' := c') hl hroom (fun L' hL' => by
                    simp only [Option.some.injEq] at hL'
                    subst hL'
                    have := hlim L hL
                    rw [r.pe, Nat.add_mul] at this
                    rw [Nat.zero_add]
                    exact Nat.le_sub_of_add_le (by rw [Nat.add_comm]; exact this))
                  have hat : pb.at i0 0 = ⟨pb.blk, pb.base + i0 * (n1 + 1), none⟩ := by unfold Place.at; rw [r.pe]; simp
                  rw [hat]
                  simpa [Place.at] using this
              | slice0 B =>
                rcases Nat.eq_zero_or_pos m with hm0 | hmpos
                · subst hm0
                  -- nothing to nothing: the row is as it was
                  have hns : ns = [] := List.eq_nil_of_length_eq_zero (by simpa using hnl)
                  subst hns
                  have hroomL : (l.length + (asC C C2 ((l2.drop j0).take 0)).length) * (n1 + 1) ≤ L := by
                    rw [as_len]; simpa using hlen
                  obtain ⟨g1, g2⟩ := inv.hr.grow (P := P) hg hp hL (i0 := i0) (by omega) hys hfl hone hroomL
                  have hrun := run_append_in (P := P) w t t0 e i2 ht hi B a 0 0 0 cc [] (by simp) (fun j u h => by simp at h) (Nat.le_refl _) (w' := w) rfl
                  have hinv : Inv w0 μ0 H0 (μ ++ [⟨p.blk, p.base + i0 * (n1 + 1), n1 + 1, some (L - i0 * (n1 + 1))⟩]) (hset H b (.row C (n1 + 1) l .stale) ++ [.row C (n1 + 1) (l.drop i0 ++ asC C C2 ((l2.drop j0).take 0)) .own]) w :=
                    invs.snoc g2 (Below.refl _ _) (inv.fresh b p hge hp)
                  exact ⟨_, _, hrun, hR _ _ _ _ _ (.slice0 B) hinv (mu_snoc _ _) h⟩
                · refine grown B 0 [] rfl (by omega) ?_ (by simp) (fun j u h => by simp at h)
                  rw [List.drop_eq_nil_of_le (by omega)]
                  exact .nil
          · exact h.elim
        · exact h.elim
    · exact h.elim
  · exact h.elim

theorem partsV_sound {μ : Mu} {ρ ρ' : Operand → Value} {n : Nat} (hρ : ∀ x, VR μ (ρ x) (ρ' x)) : ∀ (ps : List (Nat × Operand)) (k : Nat) (cl : List (List Value)), partsV ρ n k ps = some cl →
    (∀ y ∈ cl, (raw.enc y).length = n) ∧ ∀ (pre rest : List Value), pre.length = k * n → rest.length = cl.length * n →
      ∃ ns, VRs μ (flat raw cl) ns ∧ Instr.fill (fun i => some (i * n, n)) ⟨pre ++ rest⟩ (ps.map fun (i, x) => (i, ρ' x)) = some ⟨pre ++ ns⟩
  | [], k, cl, h => by
    obtain rfl := Option.some.inj h
    refine ⟨fun y hy => by simp at hy, fun pre rest _ hr => ⟨[], .nil, ?_⟩⟩
    have : rest = [] := List.eq_nil_of_length_eq_zero (by simpa using hr)
    rw [this]
    rfl
  | (i, x) :: ps, k, cl, h => by
    simp only [partsV] at h
    split at h
    · rename_i cs l hcs hl
      cases hb : (Nat.beq i k && Nat.beq cs.length n) with
      | false => rw [hb] at h; cases h
      | true =>
        rw [hb] at h
        obtain rfl := Option.some.inj h
        simp only [Bool.and_eq_true] at hb
        obtain rfl := Nat.eq_of_beq_eq_true hb.1
        have hn := Nat.eq_of_beq_eq_true hb.2
        obtain ⟨k1, k2⟩ := partsV_sound hρ ps (i + 1) l hl
        have hv := cellsOf_sound (hρ x) hcs
        have hvl : (ρ' x).cells.toList.length = n := by rw [hv.length, hn]
        have hsz : (ρ' x).cells.size = n := by rw [← Array.length_toList]; exact hvl
        refine ⟨fun y hy => ?_, fun pre rest hpre hrest => ?_⟩
        · rcases List.mem_cons.1 hy with rfl | hy
          · exact hn
          · exact k1 y hy
        · rw [List.length_cons, Nat.succ_mul] at hrest
          obtain ⟨ns, m1, m2⟩ := k2 (pre ++ (ρ' x).cells.toList) (rest.drop n) (by rw [List.length_append, hpre, hvl, Nat.succ_mul]) (by rw [List.length_drop, hrest]; omega)
          refine ⟨(ρ' x).cells.toList ++ ns, hv.append m1, ?_⟩
          have hf := fold_set (i * n) (ρ' x).cells.toList 0 (pre ++ rest) (by rw [List.length_append, hpre, hrest, hvl]; omega)
          simp only [Nat.add_zero] at hf
          have hf2 : ((ρ' x).cells.zipIdx.foldl (fun cs (x : Value × Nat) => cs.setIfInBounds (i * n + x.2) x.1) (⟨pre ++ rest⟩ : Array Value)) = ⟨PM.splice (pre ++ rest) (i * n) (ρ' x).cells.toList⟩ := by
            rw [← hf, ← Array.foldl_toList, Array.toList_zipIdx]
          have hsp : PM.splice (pre ++ rest) (i * n) (ρ' x).cells.toList = (pre ++ (ρ' x).cells.toList) ++ rest.drop n := by
            unfold PM.splice
            rw [hvl, List.take_append_of_le_length (by omega), List.take_of_length_le (by omega), List.drop_append, List.drop_eq_nil_of_le (by omega), hpre, show i * n + n - i * n = n by omega]
            simp
          have hcond : ¬ ((ρ' x).cells.size ≠ n ∨ i * n + (ρ' x).cells.size > (⟨pre ++ rest⟩ : Array Value).size) := by
            rw [hsz]
            have : (⟨pre ++ rest⟩ : Array Value).size = i * n + (l.length * n + n) := by
              show (pre ++ rest).length = _
              rw [List.length_append, hpre, hrest]
            rw [this]
            omega
          simp only [List.map_cons, Instr.fill]
          rw [if_neg (by simpa using hcond), hf2, hsp, m2]
          simp
    · cases h

def Keeps (H H' : VH) : Prop := H.length ≤ H'.length ∧ ∀ b, b < H.length → hget H' b = hget H b
theorem Keeps.refl (H : VH) : Keeps H H := ⟨Nat.le_refl _, fun _ _ => rfl⟩
theorem Keeps.trans {A B C : VH} (h : Keeps A B) (k : Keeps B C) : Keeps A C := ⟨Nat.le_trans h.1 k.1, fun b hb => by rw [k.2 b (Nat.lt_of_lt_of_le hb h.1), h.2 b hb]⟩
theorem Keeps.snoc (H : VH) (X : VB) : Keeps H (H ++ [X]) := ⟨by simp, fun b hb => hget_append_lt hb⟩

/-- A variable that has been made. -/
theorem new_sound {μ : Mu} {H : VH} {w : World} {t : TypeId} {zs zs' : List Value} {K : Value → VH → Prop} (inv : Inv w0 μ0 H0 μ H w) (hz : VRs μ zs zs') (T : TypeId) (h : newP P t zs H K) :
    ∃ v μ' H', VR μ' v (.pointer (some ⟨w.heap.size, 0, none⟩)) ∧ Inv w0 μ0 H0 μ' H' { w with heap := w.heap.push (.cells ⟨zs'⟩ T (0, 0)) } ∧ Mu.le μ μ' ∧ Keeps H H' ∧ K v H' := by
  have hl : (μ ++ [(⟨w.heap.size, 0, zs.length, some zs.length⟩ : Place)])[H.length]? = some ⟨w.heap.size, 0, zs.length, some zs.length⟩ := by
    rw [← inv.hr.len]; simp
  have hp := VR.ptr (i := 0) (j := 0) hl
  unfold newP at h
  split at h
  · rename_i k _
    cases ha : allI k zs with
    | false => rw [ha] at h; exact h.elim
    | true =>
      rw [ha] at h
      have hfr := inv.hr.freshRow (C := arrC k) (esz := zs.length) (ys := [decI zs]) (ns' := zs') (by
        intro y hy
        rw [List.mem_singleton.1 hy]
        show ((decI zs).map (Value.int k)).length = _
        rw [enc_decI ha]) (by
        show VRs μ ((decI zs).map (Value.int k) ++ []) zs'
        rw [enc_decI ha, List.append_nil]
        exact hz) [] T
      simp only [List.append_nil, List.length_nil, Nat.add_zero, hz.length] at hfr
      exact ⟨_, _, _, by simpa [Place.at] using hp, inv.snoc hfr (Below.alloc' inv.below.size _) inv.below.size, mu_snoc _ _, Keeps.snoc _ _, h⟩
  · split at h
    · cases ha : allStr zs with
      | false => rw [ha] at h; exact h.elim
      | true =>
        rw [ha] at h
        have hfr := inv.hr.freshRow (C := strsC) (esz := zs.length) (ys := [decStr zs]) (ns' := zs') (by
          intro y hy
          rw [List.mem_singleton.1 hy]
          show ((decStr zs).map Value.string).length = _
          rw [enc_decStr ha]) (by
          show VRs μ ((decStr zs).map Value.string ++ []) zs'
          rw [enc_decStr ha, List.append_nil]
          exact hz) [] T
        simp only [List.append_nil, List.length_nil, Nat.add_zero, hz.length] at hfr
        exact ⟨_, _, _, by simpa [Place.at] using hp, inv.snoc hfr (Below.alloc' inv.below.size _) inv.below.size, mu_snoc _ _, Keeps.snoc _ _, h⟩
    · exact ⟨_, _, _, by simpa [Place.at] using hp, inv.fresh' hz T, mu_snoc _ _, Keeps.snoc _ _, h⟩

theorem opE_default {μ : Mu} {H : VH} {w : World} (o : Oper) {a : Act} {ρ : Operand → Value} {K : Value → VH → Prop} {next : Act → World → Prop} {Q : Exit → Act → World → Prop}
    (inv : Inv w0 μ0 H0 μ H w) (hρ : ∀ x, VR μ (ρ x) (a.eval x))
    (h : match opV P ρ H o.op with | some (c, v) => need c (K v H) | none => False)
    (hnext : ∀ v v' μ' H' w', VR μ' v v' → Inv w0 μ0 H0 μ' H' w' → Mu.le μ μ' → K v H' → next (a.put o.dst v') w') : o.wp P a w next Q := by
  split at h
  · rename_i c v hv
    cases c with
    | false => exact h.elim
    | true =>
      obtain ⟨v', h1, h2⟩ := opV_sound o inv.hr hρ hv rfl (.inr inv.wd)
      unfold Oper.wp
      rw [h1, Oper.upon_value]
      exact hnext v v' μ H w h2 inv (fun _ _ h => h) h
  · exact h.elim

theorem opE_sound (hc : CallOk P call) (hro : Ro H0) {μ : Mu} {H : VH} {w : World} (o : Oper) {a : Act} {ρ : Operand → Value} {K : Value → VH → Prop} {next : Act → World → Prop} {Q : Exit → Act → World → Prop}
    (inv : Inv w0 μ0 H0 μ H w) (hρ : ∀ x, VR μ (ρ x) (a.eval x)) (h : opE P call ρ H K o.op)
    (hnext : ∀ v v' μ' H' w', VR μ' v v' → Inv w0 μ0 H0 μ' H' w' → Mu.le μ μ' → K v H' → next (a.put o.dst v') w') : o.wp P a w next Q := by
  have dflt := opE_default (P := P) (Q := Q) o inv hρ (K := K) (next := next)
  obtain ⟨dst, op, type, pos, after, guard⟩ := o
  simp only at h dflt hnext
  cases op
  case alloc t =>
    simp only [opE] at h
    split at h
    · rename_i zs hz
      unfold zeroCells at hz
      split at hz
      · rename_i i hi
        split at hz
        · rename_i z hzz
          cases hp : plainL z.cells.toList with
          | false => rw [hp] at hz; cases hz
          | true =>
            rw [hp] at hz
            obtain rfl := Option.some.inj hz
            have hrun : (execOp a.eval ⟨dst, .alloc t, type, pos, after, guard⟩).run P w = .ok (.value (.pointer (some ⟨w.heap.size, 0, none⟩))) { w with heap := w.heap.push (.cells z.cells t (0, 0)) } := by
              simp [execOp, Instr.alloc, zeroValue, run_typeInfo w hi, hzz, newVar, newRow]
            unfold Oper.wp
            rw [hrun, Oper.upon_value]
            obtain ⟨v, μ', H', k1, k2, k3, _, k5⟩ := new_sound inv (VRs.plain hp) t h
            exact hnext _ _ _ _ _ k1 k2 k3 k5
        · cases hz
      · cases hz
    · exact h.elim
  case box t x =>
    simp only [opE] at h
    split at h
    · rename_i zs hz
      have hv := cellsOf_sound (hρ x) hz
      have hrun : (execOp a.eval ⟨dst, .box t x, type, pos, after, guard⟩).run P w = .ok (.value (.pointer (some ⟨w.heap.size, 0, none⟩))) { w with heap := w.heap.push (.cells (a.eval x).cells t (0, 0)) } := by
        simp [execOp, Instr.box, newVar, newRow]
      unfold Oper.wp
      rw [hrun, Oper.upon_value]
      obtain ⟨v, μ', H', k1, k2, k3, _, k5⟩ := new_sound inv hv t h
      exact hnext _ _ _ _ _ k1 k2 k3 k5
    · exact h.elim
  case store t ad x =>
    simp only [opE] at h
    split at h
    · rename_i c H' hs
      unfold storeG at hs
      split at hs
      · rename_i b i j ha
        split at hs
        · rename_i C esz l m hg hm
          split at hs
          · rename_i cs hcs
            cases hlen : Nat.beq cs.length m with
            | false => rw [hlen] at hs; cases hs
            | true =>
              rw [hlen] at hs
              simp only [cond_true] at hs
              obtain rfl := Nat.eq_of_beq_eq_true hlen
              split at hs
              · rename_i y hy
                obtain ⟨rfl, rfl⟩ := Prod.mk.inj (Option.some.inj hs)
                cases hcond : (decide (i < l.length) && Nat.ble (j + cs.length) esz) with
                | false => rw [hcond] at h; exact h.elim
                | true =>
                  rw [hcond] at h
                  simp only [Bool.and_eq_true, decide_eq_true_eq, Nat.ble_eq] at hcond
                  have hpa := hρ ad
                  rw [ha] at hpa
                  generalize hq : a.eval ad = q at hpa
                  cases hpa with
                  | ptr hp =>
                    rename_i p
                    have hv := cellsOf_sound (hρ x) hcs
                    obtain ⟨p', hp', r⟩ := inv.hr.row _ _ _ _ _ hg
                    obtain rfl : p' = p := Option.some.inj (hp'.symm.trans hp)
                    obtain ⟨e1, e2⟩ := inv.hr.store (P := P) hg hp hcond.1 hcond.2 hy hv
                    have hsz : (a.eval x).cells.size = cs.length := by rw [← Array.length_toList]; exact hv.length
                    have hrun : (execOp a.eval ⟨dst, .store t ad x, type, pos, after, guard⟩).run P w = .ok .skip (w.setCells p'.blk (p'.base + i * esz + j) (a.eval x).cells.toList) := by
                      simp [execOp, hq, Instr.storeAt, Instr.sureAddr, storeVar, run_size hm, hsz, e1]
                    unfold Oper.wp
                    rw [hrun, Oper.upon_skip]
                    have hge : H0.length ≤ b := by
                      rcases Nat.lt_or_ge b H0.length with hlt | hge
                      · exfalso
                        rw [inv.oldH b hlt] at hg
                        rcases hro b with ⟨C', e', l', h', _⟩ | h' <;> rw [h'] at hg <;> cases hg
                      · exact hge
                    refine hnext undef undef μ _ _ (.tuple .nil) ⟨inv.gl, e2, below_setCells (inv.fresh b p' hge hp) _ _ _ inv.below, ?_, inv.oldμ, ?_, inv.fresh⟩ (fun _ _ h => h) h
                    · simp [hset_len]; exact inv.n0
                    · intro b' hb'
                      rw [hget_map _ rfl, hget_set_ne (by omega), inv.oldH b' hb']
                      rcases hro b' with ⟨C', e', l', h', _⟩ | h' <;> rw [h'] <;> rfl
              · cases hs
          · cases hs
        · cases hs
      · cases hs
    · exact h.elim
  case call c =>
    obtain ⟨callee, args, argTypes⟩ := c
    cases callee
    case value f =>
      simp only [opE] at h
      split at h
      · rename_i id first captured hf
        obtain ⟨⟨fn, cd, h1, h2, h3⟩, hm⟩ := hc _ _ _ _ h
        have hfr := hρ f
        rw [hf] at hfr
        generalize hq : a.eval f = q at hfr
        cases hfr with
        | func hl1 hl2 =>
          rename_i l1 m1 l1' m1'
          have hargs : VRs μ (args.toList.map ρ) (args.toList.map a.eval) := VRs.map ρ a.eval hρ _
          have hrun : (execOp a.eval ⟨dst, .call { callee := .value f, args, argTypes }, type, pos, after, guard⟩).run P w = .ok (.enter id ⟨l1' ++ (args.toList.map a.eval ++ m1')⟩) w := by
            simp only [execOp, resolve, hq, Deferred.ofValue, Sem.run_bind, Sem.run_pure, Result.andThen_ok, invoke, callFunc, run_program, h1, h2, h3, Bool.false_eq_true, if_false, Option.isNone_some]
            congr 2
            apply Array.toList_inj.1
            simp
          unfold Oper.wp
          rw [hrun, Oper.upon_enter]
          refine (hm μ w _ inv.wd inv.hr (hl1.append (hargs.append hl2))).mono ?_
          rintro e w' ⟨r, r', μ', H', rfl, k1, k2, k3, k4, k5, k6, k7, k8⟩
          refine hnext r r' μ' H' w' k1 ⟨inv.gl, k2, inv.below.trans (k7.mono inv.below.size), Nat.le_trans inv.n0 k4, ?_, ?_, ?_⟩ k3 k8
          · intro b hb
            rw [← inv.oldμ b hb]
            have hbl : b < μ.length := by rw [inv.hr.len]; exact Nat.lt_of_lt_of_le hb inv.n0
            rw [List.getElem?_eq_getElem hbl]
            exact k3 b _ (List.getElem?_eq_getElem hbl)
          · intro b hb
            rw [k5 b (Nat.lt_of_lt_of_le hb inv.n0)]
            exact inv.oldH b hb
          · intro b p hb hp
            rcases Nat.lt_or_ge b H.length with hlt | hge
            · have hbl : b < μ.length := by rw [inv.hr.len]; exact hlt
              have := k3 b _ (List.getElem?_eq_getElem hbl)
              rw [hp] at this
              exact inv.fresh b p hb (by rw [List.getElem?_eq_getElem hbl, this])
            · exact Nat.le_trans inv.below.size (k6 b p hge hp)
      · exact h.elim
    case invoke r m => exact dflt h hnext
    case builtin b =>
      cases b
      case append =>
        simp only [opE] at h
        split at h
        · rename_i s x t t' ha hat
          obtain rfl : args = #[s, x] := by apply Array.toList_inj.1; simpa using ha
          obtain rfl : argTypes = #[t, t'] := by apply Array.toList_inj.1; simpa using hat
          cases htt : Nat.beq t t' with
          | false => rw [htt] at h; exact h.elim
          | true =>
            rw [htt] at h
            simp only [cond_true] at h
            obtain rfl := Nat.eq_of_beq_eq_true htt
            split at h
            · rename_i b2 j0 m c hx
              have hxr := hρ x
              rw [hx] at hxr
              obtain ⟨v', w', h1, h2⟩ := append_sound (t0 := type) hro inv (hρ s) hxr h (R := fun v' w' => next (a.put dst v') w') hnext
              have hrun : (execOp a.eval ⟨dst, .call { callee := .builtin .append, args := #[s, x], argTypes := #[t, t] }, type, pos, after, guard⟩).run P w = .ok (.value v') w' := by
                simp [execOp, resolve, invoke, builtin, h1]
              unfold Oper.wp
              rw [hrun, Oper.upon_value]
              exact h2
            · exact h.elim
        · exact h.elim
      all_goals exact dflt h hnext
  case range t x =>
    simp only [opE] at h
    split at h
    · rename_i s hu hx
      have hb := hρ x
      rw [hx] at hb
      generalize hq : a.eval x = q at hb
      cases hb
      have hrun : (execOp a.eval ⟨dst, .range t x, type, pos, after, guard⟩).run P w = .ok (.value (.pointer (some ⟨w.heap.size, 0, none⟩))) { w with heap := w.heap.push (.stringIter s 0) } := by
        simp [execOp, hq, Instr.range, run_underlying hu]
      unfold Oper.wp
      rw [hrun, Oper.upon_value]
      have hinv := inv.snoc (inv.hr.snocIter s 0) (Below.alloc' inv.below.size _) inv.below.size
      refine hnext _ _ _ _ _ ?_ hinv (mu_snoc _ _) h
      have hl : (μ ++ [(⟨w.heap.size, 0, 0, some 0⟩ : Place)])[H.length]? = some ⟨w.heap.size, 0, 0, some 0⟩ := by
        rw [← inv.hr.len]; simp
      have := VR.ptr (i := 0) (j := 0) hl
      simpa [Place.at] using this
    · exact h.elim
  case next it isS =>
    cases isS with
    | false => exact dflt h hnext
    | true =>
      simp only [opE] at h
      split at h
      · rename_i b hit
        have hb := hρ it
        rw [hit] at hb
        generalize hq : a.eval it = q at hb
        cases hb with
        | ptr hp =>
          rename_i p
          split at h
          · rename_i s o hg
            obtain ⟨p', hp', k1, k2⟩ := inv.hr.iter b s o hg
            obtain rfl : p' = p := Option.some.inj (hp'.symm.trans hp)
            have hat : p'.at 0 0 = ⟨p'.blk, 0, none⟩ := by unfold Place.at; rw [k2]; simp
            have hge : H0.length ≤ b := by
              rcases Nat.lt_or_ge b H0.length with hlt | hge
              · exfalso
                rw [inv.oldH b hlt] at hg
                rcases hro b with ⟨C', e', l', h', _⟩ | h' <;> rw [h'] at hg <;> cases hg
              · exact hge
            have hlt : p'.blk < w.heap.size := by
              rcases Nat.lt_or_ge p'.blk w.heap.size with h' | h'
              · exact h'
              · rw [Array.getElem?_eq_none h'] at k1; cases k1
            cases hpos : decide (o < s.size) with
            | true =>
              rw [hpos] at h
              have hpos' := of_decide_eq_true hpos
              have hrun : (execOp a.eval ⟨dst, .next it true, type, pos, after, guard⟩).run P w = .ok (.value (.tuple ⟨[.bool true, .int .i64 o, .int .i32 (Utf8.decode s o).1]⟩)) { w with heap := w.heap.setIfInBounds p'.blk (.stringIter s (o + (Utf8.decode s o).2)) } := by
                simp only [execOp, hq, hat, Instr.next, getObj, setObj, Sem.run_bind, Sem.run, k1, Result.andThen, hpos', if_true, Sem.run_pure]
                simp [goInt, Sem.run, k1]
              unfold Oper.wp
              rw [hrun, Oper.upon_value]
              refine hnext _ _ μ _ _ (.tuple (.cons (.bool _) (.cons (.int _ _) (.cons (.int _ _) .nil)))) (inv.step (inv.hr.setIter hg hp) ?_ (by rw [hset_len]; exact Nat.le_refl _) (fun _ _ => rfl) (fun b' hb' => hget_set_ne (by omega)) (fun b' q _ hq => .inl hq)) (fun _ _ h => h) h
              have hblk := inv.fresh b p' hge hp
              exact ⟨rfl, rfl, rfl, by simp, fun k hk => Array.getElem?_setIfInBounds_ne (by omega)⟩
            | false =>
              rw [hpos] at h
              have hpos' := of_decide_eq_false hpos
              have hrun : (execOp a.eval ⟨dst, .next it true, type, pos, after, guard⟩).run P w = .ok (.value (.tuple ⟨[.bool false]⟩)) w := by
                simp only [execOp, hq, hat, Instr.next, getObj, Sem.run_bind, Sem.run, k1, Result.andThen, hpos', if_false, Sem.run_pure]
                try rfl
              unfold Oper.wp
              rw [hrun, Oper.upon_value]
              exact hnext _ _ μ H w (.tuple (.cons (.bool _) .nil)) inv (fun _ _ h => h) h
          · exact h.elim
      · exact h.elim
  case buildSlice t len parts =>
    simp only [opE] at h
    split at h
    · rename_i e hu
      split at h
      · rename_i n1 zs hsz hz
        split at h
        · rename_i cl hcl
          cases hc2 : ((Nat.beq cl.length len && Nat.ble (len * (n1 + 1)) 16777216) && (Nat.beq zs.length (n1 + 1) && okAll (codecOf P e) raw cl)) with
          | false => rw [hc2] at h; exact h.elim
          | true =>
            rw [hc2] at h
            simp only [Bool.and_eq_true, Nat.ble_eq] at hc2
            obtain ⟨⟨q1, q2⟩, q3, q4⟩ := hc2
            obtain rfl := Nat.eq_of_beq_eq_true q1
            obtain ⟨z, e1, e2⟩ := run_zero (w := w) hz
            obtain ⟨pl, hpl⟩ := partsV_sound (μ := μ) (n := n1 + 1) hρ parts.toList 0 cl hcl
            have hsz2 : (sizeOf e).run P w = .ok (n1 + 1) w := run_size hsz
            obtain ⟨ns, k1, k2⟩ := hpl [] (((Array.range (cl.length * (n1 + 1))).map (z.cells[· % z.cells.size]!)).toList) (by simp) (by simp)
            have e7 : (parts.map fun (i, x) => (i, a.eval x)).toList = parts.toList.map fun (i, x) => (i, a.eval x) := by simp
            have hns : ns.length = cl.length * (n1 + 1) := by rw [k1.length]; exact flat_len (C := raw) pl
            have hrun : (execOp a.eval ⟨dst, .buildSlice t cl.length parts, type, pos, after, guard⟩).run P w = .ok (.value (.slice (some ⟨w.heap.size, 0, none⟩) cl.length cl.length)) { w with heap := w.heap.push (.cells ⟨ns⟩ e (0, 0)) } := by
              have hlim : ¬ (cl.length * (n1 + 1) > 2 ^ 24) := by omega
              by_cases h0 : cl.length = 0
              · have hz0 : cl.length * (n1 + 1) = 0 := by rw [h0]; simp
                have k3 := k2
                simp only [h0, Nat.zero_mul] at k3
                have hlim2 : ¬ ((0 : Nat) > 2 ^ 24) := by omega
                simp only [execOp, Instr.buildSlice, Sem.run_bind, run_underlying hu, Result.andThen_ok, hsz2, hlim2, if_false, hz0, if_true, Sem.run_pure, e7]
                have : (Array.map (fun x : Nat => (#[] : Array Value)[x % (#[] : Array Value).size]!) (Array.range 0)) = ⟨[] ++ ((Array.range 0).map (z.cells[· % z.cells.size]!)).toList⟩ := by simp
                rw [this, k3]
                simp [newRow, h0]
              · have hz0 : ¬ (cl.length * (n1 + 1) = 0) := fun hh => h0 (by
                  rcases Nat.mul_eq_zero.1 hh with hh | hh
                  · exact hh
                  · cases hh)
                have e8 : (⟨[] ++ ((Array.range (cl.length * (n1 + 1))).map (z.cells[· % z.cells.size]!)).toList⟩ : Array Value) = (Array.range (cl.length * (n1 + 1))).map (z.cells[· % z.cells.size]!) := by
                  apply Array.toList_inj.1; simp
                rw [e8] at k2
                simp only [execOp, Instr.buildSlice, Sem.run_bind, run_underlying hu, Result.andThen_ok, hsz2, hlim, if_false, hz0, e1, Sem.run_pure, e7, k2]
                simp [newRow]
            unfold Oper.wp
            rw [hrun, Oper.upon_value]
            have hlens : ∀ y ∈ asC (codecOf P e) raw cl, ((codecOf P e).enc y).length = n1 + 1 := as_lens q4 pl
            have hfr := inv.hr.freshRow (C := codecOf P e) (ys := asC (codecOf P e) raw cl) hlens (by rw [flat_as q4]; exact k1) [] e
            rw [List.append_nil] at hfr
            refine hnext _ _ _ _ _ ?_ (inv.snoc hfr (Below.alloc' inv.below.size _) inv.below.size) (mu_snoc _ _) h
            have hl : (μ ++ [(⟨w.heap.size, 0, n1 + 1, some (ns.length + ([] : List Value).length)⟩ : Place)])[H.length]? = some ⟨w.heap.size, 0, n1 + 1, some (ns.length + ([] : List Value).length)⟩ := by
              rw [← inv.hr.len]; simp
            have := VR.slice (i := 0) (n := cl.length) (c := cl.length) (c' := cl.length) hl (Nat.le_refl _) (fun L hL => by
              simp only [Option.some.injEq, List.length_nil, Nat.add_zero] at hL
              rw [← hL, hns, Nat.zero_add]
              exact Nat.le_refl _)
            simpa [Place.at] using this
        · exact h.elim
      · exact h.elim
    · exact h.elim
  case makeSlice t l c =>
    simp only [opE] at h
    split at h
    · rename_i e k1 n k2 n2 hu hl hcp
      split at h
      · rename_i zs hue hsz hbt hz
        cases hc2 : (isZ8 zs && (decide (n = n2) && (decide (0 ≤ n) && decide (n ≤ 140737488355328)))) with
        | false => rw [hc2] at h; exact h.elim
        | true =>
          rw [hc2] at h
          have h : K (.slice (some ⟨H.length, 0, none⟩) n.toNat n.toNat) (H ++ [.row (intC .u8) 1 (List.replicate n.toNat 0) .own]) := h
          simp only [Bool.and_eq_true, decide_eq_true_eq] at hc2
          obtain ⟨q1, rfl, q3, q4⟩ := hc2
          obtain ⟨z, e1, e2⟩ := run_zero (w := w) hz
          have hz8 : zs = [.int .u8 0] := by
            unfold isZ8 at q1
            split at q1
            · rw [of_decide_eq_true q1]
            · cases q1
          subst hz8
          have hl2 := hρ l
          rw [hl] at hl2
          have hc3 := hρ c
          rw [hcp] at hc3
          generalize hq1 : a.eval l = u1 at hl2
          generalize hq2 : a.eval c = u2 at hc3
          cases hl2
          cases hc3
          have hw : IntKind.i64.wrap n = n := by
            unfold IntKind.wrap
            simp only [IntKind.bits, IntKind.signed]
            simp
            omega
          have hinf : ∃ i, P.info? e = some i ∧ i.bytes = 1 := by
            unfold infoB at hbt
            cases hi : P.info? e with
            | none => rw [hi] at hbt; cases hbt
            | some i => rw [hi] at hbt; exact ⟨i, rfl, Option.some.inj hbt⟩
          obtain ⟨inf, hinf, hby⟩ := hinf
          have hrow : (Array.range n.toNat).map (z.cells[· % z.cells.size]!) = ⟨List.replicate n.toNat (.int .u8 0)⟩ := by
            have hzc : z.cells = #[.int .u8 0] := by simpa using e2
            rw [hzc]
            apply Array.toList_inj.1
            apply List.ext_getElem (by simp)
            intro i h1 h2
            simp [Nat.mod_one]
          have hrun : (execOp a.eval ⟨dst, .makeSlice t l c, type, pos, after, guard⟩).run P w = .ok (.value (.slice (some ⟨w.heap.size, 0, none⟩) n.toNat n.toNat)) { w with heap := w.heap.push (.cells ⟨List.replicate n.toNat (.int .u8 0)⟩ e (0, 0)) } := by
            have h1 : ¬ (n < 0) := by omega
            have h2 : ¬ ((281474976710656 : Int) < n) := by omega
            by_cases h0 : n.toNat = 0
            · have hn : n = 0 := by omega
              have hw0 : IntKind.i64.wrap 0 = 0 := by rw [hn] at hw; exact hw
              simp [execOp, Instr.makeSlice, hq1, hq2, run_underlying hu, asInt, asIntOf, run_typeInfo w hinf, hby, hn, hw0, run_size hsz, newRow]
              rw [show (Array.map (fun x : Nat => (default : Value)) (Array.range 0)) = ⟨[]⟩ from by apply Array.toList_inj.1; simp]
            · have hn : n ≠ 0 := by omega
              have hle : ¬ (n ≤ 0) := by omega
              simp [execOp, Instr.makeSlice, hq1, hq2, run_underlying hu, asInt, asIntOf, run_typeInfo w hinf, hby, hw, run_size hsz, h1, h2, h0, hn, hle, e1, hrow, newRow]
          unfold Oper.wp
          rw [hrun, Oper.upon_value]
          have hlens : ∀ y ∈ List.replicate n.toNat (0 : Int), ((intC .u8).enc y).length = 1 := fun y _ => rfl
          have hfl : flat (intC .u8) (List.replicate n.toNat (0 : Int)) = List.replicate n.toNat (.int .u8 0) := by
            generalize n.toNat = m
            induction m with
            | zero => rfl
            | succ m ih => show [Value.int .u8 0] ++ flat (intC .u8) (List.replicate m 0) = _; rw [ih]; rfl
          have hvr : VRs μ (List.replicate n.toNat (Value.int .u8 0)) (List.replicate n.toNat (Value.int .u8 0)) := by
            generalize n.toNat = m
            induction m with
            | zero => exact .nil
            | succ m ih => exact .cons (.int _ _) ih
          have hfr := inv.hr.freshRow (C := intC .u8) (esz := 1) (ys := List.replicate n.toNat (0 : Int)) hlens (by rw [hfl]; exact hvr) [] e
          rw [List.append_nil] at hfr
          refine hnext _ _ _ _ _ ?_ (inv.snoc hfr (Below.alloc' inv.below.size _) inv.below.size) (mu_snoc _ _) h
          have hl : (μ ++ [(⟨w.heap.size, 0, 1, some ((List.replicate n.toNat (Value.int .u8 0)).length + ([] : List Value).length)⟩ : Place)])[H.length]? = some ⟨w.heap.size, 0, 1, some ((List.replicate n.toNat (Value.int .u8 0)).length + ([] : List Value).length)⟩ := by
            rw [← inv.hr.len]; simp
          have := VR.slice (i := 0) (n := n.toNat) (c := n.toNat) (c' := n.toNat) hl (Nat.le_refl _) (fun L hL => by
            simp only [Option.some.injEq, List.length_nil, Nat.add_zero, List.length_replicate] at hL
            show (0 + n.toNat) * 1 ≤ L
            omega)
          simpa [Place.at] using this
      · exact h.elim
    · exact h.elim
  all_goals exact dflt h hnext

/-- Every temporary that is written is one of the frame's. -/
def wfOps (n : Nat) : List Oper → Bool
  | [] => true
  | o :: r => (match o.dst with | some d => Nat.blt d n | none => true) && wfOps n r

theorem wfOps_cons {o : Oper} {r : List Oper} (h : wfOps n (o :: r) = true) : (∀ d, o.dst = some d → d < n) ∧ wfOps n r = true := by
  simp only [wfOps, Bool.and_eq_true] at h
  refine ⟨fun d hd => ?_, h.2⟩
  have := h.1
  rw [hd] at this
  exact Nat.le_of_ble_eq_true this

theorem lk_bool {μ : Mu} {fr : Fr} {H : VH} {a : Act} {w : World} (h : SR w0 μ0 H0 n μ fr H a w) {t : Nat} {b : Bool} (hl : lk fr t = .bool b) : a.tmps.getD t undef = .bool b := by
  have := h.fr t
  rw [hl] at this
  generalize a.tmps.getD t undef = q at this
  cases this
  rfl

theorem getD_some {xs : Array Value} {t : Nat} {v : Value} (h : xs.getD t undef = v) (hv : v ≠ undef) : xs[t]? = some v := by
  rw [Array.getD_eq_getD_getElem?] at h
  cases hx : xs[t]? with
  | none => rw [hx] at h; exact absurd h.symm hv
  | some u => rw [hx] at h; simpa using h

theorem dstOf_some {ops : Array Oper} {j t : Nat} (h : dstOf ops.toList j = some t) : (ops[j]?).bind (·.dst) = some t := by
  unfold dstOf at h
  split at h
  · rename_i o r hd
    have : ops.toList[j]? = some o := by
      have := congrArg (·[0]?) hd
      simpa using this
    rw [Array.getElem?_toList] at this
    rw [this]
    exact h
  · cases h

theorem wanted_none {o : Oper} (ops : Array Oper) (a : Act) (h : o.guard = none) : Region.wanted o (yielded ops a.tmps) = true := by
  simp [Region.wanted, h]

theorem wanted_bool {μ : Mu} {fr : Fr} {H : VH} {a : Act} {w : World} (h : SR w0 μ0 H0 n μ fr H a w) {o : Oper} {ops : Array Oper} {j t : Nat} {want b : Bool} (hg : o.guard = some (j, want))
    (hd : dstOf ops.toList j = some t) (hl : lk fr t = .bool b) : Region.wanted o (yielded ops a.tmps) = (b == want) := by
  have h1 := getD_some (lk_bool h hl) (by intro hh; cases hh)
  simp [Region.wanted, hg, yielded, dstOf_some hd, h1]

theorem wanted_undef {μ : Mu} {fr : Fr} {H : VH} {a : Act} {w : World} (h : SR w0 μ0 H0 n μ fr H a w) {o : Oper} {ops : Array Oper} {j t : Nat} {want : Bool} (hg : o.guard = some (j, want))
    (hd : dstOf ops.toList j = some t) (hl : lk fr t = .tuple ⟨[]⟩) : Region.wanted o (yielded ops a.tmps) = false := by
  have h1 := h.fr t
  rw [hl] at h1
  have h2 : a.tmps.getD t undef = undef := by
    generalize a.tmps.getD t undef = q at h1
    cases h1 with
    | tuple hv => cases hv; rfl
  have h3 : ∀ b, a.tmps[t]? ≠ some (.bool b) := fun b hb => by
    rw [Array.getD_eq_getD_getElem?, hb] at h2
    cases h2
  simp only [Region.wanted, hg, yielded, dstOf_some hd, Option.bind_some]
  cases hx : a.tmps[t]? with
  | none => rfl
  | some v =>
    cases v <;> first | rfl | exact absurd hx (h3 _)

/-- What is asked behind a list of operations, or behind code. -/
def After (w0 : World) (μ0 : Mu) (H0 : VH) (n : Nat) (K : Fr → VH → Prop) (a : Act) (w : World) : Prop :=
  ∃ (fr : Fr) (H : VH) (μ : Mu), SR w0 μ0 H0 n μ fr H a w ∧ K fr H

theorem opsP_sound (hc : CallOk P call) (hro : Ro H0) {ops : Array Oper} {K : Fr → VH → Prop} {Q : Exit → Act → World → Prop}
    (hQ : ∀ a w, After w0 μ0 H0 n K a w → Q .normal a w) : ∀ (l : List Oper) (fr : Fr) (H : VH) (μ : Mu) (a : Act) (w : World), wfOps n l = true →
    opsP P call ops.toList K l fr H → SR w0 μ0 H0 n μ fr H a w → wpList P ops Q l a w
  | [], fr, H, μ, a, w, _, h, sr => hQ a w ⟨fr, H, μ, sr, h⟩
  | o :: rest, fr, H, μ, a, w, hwf, h, sr => by
    obtain ⟨hd, hwf'⟩ := wfOps_cons hwf
    -- the operation is carried out
    have go : ∀ (fr : Fr), SR w0 μ0 H0 n μ fr H a w → opE P call (ev fr) H (fun v H => opsP P call ops.toList K rest (PM.put o.dst v fr) H) o.op → o.wp P a w (wpList P ops Q rest) Q :=
      fun fr sr h => opE_sound hc hro o sr.inv (ev_sound sr.fr) h fun v v' μ' H' w' k1 k2 k3 k4 =>
        opsP_sound hc hro hQ rest _ H' μ' _ w' hwf' k4 ((sr.later k2 k3).put k1 hd)
    -- it is passed over
    have skip : ∀ (fr : Fr), SR w0 μ0 H0 n μ fr H a w → opsP P call ops.toList K rest (PM.put o.dst undef fr) H → wpList P ops Q rest (a.put o.dst undef) w :=
      fun fr sr h => opsP_sound hc hro hQ rest _ H μ _ w hwf' h (sr.put (.tuple .nil) hd)
    unfold opsP at h
    unfold wpList
    split at h
    · rename_i hg
      rw [wanted_none ops a hg, if_pos rfl]
      exact .inl (go fr sr h)
    · rename_i j want hg
      split at h
      · exact h.elim
      · rename_i t ht
        split at h
        · rename_i b hb
          rw [wanted_bool sr hg ht hb]
          cases b with
          | true =>
            have sr' := sr.lit hb
            cases want with
            | true => exact .inl (go _ sr' h)
            | false => exact skip _ sr' h
          | false =>
            have sr' := sr.lit hb
            cases want with
            | true => exact skip _ sr' h
            | false => exact .inl (go _ sr' h)
        · rename_i hb
          rw [wanted_undef sr hg ht hb]
          exact skip fr sr h
        · exact h.elim

theorem silent_opE {op : Op} (hs : silent op = true) {ρ : Operand → Value} {H : VH} {K : Value → VH → Prop} (h : opE P call ρ H K op) : ∃ v, opV P ρ H op = some (true, v) ∧ K v H := by
  have key : (match opV P ρ H op with | some (c, v) => need c (K v H) | none => False) → ∃ v, opV P ρ H op = some (true, v) ∧ K v H := fun h => by
    split at h
    · rename_i c v hv
      cases c with
      | false => exact h.elim
      | true => exact ⟨v, hv, h⟩
    · exact h.elim
  cases op
  case call c =>
    obtain ⟨callee, args, argTypes⟩ := c
    cases callee with
    | value f => cases hs
    | invoke r m => cases hs
    | builtin b =>
      cases b
      case len => exact key h
      case min => exact key h
      case max => exact key h
      all_goals cases hs
  case range t x => cases hs
  case next it b => cases hs
  case buildSlice t l ps => cases hs
  case makeSlice t l c => cases hs
  case alloc t => cases hs
  case box t x => cases hs
  case store t a x => cases hs
  all_goals exact key h

theorem still_sound (hc : CallOk P call) {ops : Array Oper} {K : Fr → VH → Prop} {Qs : Act → Prop} {rest : List Oper} {H : VH} {μ : Mu} {w : World}
    (hQ : ∀ fr a, SR w0 μ0 H0 n μ fr H a w → opsP P call ops.toList K rest fr H → Qs a) : ∀ (l : List Oper) (fr : Fr) (a : Act), wfOps n l = true → (∀ o ∈ l, silent o.op = true) →
    opsP P call ops.toList K (l ++ rest) fr H → SR w0 μ0 H0 n μ fr H a w → wpStill P ops w Qs l a
  | [], fr, a, _, _, h, sr => hQ fr a sr h
  | o :: l, fr, a, hwf, hs, h, sr => by
    obtain ⟨hd, hwf'⟩ := wfOps_cons hwf
    have hso := hs o (by simp)
    have hs' : ∀ o ∈ l, silent o.op = true := fun o ho => hs o (by simp [ho])
    have go : ∀ (fr : Fr), SR w0 μ0 H0 n μ fr H a w → opE P call (ev fr) H (fun v H => opsP P call ops.toList K (l ++ rest) (PM.put o.dst v fr) H) o.op → o.still P a w (wpStill P ops w Qs l) :=
      fun fr sr h => by
        obtain ⟨v, hv, hk⟩ := silent_opE hso h
        obtain ⟨v', h1, h2⟩ := opV_sound o sr.inv.hr (ev_sound sr.fr) hv rfl (.inr sr.inv.wd)
        unfold Oper.still
        rw [h1]
        exact ⟨rfl, still_sound hc hQ l _ _ hwf' hs' hk (sr.put h2 hd)⟩
    have skip : ∀ (fr : Fr), SR w0 μ0 H0 n μ fr H a w → opsP P call ops.toList K (l ++ rest) (PM.put o.dst undef fr) H → wpStill P ops w Qs l (a.put o.dst undef) :=
      fun fr sr h => still_sound hc hQ l _ _ hwf' hs' h (sr.put (.tuple .nil) hd)
    rw [List.cons_append] at h
    unfold opsP at h
    unfold wpStill
    split at h
    · rename_i hg
      rw [wanted_none ops a hg, if_pos rfl]
      exact go fr sr h
    · rename_i j want hg
      split at h
      · exact h.elim
      · rename_i t ht
        split at h
        · rename_i b hb
          rw [wanted_bool sr hg ht hb]
          cases b with
          | true =>
            have sr' := sr.lit hb
            cases want with
            | true => exact go _ sr' h
            | false => exact skip _ sr' h
          | false =>
            have sr' := sr.lit hb
            cases want with
            | true => exact skip _ sr' h
            | false => exact go _ sr' h
        · rename_i hb
          rw [wanted_undef sr hg ht hb]
          exact skip fr sr h
        · exact h.elim

theorem headLen_le : ∀ l : List Oper, headLen l ≤ l.length
  | [] => Nat.le_refl _
  | o :: r => by
    unfold headLen
    cases silent o.op
    · exact Nat.zero_le _
    · simpa using headLen_le r

theorem headLen_silent : ∀ (l : List Oper), ∀ o ∈ l.take (headLen l), silent o.op = true
  | [], o, h => by simp at h
  | x :: r, o, h => by
    unfold headLen at h
    cases hs : silent x.op with
    | false => rw [hs] at h; simp at h
    | true =>
      rw [hs] at h
      simp only [cond_true, List.take_succ_cons, List.mem_cons] at h
      rcases h with rfl | h
      · exact hs
      · exact headLen_silent r o h

theorem wfOps_append {l m : List Oper} (h : wfOps n (l ++ m) = true) : wfOps n l = true ∧ wfOps n m = true := by
  induction l with
  | nil => exact ⟨rfl, h⟩
  | cons o l ih =>
    simp only [List.cons_append, wfOps, Bool.and_eq_true] at h ⊢
    exact ⟨⟨h.1, (ih h.2).1⟩, (ih h.2).2⟩

/-! ### Regions whose order is drawn: what may be taken first -/
theorem VR.det0 {μ : Mu} {v a b : Value} (h : known0 v = true) (ha : VR μ v a) (hb : VR μ v b) : a = b := by
  unfold known0 at h
  split at h <;> first | (cases ha; cases hb; rfl; done) | skip
  · cases ha with
    | ptr h1 => cases hb with
      | ptr h2 =>
        obtain rfl := Option.some.inj (h1.symm.trans h2)
        rfl
  · cases h
theorem VRs.det0 {μ : Mu} : ∀ {l a b : List Value}, known0L l = true → VRs μ l a → VRs μ l b → a = b
  | _, _, _, _, .nil, .nil => rfl
  | _, _, _, h, .cons h1 h2, .cons h3 h4 => by
    simp only [known0L, Bool.and_eq_true] at h
    rw [VR.det0 h.1 h1 h3, VRs.det0 h.2 h2 h4]
theorem VR.det1 {μ : Mu} {v a b : Value} (h : known1 v = true) (ha : VR μ v a) (hb : VR μ v b) : a = b := by
  unfold known1 at h
  split at h
  · cases ha with
    | agg h1 => cases hb with
      | agg h2 => rw [VRs.det0 h h1 h2]
  · exact VR.det0 h ha hb
theorem VRs.det1 {μ : Mu} : ∀ {l a b : List Value}, known1L l = true → VRs μ l a → VRs μ l b → a = b
  | _, _, _, _, .nil, .nil => rfl
  | _, _, _, h, .cons h1 h2, .cons h3 h4 => by
    simp only [known1L, Bool.and_eq_true] at h
    rw [VR.det1 h.1 h1 h3, VRs.det1 h.2 h2 h4]
theorem VR.det {μ : Mu} {v a b : Value} (h : knownV v = true) (ha : VR μ v a) (hb : VR μ v b) : a = b := by
  unfold knownV at h
  split at h
  · cases ha with
    | tuple h1 => cases hb with
      | tuple h2 => rw [VRs.det1 h h1 h2]
  · exact VR.det1 h ha hb

theorem opV_congr {ρ : Operand → Value} {H H' : VH} (h : ∀ b, hget H b = hget H' b) (op : Op) : opV P ρ H op = opV P ρ H' op := by
  have e : hget H = hget H' := funext h
  unfold opV
  simp only [e]

theorem HR.deads (μ : Mu) (w : World) : HR μ (List.replicate μ.length .dead) w := by
  have hd : ∀ b, hget (List.replicate μ.length VB.dead) b = .dead := fun b => by
    generalize μ.length = n
    induction n generalizing b with
    | zero => rfl
    | succ n ih => cases b with
      | zero => rfl
      | succ b => exact ih b
  refine ⟨by simp, ?_, ?_, ?_, ?_⟩
  · intro b C e l m h; rw [hd] at h; cases h
  · intro b s p h; rw [hd] at h; cases h
  · intro b1 b2 C1 C2 e1 e2 l1 l2 m2 p1 p2 _ h; rw [hd] at h; cases h
  · intro b1 b2 s1 s2 o1 o2 p1 p2 _ h; rw [hd] at h; cases h

theorem HR.mask {μ : Mu} {H D : VH} {w : World} (h : HR μ H w) (hl : D.length = H.length) (hd : ∀ b, hget D b = hget H b ∨ hget D b = .dead) : HR μ D w := by
  have row : ∀ {b : Nat} {C : Codec} {e : Nat} {l : List C.α} {m : VMode}, hget D b = .row C e l m → hget H b = .row C e l m := fun {b C e l m} hg => by
    rcases hd b with h1 | h1
    · rw [← h1]; exact hg
    · rw [h1] at hg; cases hg
  have it : ∀ {b : Nat} {s : ByteArray} {o : Nat}, hget D b = .iter s o → hget H b = .iter s o := fun {b s o} hg => by
    rcases hd b with h1 | h1
    · rw [← h1]; exact hg
    · rw [h1] at hg; cases hg
  exact ⟨by rw [h.len, hl], fun b C e l m hg => h.row b C e l m (row hg), fun b s p hg => h.iter b s p (it hg),
    fun b1 b2 C1 C2 e1 e2 l1 l2 m2 p1 p2 hne g1 g2 => h.sep b1 b2 C1 C2 e1 e2 l1 l2 m2 p1 p2 hne (row g1) (row g2),
    fun b1 b2 s1 s2 o1 o2 p1 p2 hne g1 g2 => h.isep b1 b2 s1 s2 o1 o2 p1 p2 hne (it g1) (it g2)⟩

/-- A world in which all that is told still stands so. -/
def laterS (μ : Mu) (H : VH) (w : World) : Prop := ∃ (μ' : Mu) (H' : VH), Mu.le μ μ' ∧ Keeps H H' ∧ HR μ' H' w ∧ Wd w
def wholeS (wr : Bool) (μ : Mu) (H : VH) : World → Prop := match wr with | true => fun _ => True | false => laterS μ H

theorem opV_later {μ : Mu} {H : VH} {w : World} (o : Oper) {ρ ρ' : Operand → Value} (hs : laterS μ H w) (hρ : ∀ x, VR μ (ρ x) (ρ' x)) {v : Value} (h : opV P ρ H o.op = some (true, v)) :
    ∃ (v' : Value) (μ' : Mu), (execOp ρ' o).run P w = .ok (.value v') w ∧ Mu.le μ μ' ∧ VR μ' v v' := by
  obtain ⟨μ', H', h1, h2, h3, hW⟩ := hs
  have hD : HR μ' (H ++ List.replicate (H'.length - H.length) .dead) w := by
    refine h3.mask (by simp; have := h2.1; omega) fun b => ?_
    rcases Nat.lt_or_ge b H.length with hb | hb
    · left
      rw [hget_append_lt hb, h2.2 b hb]
    · right
      obtain ⟨c, rfl⟩ : ∃ c, b = H.length + c := ⟨b - H.length, by omega⟩
      rw [hget_append_ge]
      generalize H'.length - H.length = n
      induction n generalizing c with
      | zero => rfl
      | succ n ih => cases c with
        | zero => rfl
        | succ c => exact ih c (by omega)
  have e : opV P ρ (H ++ List.replicate (H'.length - H.length) .dead) o.op = some (true, v) := by
    rw [← h]
    refine opV_congr (fun b => ?_) _
    rcases Nat.lt_or_ge b H.length with hb | hb
    · exact hget_append_lt hb
    · obtain ⟨c, rfl⟩ : ∃ c, b = H.length + c := ⟨b - H.length, by omega⟩
      rw [hget_append_ge, hget_len (H := H) (by omega)]
      generalize H'.length - H.length = n
      induction n generalizing c with
      | zero => rfl
      | succ n ih => cases c with
        | zero => rfl
        | succ c => exact ih c (by omega)
  obtain ⟨v', k1, k2⟩ := opV_sound o hD (fun x => (hρ x).mono h1) e rfl (.inr hW)
  exact ⟨v', μ', k1, h1, k2⟩

theorem opV_dead {μ : Mu} (w : World) (o : Oper) {ρ ρ' : Operand → Value} (hρ : ∀ x, VR μ (ρ x) (ρ' x)) {v : Value} (hl : isLoad o.op = false) (h : opV P ρ [] o.op = some (true, v)) :
    ∃ v' : Value, (execOp ρ' o).run P w = .ok (.value v') w ∧ VR μ v v' := by
  refine opV_sound o (HR.deads μ w) hρ (c := true) ?_ rfl (.inl hl)
  rw [← h]
  refine opV_congr (fun b => ?_) _
  generalize μ.length = n
  induction n generalizing b with
  | zero => rfl
  | succ n ih => cases b with
    | zero => rfl
    | succ b => exact ih b

theorem moves_run {o : Oper} (hm : movesOp o.op = true) {ρ : Operand → Value} {v : Value} {w : World} (h : (execOp ρ o).run P w = .ok (.value v) w) (w2 : World) : (execOp ρ o).run P w2 = .ok (.value v) w2 := by
  obtain ⟨dst, op, type, pos, after, guard⟩ := o
  cases op
  case move x => simp [execOp] at h ⊢; exact h
  case assign x => simp [execOp] at h ⊢; exact h
  case pick c a b =>
    generalize hq : ρ c = q at h
    cases q <;> first | (simp [execOp, hq, asBool] at h ⊢; done) | (simp [execOp, hq, asBool] at h ⊢; exact h)
  case extract x i =>
    generalize hq : ρ x = q at h
    cases q <;> first | (simp [execOp, hq, Instr.extract] at h ⊢; done) | (simp [execOp, hq, Instr.extract] at h ⊢; split at h <;> simp_all)
  all_goals cases hm
theorem silent_eq {op : Op} (hs : silent op = true) (ρ : Operand → Value) (H : VH) (K : Value → VH → Prop) : opE P call ρ H K op = (match opV P ρ H op with | some (c, v) => need c (K v H) | none => False) := by
  cases op
  case call c =>
    obtain ⟨callee, args, argTypes⟩ := c
    cases callee with
    | value f => cases hs
    | invoke r m => cases hs
    | builtin b =>
      cases b
      case len => rfl
      case min => rfl
      case max => rfl
      all_goals cases hs
  case range t x => cases hs
  case next it b => cases hs
  case buildSlice t l ps => cases hs
  case makeSlice t l c => cases hs
  case alloc t => cases hs
  case box t x => cases hs
  case store t a x => cases hs
  all_goals rfl

theorem need_map {b : Bool} {X Y : Prop} (h : need b X) (f : X → Y) : need b Y := by
  cases b
  · exact h.elim
  · exact f h

theorem newP_keeps {t : TypeId} {zs : List Value} {H : VH} {K : Value → VH → Prop} (h : newP P t zs H K) : newP P t zs H (fun v H' => Keeps H H' ∧ K v H') := by
  unfold newP at h ⊢
  split at h
  · exact need_map h fun h => ⟨Keeps.snoc _ _, h⟩
  · split at h
    · exact need_map h fun h => ⟨Keeps.snoc _ _, h⟩
    · exact ⟨Keeps.snoc _ _, h⟩

def meetsC (P : Program) : FuncId → Spec := fun f args H K => callable P f ∧ Meets P f args H K
theorem meetsC_ok : CallOk P (meetsC P) := fun _ _ _ _ h => h

theorem opE_keeps (hc : CallOk P call) {op : Op} (ht : tameOp op = true) {ρ : Operand → Value} {H : VH} {K : Value → VH → Prop} (h : opE P call ρ H K op) :
    opE P (meetsC P) ρ H (fun v H' => Keeps H H' ∧ K v H') op := by
  cases hs : silent op with
  | true =>
    obtain ⟨v, h1, h2⟩ := silent_opE hs h
    rw [silent_eq hs, h1]
    exact ⟨Keeps.refl H, h2⟩
  | false =>
    cases op
    case alloc t =>
      simp only [opE] at h ⊢
      split at h
      · exact newP_keeps h
      · exact h.elim
    case box t x =>
      simp only [opE] at h ⊢
      split at h
      · exact newP_keeps h
      · exact h.elim
    case buildSlice t l ps =>
      simp only [opE] at h ⊢
      split at h
      · split at h
        · split at h
          · exact need_map h fun h => ⟨Keeps.snoc _ _, h⟩
          · exact h.elim
        · exact h.elim
      · exact h.elim
    case range t x =>
      simp only [opE] at h ⊢
      split at h
      · exact ⟨Keeps.snoc _ _, h⟩
      · exact h.elim
    case call c =>
      obtain ⟨callee, args, argTypes⟩ := c
      cases callee with
      | value f =>
        simp only [opE] at h ⊢
        split at h
        · obtain ⟨h1, h2⟩ := hc _ _ _ _ h
          refine ⟨h1, fun μ w args' hw hr ha => (h2 μ w args' hw hr ha).mono ?_⟩
          rintro e w' ⟨r, r', μ', H', k1, k2, k3, k4, k5, k6, k7, k8, k9⟩
          exact ⟨r, r', μ', H', k1, k2, k3, k4, k5, k6, k7, k8, ⟨k5, k6⟩, k9⟩
        · exact h.elim
      | invoke r m => cases ht
      | builtin b => cases b <;> first | (cases ht; done) | (cases hs; done)
    all_goals first | (cases ht; done) | (cases hs; done)

/-- The listed ones are listed with all that they wait for. -/
def Closed (ops : Array Oper) (listed : Array Bool) : Prop := ∀ j oj, ops[j]? = some oj → listed.getD j false = true → ∀ e ∈ oj.after, Region.binds .any e = true → listed.getD e.on false = true
def noneOf (wrs : List Nat) (listed : Array Bool) : Prop := ∀ s ∈ wrs, listed.getD s false = false

theorem Closed.set {ops : Array Oper} {listed : Array Bool} {i : Nat} (h : Closed ops listed) (hi : i ∈ Region.ready .any ops listed) : Closed ops (listed.setIfInBounds i true) := by
  obtain ⟨_, oi, hoi, hall⟩ := mem_ready.1 hi
  intro j oj hj hl e he hb
  by_cases hij : i = j
  · subst hij
    have : oj = oi := Option.some.inj (hj.symm.trans hoi)
    subst this
    exact getD_set_true (hall e he hb)
  · rw [getD_set_ne false hij] at hl
    exact getD_set_true (h j oj hj hl e he hb)

theorem waits_closed {ops : Array Oper} {listed : Array Bool} (hc : Closed ops listed) : ∀ (n s i : Nat), waitsB ops n s i = true → listed.getD s false = true → listed.getD i false = true
  | 0, _, _, h, _ => by cases h
  | n + 1, s, i, h, hs => by
    unfold waitsB at h
    split at h
    · rename_i o ho
      obtain ⟨e, he, hb⟩ := List.any_eq_true.1 h
      simp only [Bool.and_eq_true, Bool.or_eq_true] at hb
      have h1 := hc s o ho hs e (by simpa using he) hb.1
      rcases hb.2 with h2 | h2
      · rw [← Nat.eq_of_beq_eq_true h2]; exact h1
      · exact waits_closed hc n e.on i h2 h1
    · cases h

/-- Whatever order is picked from here on, and S holds until one that may write has come up. -/
def wpAnyG (P : Program) (ops : Array Oper) (Q : Exit → Act → World → Prop) (wrs : List Nat) (S : World → Prop) : Nat → Array Bool → Act → World → Prop
  | 0, listed, a, w => Region.ready .any ops listed = [] ∧ Q .normal a w
  | fuel + 1, listed, a, w =>
    (Region.ready .any ops listed = [] → Q .normal a w) ∧
    ∀ i ∈ Region.ready .any ops listed, wpOp P ops Q i (fun a' w' => (noneOf wrs (listed.setIfInBounds i true) → S w') ∧ wpAnyG P ops Q wrs S fuel (listed.setIfInBounds i true) a' w') a w

theorem wpAny_of_G {ops : Array Oper} {Q : Exit → Act → World → Prop} {wrs : List Nat} {S : World → Prop} : ∀ (fuel : Nat) (listed : Array Bool) (a : Act) (w : World),
    wpAnyG P ops Q wrs S fuel listed a w → wpAny P .any ops Q fuel listed a w
  | 0, _, _, _, h => h
  | fuel + 1, _, _, _, h => ⟨h.1, fun i hi => wpOp_mono (fun a' w' h' => wpAny_of_G fuel _ a' w' h'.2) (h.2 i hi)⟩

theorem wpAnyG_weaken {ops : Array Oper} {Q : Exit → Act → World → Prop} {wrs : List Nat} {S T : World → Prop} : ∀ (fuel : Nat) (listed : Array Bool) (a : Act) (w : World),
    (noneOf wrs listed → ∀ w, S w → T w) → wpAnyG P ops Q wrs S fuel listed a w → wpAnyG P ops Q wrs T fuel listed a w
  | 0, _, _, _, _, h => h
  | fuel + 1, listed, _, _, hST, h => ⟨h.1, fun i hi => wpOp_mono (fun a' w' h' => by
      have hn : noneOf wrs (listed.setIfInBounds i true) → noneOf wrs listed := fun hn s hs => by
        have := hn s hs
        cases hl : listed.getD s false with
        | false => rfl
        | true => rw [getD_set_true hl] at this; cases this
      exact ⟨fun hh => hST (hn hh) _ (h'.1 hh), wpAnyG_weaken fuel _ a' w' (fun hh => hST (hn hh)) h'.2⟩) (h.2 i hi)⟩

theorem listed_not {listed : Array Bool} {i : Nat} (h : listed.getD i true = false) : listed.getD i false = false := by
  rcases Nat.lt_or_ge i listed.size with h' | h'
  · simp [h'] at h ⊢; exact h
  · simp [Array.getElem?_eq_none h'] at h

/-- One that may come up now is taken first. -/
theorem wpAnyG_first {ops : Array Oper} {Q : Exit → Act → World → Prop} {wrs : List Nat} {S S0 : World → Prop} {i : Nat} {oi : Oper} {v : Value} (hi : ops[i]? = some oi) (hiw : i ∉ wrs)
    (hsel : ∀ (j : Nat) (o : Oper) cs b, ops[j]? = some o → o.op ≠ .select cs b) (hQ : ∀ c a w, Q (.panic c) (a.put oi.dst v) w → Q (.panic c) a w)
    (hS0 : ∀ (listed : Array Bool) (w : World), Closed ops listed → listed.getD i true = false → (noneOf wrs listed → S w) → S0 w) :
    ∀ (fuel : Nat) (listed : Array Bool) (a : Act) (w : World), Closed ops listed →
      (∀ j oj, ops[j]? = some oj → j ≠ i → listed.getD j true = false → (∀ e ∈ oj.after, Region.binds .any e = true → e.on ≠ i) → oi.apart ops oj = true) →
      i ∈ Region.ready .any ops listed → YieldsIf P ops S0 oi v a → (noneOf wrs listed → S w) →
      wpAnyG P ops Q wrs S fuel (listed.setIfInBounds i true) (a.put oi.dst v) w → wpAnyG P ops Q wrs S (fuel + 1) listed a w := by
  have sub : ∀ (listed : Array Bool) (j : Nat), noneOf wrs (listed.setIfInBounds j true) → noneOf wrs listed := fun listed j hn s hs => by
    have := hn s hs
    cases hl : listed.getD s false with
    | false => rfl
    | true => rw [getD_set_true hl] at this; cases this
  intro fuel
  induction fuel with
  | zero =>
    intro listed a w hcl _ hr hy hS H
    refine ⟨fun h => (by rw [h] at hr; cases hr), fun j hj => ?_⟩
    by_cases hji : j = i
    · subst hji
      exact hy.wpOp hi (hS0 listed w hcl (mem_ready.1 hr).1 hS) ⟨fun hn => hS (sub _ _ hn), H⟩
    · have := ready_mono hj hji
      rw [H.1] at this
      cases this
  | succ fuel ih =>
    intro listed a w hcl hfree hr hy hS H
    refine ⟨fun h => (by rw [h] at hr; cases hr), fun j hj => ?_⟩
    by_cases hji : j = i
    · subst hji
      exact hy.wpOp hi (hS0 listed w hcl (mem_ready.1 hr).1 hS) ⟨fun hn => hS (sub _ _ hn), H⟩
    · have h1 := H.2 j (ready_mono hj hji)
      obtain ⟨hjun, oj, hoj, hall⟩ := mem_ready.1 hj
      have hnot : ∀ e ∈ oj.after, Region.binds .any e = true → e.on ≠ i := fun e he hb heq => by
        have h1 := hall e he hb
        have h0 := (mem_ready.1 hr).1
        rw [heq] at h1
        rw [listed_not h0] at h1
        cases h1
      have h2 := wpOp_putIf hoj (hfree j oj hoj hji hjun hnot) (fun cs b => hsel i oi cs b hi) (fun cs b => hsel j oj cs b hoj) hQ hy h1
      have hfree' : ∀ k ok, ops[k]? = some ok → k ≠ i → (listed.setIfInBounds j true).getD k true = false →
          (∀ e ∈ ok.after, Region.binds .any e = true → e.on ≠ i) → oi.apart ops ok = true := fun k ok hk hki hun hno => by
        refine hfree k ok hk hki ?_ hno
        by_cases hjk : j = k
        · subst hjk; exact hjun
        · rw [getD_set_ne true hjk] at hun; exact hun
      refine wpOp_mono (fun a' w' h3 => ?_) h2
      have hb : noneOf wrs (listed.setIfInBounds j true) → S w' := fun hn => h3.2.1 fun s hs => by
        rw [Array.setIfInBounds_comm _ _ (Ne.symm hji)]
        have hne : i ≠ s := fun hh => by subst hh; exact hiw hs
        rw [getD_set_ne false hne]
        exact hn s hs
      refine ⟨hb, ih (listed.setIfInBounds j true) a' w' (hcl.set hj) hfree' (ready_mono hr (Ne.symm hji)) h3.1 hb ?_⟩
      rw [Array.setIfInBounds_comm _ _ hji]
      exact h3.2.2

theorem wholeS_now {μ : Mu} {H : VH} {w : World} (h : HR μ H w) (hW : Wd w) : laterS μ H w := ⟨μ, H, fun _ _ h => h, Keeps.refl H, h, hW⟩
theorem laterS_mono {μ μ' : Mu} {H H' : VH} (hm : Mu.le μ μ') (hk : Keeps H H') (w : World) (h : laterS μ' H' w) : laterS μ H w := by
  obtain ⟨μ2, H2, k1, k2, k3⟩ := h
  exact ⟨μ2, H2, fun b p hp => k1 b p (hm b p hp), hk.trans k2, k3⟩

theorem drop_get {l : List Oper} {k : Nat} {o : Oper} {r : List Oper} (h : l.drop k = o :: r) : l[k]? = some o := by
  have := congrArg (·[0]?) h
  simpa using this

theorem wf_mem {l : List Oper} (h : wfOps n l = true) : ∀ o ∈ l, ∀ d, o.dst = some d → d < n := by
  induction l with
  | nil => intro x hx; cases hx
  | cons o r ih =>
    intro x hx d hd
    obtain ⟨h1, h2⟩ := wfOps_cons h
    rcases List.mem_cons.1 hx with rfl | hx
    · exact h1 d hd
    · exact ih h2 x hx d hd
theorem writers_mem : ∀ {l : List Oper} {k i : Nat} {o : Oper}, l[i]? = some o → tameOp o.op = false → k + i ∈ writersL k l
  | x :: l, k, 0, o, h, ht => by
    simp at h
    subst h
    simp [writersL, ht]
  | x :: l, k, i + 1, o, h, ht => by
    have := writers_mem (k := k + 1) (l := l) (i := i) (by simpa using h) ht
    rw [show k + (i + 1) = k + 1 + i by omega]
    unfold writersL
    cases tameOp x.op
    · exact List.mem_cons_of_mem _ this
    · exact this
  | [], k, i, o, h, ht => by simp at h

theorem opsD_sound (hc : CallOk P call) (hro : Ro H0) {ops : Array Oper} {wrs : List Nat} {K : Fr → VH → Prop} {Q : Exit → Act → World → Prop}
    (hQ : ∀ a w, After w0 μ0 H0 n K a w → Q .normal a w) (hp : ∀ c a w, ¬ Q (.panic c) a w) (ns : Region.noSelect ops = true) (hwf : wfOps n ops.toList = true)
    (ht : ∀ i o, ops[i]? = some o → i ∉ wrs → tameOp o.op = true) : ∀ (l : List Nat) (listed : Array Bool) (fr : Fr) (H : VH) (μ : Mu) (a : Act) (w : World), schedFrom ops wrs l listed = true → Closed ops listed →
    opsD P call ops.toList K l fr H → SR w0 μ0 H0 n μ fr H a w → wpAnyG P ops Q wrs (laterS μ H) l.length listed a w
  | [], listed, fr, H, μ, a, w, hs, _, h, sr => by
    exact ⟨by simpa [schedFrom] using hs, hQ a w ⟨fr, H, μ, sr, h⟩⟩
  | i :: rest, listed, fr, H, μ, a, w, hs, hcl, h, sr => by
    unfold opsD at h
    split at h
    · exact h.elim
    · rename_i o r hdrop
      have hol := drop_get hdrop
      have ho : ops[i % 1000]? = some o := by rw [← Array.getElem?_toList]; exact hol
      have hmem : o ∈ ops.toList := List.mem_of_getElem? hol
      have hd := wf_mem hwf o hmem
      unfold schedFrom at hs
      rw [Bool.and_eq_true] at hs
      obtain ⟨hs1, hs2⟩ := hs
      have ih := fun fr H μ a w hcl => opsD_sound hc hro hQ hp ns hwf ht rest (listed.setIfInBounds (i % 1000) true) fr H μ a w hs2 hcl
      -- the only one
      have only : i / 1000 = 1 → Region.ready .any ops listed = [i % 1000] := fun hk => by
        rw [hk] at hs1
        simp only at hs1
        split at hs1
        · rename_i j hj
          rw [hj, Nat.eq_of_beq_eq_true hs1]
        · cases hs1
      -- one that is taken first
      have eager : i / 1000 ≠ 1 → i % 1000 ∉ wrs ∧ (i / 1000 ≠ 0 → ∀ s ∈ wrs, waitsB ops 12 s (i % 1000) = true) ∧ (Region.ready .any ops listed).contains (i % 1000) = true ∧ Region.free .any ops listed (i % 1000) = true := fun hk => by
        split at hs1
        · contradiction
        · rename_i h0
          simp only [Bool.and_eq_true, Bool.not_eq_true', List.contains_eq_mem, decide_eq_false_iff_not, decide_eq_true_eq] at hs1
          exact ⟨hs1.1, fun hh => absurd h0 hh, by simpa using hs1.2.1, hs1.2.2⟩
        · simp only [Bool.and_eq_true, Bool.not_eq_true', List.contains_eq_mem, decide_eq_false_iff_not, decide_eq_true_eq, List.all_eq_true] at hs1
          exact ⟨hs1.1.1, fun _ => hs1.1.2, by simpa using hs1.2.1, hs1.2.2⟩
      have free : ∀ (hk : i / 1000 ≠ 1) {S0 : World → Prop} {v : Value}, (i / 1000 ≠ 0 ∨ ∀ w, S0 w) → (∀ w, laterS μ H w → S0 w) → YieldsIf P ops S0 o v a →
          wpAnyG P ops Q wrs (laterS μ H) rest.length (listed.setIfInBounds (i % 1000) true) (a.put o.dst v) w → wpAnyG P ops Q wrs (laterS μ H) (rest.length + 1) listed a w := by
        intro hk S0 v h0 hS hy hgo
        obtain ⟨e1, e2, e3, e4⟩ := eager hk
        refine wpAnyG_first ho e1 (Region.noSelect_spec ns) (fun c a w h => absurd h (hp c _ w)) ?_ rest.length listed a w hcl (Region.free_spec ho e4) (by simpa using e3) hy (fun _ => wholeS_now sr.inv.hr sr.inv.wd) hgo
        intro listed' w' hcl' hun hS'
        rcases h0 with h0 | h0
        · refine hS _ (hS' fun s hs => ?_)
          cases hl : listed'.getD s false with
          | false => rfl
          | true =>
            have := waits_closed hcl' 12 s _ (e2 h0 s hs) hl
            rw [listed_not hun] at this
            cases this
        · exact h0 w'
      have hcl2 : i % 1000 ∈ Region.ready .any ops listed → Closed ops (listed.setIfInBounds (i % 1000) true) := fun hr => hcl.set hr
      have hready : i % 1000 ∈ Region.ready .any ops listed := by
        by_cases hk : i / 1000 = 1
        · rw [only hk]; exact List.mem_singleton.2 rfl
        · simpa using (eager hk).2.2.1
      -- it is carried out
      have go : ∀ (fr : Fr), SR w0 μ0 H0 n μ fr H a w → Region.wanted o (yielded ops a.tmps) = true →
          stepD P call (i / 1000) o (opsD P call ops.toList K rest) fr H → wpAnyG P ops Q wrs (laterS μ H) (rest.length + 1) listed a w := by
        intro fr sr hw h
        unfold stepD at h
        split at h
        · rename_i hk
          refine ⟨fun hh => (by rw [hh] at hready; cases hready), fun j hj => ?_⟩
          rw [only hk] at hj
          obtain rfl := List.mem_singleton.1 hj
          unfold wpOp
          simp only [ho, hw, if_true]
          left
          by_cases hwr : i % 1000 ∈ wrs
          · refine opE_sound hc hro o sr.inv (ev_sound sr.fr) h fun v v' μ' H' w' k1 k2 k3 k4 => ?_
            have hno : ¬ noneOf wrs (listed.setIfInBounds (i % 1000) true) := fun hn => by
              have h1 := hn _ hwr
              have h2 : (i % 1000) < listed.size := by
                have := (mem_ready.1 hready).1
                rcases Nat.lt_or_ge (i % 1000) listed.size with h' | h'
                · exact h'
                · simp [Array.getElem?_eq_none h'] at this
              simp [h2] at h1
            exact ⟨fun hn => absurd hn hno, wpAnyG_weaken _ _ _ _ (fun hn => absurd hn hno) (ih _ _ _ _ _ (hcl2 hready) k4 ((sr.later k2 k3).put k1 hd))⟩
          · refine opE_sound meetsC_ok hro o sr.inv (ev_sound sr.fr) (opE_keeps hc (ht _ o ho hwr) h) fun v v' μ' H' w' k1 k2 k3 k4 => ⟨fun _ => ⟨μ', H', k3, k4.1, k2.hr, k2.wd⟩, ?_⟩
            exact wpAnyG_weaken _ _ _ _ (fun _ => laterS_mono k3 k4.1) (ih _ _ _ _ _ (hcl2 hready) k4.2 ((sr.later k2 k3).put k1 hd))
        · rename_i m hk
          split at h
          · rename_i c v hv
            cases hcc : ((c && (movesOp o.op || knownV v)) && !(Nat.beq (i / 1000) 0 && isLoad o.op)) with
            | false => rw [hcc] at h; exact h.elim
            | true =>
              rw [hcc] at h
              simp only [Bool.and_eq_true, Bool.or_eq_true] at hcc
              obtain ⟨⟨rfl, hdet⟩, hnl⟩ := hcc
              have h : opsD P call ops.toList K rest (PM.put o.dst v fr) H := h
              split at hv
              · rename_i hz0
                have hnl : isLoad o.op = false := by
                  cases hb : isLoad o.op with
                  | false => rfl
                  | true => rw [hb] at hnl; rw [hz0] at hnl; exact absurd hnl (by decide)
                obtain ⟨v', k1, k2⟩ := opV_dead w o (ev_sound sr.fr) hnl hv
                refine free hk (S0 := fun _ => True) (.inr fun _ => trivial) (fun _ _ => trivial) (.inl ⟨hw, fun w1 _ => ?_⟩) (ih _ _ _ _ _ (hcl2 hready) h (sr.put k2 hd))
                rcases hdet with hdet | hdet
                · exact moves_run hdet k1 w1
                · obtain ⟨v1, k3, k4⟩ := opV_dead w1 o (ev_sound sr.fr) hnl hv
                  rw [k3, VR.det hdet k4 k2]
              · rename_i hk0
                obtain ⟨v', k1, k2⟩ := opV_sound o sr.inv.hr (ev_sound sr.fr) hv rfl (.inr sr.inv.wd)
                refine free hk (S0 := laterS μ H) (.inl fun hh => hk0 hh) (fun _ h => h) (.inl ⟨hw, fun w1 hS => ?_⟩) (ih _ _ _ _ _ (hcl2 hready) h (sr.put k2 hd))
                rcases hdet with hdet | hdet
                · exact moves_run hdet k1 w1
                · obtain ⟨v1, μ1, k3, k4, k5⟩ := opV_later o hS (ev_sound sr.fr) hv
                  rw [k3, VR.det hdet k5 (k2.mono k4)]
          · exact h.elim
      -- it is passed over
      have skip : ∀ (fr : Fr), SR w0 μ0 H0 n μ fr H a w → Region.wanted o (yielded ops a.tmps) = false → opsD P call ops.toList K rest (PM.put o.dst undef fr) H →
          wpAnyG P ops Q wrs (laterS μ H) (rest.length + 1) listed a w := by
        intro fr sr hw h
        have hk := ih _ _ _ _ _ (hcl2 hready) h (sr.put (v := undef) (v' := undef) (.tuple .nil) hd)
        by_cases hk1 : i / 1000 = 1
        · refine ⟨fun hh => (by rw [hh] at hready; cases hready), fun j hj => ?_⟩
          rw [only hk1] at hj
          obtain rfl := List.mem_singleton.1 hj
          unfold wpOp
          simp only [ho, hw, Bool.false_eq_true, if_false]
          exact ⟨fun _ => wholeS_now sr.inv.hr sr.inv.wd, hk⟩
        · exact free hk1 (S0 := fun _ => True) (.inr fun _ => trivial) (fun _ _ => trivial) (.inr ⟨hw, rfl⟩) hk
      split at h
      · rename_i hg
        exact go fr sr (wanted_none ops a hg) h
      · rename_i j want hg
        split at h
        · exact h.elim
        · rename_i t ht
          split at h
          · rename_i b hb
            have hwd := wanted_bool sr hg ht hb
            cases b with
            | true =>
              have sr' := sr.lit hb
              cases want with
              | true => exact go _ sr' hwd h
              | false => exact skip _ sr' hwd h
            | false =>
              have sr' := sr.lit hb
              cases want with
              | true => exact skip _ sr' hwd h
              | false => exact go _ sr' hwd h
          · rename_i hb
            exact skip fr sr (wanted_undef sr hg ht hb) h
          · exact h.elim

abbrev allS' : World → Prop := fun _ => True
theorem oneD_zero (hc : CallOk P call) (hro : Ro H0) {ops : Array Oper} {Q : Exit → Act → World → Prop} (hp : ∀ c a w, ¬ Q (.panic c) a w) (ns : Region.noSelect ops = true) (hwf : wfOps n ops.toList = true)
    {i m : Nat} {listed : Array Bool} {k : Fr → VH → Prop} {fr : Fr} {H : VH} {μ : Mu} {a : Act} {w : World} (hcl : Closed ops listed) (hready : i ∈ Region.ready .any ops listed) (hfree : Region.free .any ops listed i = true)
    (ih : ∀ (fr : Fr) (H : VH) (μ : Mu) (a : Act) (w : World), k fr H → SR w0 μ0 H0 n μ fr H a w → wpAnyG P ops Q [] allS' m (listed.setIfInBounds i true) a w)
    (h : oneD P call ops.toList 0 i k fr H) (sr : SR w0 μ0 H0 n μ fr H a w) : wpAnyG P ops Q [] allS' (m + 1) listed a w := by
  unfold oneD at h
  split at h
  · exact h.elim
  · rename_i o r hdrop
    have hol := drop_get hdrop
    have ho : ops[i]? = some o := by rw [← Array.getElem?_toList]; exact hol
    have hmem : o ∈ ops.toList := List.mem_of_getElem? hol
    have hd := wf_mem hwf o hmem
    have free : ∀ {v : Value}, YieldsIf P ops (fun _ => True) o v a → wpAnyG P ops Q [] allS' m (listed.setIfInBounds i true) (a.put o.dst v) w → wpAnyG P ops Q [] allS' (m + 1) listed a w := by
      intro v hy hgo
      exact wpAnyG_first (S0 := fun _ => True) ho (by simp) (Region.noSelect_spec ns) (fun c a w h => absurd h (hp c _ w)) (fun _ _ _ _ _ => trivial) m listed a w hcl (Region.free_spec ho hfree) hready hy (fun _ => trivial) hgo
    have go : ∀ (fr : Fr), SR w0 μ0 H0 n μ fr H a w → Region.wanted o (yielded ops a.tmps) = true → stepD P call 0 o k fr H → wpAnyG P ops Q [] allS' (m + 1) listed a w := by
      intro fr sr hw h
      unfold stepD at h
      simp only at h
      split at h
      · rename_i c v hv
        cases hcc : ((c && (movesOp o.op || knownV v)) && !(Nat.beq 0 0 && isLoad o.op)) with
        | false => rw [hcc] at h; exact h.elim
        | true =>
          rw [hcc] at h
          simp only [Bool.and_eq_true, Bool.or_eq_true] at hcc
          obtain ⟨⟨rfl, hdet⟩, hnl⟩ := hcc
          have hnl : isLoad o.op = false := by
            cases hb : isLoad o.op with
            | false => rfl
            | true => rw [hb] at hnl; exact absurd hnl (by decide)
          have h : k (PM.put o.dst v fr) H := h
          obtain ⟨v', k1, k2⟩ := opV_dead w o (ev_sound sr.fr) hnl hv
          refine free (.inl ⟨hw, fun w1 _ => ?_⟩) (ih _ _ _ _ _ h (sr.put k2 hd))
          rcases hdet with hdet | hdet
          · exact moves_run hdet k1 w1
          · obtain ⟨v1, k3, k4⟩ := opV_dead w1 o (ev_sound sr.fr) hnl hv
            rw [k3, VR.det hdet k4 k2]
      · exact h.elim
    have skip : ∀ (fr : Fr), SR w0 μ0 H0 n μ fr H a w → Region.wanted o (yielded ops a.tmps) = false → k (PM.put o.dst undef fr) H → wpAnyG P ops Q [] allS' (m + 1) listed a w := by
      intro fr sr hw h
      exact free (.inr ⟨hw, rfl⟩) (ih _ _ _ _ _ h (sr.put (v := undef) (v' := undef) (.tuple .nil) hd))
    split at h
    · rename_i hg
      exact go fr sr (wanted_none ops a hg) h
    · rename_i j want hg
      split at h
      · exact h.elim
      · rename_i t ht
        split at h
        · rename_i b hb
          have hwd := wanted_bool sr hg ht hb
          cases b with
          | true =>
            have sr' := sr.lit hb
            cases want with
            | true => exact go _ sr' hwd h
            | false => exact skip _ sr' hwd h
          | false =>
            have sr' := sr.lit hb
            cases want with
            | true => exact skip _ sr' hwd h
            | false => exact go _ sr' hwd h
        · rename_i hb
          exact skip fr sr (wanted_undef sr hg ht hb) h
        · exact h.elim
theorem oneD_one (hc : CallOk P call) (hro : Ro H0) {ops : Array Oper} {Q : Exit → Act → World → Prop} (hwf : wfOps n ops.toList = true)
    {i m : Nat} {listed : Array Bool} {k : Fr → VH → Prop} {fr : Fr} {H : VH} {μ : Mu} {a : Act} {w : World}
    (ih : ∀ (fr : Fr) (H : VH) (μ : Mu) (a : Act) (w : World), k fr H → SR w0 μ0 H0 n μ fr H a w → wpAnyG P ops Q [] allS' m (listed.setIfInBounds i true) a w)
    (h : oneD P call ops.toList 1 i k fr H) (sr : SR w0 μ0 H0 n μ fr H a w) :
    wpOp P ops Q i (fun a' w' => (noneOf [] (listed.setIfInBounds i true) → allS' w') ∧ wpAnyG P ops Q [] allS' m (listed.setIfInBounds i true) a' w') a w := by
  unfold oneD at h
  split at h
  · exact h.elim
  · rename_i o r hdrop
    have hol := drop_get hdrop
    have ho : ops[i]? = some o := by rw [← Array.getElem?_toList]; exact hol
    have hmem : o ∈ ops.toList := List.mem_of_getElem? hol
    have hd := wf_mem hwf o hmem
    have go : ∀ (fr : Fr), SR w0 μ0 H0 n μ fr H a w → Region.wanted o (yielded ops a.tmps) = true → stepD P call 1 o k fr H →
        wpOp P ops Q i (fun a' w' => (noneOf [] (listed.setIfInBounds i true) → allS' w') ∧ wpAnyG P ops Q [] allS' m (listed.setIfInBounds i true) a' w') a w := by
      intro fr sr hw h
      unfold stepD at h
      simp only at h
      unfold wpOp
      simp only [ho, hw, if_true]
      left
      exact opE_sound hc hro o sr.inv (ev_sound sr.fr) h fun v v' μ' H' w' k1 k2 k3 k4 => ⟨fun _ => trivial, ih _ _ _ _ _ k4 ((sr.later k2 k3).put k1 hd)⟩
    have skip : ∀ (fr : Fr), SR w0 μ0 H0 n μ fr H a w → Region.wanted o (yielded ops a.tmps) = false → k (PM.put o.dst undef fr) H →
        wpOp P ops Q i (fun a' w' => (noneOf [] (listed.setIfInBounds i true) → allS' w') ∧ wpAnyG P ops Q [] allS' m (listed.setIfInBounds i true) a' w') a w := by
      intro fr sr hw h
      unfold wpOp
      simp only [ho, hw, Bool.false_eq_true, if_false]
      exact ⟨fun _ => trivial, ih _ _ _ _ _ h (sr.put (v := undef) (v' := undef) (.tuple .nil) hd)⟩
    split at h
    · rename_i hg
      exact go fr sr (wanted_none ops a hg) h
    · rename_i j want hg
      split at h
      · exact h.elim
      · rename_i t ht
        split at h
        · rename_i b hb
          have hwd := wanted_bool sr hg ht hb
          cases b with
          | true =>
            have sr' := sr.lit hb
            cases want with
            | true => exact go _ sr' hwd h
            | false => exact skip _ sr' hwd h
          | false =>
            have sr' := sr.lit hb
            cases want with
            | true => exact skip _ sr' hwd h
            | false => exact go _ sr' hwd h
        · rename_i hb
          exact skip fr sr (wanted_undef sr hg ht hb) h
        · exact h.elim
theorem fork_both {f : Nat → List Nat → Bool} {g : Nat → List Nat → Prop} : ∀ {m : Nat} {js l : List Nat}, forkOk f m js l = true → forkT g m l → ∀ j ∈ js, ∃ l', f j l' = true ∧ g j l'
  | 0, [], _, _, _, j, hj => by cases hj
  | m + 1, j0 :: js, i :: L :: r, h1, h2, j, hj => by
    simp only [forkOk, Bool.and_eq_true] at h1
    obtain ⟨e, h3, h4⟩ := h1
    have e := Nat.eq_of_beq_eq_true e
    subst e
    rcases List.mem_cons.1 hj with rfl | hj
    · exact ⟨_, h3, h2.1⟩
    · exact fork_both h4 h2.2 j hj
  | 0, _ :: _, _, h1, _, _, _ => by simp [forkOk] at h1
  | _ + 1, [], _, h1, _, _, _ => by simp [forkOk] at h1
  | _ + 1, _ :: _, [], h1, _, _, _ => by simp [forkOk] at h1
  | _ + 1, _ :: _, [_], h1, _, _, _ => by simp [forkOk] at h1
theorem opsT_sound (hc : CallOk P call) (hro : Ro H0) {ops : Array Oper} {K : Fr → VH → Prop} {Q : Exit → Act → World → Prop}
    (hQ : ∀ a w, After w0 μ0 H0 n K a w → Q .normal a w) (hp : ∀ c a w, ¬ Q (.panic c) a w) (ns : Region.noSelect ops = true) (hwf : wfOps n ops.toList = true) :
    ∀ (m : Nat) (l : List Nat) (listed : Array Bool) (fr : Fr) (H : VH) (μ : Mu) (a : Act) (w : World), treeOk ops m l listed = true → Closed ops listed →
    opsT P call ops.toList K m l fr H → SR w0 μ0 H0 n μ fr H a w → wpAnyG P ops Q [] allS' m listed a w
  | 0, [], listed, fr, H, μ, a, w, hs, _, h, sr => ⟨by simpa [treeOk] using hs, hQ a w ⟨fr, H, μ, sr, h⟩⟩
  | m + 1, [], listed, fr, H, μ, a, w, hs, _, h, sr => by
    have hr : Region.ready .any ops listed = [] := by simpa [treeOk] using hs
    exact ⟨fun _ => hQ a w ⟨fr, H, μ, sr, h⟩, fun i hi => by rw [hr] at hi; cases hi⟩
  | 0, c :: rest, listed, fr, H, μ, a, w, hs, _, h, sr => by simp [treeOk] at hs
  | m + 1, c :: rest, listed, fr, H, μ, a, w, hs, hcl, h, sr => by
    have ih := fun l listed fr H μ a w => opsT_sound hc hro hQ hp ns hwf m l listed fr H μ a w
    unfold treeOk at hs
    unfold opsT at h
    split at hs
    · rename_i hk
      rw [hk] at h
      simp only at h
      simp only [Bool.and_eq_true, Bool.not_eq_true'] at hs
      have hboth := fork_both hs.2 h
      have hne : Region.ready .any ops listed ≠ [] := fun e => by
        rw [e] at hs
        cases hm : c % 1000 with
        | zero => rw [hm] at hs; simp at hs
        | succ x => rw [hm] at hs; simp [forkOk] at hs
      refine ⟨fun e => absurd e hne, fun j hj => ?_⟩
      obtain ⟨l', t1, t2⟩ := hboth j hj
      exact oneD_one hc hro hwf (fun fr H μ a w hk sr => ih l' _ fr H μ a w t1 (hcl.set hj) hk sr) t2 sr
    · rename_i hk
      rw [hk] at h
      simp only at h
      simp only [Bool.and_eq_true] at hs
      have honly : Region.ready .any ops listed = [c % 1000] := by
        have h1 := hs.1
        split at h1
        · rename_i j hj
          rw [hj, Nat.eq_of_beq_eq_true h1]
        · cases h1
      refine ⟨fun e => (by rw [honly] at e; cases e), fun j hj => ?_⟩
      have hj' := hj
      rw [honly] at hj'
      obtain rfl := List.mem_singleton.1 hj'
      exact oneD_one hc hro hwf (fun fr H μ a w hk sr => ih rest _ fr H μ a w hs.2 (hcl.set hj) hk sr) h sr
    · rename_i hk
      rw [hk] at h
      simp only at h
      simp only [Bool.and_eq_true] at hs
      have hready : c % 1000 ∈ Region.ready .any ops listed := by simpa using hs.1.1
      exact oneD_zero hc hro hp ns hwf hcl hready hs.1.2 (fun fr H μ a w hk sr => ih rest _ fr H μ a w hs.2 (hcl.set hready) hk sr) h sr
    · cases hs
theorem tree_sound (hm : P.follows .mixedOrders = true) (hc : CallOk P call) (hro : Ro H0) {id : Nat} {l : List Nat} {ops : Array Oper} {K : Fr → VH → Prop} {Q : Exit → Act → World → Prop}
    (hQ : ∀ a w, After w0 μ0 H0 n K a w → Q .normal a w) {fr : Fr} {H : VH} {μ : Mu} {a : Act} {w : World} (hwf : wfOps n ops.toList = true)
    (h : need (Region.noSelect ops && treeOk ops ops.size l (Array.replicate ops.size false)) (opsT P call ops.toList K ops.size l fr H)) (sr : SR w0 μ0 H0 n μ fr H a w) : (Code.region id ops true).wp P Q a w := by
  cases hs : Region.noSelect ops && treeOk ops ops.size l (Array.replicate ops.size false) with
  | false => rw [hs] at h; exact h.elim
  | true =>
    rw [hs] at h
    have h : opsT P call ops.toList K ops.size l fr H := h
    simp only [Bool.and_eq_true] at hs
    refine wp_mono (Q := fun e a w => e = .normal ∧ After w0 μ0 H0 n K a w) (wp_region_any hm (wpAny_of_G (wrs := []) (S := allS') _ _ _ _ ?_)) ?_
    · refine opsT_sound hc hro (fun a w h => ⟨rfl, h⟩) (fun c a w h => by cases h.1) hs.1 hwf _ _ _ fr H μ a _ hs.2 ?_ h (sr.later sr.inv.drew (fun _ _ h => h))
      intro j oj hj hl
      rw [getD_replicate_false] at hl
      cases hl
    · rintro e a w ⟨rfl, h⟩
      exact hQ a w h

theorem drawn_sound (hm : P.follows .mixedOrders = true) (hc : CallOk P call) (hro : Ro H0) {id : Nat} {l : List Nat} {ops : Array Oper} {K : Fr → VH → Prop} {Q : Exit → Act → World → Prop}
    (hQ : ∀ a w, After w0 μ0 H0 n K a w → Q .normal a w) {fr : Fr} {H : VH} {μ : Mu} {a : Act} {w : World} (hwf : wfOps n ops.toList = true)
    (h : need (schedOk ops l) (opsD P call ops.toList K l fr H)) (sr : SR w0 μ0 H0 n μ fr H a w) : (Code.region id ops true).wp P Q a w := by
  cases hs : schedOk ops l with
  | false => rw [hs] at h; exact h.elim
  | true =>
    rw [hs] at h
    have h : opsD P call ops.toList K l fr H := h
    simp only [schedOk, Bool.and_eq_true] at hs
    obtain ⟨s1, s2, s3⟩ := hs
    have hlen : l.length = ops.size := Nat.eq_of_beq_eq_true s2
    refine wp_mono (Q := fun e a w => e = .normal ∧ After w0 μ0 H0 n K a w) (wp_region_any hm (wpAny_of_G (wrs := writersL 0 ops.toList) (S := laterS μ H) _ _ _ _ ?_)) ?_
    · rw [← hlen]
      refine opsD_sound hc hro (fun a w h => ⟨rfl, h⟩) (fun c a w h => by cases h.1) s1 hwf (fun i o ho hi => ?_) l _ fr H μ a _ ?_ ?_ h (sr.later sr.inv.drew (fun _ _ h => h))
      · cases htt : tameOp o.op with
        | true => rfl
        | false =>
          refine absurd ?_ hi
          have := writers_mem (k := 0) (l := ops.toList) (i := i) (by rw [Array.getElem?_toList]; exact ho) htt
          simpa using this
      · rw [hlen]
        exact s3
      · intro j oj hj hl
        rw [getD_replicate_false] at hl
        cases hl
    · rintro e a w ⟨rfl, h⟩
      exact hQ a w h

theorem region_sound (hm : P.follows .mixedOrders = true) (hc : CallOk P call) (hro : Ro H0) {id : Nat} {sched : Option (List Nat)} {ops : Array Oper} {draw : Bool} {K : Fr → VH → Prop} {Q : Exit → Act → World → Prop}
    (hQ : ∀ a w, After w0 μ0 H0 n K a w → Q .normal a w) {fr : Fr} {H : VH} {μ : Mu} {a : Act} {w : World} (hwf : wfOps n ops.toList = true)
    (h : regionP P call sched ops draw K fr H) (sr : SR w0 μ0 H0 n μ fr H a w) :
    (Code.region id ops draw).wp P Q a w := by
  unfold regionP at h
  cases draw with
  | false => exact wp_region_list (opsP_sound hc hro hQ ops.toList fr H μ a w hwf h sr)
  | true =>
    simp only [cond_true] at h
    split at h
    · rename_i l
      cases h7 : Nat.beq (l.headD 0) 7000 with
      | true => rw [h7] at h; exact tree_sound hm hc hro hQ hwf h sr
      | false => rw [h7] at h; exact drawn_sound hm hc hro hQ hwf h sr
    cases hd : drawOk ops with
    | false => rw [hd] at h; exact h.elim
    | true =>
      rw [hd] at h
      have h : opsP P call ops.toList K ops.toList fr H := h
      have sr1 : SR w0 μ0 H0 n μ fr H a { w with drawn := w.drawn + 1 } := sr.later sr.inv.drew (fun _ _ h => h)
      unfold drawOk at hd
      cases hl : Nat.beq (headLen ops.toList) ops.toList.length with
      | true =>
        rw [hl] at hd
        have hlen := Nat.eq_of_beq_eq_true hl
        refine wp_region_still hm hd ?_
        refine still_sound (rest := []) (K := K) (Qs := fun a' => Q .normal a' { w with drawn := w.drawn + 1 }) hc (fun fr' a' sr' hk => hQ _ _ ⟨fr', H, μ, sr', hk⟩) ops.toList fr a hwf ?_ (by simpa using h) sr1
        have := headLen_silent ops.toList
        rw [hlen, List.take_length] at this
        exact this
      | false =>
        rw [hl] at hd
        simp only [cond_false] at hd
        have e : ops = ops.toList.toArray := by simp
        have hsplit : ops.toList.take (headLen ops.toList) ++ ops.toList.drop (headLen ops.toList) = ops.toList := List.take_append_drop _ _
        have hwf2 := wfOps_append (n := n) (l := ops.toList.take (headLen ops.toList)) (m := ops.toList.drop (headLen ops.toList)) (by rw [hsplit]; exact hwf)
        have key : (Code.region id ops.toList.toArray true).wp P Q a w := by
          refine wp_region_still_tail (headLen ops.toList) hm (by rw [← e]; exact hd) ?_
          rw [← e]
          refine still_sound (rest := ops.toList.drop (headLen ops.toList)) (K := K) hc (fun fr' a' sr' hk => ?_) (ops.toList.take (headLen ops.toList)) fr a hwf2.1 (headLen_silent _) (by rw [hsplit]; exact h) sr1
          exact opsP_sound hc hro hQ _ fr' H μ a' _ hwf2.2 hk sr'
        rw [← e] at key
        exact key

/-! ### Code -/
def wfC (n : Nat) : Code → Bool
  | .region _ ops _ => wfOps n ops.toList
  | .seq a b => wfC n a && wfC n b
  | .cond _ a b => wfC n a && wfC n b
  | .block _ c => wfC n c
  | .loop c => wfC n c
  | .scope c => wfC n c
  | _ => true

def toExit : Ex → Exit
  | .normal => .normal
  | .exit id => .exit id
  | .ret => .ret

def QK (w0 : World) (μ0 : Mu) (H0 : VH) (n : Nat) (K : Kont) : Exit → Act → World → Prop :=
  fun e a w => ∃ e', e = toExit e' ∧ After w0 μ0 H0 n (K e') a w

theorem lk_keep (ts : List Nat) (fr : Fr) (t : Nat) : lk (ts.map fun t => (t, lk fr t)) t = lk fr t ∨ lk (ts.map fun t => (t, lk fr t)) t = junk := by
  induction ts with
  | nil => exact .inr rfl
  | cons u ts ih =>
    simp only [List.map_cons, lk]
    cases hb : Nat.beq u t with
    | true =>
      obtain rfl := Nat.eq_of_beq_eq_true hb
      exact .inl rfl
    | false => exact ih

theorem SR.keep {μ : Mu} {fr : Fr} {H : VH} {a : Act} {w : World} (h : SR w0 μ0 H0 n μ fr H a w) (o : Option (List Nat)) : SR w0 μ0 H0 n μ (keepF o fr) H a w := by
  cases o with
  | none => exact h
  | some ts =>
    refine ⟨h.inv, fun t => ?_, h.sz, h.df⟩
    rcases lk_keep ts fr t with h' | h'
    · simp only [keepF]; rw [h']; exact h.fr t
    · simp only [keepF]; rw [h']; exact .junk _

/-- What a part of a text is known to do, it does. -/
def CodeOk (P : Program) (n : Nat) (c : Code) (sp : LSpec) : Prop :=
  ∀ (w0 : World) (μ0 : Mu) (H0 : VH), Ro H0 → ∀ (fr : Fr) (H : VH) (K : Kont) (μ : Mu) (a : Act) (w : World), sp fr H K → SR w0 μ0 H0 n μ fr H a w → c.wp P (QK w0 μ0 H0 n K) a w

def TabOk (P : Program) (n : Nat) (tb : Tab) : Code → Prop
  | .seq a b => TabOk P n tb a ∧ (∀ sp, tb.joins (firstReg b) = some sp → CodeOk P n b sp) ∧ TabOk P n tb b
  | .cond _ a b => TabOk P n tb a ∧ TabOk P n tb b
  | .scope c => TabOk P n tb c
  | .block _ c => TabOk P n tb c
  | .loop c => (∀ sp, tb.loops (firstReg c) = some sp → CodeOk P n (.loop c) sp) ∧ TabOk P n tb c
  | _ => True

theorem lk_map (g : Value → Value) (hg : g junk = junk) : ∀ (fr : Fr) (t : Nat), lk (fr.map fun (t, v) => (t, g v)) t = g (lk fr t)
  | [], t => hg.symm
  | (u, v) :: r, t => by
    simp only [List.map_cons, lk]
    cases Nat.beq u t with
    | true => rfl
    | false => exact lk_map g hg r t

theorem lead_ge {H0 H : VH} (hro : Ro H0) (hle : H0.length ≤ H.length) (ho : ∀ b, b < H0.length → hget H b = hget H0 b) : H0.length ≤ leadRo H := by
  induction H0 generalizing H with
  | nil => exact Nat.zero_le _
  | cons a H0 ih =>
    cases H with
    | nil => simp at hle
    | cons x H =>
      have h0 : x = a := ho 0 (by simp)
      subst h0
      have ihh := ih (H := H) (fun b => hro (b + 1)) (by simpa using hle) (fun b hb => ho (b + 1) (by simpa using hb))
      have h1 := hro 0
      have hx : hget (x :: H0) 0 = x := rfl
      rw [hx] at h1
      rcases h1 with ⟨C, e, l, h1, _⟩ | h1 <;> subst h1 <;> simpa [leadRo] using ihh

/-- Another order of the blocks, by a frame. -/
theorem Inv.canon (hro : Ro H0) {μ : Mu} {H : VH} {w : World} (h : Inv w0 μ0 H0 μ H w) (fr : Fr) : ∃ μ', Inv w0 μ0 H0 μ' (canonH fr H) w ∧ ∀ v v', VR μ v v' → VR μ' (canonV fr H v) v' := by
  cases H with
  | nil => exact ⟨μ, h, fun _ _ h => h⟩
  | cons X H1 =>
    generalize hH : X :: H1 = H at h
    have e1 : ∀ v, canonV fr H v = ren2 (idxN (kept fr H)) v := fun v => by subst hH; rfl
    have e2 : canonH fr H = (kept fr H).map fun b => renB (idxN (kept fr H)) (hget H b) := by subst hH; rfl
    rw [e2]
    obtain ⟨k1, k2, r, k3⟩ := kept_ok fr H
    obtain ⟨p1, p2⟩ := h.hr.pick k1 k2 ⟨0, 0, 0, none⟩
    have hlead := lead_ge hro h.n0 h.oldH
    have hpre : ∀ b, b < H0.length → (kept fr H)[b]? = some b := fun b hb => by
      have hbl : b < leadRo H := Nat.lt_of_lt_of_le hb hlead
      rw [k3, List.getElem?_append_left (by simpa using hbl), List.getElem?_range hbl]
    have hlen : H0.length ≤ (kept fr H).length := by
      rw [k3]; simp; omega
    refine ⟨_, ⟨h.gl, p1, h.below, by simpa using hlen, fun b hb => ?_, fun b hb => ?_, fun b p hb hp => ?_⟩, fun v v' hv => by rw [e1]; exact hv.ren2 p2⟩
    · have hbl : b < μ.length := by rw [h.hr.len]; exact Nat.lt_of_lt_of_le hb h.n0
      rw [List.getElem?_map, hpre b hb]
      simp only [Option.map_some, List.getD, List.getElem?_eq_getElem hbl, Option.getD_some]
      rw [← h.oldμ b hb, List.getElem?_eq_getElem hbl]
    · rw [hget_mapL, hpre b hb]
      simp only
      rw [h.oldH b hb]
      rcases hro b with ⟨C, e, l, hx, hfl⟩ | hx
      · rw [hx]; simp only [renB, hfl, cond_true]
      · rw [hx]; rfl
    · rw [List.getElem?_map] at hp
      obtain ⟨c, hc, rfl⟩ := Option.map_eq_some_iff.1 hp
      have hcl : c < μ.length := by rw [h.hr.len]; exact k1 c (List.mem_of_getElem? hc)
      simp only [List.getD, List.getElem?_eq_getElem hcl, Option.getD_some]
      refine h.fresh c _ ?_ (List.getElem?_eq_getElem hcl)
      rcases Nat.lt_or_ge c H0.length with hlt | hge
      · exfalso
        have := nodup_at k2 hc (hpre c hlt)
        omega
      · exact hge

theorem SR.canon (hro : Ro H0) {μ : Mu} {fr : Fr} {H : VH} {a : Act} {w : World} (h : SR w0 μ0 H0 n μ fr H a w) : ∃ μ', SR w0 μ0 H0 n μ' (canonFr fr H) (canonH fr H) a w := by
  obtain ⟨μ', h1, h2⟩ := h.inv.canon hro fr
  refine ⟨μ', h1, fun t => ?_, h.sz, h.df⟩
  have : lk (canonFr fr H) t = canonV fr H (lk fr t) := by
    cases H with
    | nil => rfl
    | cons X H1 => exact lk_map _ rfl fr t
  rw [this]
  exact h2 _ _ (h.fr t)

variable {hint : List (Nat × List Nat)} {tb : Tab} {m : Nat} {prev : Code → Fr → VH → Kont → Prop}

theorem runS_sound (hm : P.follows .mixedOrders = true) (hc : CallOk P call) (hro : Ro H0)
    (hprev : ∀ (c : Code) (fr : Fr) (H : VH) (K : Kont) (μ : Mu) (a : Act) (w : World), wfC n c = true → TabOk P n tb c → tb.loops (firstReg c) = none → prev (.loop c) fr H K → SR w0 μ0 H0 n μ fr H a w → Code.rounds P c (QK w0 μ0 H0 n K) m a w) :
    ∀ (c : Code) (fr : Fr) (H : VH) (K : Kont) (μ : Mu) (a : Act) (w : World), wfC n c = true → TabOk P n tb c → runS P call hint tb prev c fr H K → SR w0 μ0 H0 n μ fr H a w →
      c.wp P (QK w0 μ0 H0 n K) a w := by
  intro c
  induction c with
  | skip => intro fr H K μ a w _ _ h sr; exact wp_skip ⟨.normal, rfl, fr, H, μ, sr, h⟩
  | label l => intro fr H K μ a w _ _ h sr; exact wp_label ⟨.normal, rfl, fr, H, μ, sr, h⟩
  | ret => intro fr H K μ a w _ _ h sr; exact wp_ret ⟨.ret, rfl, _, H, μ, sr.keep _, h⟩
  | exit id => intro fr H K μ a w _ _ h sr; exact wp_exit ⟨.exit id, rfl, _, H, μ, sr.keep _, h⟩
  | region id ops draw =>
    intro fr H K μ a w hwf _ h sr
    refine region_sound (K := fun fr H => K .normal (keepF (hintOf hint id) fr) H) hm hc hro (fun a' w' ⟨fr', H', μ', sr', hk⟩ => ⟨.normal, rfl, _, H', μ', sr'.keep _, hk⟩) hwf h sr
  | seq x y ihx ihy =>
    intro fr H K μ a w hwf ht h sr
    simp only [wfC, Bool.and_eq_true] at hwf
    obtain ⟨ht1, ht2, ht3⟩ := ht
    refine wp_seq (wp_mono (ihx fr H _ μ a w hwf.1 ht1 h sr) ?_)
    rintro e a' w' ⟨e', rfl, fr', H', μ', sr', hk⟩
    cases e' with
    | normal =>
      simp only at hk
      split at hk
      · rename_i sp hsp
        obtain ⟨μc, src⟩ := (sr'.keep (hintOf hint (3000 + firstReg y))).canon hro
        exact ht2 sp hsp w0 μ0 H0 hro _ _ K μc a' w' hk src
      · exact ihy fr' H' K μ' a' w' hwf.2 ht3 hk sr'
    | exit id => exact ⟨.exit id, rfl, fr', H', μ', sr', hk⟩
    | ret => exact ⟨.ret, rfl, fr', H', μ', sr', hk⟩
  | cond c x y ihx ihy =>
    intro fr H K μ a w hwf ht h sr
    simp only [wfC, Bool.and_eq_true] at hwf
    simp only [runS] at h
    split at h
    · rename_i t ht'
      have hev := ev_sound sr.fr c
      rw [ht'] at hev
      generalize hq : a.eval c = q at hev
      cases hev
      have lit : SR w0 μ0 H0 n μ (litF c t fr) H a w := by
        cases c with
        | tmp u => exact sr.lit ht'
        | const v => exact sr
        | global g => exact sr
        | func f => exact sr
      cases t with
      | true => exact wp_cond_true hq (ihx _ H K μ a w hwf.1 ht.1 h lit)
      | false => exact wp_cond_false hq (ihy _ H K μ a w hwf.2 ht.2 h lit)
    · exact h.elim
  | block id c ih =>
    intro fr H K μ a w hwf ht h sr
    refine wp_block (wp_mono (ih fr H _ μ a w hwf ht h sr) ?_)
    rintro e a' w' ⟨e', rfl, fr', H', μ', sr', hk⟩
    cases e' with
    | normal => exact ⟨.normal, rfl, fr', H', μ', sr', hk⟩
    | ret => exact ⟨.ret, rfl, fr', H', μ', sr', hk⟩
    | exit id' =>
      simp only [toExit, Exit.inBlock]
      cases hb : Nat.beq id' id with
      | true =>
        obtain rfl := Nat.eq_of_beq_eq_true hb
        simp only [hb, cond_true] at hk
        rw [if_pos rfl]
        exact ⟨.normal, rfl, fr', H', μ', sr', hk⟩
      | false =>
        have hne : id' ≠ id := fun e => by subst e; simp at hb
        simp only [hb, cond_false] at hk
        rw [if_neg hne]
        exact ⟨.exit id', rfl, fr', H', μ', sr', hk⟩
  | loop c ih =>
    intro fr H K μ a w hwf ht h sr
    simp only [runS] at h
    split at h
    · rename_i sp hsp
      obtain ⟨μc, src⟩ := (sr.keep (hintOf hint (4000 + firstReg c))).canon hro
      exact ht.1 sp hsp w0 μ0 H0 hro _ _ K μc a w h src
    · rename_i hsp
      refine wp_loop_rounds (m + 1) ?_
      rw [rounds_succ]
      obtain ⟨μc, src⟩ := (sr.keep (hintOf hint (4000 + firstReg c))).canon hro
      refine wp_mono (ih _ _ _ μc a w hwf ht.2 h src) ?_
      rintro e a' w' ⟨e', rfl, fr', H', μ', sr', hk⟩
      cases e' with
      | normal => exact hprev c fr' H' K μ' a' w' hwf ht.2 hsp hk sr'
      | exit id => exact ⟨.exit id, rfl, fr', H', μ', sr', hk⟩
      | ret => exact ⟨.ret, rfl, fr', H', μ', sr', hk⟩
  | scope c ih =>
    intro fr H K μ a w hwf ht h sr
    refine wp_scope_straight (wp_mono (ih fr H K μ a w hwf ht h sr) ?_)
    rintro e a' w' ⟨e', rfl, hk⟩
    cases e' <;> exact ⟨_, rfl, hk⟩
  | goto l => intro fr H K μ a w _ _ h sr; exact h.elim
  | refuse s => intro fr H K μ a w _ _ h sr; exact h.elim
  | rangeFunc f ps x y ihx ihy => intro fr H K μ a w _ _ h sr; exact h.elim

theorem run_rounds (hm : P.follows .mixedOrders = true) (hc : CallOk P call) (hro : Ro H0) :
    ∀ (k : Nat) (c : Code) (fr : Fr) (H : VH) (K : Kont) (μ : Mu) (a : Act) (w : World), wfC n c = true → TabOk P n tb c → tb.loops (firstReg c) = none → run P call hint tb k (.loop c) fr H K → SR w0 μ0 H0 n μ fr H a w →
      Code.rounds P c (QK w0 μ0 H0 n K) k a w
  | 0, c, fr, H, K, μ, a, w, _, _, _, h, _ => h.elim
  | k + 1, c, fr, H, K, μ, a, w, hwf, ht, hl, h, sr => by
    rw [rounds_succ]
    have h : runS P call hint tb (run P call hint tb k) (.loop c) fr H K := h
    simp only [runS, hl] at h
    obtain ⟨μc, src⟩ := (sr.keep (hintOf hint (4000 + firstReg c))).canon hro
    refine wp_mono (runS_sound (m := k) (prev := run P call hint tb k) hm hc hro (run_rounds hm hc hro k) c _ _ _ μc a w hwf ht h src) ?_
    rintro e a' w' ⟨e', rfl, fr', H', μ', sr', hk⟩
    cases e' with
    | normal => exact run_rounds hm hc hro k c fr' H' K μ' a' w' hwf ht hl hk sr'
    | exit id => exact ⟨.exit id, rfl, fr', H', μ', sr', hk⟩
    | ret => exact ⟨.ret, rfl, fr', H', μ', sr', hk⟩

theorem run_sound (hm : P.follows .mixedOrders = true) (hc : CallOk P call) (hro : Ro H0) (k : Nat) (c : Code) (fr : Fr) (H : VH) (K : Kont) (μ : Mu) (a : Act) (w : World)
    (hwf : wfC n c = true) (ht : TabOk P n tb c) (h : run P call hint tb k c fr H K) (sr : SR w0 μ0 H0 n μ fr H a w) : c.wp P (QK w0 μ0 H0 n K) a w := by
  cases k with
  | zero => exact h.elim
  | succ k => exact runS_sound (m := k) hm hc hro (run_rounds hm hc hro k) c fr H K μ a w hwf ht h sr

/-- A join's contract by a run. -/
theorem join_ok (hm : P.follows .mixedOrders = true) (hc : CallOk P call) {c : Code} {sp : LSpec} (hwf : wfC n c = true) (ht : TabOk P n tb c)
    (h : ∀ fr H K, sp fr H K → ∃ k, run P call hint tb k c fr H K) : CodeOk P n c sp := fun w0 μ0 H0 hro fr H K μ a w hs sr => by
  obtain ⟨k, hk⟩ := h fr H K hs
  exact run_sound hm hc hro k c fr H K μ a w hwf ht hk sr

theorem rnds_rounds (hm : P.follows .mixedOrders = true) (hc : CallOk P call) (hro : Ro H0) :
    ∀ (k : Nat) (c : Code) (fr : Fr) (H : VH) (K : Kont) (μ : Mu) (a : Act) (w : World), wfC n c = true → TabOk P n tb c → rnds P call hint tb k c fr H K → SR w0 μ0 H0 n μ fr H a w →
      Code.rounds P c (QK w0 μ0 H0 n K) k a w
  | 0, c, fr, H, K, μ, a, w, _, _, h, _ => h.elim
  | k + 1, c, fr, H, K, μ, a, w, hwf, ht, h, sr => by
    rw [rounds_succ]
    refine wp_mono (runS_sound (m := k) (prev := run P call hint tb k) hm hc hro (run_rounds hm hc hro k) c fr H _ μ a w hwf ht h sr) ?_
    rintro e a' w' ⟨e', rfl, fr', H', μ', sr', hk⟩
    cases e' with
    | normal =>
      obtain ⟨μc, src⟩ := (sr'.keep (hintOf hint (4000 + firstReg c))).canon hro
      exact rnds_rounds hm hc hro k c _ _ K μc a' w' hwf ht hk src
    | exit id => exact ⟨.exit id, rfl, fr', H', μ', sr', hk⟩
    | ret => exact ⟨.ret, rfl, fr', H', μ', sr', hk⟩

/-- A loop's contract by its rounds. -/
theorem loop_ok (hm : P.follows .mixedOrders = true) (hc : CallOk P call) {c : Code} {sp : LSpec} (hwf : wfC n c = true) (ht : TabOk P n tb c)
    (h : ∀ fr H K, sp fr H K → ∃ k, rnds P call hint tb k c fr H K) : CodeOk P n (.loop c) sp := fun w0 μ0 H0 hro fr H K μ a w hs sr => by
  obtain ⟨k, hk⟩ := h fr H K hs
  exact wp_loop_rounds k (rnds_rounds hm hc hro k c fr H K μ a w hwf ht hk sr)

/-! ### Functions -/
theorem lk_args {μ : Mu} : ∀ (l l' : List Value) (i t : Nat), VRs μ l l' → (lk (argsF i l) t = junk ∨ ∃ v', l'[t - i]? = some v' ∧ i ≤ t ∧ VR μ (lk (argsF i l) t) v')
  | [], _, _, _, _ => .inl rfl
  | v :: l, _, i, t, .cons (v' := v') (l' := l') hv hl => by
    simp only [argsF, lk]
    cases hb : Nat.beq i t with
    | true =>
      obtain rfl := Nat.eq_of_beq_eq_true hb
      exact .inr ⟨v', by simp, Nat.le_refl _, hv⟩
    | false =>
      have hne : i ≠ t := fun e => by subst e; simp at hb
      rcases lk_args l l' (i + 1) t hl with h | ⟨u, h1, h2, h3⟩
      · exact .inl h
      · refine .inr ⟨u, ?_, by omega, h3⟩
        rw [show t - i = (t - (i + 1)) + 1 by omega]
        simpa using h1

def resG (xs : Array Value) : ResultVar → Sem Value
  | .tmp t => pure (xs.getD t undef)
  | .cell a t => do loadVar t (← asAddr (xs.getD a undef))

theorem results_run {fn : Func} {xs : Array Value} {l' : List Value} {w : World} (h : (fn.results.toList.mapM (resG xs)).run P w = .ok l' w) :
    (results fn xs).run P w = .ok (if h : (⟨l'⟩ : Array Value).size = 1 then (⟨l'⟩ : Array Value)[0] else .tuple ⟨l'⟩) w := by
  have e : results fn xs = (do let vs ← fn.results.mapM (resG xs); pure (if h : vs.size = 1 then vs[0] else .tuple vs)) := by
    unfold results
    congr 1
  have e2 : fn.results = fn.results.toList.toArray := by simp
  have h4 : (fn.results.mapM (resG xs)).run P w = .ok ⟨l'⟩ w := by
    rw [e2, List.mapM_toArray]
    simp only [Sem.run_map, h, Result.andThen_ok]
  rw [e, Sem.run_bind, h4, Result.andThen_ok]
  rfl

theorem resF_sound {μ : Mu} {fr : Fr} {H : VH} {a : Act} {w : World} (hr : HR μ H w) (hW : Wd w) (h : ∀ t, VR μ (lk fr t) (a.tmps.getD t undef)) : ∀ (rs : List ResultVar) (c : Bool) (l : List Value), resF P fr H rs = some (c, l) → c = true →
    ∃ l', VRs μ l l' ∧ (rs.mapM (resG a.tmps)).run P w = .ok l' w
  | [], c, l, hs, _ => by
    obtain ⟨_, rfl⟩ := Prod.mk.inj (Option.some.inj hs)
    exact ⟨[], .nil, by simp⟩
  | .tmp t :: r, c, l, hs, hc => by
    simp only [resF] at hs
    split at hs
    · rename_i c2 l2 hl2
      obtain ⟨rfl, rfl⟩ := Prod.mk.inj (Option.some.inj hs)
      obtain ⟨l', h1, h2⟩ := resF_sound hr hW h r _ l2 hl2 hc
      refine ⟨_ :: l', .cons (h t) h1, ?_⟩
      rw [List.mapM_cons]
      simp only [Sem.run_bind, resG, Sem.run_pure, Result.andThen_ok, h2]
    · cases hs
  | .cell t0 t :: r, c, l, hs, hc => by
    simp only [resF] at hs
    split at hs
    · rename_i ad c1 v c2 l2 hp hv hl2
      obtain ⟨rfl, rfl⟩ := Prod.mk.inj (Option.some.inj hs)
      simp only [Bool.and_eq_true] at hc
      obtain ⟨l', h1, h2⟩ := resF_sound hr hW h r _ l2 hl2 hc.2
      obtain ⟨v', h3, h4⟩ := opV_sound ⟨none, .load t (.tmp t0), t, "", #[], none⟩ hr (ev_sound h) hv hc.1 (.inr hW)
      have hq := h t0
      rw [hp] at hq
      generalize hg : a.tmps.getD t0 undef = q at hq
      have h5 : (resG a.tmps (.cell t0 t)).run P w = .ok v' w := by
        cases hq with
        | ptr hb =>
          simp [execOp, Instr.loadAt, Instr.sureAddr, Act.eval, hg] at h3
          simp only [resG, hg, asAddr, Sem.run_bind, Sem.run_pure, Result.andThen_ok]
          revert h3
          generalize (loadVar t _).run P w = q
          intro h3
          cases q with
          | ok a w2 =>
            simp only [Result.andThen_ok] at h3
            cases h3
            rfl
          | halt x w2 => cases h3
        | glob =>
          simp [execOp, Instr.loadAt, Instr.sureAddr, Act.eval, hg] at h3
          simp only [resG, hg, asAddr, Sem.run_bind, Sem.run_pure, Result.andThen_ok]
          revert h3
          generalize (loadVar t _).run P w = q
          intro h3
          cases q with
          | ok a w2 =>
            simp only [Result.andThen_ok] at h3
            cases h3
            rfl
          | halt x w2 => cases h3
      refine ⟨v' :: l', .cons h4 h1, ?_⟩
      rw [List.mapM_cons]
      simp only [Sem.run_bind, h5, Sem.run_pure, Result.andThen_ok, h2]
    · cases hs

theorem oneOr_sound {μ : Mu} {l l' : List Value} (h : VRs μ l l') : VR μ (oneOr l) (if h : (⟨l'⟩ : Array Value).size = 1 then (⟨l'⟩ : Array Value)[0] else .tuple ⟨l'⟩) := by
  cases h with
  | nil => exact .tuple .nil
  | cons a b =>
    cases b with
    | nil => exact a
    | cons c d => exact .tuple (.cons a (.cons c d))

/-- **A run says what a call comes to.** -/
theorem runF_meets (hm : P.follows .mixedOrders = true) (hc : CallOk P call) (hro : Ro H0) {k : Nat} {f : FuncId} {fn : Func} {args : List Value} {K : Value → VH → Prop} (hf : P.funcs[f]? = some fn)
    (hwf : wfC fn.ntmps (bodyOf fn) = true) (ht : TabOk P fn.ntmps tb (bodyOf fn))
    (h : runF P call hint tb k fn args H0 K) : Meets P f args H0 K := by
  intro μ w args' hw hr hargs
  unfold runF at h
  cases hb : fn.body with
  | none => rw [hb] at h; exact h.elim
  | some c =>
    have hbo : bodyOf fn = c := by simp [bodyOf, hb, orSkip]
    rw [hb] at h
    rw [hbo] at hwf ht
    refine calls_of_wp hf hb ?_
    have sr : SR w μ H0 fn.ntmps μ (argsF 0 args) H0 { tmps := ⟨args'⟩ ++ Array.replicate (fn.ntmps - (⟨args'⟩ : Array Value).size) undef, defers := [] } w := by
      refine ⟨⟨hw, hr, Below.refl _ _, Nat.le_refl _, fun _ _ => rfl, fun _ _ => rfl, ?_⟩, fun t => ?_, by simp; omega, rfl⟩
      · intro b p hb hp
        have := mu_lt hp
        rw [hr.len] at this
        omega
      · rcases lk_args args args' 0 t hargs with h' | ⟨v', h1, _, h3⟩
        · rw [h']; exact .junk _
        · rw [Nat.sub_zero] at h1
          have h1' : args'[t]? = some v' := h1
          have : (⟨args'⟩ ++ Array.replicate (fn.ntmps - (⟨args'⟩ : Array Value).size) undef : Array Value).getD t undef = v' := by
            rw [Array.getD_eq_getD_getElem?, Array.getElem?_append]
            have hlt : t < args'.length := (List.getElem?_eq_some_iff.1 h1').1
            simp [hlt, h1']
            simpa [List.getElem?_eq_getElem hlt] using h1'
          rw [this]
          exact h3
    refine wp_mono (run_sound (P := P) hm hc hro k c _ H0 _ μ _ w hwf ht h sr) ?_
    rintro e a' w' ⟨e', rfl, fr', H', μ', sr', hk⟩
    have fin : (match resF P fr' H' fn.results.toList with | some (c, l) => need c (K (canonV [(0, oneOr l)] H' (oneOr l)) (canonH [(0, oneOr l)] H')) | none => False) →
        (a'.defers = [] ∧ ∃ v, (results fn a'.tmps).run P w' = .ok v w' ∧ ∃ (r r' : Value) (μ' : Mu) (H' : VH), Ending.returned v = .returned r' ∧ VR μ' r r' ∧ HR μ' H' w' ∧ Mu.le μ μ' ∧ H0.length ≤ H'.length ∧
      (∀ b, b < H0.length → hget H' b = hget H0 b) ∧ (∀ (b : Nat) (p : Place), H0.length ≤ b → μ'[b]? = some p → w.heap.size ≤ p.blk) ∧
      Below w.heap.size w w' ∧ K r H') := fun hk => by
      split at hk
      · rename_i cc l hl
        cases cc with
        | false => exact hk.elim
        | true =>
        obtain ⟨l', h1, h2⟩ := resF_sound (P := P) sr'.inv.hr sr'.inv.wd sr'.fr _ _ _ hl rfl
        obtain ⟨μc, c1, c2⟩ := sr'.inv.canon hro [(0, oneOr l)]
        refine ⟨sr'.df, _, ?_, _, _, μc, _, rfl, c2 _ _ (oneOr_sound h1), c1.hr, ?_, c1.n0, c1.oldH, c1.fresh, c1.below, hk⟩
        · exact results_run h2
        · intro b p hp
          have hbl := mu_lt hp
          rw [c1.oldμ b (by rw [← hr.len]; exact hbl)]
          exact hp
      · exact hk.elim
    cases e' with
    | normal => exact fin hk
    | ret => exact fin hk
    | exit id => exact hk.elim

end
end Go.Proofs.YtbgilaacfbinbaaGreatDoor.PM

namespace Go.Proofs.YtbgilaacfbinbaaGreatDoor.PM
open Go Go.RowKit
set_option linter.unusedVariables false
set_option linter.unusedSimpArgs false

theorem toR {G R : Prop} (h : G = R) (r : R) : G := h ▸ r
theorem bcase_of {b : Bool} {X Y : Prop} (hx : b = true → X) (hy : b = false → Y) : bcase b X Y := by
  cases b
  · exact hy rfl
  · exact hx rfl
theorem need_of {b : Bool} {X : Prop} (h : b = true) (x : X) : need b X := by subst h; exact x
theorem bcase_t {b : Bool} {X Y : Prop} (h : b = true) (x : X) : bcase b X Y := by subst h; exact x
theorem bcase_f {b : Bool} {X Y : Prop} (h : b = false) (y : Y) : bcase b X Y := by subst h; exact y

def closed1 (v : Value) : Bool :=
  match v with
  | .agg cs => plainL cs.toList
  | .func _ ⟨[]⟩ ⟨[]⟩ => true
  | v => plainV v
def closedL1 : List Value → Bool
  | [] => true
  | v :: r => closed1 v && closedL1 r
/-- No address in it. -/
def closedV (v : Value) : Bool :=
  match v with
  | .tuple vs => closedL1 vs.toList
  | v => closed1 v
def closedL : List Value → Bool
  | [] => true
  | v :: r => closedV v && closedL r

section
variable {μ ν : Mu}
theorem plainV_same {v v' : Value} (h : plainV v = true) (r : VR μ v v') : v' = v := by
  cases r <;> first | rfl | (simp [plainV] at h; done) | cases h

theorem plainL_same : ∀ {l l' : List Value}, plainL l = true → VRs μ l l' → l' = l
  | _, _, _, .nil => rfl
  | _, _, h, .cons a b => by
    simp only [plainL, Bool.and_eq_true] at h
    rw [plainV_same h.1 a, plainL_same h.2 b]

theorem closed1_same {v v' : Value} (h : closed1 v = true) (r : VR μ v v') : v' = v ∧ VR ν v v := by
  unfold closed1 at h
  split at h
  · cases r with
    | agg hl => exact ⟨by rw [plainL_same h hl], .agg (VRs.plain h)⟩
  · cases r with
    | func a b => cases a; cases b; exact ⟨rfl, .func .nil .nil⟩
  · exact ⟨plainV_same h r, VR.plain h⟩

theorem closedL1_same : ∀ {l l' : List Value}, closedL1 l = true → VRs μ l l' → l' = l ∧ VRs ν l l
  | _, _, _, .nil => ⟨rfl, .nil⟩
  | _, _, h, .cons a b => by
    simp only [closedL1, Bool.and_eq_true] at h
    obtain ⟨h1, h2⟩ := closed1_same (ν := ν) h.1 a
    obtain ⟨h3, h4⟩ := closedL1_same h.2 b
    exact ⟨by rw [h1, h3], .cons h2 h4⟩

theorem closedV_same {v v' : Value} (h : closedV v = true) (r : VR μ v v') : v' = v ∧ VR ν v v := by
  unfold closedV at h
  split at h
  · cases r with
    | tuple hl =>
      obtain ⟨h1, h2⟩ := closedL1_same (ν := ν) h hl
      exact ⟨by rw [h1], .tuple h2⟩
  · exact closed1_same h r

theorem closedL_same : ∀ {l l' : List Value}, closedL l = true → VRs μ l l' → l' = l ∧ VRs ν l l
  | _, _, _, .nil => ⟨rfl, .nil⟩
  | _, _, h, .cons a b => by
    simp only [closedL, Bool.and_eq_true] at h
    obtain ⟨h1, h2⟩ := closedV_same (ν := ν) h.1 a
    obtain ⟨h3, h4⟩ := closedL_same h.2 b
    exact ⟨by rw [h1, h3], .cons h2 h4⟩
end

theorem HR.empty (w : World) : HR [] [] w where
  len := rfl
  row b C e l m h := by cases b <;> cases h
  iter b s p h := by cases b <;> cases h
  sep b1 b2 C1 C2 e1 e2 l1 l2 m2 p1 p2 hne h := by cases b1 <;> cases h
  isep b1 b2 s1 s2 o1 o2 p1 p2 hne h := by cases b1 <;> cases h

theorem Ro.empty : Ro [] := fun b => by cases b <;> exact .inr rfl

/-- A contract of a function by what it yields: for every memory. -/
theorem Meets.lift {P : Program} {f : FuncId} {args : List Value} {K0 K : Value → VH → Prop} (h : Meets P f args [] K0) (ha : closedL args = true) (H : VH)
    (hk : ∀ r H', K0 r H' → closedV r = true ∧ K r H) : Meets P f args H K := by
  intro μ w args' hw hr hargs
  obtain ⟨rfl, h2⟩ := closedL_same (ν := []) ha hargs
  refine (h [] w _ hw (HR.empty w) h2).mono ?_
  rintro e w' ⟨r, r', μ', H', rfl, k1, _, _, _, _, _, k7, k8⟩
  obtain ⟨c1, c2⟩ := hk r H' k8
  obtain ⟨rfl, k1'⟩ := closedV_same (ν := μ) c1 k1
  exact ⟨_, _, μ, H, rfl, k1', hr.later k7.block k7.size, fun _ _ h => h, Nat.le_refl _, fun _ _ => rfl, fun b p hb hp => by
    have := mu_lt hp
    rw [hr.len] at this
    omega, k7, c2⟩

/-- What a function yields, on which condition. -/
abbrev Pure := List Value → Option (Prop × Value)

def pureS (g : Pure) : Spec := fun args H K => match g args with
  | some (c, r) => c ∧ K r H
  | none => False

/-- A function that yields this. -/
structure PureOk (P : Program) (f : FuncId) (g : Pure) : Prop where
  enter : callable P f
  args : ∀ args c r, g args = some (c, r) → closedL args = true
  meets : ∀ args c r, g args = some (c, r) → c → closedV r = true ∧ Meets P f args [] (fun r' _ => r' = r)

theorem PureOk.ok {P : Program} {f : FuncId} {g : Pure} (h : PureOk P f g) {args : List Value} {H : VH} {K : Value → VH → Prop} (hs : pureS g args H K) : callable P f ∧ Meets P f args H K := by
  unfold pureS at hs
  split at hs
  · rename_i c r hg
    obtain ⟨h1, h2⟩ := h.meets args c r hg hs.1
    exact ⟨h.enter, h2.lift (h.args args c r hg) H fun r' H' e => by subst e; exact ⟨h1, hs.2⟩⟩
  · exact hs.elim

/-- From the model's own contracts. -/
theorem Meets.of_calls {P : Program} {f : FuncId} {args : List Value} {r : Value} (ha : closedL args = true) (hr : closedV r = true)
    (h : ∀ w, Wd w → Calls P f ⟨args⟩ w fun e w' => e = .returned r ∧ Below w.heap.size w w') : Meets P f args [] (fun r' _ => r' = r) := by
  intro μ w args' hw hrr hargs
  obtain ⟨rfl, h2⟩ := closedL_same (ν := []) ha hargs
  refine (h w hw).mono ?_
  rintro e w' ⟨rfl, hb⟩
  have hv : VR μ r r := by
    have : ∀ v, closedV v = true → VR μ v v := by
      intro v hv
      unfold closedV at hv
      have one : ∀ u, closed1 u = true → VR μ u u := fun u hu => by
        unfold closed1 at hu
        split at hu
        · exact .agg (VRs.plain hu)
        · exact .func .nil .nil
        · exact VR.plain hu
      split at hv
      · rename_i vs
        obtain ⟨l⟩ := vs
        refine .tuple ?_
        have : ∀ l : List Value, closedL1 l = true → VRs μ l l := by
          intro l
          induction l with
          | nil => intro _; exact .nil
          | cons u l ih =>
            intro hl
            simp only [closedL1, Bool.and_eq_true] at hl
            exact .cons (one u hl.1) (ih hl.2)
        exact this l hv
      · exact one v hv
    exact this r hr
  exact ⟨r, r, μ, [], rfl, hv, hrr.later hb.block hb.size, fun _ _ h => h, Nat.le_refl _, fun _ hb => absurd hb (Nat.not_lt_zero _), fun _ _ _ hp => absurd (mu_lt hp) (by rw [hrr.len]; exact Nat.not_lt_zero _), hb, rfl⟩

/-- What a function is known to do, it does. -/
def SpecOk (P : Program) (f : FuncId) (sp : Spec) : Prop := ∀ args H K, sp args H K → callable P f ∧ Meets P f args H K

def callOf : List (Nat × Spec) → FuncId → Spec
  | [], _ => fun _ _ _ => False
  | (f', sp) :: r, f => bif Nat.beq f' f then sp else callOf r f

theorem callOf_nil {P : Program} : CallOk P (callOf []) := fun _ _ _ _ h => h.elim
theorem callOf_cons {P : Program} {f : Nat} {sp : Spec} {r : List (Nat × Spec)} (h : SpecOk P f sp) (hr : CallOk P (callOf r)) : CallOk P (callOf ((f, sp) :: r)) := fun f' args H K hs => by
  unfold callOf at hs
  cases hb : Nat.beq f f' with
  | true =>
    rw [hb] at hs
    obtain rfl := Nat.eq_of_beq_eq_true hb
    exact h args H K hs
  | false => rw [hb] at hs; exact hr f' args H K hs

theorem PureOk.spec {P : Program} {f : FuncId} {g : Pure} (h : PureOk P f g) : SpecOk P f (pureS g) := fun _ _ _ hs => h.ok hs

/-- A function by its run. -/
theorem PureOk.of_run {P : Program} {call : FuncId → Spec} {hint : List (Nat × List Nat)} {tb : Tab} {f : FuncId} {fn : Func} {c : Code} {g : Pure} (hm : P.follows .mixedOrders = true) (hc : CallOk P call)
    (hf : P.funcs[f]? = some fn) (hn : (fn.name == "runtime.NumGoroutine") = false) (hb : fn.body = some c) (hwf : wfC fn.ntmps (bodyOf fn) = true) (ht : TabOk P fn.ntmps tb (bodyOf fn))
    (h : ∀ args c r, g args = some (c, r) → closedL args = true ∧ (c → closedV r = true ∧ ∃ k, ∀ K : Value → VH → Prop, (∀ H, K r H) → runF P call hint tb k fn args [] K)) : PureOk P f g where
  enter := ⟨fn, c, hf, hn, hb⟩
  args args c r hg := (h args c r hg).1
  meets args c r hg hcc := by
    obtain ⟨h1, k, h2⟩ := (h args c r hg).2 hcc
    exact ⟨h1, runF_meets hm hc Ro.empty hf hwf ht (h2 _ fun _ => rfl)⟩

/-! ### Contracts of functions that hand back new rows -/
theorem HR.join {μ ν : Mu} {H G : VH} {w : World} {B : Nat} (h : HR μ H w) (g : HR ν G w) (hlt : ∀ b C e (l : List C.α) m p, hget H b = .row C e l m → μ[b]? = some p → p.blk < B)
    (hli : ∀ b s o p, hget H b = .iter s o → μ[b]? = some p → p.blk < B) (hge : ∀ (b : Nat) (p : Place), ν[b]? = some p → B ≤ p.blk) :
    HR (μ ++ ν) (H ++ G.map (renB fun b => some (H.length + b))) w := by
  have hf : ∀ (b c : Nat) (p : Place), (fun b => some (H.length + b)) b = some c → ν[b]? = some p → (μ ++ ν)[c]? = some p := fun b c p hc hp => by
    cases hc
    rw [List.getElem?_append_right (by rw [h.len]; omega), h.len, show H.length + b - H.length = b by omega]
    exact hp
  have cls : ∀ {b : Nat} {X : VB}, hget (H ++ G.map (renB fun b => some (H.length + b))) b = X → X ≠ .dead →
      (b < H.length ∧ hget H b = X ∧ (μ ++ ν)[b]? = μ[b]?) ∨ (∃ c, b = H.length + c ∧ X = renB (fun b => some (H.length + b)) (hget G c) ∧ (μ ++ ν)[b]? = ν[c]?) := by
    intro b X hg hX
    rcases Nat.lt_or_ge b H.length with hlt' | hge'
    · left
      rw [hget_append_lt hlt'] at hg
      exact ⟨hlt', hg, List.getElem?_append_left (by rw [h.len]; exact hlt')⟩
    · right
      obtain ⟨c, rfl⟩ : ∃ c, b = H.length + c := ⟨b - H.length, by omega⟩
      rw [hget_append_ge, hget_map _ rfl] at hg
      exact ⟨c, rfl, hg.symm, by rw [List.getElem?_append_right (by rw [h.len]; omega), h.len, show H.length + c - H.length = c by omega]⟩
  have lt : ∀ {b : Nat} {C : Codec} {e : Nat} {l : List C.α} {m : VMode} {p : Place}, hget H b = .row C e l m → μ[b]? = some p → p.blk < B := fun h1 h2 => hlt _ _ _ _ _ _ h1 h2
  refine ⟨by simp [h.len, g.len], ?_, ?_, ?_, ?_⟩
  · intro b C e l m hg
    rcases cls hg (by intro hh; cases hh) with ⟨_, k1, k2⟩ | ⟨c, rfl, k1, k2⟩
    · obtain ⟨p, hp, r⟩ := h.row b C e l m k1
      refine ⟨p, by rw [k2]; exact hp, r.mono (fun b p hp => by rw [List.getElem?_append_left (mu_lt hp)]; exact hp) (fun _ _ => rfl) (Nat.le_refl _)⟩
    · obtain ⟨l0, hg0, rfl⟩ := renB_row k1.symm
      obtain ⟨p, hp, r⟩ := g.row c C e l0 m hg0
      exact ⟨p, by rw [k2]; exact hp, r.ren hf⟩
  · intro b s o hg
    rcases cls hg (by intro hh; cases hh) with ⟨_, k1, k2⟩ | ⟨c, rfl, k1, k2⟩
    · obtain ⟨p, hp, r⟩ := h.iter b s o k1
      exact ⟨p, by rw [k2]; exact hp, r⟩
    · obtain ⟨p, hp, r⟩ := g.iter c s o (renB_iter k1.symm)
      exact ⟨p, by rw [k2]; exact hp, r⟩
  · intro b1 b2 C1 C2 e1 e2 l1 l2 m2 p1 p2 hne g1 g2 q1 q2 hblk i j hi hj hst
    rcases cls g1 (by intro hh; cases hh) with ⟨_, k1, k2⟩ | ⟨c1, rfl, k1, k2⟩
    · rw [k2] at q1
      rcases cls g2 (by intro hh; cases hh) with ⟨_, k3, k4⟩ | ⟨c2, rfl, k3, k4⟩
      · rw [k4] at q2
        exact h.sep b1 b2 C1 C2 e1 e2 l1 l2 m2 p1 p2 hne k1 k3 q1 q2 hblk i j hi hj hst
      · rw [k4] at q2
        have a1 := lt k1 q1
        have a2 := hge c2 p2 q2
        omega
    · rw [k2] at q1
      have a1 := hge c1 p1 q1
      rcases cls g2 (by intro hh; cases hh) with ⟨_, k3, k4⟩ | ⟨c2, rfl, k3, k4⟩
      · rw [k4] at q2
        have a2 := lt k3 q2
        omega
      · rw [k4] at q2
        obtain ⟨x1, hg1, rfl⟩ := renB_row k1.symm
        obtain ⟨x2, hg2, rfl⟩ := renB_row k3.symm
        rw [ren_len] at hj hst
        exact g.sep c1 c2 C1 C2 e1 e2 x1 x2 m2 p1 p2 (by omega) hg1 hg2 q1 q2 hblk i j hi hj hst
  · intro b1 b2 s1 s2 o1 o2 p1 p2 hne g1 g2 q1 q2
    rcases cls g1 (by intro hh; cases hh) with ⟨_, k1, k2⟩ | ⟨c1, rfl, k1, k2⟩
    · rw [k2] at q1
      have a1 := hli _ _ _ _ k1 q1
      rcases cls g2 (by intro hh; cases hh) with ⟨_, k3, k4⟩ | ⟨c2, rfl, k3, k4⟩
      · rw [k4] at q2
        exact h.isep b1 b2 s1 s2 o1 o2 p1 p2 hne k1 k3 q1 q2
      · rw [k4] at q2
        have a2 := hge c2 p2 q2
        omega
    · rw [k2] at q1
      have a1 := hge c1 p1 q1
      rcases cls g2 (by intro hh; cases hh) with ⟨_, k3, k4⟩ | ⟨c2, rfl, k3, k4⟩
      · rw [k4] at q2
        have a2 := hli _ _ _ _ k3 q2
        omega
      · rw [k4] at q2
        exact g.isep c1 c2 s1 s2 o1 o2 p1 p2 (by omega) (renB_iter k1.symm) (renB_iter k3.symm) q1 q2

/-- What a function yields, and the rows it has made. -/
abbrev Mem := List Value → Option (Prop × Value × VH)
def memS (g : Mem) : Spec := fun args H K => match g args with
  | some (c, r, G) => c ∧ K (ren2 (fun b => some (H.length + b)) r) (H ++ G.map (renB fun b => some (H.length + b)))
  | none => False

structure MemOk (P : Program) (f : FuncId) (g : Mem) : Prop where
  enter : callable P f
  args : ∀ args c r G, g args = some (c, r, G) → closedL args = true
  meets : ∀ args c r G, g args = some (c, r, G) → c → Meets P f args [] (fun r' G' => r' = r ∧ G' = G)

theorem MemOk.spec {P : Program} {f : FuncId} {g : Mem} (h : MemOk P f g) : SpecOk P f (memS g) := by
  intro args H K hs
  unfold memS at hs
  split at hs
  · rename_i c r G hg
    refine ⟨h.enter, fun μ w args' hw hr hargs => ?_⟩
    obtain ⟨rfl, h2⟩ := closedL_same (ν := []) (h.args args c r G hg) hargs
    refine (h.meets args' c r G hg hs.1 [] w _ hw (HR.empty w) h2).mono ?_
    rintro e w' ⟨r0, r', ν, G0, rfl, k1, k2, _, _, _, k6, k7, rfl, rfl⟩
    have hl := hr.later k7.block k7.size
    have hlt : ∀ {b : Nat} {C : Codec} {e : Nat} {l : List C.α} {m : VMode} {p : Place}, hget H b = .row C e l m → μ[b]? = some p → p.blk < w.heap.size := fun h1 h2 => by
      obtain ⟨p', hp', r⟩ := hr.row _ _ _ _ _ h1
      obtain rfl := Option.some.inj (hp'.symm.trans h2)
      exact r.blk
    have hli : ∀ {b : Nat} {s : ByteArray} {o : Nat} {p : Place}, hget H b = .iter s o → μ[b]? = some p → p.blk < w.heap.size := fun h1 h2 => by
      obtain ⟨p', hp', r, _⟩ := hr.iter _ _ _ h1
      obtain rfl := Option.some.inj (hp'.symm.trans h2)
      rcases Nat.lt_or_ge p'.blk w.heap.size with h' | h'
      · exact h'
      · rw [Array.getElem?_eq_none h'] at r; cases r
    have hj := hl.join (B := w.heap.size) k2 (fun b C e l m p => hlt) (fun b s o p => hli) (fun b p hp => k6 b p (Nat.zero_le _) hp)
    refine ⟨_, r', μ ++ ν, _, rfl, k1.ren2 (fun b c p hc hp => ?_), hj, fun b p hp => by rw [List.getElem?_append_left (mu_lt hp)]; exact hp, by simp, fun b hb => hget_append_lt hb, fun b p hb hp => ?_, k7, hs.2⟩
    · cases hc
      rw [List.getElem?_append_right (by rw [hr.len]; omega), hr.len, show H.length + b - H.length = b by omega]
      exact hp
    · rw [List.getElem?_append_right (by rw [hr.len]; exact hb)] at hp
      exact k6 _ p (Nat.zero_le _) hp
  · exact hs.elim

theorem MemOk.of_run {P : Program} {call : FuncId → Spec} {hint : List (Nat × List Nat)} {tb : Tab} {f : FuncId} {fn : Func} {c : Code} {g : Mem} (hm : P.follows .mixedOrders = true) (hc : CallOk P call)
    (hf : P.funcs[f]? = some fn) (hn : (fn.name == "runtime.NumGoroutine") = false) (hb : fn.body = some c) (hwf : wfC fn.ntmps (bodyOf fn) = true) (ht : TabOk P fn.ntmps tb (bodyOf fn))
    (h : ∀ args c r G, g args = some (c, r, G) → closedL args = true ∧ (c → ∃ k, ∀ K : Value → VH → Prop, K r G → runF P call hint tb k fn args [] K)) : MemOk P f g where
  enter := ⟨fn, c, hf, hn, hb⟩
  args args c r G hg := (h args c r G hg).1
  meets args c r G hg hcc := by
    obtain ⟨k, h2⟩ := (h args c r G hg).2 hcc
    exact runF_meets hm hc Ro.empty hf hwf ht (h2 _ ⟨rfl, rfl⟩)

theorem pos_of {t : ByteArray} (h : (t.toList == (ByteArray.mk #[]).toList) = false) : decide ((0 : Int) < (t.size : Int)) = true := by
  refine decide_eq_true ?_
  cases hz : t.size with
  | succ n => omega
  | zero =>
    have : t = ByteArray.mk #[] := ByteArray.ext (Array.eq_empty_of_size_eq_zero hz)
    subst this
    simp at h
theorem pos_of' {t : ByteArray} (h : (!(t.toList == (ByteArray.mk #[]).toList)) = true) : decide ((0 : Int) < (t.size : Int)) = true := pos_of (by simpa using h)
theorem bcase_not {b : Bool} {X Y : Prop} (h : bcase b Y X) : bcase (!b) X Y := by cases b <;> exact h
theorem bcase_tt (X Y : Prop) : bcase true X Y = X := rfl
theorem bcase_ff (X Y : Prop) : bcase false X Y = Y := rfl
theorem sz1 (c : UInt8) : (ByteArray.mk #[c]).size = 1 := rfl
end Go.Proofs.YtbgilaacfbinbaaGreatDoor.PM

namespace Go.Proofs.YtbgilaacfbinbaaGreatDoor.PM
open Go Go.Proofs Go.RowKit
set_option maxRecDepth 100000
set_option linter.unusedVariables false

/-- A row as one that is read alone. -/
def roB : VB → VB
  | .row C e l _ => bif C.flat then .row C e l .ro else .dead
  | _ => .dead
theorem roB_row {X : VB} {C : Codec} {e : Nat} {l : List C.α} {m : VMode} (h : roB X = .row C e l m) : C.flat = true ∧ m = .ro ∧ ∃ m', X = .row C e l m' := by
  cases X with
  | row C' e' l' m' =>
    have h : (bif C'.flat then VB.row C' e' l' .ro else VB.dead) = .row C e l m := h
    cases hf : C'.flat with
    | false => rw [hf] at h; cases h
    | true =>
      rw [hf, cond_true] at h
      cases h
      exact ⟨hf, rfl, m', rfl⟩
  | iter s p => cases h
  | dead => cases h
theorem roB_iter {X : VB} {s : ByteArray} {p : Nat} (h : roB X = .iter s p) : False := by
  cases X with
  | row C' e' l' m' =>
    have h : (bif C'.flat then VB.row C' e' l' .ro else VB.dead) = .iter s p := h
    cases hf : C'.flat <;> rw [hf] at h <;> cases h
  | iter s p => cases h
  | dead => cases h
theorem hget_mapB {f : VB → VB} (hd : f .dead = .dead) : ∀ (H : VH) (b : Nat), hget (H.map f) b = f (hget H b)
  | [], b => by cases b <;> exact hd.symm
  | x :: H, 0 => rfl
  | x :: H, b + 1 => hget_mapB hd H b
theorem HR.toRo {μ : Mu} {H : VH} {w : World} (h : HR μ H w) : HR μ (H.map roB) w := by
  have hg := hget_mapB (f := roB) rfl H
  refine ⟨by rw [List.length_map]; exact h.len, ?_, ?_, ?_, ?_⟩
  · intro b C e l m hb
    rw [hg] at hb
    obtain ⟨h1, rfl, m', hX⟩ := roB_row hb
    obtain ⟨p, hp, r⟩ := h.row b C e l m' hX
    exact ⟨p, hp, r.pe, r.blk, r.lens, r.cells, fun hm => by cases hm⟩
  · intro b s p hb
    rw [hg] at hb
    exact (roB_iter hb).elim
  · intro b1 b2 C1 C2 e1 e2 l1 l2 m2 p1 p2 hne g1
    rw [hg] at g1
    obtain ⟨_, hm, _⟩ := roB_row g1
    cases hm
  · intro b1 b2 s1 s2 o1 o2 p1 p2 hne g1
    rw [hg] at g1
    exact (roB_iter g1).elim
abbrev Read := List Value → VH → Option (Prop × Value)
/-- What is read at, of what there is. -/
def readS (g : Read) : Spec := fun args H K =>
  match g (args.map (ren2 (idxN (reach H 100 (idsL ids2 args) [])))) ((reach H 100 (idsL ids2 args) []).map fun b => roB (renB (idxN (reach H 100 (idsL ids2 args) [])) (hget H b))) with
  | some (c, r) => c ∧ K r H
  | none => False
structure ReadOk (P : Program) (f : FuncId) (g : Read) : Prop where
  enter : callable P f
  meets : ∀ args H c r, g args H = some (c, r) → c → closedV r = true ∧ Meets P f args H (fun r' _ => r' = r)
theorem ReadOk.spec {P : Program} {f : FuncId} {g : Read} (h : ReadOk P f g) : SpecOk P f (readS g) := by
  intro args H K hs
  unfold readS at hs
  split at hs
  · rename_i c r hg
    obtain ⟨c1, hm⟩ := h.meets _ _ c r hg hs.1
    refine ⟨h.enter, fun μ w args' hw hr hargs => ?_⟩
    obtain ⟨k1, k2, _⟩ := reach_ok (H := H) 100 (idsL ids2 args) [] (fun b hb => by cases hb) List.nodup_nil
    obtain ⟨p1, p2⟩ := hr.pick k1 k2 ⟨0, 0, 0, none⟩
    have p3 := p1.toRo
    rw [List.map_map] at p3
    refine (hm _ w args' hw p3 (hargs.mapR fun hv => hv.ren2 p2)).mono ?_
    rintro e w' ⟨r0, r', μ', H', rfl, q1, _, _, _, _, _, q7, rfl⟩
    obtain ⟨rfl, q1'⟩ := closedV_same (ν := μ) c1 q1
    exact ⟨_, _, μ, H, rfl, q1', hr.later q7.block q7.size, fun _ _ h => h, Nat.le_refl _, fun _ _ => rfl, fun b p hb hp => by
      have := mu_lt hp
      rw [hr.len] at this
      omega, q7, hs.2⟩
  · exact hs.elim
theorem ReadOk.of_run {P : Program} {call : FuncId → Spec} {hint : List (Nat × List Nat)} {tb : Tab} {f : FuncId} {fn : Func} {c : Code} {g : Read} (hm : P.follows .mixedOrders = true) (hc : CallOk P call)
    (hf : P.funcs[f]? = some fn) (hn : (fn.name == "runtime.NumGoroutine") = false) (hb : fn.body = some c) (hwf : wfC fn.ntmps (bodyOf fn) = true) (ht : TabOk P fn.ntmps tb (bodyOf fn))
    (h : ∀ args H c r, g args H = some (c, r) → Ro H ∧ (c → closedV r = true ∧ ∃ k, ∀ K : Value → VH → Prop, (∀ H, K r H) → runF P call hint tb k fn args H K)) : ReadOk P f g where
  enter := ⟨fn, c, hf, hn, hb⟩
  meets args H c r hg hcc := by
    obtain ⟨h0, h1⟩ := h args H c r hg
    obtain ⟨h1, k, h2⟩ := h1 hcc
    exact ⟨h1, runF_meets hm hc h0 hf hwf ht (h2 _ fun _ => rfl)⟩
theorem Ro.cons {C : Codec} {e : Nat} {l : List C.α} {H : VH} (hf : C.flat = true) (h : Ro H) : Ro (.row C e l .ro :: H) := fun b => by
  cases b with
  | zero => exact .inl ⟨C, e, l, rfl, hf⟩
  | succ b => exact h b
theorem PureOk.read {P : Program} {f : FuncId} {g : Pure} (h : PureOk P f g) : callable P f := h.enter
end Go.Proofs.YtbgilaacfbinbaaGreatDoor.PM

namespace Go.Proofs.YtbgilaacfbinbaaGreatDoor.PM
open Go Go.Proofs
set_option linter.unusedVariables false

/-- A list's bytes, and a text's list. -/
abbrev ofL (l : List UInt8) : ByteArray := ⟨l.toArray⟩
abbrev li (s : ByteArray) : List UInt8 := s.data.toList
theorem ofL_li (s : ByteArray) : ofL (li s) = s := by cases s; rfl
theorem li_ofL (l : List UInt8) : li (ofL l) = l := rfl
theorem li_inj {s t : ByteArray} (h : li s = li t) : s = t := by rw [← ofL_li s, ← ofL_li t, h]
theorem ofL_append (a b : List UInt8) : ofL a ++ ofL b = ofL (a ++ b) := by
  apply ByteArray.ext; simp
theorem li_append (s t : ByteArray) : li (s ++ t) = li s ++ li t := by show (s ++ t).data.toList = _; rw [ByteArray.data_append, Array.toList_append]
theorem li_size (s : ByteArray) : (li s).length = s.size := Array.length_toList
theorem li_extract (s : ByteArray) (a b : Nat) : li (s.extract a b) = ((li s).take b).drop a := by
  simp [li, ByteArray.data_extract, Array.toList_extract, List.drop_take]
theorem bt_li (s : ByteArray) (i : Int) : bt s i = (((li s).getD i.toNat 0).toNat : Int) := rfl
/-- Equal texts. -/
theorem eq_of {s t : ByteArray} (h : (s.toList == t.toList) = true) : s = t := by
  rw [beq_iff_eq, ByteArray.toList_eq, ByteArray.toList_eq] at h
  exact li_inj h
theorem eq_iff (s t : ByteArray) : (s.toList == t.toList) = decide (s = t) := by
  cases h : s.toList == t.toList with
  | true => rw [eq_of h]; simp
  | false =>
    symm
    refine decide_eq_false fun e => ?_
    subst e
    simp at h
theorem size_of {s t : ByteArray} (h : (s.toList == t.toList) = true) : s.size = t.size := by rw [eq_of h]
theorem size_or (s t : ByteArray) : (s.toList == t.toList) = false ∨ ((s.toList == t.toList) = true ∧ s.size = t.size) := by
  cases h : s.toList == t.toList with
  | false => exact .inl rfl
  | true => exact .inr ⟨rfl, size_of h⟩
theorem eqs (s : ByteArray) : (s.toList == s.toList) = true := beq_self_eq_true _
theorem wrap_id {x : Int} (h0 : -(2 ^ 63) ≤ x) (h1 : x < 2 ^ 63) : IntKind.i64.wrap x = x := by
  unfold IntKind.wrap
  simp only [IntKind.bits, IntKind.signed]
  simp
  omega
theorem wrap_u8 {x : Int} (h0 : 0 ≤ x) (h1 : x < 256) : IntKind.u8.wrap x = x := by
  show x % 256 = x
  omega
theorem toList_empty (s : ByteArray) : (s.toList == (ByteArray.mk #[]).toList) = (s.size == 0) := by
  rw [eq_iff]
  cases h : s.size == 0 with
  | true =>
    have h := beq_iff_eq.1 h
    refine decide_eq_true (li_inj ?_)
    exact List.eq_nil_of_length_eq_zero (by rw [li_size]; exact h)
  | false =>
    refine decide_eq_false fun e => ?_
    rw [e] at h
    cases h
abbrev isS (s : ByteArray) (l : List UInt8) : Bool := s.toList == (ByteArray.mk l.toArray).toList
theorem isS_li (s : ByteArray) (l : List UInt8) : isS s l = true ↔ li s = l := by
  unfold isS
  rw [eq_iff, decide_eq_true_eq]
  exact ⟨fun h => by rw [h], fun h => li_inj h⟩
theorem bt_range (s : ByteArray) (i : Int) : 0 ≤ bt s i ∧ bt s i < 256 := by
  have := ((s.data.toList.getD i.toNat 0).toNat_lt)
  show 0 ≤ (((s.data.toList.getD i.toNat 0).toNat : Nat) : Int) ∧ (((s.data.toList.getD i.toNat 0).toNat : Nat) : Int) < 256
  omega
/-- A proposition that comes more than once, named. -/
def share (p : Prop) (q : Prop → Prop) : Prop := q p
theorem share_i {p : Prop} {q : Prop → Prop} (h : p) (g : q True) : share p q := by
  have : p = True := by simp [h]
  subst this
  exact g
end Go.Proofs.YtbgilaacfbinbaaGreatDoor.PM

namespace Go.Proofs.YtbgilaacfbinbaaGreatDoor.PM
def hints : Nat → List (Nat × List Nat)
  | 2 => [(0, []), (999, [])]
  | 3 => [(0, [0, 1]), (1, [0, 1, 12]), (2, [4]), (3, [0, 1, 5, 6]), (4, [0, 1, 5, 6, 7, 8]), (5, [0, 1, 31]), (6, [4]), (7, [0, 1, 42]), (8, [4]), (9, [0, 1, 9]), (10, [0, 1, 9, 10]), (11, [0, 1, 9, 10, 49]), (12, [0, 1, 9, 10]), (13, [0, 1, 9, 10]), (14, [5, 6, 9]), (15, [5, 6, 7, 8]), (16, [4]), (999, [4]), (1000, [9]), (1001, [0, 1, 9, 10]), (3003, [0, 1]), (3007, [0, 1]), (3009, [0, 1]), (3012, [0, 1, 9, 10]), (3013, [0, 1, 9, 10]), (3014, [9])]
  | 4 => [(0, [0, 3]), (1, [0, 3, 19]), (2, [4]), (3, [3, 5, 6]), (4, [3, 5, 32]), (5, [4]), (6, [3, 5, 7]), (7, [3, 5, 7]), (8, [3, 5, 7, 8]), (9, [3, 5, 7, 8, 9]), (10, [3, 5, 7, 8, 9]), (11, [3, 5, 7, 8, 9, 10]), (12, [3, 5, 7, 8, 9, 10, 11]), (13, [3, 5, 7, 8, 9, 10, 11, 78]), (14, [3, 5, 7, 8, 9, 10, 11]), (15, [3, 5, 7, 8, 9, 10, 11]), (16, [3, 5, 7, 8, 9, 10, 11]), (17, [12]), (18, [12, 13]), (19, [12, 13, 114]), (20, [12, 13]), (21, [12, 13, 14, 15]), (22, [12, 13, 14, 15, 16, 17]), (23, [12, 13, 139]), (24, [4]), (25, [4]), (999, [4]), (1000, [3, 5, 7, 8]), (1001, [3, 5, 7, 8, 9, 10, 11]), (1002, []), (1003, [12, 13]), (3003, [0, 3]), (3006, [3, 5]), (3014, [3, 5, 7, 8, 9, 10, 11]), (3015, [3, 5, 7, 8, 9, 10, 11]), (3017, [3, 5, 7, 8]), (3020, [12, 13]), (3021, [12, 13]), (3025, [])]
  | 5 => [(0, [0, 1]), (1, [0, 1, 16]), (2, [4]), (3, [0, 1, 5, 6]), (4, [0, 1, 5, 6, 24]), (5, [4]), (6, [0, 1, 5, 52]), (7, [4]), (8, [0, 1, 5, 7, 8]), (9, [0, 1, 5, 7, 8, 10]), (10, [0, 1, 5, 7, 8, 10, 12]), (11, [0, 7, 8, 10, 12, 13, 14]), (12, [4]), (999, [4]), (2006, [0, 1, 2, 3, 4, 5, 6, 7, 8, 9, 10, 11, 12, 13, 14, 1015, 1016, 17, 18]), (3003, [0, 1]), (3006, [0, 1, 5]), (3008, [0, 1, 5])]
  | 6 => [(0, [0, 1, 2]), (1, [0, 1, 2, 24]), (2, [6]), (3, [0, 1, 2, 7]), (4, [0, 1, 2, 7, 29]), (5, [0, 1, 2, 7]), (6, [0, 1, 2, 7, 56]), (7, [6]), (8, [0, 1, 2, 8, 9]), (9, [0, 1, 2, 8, 9, 64]), (10, [6]), (11, [0, 1, 2, 8, 76]), (12, [6]), (13, [0, 1, 2, 10]), (14, [2, 10, 11]), (15, [10, 11]), (16, [11, 13]), (17, [13, 105]), (18, [6]), (19, [6]), (999, [6]), (1000, [0, 1, 2]), (1001, [0, 1, 2, 7]), (3003, [0, 1, 2]), (3005, [0, 1, 2, 7]), (3006, [0, 1, 2, 7]), (3008, [0, 1, 2]), (3011, [0, 1, 2, 8]), (3013, [0, 1, 2, 8]), (3019, [13])]
  | 7 => [(0, [0, 1]), (1, [0, 1, 18]), (2, [4]), (3, [0, 1, 5, 6]), (4, [0, 1, 5, 6, 7, 8]), (5, [0, 1, 5, 7, 35]), (6, [4]), (7, [0, 1, 5, 7, 39]), (8, [4]), (9, [0, 1, 5, 7, 9, 10]), (10, [0, 1, 5, 7, 9, 10, 11, 12]), (11, [4]), (999, [4]), (3003, [0, 1]), (3007, [0, 1, 5, 7]), (3009, [0, 1, 5, 7])]
  | 8 => [(0, [0, 1]), (1, [0, 1, 5]), (2, [0, 1, 5, 9]), (3, [0, 1, 5]), (4, [0, 1, 5, 36]), (5, [4]), (6, [4]), (999, [4]), (1000, [0, 1]), (1001, [0, 1, 5]), (3003, [0, 1, 5]), (3004, [0, 1, 5]), (3006, [0, 1])]
  | 9 => [(0, []), (1, [1, 2]), (2, [1, 2, 3, 4]), (3, [1, 2, 3, 4, 6]), (4, [1, 2, 3, 4, 6, 8]), (5, [1, 2, 3, 4, 6, 8, 9, 10]), (6, [0]), (999, [0])]
  | 10 => [(0, [0]), (1, [0, 9]), (2, [2, 3]), (3, [0, 4]), (4, [4, 10, 11, 12]), (5, [4, 10, 11, 12, 13]), (6, [4, 6, 10, 11, 12]), (7, [4, 6, 10, 11, 12, 18]), (8, [2, 3]), (9, [4, 10, 11, 12]), (10, [4, 10, 11, 12]), (11, [4]), (12, [2, 3]), (999, [2, 3]), (1000, [4]), (1001, [4, 10, 11, 12]), (3003, [0]), (3006, [4, 10, 11, 12]), (3009, [4, 6, 10, 11, 12]), (3010, [4, 10, 11, 12]), (3011, [4])]
  | 11 => [(0, [0]), (1, [0, 10]), (2, [2, 3]), (3, [0, 4]), (4, [0, 4, 5]), (5, [0, 4, 5, 14]), (6, [0, 4, 5]), (7, [0, 4, 5, 6]), (8, [0, 4, 5, 6, 23]), (9, [2, 3]), (10, [0, 4, 5, 6, 7]), (11, [0, 4, 5, 6, 7, 27]), (12, [0, 4, 5, 6, 7]), (13, [0, 4, 5, 6, 7, 34]), (14, [0, 4, 5, 6, 7]), (15, [0, 4, 5, 6, 7, 41]), (16, [0, 4, 5, 6]), (17, [0, 4, 5]), (18, [2, 3]), (999, [2, 3]), (1000, [4]), (1001, [0, 4, 5]), (2017, [0, 1, 2002, 3, 2004, 5, 2006, 7, 2008, 9, 10, 2011, 12, 2013, 14, 15, 18, 2019, 1016, 17, 1020, 21, 22]), (3003, [0]), (3006, [0, 4, 5]), (3007, [0, 4, 5]), (3010, [0, 4, 5, 6]), (3013, [0, 4, 5, 6, 7]), (3015, [0, 4, 5, 6, 7]), (3017, [0, 4, 5, 6]), (3018, [4])]
  | 12 => [(0, [0]), (1, [0, 3]), (2, [0, 3, 4]), (3, [0, 3, 4, 6]), (4, [0, 3, 4]), (5, [0, 3, 4, 14]), (6, [0, 3, 4]), (7, [0, 3, 4]), (8, [2]), (999, [2]), (1000, [3]), (1001, [0, 3, 4]), (3004, [0, 3, 4]), (3005, [0, 3, 4]), (3008, [3])]
  | 13 => [(0, [0, 2]), (1, [2, 4]), (2, [2, 4, 5, 6]), (3, [2, 4, 5, 19]), (4, [2, 3]), (5, [2, 4, 5, 22]), (6, [2, 25]), (7, [2, 3]), (8, [2, 3]), (9, [2, 4, 6, 7]), (10, [2, 4, 7, 33]), (11, [2, 3]), (12, [2, 4, 7, 35]), (13, [2, 4, 7, 35, 36]), (14, [2, 4, 7, 35, 38]), (15, [2, 4, 7, 35, 40]), (16, [2, 4, 7, 35, 40]), (17, [2, 4, 7, 35, 40]), (18, [2, 4, 7, 40]), (19, [2, 4, 48]), (20, [2, 3]), (21, [2, 4, 7]), (22, [2, 4, 8, 9]), (23, [2, 4, 8, 9, 57]), (24, [2, 3]), (25, [2, 4, 8, 61]), (26, [2, 3]), (27, [2, 4]), (28, [2, 3]), (999, [2, 3]), (1000, [2, 3]), (1001, [2, 4]), (1002, [2, 4]), (1003, [2, 4, 7]), (1004, [2, 4, 7]), (1005, [2, 4, 7]), (1006, []), (3005, [2, 4, 5]), (3008, [2]), (3009, [2, 4, 5]), (3012, [2, 4, 7]), (3014, [2, 4, 7, 35]), (3015, [2, 4, 7, 35]), (3019, [2, 4, 7]), (3021, [2, 4, 7]), (3022, [2, 4, 7]), (3025, [2, 4, 8]), (3027, [2, 4, 8]), (3028, []), (4002, [2, 4])]
  | 14 => [(0, [0]), (1, [0, 4]), (2, [0, 4, 5]), (3, [0, 4, 5, 6]), (4, [0, 4, 5, 6, 21]), (5, [0, 4, 5, 6, 7]), (6, [0, 4, 5, 6, 7]), (7, [0, 4, 5, 6, 7, 27]), (8, [4, 38]), (9, [2, 3]), (10, [2, 3]), (11, [0, 4, 5, 6, 7, 8, 9, 10]), (12, [0, 4, 5, 6, 7, 8, 9, 10, 69]), (13, [2, 3]), (14, [0, 4, 5, 6, 7, 8, 9, 10, 91]), (15, [2, 3]), (16, [0, 4, 5, 6, 7, 8, 9, 10, 93]), (17, [0, 4, 5, 6, 9, 11]), (18, [0, 4, 5, 9, 11, 104]), (19, [2, 3]), (20, [0, 4, 5, 11, 12, 13]), (21, [0, 4, 5, 11, 12, 113]), (22, [2, 3]), (23, [0, 4, 5, 6]), (24, [0, 4, 5, 7, 9, 10, 14]), (25, [0, 4, 5, 7, 9, 10, 14, 15]), (26, [0, 4, 5, 7, 9, 10, 14, 15, 128]), (27, [0, 4, 5, 7, 9, 10, 14]), (28, [0, 4, 5, 7, 9, 10, 14, 138]), (29, [0, 4, 5, 7, 9, 10, 14]), (30, [0, 4, 5, 9, 10, 14, 16]), (31, [0, 4, 5, 9, 10, 14, 16, 150]), (32, [0, 4, 5, 9, 10, 14, 16]), (33, [0, 4, 5, 9, 14, 16, 155]), (34, [0, 4, 5, 9, 14, 16, 155, 156]), (35, [0, 4, 5, 9, 14]), (36, [0, 4, 5, 9, 14, 16, 155, 161]), (37, [0, 4, 5, 9, 14]), (38, [0, 4, 5, 9, 14, 166]), (39, [0, 4, 5, 9, 14]), (40, [0, 4, 5, 9, 14, 177]), (41, [0, 4, 5, 9, 14]), (42, [0, 4, 5, 9, 14, 17]), (43, [0, 4, 5, 9, 14, 17, 203]), (44, [2, 3]), (45, [0, 4, 5, 14]), (46, [0, 4, 5, 14, 18]), (47, [0, 4, 5, 14, 18, 220]), (48, [0, 4, 5, 14, 18]), (49, [0, 4, 5, 14, 18, 225]), (50, [2, 3]), (51, [0, 4, 5, 14, 229]), (52, [2, 3]), (53, [0, 4, 5, 6]), (54, [2, 3]), (999, [2, 3]), (1000, []), (1001, [0, 4, 5, 6]), (1002, [0, 4, 5, 9, 14]), (2011, [0, 1, 3, 4, 6, 7, 1002, 1005, 8, 9, 10]), (2012, [0, 1, 2, 3, 4, 5, 6, 7, 8, 10, 1009, 1011, 12, 13, 14, 15, 16, 1017, 18, 19, 20, 21]), (2023, [2000, 1, 2, 3, 1004, 5, 6]), (2045, [0, 1, 2, 3, 4, 5, 6, 1007, 8]), (3005, [0, 4, 5, 6]), (3010, [4]), (3011, [0, 4, 5, 6, 7]), (3014, [0, 4, 5, 6, 7, 8, 9, 10]), (3016, [0, 4, 5, 6, 7, 8, 9, 10]), (3020, [0, 4, 5, 9, 11]), (3023, [0, 4, 5, 11, 12]), (3024, [0, 4, 5, 7, 8, 9, 10]), (3028, [0, 4, 5, 7, 9, 10, 14]), (3030, [0, 4, 5, 7, 9, 10, 14]), (3033, [0, 4, 5, 9, 10, 14, 16]), (3040, [0, 4, 5, 9, 14]), (3042, [0, 4, 5, 9, 14]), (3045, [0, 4, 5, 9, 14, 17]), (3049, [0, 4, 5, 14, 18]), (3051, [0, 4, 5, 14]), (3053, [0, 4, 5, 14]), (3054, []), (4004, [0, 4, 5, 6])]
  | 15 => [(0, [0, 1]), (1, [0, 1, 10]), (2, [4]), (3, [0, 1, 5]), (4, [0, 1, 5, 14]), (5, [0, 1, 5]), (6, [0, 1, 5, 25]), (7, [4]), (8, [4]), (999, [4]), (1000, []), (1001, [0, 1, 5]), (3003, [0, 1]), (3005, [0, 1, 5]), (3006, [0, 1, 5]), (3008, [])]
  | 16 => [(0, [1]), (1, [1, 3]), (2, [2]), (999, [2])]
  | 17 => [(0, [0, 1]), (1, [0, 1]), (2, [1]), (3, [4, 5]), (999, [4, 5])]
  | 18 => [(0, [1]), (1, [1, 3]), (2, [1, 3, 8]), (3, [1, 3]), (4, [1, 3, 17]), (5, [1, 3]), (6, [1, 3, 4]), (7, [1, 3, 4, 24]), (8, [1, 4]), (9, [2]), (999, [2]), (2009, [0, 1, 2002, 3, 2004, 5, 2006, 7, 2008, 9, 10, 2011, 12, 2013, 16, 2017, 1014, 15, 1018, 19, 20]), (3004, [1, 3]), (3006, [1, 3]), (3009, [1, 4])]
  | 19 => [(0, [0]), (1, [2]), (999, [2])]
  | 20 => [(0, [0]), (1, [2]), (999, [2]), (2001, [7000, 0, 5, 6002, 1, 84, 2, 6002, 3, 32, 6002, 4, 6, 1006, 7, 1008, 1009, 1010, 11, 6, 21, 7, 6002, 4, 4, 1008, 1009, 1010, 11, 8, 11, 6002, 4, 3, 1009, 1010, 11, 9, 3, 1004, 1010, 11, 6, 46, 7, 6002, 3, 20, 6002, 4, 4, 1008, 1009, 1010, 11, 8, 11, 6002, 4, 3, 1009, 1010, 11, 9, 3, 1004, 1010, 11, 8, 20, 6002, 3, 11, 6002, 4, 3, 1009, 1010, 11, 9, 3, 1004, 1010, 11, 9, 4, 1003, 1004, 1010, 11, 6, 84, 7, 6002, 1, 46, 2, 6002, 3, 20, 6002, 4, 4, 1008, 1009, 1010, 11, 8, 11, 6002, 4, 3, 1009, 1010, 11, 9, 3, 1004, 1010, 11, 8, 20, 6002, 3, 11, 6002, 4, 3, 1009, 1010, 11, 9, 3, 1004, 1010, 11, 9, 4, 1003, 1004, 1010, 11, 8, 32, 6002, 1, 21, 2, 6002, 3, 11, 6002, 4, 3, 1009, 1010, 11, 9, 3, 1004, 1010, 11, 9, 4, 1003, 1004, 1010, 11, 9, 6, 1001, 2, 1003, 1004, 1010, 11])]
  | 21 => [(0, [1]), (1, [1, 36]), (2, [2]), (3, [1, 39]), (4, [2]), (5, [2]), (999, [2]), (3003, [1]), (3005, [1])]
  | 22 => [(0, [0, 1]), (1, [0, 1, 5]), (2, [0, 1, 5, 8]), (3, [0, 1, 5]), (4, [0, 1, 5, 6]), (5, [0, 1, 5, 6, 23]), (6, [4]), (7, [4]), (999, [4]), (1000, []), (1001, [0, 1, 5]), (3003, [0, 1, 5]), (3004, [0, 1, 5]), (3007, [])]
  | 23 => [(0, [0, 1, 2, 3, 4]), (1, [1, 4, 11]), (2, [11, 12]), (3, [10]), (999, [10])]
  | 24 => [(0, [0]), (1, [2]), (999, [2])]
  | 25 => [(0, [0]), (1, [2]), (999, [2])]
  | 26 => [(0, [0, 1]), (1, [0, 1, 6]), (2, [0, 1, 6, 17]), (3, [4, 5]), (4, [0, 6, 7]), (5, [7]), (6, [4, 5]), (999, [4, 5]), (3004, [0, 1, 6])]
  | 27 => [(0, [0]), (1, [2]), (999, [2])]
  | 28 => [(0, [0, 2]), (1, [0, 2, 4, 5]), (2, [0, 2, 4, 5, 6, 7]), (3, [0, 2, 4, 5, 6, 7, 8, 9]), (4, [0, 2, 4, 6, 49]), (5, [2, 3]), (6, [0, 2]), (7, [2, 10]), (8, [2, 10, 66]), (9, [2]), (10, [2, 3]), (999, [2, 3]), (2006, [0, 1, 3, 4, 6, 7, 8, 9, 1002, 1005, 10, 1011]), (3006, [0, 2, 4, 6]), (3010, [2])]
  | 29 => [(0, [0, 3]), (1, [0, 5, 6]), (2, [0, 5, 23]), (3, [4]), (4, [6]), (5, [4]), (999, [4]), (3004, [0, 5])]
  | 30 => [(0, [0, 3, 4]), (1, [0, 3, 4, 14]), (2, [4, 5]), (3, [0, 3, 4]), (4, [0, 3, 4]), (5, [0, 3, 4, 6]), (6, [0, 3, 4, 6, 30]), (7, [0, 3, 4, 6, 30, 31]), (8, [0, 3, 4, 6]), (9, [0, 3, 4, 6]), (10, [0, 3, 4, 6, 30, 42]), (11, [0, 3, 4, 6]), (12, [0, 3, 4, 6]), (13, [0, 3, 4, 6, 53]), (14, [0, 3, 4, 6]), (15, [0, 3, 4, 6, 63]), (16, [4, 5]), (17, [4, 6, 7, 8]), (18, [4, 6, 7, 73]), (19, [4, 5]), (20, [4, 6]), (21, [4, 5]), (999, [4, 5]), (1000, [0, 3, 4, 6]), (2009, [7000, 0, 2, 3, 6002, 1, 6, 7, 1004, 1005, 1006, 1008, 9, 4, 23, 6002, 1, 5, 7, 1005, 1006, 1008, 9, 5, 13, 6002, 1, 4, 7, 1006, 1008, 9, 6, 4, 1001, 7, 1008, 9]), (2012, [7000, 0, 2, 3, 6002, 1, 6, 7, 1004, 1005, 1006, 1008, 9, 4, 23, 6002, 1, 5, 7, 1005, 1006, 1008, 9, 5, 13, 6002, 1, 4, 7, 1006, 1008, 9, 6, 4, 1001, 7, 1008, 9]), (2021, [2000, 1, 1002, 1003, 4]), (3003, [0, 3, 4]), (3015, [0, 3, 4, 6]), (3017, [0, 3, 4, 6]), (3020, [4, 6, 7])]
  | 31 => [(0, [0]), (1, [0, 3]), (2, [0, 3, 7]), (3, [0, 3]), (4, [0, 3, 13]), (5, [2]), (6, [2]), (999, [2]), (1000, []), (1001, [0, 3]), (3003, [0, 3]), (3004, [0, 3]), (3006, [])]
  | 32 => [(0, [0]), (1, [0, 3, 4, 5]), (2, [0, 3, 4, 5, 15]), (3, [0, 3, 4, 5]), (4, [0, 3, 4, 5, 33]), (5, [0, 3, 4, 5]), (6, [0, 3, 4, 5]), (7, [0, 3, 4, 5]), (8, [0, 3, 4, 5, 61]), (9, [0, 3, 4, 5]), (10, [4, 71]), (11, [2]), (12, [2]), (999, [2]), (1000, [0, 3, 4, 5]), (1001, [0, 3, 4, 5]), (1002, [0, 3, 4, 5]), (1003, [0, 3, 4, 5]), (1004, [0, 3, 4, 5]), (1005, [0, 3, 4, 5]), (3003, [0, 3, 4, 5]), (3004, [0, 3, 4, 5]), (3005, [0, 3, 4, 5]), (3008, [0, 3, 4, 5]), (3009, [0, 3, 4, 5]), (3010, [0, 3, 4, 5]), (3012, [4]), (4002, [0, 3, 4, 5]), (4004, [0, 3, 4, 5]), (4008, [0, 3, 4, 5])]
  | 33 => [(0, [0, 2]), (1, [0, 2, 4]), (2, [0, 2, 4, 12]), (3, [0, 2, 4, 5]), (4, [0, 2, 4, 5, 28]), (5, [0, 2, 4, 5]), (6, [0, 2, 4, 5, 6]), (7, [0, 2, 4, 5, 6, 69]), (8, [2, 3]), (9, [0, 2, 4, 6, 7]), (10, [0, 2, 4, 6, 7, 8]), (11, [0, 2, 4, 6, 7, 8, 86]), (12, [0, 2, 4, 6, 7, 8]), (13, [0, 2, 4, 6, 7, 8, 92]), (14, [2, 3]), (15, [0, 2, 4, 6, 7, 8, 9]), (16, [0, 2, 4, 6, 7, 8, 9, 10]), (17, [0, 2, 4, 6, 7, 8, 9, 10, 96]), (18, [0, 2, 4, 6, 7, 8, 9, 10]), (19, [0, 2, 4, 6, 7, 8, 9, 10, 105]), (20, [0, 2, 4, 6, 7, 8, 9, 10]), (21, [0, 2, 4]), (22, [2, 3]), (999, [2, 3]), (1000, [2, 4]), (1001, [0, 2, 4]), (1002, [0, 2, 4, 5]), (1003, [0, 2, 4, 5]), (1004, [0, 2, 4, 6, 7, 8]), (1005, [0, 2, 4, 6, 7, 8]), (1006, [0, 2, 4, 6]), (1007, [0, 2, 4, 6, 7, 8, 9, 10]), (2007, [0, 1, 2, 3, 5, 6, 7, 1004, 8, 9, 10, 11, 12, 13, 14, 15, 16, 17, 18, 19, 20, 21, 22, 23, 24, 25, 26, 27, 28, 29, 30, 31, 32, 33, 34]), (3003, [0, 2, 4]), (3005, [0, 2, 4, 5]), (3006, [0, 2, 4, 5]), (3009, [0, 2, 4, 5, 6]), (3012, [0, 2, 4, 6, 7, 8]), (3013, [0, 2, 4, 6, 7, 8]), (3015, [0, 2, 4, 6, 7, 8]), (3018, [0, 2, 4, 6, 7, 8, 9, 10]), (3019, [0, 2, 4, 6, 7, 8, 9, 10]), (3021, [0, 2, 4, 6]), (3022, [2, 4]), (4002, [0, 2, 4]), (4004, [0, 2, 4, 5]), (4011, [0, 2, 4, 6, 7, 8])]
  | 34 => [(0, [0]), (1, [0, 3]), (2, [0, 3, 7]), (3, [0, 3]), (4, [0, 3, 13]), (5, [2]), (6, [2]), (999, [2]), (1000, [0]), (1001, [0, 3]), (3003, [0, 3]), (3004, [0, 3]), (3006, [0])]
  | 35 => [(0, [0]), (1, [0, 3]), (2, [0, 3, 4]), (3, [0, 3, 4, 8]), (4, [0, 3, 4]), (5, [0, 3, 4, 20]), (6, [2]), (7, [0, 3, 4]), (8, [3, 35]), (9, [2]), (10, [2]), (999, [2]), (1000, [0, 3]), (1001, [0, 3, 4]), (3004, [0, 3, 4]), (3005, [0, 3, 4]), (3007, [0, 3, 4]), (3008, [0, 3]), (3010, [3])]
  | 36 => [(0, [0]), (1, [0, 7]), (2, [2]), (3, [0, 3]), (4, [0, 3, 4]), (5, [0, 3, 4, 13]), (6, [0, 3, 4]), (7, [0, 3, 4]), (8, [24]), (9, [2]), (10, [2]), (999, [2]), (1000, [3]), (1001, [0, 3, 4]), (3003, [0]), (3006, [0, 3, 4]), (3007, [0, 3, 4]), (3008, [3]), (3010, [])]
  | 37 => [(0, [0]), (1, [2]), (999, [2])]
  | 38 => [(0, [0, 6]), (1, []), (2, [19]), (999, [])]
  | 39 => [(0, [0, 1]), (1, [0, 1, 5]), (2, [0, 1, 5, 6]), (3, [0, 1, 5, 6]), (4, [0, 1, 5, 6, 7]), (5, [0, 1, 5, 6, 7, 24]), (6, [4]), (999, [4]), (1000, [4]), (1001, [0, 1, 5, 6]), (3003, [0, 1, 5, 6])]
  | 40 => [(0, [0, 1, 2, 3, 4]), (1, [11]), (2, [11]), (3, [10]), (999, [10]), (2001, [7000, 0, 2, 9, 16, 20, 6002, 1, 495, 6002, 3, 367, 4, 6002, 5, 261, 6, 6002, 7, 176, 8, 6002, 10, 110, 11, 6002, 12, 61, 13, 6002, 14, 27, 15, 6002, 17, 15, 6002, 18, 5, 19, 1021, 22, 23, 24, 21, 5, 1018, 19, 22, 23, 24, 21, 6, 1017, 1018, 19, 22, 23, 24, 17, 28, 6002, 14, 16, 15, 6002, 18, 5, 19, 1021, 22, 23, 24, 21, 5, 1018, 19, 22, 23, 24, 18, 7, 1014, 15, 19, 1021, 22, 23, 24, 17, 43, 6002, 12, 29, 13, 6002, 14, 16, 15, 6002, 18, 5, 19, 1021, 22, 23, 24, 21, 5, 1018, 19, 22, 23, 24, 18, 7, 1014, 15, 19, 1021, 22, 23, 24, 18, 9, 1012, 13, 1014, 15, 19, 1021, 22, 23, 24, 17, 60, 6002, 10, 44, 11, 6002, 12, 29, 13, 6002, 14, 16, 15, 6002, 18, 5, 19, 1021, 22, 23, 24, 21, 5, 1018, 19, 22, 23, 24, 18, 7, 1014, 15, 19, 1021, 22, 23, 24, 18, 9, 1012, 13, 1014, 15, 19, 1021, 22, 23, 24, 18, 11, 1010, 11, 1012, 13, 1014, 15, 19, 1021, 22, 23, 24, 17, 79, 6002, 7, 61, 8, 6002, 10, 44, 11, 6002, 12, 29, 13, 6002, 14, 16, 15, 6002, 18, 5, 19, 1021, 22, 23, 24, 21, 5, 1018, 19, 22, 23, 24, 18, 7, 1014, 15, 19, 1021, 22, 23, 24, 18, 9, 1012, 13, 1014, 15, 19, 1021, 22, 23, 24, 18, 11, 1010, 11, 1012, 13, 1014, 15, 19, 1021, 22, 23, 24, 18, 13, 1007, 8, 1010, 11, 1012, 13, 1014, 15, 19, 1021, 22, 23, 24, 17, 100, 6002, 5, 80, 6, 6002, 7, 61, 8, 6002, 10, 44, 11, 6002, 12, 29, 13, 6002, 14, 16, 15, 6002, 18, 5, 19, 1021, 22, 23, 24, 21, 5, 1018, 19, 22, 23, 24, 18, 7, 1014, 15, 19, 1021, 22, 23, 24, 18, 9, 1012, 13, 1014, 15, 19, 1021, 22, 23, 24, 18, 11, 1010, 11, 1012, 13, 1014, 15, 19, 1021, 22, 23, 24, 18, 13, 1007, 8, 1010, 11, 1012, 13, 1014, 15, 19, 1021, 22, 23, 24, 18, 15, 1005, 6, 1007, 8, 1010, 11, 1012, 13, 1014, 15, 19, 1021, 22, 23, 24, 17, 123, 6002, 3, 101, 4, 6002, 5, 80, 6, 6002, 7, 61, 8, 6002, 10, 44, 11, 6002, 12, 29, 13, 6002, 14, 16, 15, 6002, 18, 5, 19, 1021, 22, 23, 24, 21, 5, 1018, 19, 22, 23, 24, 18, 7, 1014, 15, 19, 1021, 22, 23, 24, 18, 9, 1012, 13, 1014, 15, 19, 1021, 22, 23, 24, 18, 11, 1010, 11, 1012, 13, 1014, 15, 19, 1021, 22, 23, 24, 18, 13, 1007, 8, 1010, 11, 1012, 13, 1014, 15, 19, 1021, 22, 23, 24, 18, 15, 1005, 6, 1007, 8, 1010, 11, 1012, 13, 1014, 15, 19, 1021, 22, 23, 24, 18, 17, 1003, 4, 1005, 6, 1007, 8, 1010, 11, 1012, 13, 1014, 15, 19, 1021, 22, 23, 24, 17, 146, 6002, 1, 123, 6002, 3, 101, 4, 6002, 5, 80, 6, 6002, 7, 61, 8, 6002, 10, 44, 11, 6002, 12, 29, 13, 6002, 14, 16, 15, 6002, 18, 5, 19, 1021, 22, 23, 24, 21, 5, 1018, 19, 22, 23, 24, 18, 7, 1014, 15, 19, 1021, 22, 23, 24, 18, 9, 1012, 13, 1014, 15, 19, 1021, 22, 23, 24, 18, 11, 1010, 11, 1012, 13, 1014, 15, 19, 1021, 22, 23, 24, 18, 13, 1007, 8, 1010, 11, 1012, 13, 1014, 15, 19, 1021, 22, 23, 24, 18, 15, 1005, 6, 1007, 8, 1010, 11, 1012, 13, 1014, 15, 19, 1021, 22, 23, 24, 18, 17, 1003, 4, 1005, 6, 1007, 8, 1010, 11, 1012, 13, 1014, 15, 19, 1021, 22, 23, 24, 18, 18, 1001, 1003, 4, 1005, 6, 1007, 8, 1010, 11, 1012, 13, 1014, 15, 19, 1021, 22, 23, 24]), (2003, [0, 1, 2, 7, 8, 1003, 1004, 5, 6, 9, 10])]
  | 41 => [(0, [0]), (1, [2]), (999, [2])]
  | 42 => [(0, [0, 1]), (1, [0, 1, 11]), (2, [0, 1, 11, 12]), (3, [4]), (4, [0, 1, 14]), (5, [4]), (6, [0, 1, 18]), (7, [0, 1]), (8, [0, 5, 6]), (9, [0, 6, 34]), (10, [0, 6]), (11, [0, 7]), (12, [0, 7, 40]), (13, [4]), (14, [0, 7, 42]), (15, [0, 7, 42, 43]), (16, [0, 7, 42, 43]), (17, [0, 7, 42, 43]), (18, [0, 7, 42, 43]), (19, [0, 7, 43]), (20, [0, 7, 49]), (21, [4]), (22, [0, 7, 58]), (23, [4]), (24, [0, 7, 67]), (25, [4]), (26, [0, 7, 76]), (27, [4]), (28, [0, 7, 85]), (29, [4]), (30, [0, 7, 8]), (31, [0, 7, 8, 96]), (32, [0, 7, 8]), (33, [0, 7, 8, 104]), (34, [0, 7, 8]), (35, [0, 7, 8, 9]), (36, [0, 7, 8, 9]), (37, [7, 8, 9]), (38, [7, 8, 9, 113]), (39, [7, 8, 9, 10]), (40, [7, 8, 9]), (41, [4]), (999, [4]), (1000, [0, 1]), (1001, [0, 7]), (1002, [0, 7]), (1003, [9]), (1004, [7, 8, 9]), (3006, [0, 1]), (3008, [0, 1]), (3011, [0, 6]), (3014, [0, 7]), (3020, [0, 7, 43]), (3030, [0, 7]), (3035, [0, 7, 8]), (3039, [7, 8, 9]), (3041, [9]), (4038, [7, 8, 9])]
  | 43 => [(0, [0]), (1, [0, 4]), (2, [2]), (3, [2]), (999, [2]), (3003, [0])]
  | 44 => [(0, [0, 1]), (1, [0, 1]), (2, [4]), (999, [4])]
  | 45 => [(0, [0, 1]), (1, [0, 1, 5]), (2, [0, 1, 5, 10]), (3, [0, 1, 5]), (4, [0, 1, 5]), (5, [4]), (999, [4]), (1000, [5]), (1001, [0, 1, 5]), (3003, [0, 1, 5]), (3005, [5]), (4002, [0, 1, 5])]
  | 46 => [(0, [0]), (1, [0, 4]), (2, [2]), (3, [2]), (999, [2]), (3003, [0])]
  | 47 => [(0, [0, 1]), (1, [0, 1, 12]), (2, [4]), (3, [0, 1, 21]), (4, [4]), (5, [0, 1, 5, 6]), (6, [0, 1, 5, 34]), (7, [4]), (8, [4]), (999, [4]), (2004, [0, 1, 2, 4, 5, 1003, 1006, 7]), (3003, [0, 1]), (3005, [0, 1]), (3008, [0, 1])]
  | 48 => [(0, [0]), (1, [0]), (2, [0, 15]), (3, [2, 3]), (4, [4, 5]), (5, [2, 3]), (999, [2, 3]), (3004, [0])]
  | 49 => [(0, [0]), (1, [0, 3]), (2, [0, 3, 6, 7]), (3, [0, 3, 6, 7, 8]), (4, [0, 3, 4, 6, 7]), (5, [0, 3, 4, 6, 7, 15]), (6, [0, 3, 6, 7]), (7, [0, 3, 6, 7]), (8, [2]), (999, [2]), (1000, [3]), (1001, [0, 3, 6, 7]), (3004, [0, 3, 6, 7]), (3007, [0, 3, 6, 7]), (3008, [3])]
  | 50 => [(0, [0]), (1, [3]), (2, [2]), (999, [2])]
  | 51 => [(0, [0, 2]), (1, [0, 2, 4]), (2, [0, 2, 4, 15]), (3, [0, 2, 4, 5, 7]), (4, [0, 2, 4, 5, 7, 8, 9]), (5, [0, 2, 4, 5, 8, 58]), (6, [2, 3]), (7, [0, 2, 4, 7, 8, 10, 11]), (8, [0, 2, 4, 8, 10, 11, 73]), (9, [2, 3]), (10, [0, 2, 4, 11]), (11, [0, 2, 4]), (12, [2, 3]), (999, [2, 3]), (1000, [2, 4]), (1001, [0, 2, 4]), (2010, [0, 2001, 2, 3, 2004, 5, 6, 7, 8, 1009, 10]), (3003, [0, 2, 4]), (3007, [0, 2, 4, 5, 8]), (3010, [0, 2, 4, 8, 10, 11]), (3012, [2, 4]), (4002, [0, 2, 4])]
  | 52 => [(0, [0, 3]), (1, [0, 3, 5, 6]), (2, [0, 3, 5, 18]), (3, [0, 3]), (4, [0, 3, 7, 8]), (5, [0, 3, 7, 28]), (6, [0, 3]), (7, [0, 9, 10]), (8, [0, 9, 59]), (9, [0, 9, 11, 12]), (10, [0, 11, 75]), (11, [4]), (12, []), (13, [4]), (999, [4]), (3004, [0, 3]), (3007, [0, 3]), (3012, [0, 11]), (3013, [])]
  | 53 => [(0, [0]), (1, [5, 6, 7]), (2, [5, 6, 7, 8]), (3, [4, 5, 6, 7]), (4, [4, 5, 6, 7, 13]), (5, [2]), (6, [5, 6, 7, 16]), (7, [2]), (8, [5, 6, 7]), (9, [2]), (999, [2]), (1000, []), (1001, [5, 6, 7]), (3003, [5, 6, 7]), (3006, [4, 5, 6, 7]), (3008, [5, 6, 7]), (3009, [])]
  | 54 => [(0, [0, 1]), (1, [4]), (999, [4])]
  | 56 => [(0, [0]), (1, [2]), (999, [2])]
  | 57 => [(0, [0, 1]), (1, [0, 1]), (2, [4]), (999, [4])]
  | 58 => [(0, [0, 1]), (1, [1, 5]), (2, [4]), (999, [4])]
  | 59 => [(0, [0, 1]), (1, [6, 7]), (2, [4, 5]), (3, [8, 9]), (4, [4, 5]), (999, [4, 5]), (3003, [0, 1])]
  | 60 => [(0, [0, 1]), (1, [4]), (999, [4])]
  | 61 => [(0, [0, 1]), (1, [0, 1, 7]), (2, [0, 1]), (3, [0, 1, 21]), (4, []), (999, []), (2003, [7000, 0, 5, 11, 6002, 1, 84, 2, 6002, 3, 32, 6002, 4, 6, 1006, 7, 1008, 1009, 10, 12, 6, 21, 7, 6002, 4, 4, 1008, 1009, 10, 12, 8, 11, 6002, 4, 3, 1009, 10, 12, 9, 3, 1004, 10, 12, 6, 46, 7, 6002, 3, 20, 6002, 4, 4, 1008, 1009, 10, 12, 8, 11, 6002, 4, 3, 1009, 10, 12, 9, 3, 1004, 10, 12, 8, 20, 6002, 3, 11, 6002, 4, 3, 1009, 10, 12, 9, 3, 1004, 10, 12, 9, 4, 1003, 1004, 10, 12, 6, 84, 7, 6002, 1, 46, 2, 6002, 3, 20, 6002, 4, 4, 1008, 1009, 10, 12, 8, 11, 6002, 4, 3, 1009, 10, 12, 9, 3, 1004, 10, 12, 8, 20, 6002, 3, 11, 6002, 4, 3, 1009, 10, 12, 9, 3, 1004, 10, 12, 9, 4, 1003, 1004, 10, 12, 8, 32, 6002, 1, 21, 2, 6002, 3, 11, 6002, 4, 3, 1009, 10, 12, 9, 3, 1004, 10, 12, 9, 4, 1003, 1004, 10, 12, 9, 6, 1001, 2, 1003, 1004, 10, 12]), (3003, [0, 1])]
  | 62 => [(0, [0]), (1, [2]), (999, [2])]
  | 63 => [(0, [0, 1]), (1, [0, 1, 13]), (2, [0, 1]), (3, [4]), (999, [4]), (1000, [0]), (1001, [0, 1]), (3002, [0, 1]), (3003, [0]), (4001, [0, 1])]
  | 64 => [(0, [0, 1]), (1, [0, 1, 16]), (2, [0, 1]), (3, [4]), (999, [4]), (1000, [0]), (1001, [0, 1]), (3002, [0, 1]), (3003, [0]), (4001, [0, 1])]
  | 65 => [(0, [0, 2]), (1, [0, 2, 4]), (2, [0, 2, 4, 9]), (3, [0, 2, 4]), (4, [0, 2, 4, 5]), (5, [0, 2, 4, 5, 16]), (6, [2, 3]), (7, [0, 2, 4]), (8, [2, 3]), (999, [2, 3]), (1000, [2]), (1001, [0, 2, 4]), (3003, [0, 2, 4]), (3004, [0, 2, 4]), (3007, [0, 2, 4, 5]), (3008, [2])]
  | 66 => [(0, [0, 1]), (1, [0, 1, 7]), (2, [0, 1, 12]), (3, [0, 1]), (4, [4]), (999, [4]), (1000, [0]), (1001, [0, 1]), (3002, [0, 1]), (3003, [0, 1]), (3004, [0]), (4001, [0, 1])]
  | 67 => [(0, [0, 1]), (1, [0, 1, 7]), (2, [0, 1, 15]), (3, [0, 1]), (4, [4]), (999, [4]), (1000, [0]), (1001, [0, 1]), (3002, [0, 1]), (3003, [0, 1]), (3004, [0]), (4001, [0, 1])]
  | 68 => [(0, [0, 1]), (1, [0, 1, 9]), (2, [0, 1, 5, 6]), (3, [0, 1, 6, 18]), (4, [0, 1]), (5, [4]), (999, [4]), (1000, [0]), (1001, [0, 1]), (3002, [0, 1]), (3004, [0, 1, 6]), (3005, [0]), (4001, [0, 1])]
  | 69 => [(0, [0, 1]), (1, [0, 1, 9]), (2, [0, 1, 5, 6]), (3, [0, 1, 5, 6, 17]), (4, [0, 1, 5, 6]), (5, [0, 1, 6, 26]), (6, [0, 1]), (7, [4]), (999, [4]), (1000, [0]), (1001, [0, 1]), (3002, [0, 1]), (3005, [0, 1, 5, 6]), (3006, [0, 1, 6]), (3007, [0]), (4001, [0, 1])]
  | 70 => [(0, [0, 1]), (1, [0, 1, 12]), (2, [4]), (3, [0, 1, 21]), (4, [4]), (5, [0, 1, 5, 6]), (6, [0, 1, 5, 31]), (7, [4]), (8, [4]), (999, [4]), (3003, [0, 1]), (3005, [0, 1]), (3008, [0, 1])]
  | 71 => [(0, [0, 1]), (1, [0, 1, 12]), (2, [4]), (3, [0, 1, 21]), (4, [4]), (5, [0, 1, 5, 6]), (6, [0, 1, 5, 31]), (7, [4]), (8, [4]), (999, [4]), (3003, [0, 1]), (3005, [0, 1]), (3008, [0, 1])]
  | 72 => [(0, [0, 1, 2]), (1, [0, 1, 2, 7, 8]), (2, [0, 1, 2, 7, 8, 17]), (3, [6, 7]), (4, [6, 7]), (999, [6, 7]), (3004, [8])]
  | 73 => [(0, [0, 1]), (1, [4, 5, 6]), (999, [4, 5, 6])]
  | 74 => [(0, [0]), (1, [0, 4, 5]), (2, [0, 4, 5, 12]), (3, [2, 3]), (4, [2, 3]), (999, [2, 3]), (3004, [4])]
  | 75 => [(0, [1, 2]), (1, [2, 6, 7]), (2, [2, 6, 16]), (3, [4, 5]), (4, [4, 5]), (999, [4, 5]), (3004, [2, 6])]
  | 76 => [(0, [0, 1]), (1, [4]), (999, [4])]
  | 77 => [(0, [0]), (1, [2]), (999, [2])]
  | 78 => [(0, [0, 1]), (1, [4]), (999, [4])]
  | 79 => [(0, [0, 1]), (1, [6]), (2, [4, 5]), (999, [4, 5])]
  | 80 => [(0, [0, 1]), (1, [0, 1, 6]), (2, [0, 1, 6, 7]), (3, [0, 1, 6, 7, 8]), (4, [0, 1, 6, 7, 8, 9]), (5, [0, 1, 6, 7, 8, 9, 10]), (6, [0, 1, 6, 7, 9, 11]), (7, [0, 1, 6, 7, 9, 11, 12]), (8, [0, 1, 6, 7, 9, 12, 13]), (9, [0, 1, 7, 9, 12, 13]), (10, [0, 1, 4]), (11, [4, 5]), (999, [4, 5])]
  | 81 => [(0, [0, 1]), (1, [4]), (999, [4])]
  | 82 => [(0, [0, 4]), (1, [0, 4]), (2, []), (999, []), (2000, [7000, 0, 6, 9, 6002, 1, 190, 2, 6002, 3, 91, 6002, 4, 34, 5, 7, 6002, 8, 6, 1010, 11, 1012, 1013, 1014, 15, 10, 21, 11, 6002, 8, 4, 1012, 1013, 1014, 15, 12, 11, 6002, 8, 3, 1013, 1014, 15, 13, 3, 1008, 1014, 15, 10, 52, 11, 6002, 4, 22, 5, 7, 6002, 8, 4, 1012, 1013, 1014, 15, 12, 11, 6002, 8, 3, 1013, 1014, 15, 13, 3, 1008, 1014, 15, 12, 24, 6002, 4, 13, 5, 7, 6002, 8, 3, 1013, 1014, 15, 13, 3, 1008, 1014, 15, 13, 6, 1004, 5, 7, 1008, 1014, 15, 10, 93, 11, 6002, 3, 51, 6002, 4, 22, 5, 7, 6002, 8, 4, 1012, 1013, 1014, 15, 12, 11, 6002, 8, 3, 1013, 1014, 15, 13, 3, 1008, 1014, 15, 12, 24, 6002, 4, 13, 5, 7, 6002, 8, 3, 1013, 1014, 15, 13, 3, 1008, 1014, 15, 13, 6, 1004, 5, 7, 1008, 1014, 15, 12, 36, 6002, 3, 24, 6002, 4, 13, 5, 7, 6002, 8, 3, 1013, 1014, 15, 13, 3, 1008, 1014, 15, 13, 6, 1004, 5, 7, 1008, 1014, 15, 13, 7, 1003, 1004, 5, 7, 1008, 1014, 15, 10, 150, 11, 6002, 1, 93, 2, 6002, 3, 51, 6002, 4, 22, 5, 7, 6002, 8, 4, 1012, 1013, 1014, 15, 12, 11, 6002, 8, 3, 1013, 1014, 15, 13, 3, 1008, 1014, 15, 12, 24, 6002, 4, 13, 5, 7, 6002, 8, 3, 1013, 1014, 15, 13, 3, 1008, 1014, 15, 13, 6, 1004, 5, 7, 1008, 1014, 15, 12, 36, 6002, 3, 24, 6002, 4, 13, 5, 7, 6002, 8, 3, 1013, 1014, 15, 13, 3, 1008, 1014, 15, 13, 6, 1004, 5, 7, 1008, 1014, 15, 13, 7, 1003, 1004, 5, 7, 1008, 1014, 15, 12, 51, 6002, 1, 37, 2, 6002, 3, 24, 6002, 4, 13, 5, 7, 6002, 8, 3, 1013, 1014, 15, 13, 3, 1008, 1014, 15, 13, 6, 1004, 5, 7, 1008, 1014, 15, 13, 7, 1003, 1004, 5, 7, 1008, 1014, 15, 13, 9, 1001, 2, 1003, 1004, 5, 7, 1008, 1014, 15])]
  | 83 => [(0, [0, 1]), (1, [4]), (999, [4])]
  | 84 => [(0, [0]), (1, [0, 10]), (2, [2, 3]), (3, [2, 3]), (999, [2, 3])]
  | 85 => [(0, [0, 1]), (1, [4]), (999, [4])]
  | 86 => [(0, [0]), (1, [0, 4]), (2, [0, 4, 10]), (3, [2, 3]), (4, [0, 4, 5]), (5, [0, 2, 4, 5]), (6, [0, 2, 4, 5, 18]), (7, [2, 3]), (8, [0, 4, 5, 6]), (9, [0, 4, 5, 6]), (10, [0, 4, 5, 6, 27]), (11, [0, 4, 5, 6]), (12, [0, 4, 5, 6, 33]), (13, [0, 4, 5, 35]), (14, [0, 4, 5]), (15, [2, 3, 4, 5]), (16, [2, 3, 48]), (17, [2, 3]), (18, [2, 3]), (999, [2, 3]), (1000, [0, 4, 5]), (1001, [0, 4, 5, 6]), (3004, [0, 4]), (3008, [0, 4, 5]), (3011, [0, 4, 5, 6]), (3012, [0, 4, 5, 6]), (3013, [0, 4, 5]), (3015, [0, 4, 5]), (3018, [2, 3])]
  | 87 => [(0, [0, 1, 2]), (1, [0, 1, 2, 13]), (2, [6, 7]), (3, [0, 1, 2, 8]), (4, [0, 1, 2, 8, 16]), (5, [0, 1, 2, 8, 16, 17]), (6, [0, 1, 2, 8]), (7, [0, 1, 2, 8, 21]), (8, [0, 1, 2]), (9, [0, 1, 2, 8]), (10, [0, 1, 2, 8]), (11, [2, 7, 8, 9]), (12, [2, 7, 8, 9, 38]), (13, [6, 7]), (14, [2, 8, 9, 41]), (15, [2, 8, 9]), (16, [8, 9, 10]), (17, [8, 9, 10, 52]), (18, [6, 7]), (19, [8, 9, 10, 62]), (20, [6, 7]), (21, [8, 11]), (22, [11, 69]), (23, [11]), (24, [6, 7]), (999, [6, 7]), (1000, [0, 1, 2, 8]), (3003, [0, 1, 2]), (3010, [0, 1, 2, 8]), (3014, [2, 8, 9]), (3016, [2, 8, 9]), (3019, [8, 9, 10]), (3021, [8, 9]), (3024, [11])]
  | 88 => [(0, [0, 1, 2, 3, 4]), (1, [0, 1, 2, 3, 4, 11]), (2, [0, 1, 2, 3, 4, 11, 12]), (3, [10]), (4, [0, 1, 2, 3, 4, 11, 19]), (5, [10]), (6, [0, 1, 2, 3, 4, 11, 26]), (7, [10]), (8, [0, 1, 3, 4, 34]), (9, [10]), (10, [10]), (999, [10]), (1000, [4]), (3010, [4])]
  | 89 => [(0, [0, 1]), (1, [0, 1, 7]), (2, [0, 1, 7, 12]), (3, [4, 5, 6]), (4, [4, 5, 6]), (999, [4, 5, 6]), (3004, [0])]
  | 90 => [(0, [0]), (1, [0, 4]), (2, [0, 30]), (3, [0, 5]), (4, [0, 5, 39]), (5, [0, 5]), (6, [0, 5, 44]), (7, [2, 3]), (8, [0, 5, 6]), (9, [5, 6, 47, 48, 49]), (10, [5, 6, 47, 48, 49, 50]), (11, [5, 6, 8, 47, 48, 49]), (12, [5, 6, 8, 47, 48, 49]), (13, [5, 6, 8, 47, 48, 49, 56]), (14, [2, 3]), (15, [5, 6, 47, 48, 49]), (16, [5, 6, 47, 48, 49]), (17, [6, 66]), (18, [6]), (19, [2, 3]), (20, [9, 10]), (21, [2, 3]), (999, [2, 3]), (1000, [5, 6]), (1001, [5, 6, 47, 48, 49]), (3008, [0, 5]), (3011, [5, 6, 47, 48, 49]), (3015, [5, 6, 8, 47, 48, 49]), (3016, [5, 6, 47, 48, 49]), (3017, [5, 6]), (3019, [6]), (3020, [0])]
  | 92 => [(0, [0, 1]), (1, [0, 1, 11]), (2, [0, 17]), (3, [4]), (4, [0, 5]), (5, [0, 5, 6]), (6, [0, 5, 6, 23]), (7, [0, 5, 6]), (8, [0, 5, 6, 7]), (9, [0, 5, 7]), (10, [5, 7, 34]), (11, [5, 7]), (12, [4]), (13, [4]), (14, [9]), (15, [4]), (999, [4]), (3004, [0]), (3008, [0, 5, 6]), (3013, [5, 7]), (3014, [0, 1])]
  | 94 => [(0, [0]), (1, [0, 4]), (2, [0, 4, 16]), (3, [2, 3]), (4, [0, 4, 5]), (5, [0, 4, 5, 6]), (6, [0, 4, 5, 6, 23]), (7, [0, 7]), (8, [2, 3]), (9, [0, 4, 5, 6, 8]), (10, [0, 4, 5, 8, 9]), (11, [0, 5, 8, 9, 45]), (12, [2, 3]), (13, [0, 5, 8, 9, 10]), (14, [0, 5, 8, 10, 57]), (15, [2, 3]), (16, [0, 5, 8, 10, 59]), (17, [2, 3]), (18, [0, 5, 8, 10, 11]), (19, [0, 5, 8, 10, 11, 75]), (20, [2, 3]), (21, [0, 5, 10, 11, 77]), (22, [2, 3]), (23, [5, 10, 11, 12]), (24, [5, 10, 11, 12, 98]), (25, [2, 3]), (26, [2, 3]), (999, [2, 3]), (3004, [0, 4]), (3009, [0, 4, 5, 6]), (3013, [0, 5, 8, 9]), (3016, [0, 5, 8, 10]), (3018, [0, 5, 8, 10]), (3021, [0, 5, 8, 10, 11]), (3023, [0, 5, 10, 11]), (3026, [5, 10, 11, 12])]
  | 95 => [(0, [0, 1]), (1, [0, 7]), (2, [0, 7, 8]), (3, [0, 7, 8, 9]), (4, [0, 7, 8, 9]), (5, [0, 7, 8, 9, 26]), (6, [0, 7, 8, 9, 33]), (7, [0, 7, 8, 9, 11]), (8, [0, 7, 8, 9, 11, 43]), (9, [4]), (10, [0, 7, 8, 9]), (11, [0, 7, 8, 9, 12]), (12, [0, 7, 8, 9, 12, 51]), (13, [0, 7, 8, 9, 12]), (14, [0, 7, 8, 9, 12, 64]), (15, [4]), (16, [0, 7, 8, 9, 10]), (17, [0, 7, 8, 9, 10]), (18, [0, 7, 8, 9, 98]), (19, [4]), (20, [8, 9, 13]), (21, [8, 9, 13, 108]), (22, [4]), (23, [0, 7, 8, 9, 14]), (24, [0, 7, 8, 9, 14, 15]), (25, [0, 7, 8, 9, 14, 15, 124]), (26, [0, 7, 8, 9, 14, 15]), (27, [0, 7, 8, 9, 14, 15, 139]), (28, [0, 7, 8, 9, 14, 15, 16]), (29, [0, 7, 8, 9, 14, 15, 16, 143]), (30, [0, 7, 8, 9, 14, 15, 16]), (31, [0, 7, 8, 9, 14, 15, 16, 156]), (32, [4]), (33, [4]), (34, [0, 1, 160]), (35, [4]), (36, [0, 1, 171]), (37, [175]), (38, [175, 176, 177]), (39, [5, 6, 175]), (40, [5, 175, 181]), (41, [4]), (42, [4]), (43, [0, 1, 183]), (44, [4]), (999, [4]), (1000, [4]), (1001, []), (1002, [0, 7, 8, 9]), (1003, [8, 9]), (1004, [0, 7, 8, 9, 12]), (1005, []), (1006, [0, 7, 8, 9, 14, 15]), (1007, [8, 9]), (1008, [0, 7, 8, 9, 14, 15, 16]), (1009, []), (1010, [175]), (3006, [0, 7, 8, 9]), (3010, [0, 7, 8, 9, 11]), (3011, [0, 7, 8, 9]), (3013, [0, 7, 8, 9, 12]), (3014, [0, 7, 8, 9, 12]), (3015, [8, 9]), (3019, []), (3026, [0, 7, 8, 9, 14, 15]), (3027, [0, 7, 8, 9, 14, 15]), (3030, [0, 7, 8, 9, 14, 15, 16]), (3031, [0, 7, 8, 9, 14, 15, 16]), (3032, [8, 9]), (3033, []), (3039, [175, 176]), (3042, []), (4005, [0, 7, 8, 9]), (4038, [175])]
  | 96 => [(0, [0]), (1, [2]), (999, [2])]
  | 97 => [(0, [0, 1, 2]), (1, [0, 1, 2, 19]), (2, [6, 7]), (3, [0, 1, 2, 8]), (4, [0, 1, 2, 8, 9]), (5, [6, 7]), (6, [0, 1, 2, 8, 9, 25]), (7, [0, 2, 8, 9, 32]), (8, [0, 1, 2, 8, 9]), (9, [0, 1, 2, 8, 9, 37]), (10, [0, 1, 2, 8, 9]), (11, [0, 1, 2, 8, 9]), (12, [0, 2, 8, 9, 40]), (13, [0, 1, 2, 8, 9]), (14, [0, 1, 2, 8, 9]), (15, [0, 2, 8, 9, 52]), (16, [0, 1, 2, 8, 9]), (17, [0, 1, 2, 8, 9]), (18, [0, 2, 8, 9, 64]), (19, [0, 1, 2, 8, 9]), (20, [0, 1, 2, 8, 9]), (21, [0, 1, 2, 8, 9, 77]), (22, [0, 1, 2, 8, 9]), (23, [0, 1, 2, 8, 9, 83]), (24, [6, 7]), (25, [0, 1, 2, 8, 9]), (26, [0, 1, 2, 8, 9, 85]), (27, [0, 1, 2, 8, 9, 10]), (28, [0, 1, 2, 8, 9, 85, 90]), (29, [0, 1, 2, 8, 9, 10]), (30, [0, 1, 2, 8, 9, 92]), (31, [0, 1, 2, 8, 9, 10]), (32, [0, 1, 8, 9, 10, 11]), (33, [0, 1, 8, 9, 10, 11, 12]), (34, [0, 1, 8, 9, 10, 11, 12, 13]), (35, [1, 8, 9, 10, 11, 12, 13, 99, 100, 101]), (36, [1, 8, 9, 10, 11, 12, 13, 99, 100, 101, 102]), (37, [1, 8, 9, 10, 11, 12, 13, 15, 99, 100, 101]), (38, [1, 8, 9, 10, 11, 12, 13, 15, 99, 100, 101]), (39, [6, 7]), (40, [1, 8, 9, 10, 11, 12, 13, 15, 99, 100, 101, 106]), (41, [1, 8, 9, 10, 11, 12, 13, 99, 100, 101]), (42, [1, 8, 9, 10, 11, 12, 13, 15, 99, 100, 101, 112]), (43, [1, 8, 9, 10, 11, 12, 13, 16, 99, 100, 101]), (44, [1, 8, 9, 10, 11, 12, 13, 15, 99, 100, 101, 121]), (45, [1, 8, 9, 10, 11, 12, 13, 16, 99, 100, 101]), (46, [1, 8, 9, 10, 11, 12, 13, 16, 99, 100, 101, 137]), (47, [6, 7]), (48, [1, 8, 9, 10, 11, 12, 13, 16, 99, 100, 101, 141]), (49, [6, 7]), (50, [1, 8, 9, 10, 11, 12, 13, 16, 99, 100, 101]), (51, [1, 8, 9, 10, 11, 12, 13, 17, 99, 100, 101]), (52, [1, 8, 9, 10, 11, 12, 17, 99, 100, 101, 159]), (53, [6, 7]), (54, [1, 8, 9, 10, 11, 12, 13, 99, 100, 101]), (55, [1, 8, 9, 10, 11, 12, 13, 99, 100, 101]), (56, [13, 169]), (57, [6, 7]), (58, [6, 7]), (999, [6, 7]), (1000, [0, 1, 2, 8, 9]), (1001, [0, 1, 2, 8, 9]), (1002, [0, 1, 2, 8, 9, 10]), (1003, [9, 12, 13]), (1004, [1, 8, 9, 10, 11, 12, 13, 99, 100, 101]), (1005, [1, 8, 9, 10, 11, 12, 13, 16, 99, 100, 101]), (3003, [0, 1, 2]), (3021, [0, 1, 2, 8, 9]), (3025, [0, 1, 2, 8, 9]), (3032, [0, 1, 2, 8, 9, 10]), (3037, [1, 8, 9, 10, 11, 12, 13, 99, 100, 101]), (3046, [1, 8, 9, 10, 11, 12, 13, 16, 99, 100, 101]), (3048, [1, 8, 9, 10, 11, 12, 13, 16, 99, 100, 101]), (3050, [1, 8, 9, 10, 11, 12, 13, 16, 99, 100, 101]), (3054, [1, 8, 9, 10, 11, 12, 17, 99, 100, 101]), (3055, [1, 8, 9, 10, 11, 12, 13, 99, 100, 101]), (3056, [9, 12, 13]), (3058, [13])]
  | 98 => [(0, [0, 1]), (1, [4]), (999, [4]), (2001, [0, 1, 2003, 1002, 4, 1005, 6])]
  | 99 => [(0, [0, 1]), (1, [4]), (999, [4]), (2001, [0, 1, 2003, 1002, 4, 1005, 6])]
  | 100 => [(0, [0, 1, 2]), (1, [6]), (999, [6])]
  | 101 => [(0, [0, 1, 2]), (1, [6]), (999, [6])]
  | 102 => [(0, [0, 1]), (1, [0, 1, 5]), (2, [0, 1, 5, 16]), (3, [4]), (4, [0, 1, 5, 24]), (5, [4]), (6, [0, 1, 5, 31]), (7, [4]), (8, [0, 1, 5, 36]), (9, [4]), (10, [0, 1, 5, 6]), (11, [0, 1, 5, 6, 7]), (12, [0, 1, 5, 6, 7, 8]), (13, [0, 1, 5, 6, 7, 8, 9]), (14, [0, 1, 5, 6, 7, 8, 9, 10]), (15, [0, 1, 5, 6, 7, 8, 9, 10, 59]), (16, [0, 1, 5, 6, 7, 8, 9, 10, 64]), (17, [0, 1, 5, 6, 7, 8, 9, 10, 11]), (18, [0, 1, 5, 6, 7, 8, 9, 10, 11, 73]), (19, [4]), (20, [0, 1, 5, 6, 7, 8, 9, 10]), (21, [0, 1, 5, 6, 7, 8, 9, 10, 93]), (22, [4]), (23, [0, 1, 5, 6, 7, 8, 9, 10]), (24, [0, 1, 5, 6, 7, 8, 9, 10]), (25, [0, 1, 5, 6, 7, 8, 9, 10, 107]), (26, [8, 12]), (27, [8, 12, 114]), (28, [4]), (29, [4]), (30, [0, 1, 5, 6, 7, 8, 9, 10, 132]), (31, [8, 13]), (32, [8, 13, 139]), (33, [4]), (34, [4]), (35, [4]), (999, [4]), (1000, [0, 1, 5]), (1001, []), (1002, [0, 1, 5, 6, 7, 8, 9, 10]), (3010, [0, 1, 5]), (3016, [0, 1, 5, 6, 7, 8, 9, 10]), (3020, [0, 1, 5, 6, 7, 8, 9, 10, 11]), (3021, [0, 1, 5, 6, 7, 8, 9, 10]), (3023, [0, 1, 5, 6, 7, 8, 9, 10]), (3029, []), (3034, [8, 13]), (3035, []), (4015, [0, 1, 5, 6, 7, 8, 9, 10])]
  | 103 => [(0, [0]), (1, [0, 4]), (2, [2]), (3, [2]), (999, [2]), (3003, [0])]
  | 104 => [(0, [0]), (1, [0, 3]), (2, [2]), (999, [2])]
  | 105 => [(0, [0, 1, 4]), (1, [0, 1, 4, 20]), (2, [0, 1, 4, 5]), (3, [0, 1, 4, 5]), (4, [0, 1, 4, 6, 7]), (5, [0, 1, 4, 6, 8, 9]), (6, [0, 1, 4, 8, 9, 10, 11]), (7, [0, 1, 4, 8, 10, 11]), (8, [0, 1, 4, 10, 11]), (9, [0, 1, 4, 10]), (10, [0, 1, 4]), (11, [0, 1, 4]), (12, [0, 4, 12]), (13, [0, 4, 12, 99]), (14, [0, 4, 12, 13]), (15, [0, 4, 12, 13]), (16, [0, 4, 12, 14, 15]), (17, [0, 4, 12, 14]), (18, [0, 4, 12]), (19, [0, 4, 12]), (20, [0, 4, 12, 139]), (21, [0, 4, 12, 16]), (22, [0, 4, 12, 16]), (23, [0, 4, 12]), (24, [0, 4, 12]), (25, [0, 12, 161]), (26, []), (999, []), (1000, [0, 1, 4]), (1001, [0, 1, 4]), (2007, [0, 1, 2, 3, 4, 5, 6, 7, 8, 9, 10, 11, 1012, 13, 1014]), (2008, [0, 1, 2, 3, 4, 5, 6, 7, 8, 9, 10, 11, 1012, 13, 1014]), (2009, [0, 1, 2, 3, 4, 5, 6, 7, 8, 9, 10, 11, 1012, 13, 1014]), (2010, [0, 1, 2, 3, 4, 5, 6, 7, 8, 9, 10, 11, 1012, 13, 1014]), (2017, [0, 1, 2, 3, 4, 5, 6, 7, 8, 9, 10, 11, 1012, 13, 1014]), (2018, [0, 1, 2, 3, 4, 5, 6, 7, 8, 9, 10, 11, 1012, 13, 1014]), (2023, [0, 1, 2, 3, 4, 5, 6, 7, 8, 9, 10, 11, 1012, 13, 1014]), (3002, [0, 1, 4]), (3012, [0, 1, 4]), (3020, [0, 4, 12]), (3025, [0, 4, 12]), (4001, [0, 1, 4])]
  | 106 => [(0, [0, 1, 2, 3, 4, 10, 11]), (1, [0, 1, 2, 3, 4, 10, 11, 28]), (2, [0, 1, 2, 3, 4, 10, 11]), (3, [0, 1, 2, 3, 4, 10, 11, 12]), (4, [0, 1, 2, 3, 4, 10, 11, 12, 13]), (5, [0, 1, 2, 3, 4, 10, 11, 12, 13, 30]), (6, [0, 1, 2, 3, 4, 10, 11, 12, 13]), (7, [0, 1, 2, 3, 4, 10, 11, 12, 13, 34]), (8, [0, 1, 2, 3, 4, 10, 11, 12, 13, 14]), (9, [0, 1, 2, 3, 4, 10, 11, 12, 13, 14, 15]), (10, [0, 1, 3, 4, 10, 11, 12, 13, 14, 15, 16]), (11, [0, 1, 3, 4, 10, 11, 12, 13, 14, 15, 16, 46]), (12, [0, 1, 3, 4, 10, 11, 12, 13, 14, 15, 16]), (13, [0, 1, 3, 4, 10, 11, 12, 13, 14, 15, 16]), (14, [0, 1, 3, 4, 10, 11, 12, 13, 14, 15, 16]), (15, [0, 1, 3, 4, 10, 11, 12, 13]), (16, [0, 3, 4, 10, 11, 12, 13]), (17, [0, 1, 3, 4, 10, 11, 12, 13, 17]), (18, [0, 1, 3, 4, 10, 11, 12, 13, 17, 68]), (19, [0, 1, 3, 4, 10, 11, 12, 13, 17]), (20, [0, 1, 3, 4, 10, 11, 12, 13, 17, 18]), (21, [0, 3, 4, 10, 11, 12, 13, 17, 18]), (22, [0, 1, 3, 4, 10, 11, 12, 13, 17]), (23, [0, 1, 3, 4, 10, 11, 12, 13]), (24, [0, 3, 4, 10, 11, 12, 13]), (25, [0, 4, 10, 11, 12, 13, 89]), (26, [0, 4, 10, 11, 12, 13]), (27, [0, 4, 10, 11, 12, 13]), (28, [0, 10, 11, 12, 13, 94]), (29, [10, 11]), (30, [10, 11]), (999, [10, 11]), (1000, [0, 1, 3, 4, 10, 11, 12, 13]), (1001, [0, 1, 3, 4, 10, 11, 12, 13, 14, 15, 16]), (1002, [0, 1, 3, 4, 10, 11, 12, 13]), (1003, [0, 1, 3, 4, 10, 11, 12, 13, 17]), (3003, [0, 1, 2, 3, 4, 10, 11]), (3007, [0, 1, 2, 3, 4, 10, 11, 12, 13]), (3012, [0, 1, 3, 4, 10, 11, 12, 13, 14, 15, 16]), (3015, [0, 1, 3, 4, 10, 11, 12, 13]), (3019, [0, 1, 3, 4, 10, 11, 12, 13, 17]), (3023, [0, 1, 3, 4, 10, 11, 12, 13]), (3025, [0, 3, 4, 10, 11, 12, 13]), (3028, [0, 4, 10, 11, 12, 13]), (3030, [10, 12, 13]), (4011, [0, 1, 3, 4, 10, 11, 12, 13, 14, 15, 16]), (4018, [0, 1, 3, 4, 10, 11, 12, 13, 17])]
  | 107 => [(0, [0]), (1, [0, 3]), (2, [2]), (3, [10]), (4, [2]), (5, [2]), (999, [2]), (1000, []), (3005, [])]
  | 108 => [(0, [0]), (1, [2]), (999, [2])]
  | 110 => [(0, [0]), (1, [2]), (999, [2])]
  | 111 => [(0, [0]), (1, [0, 3]), (2, [0, 3, 4]), (3, [0, 3, 4, 18]), (4, [0, 3, 4]), (5, [0, 3, 4, 5]), (6, [0, 3, 4, 5, 46]), (7, [0, 4]), (8, [0, 3, 4]), (9, [0, 3, 4, 5]), (10, [0, 3, 4, 5, 54]), (11, [0, 3, 4, 5]), (12, [0, 3, 4, 5, 83]), (13, [0, 3, 4, 5]), (14, [0, 3, 4, 5, 87]), (15, [0, 4, 5, 89]), (16, [2]), (17, [0, 3, 4, 5]), (18, [0, 4, 5, 91]), (19, [2]), (20, [0, 3, 4, 5]), (21, [2]), (999, [2]), (1000, [3]), (1001, [0, 3, 4, 5]), (3005, [0, 3, 4]), (3010, [0, 3, 4, 5]), (3011, [0, 3, 4, 5]), (3012, [0, 3, 4, 5]), (3014, [0, 3, 4, 5]), (3017, [0, 4, 5]), (3018, [0, 3, 4, 5]), (3020, [0, 4, 5]), (3021, [3])]
  | 112 => [(0, [0]), (1, [0, 6]), (2, [2]), (3, [0, 3]), (4, [3]), (5, [2]), (999, [2]), (3003, [0])]
  | 113 => [(0, [0]), (1, [2]), (999, [2])]
  | 114 => [(0, [0, 1]), (1, [0, 1, 5, 6]), (2, [0, 1, 5, 6, 7]), (3, [0, 1, 5, 6, 7, 8]), (4, [0, 1, 5, 6, 7, 8, 9]), (5, [0, 1, 5, 6, 7, 8, 9, 20]), (6, [0, 1, 5, 6, 7, 8, 9]), (7, [0, 1, 5, 6, 7, 8, 9]), (8, [0, 1, 5, 6, 7, 8, 39]), (9, [4]), (10, [0, 1, 5, 6, 7, 8, 10]), (11, [0, 1, 5, 6, 7, 8, 10, 44]), (12, [0, 1, 5, 6, 7, 8, 10]), (13, [0, 1, 5, 6, 7, 8, 10]), (14, [0, 1, 5, 6, 7, 8, 10]), (15, [0, 1, 5, 6, 7, 8, 10]), (16, [0, 1, 5, 6, 7, 8, 10, 77]), (17, [4]), (18, [4]), (999, [4]), (1000, [0, 1, 5, 6, 7, 8]), (1001, [0, 1, 5, 6, 7, 8, 9]), (1002, []), (1003, [0, 1, 5, 6, 7, 8, 10]), (3006, [0, 1, 5, 6, 7, 8, 9]), (3007, [0, 1, 5, 6, 7, 8, 9]), (3008, [0, 1, 5, 6, 7, 8]), (3010, [0, 1, 5, 6, 7, 8]), (3012, [0, 1, 5, 6, 7, 8, 10]), (3018, []), (4011, [0, 1, 5, 6, 7, 8, 10])]
  | 115 => [(0, [0]), (1, [2]), (999, [2])]
  | 116 => [(0, [0, 2]), (1, [0, 2, 4]), (2, [0]), (3, [0, 2]), (4, [0, 2, 8]), (5, [0, 2]), (6, [0, 2]), (7, [0, 2, 14]), (8, [0, 2]), (9, [0, 2]), (10, [2]), (999, [2]), (3004, [0, 2]), (3007, [0, 2]), (3010, [0, 2])]
  | 117 => [(0, [0]), (1, [3]), (2, [2]), (3, [2]), (999, [2]), (3003, [])]
  | 118 => [(0, [0]), (1, [2]), (999, [2])]
  | 119 => [(0, [0]), (1, [2]), (2, [2]), (999, [2]), (3002, [0])]
  | 120 => [(0, [0]), (1, [0, 4]), (2, [0, 4, 5]), (3, [0, 4, 5, 12]), (4, [0, 4, 5]), (5, [0, 4, 5]), (6, [0, 4, 6, 7]), (7, [4, 6, 7, 8]), (8, [4, 6, 7, 8, 25]), (9, [4, 6, 7, 8]), (10, [4, 6, 7, 8, 30]), (11, [4, 6, 7, 8]), (12, [4, 6, 7, 8]), (13, [2, 3]), (999, [2, 3]), (1000, [0, 4]), (1001, [0, 4, 5]), (1002, [4, 6]), (1003, [4, 6, 7, 8]), (3004, [0, 4, 5]), (3005, [0, 4, 5]), (3006, [0, 4]), (3009, [4, 6, 7, 8]), (3010, [4, 6, 7, 8]), (3012, [4, 6, 7, 8]), (3013, [4, 6])]
  | 121 => [(0, [0]), (1, [0, 4]), (2, [2]), (3, [2]), (999, [2]), (3003, [0])]
  | 122 => [(0, [0]), (1, [0, 4]), (2, [2]), (3, [2]), (999, [2]), (3003, [0])]
  | 154 => [(0, []), (1, []), (2, []), (3, []), (4, []), (5, []), (6, []), (999, [])]
  | _ => []
end Go.Proofs.YtbgilaacfbinbaaGreatDoor.PM

namespace Go.Proofs.YtbgilaacfbinbaaGreatDoor.PM
open Go Go.Proofs Go.RowKit
set_option maxRecDepth 100000
set_option linter.unusedVariables false
set_option linter.unusedSimpArgs false

theorem hm : Tryz.prog.follows .mixedOrders = true := by kernel_rfl
def zs (n : Nat) : ByteArray := ofL (List.replicate n 0)
theorem zs_size (n : Nat) : (zs n).size = n := by rw [← li_size]; simp [zs]
def zerosG : Pure
  | [.int .i64 n] => some (0 ≤ n ∧ n < 2 ^ 40, .string (zs n.toNat))
  | _ => none
theorem rzeros_ok : PureOk Tryz.prog 25 zerosG := by
  refine .of_run (call := callOf []) (hint := hints 25) (tb := noTab) hm (callOf_nil) Tryz.func25 (by kernel_rfl) rfl (by kernel_rfl) (by repeat' first | exact trivial | constructor |  (intro _ h; cases h)) fun args c r h => ?_
  unfold zerosG at h
  split at h
  · rename_i n
    cases h
    refine ⟨rfl, fun hs => ⟨rfl, 1, fun K hK => ?_⟩⟩
    have hK := hK []
    refine toR (R := need ((decide (n = n)) && ((decide ((0 : Int) ≤ n)) && (decide (n ≤ (140737488355328 : Int))))) (need ((0 + n.toNat).ble (List.replicate n.toNat (0 : (intC .u8).α)).length) (K (.string (ByteArray.mk (Array.mk (List.map (fun (x : Int) => (UInt8.ofNat x.toNat)) (List.map (intC .u8).numOf (List.take n.toNat (List.drop 0 (List.replicate n.toNat (0 : (intC .u8).α))))))))) []))) (by kernel_rfl) ?_
    refine need_of (by simp only [decide_true, Bool.true_and, Bool.and_eq_true, decide_eq_true_eq]; omega) (need_of (by simp) ?_)
    have e : (ByteArray.mk (Array.mk (List.map (fun (x : Int) => (UInt8.ofNat x.toNat)) (List.map (fun (x : Int) => x) (List.take n.toNat (List.drop 0 (List.replicate n.toNat (0 : Int)))))))) = zs n.toNat := by
      apply li_inj
      show List.map (fun (x : Int) => (UInt8.ofNat x.toNat)) (List.map (fun (x : Int) => x) (List.take n.toNat (List.drop 0 (List.replicate n.toNat (0 : Int))))) = List.replicate n.toNat 0
      simp
    rw [← e] at hK
    exact hK
  · cases h
def textT (s : ByteArray) (n : Nat) : ByteArray := ofL ((li s).take n) ++ zs (n - s.size)
def textG : Pure
  | [.string s, .int .i64 n] => some (0 ≤ n ∧ n < 2 ^ 40 ∧ s.size < 2 ^ 40, .string (textT s n.toNat))
  | _ => none
theorem rtext_ok : PureOk Tryz.prog 44 textG := by
  refine .of_run (call := callOf [(25, pureS zerosG)]) (hint := hints 44) (tb := noTab) hm (callOf_cons rzeros_ok.spec callOf_nil) Tryz.func44 (by kernel_rfl) rfl (by kernel_rfl) (by repeat' first | exact trivial | constructor |  (intro _ h; cases h)) fun args c r h => ?_
  unfold textG at h
  split at h
  · rename_i s n
    cases h
    refine ⟨rfl, fun hs => ⟨rfl, 1, fun K hK => ?_⟩⟩
    have hK := hK []
    refine toR (R := need ((decide ((0 : Int) ≤ (minI n (↑s.size : Int)))) && (decide ((minI n (↑s.size : Int)) ≤ (↑s.size : Int)))) ((((0 : Int) ≤ (IntKind.i64.wrap (n - (↑(s.extract 0 (minI n (↑s.size : Int)).toNat).size : Int)))) ∧ ((IntKind.i64.wrap (n - (↑(s.extract 0 (minI n (↑s.size : Int)).toNat).size : Int))) < ((2 : Int) ^ 40))) ∧ (need (decide (((s.extract 0 (minI n (↑s.size : Int)).toNat).size + (zs (IntKind.i64.wrap (n - (↑(s.extract 0 (minI n (↑s.size : Int)).toNat).size : Int))).toNat).size) < 9223372036854775808)) (K (.string ((s.extract 0 (minI n (↑s.size : Int)).toNat) ++ (zs (IntKind.i64.wrap (n - (↑(s.extract 0 (minI n (↑s.size : Int)).toNat).size : Int))).toNat))) [])))) (by kernel_rfl) ?_
    obtain ⟨h0, h1, h2⟩ := hs
    have e1 : (minI n (s.size : Int)).toNat = min n.toNat s.size := by unfold minI; split <;> omega
    have e0 : 0 ≤ minI n (s.size : Int) ∧ minI n (s.size : Int) ≤ (s.size : Int) := by unfold minI; split <;> omega
    have e2 : (s.extract 0 (minI n (s.size : Int)).toNat).size = min n.toNat s.size := by rw [ByteArray.size_extract, e1]; omega
    have e3 : IntKind.i64.wrap (n - ((s.extract 0 (minI n (s.size : Int)).toNat).size : Int)) = ((n.toNat - s.size : Nat) : Int) := by rw [e2, wrap_id (by omega) (by omega)]; omega
    have e4 : s.extract 0 (minI n (s.size : Int)).toNat = ofL ((li s).take n.toNat) := by
      apply li_inj
      rw [li_extract, List.drop_zero, e1, li_ofL, ← li_size, List.take_eq_take_iff]
      simp
    have e5 : (ofL ((li s).take n.toNat)).size ≤ s.size := by rw [← e4, e2]; omega
    simp only [e3]
    simp only [e4, Int.toNat_natCast]
    have z := zs_size (n.toNat - s.size)
    exact need_of (by simp only [Bool.and_eq_true, decide_eq_true_eq]; exact e0) ⟨⟨by omega, by omega⟩, need_of (decide_eq_true (by omega)) hK⟩
  · cases h
def fullG : Pure
  | [.string s] => some (s.size < 2 ^ 40, .string (s ++ zs ((512 - s.size % 512) % 512)))
  | _ => none
theorem rfull_ok : PureOk Tryz.prog 24 fullG := by
  refine .of_run (call := callOf [(25, pureS zerosG)]) (hint := hints 24) (tb := noTab) hm (callOf_cons rzeros_ok.spec callOf_nil) Tryz.func24 (by kernel_rfl) rfl (by kernel_rfl) (by repeat' first | exact trivial | constructor |  (intro _ h; cases h)) fun args c r h => ?_
  unfold fullG at h
  split at h
  · rename_i s
    cases h
    refine ⟨rfl, fun hs => ⟨rfl, 1, fun K hK => ?_⟩⟩
    have hK := hK []
    refine toR (R := (((0 : Int) ≤ ((IntKind.i64.wrap ((512 : Int) - ((↑s.size : Int).tmod (512 : Int)))).tmod (512 : Int))) ∧ (((IntKind.i64.wrap ((512 : Int) - ((↑s.size : Int).tmod (512 : Int)))).tmod (512 : Int)) < ((2 : Int) ^ 40))) ∧ (need (decide ((s.size + (zs ((IntKind.i64.wrap ((512 : Int) - ((↑s.size : Int).tmod (512 : Int)))).tmod (512 : Int)).toNat).size) < 9223372036854775808)) (K (.string (s ++ (zs ((IntKind.i64.wrap ((512 : Int) - ((↑s.size : Int).tmod (512 : Int)))).tmod (512 : Int)).toNat))) []))) (by kernel_rfl) ?_
    have e : (IntKind.i64.wrap ((512 : Int) - ((s.size : Int).tmod (512 : Int)))).tmod (512 : Int) = (((512 - s.size % 512) % 512 : Nat) : Int) := by
      have e1 : (s.size : Int).tmod 512 = (s.size : Int) % 512 := Int.tmod_eq_emod_of_nonneg (by omega)
      rw [e1, wrap_id (by omega) (by omega), Int.tmod_eq_emod_of_nonneg (by omega)]
      omega
    simp only [e, Int.toNat_natCast]
    have z := zs_size ((512 - s.size % 512) % 512)
    exact ⟨⟨by omega, by omega⟩, need_of (decide_eq_true (by omega)) hK⟩
  · cases h
theorem sz8 : (ByteArray.mk #[48, 49, 50, 51, 52, 53, 54, 55]).size = 8 := rfl
/-- A number's digits to the base 8, so many, ahead of others. -/
def octL : Nat → Nat → List UInt8 → List UInt8
  | 0, _, l => l
  | d + 1, v, l => octL d (v / 8) (UInt8.ofNat (48 + v % 8) :: l)
theorem octL_len : ∀ d v l, (octL d v l).length = d + l.length
  | 0, _, l => by simp [octL]
  | d + 1, v, l => by unfold octL; rw [octL_len d]; simp; omega
def octLp : LSpec
  | [(0, .int .i64 v), (1, .int .i64 n), (5, .string s)], [], K => ∃ (u : Nat), (s = ByteArray.mk #[] ∧ v = (u : Int) ∧ u < 2 ^ 62 ∧ 1 ≤ n ∧ n < 100) ∧ K (.exit 0) [(5, .string (ofL (octL (n - 1).toNat u [])))] []
  | _, _, _ => False
theorem oct_rounds (n : Int) (h1 : 1 ≤ n) (h2 : n < 100) (K : Kont) : ∀ (d : Nat) (v : Nat) (l : List UInt8), v < 2 ^ 62 → l.length + d = (n - 1).toNat →
    K (.exit 0) [(5, .string (ofL (octL d v l)))] [] →
    rnds Tryz.prog (callOf [(25, pureS zerosG)]) (hints 45) noTab (d + 1) (lp Tryz.f45 2) [(0, .int .i64 (v : Int)), (1, .int .i64 n), (5, .string (ofL l))] [] K
  | 0, v, l, hv, hl, hK => by
    have hz : (ofL l).size = l.length := by rw [← li_size]
    refine toR (R := bcase (decide ((↑(ofL l).size : Int) < (IntKind.i64.wrap (n - (1 : Int))))) (need ((decide (((↑v : Int).tmod (8 : Int)) ≤ (IntKind.i64.wrap (((↑v : Int).tmod (8 : Int)) + (1 : Int))))) && (decide ((IntKind.i64.wrap (((↑v : Int).tmod (8 : Int)) + (1 : Int))) ≤ (↑8 : Int)))) (need (decide ((((ByteArray.mk #[48, 49, 50, 51, 52, 53, 54, 55]).extract ((↑v : Int).tmod (8 : Int)).toNat (IntKind.i64.wrap (((↑v : Int).tmod (8 : Int)) + (1 : Int))).toNat).size + (ofL l).size) < 9223372036854775808)) (rnds Tryz.prog (callOf [(25, (pureS zerosG))]) (hints 45) noTab (nat_lit 0) (lp Tryz.f45 2) [(0, (.int .i64 (IntKind.i64.wrap ((↑v : Int).tdiv (8 : Int))))), (1, (.int .i64 n)), (5, (.string (((ByteArray.mk #[48, 49, 50, 51, 52, 53, 54, 55]).extract ((↑v : Int).tmod (8 : Int)).toNat (IntKind.i64.wrap (((↑v : Int).tmod (8 : Int)) + (1 : Int))).toNat) ++ (ofL l))))] [] K))) (K (.exit 0) [(5, (.string (ofL l)))] [])) (by kernel_rfl) ?_
    rw [wrap_id (x := n - 1) (by omega) (by omega)]
    exact bcase_f (decide_eq_false (by omega)) hK
  | d + 1, v, l, hv, hl, hK => by
    have hz : (ofL l).size = l.length := by rw [← li_size]
    have ih := oct_rounds n h1 h2 K d (v / 8) (UInt8.ofNat (48 + v % 8) :: l) (by omega) (by simp; omega) hK
    obtain ⟨kk, hkk⟩ : ∃ kk, kk = d + 1 := ⟨_, rfl⟩; rw [← hkk] at ih ⊢
    refine toR (R := bcase (decide ((↑(ofL l).size : Int) < (IntKind.i64.wrap (n - (1 : Int))))) (need ((decide (((↑v : Int).tmod (8 : Int)) ≤ (IntKind.i64.wrap (((↑v : Int).tmod (8 : Int)) + (1 : Int))))) && (decide ((IntKind.i64.wrap (((↑v : Int).tmod (8 : Int)) + (1 : Int))) ≤ (↑8 : Int)))) (need (decide ((((ByteArray.mk #[48, 49, 50, 51, 52, 53, 54, 55]).extract ((↑v : Int).tmod (8 : Int)).toNat (IntKind.i64.wrap (((↑v : Int).tmod (8 : Int)) + (1 : Int))).toNat).size + (ofL l).size) < 9223372036854775808)) (rnds Tryz.prog (callOf [(25, (pureS zerosG))]) (hints 45) noTab kk (lp Tryz.f45 2) [(0, (.int .i64 (IntKind.i64.wrap ((↑v : Int).tdiv (8 : Int))))), (1, (.int .i64 n)), (5, (.string (((ByteArray.mk #[48, 49, 50, 51, 52, 53, 54, 55]).extract ((↑v : Int).tmod (8 : Int)).toNat (IntKind.i64.wrap (((↑v : Int).tmod (8 : Int)) + (1 : Int))).toNat) ++ (ofL l))))] [] K))) (K (.exit 0) [(5, (.string (ofL l)))] [])) (by kernel_rfl) ?_
    have m1 : ((v : Int).tmod 8) = ((v % 8 : Nat) : Int) := by rw [Int.tmod_eq_emod_of_nonneg (by omega)]; omega
    have m2 : IntKind.i64.wrap (((v % 8 : Nat) : Int) + 1) = ((v % 8 + 1 : Nat) : Int) := wrap_id (by omega) (by omega)
    have m3 : IntKind.i64.wrap ((v : Int).tdiv 8) = ((v / 8 : Nat) : Int) := by rw [Int.tdiv_eq_ediv_of_nonneg (by omega), wrap_id (by omega) (by omega)]; omega
    have m4 : (ByteArray.mk #[48, 49, 50, 51, 52, 53, 54, 55]).extract (v % 8) (v % 8 + 1) ++ ofL l = ofL (UInt8.ofNat (48 + v % 8) :: l) := by
      apply li_inj
      rw [li_append, li_extract]
      have : v % 8 < 8 := by omega
      generalize v % 8 = k at this
      match k, this with
      | 0, _ | 1, _ | 2, _ | 3, _ | 4, _ | 5, _ | 6, _ | 7, _ => rfl
    have m5 : ((ByteArray.mk #[48, 49, 50, 51, 52, 53, 54, 55]).extract (v % 8) (v % 8 + 1)).size ≤ 8 := by rw [ByteArray.size_extract, sz8]; omega
    rw [wrap_id (x := n - 1) (by omega) (by omega)]
    simp only [m1, m2, m3, Int.toNat_natCast]
    simp only [m4]
    exact bcase_t (decide_eq_true (by omega)) (need_of (by simp only [Bool.and_eq_true, decide_eq_true_eq]; omega) (need_of (decide_eq_true (by omega)) ih))
theorem octLp_ok : CodeOk Tryz.prog Tryz.f45.ntmps (.loop (lp Tryz.f45 2)) octLp := by
  refine loop_ok (call := callOf [(25, pureS zerosG)]) (hint := hints 45) (tb := noTab) hm (callOf_cons rzeros_ok.spec callOf_nil) (by kernel_rfl) (by repeat' first | exact trivial | constructor |  (intro _ h; cases h)) fun fr H K h => ?_
  unfold octLp at h
  split at h
  · obtain ⟨u, ⟨rfl, rfl, h1, h2, h3⟩, hK⟩ := h
    exact ⟨_, oct_rounds _ h2 h3 K _ u [] h1 (by simp) hK⟩
  · exact h.elim
def tab45 : Tab := ⟨fun | 2 => some octLp | _ => none, fun _ => none⟩
def octS (v n : Nat) : ByteArray := ofL (octL (n - 1) v []) ++ zs 1
def octG : Pure
  | [.int .i64 v, .int .i64 n] => some (0 ≤ v ∧ v < 2 ^ 62 ∧ 1 ≤ n ∧ n < 100, .string (octS v.toNat n.toNat))
  | _ => none
theorem roct_ok : PureOk Tryz.prog 45 octG := by
  refine .of_run (call := callOf [(25, pureS zerosG)]) (hint := hints 45) (tb := tab45) hm (callOf_cons rzeros_ok.spec callOf_nil) Tryz.func45 (by kernel_rfl) rfl (by kernel_rfl) (by repeat' first | exact trivial | constructor | (intro _ h; cases h; exact octLp_ok) | (intro _ h; cases h)) fun args c r h => ?_
  unfold octG at h
  split at h
  · rename_i v n
    cases h
    refine ⟨rfl, fun hs => ⟨rfl, 1, fun K hK => ?_⟩⟩
    have hK := hK []
    refine toR (R := ∃ (u : Nat), ((((ByteArray.mk #[]) = (ByteArray.mk #[])) ∧ ((v = (↑u : Int)) ∧ ((u < 4611686018427387904) ∧ (((1 : Int) ≤ n) ∧ (n < (100 : Int)))))) ∧ ((((0 : Int) ≤ (1 : Int)) ∧ ((1 : Int) < ((2 : Int) ^ 40))) ∧ (need (decide (((ofL (octL (n - (1 : Int)).toNat u [])).size + 1) < 9223372036854775808)) (K (.string ((ofL (octL (n - (1 : Int)).toNat u [])) ++ (zs 1))) []))))) (by kernel_rfl) ?_
    obtain ⟨h0, h1, h2, h3⟩ := hs
    have z1 := zs_size 1
    have z2 := octL_len (n - 1).toNat v.toNat []
    have z3 : (ofL (octL (n - 1).toNat v.toNat [])).size = (n - 1).toNat := by rw [← li_size, li_ofL, z2]; simp
    refine ⟨v.toNat, ⟨rfl, by omega, by omega, h2, h3⟩, ⟨by decide, by decide⟩, need_of (decide_eq_true (by
      show (ofL (octL (n - 1).toNat v.toNat [])).size + (zs 1).size < _
      omega)) ?_⟩
    have e : (n - 1).toNat = n.toNat - 1 := by omega
    rw [e]
    exact hK
  · cases h
/-- The sum of a head's bytes, its own field taken as blanks. -/
def sumFrom (s : ByteArray) : Nat → Nat → Int → Int
  | 0, _, n => n
  | d + 1, i, n => sumFrom s d (i + 1) (bif decide (i < 148) || decide (155 < i) then n + bt s i else n + 32)
theorem sumFrom_le (s : ByteArray) : ∀ d i n, sumFrom s d i n ≤ n + 256 * d ∧ n ≤ sumFrom s d i n
  | 0, i, n => by simp [sumFrom]
  | d + 1, i, n => by
    unfold sumFrom
    have b := bt_range s i
    cases decide (i < 148) || decide (155 < i)
    · have := sumFrom_le s d (i + 1) (n + 32)
      simp only [cond_false]
      omega
    · have := sumFrom_le s d (i + 1) (n + bt s i)
      simp only [cond_true]
      omega
def sumLp : LSpec
  | [(0, .string s), (3, .int .i64 n), (4, .int .i64 i)], [], K => (n = 0 ∧ i = 0 ∧ 512 ≤ s.size) ∧ K (.exit 0) [(3, .int .i64 (sumFrom s 512 0 0))] []
  | _, _, _ => False
theorem sum_rounds (s : ByteArray) (hs : 512 ≤ s.size) (K : Kont) : ∀ (d i : Nat) (n : Int), i + d = 512 → 0 ≤ n → n ≤ 256 * (i : Int) →
    K (.exit 0) [(3, .int .i64 (sumFrom s d i n))] [] →
    rnds Tryz.prog (callOf []) (hints 12) noTab (d + 1) (lp Tryz.f12 3) [(0, .string s), (3, .int .i64 n), (4, .int .i64 (i : Int))] [] K
  | 0, i, n, hi, h0, h1, hK => by
    refine toR (R := bcase (decide ((↑i : Int) < (512 : Int))) (bcase (decide ((↑i : Int) < (148 : Int))) (need (decide ((↑i : Int) < (↑s.size : Int))) (rnds Tryz.prog (callOf []) (hints 12) noTab (nat_lit 0) (lp Tryz.f12 3) [(0, (.string s)), (3, (.int .i64 (IntKind.i64.wrap (n + (IntKind.i64.wrap (bt s (↑i : Int))))))), (4, (.int .i64 (IntKind.i64.wrap ((↑i : Int) + (1 : Int)))))] [] K)) (bcase (decide ((↑i : Int) > (155 : Int))) (need (decide ((↑i : Int) < (↑s.size : Int))) (rnds Tryz.prog (callOf []) (hints 12) noTab (nat_lit 0) (lp Tryz.f12 3) [(0, (.string s)), (3, (.int .i64 (IntKind.i64.wrap (n + (IntKind.i64.wrap (bt s (↑i : Int))))))), (4, (.int .i64 (IntKind.i64.wrap ((↑i : Int) + (1 : Int)))))] [] K)) (rnds Tryz.prog (callOf []) (hints 12) noTab (nat_lit 0) (lp Tryz.f12 3) [(0, (.string s)), (3, (.int .i64 (IntKind.i64.wrap (n + (32 : Int))))), (4, (.int .i64 (IntKind.i64.wrap ((↑i : Int) + (1 : Int)))))] [] K))) (K (.exit 0) [(3, (.int .i64 n))] [])) (by kernel_rfl) ?_
    exact bcase_f (decide_eq_false (by omega)) hK
  | d + 1, i, n, hi, h0, h1, hK => by
    have w0 : IntKind.i64.wrap ((i : Int) + 1) = ((i + 1 : Nat) : Int) := wrap_id (by omega) (by omega)
    have b := bt_range s i
    have ih := fun n' h0 h1 hK => sum_rounds s hs K d (i + 1) n' (by omega) h0 h1 hK
    obtain ⟨kk, hkk⟩ : ∃ kk, kk = d + 1 := ⟨_, rfl⟩; rw [← hkk] at ih ⊢
    refine toR (R := bcase (decide ((↑i : Int) < (512 : Int))) (bcase (decide ((↑i : Int) < (148 : Int))) (need (decide ((↑i : Int) < (↑s.size : Int))) (rnds Tryz.prog (callOf []) (hints 12) noTab kk (lp Tryz.f12 3) [(0, (.string s)), (3, (.int .i64 (IntKind.i64.wrap (n + (IntKind.i64.wrap (bt s (↑i : Int))))))), (4, (.int .i64 (IntKind.i64.wrap ((↑i : Int) + (1 : Int)))))] [] K)) (bcase (decide ((↑i : Int) > (155 : Int))) (need (decide ((↑i : Int) < (↑s.size : Int))) (rnds Tryz.prog (callOf []) (hints 12) noTab kk (lp Tryz.f12 3) [(0, (.string s)), (3, (.int .i64 (IntKind.i64.wrap (n + (IntKind.i64.wrap (bt s (↑i : Int))))))), (4, (.int .i64 (IntKind.i64.wrap ((↑i : Int) + (1 : Int)))))] [] K)) (rnds Tryz.prog (callOf []) (hints 12) noTab kk (lp Tryz.f12 3) [(0, (.string s)), (3, (.int .i64 (IntKind.i64.wrap (n + (32 : Int))))), (4, (.int .i64 (IntKind.i64.wrap ((↑i : Int) + (1 : Int)))))] [] K))) (K (.exit 0) [(3, (.int .i64 n))] [])) (by kernel_rfl) ?_
    have w1 : IntKind.i64.wrap (bt s (i : Int)) = bt s (i : Int) := wrap_id (by omega) (by omega)
    have w2 : IntKind.i64.wrap (n + bt s (i : Int)) = n + bt s (i : Int) := wrap_id (by omega) (by omega)
    have w3 : IntKind.i64.wrap (n + 32) = n + 32 := wrap_id (by omega) (by omega)
    simp only [w0, w1, w2, w3]
    unfold sumFrom at hK
    refine bcase_t (decide_eq_true (by omega)) (bcase_of (fun h => ?_) (fun h => bcase_of (fun h2 => ?_) (fun h2 => ?_)))
    · have h := of_decide_eq_true h
      rw [decide_eq_true (show i < 148 by omega), Bool.true_or] at hK
      exact need_of (decide_eq_true (by omega)) (ih _ (by omega) (by omega) hK)
    · have h2 := of_decide_eq_true h2
      rw [decide_eq_true (show 155 < i by omega), Bool.or_true] at hK
      exact need_of (decide_eq_true (by omega)) (ih _ (by omega) (by omega) hK)
    · have h := of_decide_eq_false h
      have h2 := of_decide_eq_false h2
      rw [decide_eq_false (show ¬ i < 148 by omega), decide_eq_false (show ¬ 155 < i by omega), Bool.or_self] at hK
      exact ih _ (by omega) (by omega) hK
theorem sumLp_ok : CodeOk Tryz.prog Tryz.f12.ntmps (.loop (lp Tryz.f12 3)) sumLp := by
  refine loop_ok (call := callOf []) (hint := hints 12) (tb := noTab) hm (callOf_nil) (by kernel_rfl) (by repeat' first | exact trivial | constructor |  (intro _ h; cases h)) fun fr H K h => ?_
  unfold sumLp at h
  split at h
  · obtain ⟨⟨rfl, rfl, h1⟩, hK⟩ := h
    exact ⟨_, sum_rounds _ h1 K 512 0 0 (by omega) (by omega) (by omega) hK⟩
  · exact h.elim
def tab12 : Tab := ⟨fun | 3 => some sumLp | _ => none, fun _ => none⟩
def sumS (s : ByteArray) : Int := sumFrom s 512 0 0
def sumG : Pure
  | [.string s] => some (512 ≤ s.size, .int .i64 (sumS s))
  | _ => none
theorem rsum_ok : PureOk Tryz.prog 12 sumG := by
  refine .of_run (call := callOf []) (hint := hints 12) (tb := tab12) hm (callOf_nil) Tryz.func12 (by kernel_rfl) rfl (by kernel_rfl) (by repeat' first | exact trivial | constructor | (intro _ h; cases h; exact sumLp_ok) | (intro _ h; cases h)) fun args c r h => ?_
  unfold sumG at h
  split at h
  · rename_i s
    cases h
    refine ⟨rfl, fun hs => ⟨rfl, 1, fun K hK => ?_⟩⟩
    have hK := hK []
    refine toR (R := (((0 : Int) = (0 : Int)) ∧ (((0 : Int) = (0 : Int)) ∧ (512 ≤ s.size))) ∧ (K (.int .i64 (sumFrom s 512 0 (0 : Int))) [])) (by kernel_rfl) ?_
    exact ⟨⟨rfl, rfl, hs⟩, hK⟩
  · cases h
end Go.Proofs.YtbgilaacfbinbaaGreatDoor.PM

namespace Go.Proofs.YtbgilaacfbinbaaGreatDoor.PM
open Go Go.Proofs Go.RowKit
set_option maxRecDepth 100000
set_option linter.unusedVariables false
set_option linter.unusedSimpArgs false

theorem dec_len (u : Nat) : (Lib.decDigits u).length ≤ u + 1 := by
  induction u using Nat.strongRecOn with
  | _ u ih =>
    rw [Lib.decDigits]
    split
    · simp
    · have := ih (u / 10) (by omega)
      simp only [List.length_append, List.length_cons, List.length_nil]
      omega
theorem szT : (ByteArray.mk #[48, 49, 50, 51, 52, 53, 54, 55, 56, 57]).size = 10 := rfl
def decG (N : Nat) : Pure
  | [.int .i64 n] => some (0 ≤ n ∧ n < N ∧ n < 2 ^ 40, .string (ofL (Lib.decDigits n.toNat)))
  | _ => none
theorem rdec_ok : ∀ N : Nat, PureOk Tryz.prog 43 (decG N)
  | 0 => by
    refine .of_run (call := callOf []) (hint := hints 43) (tb := noTab) hm (callOf_nil) Tryz.func43 (by kernel_rfl) rfl (by kernel_rfl) (by repeat' first | exact trivial | constructor |  (intro _ h; cases h)) fun args c r h => ?_
    unfold decG at h
    split at h
    · rename_i n
      cases h
      exact ⟨rfl, fun hs => absurd hs (by omega)⟩
    · cases h
  | N + 1 => by
    refine .of_run (call := callOf [(43, pureS (decG N))]) (hint := hints 43) (tb := noTab) hm (callOf_cons (rdec_ok N).spec callOf_nil) Tryz.func43 (by kernel_rfl) rfl (by kernel_rfl) (by repeat' first | exact trivial | constructor |  (intro _ h; cases h)) fun args c r h => ?_
    unfold decG at h
    split at h
    · rename_i n
      cases h
      refine ⟨rfl, fun hs => ⟨rfl, 1, fun K hK => ?_⟩⟩
      have hK := hK []
      refine toR (R := bcase (decide (n < (10 : Int))) (need ((decide ((0 : Int) ≤ n)) && ((decide (n ≤ (IntKind.i64.wrap (n + (1 : Int))))) && (decide ((IntKind.i64.wrap (n + (1 : Int))) ≤ (↑10 : Int))))) (K (.string ((ByteArray.mk #[48, 49, 50, 51, 52, 53, 54, 55, 56, 57]).extract n.toNat (IntKind.i64.wrap (n + (1 : Int))).toNat)) [])) ((((0 : Int) ≤ (IntKind.i64.wrap (n.tdiv (10 : Int)))) ∧ (((IntKind.i64.wrap (n.tdiv (10 : Int))) < (↑N : Int)) ∧ ((IntKind.i64.wrap (n.tdiv (10 : Int))) < ((2 : Int) ^ 40)))) ∧ ((((0 : Int) ≤ (n.tmod (10 : Int))) ∧ (((n.tmod (10 : Int)) < (↑N : Int)) ∧ ((n.tmod (10 : Int)) < ((2 : Int) ^ 40)))) ∧ (need (decide (((ofL (Lib.decDigits (IntKind.i64.wrap (n.tdiv (10 : Int))).toNat)).size + (ofL (Lib.decDigits (n.tmod (10 : Int)).toNat)).size) < 9223372036854775808)) (K (.string ((ofL (Lib.decDigits (IntKind.i64.wrap (n.tdiv (10 : Int))).toNat)) ++ (ofL (Lib.decDigits (n.tmod (10 : Int)).toNat)))) []))))) (by kernel_rfl) ?_
      obtain ⟨h0, h1, h2⟩ := hs
      refine bcase_of (fun h => ?_) (fun h => ?_)
      · have h := of_decide_eq_true h
        have w1 : IntKind.i64.wrap (n + 1) = n + 1 := wrap_id (by omega) (by omega)
        rw [w1]
        refine need_of (by simp only [Bool.and_eq_true, decide_eq_true_eq]; omega) ?_
        have e : (ByteArray.mk #[48, 49, 50, 51, 52, 53, 54, 55, 56, 57]).extract n.toNat (n + 1).toNat = ofL (Lib.decDigits n.toNat) := by
          rw [show (n + 1).toNat = n.toNat + 1 by omega]
          have hn : n.toNat < 10 := by omega
          rw [Lib.decDigits_one hn]
          generalize n.toNat = k at hn
          match k, hn with
          | 0, _ | 1, _ | 2, _ | 3, _ | 4, _ | 5, _ | 6, _ | 7, _ | 8, _ | 9, _ => rfl
        rw [e]
        exact hK
      · have h := of_decide_eq_false h
        have m1 : IntKind.i64.wrap (n.tdiv 10) = n / 10 := by rw [Int.tdiv_eq_ediv_of_nonneg h0, wrap_id (by omega) (by omega)]
        have m2 : n.tmod 10 = n % 10 := Int.tmod_eq_emod_of_nonneg h0
        rw [m1, m2]
        have z1 := dec_len (n / 10).toNat
        have z2 := dec_len (n % 10).toNat
        have e : ofL (Lib.decDigits (n / 10).toNat) ++ ofL (Lib.decDigits (n % 10).toNat) = ofL (Lib.decDigits n.toNat) := by
          rw [ofL_append]
          congr 2
          rw [Lib.decDigits_one (show (n % 10).toNat < 10 by omega)]
          conv => rhs; rw [Lib.decDigits]
          rw [dif_neg (show ¬ n.toNat < 10 by omega), show (n / 10).toNat = n.toNat / 10 by omega, show (n % 10).toNat = n.toNat % 10 by omega]
        rw [e]
        refine ⟨by omega, by omega, need_of (decide_eq_true ?_) hK⟩
        rw [← li_size, ← li_size, li_ofL, li_ofL]
        omega
    · cases h
def decGG : Pure
  | [.int .i64 n] => some (0 ≤ n ∧ n < 2 ^ 40, .string (ofL (Lib.decDigits n.toNat)))
  | _ => none
theorem rdecimal_ok : PureOk Tryz.prog 43 decGG where
  enter := (rdec_ok 0).enter
  args args c r h := by
    unfold decGG at h
    split at h
    · cases h; rfl
    · cases h
  meets args c r h hc := by
    unfold decGG at h
    split at h
    · rename_i n
      cases h
      exact (rdec_ok (2 ^ 40)).meets [.int .i64 n] _ _ rfl ⟨hc.1, by omega, hc.2⟩
    · cases h
/-- A record of a length. -/
def recT (key value : ByteArray) (n : Nat) : ByteArray := ((((ofL (Lib.decDigits n) ++ ⟨#[32]⟩) ++ key) ++ ⟨#[61]⟩) ++ value) ++ ⟨#[10]⟩
theorem recT_size (key value : ByteArray) (n : Nat) : (recT key value n).size = (Lib.decDigits n).length + key.size + value.size + 3 := by
  unfold recT
  simp only [ByteArray.size_append, show ∀ c, (ByteArray.mk #[c]).size = 1 from fun _ => rfl, ← li_size (ofL (Lib.decDigits n)), li_ofL]
  omega
def recFrom (key value : ByteArray) : Nat → Nat → ByteArray
  | 0, _ => ⟨#[]⟩
  | d + 1, n => bif ((recT key value n).size : Int) == (n : Int) then recT key value n else recFrom key value d (n + 1)
def recLp : LSpec
  | [(0, .string key), (1, .string value), (5, .int .i64 i)], [], K => (i = 0 ∧ key.size < 2 ^ 30 ∧ value.size < 2 ^ 30) ∧ ∀ r : ByteArray, r = recFrom key value 1000 0 → bcase (isS r []) (K (.exit 0) [] []) (K .ret [(4, .string r)] [])
  | _, _, _ => False
theorem rec_rounds (key value : ByteArray) (h1 : key.size < 2 ^ 30) (h2 : value.size < 2 ^ 30) (K : Kont) : ∀ (d i : Nat), i + d = 1000 →
    bcase (isS (recFrom key value d i) []) (K (.exit 0) [] []) (K .ret [(4, .string (recFrom key value d i))] []) →
    rnds Tryz.prog (callOf [(43, pureS decGG)]) (hints 22) noTab (d + 1) (lp Tryz.f22 2) [(0, .string key), (1, .string value), (5, .int .i64 (i : Int))] [] K
  | 0, i, hi, hK => by
    refine toR (R := bcase (decide ((↑i : Int) < (1000 : Int))) ((((0 : Int) ≤ (↑i : Int)) ∧ ((↑i : Int) < ((2 : Int) ^ 40))) ∧ (need (decide (((ofL (Lib.decDigits (↑i : Int).toNat)).size + 1) < 9223372036854775808)) (need (decide ((((ofL (Lib.decDigits (↑i : Int).toNat)) ++ (ByteArray.mk #[32])).size + key.size) < 9223372036854775808)) (need (decide (((((ofL (Lib.decDigits (↑i : Int).toNat)) ++ (ByteArray.mk #[32])) ++ key).size + 1) < 9223372036854775808)) (need (decide ((((((ofL (Lib.decDigits (↑i : Int).toNat)) ++ (ByteArray.mk #[32])) ++ key) ++ (ByteArray.mk #[61])).size + value.size) < 9223372036854775808)) (need (decide (((((((ofL (Lib.decDigits (↑i : Int).toNat)) ++ (ByteArray.mk #[32])) ++ key) ++ (ByteArray.mk #[61])) ++ value).size + 1) < 9223372036854775808)) (bcase ((↑((((((ofL (Lib.decDigits (↑i : Int).toNat)) ++ (ByteArray.mk #[32])) ++ key) ++ (ByteArray.mk #[61])) ++ value) ++ (ByteArray.mk #[10])).size : Int) == (↑i : Int)) (K .ret [(4, (.string ((((((ofL (Lib.decDigits (↑i : Int).toNat)) ++ (ByteArray.mk #[32])) ++ key) ++ (ByteArray.mk #[61])) ++ value) ++ (ByteArray.mk #[10]))))] []) (rnds Tryz.prog (callOf [(43, (pureS decGG))]) (hints 22) noTab (nat_lit 0) (lp Tryz.f22 2) [(0, (.string key)), (1, (.string value)), (5, (.int .i64 (IntKind.i64.wrap ((↑i : Int) + (1 : Int)))))] [] K)))))))) (K (.exit 0) [] [])) (by kernel_rfl) ?_
    have he : isS (recFrom key value 0 i) [] = true := by show isS (ByteArray.mk #[]) [] = true; kernel_rfl
    rw [he] at hK
    exact bcase_f (decide_eq_false (by omega)) hK
  | d + 1, i, hi, hK => by
    have w0 : IntKind.i64.wrap ((i : Int) + 1) = ((i + 1 : Nat) : Int) := wrap_id (by omega) (by omega)
    have hz := recT_size key value i
    have hd := dec_len i
    have ih := rec_rounds key value h1 h2 K d (i + 1) (by omega)
    obtain ⟨kk, hkk⟩ : ∃ kk, kk = d + 1 := ⟨_, rfl⟩; rw [← hkk] at ih ⊢
    refine toR (R := bcase (decide ((↑i : Int) < (1000 : Int))) ((((0 : Int) ≤ (↑i : Int)) ∧ ((↑i : Int) < ((2 : Int) ^ 40))) ∧ (need (decide (((ofL (Lib.decDigits (↑i : Int).toNat)).size + 1) < 9223372036854775808)) (need (decide ((((ofL (Lib.decDigits (↑i : Int).toNat)) ++ (ByteArray.mk #[32])).size + key.size) < 9223372036854775808)) (need (decide (((((ofL (Lib.decDigits (↑i : Int).toNat)) ++ (ByteArray.mk #[32])) ++ key).size + 1) < 9223372036854775808)) (need (decide ((((((ofL (Lib.decDigits (↑i : Int).toNat)) ++ (ByteArray.mk #[32])) ++ key) ++ (ByteArray.mk #[61])).size + value.size) < 9223372036854775808)) (need (decide (((((((ofL (Lib.decDigits (↑i : Int).toNat)) ++ (ByteArray.mk #[32])) ++ key) ++ (ByteArray.mk #[61])) ++ value).size + 1) < 9223372036854775808)) (bcase ((↑((((((ofL (Lib.decDigits (↑i : Int).toNat)) ++ (ByteArray.mk #[32])) ++ key) ++ (ByteArray.mk #[61])) ++ value) ++ (ByteArray.mk #[10])).size : Int) == (↑i : Int)) (K .ret [(4, (.string ((((((ofL (Lib.decDigits (↑i : Int).toNat)) ++ (ByteArray.mk #[32])) ++ key) ++ (ByteArray.mk #[61])) ++ value) ++ (ByteArray.mk #[10]))))] []) (rnds Tryz.prog (callOf [(43, (pureS decGG))]) (hints 22) noTab kk (lp Tryz.f22 2) [(0, (.string key)), (1, (.string value)), (5, (.int .i64 (IntKind.i64.wrap ((↑i : Int) + (1 : Int)))))] [] K)))))))) (K (.exit 0) [] [])) (by kernel_rfl) ?_
    have w0' : (0 : Int) ≤ (i : Int) ∧ (i : Int) < 2 ^ 40 := by omega
    have z1 : (ofL (Lib.decDigits i)).size = (Lib.decDigits i).length := by rw [← li_size]
    have s1 : (ByteArray.mk #[32]).size = 1 := rfl
    have s2 : (ByteArray.mk #[61]).size = 1 := rfl
    have s3 : (ByteArray.mk #[10]).size = 1 := rfl
    simp only [Int.toNat_natCast, w0]
    refine bcase_t (decide_eq_true (by omega)) ⟨w0', ?_⟩
    iterate 5 refine need_of (decide_eq_true (by simp only [ByteArray.size_append, z1, s1, s2]; omega)) ?_
    have hf : recFrom key value (d + 1) i = bif ((recT key value i).size : Int) == (i : Int) then recT key value i else recFrom key value d (i + 1) := rfl
    rw [hf] at hK
    show bcase (((recT key value i).size : Int) == (i : Int)) (K .ret [(4, .string (recT key value i))] []) _
    refine bcase_of (fun h => ?_) (fun h => ?_)
    · rw [h] at hK
      have hn : isS (recT key value i) [] = false := by
        rw [show isS (recT key value i) [] = ((recT key value i).size == 0) from toList_empty _, hz]
        simp
      simp only [cond_true] at hK
      rw [hn] at hK
      exact hK
    · rw [h] at hK
      exact ih hK
theorem recLp_ok : CodeOk Tryz.prog Tryz.f22.ntmps (.loop (lp Tryz.f22 2)) recLp := by
  refine loop_ok (call := callOf [(43, pureS decGG)]) (hint := hints 22) (tb := noTab) hm (callOf_cons rdecimal_ok.spec callOf_nil) (by kernel_rfl) (by repeat' first | exact trivial | constructor |  (intro _ h; cases h)) fun fr H K h => ?_
  unfold recLp at h
  split at h
  · obtain ⟨⟨rfl, h1, h2⟩, hK⟩ := h
    exact ⟨_, rec_rounds _ _ h1 h2 K 1000 0 (by omega) (hK _ rfl)⟩
  · exact h.elim
def tab22 : Tab := ⟨fun | 2 => some recLp | _ => none, fun _ => none⟩
def recS (key value : ByteArray) : ByteArray := recFrom key value 1000 0
def recG : Pure
  | [.string key, .string value] => some (key.size < 2 ^ 30 ∧ value.size < 2 ^ 30, .string (recS key value))
  | _ => none
theorem rrec_ok : PureOk Tryz.prog 22 recG := by
  refine .of_run (call := callOf [(43, pureS decGG)]) (hint := hints 22) (tb := tab22) hm (callOf_cons rdecimal_ok.spec callOf_nil) Tryz.func22 (by kernel_rfl) rfl (by kernel_rfl) (by repeat' first | exact trivial | constructor | (intro _ h; cases h; exact recLp_ok) | (intro _ h; cases h)) fun args c r h => ?_
  unfold recG at h
  split at h
  · rename_i key value
    cases h
    refine ⟨rfl, fun hs => ⟨rfl, 1, fun K hK => ?_⟩⟩
    have hK := hK []
    refine toR (R := (((0 : Int) = (0 : Int)) ∧ ((key.size < 1073741824) ∧ (value.size < 1073741824))) ∧ (∀ (r : ByteArray), ((r = (recFrom key value 1000 0)) → (bcase (isS r []) (K (.string (ByteArray.mk #[])) []) (K (.string r) []))))) (by kernel_rfl) ?_
    refine ⟨⟨rfl, hs.1, hs.2⟩, fun r hr => bcase_of (fun h => ?_) (fun h => ?_)⟩
    · have e : r = ByteArray.mk #[] := eq_of h
      rw [e] at hr
      unfold recS at hK
      rw [← hr] at hK
      exact hK
    · rw [hr]
      exact hK
  · cases h
end Go.Proofs.YtbgilaacfbinbaaGreatDoor.PM
