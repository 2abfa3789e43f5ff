/- Operations that write memory, and calls: what the small machine says of them holds of the model. Other numbers for the blocks: what holds of the one holds of the other. The small machine's runs: what it says of a call holds of the model's. Contracts of functions whose arguments and results hold no address: they serve whatever memory there is. Contracts of small functions of refs. Contracts of small functions of the reference: cut, of. Contracts of functions of the reference: front, path, domain, part. By an AI agent. -/
import Derived.Test.YtofcjkbgieenlaaDoorRowRefsPartsA
import Derived.OrdersHeld
set_option linter.unusedVariables false
set_option linter.unusedSimpArgs false
namespace Go.Proofs.YtofcjkbgieenlaaDoor.PM
open Go Go.RowKit
set_option linter.unusedVariables false
set_option linter.unusedSimpArgs false

theorem RowOk.mono {μ μ' : Mu} {w w' : World} {C : Codec} {esz : Nat} {l : List C.α} {m : VMode} {p : Place} (h : RowOk μ w C esz l m p) (hm : Mu.le μ μ')
    (hb : ∀ k, k < w.heap.size → w'.heap[k]? = w.heap[k]?) (hs : w.heap.size ≤ w'.heap.size) : RowOk μ' w' C esz l m p where
  pe := h.pe
  blk := Nat.lt_of_lt_of_le h.blk hs
  lens := h.lens
  cells i j x v h1 h2 := by
    obtain ⟨v', h3, h4⟩ := h.cells i j x v h1 h2
    exact ⟨v', by rw [Place.at, World.cell?_of_block (hb _ h.blk)]; exact h3, h4.mono hm⟩
  own ho := by
    obtain ⟨L, h1, h2, h3⟩ := h.own ho
    refine ⟨L, h1, h2, fun i hi => ?_⟩
    rw [World.cell?_of_block (w := w) (hb _ h.blk), World.frozen?_of_block (w := w) (hb _ h.blk)]
    exact h3 i hi

theorem mu_lt {μ : Mu} {b : Nat} {p : Place} (h : μ[b]? = some p) : b < μ.length := (List.getElem?_eq_some_iff.1 h).1

theorem mu_snoc (μ : Mu) (p : Place) : Mu.le μ (μ ++ [p]) := fun b q h => by
  rw [List.getElem?_append_left (mu_lt h)]; exact h

/-- A new row behind all that were. -/
theorem HR.snoc {μ : Mu} {H : VH} {w w' : World} (h : HR μ H w) {C : Codec} {esz : Nat} {l : List C.α} {m : VMode} {p : Place}
    (hb : ∀ k, k < w.heap.size → w'.heap[k]? = w.heap[k]?) (hs : w.heap.size ≤ w'.heap.size) (hp : w.heap.size ≤ p.blk)
    (hr : RowOk (μ ++ [p]) w' C esz l m p) : HR (μ ++ [p]) (H ++ [.row C esz l m]) w' where
  len := by simp [h.len]
  row b C' esz' l' m' hg := by
    rcases Nat.lt_trichotomy b H.length with hlt | heq | hgt
    · rw [hget_append_lt hlt] at hg
      obtain ⟨q, hq, r⟩ := h.row b C' esz' l' m' hg
      exact ⟨q, mu_snoc μ p b q hq, r.mono (mu_snoc μ p) hb hs⟩
    · subst heq
      have := hget_append_ge (H := H) (G := [.row C esz l m]) 0
      simp only [Nat.add_zero] at this
      rw [this] at hg
      cases hg
      exact ⟨p, by rw [← h.len]; simp, hr⟩
    · rw [hget_len (by simp; omega)] at hg; cases hg
  iter b s pos hg := by
    rcases Nat.lt_trichotomy b H.length with hlt | heq | hgt
    · rw [hget_append_lt hlt] at hg
      obtain ⟨q, hq, r⟩ := (h.later hb hs).iter b s pos hg
      exact ⟨q, mu_snoc μ p b q hq, r⟩
    · subst heq
      have := hget_append_ge (H := H) (G := [.row C esz l m]) 0
      simp only [Nat.add_zero] at this
      rw [this] at hg
      cases hg
    · rw [hget_len (by simp; omega)] at hg; cases hg
  sep b1 b2 C1 C2 e1 e2 l1 l2 m2 p1 p2 hne g1 g2 q1 q2 hblk i j hi hj hst := by
    have place : ∀ {b : Nat} {C' : Codec} {e : Nat} {l' : List C'.α} {m' : VMode} {q : Place}, hget (H ++ [.row C esz l m]) b = .row C' e l' m' → (μ ++ [p])[b]? = some q →
        (b < H.length ∧ hget H b = .row C' e l' m' ∧ μ[b]? = some q ∧ q.blk < w.heap.size) ∨ (b = H.length ∧ q = p) := by
      intro b C' e l' m' q hg hq
      rcases Nat.lt_trichotomy b H.length with hlt | heq | hgt
      · left
        rw [hget_append_lt hlt] at hg
        rw [List.getElem?_append_left (by rw [h.len]; exact hlt)] at hq
        obtain ⟨q', hq', r⟩ := h.row b C' e l' m' hg
        obtain rfl : q' = q := Option.some.inj (hq'.symm.trans hq)
        exact ⟨hlt, hg, hq, r.blk⟩
      · right
        subst heq
        refine ⟨rfl, ?_⟩
        rw [← h.len] at hq
        simpa using hq.symm
      · rw [hget_len (by simp; omega)] at hg; cases hg
    rcases place g1 q1 with ⟨_, k1, k2, k3⟩ | ⟨rfl, rfl⟩
    · rcases place g2 q2 with ⟨_, k4, k5, k6⟩ | ⟨rfl, rfl⟩
      · exact h.sep b1 b2 C1 C2 e1 e2 l1 l2 m2 p1 p2 hne k1 k4 k2 k5 hblk i j hi hj hst
      · omega
    · rcases place g2 q2 with ⟨_, k4, k5, k6⟩ | ⟨rfl, rfl⟩
      · omega
      · exact absurd rfl hne
  isep b1 b2 s1 s2 o1 o2 p1 p2 hne g1 g2 q1 q2 := by
    have place : ∀ {b : Nat} {s : ByteArray} {o : Nat} {q : Place}, hget (H ++ [.row C esz l m]) b = .iter s o → (μ ++ [p])[b]? = some q →
        (hget H b = .iter s o ∧ μ[b]? = some q) := by
      intro b s o q hg hq
      rcases Nat.lt_trichotomy b H.length with hlt | heq | hgt
      · rw [hget_append_lt hlt] at hg
        rw [List.getElem?_append_left (by rw [h.len]; exact hlt)] at hq
        exact ⟨hg, hq⟩
      · subst heq
        have := hget_append_ge (H := H) (G := [.row C esz l m]) 0
        simp only [Nat.add_zero] at this
        rw [this] at hg
        cases hg
      · rw [hget_len (by simp; omega)] at hg; cases hg
    obtain ⟨a1, a2⟩ := place g1 q1
    obtain ⟨c1, c2⟩ := place g2 q2
    exact h.isep b1 b2 s1 s2 o1 o2 p1 p2 hne a1 c1 a2 c2

/-- A fresh variable. -/
theorem HR.fresh {μ : Mu} {H : VH} {w : World} (h : HR μ H w) {zs zs' : List Value} (hz : VRs μ zs zs') (T : TypeId) :
    HR (μ ++ [⟨w.heap.size, 0, zs.length, some zs.length⟩]) (H ++ [.row raw zs.length [zs] .own]) { w with heap := w.heap.push (.cells ⟨zs'⟩ T (0, 0)) } := by
  have hb : ∀ k, k < w.heap.size → (w.heap.push (.cells ⟨zs'⟩ T (0, 0)))[k]? = w.heap[k]? := fun k hk => by
    rw [Array.getElem?_push]; simp [Nat.ne_of_lt hk]
  have hcell : ∀ i, ({ w with heap := w.heap.push (.cells ⟨zs'⟩ T (0, 0)) } : World).cell? ⟨w.heap.size, i, none⟩ = zs'[i]? := fun i => by
    simp [World.cell?]
  refine h.snoc (w' := { w with heap := w.heap.push (.cells ⟨zs'⟩ T (0, 0)) }) hb (by simp) (Nat.le_refl _) ⟨rfl, by simp, ?_, ?_, ?_⟩
  · intro x hx
    simp only [List.mem_singleton] at hx
    subst hx
    rfl
  · intro i j x v h1 h2
    cases i with
    | succ i => simp at h1
    | zero =>
      simp only [List.getElem?_cons_zero, Option.some.injEq] at h1
      subst h1
      obtain ⟨v', k1, k2⟩ := hz.get (show zs[j]? = some v from h2)
      refine ⟨v', ?_, k2.mono (mu_snoc _ _)⟩
      have := hcell j
      simpa [Place.at] using this.trans k1
  · intro _
    refine ⟨zs.length, rfl, by simp, fun i hi => ⟨?_, ?_⟩⟩
    · rw [Nat.zero_add, hcell]
      exact ⟨_, List.getElem?_eq_getElem (by rw [hz.length]; exact hi)⟩
    · simp [World.frozen?]

theorem setFrom_spec {C : Codec} : ∀ (cs : List Value) (x y : C.α) (j : Nat), setFrom C x j cs = some y → j + cs.length ≤ (C.enc x).length →
    (C.enc y).length = (C.enc x).length ∧ (∀ q, q < j ∨ j + cs.length ≤ q → (C.enc y)[q]? = (C.enc x)[q]?) ∧ (∀ q, q < cs.length → (C.enc y)[j + q]? = cs[q]?) ∧ (∀ v ∈ cs, cellV v = true)
  | [], x, y, j, h, _ => by
    obtain rfl := Option.some.inj h
    exact ⟨rfl, fun _ _ => rfl, fun q hq => by simp at hq, fun v hv => by simp at hv⟩
  | v :: r, x, y, j, h, hlen => by
    unfold setFrom at h
    cases hok : (C.okv j v && cellV v) with
    | false => rw [hok] at h; cases h
    | true =>
      rw [hok] at h
      simp only [cond_true] at h
      simp only [Bool.and_eq_true] at hok
      have he := C.h_set x j v hok.1
      simp only [List.length_cons] at hlen ⊢
      obtain ⟨k1, k2, k3, k4⟩ := setFrom_spec r (C.set x j v) y (j + 1) h (by rw [he]; simp; omega)
      refine ⟨by rw [k1, he]; simp, fun q hq => ?_, fun q hq => ?_, ?_⟩
      · rw [k2 q (by omega), he]
        rw [List.getElem?_set_ne (by omega)]
      · cases q with
        | zero =>
          have hjl : j < (C.enc x).length := by omega
          rw [Nat.add_zero, k2 j (by omega), he]
          simp [hjl]
        | succ q =>
          rw [show j + (q + 1) = j + 1 + q by omega, k3 q (by omega)]
          simp
      · intro u hu
        rcases List.mem_cons.1 hu with rfl | hu
        · exact hok.2
        · exact k4 u hu

theorem cellsV_all : ∀ {l : List Value}, cellsV l = true → ∀ v ∈ l, cellV v = true
  | [], _, v, h => by cases h
  | u :: l, h, v, hv => by
    simp only [cellsV, Bool.and_eq_true] at h
    rcases List.mem_cons.1 hv with rfl | hv
    · exact h.1
    · exact cellsV_all h.2 v hv

theorem setAll_spec {C : Codec} {esz : Nat} (cs : List Value) (x y : C.α) (j : Nat) (h : setAll C esz x j cs = some y) (hlen : j + cs.length ≤ (C.enc x).length) (he : (C.enc x).length = esz) :
    (C.enc y).length = (C.enc x).length ∧ (∀ q, q < j ∨ j + cs.length ≤ q → (C.enc y)[q]? = (C.enc x)[q]?) ∧ (∀ q, q < cs.length → (C.enc y)[j + q]? = cs[q]?) ∧ (∀ v ∈ cs, cellV v = true) := by
  unfold setAll at h
  cases hb : ((Nat.beq cs.length esz && Nat.beq j 0) && (C.okl cs && cellsV cs)) with
  | false =>
    rw [hb] at h
    simp only [cond_false] at h
    cases hb2 : (Nat.ble 4 cs.length && (C.okl (splice (C.enc x) j cs) && cellsV cs)) with
    | false => rw [hb2] at h; exact setFrom_spec cs x y j h hlen
    | true =>
      rw [hb2] at h
      obtain rfl := Option.some.inj h
      simp only [Bool.and_eq_true] at hb2
      rw [C.h_dec _ hb2.2.1]
      refine ⟨splice_len hlen, fun q hq => ?_, fun q hq => ?_, cellsV_all hb2.2.2⟩
      · unfold splice
        rcases hq with hq | hq
        · rw [List.getElem?_append_left (by rw [List.length_take]; omega), List.getElem?_take_of_lt hq]
        · rw [List.getElem?_append_right (by rw [List.length_take]; omega), List.length_take, List.getElem?_append_right (by omega), List.getElem?_drop]
          congr 1
          omega
      · unfold splice
        rw [List.getElem?_append_right (by rw [List.length_take]; omega), List.length_take, List.getElem?_append_left (by omega)]
        congr 1
        omega
  | true =>
    rw [hb] at h
    obtain rfl := Option.some.inj h
    simp only [Bool.and_eq_true] at hb
    obtain ⟨⟨h2, h1⟩, h3, h4⟩ := hb
    obtain rfl := Nat.eq_of_beq_eq_true h1
    have h2 := Nat.eq_of_beq_eq_true h2
    rw [C.h_dec cs h3]
    refine ⟨by omega, fun q hq => ?_, fun q _ => by rw [Nat.zero_add], cellsV_all h4⟩
    rw [List.getElem?_eq_none (by omega), List.getElem?_eq_none (by omega)]

theorem cellV_one {μ : Mu} {v v' : Value} (h : VR μ v v') (hc : cellV v = true) : v'.oneCell' = true := by
  cases h <;> first | rfl | cases hc

theorem VRs.ones {μ : Mu} : ∀ {l l' : List Value}, VRs μ l l' → (∀ v ∈ l, cellV v = true) → ∀ v ∈ l', v.oneCell' = true
  | _, _, .nil, _, v, hv => by simp at hv
  | _, _, .cons a b, h, v, hv => by
    rcases List.mem_cons.1 hv with rfl | hv
    · exact cellV_one a (h _ (by simp))
    · exact VRs.ones b (fun u hu => h u (by simp [hu])) v hv

theorem cell_apart {e i j i' j' : Nat} (hj : j < e) (hj' : j' < e) (h : i ≠ i') : i * e + j ≠ i' * e + j' := by
  intro heq
  rcases Nat.lt_or_gt_of_ne h with h' | h'
  · have : (i + 1) * e ≤ i' * e := Nat.mul_le_mul_right e h'
    rw [Nat.add_mul] at this
    omega
  · have : (i' + 1) * e ≤ i * e := Nat.mul_le_mul_right e h'
    rw [Nat.add_mul] at this
    omega

theorem size_setCells (b : Nat) : ∀ (vs : List Value) (o : Nat) (w : World), (w.setCells b o vs).heap.size = w.heap.size
  | [], _, _ => rfl
  | v :: r, o, w => by
    rw [World.setCells, size_setCells b r]
    simp [World.setCell]

theorem heap_setCells_ne (b : Nat) {k : Nat} (hk : k ≠ b) : ∀ (vs : List Value) (o : Nat) (w : World), (w.setCells b o vs).heap[k]? = w.heap[k]?
  | [], _, _ => rfl
  | v :: r, o, w => by
    rw [World.setCells, heap_setCells_ne b hk r]
    exact Below.heap_setCell w ⟨b, o, none⟩ v k hk

theorem fade_row {X : VB} {C : Codec} {e : Nat} {l : List C.α} {m : VMode} (h : X.fade = .row C e l m) : X = .row C e l m ∧ m ≠ .stale := by
  cases X with
  | row C' e' l' m' =>
    cases m' with
    | own => simp only [VB.fade] at h; cases h; exact ⟨rfl, by intro h; cases h⟩
    | ro => simp only [VB.fade] at h; cases h; exact ⟨rfl, by intro h; cases h⟩
    | stale => simp only [VB.fade] at h; cases h
  | iter s p => simp only [VB.fade] at h; cases h
  | dead => simp only [VB.fade] at h; cases h

theorem fade_iter {X : VB} {s : ByteArray} {o : Nat} (h : X.fade = .iter s o) : X = .iter s o := by
  cases X with
  | row C' e' l' m' => cases m' <;> simp only [VB.fade] at h <;> cases h
  | iter s p => simpa only [VB.fade] using h
  | dead => simp only [VB.fade] at h; cases h

/-- A store into an own row. -/
theorem HR.store {P : Program} {μ : Mu} {H : VH} {w : World} (h : HR μ H w) {b : Nat} {C : Codec} {esz : Nat} {l : List C.α} {p : Place} (hg : hget H b = .row C esz l .own) (hp : μ[b]? = some p)
    {i j : Nat} {cs cs' : List Value} {x : C.α} (hi : i < l.length) (hj : j + cs.length ≤ esz) (hs : setAll C esz (nth C l i) j cs = some x) (hv : VRs μ cs cs') :
    (storeCells (p.at i j) cs').run P w = .ok () (w.setCells p.blk (p.base + i * esz + j) cs') ∧
    HR μ ((hset H b (.row C esz (l.set i x) .own)).map VB.fade) (w.setCells p.blk (p.base + i * esz + j) cs') := by
  obtain ⟨p', hp', r⟩ := h.row _ _ _ _ _ hg
  obtain rfl : p' = p := Option.some.inj (hp'.symm.trans hp)
  obtain ⟨L, hL, hlen, hcell⟩ := r.own rfl
  have hn : cs'.length = cs.length := hv.length
  have hmem : nth C l i ∈ l := List.mem_of_getElem? (nth_some hi)
  have hel : (C.enc (nth C l i)).length = esz := r.lens _ hmem
  obtain ⟨s1, s2, s3, s4⟩ := setAll_spec cs (nth C l i) x j hs (by rw [hel]; exact hj) hel
  have hreg : ∀ i', i' < l.length → i' * esz + esz ≤ L := fun i' hi' => by
    have : (i' + 1) * esz ≤ l.length * esz := Nat.mul_le_mul_right esz hi'
    rw [Nat.add_mul] at this
    omega
  have hri := hreg i hi
  have hin : ∀ q, q < cs'.length → (∃ v, w.cell? ⟨p'.blk, p'.base + i * esz + j + q, none⟩ = some v) ∧ w.frozen? ⟨p'.blk, p'.base + i * esz + j + q, none⟩ = false := fun q hq => by
    have := hcell (i * esz + j + q) (by omega)
    rwa [show p'.base + (i * esz + j + q) = p'.base + i * esz + j + q by omega] at this
  have hat : p'.at i j = ⟨p'.blk, p'.base + i * esz + j, none⟩ := by unfold Place.at; rw [r.pe]
  generalize ho : p'.base + i * esz + j = o at *
  have hout : ∀ (k f : Nat), (k = p'.blk → f < o ∨ o + cs'.length ≤ f) → (w.setCells p'.blk o cs').cell? ⟨k, f, none⟩ = w.cell? ⟨k, f, none⟩ :=
    fun k f hf => World.cell?_setCells_out p'.blk cs' o w ⟨k, f, none⟩ (fun hb _ => hf hb)
  have hins : ∀ (q : Nat) (hq : q < cs'.length), (w.setCells p'.blk o cs').cell? ⟨p'.blk, o + q, none⟩ = some cs'[q] :=
    fun q hq => World.cell?_setCells_in p'.blk cs' o w (fun j hj => by obtain ⟨v, hv⟩ := (hin j hj).1; rw [hv]; rfl) q hq
  have hfz : ∀ a, (w.setCells p'.blk o cs').frozen? a = w.frozen? a := fun a => World.frozen?_setCells p'.blk cs' o w a
  constructor
  · rw [hat]
    have := run_storeCells_cells (P := P) p'.blk o cs' 0 w (fun q hq => by obtain ⟨v, hv⟩ := (hin q hq).1; simp [hv]) (fun q hq => by simpa using (hin q hq).2) (hv.ones s4)
    simpa using this
  · have hnew : ∀ b', hget ((hset H b (.row C esz (l.set i x) .own)).map VB.fade) b' = (hget (hset H b (.row C esz (l.set i x) .own)) b').fade := fun b' => hget_map _ rfl
    have hbl : b < H.length := by rw [← h.len]; exact mu_lt hp
    -- what stands at a place behind the store
    have old : ∀ {b' : Nat} {C' : Codec} {e' : Nat} {l' : List C'.α} {m' : VMode}, hget ((hset H b (.row C esz (l.set i x) .own)).map VB.fade) b' = .row C' e' l' m' →
        (b' = b ∧ (VB.row C' e' l' m' = VB.row C esz (l.set i x) .own)) ∨ (b' ≠ b ∧ hget H b' = .row C' e' l' m' ∧ m' ≠ .stale) := by
      intro b' C' e' l' m' hg'
      rw [hnew] at hg'
      obtain ⟨k1, k2⟩ := fade_row hg'
      by_cases hbb : b' = b
      · subst hbb
        rw [hget_set_eq hbl] at k1
        exact .inl ⟨rfl, k1.symm⟩
      · rw [hget_set_ne (Ne.symm hbb)] at k1
        exact .inr ⟨hbb, k1, k2⟩
    have oldI : ∀ {b' : Nat} {s : ByteArray} {f : Nat}, hget ((hset H b (.row C esz (l.set i x) .own)).map VB.fade) b' = .iter s f → hget H b' = .iter s f := by
      intro b' s f hg'
      rw [hnew] at hg'
      have k1 := fade_iter hg'
      by_cases hbb : b' = b
      · subst hbb
        rw [hget_set_eq hbl] at k1
        cases k1
      · rwa [hget_set_ne (Ne.symm hbb)] at k1
    refine ⟨by simp [hset_len, h.len], ?_, ?_, ?_, ?_⟩
    · intro b' C' e' l' m' hg'
      rcases old hg' with ⟨rfl, heq⟩ | ⟨hbb, k1, k2⟩
      · cases heq
        refine ⟨p', hp, r.pe, by rw [size_setCells]; exact r.blk, ?_, ?_, ?_⟩
        · intro y hy
          rcases List.mem_or_eq_of_mem_set hy with hy | rfl
          · exact r.lens y hy
          · rw [s1, hel]
        · intro i' j' y v h1 h2
          have hel' : (C.enc y).length = esz := by
            rcases List.mem_or_eq_of_mem_set (List.mem_of_getElem? h1) with hy | rfl
            · exact r.lens y hy
            · rw [s1, hel]
          have hj' : j' < esz := by rw [← hel']; exact (List.getElem?_eq_some_iff.1 h2).1
          by_cases hii : i' = i
          · subst hii
            rw [List.getElem?_set_self hi] at h1
            obtain rfl := Option.some.inj h1
            rcases Nat.lt_or_ge j' j with hlt | hge
            · rw [s2 j' (.inl hlt)] at h2
              obtain ⟨v', k1, k2⟩ := r.cells i' j' _ v (nth_some hi) h2
              refine ⟨v', ?_, k2⟩
              unfold Place.at at k1 ⊢
              rw [hout _ _ (fun _ => .inl (by rw [r.pe]; omega))]
              exact k1
            · rcases Nat.lt_or_ge j' (j + cs.length) with hlt | hge2
              · have h3 := s3 (j' - j) (by omega)
                rw [show j + (j' - j) = j' by omega, h2] at h3
                obtain ⟨v', k1, k2⟩ := hv.get h3.symm
                refine ⟨v', ?_, k2⟩
                have hq : j' - j < cs'.length := by omega
                have := hins (j' - j) hq
                rw [List.getElem?_eq_getElem hq] at k1
                obtain rfl := Option.some.inj k1
                unfold Place.at
                rw [r.pe, show p'.base + i' * esz + j' = o + (j' - j) by omega]
                exact this
              · rw [s2 j' (.inr hge2)] at h2
                obtain ⟨v', k1, k2⟩ := r.cells i' j' _ v (nth_some hi) h2
                refine ⟨v', ?_, k2⟩
                unfold Place.at at k1 ⊢
                rw [hout _ _ (fun _ => .inr (by rw [r.pe]; omega))]
                exact k1
          · rw [List.getElem?_set_ne (Ne.symm hii)] at h1
            obtain ⟨v', k1, k2⟩ := r.cells i' j' y v h1 h2
            refine ⟨v', ?_, k2⟩
            unfold Place.at at k1 ⊢
            rw [hout _ _ (fun _ => ?_)]
            · exact k1
            · rw [r.pe]
              rcases Nat.lt_or_gt_of_ne hii with h' | h'
              · left
                have : (i' + 1) * esz ≤ i * esz := Nat.mul_le_mul_right esz h'
                rw [Nat.add_mul] at this
                omega
              · right
                have : (i + 1) * esz ≤ i' * esz := Nat.mul_le_mul_right esz h'
                rw [Nat.add_mul] at this
                omega
        · intro _
          refine ⟨L, hL, by rw [List.length_set]; exact hlen, fun q hq => ⟨?_, by rw [hfz]; exact (hcell q hq).2⟩⟩
          by_cases hr : o ≤ p'.base + q ∧ p'.base + q < o + cs'.length
          · have hq2 : p'.base + q - o < cs'.length := by omega
            exact ⟨_, by have := hins (p'.base + q - o) hq2; rwa [show o + (p'.base + q - o) = p'.base + q by omega] at this⟩
          · rw [hout _ _ (fun _ => by omega)]
            exact (hcell q hq).1
      · obtain ⟨q, hq, rq⟩ := h.row _ _ _ _ _ k1
        have hdis : ∀ f, f < ext q m' (l'.length * e') → q.blk = p'.blk → q.base + f < o ∨ o + cs'.length ≤ q.base + f := fun f hf hblk => by
          have hs := h.sep b b' C C' esz e' l l' m' p' q (Ne.symm hbb) hg k1 hp hq hblk.symm
          rcases Nat.lt_or_ge (q.base + f) o with h' | h'
          · exact .inl h'
          · rcases Nat.lt_or_ge (q.base + f) (o + cs'.length) with h'' | h''
            · exfalso
              refine hs (q.base + f - p'.base) f ?_ hf (fun hst => absurd hst k2) (by omega)
              rw [hL]
              simp only [Option.getD_some]
              omega
            · exact .inr h''
        refine ⟨q, hq, rq.pe, by rw [size_setCells]; exact rq.blk, rq.lens, ?_, ?_⟩
        · intro i' j' y v h1 h2
          obtain ⟨v', k3, k4⟩ := rq.cells i' j' y v h1 h2
          refine ⟨v', ?_, k4⟩
          unfold Place.at at k3 ⊢
          have hj' : j' < e' := by rw [← rq.lens y (List.mem_of_getElem? h1)]; exact (List.getElem?_eq_some_iff.1 h2).1
          have hi' : i' < l'.length := (List.getElem?_eq_some_iff.1 h1).1
          have hle : i' * e' + e' ≤ l'.length * e' := by
            have : (i' + 1) * e' ≤ l'.length * e' := Nat.mul_le_mul_right e' hi'
            rw [Nat.add_mul] at this
            omega
          have hx : l'.length * e' ≤ ext q m' (l'.length * e') := by
            cases m' with
            | own =>
              obtain ⟨L2, z1, z2, _⟩ := rq.own rfl
              simp only [ext, z1, Option.getD_some]
              exact z2
            | ro => exact Nat.le_refl _
            | stale => exact Nat.le_refl _
          rw [hout _ _ (fun hb => ?_)]
          · exact k3
          · have := hdis (i' * e' + j') (by omega) hb
            rw [rq.pe]
            omega
        · intro ho'
          obtain ⟨L2, z1, z2, z3⟩ := rq.own ho'
          refine ⟨L2, z1, z2, fun f hf => ⟨?_, by rw [hfz]; exact (z3 f hf).2⟩⟩
          rw [hout _ _ (fun hb => ?_)]
          · exact (z3 f hf).1
          · refine hdis f ?_ hb
            subst ho'
            simp only [ext, z1, Option.getD_some]
            exact hf
    · intro b' s f hg'
      obtain ⟨q, hq, k1, k2⟩ := h.iter b' s f (oldI hg')
      refine ⟨q, hq, ?_, k2⟩
      rcases Nat.eq_zero_or_pos L with hL0 | hLp
      · have h0 : cs'.length = 0 := by omega
        rw [List.length_eq_zero_iff.1 h0]
        exact k1
      · rw [heap_setCells_ne]
        · exact k1
        · intro hqb
          obtain ⟨v, hv0⟩ := (hcell 0 hLp).1
          rw [← hqb] at hv0
          simp [World.cell?, k1] at hv0
    · intro b1 b2 C1 C2 e1 e2 l1 l2 m2 p1 p2 hne g1 g2 q1 q2 hblk i1 j1 hi1 hj1 hst
      have key : ∀ {b' : Nat} {C' : Codec} {e' : Nat} {l' : List C'.α} {m' : VMode}, hget ((hset H b (.row C esz (l.set i x) .own)).map VB.fade) b' = .row C' e' l' m' →
          ∃ (C'' : Codec) (l'' : List C''.α), hget H b' = .row C'' e' l'' m' ∧ l''.length = l'.length ∧ m' ≠ .stale := by
        intro b' C' e' l' m' hg'
        rcases old hg' with ⟨rfl, heq⟩ | ⟨hbb, k1, k2⟩
        · cases heq
          exact ⟨C, l, hg, by simp, by intro h; cases h⟩
        · exact ⟨C', l', k1, rfl, k2⟩
      obtain ⟨C3, l3, z1, z2, _⟩ := key g1
      obtain ⟨C4, l4, z3, z4, z5⟩ := key g2
      exact h.sep b1 b2 C3 C4 e1 e2 l3 l4 m2 p1 p2 hne z1 z3 q1 q2 hblk i1 j1 hi1 (by rw [z4]; exact hj1) (fun hst' => absurd hst' z5)
    · intro b1 b2 s1' s2' o1 o2 p1 p2 hne g1 g2 q1 q2
      exact h.isep b1 b2 s1' s2' o1 o2 p1 p2 hne (oldI g1) (oldI g2) q1 q2

/-- A new block that is no row of cells. -/
theorem HR.snocIter {μ : Mu} {H : VH} {w : World} (h : HR μ H w) (s : ByteArray) (o : Nat) :
    HR (μ ++ [⟨w.heap.size, 0, 0, some 0⟩]) (H ++ [.iter s o]) { w with heap := w.heap.push (.stringIter s o) } := by
  have hb : ∀ k, k < w.heap.size → (w.heap.push (.stringIter s o))[k]? = w.heap[k]? := fun k hk => by
    rw [Array.getElem?_push]; simp [Nat.ne_of_lt hk]
  have hl := h.later (w' := { w with heap := w.heap.push (.stringIter s o) }) hb (by simp)
  have split : ∀ {b : Nat} {X : VB}, hget (H ++ [.iter s o]) b = X → X ≠ .dead → (b < H.length ∧ hget H b = X ∧ (μ ++ [(⟨w.heap.size, 0, 0, some 0⟩ : Place)])[b]? = μ[b]?) ∨ (b = H.length ∧ X = .iter s o ∧ (μ ++ [(⟨w.heap.size, 0, 0, some 0⟩ : Place)])[b]? = some ⟨w.heap.size, 0, 0, some 0⟩) := by
    intro b X hg hX
    rcases Nat.lt_trichotomy b H.length with hlt | heq | hgt
    · left
      rw [hget_append_lt hlt] at hg
      exact ⟨hlt, hg, List.getElem?_append_left (by rw [h.len]; exact hlt)⟩
    · right
      subst heq
      have := hget_append_ge (H := H) (G := [.iter s o]) 0
      simp only [Nat.add_zero] at this
      rw [this] at hg
      exact ⟨rfl, hg.symm, by rw [← h.len]; simp⟩
    · rw [hget_len (by simp; omega)] at hg; exact absurd hg.symm hX
  refine ⟨by simp [h.len], ?_, ?_, ?_, ?_⟩
  · intro b C e l m hg
    rcases split hg (by intro hh; cases hh) with ⟨_, k1, k2⟩ | ⟨_, k1, _⟩
    · obtain ⟨p, hp, r⟩ := hl.row b C e l m k1
      exact ⟨p, by rw [k2]; exact hp, ⟨r.pe, r.blk, r.lens, fun i j x v h1 h2 => by obtain ⟨v', a1, a2⟩ := r.cells i j x v h1 h2; exact ⟨v', a1, a2.mono (mu_snoc _ _)⟩, r.own⟩⟩
    · cases k1
  · intro b s' o' hg
    rcases split hg (by intro hh; cases hh) with ⟨_, k1, k2⟩ | ⟨_, k1, k2⟩
    · obtain ⟨p, hp, r⟩ := hl.iter b s' o' k1
      exact ⟨p, by rw [k2]; exact hp, r⟩
    · cases k1
      exact ⟨_, k2, by simp, rfl⟩
  · intro b1 b2 C1 C2 e1 e2 l1 l2 m2 p1 p2 hne g1 g2 q1 q2
    rcases split g1 (by intro hh; cases hh) with ⟨_, k1, k2⟩ | ⟨_, k1, _⟩
    · rcases split g2 (by intro hh; cases hh) with ⟨_, k3, k4⟩ | ⟨_, k3, _⟩
      · exact h.sep b1 b2 C1 C2 e1 e2 l1 l2 m2 p1 p2 hne k1 k3 (by rw [← k2]; exact q1) (by rw [← k4]; exact q2)
      · cases k3
    · cases k1
  · intro b1 b2 s1 s2 o1 o2 p1 p2 hne g1 g2 q1 q2
    have lt : ∀ {b : Nat} {s' : ByteArray} {o' : Nat} {p : Place}, hget H b = .iter s' o' → μ[b]? = some p → p.blk < w.heap.size := by
      intro b s' o' p hg hp
      obtain ⟨p', hp', k1, _⟩ := h.iter b s' o' hg
      obtain rfl : p' = p := Option.some.inj (hp'.symm.trans hp)
      rcases Nat.lt_or_ge p'.blk w.heap.size with h' | h'
      · exact h'
      · rw [Array.getElem?_eq_none h'] at k1; cases k1
    rcases split g1 (by intro hh; cases hh) with ⟨_, k1, k2⟩ | ⟨rfl, k1, k2⟩
    · rw [k2] at q1
      rcases split g2 (by intro hh; cases hh) with ⟨_, k3, k4⟩ | ⟨rfl, k3, k4⟩
      · rw [k4] at q2
        exact h.isep b1 b2 s1 s2 o1 o2 p1 p2 hne k1 k3 q1 q2
      · rw [k4] at q2
        obtain rfl := Option.some.inj q2
        exact Nat.ne_of_lt (lt k1 q1)
    · rw [k2] at q1
      obtain rfl := Option.some.inj q1
      rcases split g2 (by intro hh; cases hh) with ⟨_, k3, k4⟩ | ⟨rfl, k3, k4⟩
      · rw [k4] at q2
        exact Nat.ne_of_gt (lt k3 q2)
      · exact absurd rfl hne

/-- An iterator that has gone on. -/
theorem HR.setIter {μ : Mu} {H : VH} {w : World} (h : HR μ H w) {b : Nat} {s : ByteArray} {o o2 : Nat} {p : Place} (hg : hget H b = .iter s o) (hp : μ[b]? = some p) :
    HR μ (hset H b (.iter s o2)) { w with heap := w.heap.setIfInBounds p.blk (.stringIter s o2) } := by
  have hbl : b < H.length := by rw [← h.len]; exact mu_lt hp
  obtain ⟨p', hp', k1, k2⟩ := h.iter b s o hg
  obtain rfl : p' = p := Option.some.inj (hp'.symm.trans hp)
  have hlt : p'.blk < w.heap.size := by
    rcases Nat.lt_or_ge p'.blk w.heap.size with h' | h'
    · exact h'
    · rw [Array.getElem?_eq_none h'] at k1; cases k1
  have hne : ∀ k, k ≠ p'.blk → (w.heap.setIfInBounds p'.blk (.stringIter s o2))[k]? = w.heap[k]? := fun k hk => Array.getElem?_setIfInBounds_ne (Ne.symm hk)
  have row : ∀ {b' : Nat} {C : Codec} {e : Nat} {l : List C.α} {m : VMode}, hget (hset H b (.iter s o2)) b' = .row C e l m → hget H b' = .row C e l m := by
    intro b' C e l m hg'
    by_cases hbb : b' = b
    · subst hbb; rw [hget_set_eq hbl] at hg'; cases hg'
    · rwa [hget_set_ne (Ne.symm hbb)] at hg'
  refine ⟨by rw [hset_len]; exact h.len, ?_, ?_, ?_, ?_⟩
  · intro b' C e l m hg'
    obtain ⟨q, hq, r⟩ := h.row b' C e l m (row hg')
    -- no row lies in the iterator's block, but where it has no cell
    by_cases hqb : q.blk = p'.blk
    · have nocell : ∀ f, w.cell? ⟨q.blk, f, none⟩ = none := fun f => by simp [World.cell?, hqb, k1]
      refine ⟨q, hq, r.pe, by simpa using r.blk, r.lens, fun i j x v h1 h2 => ?_, fun ho => ?_⟩
      · obtain ⟨v', c1, _⟩ := r.cells i j x v h1 h2
        rw [Place.at, nocell] at c1
        cases c1
      · obtain ⟨L, h1, h2, h3⟩ := r.own ho
        refine ⟨L, h1, h2, fun i hi => ?_⟩
        obtain ⟨⟨v, hv⟩, _⟩ := h3 i hi
        rw [nocell] at hv
        cases hv
    · have hc : ∀ f, ({ w with heap := w.heap.setIfInBounds p'.blk (.stringIter s o2) } : World).cell? ⟨q.blk, f, none⟩ = w.cell? ⟨q.blk, f, none⟩ := fun f => World.cell?_of_block (hne _ hqb)
      have hf : ∀ f, ({ w with heap := w.heap.setIfInBounds p'.blk (.stringIter s o2) } : World).frozen? ⟨q.blk, f, none⟩ = w.frozen? ⟨q.blk, f, none⟩ := fun f => World.frozen?_of_block (hne _ hqb)
      refine ⟨q, hq, r.pe, by simpa using r.blk, r.lens, fun i j x v h1 h2 => ?_, fun ho => ?_⟩
      · obtain ⟨v', c1, c2⟩ := r.cells i j x v h1 h2
        exact ⟨v', by rw [Place.at, hc]; exact c1, c2⟩
      · obtain ⟨L, h1, h2, h3⟩ := r.own ho
        exact ⟨L, h1, h2, fun i hi => by rw [hc, hf]; exact h3 i hi⟩
  · intro b' s' o' hg'
    by_cases hbb : b' = b
    · subst hbb
      rw [hget_set_eq hbl] at hg'
      cases hg'
      exact ⟨p', hp, by simp [hlt], k2⟩
    · rw [hget_set_ne (Ne.symm hbb)] at hg'
      obtain ⟨q, hq, c1, c2⟩ := h.iter b' s' o' hg'
      exact ⟨q, hq, by rw [hne _ (h.isep b' b s' s o' o q p' hbb hg' hg hq hp)]; exact c1, c2⟩
  · intro b1 b2 C1 C2 e1 e2 l1 l2 m2 p1 p2 hne' g1 g2
    exact h.sep b1 b2 C1 C2 e1 e2 l1 l2 m2 p1 p2 hne' (row g1) (row g2)
  · intro b1 b2 s1 s2 o1 o2' p1 p2 hne' g1 g2 q1 q2
    have it : ∀ {b' : Nat} {s' : ByteArray} {o' : Nat}, hget (hset H b (.iter s o2)) b' = .iter s' o' → ∃ o'', hget H b' = .iter s' o'' := by
      intro b' s' o' hg'
      by_cases hbb : b' = b
      · subst hbb; rw [hget_set_eq hbl] at hg'; cases hg'; exact ⟨_, hg⟩
      · rw [hget_set_ne (Ne.symm hbb)] at hg'; exact ⟨_, hg'⟩
    obtain ⟨a1, z1⟩ := it g1
    obtain ⟨a2, z2⟩ := it g2
    exact h.isep b1 b2 s1 s2 a1 a2 p1 p2 hne' z1 z2 q1 q2

/-- A row that is grown no more. -/
theorem HR.stale {μ : Mu} {H : VH} {w : World} (h : HR μ H w) {b : Nat} {C : Codec} {esz : Nat} {l : List C.α} (hg : hget H b = .row C esz l .own) :
    HR μ (hset H b (.row C esz l .stale)) w := by
  obtain ⟨p, hp, r⟩ := h.row _ _ _ _ _ hg
  have hbl : b < H.length := by rw [← h.len]; exact mu_lt hp
  obtain ⟨L, hL, hlen, hcell⟩ := r.own rfl
  have row : ∀ {b' : Nat} {C' : Codec} {e' : Nat} {l' : List C'.α} {m' : VMode}, hget (hset H b (.row C esz l .stale)) b' = .row C' e' l' m' →
      (b' = b ∧ VB.row C' e' l' m' = .row C esz l .stale) ∨ (b' ≠ b ∧ hget H b' = .row C' e' l' m') := by
    intro b' C' e' l' m' hg'
    by_cases hbb : b' = b
    · subst hbb; rw [hget_set_eq hbl] at hg'; exact .inl ⟨rfl, hg'.symm⟩
    · rw [hget_set_ne (Ne.symm hbb)] at hg'; exact .inr ⟨hbb, hg'⟩
  have it : ∀ {b' : Nat} {s' : ByteArray} {o' : Nat}, hget (hset H b (.row C esz l .stale)) b' = .iter s' o' → hget H b' = .iter s' o' := by
    intro b' s' o' hg'
    by_cases hbb : b' = b
    · subst hbb; rw [hget_set_eq hbl] at hg'; cases hg'
    · rwa [hget_set_ne (Ne.symm hbb)] at hg'
  refine ⟨by rw [hset_len]; exact h.len, ?_, fun b' s' o' hg' => h.iter b' s' o' (it hg'), ?_, fun b1 b2 s1 s2 o1 o2 p1 p2 hne g1 g2 => h.isep b1 b2 s1 s2 o1 o2 p1 p2 hne (it g1) (it g2)⟩
  · intro b' C' e' l' m' hg'
    rcases row hg' with ⟨rfl, heq⟩ | ⟨hbb, k1⟩
    · cases heq
      exact ⟨p, hp, r.pe, r.blk, r.lens, r.cells, fun hh => by cases hh⟩
    · exact h.row b' C' e' l' m' k1
  · intro b1 b2 C1 C2 e1 e2 l1 l2 m2 p1 p2 hne g1 g2 q1 q2 hblk i j hi hj hst
    rcases row g1 with ⟨_, heq⟩ | ⟨_, k1⟩
    · cases heq
    · rcases row g2 with ⟨rfl, heq⟩ | ⟨_, k2⟩
      · cases heq
        obtain rfl : p2 = p := Option.some.inj (q2.symm.trans hp)
        refine h.sep b1 b2 C1 C e1 esz l1 l .own p1 p2 hne k1 hg q1 q2 hblk i j hi ?_ (fun hh => by cases hh)
        simp only [ext] at hj ⊢
        rw [hL]
        simp only [Option.getD_some]
        omega
      · exact h.sep b1 b2 C1 C2 e1 e2 l1 l2 m2 p1 p2 hne k1 k2 q1 q2 hblk i j hi hj hst

def flat (C : Codec) : List C.α → List Value
  | [] => []
  | y :: r => C.enc y ++ flat C r

theorem flat_get {C : Codec} {e : Nat} : ∀ {ys : List C.α}, (∀ y ∈ ys, (C.enc y).length = e) → ∀ {i j : Nat} {y : C.α}, ys[i]? = some y → j < e → (flat C ys)[i * e + j]? = (C.enc y)[j]?
  | [], _, i, j, y, h, _ => by simp at h
  | x :: r, hl, i, j, y, h, hj => by
    have hx := hl x (by simp)
    cases i with
    | zero =>
      simp at h
      subst h
      simp only [flat, Nat.zero_mul, Nat.zero_add]
      rw [List.getElem?_append_left (by omega)]
    | succ i =>
      simp only [flat]
      rw [Nat.succ_mul, List.getElem?_append_right (by omega), hx, show i * e + e + j - e = i * e + j by omega]
      exact flat_get (fun y hy => hl y (by simp [hy])) (by simpa using h) hj

theorem flat_len {C : Codec} {e : Nat} : ∀ {ys : List C.α}, (∀ y ∈ ys, (C.enc y).length = e) → (flat C ys).length = ys.length * e
  | [], _ => by simp [flat]
  | x :: r, hl => by
    simp only [flat, List.length_append, List.length_cons, hl x (by simp), flat_len (ys := r) (fun y hy => hl y (by simp [hy])), Nat.succ_mul]
    omega

/-- What is added behind an own row, in its own room. -/
theorem HR.grow {P : Program} {μ : Mu} {H : VH} {w : World} (h : HR μ H w) {b : Nat} {C : Codec} {esz : Nat} {l : List C.α} {p : Place} {L : Nat} (hg : hget H b = .row C esz l .own) (hp : μ[b]? = some p)
    (hL : p.lim = some L) {ys : List C.α} {ns' : List Value} {i0 : Nat} (hi0 : i0 ≤ l.length) (hy : ∀ y ∈ ys, (C.enc y).length = esz) (hv : VRs μ (flat C ys) ns') (hone : ∀ v ∈ ns', v.oneCell' = true)
    (hroom : (l.length + ys.length) * esz ≤ L) :
    (storeCells ⟨p.blk, p.base + l.length * esz, none⟩ ns').run P w = .ok () (w.setCells p.blk (p.base + l.length * esz) ns') ∧
    HR (μ ++ [⟨p.blk, p.base + i0 * esz, esz, some (L - i0 * esz)⟩]) (hset H b (.row C esz l .stale) ++ [.row C esz (l.drop i0 ++ ys) .own]) (w.setCells p.blk (p.base + l.length * esz) ns') := by
  obtain ⟨p', hp', r⟩ := h.row _ _ _ _ _ hg
  obtain rfl : p' = p := Option.some.inj (hp'.symm.trans hp)
  obtain ⟨L', hL', hlen, hcell⟩ := r.own rfl
  obtain rfl : L' = L := Option.some.inj (hL'.symm.trans hL)
  have hbl : b < H.length := by rw [← h.len]; exact mu_lt hp
  have hn : ns'.length = ys.length * esz := by rw [hv.length, flat_len hy]
  rw [Nat.add_mul] at hroom
  have hi0e : i0 * esz ≤ l.length * esz := Nat.mul_le_mul_right esz hi0
  have hin : ∀ q, q < ns'.length → (∃ v, w.cell? ⟨p'.blk, p'.base + l.length * esz + q, none⟩ = some v) ∧ w.frozen? ⟨p'.blk, p'.base + l.length * esz + q, none⟩ = false := fun q hq => by
    have := hcell (l.length * esz + q) (by omega)
    rwa [show p'.base + (l.length * esz + q) = p'.base + l.length * esz + q by omega] at this
  generalize ho : p'.base + l.length * esz = o at *
  have hout : ∀ (k f : Nat), (k = p'.blk → f < o ∨ o + ns'.length ≤ f) → (w.setCells p'.blk o ns').cell? ⟨k, f, none⟩ = w.cell? ⟨k, f, none⟩ :=
    fun k f hf => World.cell?_setCells_out p'.blk ns' o w ⟨k, f, none⟩ (fun hb _ => hf hb)
  have hins : ∀ (q : Nat) (hq : q < ns'.length), (w.setCells p'.blk o ns').cell? ⟨p'.blk, o + q, none⟩ = some ns'[q] :=
    fun q hq => World.cell?_setCells_in p'.blk ns' o w (fun j hj => by obtain ⟨v, hv⟩ := (hin j hj).1; rw [hv]; rfl) q hq
  have hfz : ∀ a, (w.setCells p'.blk o ns').frozen? a = w.frozen? a := fun a => World.frozen?_setCells p'.blk ns' o w a
  have hex : ∀ q, q < L' → ∃ v, (w.setCells p'.blk o ns').cell? ⟨p'.blk, p'.base + q, none⟩ = some v := fun q hq => by
    by_cases hr : o ≤ p'.base + q ∧ p'.base + q < o + ns'.length
    · have hq2 : p'.base + q - o < ns'.length := by omega
      exact ⟨_, by have := hins (p'.base + q - o) hq2; rwa [show o + (p'.base + q - o) = p'.base + q by omega] at this⟩
    · rw [hout _ _ (fun _ => by omega)]
      exact (hcell q hq).1
  refine ⟨by simpa using run_storeCells_cells (P := P) p'.blk o ns' 0 w (fun q hq => by obtain ⟨v, hv⟩ := (hin q hq).1; simp [hv]) (fun q hq => by simpa using (hin q hq).2) hone, ?_⟩
  have hs := h.stale hg
  generalize hH : hset H b (.row C esz l .stale) = H1 at hs
  have hH1 : H1.length = H.length := by rw [← hH, hset_len]
  have hb1 : hget H1 b = .row C esz l .stale := by rw [← hH]; exact hget_set_eq hbl
  have hne1 : ∀ {b'}, b' ≠ b → hget H1 b' = hget H b' := fun hh => by rw [← hH]; exact hget_set_ne (Ne.symm hh)
  -- a row that was there is apart from what is written
  have apart : ∀ {b' : Nat} {C' : Codec} {e' : Nat} {l' : List C'.α} {m' : VMode} {q : Place}, hget H1 b' = .row C' e' l' m' → μ[b']? = some q → ∀ f, f < ext q m' (l'.length * e') → q.blk = p'.blk →
      q.base + f < o ∨ o + ns'.length ≤ q.base + f := by
    intro b' C' e' l' m' q hg' hq f hf hblk
    by_cases hbb : b' = b
    · subst hbb
      rw [hb1] at hg'
      cases hg'
      obtain rfl : q = p' := Option.some.inj (hq.symm.trans hp)
      simp only [ext] at hf
      omega
    · rw [hne1 hbb] at hg'
      rcases Nat.lt_or_ge (q.base + f) o with h' | h'
      · exact .inl h'
      · rcases Nat.lt_or_ge (q.base + f) (o + ns'.length) with h'' | h''
        · exfalso
          refine h.sep b b' C C' esz e' l l' m' p' q (Ne.symm hbb) hg hg' hp hq hblk.symm (q.base + f - p'.base) f ?_ hf (fun _ => by omega) (by omega)
          rw [hL]
          simp only [Option.getD_some]
          omega
        · exact .inr h''
  have ext_ge : ∀ {b' : Nat} {C' : Codec} {e' : Nat} {l' : List C'.α} {m' : VMode} {q : Place}, RowOk μ w C' e' l' m' q → l'.length * e' ≤ ext q m' (l'.length * e') := by
    intro b' C' e' l' m' q rq
    cases m' with
    | own =>
      obtain ⟨L2, z1, z2, _⟩ := rq.own rfl
      simp only [ext, z1, Option.getD_some]
      exact z2
    | ro => exact Nat.le_refl _
    | stale => exact Nat.le_refl _
  have cls : ∀ {b' : Nat} {X : VB}, hget (H1 ++ [.row C esz (l.drop i0 ++ ys) .own]) b' = X → X ≠ .dead →
      (b' < H.length ∧ hget H1 b' = X ∧ (μ ++ [(⟨p'.blk, p'.base + i0 * esz, esz, some (L' - i0 * esz)⟩ : Place)])[b']? = μ[b']?) ∨
      (b' = H.length ∧ X = .row C esz (l.drop i0 ++ ys) .own ∧ (μ ++ [(⟨p'.blk, p'.base + i0 * esz, esz, some (L' - i0 * esz)⟩ : Place)])[b']? = some ⟨p'.blk, p'.base + i0 * esz, esz, some (L' - i0 * esz)⟩) := by
    intro b' X hg' hX
    rcases Nat.lt_trichotomy b' H.length with hlt | heq | hgt
    · left
      rw [hget_append_lt (by omega)] at hg'
      exact ⟨hlt, hg', List.getElem?_append_left (by rw [h.len]; exact hlt)⟩
    · right
      subst heq
      have := hget_append_ge (H := H1) (G := [.row C esz (l.drop i0 ++ ys) .own]) 0
      simp only [Nat.add_zero] at this
      rw [← hH1, this] at hg'
      exact ⟨rfl, hg'.symm, by rw [← h.len]; simp⟩
    · rw [hget_len (by simp; omega)] at hg'; exact absurd hg'.symm hX
  refine ⟨by simp [h.len, hH1], ?_, ?_, ?_, ?_⟩
  · intro b' C' e' l' m' hg'
    rcases cls hg' (by intro hh; cases hh) with ⟨_, k1, k2⟩ | ⟨_, k1, k2⟩
    · obtain ⟨q, hq, rq⟩ := hs.row _ _ _ _ _ k1
      refine ⟨q, by rw [k2]; exact hq, rq.pe, by rw [size_setCells]; exact rq.blk, rq.lens, ?_, ?_⟩
      · intro i' j' y v h1 h2
        obtain ⟨v', c1, c2⟩ := rq.cells i' j' y v h1 h2
        refine ⟨v', ?_, c2.mono (mu_snoc _ _)⟩
        unfold Place.at at c1 ⊢
        have hj' : j' < e' := by rw [← rq.lens y (List.mem_of_getElem? h1)]; exact (List.getElem?_eq_some_iff.1 h2).1
        have hi' : i' < l'.length := (List.getElem?_eq_some_iff.1 h1).1
        have hle : i' * e' + e' ≤ l'.length * e' := by
          have : (i' + 1) * e' ≤ l'.length * e' := Nat.mul_le_mul_right e' hi'
          rw [Nat.add_mul] at this
          omega
        have hx := ext_ge (b' := b') rq
        rw [hout _ _ (fun hb => ?_)]
        · exact c1
        · have := apart k1 hq (i' * e' + j') (by omega) hb
          rw [rq.pe]
          omega
      · intro ho'
        obtain ⟨L2, z1, z2, z3⟩ := rq.own ho'
        refine ⟨L2, z1, z2, fun f hf => ⟨?_, by rw [hfz]; exact (z3 f hf).2⟩⟩
        rw [hout _ _ (fun hb => ?_)]
        · exact (z3 f hf).1
        · refine apart k1 hq f ?_ hb
          subst ho'
          simp only [ext, z1, Option.getD_some]
          exact hf
    · cases k1
      refine ⟨_, k2, rfl, by rw [size_setCells]; exact r.blk, ?_, ?_, ?_⟩
      · intro y hy'
        rcases List.mem_append.1 hy' with hy' | hy'
        · exact r.lens y (List.mem_of_mem_drop hy')
        · exact hy y hy'
      · intro i' j' y v h1 h2
        have hj' : j' < esz := by
          have : (C.enc y).length = esz := by
            rcases List.mem_append.1 (List.mem_of_getElem? h1) with hy' | hy'
            · exact r.lens y (List.mem_of_mem_drop hy')
            · exact hy y hy'
          rw [← this]; exact (List.getElem?_eq_some_iff.1 h2).1
        have hdl : (l.drop i0).length = l.length - i0 := by simp
        rcases Nat.lt_or_ge i' (l.length - i0) with hlt | hge
        · rw [List.getElem?_append_left (by omega), List.getElem?_drop] at h1
          obtain ⟨v', c1, c2⟩ := r.cells (i0 + i') j' y v h1 h2
          refine ⟨v', ?_, c2.mono (mu_snoc _ _)⟩
          have hlt2 : (i0 + i' + 1) * esz ≤ l.length * esz := Nat.mul_le_mul_right esz (by omega)
          rw [Nat.add_mul, Nat.add_mul] at hlt2
          unfold Place.at at c1 ⊢
          rw [r.pe, Nat.add_mul] at c1
          simp only
          rw [hout _ _ (fun _ => by omega), show p'.base + i0 * esz + i' * esz + j' = p'.base + (i0 * esz + i' * esz) + j' by omega]
          exact c1
        · rw [List.getElem?_append_right (by omega), hdl] at h1
          have hfl := flat_get hy h1 hj'
          rw [h2] at hfl
          obtain ⟨v', c1, c2⟩ := hv.get hfl
          refine ⟨v', ?_, c2.mono (mu_snoc _ _)⟩
          obtain ⟨hq, hqe⟩ := List.getElem?_eq_some_iff.1 c1
          have := hins _ hq
          rw [hqe] at this
          unfold Place.at
          simp only
          have hadd : i' * esz = (i' - (l.length - i0)) * esz + (l.length - i0) * esz := by rw [← Nat.add_mul]; congr 1; omega
          have hsub : (l.length - i0) * esz = l.length * esz - i0 * esz := Nat.sub_mul _ _ _
          rw [show p'.base + i0 * esz + i' * esz + j' = o + ((i' - (l.length - i0)) * esz + j') by omega]
          exact this
      · intro _
        refine ⟨_, rfl, ?_, fun q hq => ⟨?_, ?_⟩⟩
        · rw [List.length_append, List.length_drop, Nat.add_mul, Nat.sub_mul]
          omega
        · have := hex (i0 * esz + q) (by omega)
          rwa [show p'.base + (i0 * esz + q) = p'.base + i0 * esz + q by omega] at this
        · rw [hfz]
          have := (hcell (i0 * esz + q) (by omega)).2
          rwa [show p'.base + (i0 * esz + q) = p'.base + i0 * esz + q by omega] at this
  · intro b' s' o' hg'
    rcases cls hg' (by intro hh; cases hh) with ⟨_, k1, k2⟩ | ⟨_, k1, _⟩
    · obtain ⟨q, hq, c1, c2⟩ := hs.iter b' s' o' k1
      refine ⟨q, by rw [k2]; exact hq, ?_, c2⟩
      rcases Nat.eq_zero_or_pos L' with hL0 | hLp
      · have h0 : ns'.length = 0 := by omega
        rw [List.length_eq_zero_iff.1 h0]
        exact c1
      · rw [heap_setCells_ne]
        · exact c1
        · intro hqb
          obtain ⟨v, hv0⟩ := (hcell 0 hLp).1
          rw [← hqb] at hv0
          simp [World.cell?, c1] at hv0
    · cases k1
  · intro b1 b2 C1 C2 e1 e2 l1 l2 m2 p1 p2 hne g1 g2 q1 q2 hblk i j hi hj hst
    rcases cls g1 (by intro hh; cases hh) with ⟨_, k1, k2⟩ | ⟨rfl, k1, k2⟩
    · rw [k2] at q1
      rcases cls g2 (by intro hh; cases hh) with ⟨_, k3, k4⟩ | ⟨rfl, k3, k4⟩
      · rw [k4] at q2
        exact hs.sep b1 b2 C1 C2 e1 e2 l1 l2 m2 p1 p2 hne k1 k3 q1 q2 hblk i j hi hj hst
      · -- another own row, and the new one: inside of the old one's
        cases k3
        rw [k4] at q2
        obtain rfl := Option.some.inj q2
        have hbb : b1 ≠ b := by
          intro hh; subst hh; rw [hb1] at k1; cases k1
        rw [hne1 hbb] at k1
        simp only [ext, Option.getD_some] at hj
        have := h.sep b1 b C1 C e1 esz l1 l .own p1 p' hbb k1 hg q1 hp hblk i (i0 * esz + j) hi (by simp only [ext, hL, Option.getD_some]; omega) (fun hh => by cases hh)
        simp only
        omega
    · cases k1
      rw [k2] at q1
      obtain rfl := Option.some.inj q1
      simp only [Option.getD_some] at hi
      rcases cls g2 (by intro hh; cases hh) with ⟨_, k3, k4⟩ | ⟨rfl, k3, k4⟩
      · rw [k4] at q2
        by_cases hbb : b2 = b
        · subst hbb
          rw [hb1] at k3
          cases k3
          obtain rfl : p2 = p' := Option.some.inj (q2.symm.trans hp)
          simp only [ext] at hj
          have h1 := hst rfl
          rw [List.length_append, List.length_drop, Nat.add_mul, Nat.sub_mul] at h1
          simp only
          omega
        · rw [hne1 hbb] at k3
          have := h.sep b b2 C C2 esz e2 l l2 m2 p' p2 (Ne.symm hbb) hg k3 hp q2 hblk (i0 * esz + i) j (by rw [hL]; simp only [Option.getD_some]; omega) hj (fun hh => by
            have h1 := hst hh
            rw [List.length_append, List.length_drop, Nat.add_mul, Nat.sub_mul] at h1
            omega)
          simp only
          omega
      · exact absurd rfl hne
  · intro b1 b2 s1 s2 o1 o2 p1 p2 hne g1 g2 q1 q2
    rcases cls g1 (by intro hh; cases hh) with ⟨_, k1, k2⟩ | ⟨_, k1, _⟩
    · rcases cls g2 (by intro hh; cases hh) with ⟨_, k3, k4⟩ | ⟨_, k3, _⟩
      · rw [k2] at q1; rw [k4] at q2
        exact hs.isep b1 b2 s1 s2 o1 o2 p1 p2 hne k1 k3 q1 q2
      · cases k3
    · cases k1

end Go.Proofs.YtofcjkbgieenlaaDoor.PM

namespace Go.Proofs.YtofcjkbgieenlaaDoor.PM
open Go Go.RowKit
set_option linter.unusedVariables false
set_option linter.unusedSimpArgs false

section
variable {μ ν : Mu} {f : Nat → Option Nat}

theorem VR.ren0 (hf : ∀ (b c : Nat) (p : Place), f b = some c → μ[b]? = some p → ν[c]? = some p) {v v' : Value} (h : VR μ v v') : VR ν (PM.ren0 f v) v' := by
  unfold PM.ren0
  split
  · rename_i b i j
    split
    · rename_i c hc
      cases h with
      | ptr hp => exact .ptr (hf _ _ _ hc hp)
    · exact .junk _
  · rename_i b i n c
    split
    · rename_i d hd
      cases h with
      | slice hp h1 h2 => exact .slice (hf _ _ _ hd hp) h1 h2
      | slice0 a => exact .slice0 a
    · exact .junk _
  · cases h with
    | func a b => cases a; cases b; exact .func .nil .nil
  · cases hp : plainV v with
    | false => exact .junk _
    | true =>
      simp only [cond_true]
      cases h <;> first | (exfalso; simp [plainV] at hp; done) | constructor | cases hp

theorem VRs.mapR {g : Value → Value} (hg : ∀ {v v' : Value}, VR μ v v' → VR ν (g v) v') : ∀ {l l' : List Value}, VRs μ l l' → VRs ν (l.map g) l'
  | _, _, .nil => .nil
  | _, _, .cons a b => .cons (hg a) (VRs.mapR hg b)

theorem VR.ren1 (hf : ∀ (b c : Nat) (p : Place), f b = some c → μ[b]? = some p → ν[c]? = some p) {v v' : Value} (h : VR μ v v') : VR ν (PM.ren1 f v) v' := by
  unfold PM.ren1
  split
  · cases h with
    | agg hl => exact .agg (hl.mapR fun h => h.ren0 hf)
  · cases h with
    | func a b => exact .func (a.mapR fun h => h.ren0 hf) (b.mapR fun h => h.ren0 hf)
  · cases h with
    | iface h => exact .iface (h.ren0 hf)
  · cases h with
    | tuple hl => cases hl; exact .tuple .nil
  · exact h.ren0 hf

theorem VR.ren2 (hf : ∀ (b c : Nat) (p : Place), f b = some c → μ[b]? = some p → ν[c]? = some p) {v v' : Value} (h : VR μ v v') : VR ν (PM.ren2 f v) v' := by
  unfold PM.ren2
  split
  · cases h with
    | tuple hl => exact .tuple (hl.mapR fun h => h.ren1 hf)
  · exact h.ren1 hf

theorem RowOk.ren (hf : ∀ (b c : Nat) (p : Place), f b = some c → μ[b]? = some p → ν[c]? = some p) {w : World} {C : Codec} {e : Nat} {l : List C.α} {m : VMode} {p : Place} (r : RowOk μ w C e l m p) :
    RowOk ν w C e (bif C.flat then l else l.map (C.map (PM.ren1 f))) m p := by
  have hmap : ∀ x, C.enc (C.map (PM.ren1 f) x) = (C.enc x).map (PM.ren1 f) := C.h_map _ (fun _ => rfl) (fun _ _ => rfl) (fun _ => rfl)
  cases hfl : C.flat with
  | true =>
    refine ⟨r.pe, r.blk, r.lens, fun i j x v h1 h2 => ?_, r.own⟩
    obtain ⟨v', c1, c2⟩ := r.cells i j x v h1 h2
    refine ⟨v', c1, ?_⟩
    obtain ⟨u, hu, hk⟩ := C.h_flat hfl x v (List.mem_of_getElem? h2)
    subst hu
    cases v <;> first | (cases c2; constructor; done) | (simp at hk; done)
  | false =>
    simp only [cond_false]
    refine ⟨r.pe, r.blk, fun x hx => ?_, fun i j x v h1 h2 => ?_, fun ho => ?_⟩
    · obtain ⟨y, hy, rfl⟩ := List.mem_map.1 hx
      rw [hmap, List.length_map]
      exact r.lens y hy
    · rw [List.getElem?_map] at h1
      obtain ⟨y, hy, rfl⟩ := Option.map_eq_some_iff.1 h1
      rw [hmap, List.getElem?_map] at h2
      obtain ⟨u, hu, rfl⟩ := Option.map_eq_some_iff.1 h2
      obtain ⟨v', c1, c2⟩ := r.cells i j y u hy hu
      exact ⟨v', c1, c2.ren1 hf⟩
    · rw [List.length_map]
      exact r.own ho
end

theorem hget_mapL {σ : List Nat} {g : Nat → VB} {c : Nat} : hget (σ.map g) c = match σ[c]? with | some b => g b | none => .dead := by
  induction σ generalizing c with
  | nil => cases c <;> rfl
  | cons b σ ih => cases c with
    | zero => rfl
    | succ c => simpa [hget] using ih

theorem idxN_some : ∀ {σ : List Nat} {b c : Nat}, idxN σ b = some c → σ[c]? = some b
  | [], b, c, h => by cases h
  | a :: r, b, c, h => by
    unfold idxN at h
    cases hb : Nat.beq a b with
    | true =>
      rw [hb] at h
      obtain rfl := Nat.eq_of_beq_eq_true hb
      cases h
      rfl
    | false =>
      rw [hb] at h
      simp only [cond_false] at h
      split at h
      · rename_i i hi
        cases h
        simpa using idxN_some hi
      · cases h

theorem renB_row {f : Nat → Option Nat} {X : VB} {C : Codec} {e : Nat} {l : List C.α} {m : VMode} (h : renB f X = .row C e l m) : ∃ l0, X = .row C e l0 m ∧ l = (bif C.flat then l0 else l0.map (C.map (ren1 f))) := by
  cases X with
  | row C' e' l' m' => simp only [renB] at h; cases h; exact ⟨l', rfl, rfl⟩
  | iter s o => simp only [renB] at h; cases h
  | dead => simp only [renB] at h; cases h
theorem renB_iter {f : Nat → Option Nat} {X : VB} {s : ByteArray} {o : Nat} (h : renB f X = .iter s o) : X = .iter s o := by
  cases X with
  | row C' e' l' m' => simp only [renB] at h; cases h
  | iter s o => simpa only [renB] using h
  | dead => simp only [renB] at h; cases h
theorem ren_len {C : Codec} {f : Nat → Option Nat} {l : List C.α} : (bif C.flat then l else l.map (C.map (ren1 f))).length = l.length := by cases C.flat <;> simp

theorem nodup_at {σ : List Nat} (hnd : σ.Nodup) {i j b : Nat} (hi : σ[i]? = some b) (hj : σ[j]? = some b) : i = j := by
  obtain ⟨l1, e1⟩ := List.getElem?_eq_some_iff.1 hi
  obtain ⟨l2, e2⟩ := List.getElem?_eq_some_iff.1 hj
  have hp := List.pairwise_iff_getElem.1 hnd
  rcases Nat.lt_trichotomy i j with h | h | h
  · exact absurd (e1.trans e2.symm) (hp i j l1 l2 h)
  · exact h
  · exact absurd (e2.trans e1.symm) (hp j i l2 l1 h)

/-- The blocks that are kept, in another order. -/
theorem HR.pick {μ : Mu} {H : VH} {w : World} (h : HR μ H w) {σ : List Nat} (hlt : ∀ b ∈ σ, b < H.length) (hnd : σ.Nodup) (d : Place) :
    HR (σ.map fun b => μ.getD b d) (σ.map fun b => renB (idxN σ) (hget H b)) w ∧
    ∀ (b c : Nat) (p : Place), idxN σ b = some c → μ[b]? = some p → (σ.map fun b => μ.getD b d)[c]? = some p := by
  have hf : ∀ (b c : Nat) (p : Place), idxN σ b = some c → μ[b]? = some p → (σ.map fun b => μ.getD b d)[c]? = some p := fun b c p hc hp => by
    rw [List.getElem?_map, idxN_some hc]
    simp [List.getD, hp]
  have at_ : ∀ {c : Nat} {X : VB}, hget (σ.map fun b => renB (idxN σ) (hget H b)) c = X → X ≠ .dead → ∃ b, σ[c]? = some b ∧ X = renB (idxN σ) (hget H b) ∧ (∀ p, μ[b]? = some p → (σ.map fun b => μ.getD b d)[c]? = some p) ∧
      (∀ p, (σ.map fun b => μ.getD b d)[c]? = some p → μ[b]? = some p) := by
    intro c X hg hX
    rw [hget_mapL] at hg
    cases hc : σ[c]? with
    | none => rw [hc] at hg; exact absurd hg.symm hX
    | some b =>
      rw [hc] at hg
      have hbl : b < μ.length := by rw [h.len]; exact hlt b (List.mem_of_getElem? hc)
      have hmu := List.getElem?_eq_getElem hbl
      have hm2 : (σ.map fun b => μ.getD b d)[c]? = some μ[b] := by
        rw [List.getElem?_map, hc]
        simp [List.getD, hmu]
      refine ⟨b, rfl, hg.symm, fun p hp => ?_, fun p hp => ?_⟩
      · rw [hm2, ← hp, hmu]
      · rw [hm2] at hp; rw [hmu]; exact hp
  have inj : ∀ {c1 c2 b : Nat}, σ[c1]? = some b → σ[c2]? = some b → c1 = c2 := fun h1 h2 => nodup_at hnd h1 h2
  refine ⟨⟨by simp, ?_, ?_, ?_, ?_⟩, hf⟩
  · intro c C e l m hg
    obtain ⟨b, hb, hX, h1, h2⟩ := at_ hg (by intro hh; cases hh)
    obtain ⟨l0, hg0, rfl⟩ := renB_row hX.symm
    obtain ⟨p, hp, r⟩ := h.row b C e l0 m hg0
    exact ⟨p, h1 p hp, r.ren hf⟩
  · intro c s o hg
    obtain ⟨b, hb, hX, h1, h2⟩ := at_ hg (by intro hh; cases hh)
    obtain ⟨p, hp, r⟩ := h.iter b s o (renB_iter hX.symm)
    exact ⟨p, h1 p hp, r⟩
  · intro c1 c2 C1 C2 e1 e2 l1 l2 m2 p1 p2 hne g1 g2 q1 q2 hblk i j hi hj hst
    obtain ⟨b1, hb1, hX1, _, k1⟩ := at_ g1 (by intro hh; cases hh)
    obtain ⟨b2, hb2, hX2, _, k2⟩ := at_ g2 (by intro hh; cases hh)
    obtain ⟨x1, hg1, rfl⟩ := renB_row hX1.symm
    obtain ⟨x2, hg2, rfl⟩ := renB_row hX2.symm
    rw [ren_len] at hj hst
    exact h.sep b1 b2 C1 C2 e1 e2 x1 x2 m2 p1 p2 (fun hh => by subst hh; exact hne (inj hb1 hb2)) hg1 hg2 (k1 p1 q1) (k2 p2 q2) hblk i j hi hj hst
  · intro c1 c2 s1 s2 o1 o2 p1 p2 hne g1 g2 q1 q2
    obtain ⟨b1, hb1, hX1, _, k1⟩ := at_ g1 (by intro hh; cases hh)
    obtain ⟨b2, hb2, hX2, _, k2⟩ := at_ g2 (by intro hh; cases hh)
    exact h.isep b1 b2 s1 s2 o1 o2 p1 p2 (fun hh => by subst hh; exact hne (inj hb1 hb2)) (renB_iter hX1.symm) (renB_iter hX2.symm) (k1 p1 q1) (k2 p2 q2)

theorem hasN_mem : ∀ {l : List Nat} {b : Nat}, hasN l b = false → b ∉ l
  | [], _, _ => by simp
  | a :: r, b, h => by
    unfold hasN at h
    cases hb : Nat.beq a b with
    | true => rw [hb] at h; cases h
    | false =>
      rw [hb] at h
      have hne : a ≠ b := fun e => by subst e; simp at hb
      intro hm
      rcases List.mem_cons.1 hm with hm | hm
      · exact hne hm.symm
      · exact hasN_mem h hm

theorem reach_ok {H : VH} : ∀ (n : Nat) (t acc : List Nat), (∀ b ∈ acc, b < H.length) → acc.Nodup → (∀ b ∈ reach H n t acc, b < H.length) ∧ (reach H n t acc).Nodup ∧ ∃ r, reach H n t acc = acc ++ r
  | 0, t, acc, h1, h2 => ⟨h1, h2, [], by simp [reach]⟩
  | n + 1, [], acc, h1, h2 => ⟨h1, h2, [], by simp [reach]⟩
  | n + 1, b :: t, acc, h1, h2 => by
    unfold reach
    cases hb : (hasN acc b || !(Nat.blt b H.length)) with
    | true => exact reach_ok n t acc h1 h2
    | false =>
      simp only [Bool.or_eq_false_iff, Bool.not_eq_false'] at hb
      have hbl : b < H.length := Nat.le_of_ble_eq_true hb.2
      obtain ⟨k1, k2, r, k3⟩ := reach_ok n (t ++ idsB (hget H b)) (acc ++ [b]) (fun c hc => by
        rcases List.mem_append.1 hc with hc | hc
        · exact h1 c hc
        · rw [List.mem_singleton.1 hc]; exact hbl) (by
        rw [List.nodup_append]
        exact ⟨h2, by simp, fun c hc d hd => by rw [List.mem_singleton.1 hd]; exact fun e => hasN_mem hb.1 (e ▸ hc)⟩)
      refine ⟨k1, k2, b :: r, ?_⟩
      simp only [cond_false]
      rw [k3]
      simp

theorem leadRo_le : ∀ H : VH, leadRo H ≤ H.length
  | [] => Nat.le_refl _
  | .row _ _ _ .ro :: r => by simpa [leadRo] using leadRo_le r
  | .dead :: r => by simpa [leadRo] using leadRo_le r
  | .row _ _ _ .own :: r => Nat.zero_le _
  | .row _ _ _ .stale :: r => Nat.zero_le _
  | .iter _ _ :: r => Nat.zero_le _

theorem kept_ok (fr : Fr) (H : VH) : (∀ b ∈ kept fr H, b < H.length) ∧ (kept fr H).Nodup ∧ ∃ r, kept fr H = List.range (leadRo H) ++ r :=
  reach_ok 100 (idsF fr) (List.range (leadRo H)) (fun b hb => Nat.lt_of_lt_of_le (List.mem_range.1 hb) (leadRo_le H)) List.nodup_range

end Go.Proofs.YtofcjkbgieenlaaDoor.PM

namespace Go.Proofs.YtofcjkbgieenlaaDoor.PM
open Go Go.RowKit
set_option linter.unusedVariables false
set_option linter.unusedSimpArgs false

/-- A function that is entered when it is called. -/
def callable (P : Program) (f : FuncId) : Prop := ∃ fn c, P.funcs[f]? = some fn ∧ (fn.name == "runtime.NumGoroutine") = false ∧ fn.body = some c

/-- What a call comes to, whatever memory there is besides. -/
def Meets (P : Program) (f : FuncId) (args : List Value) (H : VH) (K : Value → VH → Prop) : Prop :=
  ∀ (μ : Mu) (w : World) (args' : List Value), HR μ H w → VRs μ args args' → Calls P f ⟨args'⟩ w fun e w' =>
    ∃ (r r' : Value) (μ' : Mu) (H' : VH), e = .returned r' ∧ VR μ' r r' ∧ HR μ' H' w' ∧ Mu.le μ μ' ∧ H.length ≤ H'.length ∧
      (∀ b, b < H.length → hget H' b = hget H b) ∧ (∀ (b : Nat) (p : Place), H.length ≤ b → μ'[b]? = some p → w.heap.size ≤ p.blk) ∧
      Below w.heap.size w w' ∧ K r H'

def CallOk (P : Program) (call : FuncId → Spec) : Prop := ∀ f args H K, call f args H K → callable P f ∧ Meets P f args H K

/-- What stays so through a run. -/
structure Inv (w0 : World) (μ0 : Mu) (H0 : VH) (μ : Mu) (H : VH) (w : World) : Prop where
  hr : HR μ H w
  below : Below w0.heap.size w0 w
  n0 : H0.length ≤ H.length
  oldμ : ∀ b, b < H0.length → μ[b]? = μ0[b]?
  oldH : ∀ b, b < H0.length → hget H b = hget H0 b
  fresh : ∀ (b : Nat) (p : Place), H0.length ≤ b → μ[b]? = some p → w0.heap.size ≤ p.blk

/-- Rows that are read alone. -/
def Ro (H0 : VH) : Prop := ∀ b, (∃ (C : Codec) (e : Nat) (l : List C.α), hget H0 b = .row C e l .ro ∧ C.flat = true) ∨ hget H0 b = .dead

structure SR (w0 : World) (μ0 : Mu) (H0 : VH) (n : Nat) (μ : Mu) (fr : Fr) (H : VH) (a : Act) (w : World) : Prop where
  inv : Inv w0 μ0 H0 μ H w
  fr : ∀ t, VR μ (lk fr t) (a.tmps.getD t undef)
  sz : n ≤ a.tmps.size
  df : a.defers = []

section
variable {P : Program} {call : FuncId → Spec} {w0 : World} {μ0 : Mu} {H0 : VH} {n : Nat}

theorem ev_sound {μ : Mu} {fr : Fr} {a : Act} (h : ∀ t, VR μ (lk fr t) (a.tmps.getD t undef)) (x : Operand) : VR μ (ev fr x) (a.eval x) := by
  cases x with
  | tmp t => exact h t
  | const v => exact VR.const v
  | global g => exact .junk _
  | func f => exact .func .nil .nil

theorem getD_set (xs : Array Value) (d t : Nat) (v : Value) : (xs.setIfInBounds d v).getD t undef = if d = t ∧ d < xs.size then v else xs.getD t undef := by
  by_cases hdt : d = t
  · subst hdt
    by_cases hd : d < xs.size
    · simp [hd]
    · have h0 : ¬ (d < xs.size) := hd
      have : xs.setIfInBounds d v = xs := Array.setIfInBounds_eq_of_size_le (by omega)
      simp [this, h0]
  · rw [if_neg (fun h => hdt h.1), Array.getD_eq_getD_getElem?, Array.getD_eq_getD_getElem?, Array.getElem?_setIfInBounds_ne hdt]

theorem SR.put {μ : Mu} {fr : Fr} {H : VH} {a : Act} {w : World} (h : SR w0 μ0 H0 n μ fr H a w) {dst : Option Tmp} {v v' : Value} (hv : VR μ v v')
    (hd : ∀ d, dst = some d → d < n) : SR w0 μ0 H0 n μ (put dst v fr) H (a.put dst v') w := by
  cases dst with
  | none => exact h
  | some d =>
    have hdn := hd d rfl
    refine ⟨h.inv, fun t => ?_, by simpa [Act.put] using h.sz, by simpa [Act.put] using h.df⟩
    simp only [PM.put, lk, Act.put, getD_set]
    cases hb : Nat.beq d t with
    | true =>
      obtain rfl := Nat.eq_of_beq_eq_true hb
      rw [if_pos ⟨rfl, Nat.lt_of_lt_of_le hdn h.sz⟩]
      exact hv
    | false =>
      have hne : d ≠ t := fun e => by subst e; simp at hb
      rw [if_neg (fun hh => hne hh.1)]
      exact h.fr t

/-- Writing down what is known. -/
theorem SR.lit {μ : Mu} {fr : Fr} {H : VH} {a : Act} {w : World} (h : SR w0 μ0 H0 n μ fr H a w) {t : Nat} {b : Bool} (hl : lk fr t = .bool b) : SR w0 μ0 H0 n μ ((t, .bool b) :: fr) H a w := by
  refine ⟨h.inv, fun u => ?_, h.sz, h.df⟩
  simp only [lk]
  cases hb : Nat.beq t u with
  | true =>
    obtain rfl := Nat.eq_of_beq_eq_true hb
    have := h.fr t
    rw [hl] at this
    exact this
  | false => exact h.fr u

theorem SR.later {μ μ' : Mu} {fr : Fr} {H H' : VH} {a : Act} {w w' : World} (h : SR w0 μ0 H0 n μ fr H a w) (hi : Inv w0 μ0 H0 μ' H' w') (hm : Mu.le μ μ') : SR w0 μ0 H0 n μ' fr H' a w' :=
  ⟨hi, fun t => (h.fr t).mono hm, h.sz, h.df⟩

theorem Inv.drew {μ : Mu} {H : VH} {w : World} (h : Inv w0 μ0 H0 μ H w) : Inv w0 μ0 H0 μ H { w with drawn := w.drawn + 1 } :=
  ⟨h.hr.later (fun _ _ => rfl) (Nat.le_refl _), h.below.drew, h.n0, h.oldμ, h.oldH, h.fresh⟩

theorem below_setCells {B b : Nat} {a : World} (hb : B ≤ b) : ∀ (vs : List Value) (o : Nat) (w : World), Below B a w → Below B a (w.setCells b o vs)
  | [], _, _, h => h
  | v :: r, o, w, h => below_setCells hb r (o + 1) _ (h.setCell (p := ⟨b, o, none⟩) hb v)

theorem Inv.fresh' {μ : Mu} {H : VH} {w : World} (h : Inv w0 μ0 H0 μ H w) {zs zs' : List Value} (hz : VRs μ zs zs') (T : TypeId) :
    Inv w0 μ0 H0 (μ ++ [⟨w.heap.size, 0, zs.length, some zs.length⟩]) (H ++ [.row raw zs.length [zs] .own]) { w with heap := w.heap.push (.cells ⟨zs'⟩ T (0, 0)) } where
  hr := h.hr.fresh hz T
  below := by
    have := h.below.alloc h.below.size (.cells ⟨zs'⟩ T (0, 0))
    exact this
  n0 := by simp; have := h.n0; omega
  oldμ b hb := by
    rw [List.getElem?_append_left (by rw [h.hr.len]; have := h.n0; omega)]
    exact h.oldμ b hb
  oldH b hb := by
    rw [hget_append_lt (by have := h.n0; omega)]
    exact h.oldH b hb
  fresh b p hb hp := by
    rcases Nat.lt_or_ge b μ.length with hlt | hge
    · rw [List.getElem?_append_left hlt] at hp
      exact h.fresh b p hb hp
    · rw [List.getElem?_append_right hge] at hp
      have : b - μ.length = 0 := by
        rcases Nat.eq_zero_or_pos (b - μ.length) with h0 | h0
        · exact h0
        · rw [List.getElem?_eq_none (by simp; omega)] at hp; cases hp
      rw [this] at hp
      simp at hp
      subst hp
      exact h.below.size

theorem Inv.step {μ μ' : Mu} {H H' : VH} {w w' : World} (h : Inv w0 μ0 H0 μ H w) (hr : HR μ' H' w') (hb : Below w0.heap.size w w') (hlen : H.length ≤ H'.length)
    (hμ : ∀ b, b < H0.length → μ'[b]? = μ[b]?) (hH : ∀ b, b < H0.length → hget H' b = hget H b)
    (hf : ∀ (b : Nat) (p : Place), H0.length ≤ b → μ'[b]? = some p → μ[b]? = some p ∨ w0.heap.size ≤ p.blk) : Inv w0 μ0 H0 μ' H' w' where
  hr := hr
  below := h.below.trans hb
  n0 := Nat.le_trans h.n0 hlen
  oldμ b hb := by rw [hμ b hb]; exact h.oldμ b hb
  oldH b hb := by rw [hH b hb]; exact h.oldH b hb
  fresh b p hb hp := by
    rcases hf b p hb hp with h' | h'
    · exact h.fresh b p hb h'
    · exact h'

theorem snoc_or {μ : Mu} {q : Place} {b : Nat} {p : Place} (h : (μ ++ [q])[b]? = some p) : μ[b]? = some p ∨ p = q := by
  rcases Nat.lt_or_ge b μ.length with hlt | hge
  · rw [List.getElem?_append_left hlt] at h
    exact .inl h
  · rw [List.getElem?_append_right hge] at h
    have : b - μ.length = 0 := by
      rcases Nat.eq_zero_or_pos (b - μ.length) with h0 | h0
      · exact h0
      · rw [List.getElem?_eq_none (by simp; omega)] at h; cases h
    rw [this] at h
    simp at h
    exact .inr h.symm

/-- One block more, which is new. -/
theorem Inv.snoc {μ : Mu} {H : VH} {w w' : World} {X : VB} {q : Place} (h : Inv w0 μ0 H0 μ H w) (hr : HR (μ ++ [q]) (H ++ [X]) w') (hb : Below w0.heap.size w w') (hq : w0.heap.size ≤ q.blk) :
    Inv w0 μ0 H0 (μ ++ [q]) (H ++ [X]) w' :=
  h.step hr hb (by simp) (fun b hb => List.getElem?_append_left (by rw [h.hr.len]; exact Nat.lt_of_lt_of_le hb h.n0)) (fun b hb => hget_append_lt (Nat.lt_of_lt_of_le hb h.n0))
    (fun b p _ hp => (snoc_or hp).imp id (fun e => by subst e; exact hq))

theorem flat_as {C C2 : Codec} : ∀ {l : List C2.α}, okAll C C2 l = true → flat C (asC C C2 l) = flat C2 l
  | [], _ => rfl
  | y :: r, h => by
    simp only [okAll, Bool.and_eq_true] at h
    simp only [asC, flat, flat_as h.2, C.h_dec _ h.1.1]

theorem as_lens {C C2 : Codec} {e : Nat} : ∀ {l : List C2.α}, okAll C C2 l = true → (∀ y ∈ l, (C2.enc y).length = e) → ∀ y ∈ asC C C2 l, (C.enc y).length = e
  | [], _, _, y, hy => by simp [asC] at hy
  | x :: r, h, hl, y, hy => by
    simp only [okAll, Bool.and_eq_true] at h
    simp only [asC, List.mem_cons] at hy
    rcases hy with rfl | hy
    · rw [C.h_dec _ h.1.1]; exact hl x (by simp)
    · exact as_lens h.2 (fun y hy => hl y (by simp [hy])) y hy

theorem as_len {C C2 : Codec} : ∀ {l : List C2.α}, (asC C C2 l).length = l.length
  | [] => rfl
  | _ :: r => by simp [asC, as_len (l := r)]

theorem cellsV_mem : ∀ {l : List Value}, cellsV l = true → ∀ v ∈ l, cellV v = true
  | [], _, v, hv => by simp at hv
  | x :: r, h, v, hv => by
    simp only [cellsV, Bool.and_eq_true] at h
    rcases List.mem_cons.1 hv with rfl | hv
    · exact h.1
    · exact cellsV_mem h.2 v hv

theorem okAll_cells {C C2 : Codec} : ∀ {l : List C2.α}, okAll C C2 l = true → ∀ v ∈ flat C2 l, cellV v = true
  | [], _, v, hv => by simp [flat] at hv
  | y :: r, h, v, hv => by
    simp only [okAll, Bool.and_eq_true] at h
    simp only [flat, List.mem_append] at hv
    rcases hv with hv | hv
    · exact cellsV_mem h.1.2 v hv
    · exact okAll_cells h.2 v hv

/-- A fresh row, with room behind it. -/
theorem HR.freshRow {μ : Mu} {H : VH} {w : World} (h : HR μ H w) {C : Codec} {esz : Nat} {ys : List C.α} {ns' : List Value} (hy : ∀ y ∈ ys, (C.enc y).length = esz) (hv : VRs μ (flat C ys) ns') (rest : List Value) (T : TypeId) :
    HR (μ ++ [⟨w.heap.size, 0, esz, some (ns'.length + rest.length)⟩]) (H ++ [.row C esz ys .own]) { w with heap := w.heap.push (.cells ⟨ns' ++ rest⟩ T (0, 0)) } := by
  have hb : ∀ k, k < w.heap.size → (w.heap.push (.cells ⟨ns' ++ rest⟩ T (0, 0)))[k]? = w.heap[k]? := fun k hk => by
    rw [Array.getElem?_push]; simp [Nat.ne_of_lt hk]
  have hcell : ∀ i, ({ w with heap := w.heap.push (.cells ⟨ns' ++ rest⟩ T (0, 0)) } : World).cell? ⟨w.heap.size, i, none⟩ = (ns' ++ rest)[i]? := fun i => by
    simp [World.cell?]
  refine h.snoc (w' := { w with heap := w.heap.push (.cells ⟨ns' ++ rest⟩ T (0, 0)) }) hb (by simp) (Nat.le_refl _) ⟨rfl, by simp, hy, ?_, ?_⟩
  · intro i j x v h1 h2
    have hj : j < esz := by rw [← hy x (List.mem_of_getElem? h1)]; exact (List.getElem?_eq_some_iff.1 h2).1
    have hf := flat_get hy h1 hj
    rw [h2] at hf
    obtain ⟨v', k1, k2⟩ := hv.get hf
    refine ⟨v', ?_, k2.mono (mu_snoc _ _)⟩
    unfold Place.at
    simp only [Nat.zero_add]
    rw [hcell, List.getElem?_append_left (List.getElem?_eq_some_iff.1 k1).1]
    exact k1
  · intro _
    refine ⟨_, rfl, ?_, fun i hi => ⟨?_, by simp [World.frozen?]⟩⟩
    · rw [hv.length, flat_len hy]; omega
    · rw [Nat.zero_add, hcell]
      exact ⟨_, List.getElem?_eq_getElem (by simpa using hi)⟩

/-- What lies in a row, cell by cell. -/
theorem row_cells {μ : Mu} {w : World} {C : Codec} {esz : Nat} {l : List C.α} {m : VMode} {p : Place} (r : RowOk μ w C esz l m p) : ∀ (n i : Nat), i + n ≤ l.length →
    ∃ ns, VRs μ (flat C ((l.drop i).take n)) ns ∧ ns.length = n * esz ∧ ∀ j u, ns[j]? = some u → w.cell? ((p.at i 0).add j) = some u
  | 0, i, _ => ⟨[], by simpa [flat] using .nil, by simp, fun j u h => by simp at h⟩
  | n + 1, i, h => by
    have hi : i < l.length := by omega
    have hx := nth_some hi
    have hl := r.lens _ (List.mem_of_getElem? hx)
    obtain ⟨ns, k1, k2, k3⟩ := row_cells r n (i + 1) (by omega)
    have hd : (l.drop i).take (n + 1) = nth C l i :: (l.drop (i + 1)).take n := by
      rw [List.drop_eq_getElem_cons hi, List.take_succ_cons]
      congr 1
      rw [List.getElem?_eq_getElem hi] at hx
      exact Option.some.inj hx
    -- the element's own cells
    have one : ∀ (cs : List Value) (j : Nat), (C.enc (nth C l i)).drop j = cs → ∃ vs, VRs μ cs vs ∧ ∀ q u, vs[q]? = some u → w.cell? (p.at i (j + q)) = some u := by
      intro cs
      induction cs with
      | nil => intro j _; exact ⟨[], .nil, fun q u h => by simp at h⟩
      | cons c cs ih =>
        intro j hj
        obtain ⟨v', c1, c2⟩ := r.cells i j _ c hx (drop_head hj)
        obtain ⟨vs, d1, d2⟩ := ih (j + 1) (by
          have := congrArg (List.drop 1) hj
          rwa [List.drop_drop, List.drop_one] at this)
        refine ⟨v' :: vs, .cons c2 d1, fun q u hq => ?_⟩
        cases q with
        | zero => simp at hq; subst hq; exact c1
        | succ q => rw [show j + (q + 1) = j + 1 + q by omega]; exact d2 q u (by simpa using hq)
    obtain ⟨vs, e1, e2⟩ := one _ 0 rfl
    rw [List.drop_zero] at e1
    refine ⟨vs ++ ns, by rw [hd]; exact e1.append k1, by rw [List.length_append, e1.length, hl, k2, Nat.succ_mul]; omega, fun j u hj => ?_⟩
    have hvl : vs.length = esz := by rw [e1.length, hl]
    rcases Nat.lt_or_ge j esz with hlt | hge
    · rw [List.getElem?_append_left (by omega)] at hj
      rw [at_add, Nat.zero_add]
      have := e2 j u hj
      simpa using this
    · rw [List.getElem?_append_right (by omega), hvl] at hj
      have := k3 (j - esz) u hj
      rw [at_add] at this ⊢
      have hpl : p.at (i + 1) (0 + (j - esz)) = p.at i (0 + j) := by
        unfold Place.at
        rw [r.pe, Nat.add_mul]
        simp only [Nat.one_mul, Addr.mk.injEq, and_true, true_and]
        omega
      rwa [hpl] at this

theorem run_append_in {P : Program} (w : World) (t ty e : TypeId) (i : TypeInfo) (ht : P.underlying t = some (.slice e)) (hi : P.info? e = some i) (B a : Addr) (n c' m c : Nat) (news : List Value) {w' : World}
    (hl : news.length = m * i.size) (hnews : ∀ j u, news[j]? = some u → w.cell? (a.add j) = some u) (hroom : n + m ≤ c') (hst : (storeCells (B.add (n * i.size)) news).run P w = .ok () w') :
    (Builtin.append_ #[t, t] ty #[.slice (some B) n c', .slice (some a) m c]).run P w = .ok (.slice (some B) (n + m) c') w' := by
  have hf := run_firstCells_some (P := P) w i.size m a m c news hl hnews
  simp [Builtin.append_, run_underlying ht, sizeOf, typeInfo, hi, Builtin.lenOf, hroom, hf, hst]

theorem run_append_nil0 {P : Program} (w : World) (t ty e : TypeId) (i : TypeInfo) (ht : P.underlying t = some (.slice e)) (hi : P.info? e = some i) (a : Addr) (c : Nat) :
    (Builtin.append_ #[t, t] ty #[.slice none 0 0, .slice (some a) 0 c]).run P w = .ok (.slice none 0 0) w := by
  simp [Builtin.append_, run_underlying ht, sizeOf, typeInfo, hi, Builtin.lenOf, Builtin.firstCells, loadCells, loadCellsFrom]

theorem Below.alloc' {B : Nat} {w : World} (h : B ≤ w.heap.size) (o : Obj) : Below B w { w with heap := w.heap.push o } := (Below.refl B w).alloc h o

theorem below_drewAlloc {B : Nat} {w : World} (h : B ≤ w.heap.size) (o : Obj) : Below B w (w.drew.alloc o) := ((Below.refl B w).drew).alloc h o

theorem below_setCells' {B b : Nat} (hb : B ≤ b) (vs : List Value) (o : Nat) (w : World) : Below B w (w.setCells b o vs) := below_setCells hb vs o w (Below.refl _ _)

/-- 'append' says what it does. -/
theorem append_sound (hro : Ro H0) {μ : Mu} {H : VH} {w : World} {t t0 : TypeId} {s s' x' : Value} {b2 j0 m c : Nat} {K : Value → VH → Prop} {R : Value → World → Prop}
    (inv : Inv w0 μ0 H0 μ H w) (hs : VR μ s s') (hx : VR μ (.slice (some ⟨b2, j0, none⟩) m c) x') (h : appendP P t s (hget H b2) j0 m H K)
    (hR : ∀ v v' μ' H' w', VR μ' v v' → Inv w0 μ0 H0 μ' H' w' → Mu.le μ μ' → K v H' → R v' w') :
    ∃ v' w', (Builtin.append_ #[t, t] t0 #[s', x']).run P w = .ok v' w' ∧ R v' w' := by
  unfold appendP at h
  split at h
  · rename_i e ht
    split at h
    · rename_i n1 by1 zs C2 esz2 l2 m2 hsz hby hz hg2
      obtain ⟨i, z, hi, hiz, hzc, _⟩ := zeroCells_some hz
      obtain ⟨i2, hi2, his, _⟩ := szOf_some hsz
      obtain rfl : i2 = i := Option.some.inj (hi2.symm.trans hi)
      have hbyte : i2.bytes = by1 + 1 := by
        unfold infoB at hby
        rw [hi] at hby
        exact Option.some.inj hby
      cases hc1 : ((Nat.ble (j0 + m) l2.length && Nat.beq esz2 (n1 + 1)) && Nat.beq zs.length (n1 + 1)) with
      | false => rw [hc1] at h; exact h.elim
      | true =>
        rw [hc1] at h
        simp only [need] at h
        simp only [Bool.and_eq_true, Nat.ble_eq] at hc1
        have hle2 : j0 + m ≤ l2.length := hc1.1.1
        obtain rfl := Nat.eq_of_beq_eq_true hc1.1.2
        have hzl : z.cells.size = n1 + 1 := by
          have := Nat.eq_of_beq_eq_true hc1.2
          rw [← hzc, Array.length_toList] at this
          exact this
        obtain ⟨p2, hp2, r2⟩ := inv.hr.row _ _ _ _ _ hg2
        -- what is added
        have hnews : ∃ (a : Addr) (cc : Nat) (ns : List Value), x' = .slice (some a) m cc ∧ VRs μ (flat C2 ((l2.drop j0).take m)) ns ∧ ns.length = m * (n1 + 1) ∧ ∀ j u, ns[j]? = some u → w.cell? (a.add j) = some u := by
          cases hx with
          | slice hp hle hlim =>
            rename_i c' p
            obtain rfl : p = p2 := Option.some.inj (hp.symm.trans hp2)
            obtain ⟨ns, k1, k2, k3⟩ := row_cells r2 m j0 hle2
            exact ⟨_, c', ns, rfl, k1, k2, k3⟩
          | slice0 a => exact ⟨a, 0, [], rfl, by simpa [flat] using .nil, by simp, fun j u h => by simp at h⟩
        obtain ⟨a, cc, ns, rfl, hv, hnl, hcell⟩ := hnews
        have lens2 : ∀ y ∈ (l2.drop j0).take m, (C2.enc y).length = n1 + 1 := fun y hy => r2.lens y (List.mem_of_mem_drop (List.mem_of_mem_take hy))
        have hm : ((l2.drop j0).take m).length = m := by simp; omega
        have hcap : ∀ need old, need ≤ grownCap w need old e := fun need old => grownCap_ge w need old e
        -- a new array
        have fresh : ∀ {C : Codec} {ys : List C.α} {ms : List Value} {nn cp : Nat}, (∀ y ∈ ys, (C.enc y).length = n1 + 1) → VRs μ (flat C ys) ms → ms.length = nn * (n1 + 1) → nn ≤ cp →
            VR (μ ++ [(⟨w.heap.size, 0, n1 + 1, some (ms.length + (Builtin.zeroCells z.cells (cp - nn)).toList.length)⟩ : Place)]) (.slice (some ⟨H.length, 0, none⟩) nn nn) (.slice (some ⟨w.heap.size, 0, none⟩) nn cp) ∧
            Inv w0 μ0 H0 (μ ++ [⟨w.heap.size, 0, n1 + 1, some (ms.length + (Builtin.zeroCells z.cells (cp - nn)).toList.length)⟩]) (H ++ [.row C (n1 + 1) ys .own])
              (w.drew.alloc (.cells (ms.toArray ++ Builtin.zeroCells z.cells (cp - nn)) e)) := by
          intro C ys ms nn cp hy hms hml hcp
          have h1 := (inv.hr.later (w' := w.drew) (fun _ _ => rfl) (Nat.le_refl _)).freshRow hy hms (Builtin.zeroCells z.cells (cp - nn)).toList e
          have harr : (⟨ms ++ (Builtin.zeroCells z.cells (cp - nn)).toList⟩ : Array Value) = ms.toArray ++ Builtin.zeroCells z.cells (cp - nn) := by
            apply Array.toList_inj.1; simp
          rw [harr] at h1
          refine ⟨?_, inv.snoc h1 (below_drewAlloc inv.below.size _) inv.below.size⟩
          have hl : (μ ++ [(⟨w.heap.size, 0, n1 + 1, some (ms.length + (Builtin.zeroCells z.cells (cp - nn)).toList.length)⟩ : Place)])[H.length]? = some ⟨w.heap.size, 0, n1 + 1, some (ms.length + (Builtin.zeroCells z.cells (cp - nn)).toList.length)⟩ := by
            rw [← inv.hr.len]; simp
          have := VR.slice (i := 0) (n := nn) (c := nn) (c' := cp) hl hcp (fun L hL => by
            simp only [Option.some.injEq] at hL
            have hz2 : (Builtin.zeroCells z.cells (cp - nn)).toList.length = (cp - nn) * (n1 + 1) := by rw [Array.length_toList, size_zeroCells, hzl]
            rw [hz2, hml, ← Nat.add_mul, show nn + (cp - nn) = cp by omega] at hL
            rw [← hL, Nat.zero_add]
            exact Nat.le_refl _)
          simpa [Place.at] using this
        split at h
        · -- to nothing
          cases hs
          cases hm0 : Nat.beq m 0 with
          | true =>
            rw [hm0] at h
            obtain rfl := Nat.eq_of_beq_eq_true hm0
            exact ⟨_, _, run_append_nil0 w t t0 e i2 ht hi a cc, hR _ _ μ H w .nils inv (fun _ _ h => h) h⟩
          | false =>
            rw [hm0] at h
            simp only [bcase] at h
            have hmpos : 0 < m := by
              rcases Nat.eq_zero_or_pos m with h0 | h0
              · subst h0; cases hm0
              · exact h0
            cases hc2 : (Nat.ble (m * (by1 + 1)) 140737488355328 && okAll (codecOf P e) C2 ((l2.drop j0).take m)) with
            | false => rw [hc2] at h; exact h.elim
            | true =>
              rw [hc2] at h
              simp only [Bool.and_eq_true, Nat.ble_eq] at hc2
              have hsmall : m ≤ 140737488355328 := Nat.le_trans (Nat.le_mul_of_pos_right m (Nat.succ_pos by1)) hc2.1
              have hrun := run_append_nil (P := P) w t t0 e i2 z ht hi hiz a m cc ns (by rw [his]; exact hnl) hcell hmpos (by omega) (by rw [hbyte]; omega)
              obtain ⟨k1, k2⟩ := fresh (C := codecOf P e) (ys := asC (codecOf P e) C2 ((l2.drop j0).take m)) (ms := ns) (nn := m) (cp := grownCap w m 0 e)
                (as_lens hc2.2 lens2) (by rw [flat_as hc2.2]; exact hv) hnl (hcap m 0)
              exact ⟨_, _, hrun, hR _ _ _ _ _ k1 k2 (mu_snoc _ _) h⟩
        · -- to a row
          rename_i b i0 n cq
          split at h
          · rename_i C esz l hg
            cases hc2 : ((Nat.beq esz (n1 + 1) && Nat.beq (i0 + n) l.length) && (Nat.ble ((n + m) * (by1 + 1)) 140737488355328 && okAll C C2 ((l2.drop j0).take m))) with
            | false => rw [hc2] at h; exact h.elim
            | true =>
              rw [hc2] at h
              simp only [Bool.and_eq_true, Nat.ble_eq] at hc2
              obtain ⟨⟨q1, q2⟩, q3, q4⟩ := hc2
              obtain rfl := Nat.eq_of_beq_eq_true q1
              have hfull := Nat.eq_of_beq_eq_true q2
              have hsmall : n + m ≤ 140737488355328 := Nat.le_trans (Nat.le_mul_of_pos_right (n + m) (Nat.succ_pos by1)) q3
              have hge : H0.length ≤ b := by
                rcases Nat.lt_or_ge b H0.length with hlt | hge
                · exfalso
                  rw [inv.oldH b hlt] at hg
                  rcases hro b with ⟨C', e', l', h', _⟩ | h' <;> rw [h'] at hg <;> cases hg
                · exact hge
              obtain ⟨p, hp, r⟩ := inv.hr.row _ _ _ _ _ hg
              obtain ⟨L, hL, hlen, hcl⟩ := r.own rfl
              have hbl : b < H.length := by rw [← inv.hr.len]; exact mu_lt hp
              have hys : ∀ y ∈ asC C C2 ((l2.drop j0).take m), (C.enc y).length = n1 + 1 := as_lens q4 lens2
              have hfl : VRs μ (flat C (asC C C2 ((l2.drop j0).take m))) ns := by rw [flat_as q4]; exact hv
              have hone : ∀ v ∈ ns, v.oneCell' = true := hv.ones (okAll_cells q4)
              have hst := inv.hr.stale hg
              -- with the old row aside
              have invs : Inv w0 μ0 H0 μ (hset H b (.row C (n1 + 1) l .stale)) w := inv.step hst (Below.refl _ _) (by rw [hset_len]; exact Nat.le_refl _) (fun _ _ => rfl)
                (fun b' hb' => hget_set_ne (by omega)) (fun b' p' _ hp' => .inl hp')
              -- a new array for all
              have grown : ∀ (B : Addr) (c' : Nat) (os : List Value), s' = .slice (some B) n c' → c' < n + m → VRs μ (flat C (l.drop i0)) os → os.length = n * (n1 + 1) → (∀ j u, os[j]? = some u → w.cell? (B.add j) = some u) →
                  ∃ v' w', (Builtin.append_ #[t, t] t0 #[s', .slice (some a) m cc]).run P w = .ok v' w' ∧ R v' w' := by
                intro B c' os hs' hc' hos hol hoc
                subst hs'
                have hrun := run_append_grow (P := P) w t t0 e i2 z ht hi hiz B n c' os (by rw [his]; exact hol) hoc a m cc ns (by rw [his]; exact hnl) hcell hc' (by omega) (by rw [hbyte]; exact growslice_fits hc' q3)
                have hall : VRs μ (flat C (l.drop i0 ++ asC C C2 ((l2.drop j0).take m))) (os ++ ns) := by
                  have : ∀ (x y : List C.α), flat C (x ++ y) = flat C x ++ flat C y := by
                    intro x y
                    induction x with
                    | nil => rfl
                    | cons z x ih => simp [flat, ih]
                  rw [this]
                  exact hos.append hfl
                have hlens : ∀ y ∈ l.drop i0 ++ asC C C2 ((l2.drop j0).take m), (C.enc y).length = n1 + 1 := fun y hy => by
                  rcases List.mem_append.1 hy with hy | hy
                  · exact r.lens y (List.mem_of_mem_drop hy)
                  · exact hys y hy
                have hfr := (hst.later (w' := w.drew) (fun _ _ => rfl) (Nat.le_refl _)).freshRow hlens hall (Builtin.zeroCells z.cells (grownCap w (n + m) c' e - (n + m))).toList e
                have harr : (⟨os ++ ns ++ (Builtin.zeroCells z.cells (grownCap w (n + m) c' e - (n + m))).toList⟩ : Array Value) = os.toArray ++ ns.toArray ++ Builtin.zeroCells z.cells (grownCap w (n + m) c' e - (n + m)) := by
                  apply Array.toList_inj.1; simp
                rw [harr] at hfr
                refine ⟨_, _, hrun, hR _ _ _ _ _ ?_ (invs.snoc hfr (below_drewAlloc inv.below.size _) inv.below.size) (mu_snoc _ _) h⟩
                have hl : (μ ++ [(⟨w.heap.size, 0, n1 + 1, some ((os ++ ns).length + (Builtin.zeroCells z.cells (grownCap w (n + m) c' e - (n + m))).toList.length)⟩ : Place)])[H.length]? = some ⟨w.heap.size, 0, n1 + 1, some ((os ++ ns).length + (Builtin.zeroCells z.cells (grownCap w (n + m) c' e - (n + m))).toList.length)⟩ := by
                  rw [← inv.hr.len]; simp
                have := VR.slice (i := 0) (n := n + m) (c := n + m) (c' := grownCap w (n + m) c' e) hl (hcap _ _) (fun L' hL' => by
                  simp only [Option.some.injEq] at hL'
                  have hg' := hcap (n + m) c'
                  have hz2 : (Builtin.zeroCells z.cells (grownCap w (n + m) c' e - (n + m))).toList.length = (grownCap w (n + m) c' e - (n + m)) * (n1 + 1) := by rw [Array.length_toList, size_zeroCells, hzl]
                  rw [hz2, List.length_append, hol, hnl, ← Nat.add_mul, ← Nat.add_mul, show n + m + (grownCap w (n + m) c' e - (n + m)) = grownCap w (n + m) c' e by omega] at hL'
                  rw [← hL', Nat.zero_add]
                  exact Nat.le_refl _)
                simpa [Place.at] using this
              cases hs with
              | slice hpb hle hlim =>
                rename_i c' pb
                obtain rfl : pb = p := Option.some.inj (hpb.symm.trans hp)
                rcases Nat.lt_or_ge c' (n + m) with hlt | hroom
                · obtain ⟨os, o1, o2, o3⟩ := row_cells r n i0 (by omega)
                  have hto : (l.drop i0).take n = l.drop i0 := List.take_of_length_le (by simp; omega)
                  rw [hto] at o1
                  exact grown _ c' os rfl hlt o1 o2 o3
                · have hroomL : (l.length + (asC C C2 ((l2.drop j0).take m)).length) * (n1 + 1) ≤ L := by
                    rw [as_len, hm, ← hfull]
                    have := hlim L hL
                    rw [r.pe] at this
                    exact Nat.le_trans (Nat.mul_le_mul_right _ (by omega)) this
                  obtain ⟨g1, g2⟩ := inv.hr.grow (P := P) hg hp hL (i0 := i0) (by omega) hys hfl hone hroomL
                  have hadr : (pb.at i0 0).add (n * i2.size) = ⟨pb.blk, pb.base + l.length * (n1 + 1), none⟩ := by
                    rw [at_add, his, ← hfull]
                    unfold Place.at
                    rw [r.pe, Nat.add_mul]
                    simp [Nat.add_assoc]
                  have hrun := run_append_in (P := P) w t t0 e i2 ht hi (pb.at i0 0) a n c' m cc ns (by rw [his]; exact hnl) hcell hroom (by rw [hadr]; exact g1)
                  have hinv : Inv w0 μ0 H0 (μ ++ [⟨pb.blk, pb.base + i0 * (n1 + 1), n1 + 1, some (L - i0 * (n1 + 1))⟩]) (hset H b (.row C (n1 + 1) l .stale) ++ [.row C (n1 + 1) (l.drop i0 ++ asC C C2 ((l2.drop j0).take m)) .own]) (w.setCells pb.blk (pb.base + l.length * (n1 + 1)) ns) := by
                    have hbe := inv.fresh b pb hge hp
                    refine invs.snoc g2 (below_setCells' hbe _ _ _) hbe
                  refine ⟨_, _, hrun, hR _ _ _ _ _ ?_ hinv (mu_snoc _ _) h⟩
                  have hl : (μ ++ [(⟨pb.blk, pb.base + i0 * (n1 + 1), n1 + 1, some (L - i0 * (n1 + 1))⟩ : Place)])[H.length]? = some ⟨pb.blk, pb.base + i0 * (n1 + 1), n1 + 1, some (L - i0 * (n1 + 1))⟩ := by
                    rw [← inv.hr.len]; simp
                  have := VR.slice (i := 0) (n := n + m) (c := n + m) (c' := c') hl hroom (fun L' hL' => by
                    simp only [Option.some.injEq] at hL'
                    subst hL'
                    have := hlim L hL
                    rw [r.pe, Nat.add_mul] at this
                    rw [Nat.zero_add]
                    exact Nat.le_sub_of_add_le (by rw [Nat.add_comm]; exact this))
                  have hat : pb.at i0 0 = ⟨pb.blk, pb.base + i0 * (n1 + 1), none⟩ := by unfold Place.at; rw [r.pe]; simp
                  rw [hat]
                  simpa [Place.at] using this
              | slice0 B =>
                rcases Nat.eq_zero_or_pos m with hm0 | hmpos
                · subst hm0
                  -- nothing to nothing: the row is as it was
                  have hns : ns = [] := List.eq_nil_of_length_eq_zero (by simpa using hnl)
                  subst hns
                  have hroomL : (l.length + (asC C C2 ((l2.drop j0).take 0)).length) * (n1 + 1) ≤ L := by
                    rw [as_len]; simpa using hlen
                  obtain ⟨g1, g2⟩ := inv.hr.grow (P := P) hg hp hL (i0 := i0) (by omega) hys hfl hone hroomL
                  have hrun := run_append_in (P := P) w t t0 e i2 ht hi B a 0 0 0 cc [] (by simp) (fun j u h => by simp at h) (Nat.le_refl _) (w' := w) rfl
                  have hinv : Inv w0 μ0 H0 (μ ++ [⟨p.blk, p.base + i0 * (n1 + 1), n1 + 1, some (L - i0 * (n1 + 1))⟩]) (hset H b (.row C (n1 + 1) l .stale) ++ [.row C (n1 + 1) (l.drop i0 ++ asC C C2 ((l2.drop j0).take 0)) .own]) w :=
                    invs.snoc g2 (Below.refl _ _) (inv.fresh b p hge hp)
                  exact ⟨_, _, hrun, hR _ _ _ _ _ (.slice0 B) hinv (mu_snoc _ _) h⟩
                · refine grown B 0 [] rfl (by omega) ?_ (by simp) (fun j u h => by simp at h)
                  rw [List.drop_eq_nil_of_le (by omega)]
                  exact .nil
          · exact h.elim
        · exact h.elim
    · exact h.elim
  · exact h.elim

theorem partsV_sound {μ : Mu} {ρ ρ' : Operand → Value} {n : Nat} (hρ : ∀ x, VR μ (ρ x) (ρ' x)) : ∀ (ps : List (Nat × Operand)) (k : Nat) (cl : List (List Value)), partsV ρ n k ps = some cl →
    (∀ y ∈ cl, (raw.enc y).length = n) ∧ ∀ (pre rest : List Value), pre.length = k * n → rest.length = cl.length * n →
      ∃ ns, VRs μ (flat raw cl) ns ∧ Instr.fill (fun i => some (i * n, n)) ⟨pre ++ rest⟩ (ps.map fun (i, x) => (i, ρ' x)) = some ⟨pre ++ ns⟩
  | [], k, cl, h => by
    obtain rfl := Option.some.inj h
    refine ⟨fun y hy => by simp at hy, fun pre rest _ hr => ⟨[], .nil, ?_⟩⟩
    have : rest = [] := List.eq_nil_of_length_eq_zero (by simpa using hr)
    rw [this]
    rfl
  | (i, x) :: ps, k, cl, h => by
    simp only [partsV] at h
    split at h
    · rename_i cs l hcs hl
      cases hb : (Nat.beq i k && Nat.beq cs.length n) with
      | false => rw [hb] at h; cases h
      | true =>
        rw [hb] at h
        obtain rfl := Option.some.inj h
        simp only [Bool.and_eq_true] at hb
        obtain rfl := Nat.eq_of_beq_eq_true hb.1
        have hn := Nat.eq_of_beq_eq_true hb.2
        obtain ⟨k1, k2⟩ := partsV_sound hρ ps (i + 1) l hl
        have hv := cellsOf_sound (hρ x) hcs
        have hvl : (ρ' x).cells.toList.length = n := by rw [hv.length, hn]
        have hsz : (ρ' x).cells.size = n := by rw [← Array.length_toList]; exact hvl
        refine ⟨fun y hy => ?_, fun pre rest hpre hrest => ?_⟩
        · rcases List.mem_cons.1 hy with rfl | hy
          · exact hn
          · exact k1 y hy
        · rw [List.length_cons, Nat.succ_mul] at hrest
          obtain ⟨ns, m1, m2⟩ := k2 (pre ++ (ρ' x).cells.toList) (rest.drop n) (by rw [List.length_append, hpre, hvl, Nat.succ_mul]) (by rw [List.length_drop, hrest]; omega)
          refine ⟨(ρ' x).cells.toList ++ ns, hv.append m1, ?_⟩
          have hf := fold_set (i * n) (ρ' x).cells.toList 0 (pre ++ rest) (by rw [List.length_append, hpre, hrest, hvl]; omega)
          simp only [Nat.add_zero] at hf
          have hf2 : ((ρ' x).cells.zipIdx.foldl (fun cs (x : Value × Nat) => cs.setIfInBounds (i * n + x.2) x.1) (⟨pre ++ rest⟩ : Array Value)) = ⟨PM.splice (pre ++ rest) (i * n) (ρ' x).cells.toList⟩ := by
            rw [← hf, ← Array.foldl_toList, Array.toList_zipIdx]
          have hsp : PM.splice (pre ++ rest) (i * n) (ρ' x).cells.toList = (pre ++ (ρ' x).cells.toList) ++ rest.drop n := by
            unfold PM.splice
            rw [hvl, List.take_append_of_le_length (by omega), List.take_of_length_le (by omega), List.drop_append, List.drop_eq_nil_of_le (by omega), hpre, show i * n + n - i * n = n by omega]
            simp
          have hcond : ¬ ((ρ' x).cells.size ≠ n ∨ i * n + (ρ' x).cells.size > (⟨pre ++ rest⟩ : Array Value).size) := by
            rw [hsz]
            have : (⟨pre ++ rest⟩ : Array Value).size = i * n + (l.length * n + n) := by
              show (pre ++ rest).length = _
              rw [List.length_append, hpre, hrest]
            rw [this]
            omega
          simp only [List.map_cons, Instr.fill]
          rw [if_neg (by simpa using hcond), hf2, hsp, m2]
          simp
    · cases h

def Keeps (H H' : VH) : Prop := H.length ≤ H'.length ∧ ∀ b, b < H.length → hget H' b = hget H b
theorem Keeps.refl (H : VH) : Keeps H H := ⟨Nat.le_refl _, fun _ _ => rfl⟩
theorem Keeps.trans {A B C : VH} (h : Keeps A B) (k : Keeps B C) : Keeps A C := ⟨Nat.le_trans h.1 k.1, fun b hb => by rw [k.2 b (Nat.lt_of_lt_of_le hb h.1), h.2 b hb]⟩
theorem Keeps.snoc (H : VH) (X : VB) : Keeps H (H ++ [X]) := ⟨by simp, fun b hb => hget_append_lt hb⟩

/-- A variable that has been made. -/
theorem new_sound {μ : Mu} {H : VH} {w : World} {t : TypeId} {zs zs' : List Value} {K : Value → VH → Prop} (inv : Inv w0 μ0 H0 μ H w) (hz : VRs μ zs zs') (T : TypeId) (h : newP P t zs H K) :
    ∃ v μ' H', VR μ' v (.pointer (some ⟨w.heap.size, 0, none⟩)) ∧ Inv w0 μ0 H0 μ' H' { w with heap := w.heap.push (.cells ⟨zs'⟩ T (0, 0)) } ∧ Mu.le μ μ' ∧ Keeps H H' ∧ K v H' := by
  have hl : (μ ++ [(⟨w.heap.size, 0, zs.length, some zs.length⟩ : Place)])[H.length]? = some ⟨w.heap.size, 0, zs.length, some zs.length⟩ := by
    rw [← inv.hr.len]; simp
  have hp := VR.ptr (i := 0) (j := 0) hl
  unfold newP at h
  split at h
  · rename_i k _
    cases ha : allI k zs with
    | false => rw [ha] at h; exact h.elim
    | true =>
      rw [ha] at h
      have hfr := inv.hr.freshRow (C := arrC k) (esz := zs.length) (ys := [decI zs]) (ns' := zs') (by
        intro y hy
        rw [List.mem_singleton.1 hy]
        show ((decI zs).map (Value.int k)).length = _
        rw [enc_decI ha]) (by
        show VRs μ ((decI zs).map (Value.int k) ++ []) zs'
        rw [enc_decI ha, List.append_nil]
        exact hz) [] T
      simp only [List.append_nil, List.length_nil, Nat.add_zero, hz.length] at hfr
      exact ⟨_, _, _, by simpa [Place.at] using hp, inv.snoc hfr (Below.alloc' inv.below.size _) inv.below.size, mu_snoc _ _, Keeps.snoc _ _, h⟩
  · split at h
    · cases ha : allStr zs with
      | false => rw [ha] at h; exact h.elim
      | true =>
        rw [ha] at h
        have hfr := inv.hr.freshRow (C := strsC) (esz := zs.length) (ys := [decStr zs]) (ns' := zs') (by
          intro y hy
          rw [List.mem_singleton.1 hy]
          show ((decStr zs).map Value.string).length = _
          rw [enc_decStr ha]) (by
          show VRs μ ((decStr zs).map Value.string ++ []) zs'
          rw [enc_decStr ha, List.append_nil]
          exact hz) [] T
        simp only [List.append_nil, List.length_nil, Nat.add_zero, hz.length] at hfr
        exact ⟨_, _, _, by simpa [Place.at] using hp, inv.snoc hfr (Below.alloc' inv.below.size _) inv.below.size, mu_snoc _ _, Keeps.snoc _ _, h⟩
    · exact ⟨_, _, _, by simpa [Place.at] using hp, inv.fresh' hz T, mu_snoc _ _, Keeps.snoc _ _, h⟩

theorem opE_default {μ : Mu} {H : VH} {w : World} (o : Oper) {a : Act} {ρ : Operand → Value} {K : Value → VH → Prop} {next : Act → World → Prop} {Q : Exit → Act → World → Prop}
    (inv : Inv w0 μ0 H0 μ H w) (hρ : ∀ x, VR μ (ρ x) (a.eval x))
    (h : match opV P ρ H o.op with | some (c, v) => need c (K v H) | none => False)
    (hnext : ∀ v v' μ' H' w', VR μ' v v' → Inv w0 μ0 H0 μ' H' w' → Mu.le μ μ' → K v H' → next (a.put o.dst v') w') : o.wp P a w next Q := by
  split at h
  · rename_i c v hv
    cases c with
    | false => exact h.elim
    | true =>
      obtain ⟨v', h1, h2⟩ := opV_sound o inv.hr hρ hv rfl
      unfold Oper.wp
      rw [h1, Oper.upon_value]
      exact hnext v v' μ H w h2 inv (fun _ _ h => h) h
  · exact h.elim

theorem opE_sound (hc : CallOk P call) (hro : Ro H0) {μ : Mu} {H : VH} {w : World} (o : Oper) {a : Act} {ρ : Operand → Value} {K : Value → VH → Prop} {next : Act → World → Prop} {Q : Exit → Act → World → Prop}
    (inv : Inv w0 μ0 H0 μ H w) (hρ : ∀ x, VR μ (ρ x) (a.eval x)) (h : opE P call ρ H K o.op)
    (hnext : ∀ v v' μ' H' w', VR μ' v v' → Inv w0 μ0 H0 μ' H' w' → Mu.le μ μ' → K v H' → next (a.put o.dst v') w') : o.wp P a w next Q := by
  have dflt := opE_default (P := P) (Q := Q) o inv hρ (K := K) (next := next)
  obtain ⟨dst, op, type, pos, after, guard⟩ := o
  simp only at h dflt hnext
  cases op
  case alloc t =>
    simp only [opE] at h
    split at h
    · rename_i zs hz
      unfold zeroCells at hz
      split at hz
      · rename_i i hi
        split at hz
        · rename_i z hzz
          cases hp : plainL z.cells.toList with
          | false => rw [hp] at hz; cases hz
          | true =>
            rw [hp] at hz
            obtain rfl := Option.some.inj hz
            have hrun : (execOp a.eval ⟨dst, .alloc t, type, pos, after, guard⟩).run P w = .ok (.value (.pointer (some ⟨w.heap.size, 0, none⟩))) { w with heap := w.heap.push (.cells z.cells t (0, 0)) } := by
              simp [execOp, Instr.alloc, zeroValue, run_typeInfo w hi, hzz, newVar, newRow]
            unfold Oper.wp
            rw [hrun, Oper.upon_value]
            obtain ⟨v, μ', H', k1, k2, k3, _, k5⟩ := new_sound inv (VRs.plain hp) t h
            exact hnext _ _ _ _ _ k1 k2 k3 k5
        · cases hz
      · cases hz
    · exact h.elim
  case box t x =>
    simp only [opE] at h
    split at h
    · rename_i zs hz
      have hv := cellsOf_sound (hρ x) hz
      have hrun : (execOp a.eval ⟨dst, .box t x, type, pos, after, guard⟩).run P w = .ok (.value (.pointer (some ⟨w.heap.size, 0, none⟩))) { w with heap := w.heap.push (.cells (a.eval x).cells t (0, 0)) } := by
        simp [execOp, Instr.box, newVar, newRow]
      unfold Oper.wp
      rw [hrun, Oper.upon_value]
      obtain ⟨v, μ', H', k1, k2, k3, _, k5⟩ := new_sound inv hv t h
      exact hnext _ _ _ _ _ k1 k2 k3 k5
    · exact h.elim
  case store t ad x =>
    simp only [opE] at h
    split at h
    · rename_i c H' hs
      unfold storeG at hs
      split at hs
      · rename_i b i j ha
        split at hs
        · rename_i C esz l m hg hm
          split at hs
          · rename_i cs hcs
            cases hlen : Nat.beq cs.length m with
            | false => rw [hlen] at hs; cases hs
            | true =>
              rw [hlen] at hs
              simp only [cond_true] at hs
              obtain rfl := Nat.eq_of_beq_eq_true hlen
              split at hs
              · rename_i y hy
                obtain ⟨rfl, rfl⟩ := Prod.mk.inj (Option.some.inj hs)
                cases hcond : (decide (i < l.length) && Nat.ble (j + cs.length) esz) with
                | false => rw [hcond] at h; exact h.elim
                | true =>
                  rw [hcond] at h
                  simp only [Bool.and_eq_true, decide_eq_true_eq, Nat.ble_eq] at hcond
                  have hpa := hρ ad
                  rw [ha] at hpa
                  generalize hq : a.eval ad = q at hpa
                  cases hpa with
                  | ptr hp =>
                    rename_i p
                    have hv := cellsOf_sound (hρ x) hcs
                    obtain ⟨p', hp', r⟩ := inv.hr.row _ _ _ _ _ hg
                    obtain rfl : p' = p := Option.some.inj (hp'.symm.trans hp)
                    obtain ⟨e1, e2⟩ := inv.hr.store (P := P) hg hp hcond.1 hcond.2 hy hv
                    have hsz : (a.eval x).cells.size = cs.length := by rw [← Array.length_toList]; exact hv.length
                    have hrun : (execOp a.eval ⟨dst, .store t ad x, type, pos, after, guard⟩).run P w = .ok .skip (w.setCells p'.blk (p'.base + i * esz + j) (a.eval x).cells.toList) := by
                      simp [execOp, hq, Instr.storeAt, Instr.sureAddr, storeVar, run_size hm, hsz, e1]
                    unfold Oper.wp
                    rw [hrun, Oper.upon_skip]
                    have hge : H0.length ≤ b := by
                      rcases Nat.lt_or_ge b H0.length with hlt | hge
                      · exfalso
                        rw [inv.oldH b hlt] at hg
                        rcases hro b with ⟨C', e', l', h', _⟩ | h' <;> rw [h'] at hg <;> cases hg
                      · exact hge
                    refine hnext undef undef μ _ _ (.tuple .nil) ⟨e2, below_setCells (inv.fresh b p' hge hp) _ _ _ inv.below, ?_, inv.oldμ, ?_, inv.fresh⟩ (fun _ _ h => h) h
                    · simp [hset_len]; exact inv.n0
                    · intro b' hb'
                      rw [hget_map _ rfl, hget_set_ne (by omega), inv.oldH b' hb']
                      rcases hro b' with ⟨C', e', l', h', _⟩ | h' <;> rw [h'] <;> rfl
              · cases hs
          · cases hs
        · cases hs
      · cases hs
    · exact h.elim
  case call c =>
    obtain ⟨callee, args, argTypes⟩ := c
    cases callee
    case value f =>
      simp only [opE] at h
      split at h
      · rename_i id first captured hf
        obtain ⟨⟨fn, cd, h1, h2, h3⟩, hm⟩ := hc _ _ _ _ h
        have hfr := hρ f
        rw [hf] at hfr
        generalize hq : a.eval f = q at hfr
        cases hfr with
        | func hl1 hl2 =>
          rename_i l1 m1 l1' m1'
          have hargs : VRs μ (args.toList.map ρ) (args.toList.map a.eval) := VRs.map ρ a.eval hρ _
          have hrun : (execOp a.eval ⟨dst, .call { callee := .value f, args, argTypes }, type, pos, after, guard⟩).run P w = .ok (.enter id ⟨l1' ++ (args.toList.map a.eval ++ m1')⟩) w := by
            simp only [execOp, resolve, hq, Deferred.ofValue, Sem.run_bind, Sem.run_pure, Result.andThen_ok, invoke, callFunc, run_program, h1, h2, h3, Bool.false_eq_true, if_false, Option.isNone_some]
            congr 2
            apply Array.toList_inj.1
            simp
          unfold Oper.wp
          rw [hrun, Oper.upon_enter]
          refine (hm μ w _ inv.hr (hl1.append (hargs.append hl2))).mono ?_
          rintro e w' ⟨r, r', μ', H', rfl, k1, k2, k3, k4, k5, k6, k7, k8⟩
          refine hnext r r' μ' H' w' k1 ⟨k2, inv.below.trans (k7.mono inv.below.size), Nat.le_trans inv.n0 k4, ?_, ?_, ?_⟩ k3 k8
          · intro b hb
            rw [← inv.oldμ b hb]
            have hbl : b < μ.length := by rw [inv.hr.len]; exact Nat.lt_of_lt_of_le hb inv.n0
            rw [List.getElem?_eq_getElem hbl]
            exact k3 b _ (List.getElem?_eq_getElem hbl)
          · intro b hb
            rw [k5 b (Nat.lt_of_lt_of_le hb inv.n0)]
            exact inv.oldH b hb
          · intro b p hb hp
            rcases Nat.lt_or_ge b H.length with hlt | hge
            · have hbl : b < μ.length := by rw [inv.hr.len]; exact hlt
              have := k3 b _ (List.getElem?_eq_getElem hbl)
              rw [hp] at this
              exact inv.fresh b p hb (by rw [List.getElem?_eq_getElem hbl, this])
            · exact Nat.le_trans inv.below.size (k6 b p hge hp)
      · exact h.elim
    case invoke r m => exact dflt h hnext
    case builtin b =>
      cases b
      case append =>
        simp only [opE] at h
        split at h
        · rename_i s x t t' ha hat
          obtain rfl : args = #[s, x] := by apply Array.toList_inj.1; simpa using ha
          obtain rfl : argTypes = #[t, t'] := by apply Array.toList_inj.1; simpa using hat
          cases htt : Nat.beq t t' with
          | false => rw [htt] at h; exact h.elim
          | true =>
            rw [htt] at h
            simp only [cond_true] at h
            obtain rfl := Nat.eq_of_beq_eq_true htt
            split at h
            · rename_i b2 j0 m c hx
              have hxr := hρ x
              rw [hx] at hxr
              obtain ⟨v', w', h1, h2⟩ := append_sound (t0 := type) hro inv (hρ s) hxr h (R := fun v' w' => next (a.put dst v') w') hnext
              have hrun : (execOp a.eval ⟨dst, .call { callee := .builtin .append, args := #[s, x], argTypes := #[t, t] }, type, pos, after, guard⟩).run P w = .ok (.value v') w' := by
                simp [execOp, resolve, invoke, builtin, h1]
              unfold Oper.wp
              rw [hrun, Oper.upon_value]
              exact h2
            · exact h.elim
        · exact h.elim
      all_goals exact dflt h hnext
  case range t x =>
    simp only [opE] at h
    split at h
    · rename_i s hu hx
      have hb := hρ x
      rw [hx] at hb
      generalize hq : a.eval x = q at hb
      cases hb
      have hrun : (execOp a.eval ⟨dst, .range t x, type, pos, after, guard⟩).run P w = .ok (.value (.pointer (some ⟨w.heap.size, 0, none⟩))) { w with heap := w.heap.push (.stringIter s 0) } := by
        simp [execOp, hq, Instr.range, run_underlying hu]
      unfold Oper.wp
      rw [hrun, Oper.upon_value]
      have hinv := inv.snoc (inv.hr.snocIter s 0) (Below.alloc' inv.below.size _) inv.below.size
      refine hnext _ _ _ _ _ ?_ hinv (mu_snoc _ _) h
      have hl : (μ ++ [(⟨w.heap.size, 0, 0, some 0⟩ : Place)])[H.length]? = some ⟨w.heap.size, 0, 0, some 0⟩ := by
        rw [← inv.hr.len]; simp
      have := VR.ptr (i := 0) (j := 0) hl
      simpa [Place.at] using this
    · exact h.elim
  case next it isS =>
    cases isS with
    | false => exact dflt h hnext
    | true =>
      simp only [opE] at h
      split at h
      · rename_i b hit
        have hb := hρ it
        rw [hit] at hb
        generalize hq : a.eval it = q at hb
        cases hb with
        | ptr hp =>
          rename_i p
          split at h
          · rename_i s o hg
            obtain ⟨p', hp', k1, k2⟩ := inv.hr.iter b s o hg
            obtain rfl : p' = p := Option.some.inj (hp'.symm.trans hp)
            have hat : p'.at 0 0 = ⟨p'.blk, 0, none⟩ := by unfold Place.at; rw [k2]; simp
            have hge : H0.length ≤ b := by
              rcases Nat.lt_or_ge b H0.length with hlt | hge
              · exfalso
                rw [inv.oldH b hlt] at hg
                rcases hro b with ⟨C', e', l', h', _⟩ | h' <;> rw [h'] at hg <;> cases hg
              · exact hge
            have hlt : p'.blk < w.heap.size := by
              rcases Nat.lt_or_ge p'.blk w.heap.size with h' | h'
              · exact h'
              · rw [Array.getElem?_eq_none h'] at k1; cases k1
            cases hpos : decide (o < s.size) with
            | true =>
              rw [hpos] at h
              have hpos' := of_decide_eq_true hpos
              have hrun : (execOp a.eval ⟨dst, .next it true, type, pos, after, guard⟩).run P w = .ok (.value (.tuple ⟨[.bool true, .int .i64 o, .int .i32 (Utf8.decode s o).1]⟩)) { w with heap := w.heap.setIfInBounds p'.blk (.stringIter s (o + (Utf8.decode s o).2)) } := by
                simp only [execOp, hq, hat, Instr.next, getObj, setObj, Sem.run_bind, Sem.run, k1, Result.andThen, hpos', if_true, Sem.run_pure]
                simp [goInt, Sem.run, k1]
              unfold Oper.wp
              rw [hrun, Oper.upon_value]
              refine hnext _ _ μ _ _ (.tuple (.cons (.bool _) (.cons (.int _ _) (.cons (.int _ _) .nil)))) (inv.step (inv.hr.setIter hg hp) ?_ (by rw [hset_len]; exact Nat.le_refl _) (fun _ _ => rfl) (fun b' hb' => hget_set_ne (by omega)) (fun b' q _ hq => .inl hq)) (fun _ _ h => h) h
              have hblk := inv.fresh b p' hge hp
              exact ⟨rfl, rfl, rfl, by simp, fun k hk => Array.getElem?_setIfInBounds_ne (by omega)⟩
            | false =>
              rw [hpos] at h
              have hpos' := of_decide_eq_false hpos
              have hrun : (execOp a.eval ⟨dst, .next it true, type, pos, after, guard⟩).run P w = .ok (.value (.tuple ⟨[.bool false]⟩)) w := by
                simp only [execOp, hq, hat, Instr.next, getObj, Sem.run_bind, Sem.run, k1, Result.andThen, hpos', if_false, Sem.run_pure]
                try rfl
              unfold Oper.wp
              rw [hrun, Oper.upon_value]
              exact hnext _ _ μ H w (.tuple (.cons (.bool _) .nil)) inv (fun _ _ h => h) h
          · exact h.elim
      · exact h.elim
  case buildSlice t len parts =>
    simp only [opE] at h
    split at h
    · rename_i e hu
      split at h
      · rename_i n1 zs hsz hz
        split at h
        · rename_i cl hcl
          cases hc2 : ((Nat.beq cl.length len && Nat.ble (len * (n1 + 1)) 16777216) && (Nat.beq zs.length (n1 + 1) && okAll (codecOf P e) raw cl)) with
          | false => rw [hc2] at h; exact h.elim
          | true =>
            rw [hc2] at h
            simp only [Bool.and_eq_true, Nat.ble_eq] at hc2
            obtain ⟨⟨q1, q2⟩, q3, q4⟩ := hc2
            obtain rfl := Nat.eq_of_beq_eq_true q1
            obtain ⟨z, e1, e2⟩ := run_zero (w := w) hz
            obtain ⟨pl, hpl⟩ := partsV_sound (μ := μ) (n := n1 + 1) hρ parts.toList 0 cl hcl
            have hsz2 : (sizeOf e).run P w = .ok (n1 + 1) w := run_size hsz
            obtain ⟨ns, k1, k2⟩ := hpl [] (((Array.range (cl.length * (n1 + 1))).map (z.cells[· % z.cells.size]!)).toList) (by simp) (by simp)
            have e7 : (parts.map fun (i, x) => (i, a.eval x)).toList = parts.toList.map fun (i, x) => (i, a.eval x) := by simp
            have hns : ns.length = cl.length * (n1 + 1) := by rw [k1.length]; exact flat_len (C := raw) pl
            have hrun : (execOp a.eval ⟨dst, .buildSlice t cl.length parts, type, pos, after, guard⟩).run P w = .ok (.value (.slice (some ⟨w.heap.size, 0, none⟩) cl.length cl.length)) { w with heap := w.heap.push (.cells ⟨ns⟩ e (0, 0)) } := by
              have hlim : ¬ (cl.length * (n1 + 1) > 2 ^ 24) := by omega
              by_cases h0 : cl.length = 0
              · have hz0 : cl.length * (n1 + 1) = 0 := by rw [h0]; simp
                have k3 := k2
                simp only [h0, Nat.zero_mul] at k3
                have hlim2 : ¬ ((0 : Nat) > 2 ^ 24) := by omega
                simp only [execOp, Instr.buildSlice, Sem.run_bind, run_underlying hu, Result.andThen_ok, hsz2, hlim2, if_false, hz0, if_true, Sem.run_pure, e7]
                have : (Array.map (fun x : Nat => (#[] : Array Value)[x % (#[] : Array Value).size]!) (Array.range 0)) = ⟨[] ++ ((Array.range 0).map (z.cells[· % z.cells.size]!)).toList⟩ := by simp
                rw [this, k3]
                simp [newRow, h0]
              · have hz0 : ¬ (cl.length * (n1 + 1) = 0) := fun hh => h0 (by
                  rcases Nat.mul_eq_zero.1 hh with hh | hh
                  · exact hh
                  · cases hh)
                have e8 : (⟨[] ++ ((Array.range (cl.length * (n1 + 1))).map (z.cells[· % z.cells.size]!)).toList⟩ : Array Value) = (Array.range (cl.length * (n1 + 1))).map (z.cells[· % z.cells.size]!) := by
                  apply Array.toList_inj.1; simp
                rw [e8] at k2
                simp only [execOp, Instr.buildSlice, Sem.run_bind, run_underlying hu, Result.andThen_ok, hsz2, hlim, if_false, hz0, e1, Sem.run_pure, e7, k2]
                simp [newRow]
            unfold Oper.wp
            rw [hrun, Oper.upon_value]
            have hlens : ∀ y ∈ asC (codecOf P e) raw cl, ((codecOf P e).enc y).length = n1 + 1 := as_lens q4 pl
            have hfr := inv.hr.freshRow (C := codecOf P e) (ys := asC (codecOf P e) raw cl) hlens (by rw [flat_as q4]; exact k1) [] e
            rw [List.append_nil] at hfr
            refine hnext _ _ _ _ _ ?_ (inv.snoc hfr (Below.alloc' inv.below.size _) inv.below.size) (mu_snoc _ _) h
            have hl : (μ ++ [(⟨w.heap.size, 0, n1 + 1, some (ns.length + ([] : List Value).length)⟩ : Place)])[H.length]? = some ⟨w.heap.size, 0, n1 + 1, some (ns.length + ([] : List Value).length)⟩ := by
              rw [← inv.hr.len]; simp
            have := VR.slice (i := 0) (n := cl.length) (c := cl.length) (c' := cl.length) hl (Nat.le_refl _) (fun L hL => by
              simp only [Option.some.injEq, List.length_nil, Nat.add_zero] at hL
              rw [← hL, hns, Nat.zero_add]
              exact Nat.le_refl _)
            simpa [Place.at] using this
        · exact h.elim
      · exact h.elim
    · exact h.elim
  all_goals exact dflt h hnext

/-- Every temporary that is written is one of the frame's. -/
def wfOps (n : Nat) : List Oper → Bool
  | [] => true
  | o :: r => (match o.dst with | some d => Nat.blt d n | none => true) && wfOps n r

theorem wfOps_cons {o : Oper} {r : List Oper} (h : wfOps n (o :: r) = true) : (∀ d, o.dst = some d → d < n) ∧ wfOps n r = true := by
  simp only [wfOps, Bool.and_eq_true] at h
  refine ⟨fun d hd => ?_, h.2⟩
  have := h.1
  rw [hd] at this
  exact Nat.le_of_ble_eq_true this

theorem lk_bool {μ : Mu} {fr : Fr} {H : VH} {a : Act} {w : World} (h : SR w0 μ0 H0 n μ fr H a w) {t : Nat} {b : Bool} (hl : lk fr t = .bool b) : a.tmps.getD t undef = .bool b := by
  have := h.fr t
  rw [hl] at this
  generalize a.tmps.getD t undef = q at this
  cases this
  rfl

theorem getD_some {xs : Array Value} {t : Nat} {v : Value} (h : xs.getD t undef = v) (hv : v ≠ undef) : xs[t]? = some v := by
  rw [Array.getD_eq_getD_getElem?] at h
  cases hx : xs[t]? with
  | none => rw [hx] at h; exact absurd h.symm hv
  | some u => rw [hx] at h; simpa using h

theorem dstOf_some {ops : Array Oper} {j t : Nat} (h : dstOf ops.toList j = some t) : (ops[j]?).bind (·.dst) = some t := by
  unfold dstOf at h
  split at h
  · rename_i o r hd
    have : ops.toList[j]? = some o := by
      have := congrArg (·[0]?) hd
      simpa using this
    rw [Array.getElem?_toList] at this
    rw [this]
    exact h
  · cases h

theorem wanted_none {o : Oper} (ops : Array Oper) (a : Act) (h : o.guard = none) : Region.wanted o (yielded ops a.tmps) = true := by
  simp [Region.wanted, h]

theorem wanted_bool {μ : Mu} {fr : Fr} {H : VH} {a : Act} {w : World} (h : SR w0 μ0 H0 n μ fr H a w) {o : Oper} {ops : Array Oper} {j t : Nat} {want b : Bool} (hg : o.guard = some (j, want))
    (hd : dstOf ops.toList j = some t) (hl : lk fr t = .bool b) : Region.wanted o (yielded ops a.tmps) = (b == want) := by
  have h1 := getD_some (lk_bool h hl) (by intro hh; cases hh)
  simp [Region.wanted, hg, yielded, dstOf_some hd, h1]

theorem wanted_undef {μ : Mu} {fr : Fr} {H : VH} {a : Act} {w : World} (h : SR w0 μ0 H0 n μ fr H a w) {o : Oper} {ops : Array Oper} {j t : Nat} {want : Bool} (hg : o.guard = some (j, want))
    (hd : dstOf ops.toList j = some t) (hl : lk fr t = .tuple ⟨[]⟩) : Region.wanted o (yielded ops a.tmps) = false := by
  have h1 := h.fr t
  rw [hl] at h1
  have h2 : a.tmps.getD t undef = undef := by
    generalize a.tmps.getD t undef = q at h1
    cases h1 with
    | tuple hv => cases hv; rfl
  have h3 : ∀ b, a.tmps[t]? ≠ some (.bool b) := fun b hb => by
    rw [Array.getD_eq_getD_getElem?, hb] at h2
    cases h2
  simp only [Region.wanted, hg, yielded, dstOf_some hd, Option.bind_some]
  cases hx : a.tmps[t]? with
  | none => rfl
  | some v =>
    cases v <;> first | rfl | exact absurd hx (h3 _)

/-- What is asked behind a list of operations, or behind code. -/
def After (w0 : World) (μ0 : Mu) (H0 : VH) (n : Nat) (K : Fr → VH → Prop) (a : Act) (w : World) : Prop :=
  ∃ (fr : Fr) (H : VH) (μ : Mu), SR w0 μ0 H0 n μ fr H a w ∧ K fr H

theorem opsP_sound (hc : CallOk P call) (hro : Ro H0) {ops : Array Oper} {K : Fr → VH → Prop} {Q : Exit → Act → World → Prop}
    (hQ : ∀ a w, After w0 μ0 H0 n K a w → Q .normal a w) : ∀ (l : List Oper) (fr : Fr) (H : VH) (μ : Mu) (a : Act) (w : World), wfOps n l = true →
    opsP P call ops.toList K l fr H → SR w0 μ0 H0 n μ fr H a w → wpList P ops Q l a w
  | [], fr, H, μ, a, w, _, h, sr => hQ a w ⟨fr, H, μ, sr, h⟩
  | o :: rest, fr, H, μ, a, w, hwf, h, sr => by
    obtain ⟨hd, hwf'⟩ := wfOps_cons hwf
    -- the operation is carried out
    have go : ∀ (fr : Fr), SR w0 μ0 H0 n μ fr H a w → opE P call (ev fr) H (fun v H => opsP P call ops.toList K rest (PM.put o.dst v fr) H) o.op → o.wp P a w (wpList P ops Q rest) Q :=
      fun fr sr h => opE_sound hc hro o sr.inv (ev_sound sr.fr) h fun v v' μ' H' w' k1 k2 k3 k4 =>
        opsP_sound hc hro hQ rest _ H' μ' _ w' hwf' k4 ((sr.later k2 k3).put k1 hd)
    -- it is passed over
    have skip : ∀ (fr : Fr), SR w0 μ0 H0 n μ fr H a w → opsP P call ops.toList K rest (PM.put o.dst undef fr) H → wpList P ops Q rest (a.put o.dst undef) w :=
      fun fr sr h => opsP_sound hc hro hQ rest _ H μ _ w hwf' h (sr.put (.tuple .nil) hd)
    unfold opsP at h
    unfold wpList
    split at h
    · rename_i hg
      rw [wanted_none ops a hg, if_pos rfl]
      exact .inl (go fr sr h)
    · rename_i j want hg
      split at h
      · exact h.elim
      · rename_i t ht
        split at h
        · rename_i b hb
          rw [wanted_bool sr hg ht hb]
          cases b with
          | true =>
            have sr' := sr.lit hb
            cases want with
            | true => exact .inl (go _ sr' h)
            | false => exact skip _ sr' h
          | false =>
            have sr' := sr.lit hb
            cases want with
            | true => exact skip _ sr' h
            | false => exact .inl (go _ sr' h)
        · rename_i hb
          rw [wanted_undef sr hg ht hb]
          exact skip fr sr h
        · exact h.elim

theorem silent_opE {op : Op} (hs : silent op = true) {ρ : Operand → Value} {H : VH} {K : Value → VH → Prop} (h : opE P call ρ H K op) : ∃ v, opV P ρ H op = some (true, v) ∧ K v H := by
  have key : (match opV P ρ H op with | some (c, v) => need c (K v H) | none => False) → ∃ v, opV P ρ H op = some (true, v) ∧ K v H := fun h => by
    split at h
    · rename_i c v hv
      cases c with
      | false => exact h.elim
      | true => exact ⟨v, hv, h⟩
    · exact h.elim
  cases op
  case call c =>
    obtain ⟨callee, args, argTypes⟩ := c
    cases callee with
    | value f => cases hs
    | invoke r m => cases hs
    | builtin b =>
      cases b
      case len => exact key h
      all_goals cases hs
  case range t x => cases hs
  case next it b => cases hs
  case buildSlice t l ps => cases hs
  case alloc t => cases hs
  case box t x => cases hs
  case store t a x => cases hs
  all_goals exact key h

theorem still_sound (hc : CallOk P call) {ops : Array Oper} {K : Fr → VH → Prop} {Qs : Act → Prop} {rest : List Oper} {H : VH} {μ : Mu} {w : World}
    (hQ : ∀ fr a, SR w0 μ0 H0 n μ fr H a w → opsP P call ops.toList K rest fr H → Qs a) : ∀ (l : List Oper) (fr : Fr) (a : Act), wfOps n l = true → (∀ o ∈ l, silent o.op = true) →
    opsP P call ops.toList K (l ++ rest) fr H → SR w0 μ0 H0 n μ fr H a w → wpStill P ops w Qs l a
  | [], fr, a, _, _, h, sr => hQ fr a sr h
  | o :: l, fr, a, hwf, hs, h, sr => by
    obtain ⟨hd, hwf'⟩ := wfOps_cons hwf
    have hso := hs o (by simp)
    have hs' : ∀ o ∈ l, silent o.op = true := fun o ho => hs o (by simp [ho])
    have go : ∀ (fr : Fr), SR w0 μ0 H0 n μ fr H a w → opE P call (ev fr) H (fun v H => opsP P call ops.toList K (l ++ rest) (PM.put o.dst v fr) H) o.op → o.still P a w (wpStill P ops w Qs l) :=
      fun fr sr h => by
        obtain ⟨v, hv, hk⟩ := silent_opE hso h
        obtain ⟨v', h1, h2⟩ := opV_sound o sr.inv.hr (ev_sound sr.fr) hv rfl
        unfold Oper.still
        rw [h1]
        exact ⟨rfl, still_sound hc hQ l _ _ hwf' hs' hk (sr.put h2 hd)⟩
    have skip : ∀ (fr : Fr), SR w0 μ0 H0 n μ fr H a w → opsP P call ops.toList K (l ++ rest) (PM.put o.dst undef fr) H → wpStill P ops w Qs l (a.put o.dst undef) :=
      fun fr sr h => still_sound hc hQ l _ _ hwf' hs' h (sr.put (.tuple .nil) hd)
    rw [List.cons_append] at h
    unfold opsP at h
    unfold wpStill
    split at h
    · rename_i hg
      rw [wanted_none ops a hg, if_pos rfl]
      exact go fr sr h
    · rename_i j want hg
      split at h
      · exact h.elim
      · rename_i t ht
        split at h
        · rename_i b hb
          rw [wanted_bool sr hg ht hb]
          cases b with
          | true =>
            have sr' := sr.lit hb
            cases want with
            | true => exact go _ sr' h
            | false => exact skip _ sr' h
          | false =>
            have sr' := sr.lit hb
            cases want with
            | true => exact skip _ sr' h
            | false => exact go _ sr' h
        · rename_i hb
          rw [wanted_undef sr hg ht hb]
          exact skip fr sr h
        · exact h.elim

theorem headLen_le : ∀ l : List Oper, headLen l ≤ l.length
  | [] => Nat.le_refl _
  | o :: r => by
    unfold headLen
    cases silent o.op
    · exact Nat.zero_le _
    · simpa using headLen_le r

theorem headLen_silent : ∀ (l : List Oper), ∀ o ∈ l.take (headLen l), silent o.op = true
  | [], o, h => by simp at h
  | x :: r, o, h => by
    unfold headLen at h
    cases hs : silent x.op with
    | false => rw [hs] at h; simp at h
    | true =>
      rw [hs] at h
      simp only [cond_true, List.take_succ_cons, List.mem_cons] at h
      rcases h with rfl | h
      · exact hs
      · exact headLen_silent r o h

theorem wfOps_append {l m : List Oper} (h : wfOps n (l ++ m) = true) : wfOps n l = true ∧ wfOps n m = true := by
  induction l with
  | nil => exact ⟨rfl, h⟩
  | cons o l ih =>
    simp only [List.cons_append, wfOps, Bool.and_eq_true] at h ⊢
    exact ⟨⟨h.1, (ih h.2).1⟩, (ih h.2).2⟩

/-! ### Regions whose order is drawn: what may be taken first -/
theorem VR.det0 {μ : Mu} {v a b : Value} (h : known0 v = true) (ha : VR μ v a) (hb : VR μ v b) : a = b := by
  unfold known0 at h
  split at h <;> first | (cases ha; cases hb; rfl; done) | skip
  · cases ha with
    | ptr h1 => cases hb with
      | ptr h2 =>
        obtain rfl := Option.some.inj (h1.symm.trans h2)
        rfl
  · cases h
theorem VRs.det0 {μ : Mu} : ∀ {l a b : List Value}, known0L l = true → VRs μ l a → VRs μ l b → a = b
  | _, _, _, _, .nil, .nil => rfl
  | _, _, _, h, .cons h1 h2, .cons h3 h4 => by
    simp only [known0L, Bool.and_eq_true] at h
    rw [VR.det0 h.1 h1 h3, VRs.det0 h.2 h2 h4]
theorem VR.det1 {μ : Mu} {v a b : Value} (h : known1 v = true) (ha : VR μ v a) (hb : VR μ v b) : a = b := by
  unfold known1 at h
  split at h
  · cases ha with
    | agg h1 => cases hb with
      | agg h2 => rw [VRs.det0 h h1 h2]
  · exact VR.det0 h ha hb
theorem VRs.det1 {μ : Mu} : ∀ {l a b : List Value}, known1L l = true → VRs μ l a → VRs μ l b → a = b
  | _, _, _, _, .nil, .nil => rfl
  | _, _, _, h, .cons h1 h2, .cons h3 h4 => by
    simp only [known1L, Bool.and_eq_true] at h
    rw [VR.det1 h.1 h1 h3, VRs.det1 h.2 h2 h4]
theorem VR.det {μ : Mu} {v a b : Value} (h : knownV v = true) (ha : VR μ v a) (hb : VR μ v b) : a = b := by
  unfold knownV at h
  split at h
  · cases ha with
    | tuple h1 => cases hb with
      | tuple h2 => rw [VRs.det1 h h1 h2]
  · exact VR.det1 h ha hb

theorem opV_congr {ρ : Operand → Value} {H H' : VH} (h : ∀ b, hget H b = hget H' b) (op : Op) : opV P ρ H op = opV P ρ H' op := by
  have e : hget H = hget H' := funext h
  unfold opV
  simp only [e]

theorem HR.deads (μ : Mu) (w : World) : HR μ (List.replicate μ.length .dead) w := by
  have hd : ∀ b, hget (List.replicate μ.length VB.dead) b = .dead := fun b => by
    generalize μ.length = n
    induction n generalizing b with
    | zero => rfl
    | succ n ih => cases b with
      | zero => rfl
      | succ b => exact ih b
  refine ⟨by simp, ?_, ?_, ?_, ?_⟩
  · intro b C e l m h; rw [hd] at h; cases h
  · intro b s p h; rw [hd] at h; cases h
  · intro b1 b2 C1 C2 e1 e2 l1 l2 m2 p1 p2 _ h; rw [hd] at h; cases h
  · intro b1 b2 s1 s2 o1 o2 p1 p2 _ h; rw [hd] at h; cases h

theorem HR.mask {μ : Mu} {H D : VH} {w : World} (h : HR μ H w) (hl : D.length = H.length) (hd : ∀ b, hget D b = hget H b ∨ hget D b = .dead) : HR μ D w := by
  have row : ∀ {b : Nat} {C : Codec} {e : Nat} {l : List C.α} {m : VMode}, hget D b = .row C e l m → hget H b = .row C e l m := fun {b C e l m} hg => by
    rcases hd b with h1 | h1
    · rw [← h1]; exact hg
    · rw [h1] at hg; cases hg
  have it : ∀ {b : Nat} {s : ByteArray} {o : Nat}, hget D b = .iter s o → hget H b = .iter s o := fun {b s o} hg => by
    rcases hd b with h1 | h1
    · rw [← h1]; exact hg
    · rw [h1] at hg; cases hg
  exact ⟨by rw [h.len, hl], fun b C e l m hg => h.row b C e l m (row hg), fun b s p hg => h.iter b s p (it hg),
    fun b1 b2 C1 C2 e1 e2 l1 l2 m2 p1 p2 hne g1 g2 => h.sep b1 b2 C1 C2 e1 e2 l1 l2 m2 p1 p2 hne (row g1) (row g2),
    fun b1 b2 s1 s2 o1 o2 p1 p2 hne g1 g2 => h.isep b1 b2 s1 s2 o1 o2 p1 p2 hne (it g1) (it g2)⟩

/-- A world in which all that is told still stands so. -/
def laterS (μ : Mu) (H : VH) (w : World) : Prop := ∃ (μ' : Mu) (H' : VH), Mu.le μ μ' ∧ Keeps H H' ∧ HR μ' H' w
def wholeS (wr : Bool) (μ : Mu) (H : VH) : World → Prop := match wr with | true => fun _ => True | false => laterS μ H

theorem opV_later {μ : Mu} {H : VH} {w : World} (o : Oper) {ρ ρ' : Operand → Value} (hs : laterS μ H w) (hρ : ∀ x, VR μ (ρ x) (ρ' x)) {v : Value} (h : opV P ρ H o.op = some (true, v)) :
    ∃ (v' : Value) (μ' : Mu), (execOp ρ' o).run P w = .ok (.value v') w ∧ Mu.le μ μ' ∧ VR μ' v v' := by
  obtain ⟨μ', H', h1, h2, h3⟩ := hs
  have hD : HR μ' (H ++ List.replicate (H'.length - H.length) .dead) w := by
    refine h3.mask (by simp; have := h2.1; omega) fun b => ?_
    rcases Nat.lt_or_ge b H.length with hb | hb
    · left
      rw [hget_append_lt hb, h2.2 b hb]
    · right
      obtain ⟨c, rfl⟩ : ∃ c, b = H.length + c := ⟨b - H.length, by omega⟩
      rw [hget_append_ge]
      generalize H'.length - H.length = n
      induction n generalizing c with
      | zero => rfl
      | succ n ih => cases c with
        | zero => rfl
        | succ c => exact ih c (by omega)
  have e : opV P ρ (H ++ List.replicate (H'.length - H.length) .dead) o.op = some (true, v) := by
    rw [← h]
    refine opV_congr (fun b => ?_) _
    rcases Nat.lt_or_ge b H.length with hb | hb
    · exact hget_append_lt hb
    · obtain ⟨c, rfl⟩ : ∃ c, b = H.length + c := ⟨b - H.length, by omega⟩
      rw [hget_append_ge, hget_len (H := H) (by omega)]
      generalize H'.length - H.length = n
      induction n generalizing c with
      | zero => rfl
      | succ n ih => cases c with
        | zero => rfl
        | succ c => exact ih c (by omega)
  obtain ⟨v', k1, k2⟩ := opV_sound o hD (fun x => (hρ x).mono h1) e rfl
  exact ⟨v', μ', k1, h1, k2⟩

theorem opV_dead {μ : Mu} (w : World) (o : Oper) {ρ ρ' : Operand → Value} (hρ : ∀ x, VR μ (ρ x) (ρ' x)) {v : Value} (h : opV P ρ [] o.op = some (true, v)) :
    ∃ v' : Value, (execOp ρ' o).run P w = .ok (.value v') w ∧ VR μ v v' := by
  refine opV_sound o (HR.deads μ w) hρ (c := true) ?_ rfl
  rw [← h]
  refine opV_congr (fun b => ?_) _
  generalize μ.length = n
  induction n generalizing b with
  | zero => rfl
  | succ n ih => cases b with
    | zero => rfl
    | succ b => exact ih b

theorem moves_run {o : Oper} (hm : movesOp o.op = true) {ρ : Operand → Value} {v : Value} {w : World} (h : (execOp ρ o).run P w = .ok (.value v) w) (w2 : World) : (execOp ρ o).run P w2 = .ok (.value v) w2 := by
  obtain ⟨dst, op, type, pos, after, guard⟩ := o
  cases op
  case move x => simp [execOp] at h ⊢; exact h
  case assign x => simp [execOp] at h ⊢; exact h
  case pick c a b =>
    generalize hq : ρ c = q at h
    cases q <;> first | (simp [execOp, hq, asBool] at h ⊢; done) | (simp [execOp, hq, asBool] at h ⊢; exact h)
  case extract x i =>
    generalize hq : ρ x = q at h
    cases q <;> first | (simp [execOp, hq, Instr.extract] at h ⊢; done) | (simp [execOp, hq, Instr.extract] at h ⊢; split at h <;> simp_all)
  all_goals cases hm
theorem silent_eq {op : Op} (hs : silent op = true) (ρ : Operand → Value) (H : VH) (K : Value → VH → Prop) : opE P call ρ H K op = (match opV P ρ H op with | some (c, v) => need c (K v H) | none => False) := by
  cases op
  case call c =>
    obtain ⟨callee, args, argTypes⟩ := c
    cases callee with
    | value f => cases hs
    | invoke r m => cases hs
    | builtin b =>
      cases b
      case len => rfl
      all_goals cases hs
  case range t x => cases hs
  case next it b => cases hs
  case buildSlice t l ps => cases hs
  case alloc t => cases hs
  case box t x => cases hs
  case store t a x => cases hs
  all_goals rfl

theorem need_map {b : Bool} {X Y : Prop} (h : need b X) (f : X → Y) : need b Y := by
  cases b
  · exact h.elim
  · exact f h

theorem newP_keeps {t : TypeId} {zs : List Value} {H : VH} {K : Value → VH → Prop} (h : newP P t zs H K) : newP P t zs H (fun v H' => Keeps H H' ∧ K v H') := by
  unfold newP at h ⊢
  split at h
  · exact need_map h fun h => ⟨Keeps.snoc _ _, h⟩
  · split at h
    · exact need_map h fun h => ⟨Keeps.snoc _ _, h⟩
    · exact ⟨Keeps.snoc _ _, h⟩

def meetsC (P : Program) : FuncId → Spec := fun f args H K => callable P f ∧ Meets P f args H K
theorem meetsC_ok : CallOk P (meetsC P) := fun _ _ _ _ h => h

theorem opE_keeps (hc : CallOk P call) {op : Op} (ht : tameOp op = true) {ρ : Operand → Value} {H : VH} {K : Value → VH → Prop} (h : opE P call ρ H K op) :
    opE P (meetsC P) ρ H (fun v H' => Keeps H H' ∧ K v H') op := by
  cases hs : silent op with
  | true =>
    obtain ⟨v, h1, h2⟩ := silent_opE hs h
    rw [silent_eq hs, h1]
    exact ⟨Keeps.refl H, h2⟩
  | false =>
    cases op
    case alloc t =>
      simp only [opE] at h ⊢
      split at h
      · exact newP_keeps h
      · exact h.elim
    case box t x =>
      simp only [opE] at h ⊢
      split at h
      · exact newP_keeps h
      · exact h.elim
    case buildSlice t l ps =>
      simp only [opE] at h ⊢
      split at h
      · split at h
        · split at h
          · exact need_map h fun h => ⟨Keeps.snoc _ _, h⟩
          · exact h.elim
        · exact h.elim
      · exact h.elim
    case range t x =>
      simp only [opE] at h ⊢
      split at h
      · exact ⟨Keeps.snoc _ _, h⟩
      · exact h.elim
    case call c =>
      obtain ⟨callee, args, argTypes⟩ := c
      cases callee with
      | value f =>
        simp only [opE] at h ⊢
        split at h
        · obtain ⟨h1, h2⟩ := hc _ _ _ _ h
          refine ⟨h1, fun μ w args' hr ha => (h2 μ w args' hr ha).mono ?_⟩
          rintro e w' ⟨r, r', μ', H', k1, k2, k3, k4, k5, k6, k7, k8, k9⟩
          exact ⟨r, r', μ', H', k1, k2, k3, k4, k5, k6, k7, k8, ⟨k5, k6⟩, k9⟩
        · exact h.elim
      | invoke r m => cases ht
      | builtin b => cases b <;> first | (cases ht; done) | (cases hs; done)
    all_goals first | (cases ht; done) | (cases hs; done)

/-- The listed ones are listed with all that they wait for. -/
def Closed (ops : Array Oper) (listed : Array Bool) : Prop := ∀ j oj, ops[j]? = some oj → listed.getD j false = true → ∀ e ∈ oj.after, Region.binds .any e = true → listed.getD e.on false = true
def noneOf (wrs : List Nat) (listed : Array Bool) : Prop := ∀ s ∈ wrs, listed.getD s false = false

theorem Closed.set {ops : Array Oper} {listed : Array Bool} {i : Nat} (h : Closed ops listed) (hi : i ∈ Region.ready .any ops listed) : Closed ops (listed.setIfInBounds i true) := by
  obtain ⟨_, oi, hoi, hall⟩ := mem_ready.1 hi
  intro j oj hj hl e he hb
  by_cases hij : i = j
  · subst hij
    have : oj = oi := Option.some.inj (hj.symm.trans hoi)
    subst this
    exact getD_set_true (hall e he hb)
  · rw [getD_set_ne false hij] at hl
    exact getD_set_true (h j oj hj hl e he hb)

theorem waits_closed {ops : Array Oper} {listed : Array Bool} (hc : Closed ops listed) : ∀ (n s i : Nat), waitsB ops n s i = true → listed.getD s false = true → listed.getD i false = true
  | 0, _, _, h, _ => by cases h
  | n + 1, s, i, h, hs => by
    unfold waitsB at h
    split at h
    · rename_i o ho
      obtain ⟨e, he, hb⟩ := List.any_eq_true.1 h
      simp only [Bool.and_eq_true, Bool.or_eq_true] at hb
      have h1 := hc s o ho hs e (by simpa using he) hb.1
      rcases hb.2 with h2 | h2
      · rw [← Nat.eq_of_beq_eq_true h2]; exact h1
      · exact waits_closed hc n e.on i h2 h1
    · cases h

/-- Whatever order is picked from here on, and S holds until one that may write has come up. -/
def wpAnyG (P : Program) (ops : Array Oper) (Q : Exit → Act → World → Prop) (wrs : List Nat) (S : World → Prop) : Nat → Array Bool → Act → World → Prop
  | 0, listed, a, w => Region.ready .any ops listed = [] ∧ Q .normal a w
  | fuel + 1, listed, a, w =>
    (Region.ready .any ops listed = [] → Q .normal a w) ∧
    ∀ i ∈ Region.ready .any ops listed, wpOp P ops Q i (fun a' w' => (noneOf wrs (listed.setIfInBounds i true) → S w') ∧ wpAnyG P ops Q wrs S fuel (listed.setIfInBounds i true) a' w') a w

theorem wpAny_of_G {ops : Array Oper} {Q : Exit → Act → World → Prop} {wrs : List Nat} {S : World → Prop} : ∀ (fuel : Nat) (listed : Array Bool) (a : Act) (w : World),
    wpAnyG P ops Q wrs S fuel listed a w → wpAny P .any ops Q fuel listed a w
  | 0, _, _, _, h => h
  | fuel + 1, _, _, _, h => ⟨h.1, fun i hi => wpOp_mono (fun a' w' h' => wpAny_of_G fuel _ a' w' h'.2) (h.2 i hi)⟩

theorem wpAnyG_weaken {ops : Array Oper} {Q : Exit → Act → World → Prop} {wrs : List Nat} {S T : World → Prop} : ∀ (fuel : Nat) (listed : Array Bool) (a : Act) (w : World),
    (noneOf wrs listed → ∀ w, S w → T w) → wpAnyG P ops Q wrs S fuel listed a w → wpAnyG P ops Q wrs T fuel listed a w
  | 0, _, _, _, _, h => h
  | fuel + 1, listed, _, _, hST, h => ⟨h.1, fun i hi => wpOp_mono (fun a' w' h' => by
      have hn : noneOf wrs (listed.setIfInBounds i true) → noneOf wrs listed := fun hn s hs => by
        have := hn s hs
        cases hl : listed.getD s false with
        | false => rfl
        | true => rw [getD_set_true hl] at this; cases this
      exact ⟨fun hh => hST (hn hh) _ (h'.1 hh), wpAnyG_weaken fuel _ a' w' (fun hh => hST (hn hh)) h'.2⟩) (h.2 i hi)⟩

theorem listed_not {listed : Array Bool} {i : Nat} (h : listed.getD i true = false) : listed.getD i false = false := by
  rcases Nat.lt_or_ge i listed.size with h' | h'
  · simp [h'] at h ⊢; exact h
  · simp [Array.getElem?_eq_none h'] at h

/-- One that may come up now is taken first. -/
theorem wpAnyG_first {ops : Array Oper} {Q : Exit → Act → World → Prop} {wrs : List Nat} {S S0 : World → Prop} {i : Nat} {oi : Oper} {v : Value} (hi : ops[i]? = some oi) (hiw : i ∉ wrs)
    (hsel : ∀ (j : Nat) (o : Oper) cs b, ops[j]? = some o → o.op ≠ .select cs b) (hQ : ∀ c a w, Q (.panic c) (a.put oi.dst v) w → Q (.panic c) a w)
    (hS0 : ∀ (listed : Array Bool) (w : World), Closed ops listed → listed.getD i true = false → (noneOf wrs listed → S w) → S0 w) :
    ∀ (fuel : Nat) (listed : Array Bool) (a : Act) (w : World), Closed ops listed →
      (∀ j oj, ops[j]? = some oj → j ≠ i → listed.getD j true = false → (∀ e ∈ oj.after, Region.binds .any e = true → e.on ≠ i) → oi.apart ops oj = true) →
      i ∈ Region.ready .any ops listed → YieldsIf P ops S0 oi v a → (noneOf wrs listed → S w) →
      wpAnyG P ops Q wrs S fuel (listed.setIfInBounds i true) (a.put oi.dst v) w → wpAnyG P ops Q wrs S (fuel + 1) listed a w := by
  have sub : ∀ (listed : Array Bool) (j : Nat), noneOf wrs (listed.setIfInBounds j true) → noneOf wrs listed := fun listed j hn s hs => by
    have := hn s hs
    cases hl : listed.getD s false with
    | false => rfl
    | true => rw [getD_set_true hl] at this; cases this
  intro fuel
  induction fuel with
  | zero =>
    intro listed a w hcl _ hr hy hS H
    refine ⟨fun h => (by rw [h] at hr; cases hr), fun j hj => ?_⟩
    by_cases hji : j = i
    · subst hji
      exact hy.wpOp hi (hS0 listed w hcl (mem_ready.1 hr).1 hS) ⟨fun hn => hS (sub _ _ hn), H⟩
    · have := ready_mono hj hji
      rw [H.1] at this
      cases this
  | succ fuel ih =>
    intro listed a w hcl hfree hr hy hS H
    refine ⟨fun h => (by rw [h] at hr; cases hr), fun j hj => ?_⟩
    by_cases hji : j = i
    · subst hji
      exact hy.wpOp hi (hS0 listed w hcl (mem_ready.1 hr).1 hS) ⟨fun hn => hS (sub _ _ hn), H⟩
    · have h1 := H.2 j (ready_mono hj hji)
      obtain ⟨hjun, oj, hoj, hall⟩ := mem_ready.1 hj
      have hnot : ∀ e ∈ oj.after, Region.binds .any e = true → e.on ≠ i := fun e he hb heq => by
        have h1 := hall e he hb
        have h0 := (mem_ready.1 hr).1
        rw [heq] at h1
        rw [listed_not h0] at h1
        cases h1
      have h2 := wpOp_putIf hoj (hfree j oj hoj hji hjun hnot) (fun cs b => hsel i oi cs b hi) (fun cs b => hsel j oj cs b hoj) hQ hy h1
      have hfree' : ∀ k ok, ops[k]? = some ok → k ≠ i → (listed.setIfInBounds j true).getD k true = false →
          (∀ e ∈ ok.after, Region.binds .any e = true → e.on ≠ i) → oi.apart ops ok = true := fun k ok hk hki hun hno => by
        refine hfree k ok hk hki ?_ hno
        by_cases hjk : j = k
        · subst hjk; exact hjun
        · rw [getD_set_ne true hjk] at hun; exact hun
      refine wpOp_mono (fun a' w' h3 => ?_) h2
      have hb : noneOf wrs (listed.setIfInBounds j true) → S w' := fun hn => h3.2.1 fun s hs => by
        rw [Array.setIfInBounds_comm _ _ (Ne.symm hji)]
        have hne : i ≠ s := fun hh => by subst hh; exact hiw hs
        rw [getD_set_ne false hne]
        exact hn s hs
      refine ⟨hb, ih (listed.setIfInBounds j true) a' w' (hcl.set hj) hfree' (ready_mono hr (Ne.symm hji)) h3.1 hb ?_⟩
      rw [Array.setIfInBounds_comm _ _ hji]
      exact h3.2.2

theorem wholeS_now {μ : Mu} {H : VH} {w : World} (h : HR μ H w) : laterS μ H w := ⟨μ, H, fun _ _ h => h, Keeps.refl H, h⟩
theorem laterS_mono {μ μ' : Mu} {H H' : VH} (hm : Mu.le μ μ') (hk : Keeps H H') (w : World) (h : laterS μ' H' w) : laterS μ H w := by
  obtain ⟨μ2, H2, k1, k2, k3⟩ := h
  exact ⟨μ2, H2, fun b p hp => k1 b p (hm b p hp), hk.trans k2, k3⟩

theorem drop_get {l : List Oper} {k : Nat} {o : Oper} {r : List Oper} (h : l.drop k = o :: r) : l[k]? = some o := by
  have := congrArg (·[0]?) h
  simpa using this

theorem wf_mem {l : List Oper} (h : wfOps n l = true) : ∀ o ∈ l, ∀ d, o.dst = some d → d < n := by
  induction l with
  | nil => intro x hx; cases hx
  | cons o r ih =>
    intro x hx d hd
    obtain ⟨h1, h2⟩ := wfOps_cons h
    rcases List.mem_cons.1 hx with rfl | hx
    · exact h1 d hd
    · exact ih h2 x hx d hd
theorem writers_mem : ∀ {l : List Oper} {k i : Nat} {o : Oper}, l[i]? = some o → tameOp o.op = false → k + i ∈ writersL k l
  | x :: l, k, 0, o, h, ht => by
    simp at h
    subst h
    simp [writersL, ht]
  | x :: l, k, i + 1, o, h, ht => by
    have := writers_mem (k := k + 1) (l := l) (i := i) (by simpa using h) ht
    rw [show k + (i + 1) = k + 1 + i by omega]
    unfold writersL
    cases tameOp x.op
    · exact List.mem_cons_of_mem _ this
    · exact this
  | [], k, i, o, h, ht => by simp at h

theorem opsD_sound (hc : CallOk P call) (hro : Ro H0) {ops : Array Oper} {wrs : List Nat} {K : Fr → VH → Prop} {Q : Exit → Act → World → Prop}
    (hQ : ∀ a w, After w0 μ0 H0 n K a w → Q .normal a w) (hp : ∀ c a w, ¬ Q (.panic c) a w) (ns : Region.noSelect ops = true) (hwf : wfOps n ops.toList = true)
    (ht : ∀ i o, ops[i]? = some o → i ∉ wrs → tameOp o.op = true) : ∀ (l : List Nat) (listed : Array Bool) (fr : Fr) (H : VH) (μ : Mu) (a : Act) (w : World), schedFrom ops wrs l listed = true → Closed ops listed →
    opsD P call ops.toList K l fr H → SR w0 μ0 H0 n μ fr H a w → wpAnyG P ops Q wrs (laterS μ H) l.length listed a w
  | [], listed, fr, H, μ, a, w, hs, _, h, sr => by
    exact ⟨by simpa [schedFrom] using hs, hQ a w ⟨fr, H, μ, sr, h⟩⟩
  | i :: rest, listed, fr, H, μ, a, w, hs, hcl, h, sr => by
    unfold opsD at h
    split at h
    · exact h.elim
    · rename_i o r hdrop
      have hol := drop_get hdrop
      have ho : ops[i % 1000]? = some o := by rw [← Array.getElem?_toList]; exact hol
      have hmem : o ∈ ops.toList := List.mem_of_getElem? hol
      have hd := wf_mem hwf o hmem
      unfold schedFrom at hs
      rw [Bool.and_eq_true] at hs
      obtain ⟨hs1, hs2⟩ := hs
      have ih := fun fr H μ a w hcl => opsD_sound hc hro hQ hp ns hwf ht rest (listed.setIfInBounds (i % 1000) true) fr H μ a w hs2 hcl
      -- the only one
      have only : i / 1000 = 1 → Region.ready .any ops listed = [i % 1000] := fun hk => by
        rw [hk] at hs1
        simp only at hs1
        split at hs1
        · rename_i j hj
          rw [hj, Nat.eq_of_beq_eq_true hs1]
        · cases hs1
      -- one that is taken first
      have eager : i / 1000 ≠ 1 → i % 1000 ∉ wrs ∧ (i / 1000 ≠ 0 → ∀ s ∈ wrs, waitsB ops 12 s (i % 1000) = true) ∧ (Region.ready .any ops listed).contains (i % 1000) = true ∧ Region.free .any ops listed (i % 1000) = true := fun hk => by
        split at hs1
        · contradiction
        · rename_i h0
          simp only [Bool.and_eq_true, Bool.not_eq_true', List.contains_eq_mem, decide_eq_false_iff_not, decide_eq_true_eq] at hs1
          exact ⟨hs1.1, fun hh => absurd h0 hh, by simpa using hs1.2.1, hs1.2.2⟩
        · simp only [Bool.and_eq_true, Bool.not_eq_true', List.contains_eq_mem, decide_eq_false_iff_not, decide_eq_true_eq, List.all_eq_true] at hs1
          exact ⟨hs1.1.1, fun _ => hs1.1.2, by simpa using hs1.2.1, hs1.2.2⟩
      have free : ∀ (hk : i / 1000 ≠ 1) {S0 : World → Prop} {v : Value}, (i / 1000 ≠ 0 ∨ ∀ w, S0 w) → (∀ w, laterS μ H w → S0 w) → YieldsIf P ops S0 o v a →
          wpAnyG P ops Q wrs (laterS μ H) rest.length (listed.setIfInBounds (i % 1000) true) (a.put o.dst v) w → wpAnyG P ops Q wrs (laterS μ H) (rest.length + 1) listed a w := by
        intro hk S0 v h0 hS hy hgo
        obtain ⟨e1, e2, e3, e4⟩ := eager hk
        refine wpAnyG_first ho e1 (Region.noSelect_spec ns) (fun c a w h => absurd h (hp c _ w)) ?_ rest.length listed a w hcl (Region.free_spec ho e4) (by simpa using e3) hy (fun _ => wholeS_now sr.inv.hr) hgo
        intro listed' w' hcl' hun hS'
        rcases h0 with h0 | h0
        · refine hS _ (hS' fun s hs => ?_)
          cases hl : listed'.getD s false with
          | false => rfl
          | true =>
            have := waits_closed hcl' 12 s _ (e2 h0 s hs) hl
            rw [listed_not hun] at this
            cases this
        · exact h0 w'
      have hcl2 : i % 1000 ∈ Region.ready .any ops listed → Closed ops (listed.setIfInBounds (i % 1000) true) := fun hr => hcl.set hr
      have hready : i % 1000 ∈ Region.ready .any ops listed := by
        by_cases hk : i / 1000 = 1
        · rw [only hk]; exact List.mem_singleton.2 rfl
        · simpa using (eager hk).2.2.1
      -- it is carried out
      have go : ∀ (fr : Fr), SR w0 μ0 H0 n μ fr H a w → Region.wanted o (yielded ops a.tmps) = true →
          stepD P call (i / 1000) o (opsD P call ops.toList K rest) fr H → wpAnyG P ops Q wrs (laterS μ H) (rest.length + 1) listed a w := by
        intro fr sr hw h
        unfold stepD at h
        split at h
        · rename_i hk
          refine ⟨fun hh => (by rw [hh] at hready; cases hready), fun j hj => ?_⟩
          rw [only hk] at hj
          obtain rfl := List.mem_singleton.1 hj
          unfold wpOp
          simp only [ho, hw, if_true]
          left
          by_cases hwr : i % 1000 ∈ wrs
          · refine opE_sound hc hro o sr.inv (ev_sound sr.fr) h fun v v' μ' H' w' k1 k2 k3 k4 => ?_
            have hno : ¬ noneOf wrs (listed.setIfInBounds (i % 1000) true) := fun hn => by
              have h1 := hn _ hwr
              have h2 : (i % 1000) < listed.size := by
                have := (mem_ready.1 hready).1
                rcases Nat.lt_or_ge (i % 1000) listed.size with h' | h'
                · exact h'
                · simp [Array.getElem?_eq_none h'] at this
              simp [h2] at h1
            exact ⟨fun hn => absurd hn hno, wpAnyG_weaken _ _ _ _ (fun hn => absurd hn hno) (ih _ _ _ _ _ (hcl2 hready) k4 ((sr.later k2 k3).put k1 hd))⟩
          · refine opE_sound meetsC_ok hro o sr.inv (ev_sound sr.fr) (opE_keeps hc (ht _ o ho hwr) h) fun v v' μ' H' w' k1 k2 k3 k4 => ⟨fun _ => ⟨μ', H', k3, k4.1, k2.hr⟩, ?_⟩
            exact wpAnyG_weaken _ _ _ _ (fun _ => laterS_mono k3 k4.1) (ih _ _ _ _ _ (hcl2 hready) k4.2 ((sr.later k2 k3).put k1 hd))
        · rename_i m hk
          split at h
          · rename_i c v hv
            cases hcc : (c && (movesOp o.op || knownV v)) with
            | false => rw [hcc] at h; exact h.elim
            | true =>
              rw [hcc] at h
              simp only [Bool.and_eq_true, Bool.or_eq_true] at hcc
              obtain ⟨rfl, hdet⟩ := hcc
              have h : opsD P call ops.toList K rest (PM.put o.dst v fr) H := h
              split at hv
              · obtain ⟨v', k1, k2⟩ := opV_dead w o (ev_sound sr.fr) hv
                refine free hk (S0 := fun _ => True) (.inr fun _ => trivial) (fun _ _ => trivial) (.inl ⟨hw, fun w1 _ => ?_⟩) (ih _ _ _ _ _ (hcl2 hready) h (sr.put k2 hd))
                rcases hdet with hdet | hdet
                · exact moves_run hdet k1 w1
                · obtain ⟨v1, k3, k4⟩ := opV_dead w1 o (ev_sound sr.fr) hv
                  rw [k3, VR.det hdet k4 k2]
              · rename_i hk0
                obtain ⟨v', k1, k2⟩ := opV_sound o sr.inv.hr (ev_sound sr.fr) hv rfl
                refine free hk (S0 := laterS μ H) (.inl fun hh => hk0 hh) (fun _ h => h) (.inl ⟨hw, fun w1 hS => ?_⟩) (ih _ _ _ _ _ (hcl2 hready) h (sr.put k2 hd))
                rcases hdet with hdet | hdet
                · exact moves_run hdet k1 w1
                · obtain ⟨v1, μ1, k3, k4, k5⟩ := opV_later o hS (ev_sound sr.fr) hv
                  rw [k3, VR.det hdet k5 (k2.mono k4)]
          · exact h.elim
      -- it is passed over
      have skip : ∀ (fr : Fr), SR w0 μ0 H0 n μ fr H a w → Region.wanted o (yielded ops a.tmps) = false → opsD P call ops.toList K rest (PM.put o.dst undef fr) H →
          wpAnyG P ops Q wrs (laterS μ H) (rest.length + 1) listed a w := by
        intro fr sr hw h
        have hk := ih _ _ _ _ _ (hcl2 hready) h (sr.put (v := undef) (v' := undef) (.tuple .nil) hd)
        by_cases hk1 : i / 1000 = 1
        · refine ⟨fun hh => (by rw [hh] at hready; cases hready), fun j hj => ?_⟩
          rw [only hk1] at hj
          obtain rfl := List.mem_singleton.1 hj
          unfold wpOp
          simp only [ho, hw, Bool.false_eq_true, if_false]
          exact ⟨fun _ => wholeS_now sr.inv.hr, hk⟩
        · exact free hk1 (S0 := fun _ => True) (.inr fun _ => trivial) (fun _ _ => trivial) (.inr ⟨hw, rfl⟩) hk
      split at h
      · rename_i hg
        exact go fr sr (wanted_none ops a hg) h
      · rename_i j want hg
        split at h
        · exact h.elim
        · rename_i t ht
          split at h
          · rename_i b hb
            have hwd := wanted_bool sr hg ht hb
            cases b with
            | true =>
              have sr' := sr.lit hb
              cases want with
              | true => exact go _ sr' hwd h
              | false => exact skip _ sr' hwd h
            | false =>
              have sr' := sr.lit hb
              cases want with
              | true => exact skip _ sr' hwd h
              | false => exact go _ sr' hwd h
          · rename_i hb
            exact skip fr sr (wanted_undef sr hg ht hb) h
          · exact h.elim

abbrev allS' : World → Prop := fun _ => True
theorem oneD_zero (hc : CallOk P call) (hro : Ro H0) {ops : Array Oper} {Q : Exit → Act → World → Prop} (hp : ∀ c a w, ¬ Q (.panic c) a w) (ns : Region.noSelect ops = true) (hwf : wfOps n ops.toList = true)
    {i m : Nat} {listed : Array Bool} {k : Fr → VH → Prop} {fr : Fr} {H : VH} {μ : Mu} {a : Act} {w : World} (hcl : Closed ops listed) (hready : i ∈ Region.ready .any ops listed) (hfree : Region.free .any ops listed i = true)
    (ih : ∀ (fr : Fr) (H : VH) (μ : Mu) (a : Act) (w : World), k fr H → SR w0 μ0 H0 n μ fr H a w → wpAnyG P ops Q [] allS' m (listed.setIfInBounds i true) a w)
    (h : oneD P call ops.toList 0 i k fr H) (sr : SR w0 μ0 H0 n μ fr H a w) : wpAnyG P ops Q [] allS' (m + 1) listed a w := by
  unfold oneD at h
  split at h
  · exact h.elim
  · rename_i o r hdrop
    have hol := drop_get hdrop
    have ho : ops[i]? = some o := by rw [← Array.getElem?_toList]; exact hol
    have hmem : o ∈ ops.toList := List.mem_of_getElem? hol
    have hd := wf_mem hwf o hmem
    have free : ∀ {v : Value}, YieldsIf P ops (fun _ => True) o v a → wpAnyG P ops Q [] allS' m (listed.setIfInBounds i true) (a.put o.dst v) w → wpAnyG P ops Q [] allS' (m + 1) listed a w := by
      intro v hy hgo
      exact wpAnyG_first (S0 := fun _ => True) ho (by simp) (Region.noSelect_spec ns) (fun c a w h => absurd h (hp c _ w)) (fun _ _ _ _ _ => trivial) m listed a w hcl (Region.free_spec ho hfree) hready hy (fun _ => trivial) hgo
    have go : ∀ (fr : Fr), SR w0 μ0 H0 n μ fr H a w → Region.wanted o (yielded ops a.tmps) = true → stepD P call 0 o k fr H → wpAnyG P ops Q [] allS' (m + 1) listed a w := by
      intro fr sr hw h
      unfold stepD at h
      simp only at h
      split at h
      · rename_i c v hv
        cases hcc : (c && (movesOp o.op || knownV v)) with
        | false => rw [hcc] at h; exact h.elim
        | true =>
          rw [hcc] at h
          simp only [Bool.and_eq_true, Bool.or_eq_true] at hcc
          obtain ⟨rfl, hdet⟩ := hcc
          have h : k (PM.put o.dst v fr) H := h
          obtain ⟨v', k1, k2⟩ := opV_dead w o (ev_sound sr.fr) hv
          refine free (.inl ⟨hw, fun w1 _ => ?_⟩) (ih _ _ _ _ _ h (sr.put k2 hd))
          rcases hdet with hdet | hdet
          · exact moves_run hdet k1 w1
          · obtain ⟨v1, k3, k4⟩ := opV_dead w1 o (ev_sound sr.fr) hv
            rw [k3, VR.det hdet k4 k2]
      · exact h.elim
    have skip : ∀ (fr : Fr), SR w0 μ0 H0 n μ fr H a w → Region.wanted o (yielded ops a.tmps) = false → k (PM.put o.dst undef fr) H → wpAnyG P ops Q [] allS' (m + 1) listed a w := by
      intro fr sr hw h
      exact free (.inr ⟨hw, rfl⟩) (ih _ _ _ _ _ h (sr.put (v := undef) (v' := undef) (.tuple .nil) hd))
    split at h
    · rename_i hg
      exact go fr sr (wanted_none ops a hg) h
    · rename_i j want hg
      split at h
      · exact h.elim
      · rename_i t ht
        split at h
        · rename_i b hb
          have hwd := wanted_bool sr hg ht hb
          cases b with
          | true =>
            have sr' := sr.lit hb
            cases want with
            | true => exact go _ sr' hwd h
            | false => exact skip _ sr' hwd h
          | false =>
            have sr' := sr.lit hb
            cases want with
            | true => exact skip _ sr' hwd h
            | false => exact go _ sr' hwd h
        · rename_i hb
          exact skip fr sr (wanted_undef sr hg ht hb) h
        · exact h.elim
theorem oneD_one (hc : CallOk P call) (hro : Ro H0) {ops : Array Oper} {Q : Exit → Act → World → Prop} (hwf : wfOps n ops.toList = true)
    {i m : Nat} {listed : Array Bool} {k : Fr → VH → Prop} {fr : Fr} {H : VH} {μ : Mu} {a : Act} {w : World}
    (ih : ∀ (fr : Fr) (H : VH) (μ : Mu) (a : Act) (w : World), k fr H → SR w0 μ0 H0 n μ fr H a w → wpAnyG P ops Q [] allS' m (listed.setIfInBounds i true) a w)
    (h : oneD P call ops.toList 1 i k fr H) (sr : SR w0 μ0 H0 n μ fr H a w) :
    wpOp P ops Q i (fun a' w' => (noneOf [] (listed.setIfInBounds i true) → allS' w') ∧ wpAnyG P ops Q [] allS' m (listed.setIfInBounds i true) a' w') a w := by
  unfold oneD at h
  split at h
  · exact h.elim
  · rename_i o r hdrop
    have hol := drop_get hdrop
    have ho : ops[i]? = some o := by rw [← Array.getElem?_toList]; exact hol
    have hmem : o ∈ ops.toList := List.mem_of_getElem? hol
    have hd := wf_mem hwf o hmem
    have go : ∀ (fr : Fr), SR w0 μ0 H0 n μ fr H a w → Region.wanted o (yielded ops a.tmps) = true → stepD P call 1 o k fr H →
        wpOp P ops Q i (fun a' w' => (noneOf [] (listed.setIfInBounds i true) → allS' w') ∧ wpAnyG P ops Q [] allS' m (listed.setIfInBounds i true) a' w') a w := by
      intro fr sr hw h
      unfold stepD at h
      simp only at h
      unfold wpOp
      simp only [ho, hw, if_true]
      left
      exact opE_sound hc hro o sr.inv (ev_sound sr.fr) h fun v v' μ' H' w' k1 k2 k3 k4 => ⟨fun _ => trivial, ih _ _ _ _ _ k4 ((sr.later k2 k3).put k1 hd)⟩
    have skip : ∀ (fr : Fr), SR w0 μ0 H0 n μ fr H a w → Region.wanted o (yielded ops a.tmps) = false → k (PM.put o.dst undef fr) H →
        wpOp P ops Q i (fun a' w' => (noneOf [] (listed.setIfInBounds i true) → allS' w') ∧ wpAnyG P ops Q [] allS' m (listed.setIfInBounds i true) a' w') a w := by
      intro fr sr hw h
      unfold wpOp
      simp only [ho, hw, Bool.false_eq_true, if_false]
      exact ⟨fun _ => trivial, ih _ _ _ _ _ h (sr.put (v := undef) (v' := undef) (.tuple .nil) hd)⟩
    split at h
    · rename_i hg
      exact go fr sr (wanted_none ops a hg) h
    · rename_i j want hg
      split at h
      · exact h.elim
      · rename_i t ht
        split at h
        · rename_i b hb
          have hwd := wanted_bool sr hg ht hb
          cases b with
          | true =>
            have sr' := sr.lit hb
            cases want with
            | true => exact go _ sr' hwd h
            | false => exact skip _ sr' hwd h
          | false =>
            have sr' := sr.lit hb
            cases want with
            | true => exact skip _ sr' hwd h
            | false => exact go _ sr' hwd h
        · rename_i hb
          exact skip fr sr (wanted_undef sr hg ht hb) h
        · exact h.elim
theorem fork_both {f : Nat → List Nat → Bool} {g : Nat → List Nat → Prop} : ∀ {m : Nat} {js l : List Nat}, forkOk f m js l = true → forkT g m l → ∀ j ∈ js, ∃ l', f j l' = true ∧ g j l'
  | 0, [], _, _, _, j, hj => by cases hj
  | m + 1, j0 :: js, i :: L :: r, h1, h2, j, hj => by
    simp only [forkOk, Bool.and_eq_true] at h1
    obtain ⟨e, h3, h4⟩ := h1
    have e := Nat.eq_of_beq_eq_true e
    subst e
    rcases List.mem_cons.1 hj with rfl | hj
    · exact ⟨_, h3, h2.1⟩
    · exact fork_both h4 h2.2 j hj
  | 0, _ :: _, _, h1, _, _, _ => by simp [forkOk] at h1
  | _ + 1, [], _, h1, _, _, _ => by simp [forkOk] at h1
  | _ + 1, _ :: _, [], h1, _, _, _ => by simp [forkOk] at h1
  | _ + 1, _ :: _, [_], h1, _, _, _ => by simp [forkOk] at h1
theorem opsT_sound (hc : CallOk P call) (hro : Ro H0) {ops : Array Oper} {K : Fr → VH → Prop} {Q : Exit → Act → World → Prop}
    (hQ : ∀ a w, After w0 μ0 H0 n K a w → Q .normal a w) (hp : ∀ c a w, ¬ Q (.panic c) a w) (ns : Region.noSelect ops = true) (hwf : wfOps n ops.toList = true) :
    ∀ (m : Nat) (l : List Nat) (listed : Array Bool) (fr : Fr) (H : VH) (μ : Mu) (a : Act) (w : World), treeOk ops m l listed = true → Closed ops listed →
    opsT P call ops.toList K m l fr H → SR w0 μ0 H0 n μ fr H a w → wpAnyG P ops Q [] allS' m listed a w
  | 0, [], listed, fr, H, μ, a, w, hs, _, h, sr => ⟨by simpa [treeOk] using hs, hQ a w ⟨fr, H, μ, sr, h⟩⟩
  | m + 1, [], listed, fr, H, μ, a, w, hs, _, h, sr => by
    have hr : Region.ready .any ops listed = [] := by simpa [treeOk] using hs
    exact ⟨fun _ => hQ a w ⟨fr, H, μ, sr, h⟩, fun i hi => by rw [hr] at hi; cases hi⟩
  | 0, c :: rest, listed, fr, H, μ, a, w, hs, _, h, sr => by simp [treeOk] at hs
  | m + 1, c :: rest, listed, fr, H, μ, a, w, hs, hcl, h, sr => by
    have ih := fun l listed fr H μ a w => opsT_sound hc hro hQ hp ns hwf m l listed fr H μ a w
    unfold treeOk at hs
    unfold opsT at h
    split at hs
    · rename_i hk
      rw [hk] at h
      simp only at h
      simp only [Bool.and_eq_true, Bool.not_eq_true'] at hs
      have hboth := fork_both hs.2 h
      have hne : Region.ready .any ops listed ≠ [] := fun e => by
        rw [e] at hs
        cases hm : c % 1000 with
        | zero => rw [hm] at hs; simp at hs
        | succ x => rw [hm] at hs; simp [forkOk] at hs
      refine ⟨fun e => absurd e hne, fun j hj => ?_⟩
      obtain ⟨l', t1, t2⟩ := hboth j hj
      exact oneD_one hc hro hwf (fun fr H μ a w hk sr => ih l' _ fr H μ a w t1 (hcl.set hj) hk sr) t2 sr
    · rename_i hk
      rw [hk] at h
      simp only at h
      simp only [Bool.and_eq_true] at hs
      have honly : Region.ready .any ops listed = [c % 1000] := by
        have h1 := hs.1
        split at h1
        · rename_i j hj
          rw [hj, Nat.eq_of_beq_eq_true h1]
        · cases h1
      refine ⟨fun e => (by rw [honly] at e; cases e), fun j hj => ?_⟩
      have hj' := hj
      rw [honly] at hj'
      obtain rfl := List.mem_singleton.1 hj'
      exact oneD_one hc hro hwf (fun fr H μ a w hk sr => ih rest _ fr H μ a w hs.2 (hcl.set hj) hk sr) h sr
    · rename_i hk
      rw [hk] at h
      simp only at h
      simp only [Bool.and_eq_true] at hs
      have hready : c % 1000 ∈ Region.ready .any ops listed := by simpa using hs.1.1
      exact oneD_zero hc hro hp ns hwf hcl hready hs.1.2 (fun fr H μ a w hk sr => ih rest _ fr H μ a w hs.2 (hcl.set hready) hk sr) h sr
    · cases hs
theorem tree_sound (hm : P.follows .mixedOrders = true) (hc : CallOk P call) (hro : Ro H0) {id : Nat} {l : List Nat} {ops : Array Oper} {K : Fr → VH → Prop} {Q : Exit → Act → World → Prop}
    (hQ : ∀ a w, After w0 μ0 H0 n K a w → Q .normal a w) {fr : Fr} {H : VH} {μ : Mu} {a : Act} {w : World} (hwf : wfOps n ops.toList = true)
    (h : need (Region.noSelect ops && treeOk ops ops.size l (Array.replicate ops.size false)) (opsT P call ops.toList K ops.size l fr H)) (sr : SR w0 μ0 H0 n μ fr H a w) : (Code.region id ops true).wp P Q a w := by
  cases hs : Region.noSelect ops && treeOk ops ops.size l (Array.replicate ops.size false) with
  | false => rw [hs] at h; exact h.elim
  | true =>
    rw [hs] at h
    have h : opsT P call ops.toList K ops.size l fr H := h
    simp only [Bool.and_eq_true] at hs
    refine wp_mono (Q := fun e a w => e = .normal ∧ After w0 μ0 H0 n K a w) (wp_region_any hm (wpAny_of_G (wrs := []) (S := allS') _ _ _ _ ?_)) ?_
    · refine opsT_sound hc hro (fun a w h => ⟨rfl, h⟩) (fun c a w h => by cases h.1) hs.1 hwf _ _ _ fr H μ a _ hs.2 ?_ h (sr.later sr.inv.drew (fun _ _ h => h))
      intro j oj hj hl
      rw [getD_replicate_false] at hl
      cases hl
    · rintro e a w ⟨rfl, h⟩
      exact hQ a w h

theorem drawn_sound (hm : P.follows .mixedOrders = true) (hc : CallOk P call) (hro : Ro H0) {id : Nat} {l : List Nat} {ops : Array Oper} {K : Fr → VH → Prop} {Q : Exit → Act → World → Prop}
    (hQ : ∀ a w, After w0 μ0 H0 n K a w → Q .normal a w) {fr : Fr} {H : VH} {μ : Mu} {a : Act} {w : World} (hwf : wfOps n ops.toList = true)
    (h : need (schedOk ops l) (opsD P call ops.toList K l fr H)) (sr : SR w0 μ0 H0 n μ fr H a w) : (Code.region id ops true).wp P Q a w := by
  cases hs : schedOk ops l with
  | false => rw [hs] at h; exact h.elim
  | true =>
    rw [hs] at h
    have h : opsD P call ops.toList K l fr H := h
    simp only [schedOk, Bool.and_eq_true] at hs
    obtain ⟨s1, s2, s3⟩ := hs
    have hlen : l.length = ops.size := Nat.eq_of_beq_eq_true s2
    refine wp_mono (Q := fun e a w => e = .normal ∧ After w0 μ0 H0 n K a w) (wp_region_any hm (wpAny_of_G (wrs := writersL 0 ops.toList) (S := laterS μ H) _ _ _ _ ?_)) ?_
    · rw [← hlen]
      refine opsD_sound hc hro (fun a w h => ⟨rfl, h⟩) (fun c a w h => by cases h.1) s1 hwf (fun i o ho hi => ?_) l _ fr H μ a _ ?_ ?_ h (sr.later sr.inv.drew (fun _ _ h => h))
      · cases htt : tameOp o.op with
        | true => rfl
        | false =>
          refine absurd ?_ hi
          have := writers_mem (k := 0) (l := ops.toList) (i := i) (by rw [Array.getElem?_toList]; exact ho) htt
          simpa using this
      · rw [hlen]
        exact s3
      · intro j oj hj hl
        rw [getD_replicate_false] at hl
        cases hl
    · rintro e a w ⟨rfl, h⟩
      exact hQ a w h

theorem region_sound (hm : P.follows .mixedOrders = true) (hc : CallOk P call) (hro : Ro H0) {id : Nat} {sched : Option (List Nat)} {ops : Array Oper} {draw : Bool} {K : Fr → VH → Prop} {Q : Exit → Act → World → Prop}
    (hQ : ∀ a w, After w0 μ0 H0 n K a w → Q .normal a w) {fr : Fr} {H : VH} {μ : Mu} {a : Act} {w : World} (hwf : wfOps n ops.toList = true)
    (h : regionP P call sched ops draw K fr H) (sr : SR w0 μ0 H0 n μ fr H a w) :
    (Code.region id ops draw).wp P Q a w := by
  unfold regionP at h
  cases draw with
  | false => exact wp_region_list (opsP_sound hc hro hQ ops.toList fr H μ a w hwf h sr)
  | true =>
    simp only [cond_true] at h
    split at h
    · rename_i l
      cases h7 : Nat.beq (l.headD 0) 7000 with
      | true => rw [h7] at h; exact tree_sound hm hc hro hQ hwf h sr
      | false => rw [h7] at h; exact drawn_sound hm hc hro hQ hwf h sr
    cases hd : drawOk ops with
    | false => rw [hd] at h; exact h.elim
    | true =>
      rw [hd] at h
      have h : opsP P call ops.toList K ops.toList fr H := h
      have sr1 : SR w0 μ0 H0 n μ fr H a { w with drawn := w.drawn + 1 } := sr.later sr.inv.drew (fun _ _ h => h)
      unfold drawOk at hd
      cases hl : Nat.beq (headLen ops.toList) ops.toList.length with
      | true =>
        rw [hl] at hd
        have hlen := Nat.eq_of_beq_eq_true hl
        refine wp_region_still hm hd ?_
        refine still_sound (rest := []) (K := K) (Qs := fun a' => Q .normal a' { w with drawn := w.drawn + 1 }) hc (fun fr' a' sr' hk => hQ _ _ ⟨fr', H, μ, sr', hk⟩) ops.toList fr a hwf ?_ (by simpa using h) sr1
        have := headLen_silent ops.toList
        rw [hlen, List.take_length] at this
        exact this
      | false =>
        rw [hl] at hd
        simp only [cond_false] at hd
        have e : ops = ops.toList.toArray := by simp
        have hsplit : ops.toList.take (headLen ops.toList) ++ ops.toList.drop (headLen ops.toList) = ops.toList := List.take_append_drop _ _
        have hwf2 := wfOps_append (n := n) (l := ops.toList.take (headLen ops.toList)) (m := ops.toList.drop (headLen ops.toList)) (by rw [hsplit]; exact hwf)
        have key : (Code.region id ops.toList.toArray true).wp P Q a w := by
          refine wp_region_still_tail (headLen ops.toList) hm (by rw [← e]; exact hd) ?_
          rw [← e]
          refine still_sound (rest := ops.toList.drop (headLen ops.toList)) (K := K) hc (fun fr' a' sr' hk => ?_) (ops.toList.take (headLen ops.toList)) fr a hwf2.1 (headLen_silent _) (by rw [hsplit]; exact h) sr1
          exact opsP_sound hc hro hQ _ fr' H μ a' _ hwf2.2 hk sr'
        rw [← e] at key
        exact key

/-! ### Code -/
def wfC (n : Nat) : Code → Bool
  | .region _ ops _ => wfOps n ops.toList
  | .seq a b => wfC n a && wfC n b
  | .cond _ a b => wfC n a && wfC n b
  | .block _ c => wfC n c
  | .loop c => wfC n c
  | .scope c => wfC n c
  | _ => true

def toExit : Ex → Exit
  | .normal => .normal
  | .exit id => .exit id
  | .ret => .ret

def QK (w0 : World) (μ0 : Mu) (H0 : VH) (n : Nat) (K : Kont) : Exit → Act → World → Prop :=
  fun e a w => ∃ e', e = toExit e' ∧ After w0 μ0 H0 n (K e') a w

theorem lk_keep (ts : List Nat) (fr : Fr) (t : Nat) : lk (ts.map fun t => (t, lk fr t)) t = lk fr t ∨ lk (ts.map fun t => (t, lk fr t)) t = junk := by
  induction ts with
  | nil => exact .inr rfl
  | cons u ts ih =>
    simp only [List.map_cons, lk]
    cases hb : Nat.beq u t with
    | true =>
      obtain rfl := Nat.eq_of_beq_eq_true hb
      exact .inl rfl
    | false => exact ih

theorem SR.keep {μ : Mu} {fr : Fr} {H : VH} {a : Act} {w : World} (h : SR w0 μ0 H0 n μ fr H a w) (o : Option (List Nat)) : SR w0 μ0 H0 n μ (keepF o fr) H a w := by
  cases o with
  | none => exact h
  | some ts =>
    refine ⟨h.inv, fun t => ?_, h.sz, h.df⟩
    rcases lk_keep ts fr t with h' | h'
    · simp only [keepF]; rw [h']; exact h.fr t
    · simp only [keepF]; rw [h']; exact .junk _

/-- What a part of a text is known to do, it does. -/
def CodeOk (P : Program) (n : Nat) (c : Code) (sp : LSpec) : Prop :=
  ∀ (w0 : World) (μ0 : Mu) (H0 : VH), Ro H0 → ∀ (fr : Fr) (H : VH) (K : Kont) (μ : Mu) (a : Act) (w : World), sp fr H K → SR w0 μ0 H0 n μ fr H a w → c.wp P (QK w0 μ0 H0 n K) a w

def TabOk (P : Program) (n : Nat) (tb : Tab) : Code → Prop
  | .seq a b => TabOk P n tb a ∧ (∀ sp, tb.joins (firstReg b) = some sp → CodeOk P n b sp) ∧ TabOk P n tb b
  | .cond _ a b => TabOk P n tb a ∧ TabOk P n tb b
  | .scope c => TabOk P n tb c
  | .block _ c => TabOk P n tb c
  | .loop c => (∀ sp, tb.loops (firstReg c) = some sp → CodeOk P n (.loop c) sp) ∧ TabOk P n tb c
  | _ => True

theorem lk_map (g : Value → Value) (hg : g junk = junk) : ∀ (fr : Fr) (t : Nat), lk (fr.map fun (t, v) => (t, g v)) t = g (lk fr t)
  | [], t => hg.symm
  | (u, v) :: r, t => by
    simp only [List.map_cons, lk]
    cases Nat.beq u t with
    | true => rfl
    | false => exact lk_map g hg r t

theorem lead_ge {H0 H : VH} (hro : Ro H0) (hle : H0.length ≤ H.length) (ho : ∀ b, b < H0.length → hget H b = hget H0 b) : H0.length ≤ leadRo H := by
  induction H0 generalizing H with
  | nil => exact Nat.zero_le _
  | cons a H0 ih =>
    cases H with
    | nil => simp at hle
    | cons x H =>
      have h0 : x = a := ho 0 (by simp)
      subst h0
      have ihh := ih (H := H) (fun b => hro (b + 1)) (by simpa using hle) (fun b hb => ho (b + 1) (by simpa using hb))
      have h1 := hro 0
      have hx : hget (x :: H0) 0 = x := rfl
      rw [hx] at h1
      rcases h1 with ⟨C, e, l, h1, _⟩ | h1 <;> subst h1 <;> simpa [leadRo] using ihh

/-- Another order of the blocks, by a frame. -/
theorem Inv.canon (hro : Ro H0) {μ : Mu} {H : VH} {w : World} (h : Inv w0 μ0 H0 μ H w) (fr : Fr) : ∃ μ', Inv w0 μ0 H0 μ' (canonH fr H) w ∧ ∀ v v', VR μ v v' → VR μ' (canonV fr H v) v' := by
  cases H with
  | nil => exact ⟨μ, h, fun _ _ h => h⟩
  | cons X H1 =>
    generalize hH : X :: H1 = H at h
    have e1 : ∀ v, canonV fr H v = ren2 (idxN (kept fr H)) v := fun v => by subst hH; rfl
    have e2 : canonH fr H = (kept fr H).map fun b => renB (idxN (kept fr H)) (hget H b) := by subst hH; rfl
    rw [e2]
    obtain ⟨k1, k2, r, k3⟩ := kept_ok fr H
    obtain ⟨p1, p2⟩ := h.hr.pick k1 k2 ⟨0, 0, 0, none⟩
    have hlead := lead_ge hro h.n0 h.oldH
    have hpre : ∀ b, b < H0.length → (kept fr H)[b]? = some b := fun b hb => by
      have hbl : b < leadRo H := Nat.lt_of_lt_of_le hb hlead
      rw [k3, List.getElem?_append_left (by simpa using hbl), List.getElem?_range hbl]
    have hlen : H0.length ≤ (kept fr H).length := by
      rw [k3]; simp; omega
    refine ⟨_, ⟨p1, h.below, by simpa using hlen, fun b hb => ?_, fun b hb => ?_, fun b p hb hp => ?_⟩, fun v v' hv => by rw [e1]; exact hv.ren2 p2⟩
    · have hbl : b < μ.length := by rw [h.hr.len]; exact Nat.lt_of_lt_of_le hb h.n0
      rw [List.getElem?_map, hpre b hb]
      simp only [Option.map_some, List.getD, List.getElem?_eq_getElem hbl, Option.getD_some]
      rw [← h.oldμ b hb, List.getElem?_eq_getElem hbl]
    · rw [hget_mapL, hpre b hb]
      simp only
      rw [h.oldH b hb]
      rcases hro b with ⟨C, e, l, hx, hfl⟩ | hx
      · rw [hx]; simp only [renB, hfl, cond_true]
      · rw [hx]; rfl
    · rw [List.getElem?_map] at hp
      obtain ⟨c, hc, rfl⟩ := Option.map_eq_some_iff.1 hp
      have hcl : c < μ.length := by rw [h.hr.len]; exact k1 c (List.mem_of_getElem? hc)
      simp only [List.getD, List.getElem?_eq_getElem hcl, Option.getD_some]
      refine h.fresh c _ ?_ (List.getElem?_eq_getElem hcl)
      rcases Nat.lt_or_ge c H0.length with hlt | hge
      · exfalso
        have := nodup_at k2 hc (hpre c hlt)
        omega
      · exact hge

theorem SR.canon (hro : Ro H0) {μ : Mu} {fr : Fr} {H : VH} {a : Act} {w : World} (h : SR w0 μ0 H0 n μ fr H a w) : ∃ μ', SR w0 μ0 H0 n μ' (canonFr fr H) (canonH fr H) a w := by
  obtain ⟨μ', h1, h2⟩ := h.inv.canon hro fr
  refine ⟨μ', h1, fun t => ?_, h.sz, h.df⟩
  have : lk (canonFr fr H) t = canonV fr H (lk fr t) := by
    cases H with
    | nil => rfl
    | cons X H1 => exact lk_map _ rfl fr t
  rw [this]
  exact h2 _ _ (h.fr t)

variable {hint : List (Nat × List Nat)} {tb : Tab} {m : Nat} {prev : Code → Fr → VH → Kont → Prop}

theorem runS_sound (hm : P.follows .mixedOrders = true) (hc : CallOk P call) (hro : Ro H0)
    (hprev : ∀ (c : Code) (fr : Fr) (H : VH) (K : Kont) (μ : Mu) (a : Act) (w : World), wfC n c = true → TabOk P n tb c → tb.loops (firstReg c) = none → prev (.loop c) fr H K → SR w0 μ0 H0 n μ fr H a w → Code.rounds P c (QK w0 μ0 H0 n K) m a w) :
    ∀ (c : Code) (fr : Fr) (H : VH) (K : Kont) (μ : Mu) (a : Act) (w : World), wfC n c = true → TabOk P n tb c → runS P call hint tb prev c fr H K → SR w0 μ0 H0 n μ fr H a w →
      c.wp P (QK w0 μ0 H0 n K) a w := by
  intro c
  induction c with
  | skip => intro fr H K μ a w _ _ h sr; exact wp_skip ⟨.normal, rfl, fr, H, μ, sr, h⟩
  | label l => intro fr H K μ a w _ _ h sr; exact wp_label ⟨.normal, rfl, fr, H, μ, sr, h⟩
  | ret => intro fr H K μ a w _ _ h sr; exact wp_ret ⟨.ret, rfl, _, H, μ, sr.keep _, h⟩
  | exit id => intro fr H K μ a w _ _ h sr; exact wp_exit ⟨.exit id, rfl, _, H, μ, sr.keep _, h⟩
  | region id ops draw =>
    intro fr H K μ a w hwf _ h sr
    refine region_sound (K := fun fr H => K .normal (keepF (hintOf hint id) fr) H) hm hc hro (fun a' w' ⟨fr', H', μ', sr', hk⟩ => ⟨.normal, rfl, _, H', μ', sr'.keep _, hk⟩) hwf h sr
  | seq x y ihx ihy =>
    intro fr H K μ a w hwf ht h sr
    simp only [wfC, Bool.and_eq_true] at hwf
    obtain ⟨ht1, ht2, ht3⟩ := ht
    refine wp_seq (wp_mono (ihx fr H _ μ a w hwf.1 ht1 h sr) ?_)
    rintro e a' w' ⟨e', rfl, fr', H', μ', sr', hk⟩
    cases e' with
    | normal =>
      simp only at hk
      split at hk
      · rename_i sp hsp
        obtain ⟨μc, src⟩ := (sr'.keep (hintOf hint (3000 + firstReg y))).canon hro
        exact ht2 sp hsp w0 μ0 H0 hro _ _ K μc a' w' hk src
      · exact ihy fr' H' K μ' a' w' hwf.2 ht3 hk sr'
    | exit id => exact ⟨.exit id, rfl, fr', H', μ', sr', hk⟩
    | ret => exact ⟨.ret, rfl, fr', H', μ', sr', hk⟩
  | cond c x y ihx ihy =>
    intro fr H K μ a w hwf ht h sr
    simp only [wfC, Bool.and_eq_true] at hwf
    simp only [runS] at h
    split at h
    · rename_i t ht'
      have hev := ev_sound sr.fr c
      rw [ht'] at hev
      generalize hq : a.eval c = q at hev
      cases hev
      have lit : SR w0 μ0 H0 n μ (litF c t fr) H a w := by
        cases c with
        | tmp u => exact sr.lit ht'
        | const v => exact sr
        | global g => exact sr
        | func f => exact sr
      cases t with
      | true => exact wp_cond_true hq (ihx _ H K μ a w hwf.1 ht.1 h lit)
      | false => exact wp_cond_false hq (ihy _ H K μ a w hwf.2 ht.2 h lit)
    · exact h.elim
  | block id c ih =>
    intro fr H K μ a w hwf ht h sr
    refine wp_block (wp_mono (ih fr H _ μ a w hwf ht h sr) ?_)
    rintro e a' w' ⟨e', rfl, fr', H', μ', sr', hk⟩
    cases e' with
    | normal => exact ⟨.normal, rfl, fr', H', μ', sr', hk⟩
    | ret => exact ⟨.ret, rfl, fr', H', μ', sr', hk⟩
    | exit id' =>
      simp only [toExit, Exit.inBlock]
      cases hb : Nat.beq id' id with
      | true =>
        obtain rfl := Nat.eq_of_beq_eq_true hb
        simp only [hb, cond_true] at hk
        rw [if_pos rfl]
        exact ⟨.normal, rfl, fr', H', μ', sr', hk⟩
      | false =>
        have hne : id' ≠ id := fun e => by subst e; simp at hb
        simp only [hb, cond_false] at hk
        rw [if_neg hne]
        exact ⟨.exit id', rfl, fr', H', μ', sr', hk⟩
  | loop c ih =>
    intro fr H K μ a w hwf ht h sr
    simp only [runS] at h
    split at h
    · rename_i sp hsp
      obtain ⟨μc, src⟩ := (sr.keep (hintOf hint (4000 + firstReg c))).canon hro
      exact ht.1 sp hsp w0 μ0 H0 hro _ _ K μc a w h src
    · rename_i hsp
      refine wp_loop_rounds (m + 1) ?_
      rw [rounds_succ]
      obtain ⟨μc, src⟩ := (sr.keep (hintOf hint (4000 + firstReg c))).canon hro
      refine wp_mono (ih _ _ _ μc a w hwf ht.2 h src) ?_
      rintro e a' w' ⟨e', rfl, fr', H', μ', sr', hk⟩
      cases e' with
      | normal => exact hprev c fr' H' K μ' a' w' hwf ht.2 hsp hk sr'
      | exit id => exact ⟨.exit id, rfl, fr', H', μ', sr', hk⟩
      | ret => exact ⟨.ret, rfl, fr', H', μ', sr', hk⟩
  | scope c ih =>
    intro fr H K μ a w hwf ht h sr
    refine wp_scope_straight (wp_mono (ih fr H K μ a w hwf ht h sr) ?_)
    rintro e a' w' ⟨e', rfl, hk⟩
    cases e' <;> exact ⟨_, rfl, hk⟩
  | goto l => intro fr H K μ a w _ _ h sr; exact h.elim
  | refuse s => intro fr H K μ a w _ _ h sr; exact h.elim
  | rangeFunc f ps x y ihx ihy => intro fr H K μ a w _ _ h sr; exact h.elim

theorem run_rounds (hm : P.follows .mixedOrders = true) (hc : CallOk P call) (hro : Ro H0) :
    ∀ (k : Nat) (c : Code) (fr : Fr) (H : VH) (K : Kont) (μ : Mu) (a : Act) (w : World), wfC n c = true → TabOk P n tb c → tb.loops (firstReg c) = none → run P call hint tb k (.loop c) fr H K → SR w0 μ0 H0 n μ fr H a w →
      Code.rounds P c (QK w0 μ0 H0 n K) k a w
  | 0, c, fr, H, K, μ, a, w, _, _, _, h, _ => h.elim
  | k + 1, c, fr, H, K, μ, a, w, hwf, ht, hl, h, sr => by
    rw [rounds_succ]
    have h : runS P call hint tb (run P call hint tb k) (.loop c) fr H K := h
    simp only [runS, hl] at h
    obtain ⟨μc, src⟩ := (sr.keep (hintOf hint (4000 + firstReg c))).canon hro
    refine wp_mono (runS_sound (m := k) (prev := run P call hint tb k) hm hc hro (run_rounds hm hc hro k) c _ _ _ μc a w hwf ht h src) ?_
    rintro e a' w' ⟨e', rfl, fr', H', μ', sr', hk⟩
    cases e' with
    | normal => exact run_rounds hm hc hro k c fr' H' K μ' a' w' hwf ht hl hk sr'
    | exit id => exact ⟨.exit id, rfl, fr', H', μ', sr', hk⟩
    | ret => exact ⟨.ret, rfl, fr', H', μ', sr', hk⟩

theorem run_sound (hm : P.follows .mixedOrders = true) (hc : CallOk P call) (hro : Ro H0) (k : Nat) (c : Code) (fr : Fr) (H : VH) (K : Kont) (μ : Mu) (a : Act) (w : World)
    (hwf : wfC n c = true) (ht : TabOk P n tb c) (h : run P call hint tb k c fr H K) (sr : SR w0 μ0 H0 n μ fr H a w) : c.wp P (QK w0 μ0 H0 n K) a w := by
  cases k with
  | zero => exact h.elim
  | succ k => exact runS_sound (m := k) hm hc hro (run_rounds hm hc hro k) c fr H K μ a w hwf ht h sr

/-- A join's contract by a run. -/
theorem join_ok (hm : P.follows .mixedOrders = true) (hc : CallOk P call) {c : Code} {sp : LSpec} (hwf : wfC n c = true) (ht : TabOk P n tb c)
    (h : ∀ fr H K, sp fr H K → ∃ k, run P call hint tb k c fr H K) : CodeOk P n c sp := fun w0 μ0 H0 hro fr H K μ a w hs sr => by
  obtain ⟨k, hk⟩ := h fr H K hs
  exact run_sound hm hc hro k c fr H K μ a w hwf ht hk sr

theorem rnds_rounds (hm : P.follows .mixedOrders = true) (hc : CallOk P call) (hro : Ro H0) :
    ∀ (k : Nat) (c : Code) (fr : Fr) (H : VH) (K : Kont) (μ : Mu) (a : Act) (w : World), wfC n c = true → TabOk P n tb c → rnds P call hint tb k c fr H K → SR w0 μ0 H0 n μ fr H a w →
      Code.rounds P c (QK w0 μ0 H0 n K) k a w
  | 0, c, fr, H, K, μ, a, w, _, _, h, _ => h.elim
  | k + 1, c, fr, H, K, μ, a, w, hwf, ht, h, sr => by
    rw [rounds_succ]
    refine wp_mono (runS_sound (m := k) (prev := run P call hint tb k) hm hc hro (run_rounds hm hc hro k) c fr H _ μ a w hwf ht h sr) ?_
    rintro e a' w' ⟨e', rfl, fr', H', μ', sr', hk⟩
    cases e' with
    | normal =>
      obtain ⟨μc, src⟩ := (sr'.keep (hintOf hint (4000 + firstReg c))).canon hro
      exact rnds_rounds hm hc hro k c _ _ K μc a' w' hwf ht hk src
    | exit id => exact ⟨.exit id, rfl, fr', H', μ', sr', hk⟩
    | ret => exact ⟨.ret, rfl, fr', H', μ', sr', hk⟩

/-- A loop's contract by its rounds. -/
theorem loop_ok (hm : P.follows .mixedOrders = true) (hc : CallOk P call) {c : Code} {sp : LSpec} (hwf : wfC n c = true) (ht : TabOk P n tb c)
    (h : ∀ fr H K, sp fr H K → ∃ k, rnds P call hint tb k c fr H K) : CodeOk P n (.loop c) sp := fun w0 μ0 H0 hro fr H K μ a w hs sr => by
  obtain ⟨k, hk⟩ := h fr H K hs
  exact wp_loop_rounds k (rnds_rounds hm hc hro k c fr H K μ a w hwf ht hk sr)

/-! ### Functions -/
theorem lk_args {μ : Mu} : ∀ (l l' : List Value) (i t : Nat), VRs μ l l' → (lk (argsF i l) t = junk ∨ ∃ v', l'[t - i]? = some v' ∧ i ≤ t ∧ VR μ (lk (argsF i l) t) v')
  | [], _, _, _, _ => .inl rfl
  | v :: l, _, i, t, .cons (v' := v') (l' := l') hv hl => by
    simp only [argsF, lk]
    cases hb : Nat.beq i t with
    | true =>
      obtain rfl := Nat.eq_of_beq_eq_true hb
      exact .inr ⟨v', by simp, Nat.le_refl _, hv⟩
    | false =>
      have hne : i ≠ t := fun e => by subst e; simp at hb
      rcases lk_args l l' (i + 1) t hl with h | ⟨u, h1, h2, h3⟩
      · exact .inl h
      · refine .inr ⟨u, ?_, by omega, h3⟩
        rw [show t - i = (t - (i + 1)) + 1 by omega]
        simpa using h1

def resG (xs : Array Value) : ResultVar → Sem Value
  | .tmp t => pure (xs.getD t undef)
  | .cell a t => do loadVar t (← asAddr (xs.getD a undef))

theorem results_run {fn : Func} {xs : Array Value} {l' : List Value} {w : World} (h : (fn.results.toList.mapM (resG xs)).run P w = .ok l' w) :
    (results fn xs).run P w = .ok (if h : (⟨l'⟩ : Array Value).size = 1 then (⟨l'⟩ : Array Value)[0] else .tuple ⟨l'⟩) w := by
  have e : results fn xs = (do let vs ← fn.results.mapM (resG xs); pure (if h : vs.size = 1 then vs[0] else .tuple vs)) := by
    unfold results
    congr 1
  have e2 : fn.results = fn.results.toList.toArray := by simp
  have h4 : (fn.results.mapM (resG xs)).run P w = .ok ⟨l'⟩ w := by
    rw [e2, List.mapM_toArray]
    simp only [Sem.run_map, h, Result.andThen_ok]
  rw [e, Sem.run_bind, h4, Result.andThen_ok]
  rfl

theorem resF_sound {μ : Mu} {fr : Fr} {H : VH} {a : Act} {w : World} (hr : HR μ H w) (h : ∀ t, VR μ (lk fr t) (a.tmps.getD t undef)) : ∀ (rs : List ResultVar) (c : Bool) (l : List Value), resF P fr H rs = some (c, l) → c = true →
    ∃ l', VRs μ l l' ∧ (rs.mapM (resG a.tmps)).run P w = .ok l' w
  | [], c, l, hs, _ => by
    obtain ⟨_, rfl⟩ := Prod.mk.inj (Option.some.inj hs)
    exact ⟨[], .nil, by simp⟩
  | .tmp t :: r, c, l, hs, hc => by
    simp only [resF] at hs
    split at hs
    · rename_i c2 l2 hl2
      obtain ⟨rfl, rfl⟩ := Prod.mk.inj (Option.some.inj hs)
      obtain ⟨l', h1, h2⟩ := resF_sound hr h r _ l2 hl2 hc
      refine ⟨_ :: l', .cons (h t) h1, ?_⟩
      rw [List.mapM_cons]
      simp only [Sem.run_bind, resG, Sem.run_pure, Result.andThen_ok, h2]
    · cases hs
  | .cell t0 t :: r, c, l, hs, hc => by
    simp only [resF] at hs
    split at hs
    · rename_i ad c1 v c2 l2 hp hv hl2
      obtain ⟨rfl, rfl⟩ := Prod.mk.inj (Option.some.inj hs)
      simp only [Bool.and_eq_true] at hc
      obtain ⟨l', h1, h2⟩ := resF_sound hr h r _ l2 hl2 hc.2
      obtain ⟨v', h3, h4⟩ := opV_sound ⟨none, .load t (.tmp t0), t, "", #[], none⟩ hr (ev_sound h) hv hc.1
      have hq := h t0
      rw [hp] at hq
      generalize hg : a.tmps.getD t0 undef = q at hq
      have h5 : (resG a.tmps (.cell t0 t)).run P w = .ok v' w := by
        cases hq with
        | ptr hb =>
          simp [execOp, Instr.loadAt, Instr.sureAddr, Act.eval, hg] at h3
          simp only [resG, hg, asAddr, Sem.run_bind, Sem.run_pure, Result.andThen_ok]
          revert h3
          generalize (loadVar t _).run P w = q
          intro h3
          cases q with
          | ok a w2 =>
            simp only [Result.andThen_ok] at h3
            cases h3
            rfl
          | halt x w2 => cases h3
      refine ⟨v' :: l', .cons h4 h1, ?_⟩
      rw [List.mapM_cons]
      simp only [Sem.run_bind, h5, Sem.run_pure, Result.andThen_ok, h2]
    · cases hs

theorem oneOr_sound {μ : Mu} {l l' : List Value} (h : VRs μ l l') : VR μ (oneOr l) (if h : (⟨l'⟩ : Array Value).size = 1 then (⟨l'⟩ : Array Value)[0] else .tuple ⟨l'⟩) := by
  cases h with
  | nil => exact .tuple .nil
  | cons a b =>
    cases b with
    | nil => exact a
    | cons c d => exact .tuple (.cons a (.cons c d))

/-- **A run says what a call comes to.** -/
theorem runF_meets (hm : P.follows .mixedOrders = true) (hc : CallOk P call) (hro : Ro H0) {k : Nat} {f : FuncId} {fn : Func} {args : List Value} {K : Value → VH → Prop} (hf : P.funcs[f]? = some fn)
    (hwf : wfC fn.ntmps (bodyOf fn) = true) (ht : TabOk P fn.ntmps tb (bodyOf fn))
    (h : runF P call hint tb k fn args H0 K) : Meets P f args H0 K := by
  intro μ w args' hr hargs
  unfold runF at h
  cases hb : fn.body with
  | none => rw [hb] at h; exact h.elim
  | some c =>
    have hbo : bodyOf fn = c := by simp [bodyOf, hb, orSkip]
    rw [hb] at h
    rw [hbo] at hwf ht
    refine calls_of_wp hf hb ?_
    have sr : SR w μ H0 fn.ntmps μ (argsF 0 args) H0 { tmps := ⟨args'⟩ ++ Array.replicate (fn.ntmps - (⟨args'⟩ : Array Value).size) undef, defers := [] } w := by
      refine ⟨⟨hr, Below.refl _ _, Nat.le_refl _, fun _ _ => rfl, fun _ _ => rfl, ?_⟩, fun t => ?_, by simp; omega, rfl⟩
      · intro b p hb hp
        have := mu_lt hp
        rw [hr.len] at this
        omega
      · rcases lk_args args args' 0 t hargs with h' | ⟨v', h1, _, h3⟩
        · rw [h']; exact .junk _
        · rw [Nat.sub_zero] at h1
          have h1' : args'[t]? = some v' := h1
          have : (⟨args'⟩ ++ Array.replicate (fn.ntmps - (⟨args'⟩ : Array Value).size) undef : Array Value).getD t undef = v' := by
            rw [Array.getD_eq_getD_getElem?, Array.getElem?_append]
            have hlt : t < args'.length := (List.getElem?_eq_some_iff.1 h1').1
            simp [hlt, h1']
            simpa [List.getElem?_eq_getElem hlt] using h1'
          rw [this]
          exact h3
    refine wp_mono (run_sound (P := P) hm hc hro k c _ H0 _ μ _ w hwf ht h sr) ?_
    rintro e a' w' ⟨e', rfl, fr', H', μ', sr', hk⟩
    have fin : (match resF P fr' H' fn.results.toList with | some (c, l) => need c (K (canonV [(0, oneOr l)] H' (oneOr l)) (canonH [(0, oneOr l)] H')) | none => False) →
        (a'.defers = [] ∧ ∃ v, (results fn a'.tmps).run P w' = .ok v w' ∧ ∃ (r r' : Value) (μ' : Mu) (H' : VH), Ending.returned v = .returned r' ∧ VR μ' r r' ∧ HR μ' H' w' ∧ Mu.le μ μ' ∧ H0.length ≤ H'.length ∧
      (∀ b, b < H0.length → hget H' b = hget H0 b) ∧ (∀ (b : Nat) (p : Place), H0.length ≤ b → μ'[b]? = some p → w.heap.size ≤ p.blk) ∧
      Below w.heap.size w w' ∧ K r H') := fun hk => by
      split at hk
      · rename_i cc l hl
        cases cc with
        | false => exact hk.elim
        | true =>
        obtain ⟨l', h1, h2⟩ := resF_sound (P := P) sr'.inv.hr sr'.fr _ _ _ hl rfl
        obtain ⟨μc, c1, c2⟩ := sr'.inv.canon hro [(0, oneOr l)]
        refine ⟨sr'.df, _, ?_, _, _, μc, _, rfl, c2 _ _ (oneOr_sound h1), c1.hr, ?_, c1.n0, c1.oldH, c1.fresh, c1.below, hk⟩
        · exact results_run h2
        · intro b p hp
          have hbl := mu_lt hp
          rw [c1.oldμ b (by rw [← hr.len]; exact hbl)]
          exact hp
      · exact hk.elim
    cases e' with
    | normal => exact fin hk
    | ret => exact fin hk
    | exit id => exact hk.elim

end
end Go.Proofs.YtofcjkbgieenlaaDoor.PM

namespace Go.Proofs.YtofcjkbgieenlaaDoor.PM
open Go Go.RowKit
set_option linter.unusedVariables false
set_option linter.unusedSimpArgs false

theorem to {G R : Prop} (h : G = R) (r : R) : G := h ▸ r
theorem bcase_of {b : Bool} {X Y : Prop} (hx : b = true → X) (hy : b = false → Y) : bcase b X Y := by
  cases b
  · exact hy rfl
  · exact hx rfl
theorem need_of {b : Bool} {X : Prop} (h : b = true) (x : X) : need b X := by subst h; exact x
theorem bcase_t {b : Bool} {X Y : Prop} (h : b = true) (x : X) : bcase b X Y := by subst h; exact x
theorem bcase_f {b : Bool} {X Y : Prop} (h : b = false) (y : Y) : bcase b X Y := by subst h; exact y

def closed1 (v : Value) : Bool :=
  match v with
  | .agg cs => plainL cs.toList
  | .func _ ⟨[]⟩ ⟨[]⟩ => true
  | v => plainV v
def closedL1 : List Value → Bool
  | [] => true
  | v :: r => closed1 v && closedL1 r
/-- No address in it. -/
def closedV (v : Value) : Bool :=
  match v with
  | .tuple vs => closedL1 vs.toList
  | v => closed1 v
def closedL : List Value → Bool
  | [] => true
  | v :: r => closedV v && closedL r

section
variable {μ ν : Mu}
theorem plainV_same {v v' : Value} (h : plainV v = true) (r : VR μ v v') : v' = v := by
  cases r <;> first | rfl | (simp [plainV] at h; done) | cases h

theorem plainL_same : ∀ {l l' : List Value}, plainL l = true → VRs μ l l' → l' = l
  | _, _, _, .nil => rfl
  | _, _, h, .cons a b => by
    simp only [plainL, Bool.and_eq_true] at h
    rw [plainV_same h.1 a, plainL_same h.2 b]

theorem closed1_same {v v' : Value} (h : closed1 v = true) (r : VR μ v v') : v' = v ∧ VR ν v v := by
  unfold closed1 at h
  split at h
  · cases r with
    | agg hl => exact ⟨by rw [plainL_same h hl], .agg (VRs.plain h)⟩
  · cases r with
    | func a b => cases a; cases b; exact ⟨rfl, .func .nil .nil⟩
  · exact ⟨plainV_same h r, VR.plain h⟩

theorem closedL1_same : ∀ {l l' : List Value}, closedL1 l = true → VRs μ l l' → l' = l ∧ VRs ν l l
  | _, _, _, .nil => ⟨rfl, .nil⟩
  | _, _, h, .cons a b => by
    simp only [closedL1, Bool.and_eq_true] at h
    obtain ⟨h1, h2⟩ := closed1_same (ν := ν) h.1 a
    obtain ⟨h3, h4⟩ := closedL1_same h.2 b
    exact ⟨by rw [h1, h3], .cons h2 h4⟩

theorem closedV_same {v v' : Value} (h : closedV v = true) (r : VR μ v v') : v' = v ∧ VR ν v v := by
  unfold closedV at h
  split at h
  · cases r with
    | tuple hl =>
      obtain ⟨h1, h2⟩ := closedL1_same (ν := ν) h hl
      exact ⟨by rw [h1], .tuple h2⟩
  · exact closed1_same h r

theorem closedL_same : ∀ {l l' : List Value}, closedL l = true → VRs μ l l' → l' = l ∧ VRs ν l l
  | _, _, _, .nil => ⟨rfl, .nil⟩
  | _, _, h, .cons a b => by
    simp only [closedL, Bool.and_eq_true] at h
    obtain ⟨h1, h2⟩ := closedV_same (ν := ν) h.1 a
    obtain ⟨h3, h4⟩ := closedL_same h.2 b
    exact ⟨by rw [h1, h3], .cons h2 h4⟩
end

theorem HR.empty (w : World) : HR [] [] w where
  len := rfl
  row b C e l m h := by cases b <;> cases h
  iter b s p h := by cases b <;> cases h
  sep b1 b2 C1 C2 e1 e2 l1 l2 m2 p1 p2 hne h := by cases b1 <;> cases h
  isep b1 b2 s1 s2 o1 o2 p1 p2 hne h := by cases b1 <;> cases h

theorem Ro.empty : Ro [] := fun b => by cases b <;> exact .inr rfl

/-- A contract of a function by what it yields: for every memory. -/
theorem Meets.lift {P : Program} {f : FuncId} {args : List Value} {K0 K : Value → VH → Prop} (h : Meets P f args [] K0) (ha : closedL args = true) (H : VH)
    (hk : ∀ r H', K0 r H' → closedV r = true ∧ K r H) : Meets P f args H K := by
  intro μ w args' hr hargs
  obtain ⟨rfl, h2⟩ := closedL_same (ν := []) ha hargs
  refine (h [] w _ (HR.empty w) h2).mono ?_
  rintro e w' ⟨r, r', μ', H', rfl, k1, _, _, _, _, _, k7, k8⟩
  obtain ⟨c1, c2⟩ := hk r H' k8
  obtain ⟨rfl, k1'⟩ := closedV_same (ν := μ) c1 k1
  exact ⟨_, _, μ, H, rfl, k1', hr.later k7.block k7.size, fun _ _ h => h, Nat.le_refl _, fun _ _ => rfl, fun b p hb hp => by
    have := mu_lt hp
    rw [hr.len] at this
    omega, k7, c2⟩

/-- What a function yields, on which condition. -/
abbrev Pure := List Value → Option (Prop × Value)

def pureS (g : Pure) : Spec := fun args H K => match g args with
  | some (c, r) => c ∧ K r H
  | none => False

/-- A function that yields this. -/
structure PureOk (P : Program) (f : FuncId) (g : Pure) : Prop where
  enter : callable P f
  args : ∀ args c r, g args = some (c, r) → closedL args = true
  meets : ∀ args c r, g args = some (c, r) → c → closedV r = true ∧ Meets P f args [] (fun r' _ => r' = r)

theorem PureOk.ok {P : Program} {f : FuncId} {g : Pure} (h : PureOk P f g) {args : List Value} {H : VH} {K : Value → VH → Prop} (hs : pureS g args H K) : callable P f ∧ Meets P f args H K := by
  unfold pureS at hs
  split at hs
  · rename_i c r hg
    obtain ⟨h1, h2⟩ := h.meets args c r hg hs.1
    exact ⟨h.enter, h2.lift (h.args args c r hg) H fun r' H' e => by subst e; exact ⟨h1, hs.2⟩⟩
  · exact hs.elim

/-- From the model's own contracts. -/
theorem Meets.of_calls {P : Program} {f : FuncId} {args : List Value} {r : Value} (ha : closedL args = true) (hr : closedV r = true)
    (h : ∀ w, Calls P f ⟨args⟩ w fun e w' => e = .returned r ∧ Below w.heap.size w w') : Meets P f args [] (fun r' _ => r' = r) := by
  intro μ w args' hrr hargs
  obtain ⟨rfl, h2⟩ := closedL_same (ν := []) ha hargs
  refine (h w).mono ?_
  rintro e w' ⟨rfl, hb⟩
  have hv : VR μ r r := by
    have : ∀ v, closedV v = true → VR μ v v := by
      intro v hv
      unfold closedV at hv
      have one : ∀ u, closed1 u = true → VR μ u u := fun u hu => by
        unfold closed1 at hu
        split at hu
        · exact .agg (VRs.plain hu)
        · exact .func .nil .nil
        · exact VR.plain hu
      split at hv
      · rename_i vs
        obtain ⟨l⟩ := vs
        refine .tuple ?_
        have : ∀ l : List Value, closedL1 l = true → VRs μ l l := by
          intro l
          induction l with
          | nil => intro _; exact .nil
          | cons u l ih =>
            intro hl
            simp only [closedL1, Bool.and_eq_true] at hl
            exact .cons (one u hl.1) (ih hl.2)
        exact this l hv
      · exact one v hv
    exact this r hr
  exact ⟨r, r, μ, [], rfl, hv, hrr.later hb.block hb.size, fun _ _ h => h, Nat.le_refl _, fun _ hb => absurd hb (Nat.not_lt_zero _), fun _ _ _ hp => absurd (mu_lt hp) (by rw [hrr.len]; exact Nat.not_lt_zero _), hb, rfl⟩

/-- What a function is known to do, it does. -/
def SpecOk (P : Program) (f : FuncId) (sp : Spec) : Prop := ∀ args H K, sp args H K → callable P f ∧ Meets P f args H K

def callOf : List (Nat × Spec) → FuncId → Spec
  | [], _ => fun _ _ _ => False
  | (f', sp) :: r, f => bif Nat.beq f' f then sp else callOf r f

theorem callOf_nil {P : Program} : CallOk P (callOf []) := fun _ _ _ _ h => h.elim
theorem callOf_cons {P : Program} {f : Nat} {sp : Spec} {r : List (Nat × Spec)} (h : SpecOk P f sp) (hr : CallOk P (callOf r)) : CallOk P (callOf ((f, sp) :: r)) := fun f' args H K hs => by
  unfold callOf at hs
  cases hb : Nat.beq f f' with
  | true =>
    rw [hb] at hs
    obtain rfl := Nat.eq_of_beq_eq_true hb
    exact h args H K hs
  | false => rw [hb] at hs; exact hr f' args H K hs

theorem PureOk.spec {P : Program} {f : FuncId} {g : Pure} (h : PureOk P f g) : SpecOk P f (pureS g) := fun _ _ _ hs => h.ok hs

/-- A function by its run. -/
theorem PureOk.of_run {P : Program} {call : FuncId → Spec} {hint : List (Nat × List Nat)} {tb : Tab} {f : FuncId} {fn : Func} {c : Code} {g : Pure} (hm : P.follows .mixedOrders = true) (hc : CallOk P call)
    (hf : P.funcs[f]? = some fn) (hn : (fn.name == "runtime.NumGoroutine") = false) (hb : fn.body = some c) (hwf : wfC fn.ntmps (bodyOf fn) = true) (ht : TabOk P fn.ntmps tb (bodyOf fn))
    (h : ∀ args c r, g args = some (c, r) → closedL args = true ∧ (c → closedV r = true ∧ ∃ k, ∀ K : Value → VH → Prop, (∀ H, K r H) → runF P call hint tb k fn args [] K)) : PureOk P f g where
  enter := ⟨fn, c, hf, hn, hb⟩
  args args c r hg := (h args c r hg).1
  meets args c r hg hcc := by
    obtain ⟨h1, k, h2⟩ := (h args c r hg).2 hcc
    exact ⟨h1, runF_meets hm hc Ro.empty hf hwf ht (h2 _ fun _ => rfl)⟩

/-! ### Contracts of functions that hand back new rows -/
theorem HR.join {μ ν : Mu} {H G : VH} {w : World} {B : Nat} (h : HR μ H w) (g : HR ν G w) (hlt : ∀ b C e (l : List C.α) m p, hget H b = .row C e l m → μ[b]? = some p → p.blk < B)
    (hli : ∀ b s o p, hget H b = .iter s o → μ[b]? = some p → p.blk < B) (hge : ∀ (b : Nat) (p : Place), ν[b]? = some p → B ≤ p.blk) :
    HR (μ ++ ν) (H ++ G.map (renB fun b => some (H.length + b))) w := by
  have hf : ∀ (b c : Nat) (p : Place), (fun b => some (H.length + b)) b = some c → ν[b]? = some p → (μ ++ ν)[c]? = some p := fun b c p hc hp => by
    cases hc
    rw [List.getElem?_append_right (by rw [h.len]; omega), h.len, show H.length + b - H.length = b by omega]
    exact hp
  have cls : ∀ {b : Nat} {X : VB}, hget (H ++ G.map (renB fun b => some (H.length + b))) b = X → X ≠ .dead →
      (b < H.length ∧ hget H b = X ∧ (μ ++ ν)[b]? = μ[b]?) ∨ (∃ c, b = H.length + c ∧ X = renB (fun b => some (H.length + b)) (hget G c) ∧ (μ ++ ν)[b]? = ν[c]?) := by
    intro b X hg hX
    rcases Nat.lt_or_ge b H.length with hlt' | hge'
    · left
      rw [hget_append_lt hlt'] at hg
      exact ⟨hlt', hg, List.getElem?_append_left (by rw [h.len]; exact hlt')⟩
    · right
      obtain ⟨c, rfl⟩ : ∃ c, b = H.length + c := ⟨b - H.length, by omega⟩
      rw [hget_append_ge, hget_map _ rfl] at hg
      exact ⟨c, rfl, hg.symm, by rw [List.getElem?_append_right (by rw [h.len]; omega), h.len, show H.length + c - H.length = c by omega]⟩
  have lt : ∀ {b : Nat} {C : Codec} {e : Nat} {l : List C.α} {m : VMode} {p : Place}, hget H b = .row C e l m → μ[b]? = some p → p.blk < B := fun h1 h2 => hlt _ _ _ _ _ _ h1 h2
  refine ⟨by simp [h.len, g.len], ?_, ?_, ?_, ?_⟩
  · intro b C e l m hg
    rcases cls hg (by intro hh; cases hh) with ⟨_, k1, k2⟩ | ⟨c, rfl, k1, k2⟩
    · obtain ⟨p, hp, r⟩ := h.row b C e l m k1
      refine ⟨p, by rw [k2]; exact hp, r.mono (fun b p hp => by rw [List.getElem?_append_left (mu_lt hp)]; exact hp) (fun _ _ => rfl) (Nat.le_refl _)⟩
    · obtain ⟨l0, hg0, rfl⟩ := renB_row k1.symm
      obtain ⟨p, hp, r⟩ := g.row c C e l0 m hg0
      exact ⟨p, by rw [k2]; exact hp, r.ren hf⟩
  · intro b s o hg
    rcases cls hg (by intro hh; cases hh) with ⟨_, k1, k2⟩ | ⟨c, rfl, k1, k2⟩
    · obtain ⟨p, hp, r⟩ := h.iter b s o k1
      exact ⟨p, by rw [k2]; exact hp, r⟩
    · obtain ⟨p, hp, r⟩ := g.iter c s o (renB_iter k1.symm)
      exact ⟨p, by rw [k2]; exact hp, r⟩
  · intro b1 b2 C1 C2 e1 e2 l1 l2 m2 p1 p2 hne g1 g2 q1 q2 hblk i j hi hj hst
    rcases cls g1 (by intro hh; cases hh) with ⟨_, k1, k2⟩ | ⟨c1, rfl, k1, k2⟩
    · rw [k2] at q1
      rcases cls g2 (by intro hh; cases hh) with ⟨_, k3, k4⟩ | ⟨c2, rfl, k3, k4⟩
      · rw [k4] at q2
        exact h.sep b1 b2 C1 C2 e1 e2 l1 l2 m2 p1 p2 hne k1 k3 q1 q2 hblk i j hi hj hst
      · rw [k4] at q2
        have a1 := lt k1 q1
        have a2 := hge c2 p2 q2
        omega
    · rw [k2] at q1
      have a1 := hge c1 p1 q1
      rcases cls g2 (by intro hh; cases hh) with ⟨_, k3, k4⟩ | ⟨c2, rfl, k3, k4⟩
      · rw [k4] at q2
        have a2 := lt k3 q2
        omega
      · rw [k4] at q2
        obtain ⟨x1, hg1, rfl⟩ := renB_row k1.symm
        obtain ⟨x2, hg2, rfl⟩ := renB_row k3.symm
        rw [ren_len] at hj hst
        exact g.sep c1 c2 C1 C2 e1 e2 x1 x2 m2 p1 p2 (by omega) hg1 hg2 q1 q2 hblk i j hi hj hst
  · intro b1 b2 s1 s2 o1 o2 p1 p2 hne g1 g2 q1 q2
    rcases cls g1 (by intro hh; cases hh) with ⟨_, k1, k2⟩ | ⟨c1, rfl, k1, k2⟩
    · rw [k2] at q1
      have a1 := hli _ _ _ _ k1 q1
      rcases cls g2 (by intro hh; cases hh) with ⟨_, k3, k4⟩ | ⟨c2, rfl, k3, k4⟩
      · rw [k4] at q2
        exact h.isep b1 b2 s1 s2 o1 o2 p1 p2 hne k1 k3 q1 q2
      · rw [k4] at q2
        have a2 := hge c2 p2 q2
        omega
    · rw [k2] at q1
      have a1 := hge c1 p1 q1
      rcases cls g2 (by intro hh; cases hh) with ⟨_, k3, k4⟩ | ⟨c2, rfl, k3, k4⟩
      · rw [k4] at q2
        have a2 := hli _ _ _ _ k3 q2
        omega
      · rw [k4] at q2
        exact g.isep c1 c2 s1 s2 o1 o2 p1 p2 (by omega) (renB_iter k1.symm) (renB_iter k3.symm) q1 q2

/-- What a function yields, and the rows it has made. -/
abbrev Mem := List Value → Option (Prop × Value × VH)
def memS (g : Mem) : Spec := fun args H K => match g args with
  | some (c, r, G) => c ∧ K (ren2 (fun b => some (H.length + b)) r) (H ++ G.map (renB fun b => some (H.length + b)))
  | none => False

structure MemOk (P : Program) (f : FuncId) (g : Mem) : Prop where
  enter : callable P f
  args : ∀ args c r G, g args = some (c, r, G) → closedL args = true
  meets : ∀ args c r G, g args = some (c, r, G) → c → Meets P f args [] (fun r' G' => r' = r ∧ G' = G)

theorem MemOk.spec {P : Program} {f : FuncId} {g : Mem} (h : MemOk P f g) : SpecOk P f (memS g) := by
  intro args H K hs
  unfold memS at hs
  split at hs
  · rename_i c r G hg
    refine ⟨h.enter, fun μ w args' hr hargs => ?_⟩
    obtain ⟨rfl, h2⟩ := closedL_same (ν := []) (h.args args c r G hg) hargs
    refine (h.meets args' c r G hg hs.1 [] w _ (HR.empty w) h2).mono ?_
    rintro e w' ⟨r0, r', ν, G0, rfl, k1, k2, _, _, _, k6, k7, rfl, rfl⟩
    have hl := hr.later k7.block k7.size
    have hlt : ∀ {b : Nat} {C : Codec} {e : Nat} {l : List C.α} {m : VMode} {p : Place}, hget H b = .row C e l m → μ[b]? = some p → p.blk < w.heap.size := fun h1 h2 => by
      obtain ⟨p', hp', r⟩ := hr.row _ _ _ _ _ h1
      obtain rfl := Option.some.inj (hp'.symm.trans h2)
      exact r.blk
    have hli : ∀ {b : Nat} {s : ByteArray} {o : Nat} {p : Place}, hget H b = .iter s o → μ[b]? = some p → p.blk < w.heap.size := fun h1 h2 => by
      obtain ⟨p', hp', r, _⟩ := hr.iter _ _ _ h1
      obtain rfl := Option.some.inj (hp'.symm.trans h2)
      rcases Nat.lt_or_ge p'.blk w.heap.size with h' | h'
      · exact h'
      · rw [Array.getElem?_eq_none h'] at r; cases r
    have hj := hl.join (B := w.heap.size) k2 (fun b C e l m p => hlt) (fun b s o p => hli) (fun b p hp => k6 b p (Nat.zero_le _) hp)
    refine ⟨_, r', μ ++ ν, _, rfl, k1.ren2 (fun b c p hc hp => ?_), hj, fun b p hp => by rw [List.getElem?_append_left (mu_lt hp)]; exact hp, by simp, fun b hb => hget_append_lt hb, fun b p hb hp => ?_, k7, hs.2⟩
    · cases hc
      rw [List.getElem?_append_right (by rw [hr.len]; omega), hr.len, show H.length + b - H.length = b by omega]
      exact hp
    · rw [List.getElem?_append_right (by rw [hr.len]; exact hb)] at hp
      exact k6 _ p (Nat.zero_le _) hp
  · exact hs.elim

theorem MemOk.of_run {P : Program} {call : FuncId → Spec} {hint : List (Nat × List Nat)} {tb : Tab} {f : FuncId} {fn : Func} {c : Code} {g : Mem} (hm : P.follows .mixedOrders = true) (hc : CallOk P call)
    (hf : P.funcs[f]? = some fn) (hn : (fn.name == "runtime.NumGoroutine") = false) (hb : fn.body = some c) (hwf : wfC fn.ntmps (bodyOf fn) = true) (ht : TabOk P fn.ntmps tb (bodyOf fn))
    (h : ∀ args c r G, g args = some (c, r, G) → closedL args = true ∧ (c → ∃ k, ∀ K : Value → VH → Prop, K r G → runF P call hint tb k fn args [] K)) : MemOk P f g where
  enter := ⟨fn, c, hf, hn, hb⟩
  args args c r G hg := (h args c r G hg).1
  meets args c r G hg hcc := by
    obtain ⟨k, h2⟩ := (h args c r G hg).2 hcc
    exact runF_meets hm hc Ro.empty hf hwf ht (h2 _ ⟨rfl, rfl⟩)

theorem pos_of {t : ByteArray} (h : (t.toList == (ByteArray.mk #[]).toList) = false) : decide ((0 : Int) < (t.size : Int)) = true := by
  refine decide_eq_true ?_
  cases hz : t.size with
  | succ n => omega
  | zero =>
    have : t = ByteArray.mk #[] := ByteArray.ext (Array.eq_empty_of_size_eq_zero hz)
    subst this
    simp at h
theorem pos_of' {t : ByteArray} (h : (!(t.toList == (ByteArray.mk #[]).toList)) = true) : decide ((0 : Int) < (t.size : Int)) = true := pos_of (by simpa using h)
theorem bcase_not {b : Bool} {X Y : Prop} (h : bcase b Y X) : bcase (!b) X Y := by cases b <;> exact h
theorem bcase_tt (X Y : Prop) : bcase true X Y = X := rfl
theorem bcase_ff (X Y : Prop) : bcase false X Y = Y := rfl
theorem sz1 (c : UInt8) : (ByteArray.mk #[c]).size = 1 := rfl
end Go.Proofs.YtofcjkbgieenlaaDoor.PM

namespace Go.Proofs.YtofcjkbgieenlaaDoor.PM
open Go Go.Proofs
set_option maxRecDepth 100000
set_option linter.unusedVariables false
theorem hm : (Tryd.prog).follows .mixedOrders = true := by kernel_rfl

def smallB (c : Int) : Bool := decide (c ≥ 97) && decide (c ≤ 122)
def smallG : Pure | [.int .u8 c] => some (True, .bool (smallB c)) | _ => none
theorem small_ok : PureOk Tryd.prog 60 smallG := by
  refine .of_run (call := callOf []) (hint := hints 60) (tb := noTab) hm callOf_nil Tryd.func60 (by kernel_rfl) rfl (by kernel_rfl) (by repeat' first | exact trivial | constructor | (intro _ h; cases h)) fun args c r h => ?_
  unfold smallG at h
  split at h
  · rename_i c
    cases h
    refine ⟨rfl, fun _ => ⟨rfl, 1, fun K hK => ?_⟩⟩
    refine to (R := bcase (decide (c ≥ (97 : Int))) (K (.bool (decide (c ≤ (122 : Int)))) []) (K (.bool false) [])) (by kernel_rfl) ?_
    refine bcase_of (fun h => ?_) (fun h => ?_)
    · simpa [smallB, h] using hK []
    · simpa [smallB, h] using hK []
  · cases h

def digitB (c : Int) : Bool := decide (c ≥ 48) && decide (c ≤ 57)
def digitG : Pure | [.int .u8 c] => some (True, .bool (digitB c)) | _ => none
theorem digit_ok : PureOk Tryd.prog 45 digitG := by
  refine .of_run (call := callOf []) (hint := hints 45) (tb := noTab) hm callOf_nil Tryd.func45 (by kernel_rfl) rfl (by kernel_rfl) (by repeat' first | exact trivial | constructor | (intro _ h; cases h)) fun args c r h => ?_
  unfold digitG at h
  split at h
  · rename_i c
    cases h
    refine ⟨rfl, fun _ => ⟨rfl, 1, fun K hK => ?_⟩⟩
    refine to (R := bcase (decide (c ≥ (48 : Int))) (K (.bool (decide (c ≤ (57 : Int)))) []) (K (.bool false) [])) (by kernel_rfl) ?_
    refine bcase_of (fun h => ?_) (fun h => ?_)
    · simpa [digitB, h] using hK []
    · simpa [digitB, h] using hK []
  · cases h

def letterB (c : Int) : Bool := smallB c || (decide (c ≥ 65) && decide (c ≤ 90))
def letterG : Pure | [.int .u8 c] => some (True, .bool (letterB c)) | _ => none
theorem letter_ok : PureOk Tryd.prog 44 letterG := by
  refine .of_run (call := callOf [(60, pureS smallG)]) (hint := hints 44) (tb := noTab) hm (callOf_cons small_ok.spec callOf_nil) Tryd.func44 (by kernel_rfl) rfl (by kernel_rfl) (by repeat' first | exact trivial | constructor | (intro _ h; cases h)) fun args c r h => ?_
  unfold letterG at h
  split at h
  · rename_i c
    cases h
    refine ⟨rfl, fun _ => ⟨rfl, 1, fun K hK => ?_⟩⟩
    refine to (R := True ∧ (bcase (smallB c) (K (.bool true) []) (bcase (decide (c ≥ (65 : Int))) (K (.bool (decide (c ≤ (90 : Int)))) []) (K (.bool false) [])))) (by kernel_rfl) ?_
    refine ⟨trivial, bcase_of (fun h => ?_) (fun h => bcase_of (fun h2 => ?_) (fun h2 => ?_))⟩
    · simpa [letterB, h] using hK []
    · simpa [letterB, h, h2] using hK []
    · simpa [letterB, h, h2] using hK []
  · cases h

/-- Is a byte, at a place, one of a label? -/
def labelAt (s : ByteArray) (i : Int) : Bool := letterB (bt s i) || digitB (bt s i) || (!(bt s i != 45) && !(i == 0) && !(i == (s.size : Int) - 1))
def labelFrom (s : ByteArray) (i n : Nat) : Bool := (List.range' i n).all fun j => labelAt s j
def labelLp : LSpec
  | [(0, .string s), (5, .int .i64 n), (6, .int .i64 i)], [], K => (n = s.size ∧ 0 ≤ i ∧ i ≤ n ∧ s.size < 2 ^ 62) ∧ bcase (labelFrom s i.toNat (s.size - i.toNat)) (K (.exit 0) [(0, .string s)] []) (K .ret [(2, .bool false)] [])
  | _, _, _ => False
theorem wrap_id {x : Int} (h0 : -(2 ^ 63) ≤ x) (h1 : x < 2 ^ 63) : IntKind.i64.wrap x = x := by
  unfold IntKind.wrap
  simp only [IntKind.bits, IntKind.signed]
  simp
  omega
theorem labelLp_ok : CodeOk Tryd.prog 41 (.loop (lp Tryd.f49 2)) labelLp := by
  refine loop_ok (call := callOf [(44, pureS letterG), (45, pureS digitG)]) (hint := hints 49) (tb := noTab) hm (callOf_cons letter_ok.spec (callOf_cons digit_ok.spec callOf_nil)) (by kernel_rfl) (by repeat' first | exact trivial | constructor | (intro _ h; cases h)) fun fr H K h => ?_
  unfold labelLp at h
  split at h
  · rename_i s n i
    obtain ⟨⟨hn, h0, h1, hs⟩, hb⟩ := h
    obtain ⟨d, hd⟩ : ∃ d, d = s.size - i.toNat := ⟨_, rfl⟩
    refine ⟨d + 1, ?_⟩
    rw [← hd] at hb
    induction d generalizing i with
    | zero =>
      refine to (R := bcase (decide (i < n)) (need ((decide ((0 : Int) ≤ i)) && (decide (i < (↑s.size : Int)))) (True ∧ (bcase (!(letterB (bt s i))) (need ((decide ((0 : Int) ≤ i)) && (decide (i < (↑s.size : Int)))) (True ∧ (bcase (!(digitB (bt s i))) (need ((decide ((0 : Int) ≤ i)) && (decide (i < (↑s.size : Int)))) (bcase ((bt s i) != (45 : Int)) (K .ret [(2, (.bool false))] []) (bcase (i == (0 : Int)) (K .ret [(2, (.bool false))] []) (bcase (i == (IntKind.i64.wrap ((↑s.size : Int) - (1 : Int)))) (K .ret [(2, (.bool false))] []) (rnds Tryd.prog (callOf [(44, (pureS letterG)), (45, (pureS digitG))]) (hints 49) noTab (nat_lit 0) (lp Tryd.f49 2) [(0, (.string s)), (5, (.int .i64 n)), (6, (.int .i64 (IntKind.i64.wrap (i + (1 : Int)))))] [] K))))) (rnds Tryd.prog (callOf [(44, (pureS letterG)), (45, (pureS digitG))]) (hints 49) noTab (nat_lit 0) (lp Tryd.f49 2) [(0, (.string s)), (5, (.int .i64 n)), (6, (.int .i64 (IntKind.i64.wrap (i + (1 : Int)))))] [] K)))) (rnds Tryd.prog (callOf [(44, (pureS letterG)), (45, (pureS digitG))]) (hints 49) noTab (nat_lit 0) (lp Tryd.f49 2) [(0, (.string s)), (5, (.int .i64 n)), (6, (.int .i64 (IntKind.i64.wrap (i + (1 : Int)))))] [] K)))) (K (.exit 0) [(0, (.string s))] [])) (by kernel_rfl) ?_
      have hlt : ¬ i < n := by omega
      refine bcase_f (by simpa using hlt) ?_
      simpa [labelFrom, bcase] using hb
    | succ d ih =>
      have hlt : i < n := by omega
      have hin : (decide ((0 : Int) ≤ i) && decide (i < (s.size : Int))) = true := by simp; omega
      have hi2 : ((i.toNat : Nat) : Int) = i := by omega
      have hw : IntKind.i64.wrap (i + 1) = i + 1 := wrap_id (by omega) (by omega)
      have hw2 : IntKind.i64.wrap ((s.size : Int) - 1) = (s.size : Int) - 1 := wrap_id (by omega) (by omega)
      have hto : (i + 1).toNat = i.toNat + 1 := by omega
      have next : labelAt s i = true → rnds Tryd.prog (callOf [(44, pureS letterG), (45, pureS digitG)]) (hints 49) noTab (d + 1) (lp Tryd.f49 2) [(0, .string s), (5, .int .i64 n), (6, .int .i64 (i + 1))] [] K := fun ha =>
        ih (i + 1) (by omega) (by omega) (by
          rw [hto]
          simp only [labelFrom, List.range'_succ, List.all_cons, hi2, ha, Bool.true_and] at hb
          exact hb) (by omega)
      have stop : labelAt s i = false → K .ret [(2, .bool false)] [] := fun ha => by
        simp only [labelFrom, List.range'_succ, List.all_cons, hi2, ha, Bool.false_and] at hb
        exact hb
      refine to (R := bcase (decide (i < n)) (need ((decide ((0 : Int) ≤ i)) && (decide (i < (↑s.size : Int)))) (True ∧ (bcase (!(letterB (bt s i))) (need ((decide ((0 : Int) ≤ i)) && (decide (i < (↑s.size : Int)))) (True ∧ (bcase (!(digitB (bt s i))) (need ((decide ((0 : Int) ≤ i)) && (decide (i < (↑s.size : Int)))) (bcase ((bt s i) != (45 : Int)) (K .ret [(2, (.bool false))] []) (bcase (i == (0 : Int)) (K .ret [(2, (.bool false))] []) (bcase (i == (IntKind.i64.wrap ((↑s.size : Int) - (1 : Int)))) (K .ret [(2, (.bool false))] []) (rnds Tryd.prog (callOf [(44, (pureS letterG)), (45, (pureS digitG))]) (hints 49) noTab (d + 1) (lp Tryd.f49 2) [(0, (.string s)), (5, (.int .i64 n)), (6, (.int .i64 (IntKind.i64.wrap (i + (1 : Int)))))] [] K))))) (rnds Tryd.prog (callOf [(44, (pureS letterG)), (45, (pureS digitG))]) (hints 49) noTab (d + 1) (lp Tryd.f49 2) [(0, (.string s)), (5, (.int .i64 n)), (6, (.int .i64 (IntKind.i64.wrap (i + (1 : Int)))))] [] K)))) (rnds Tryd.prog (callOf [(44, (pureS letterG)), (45, (pureS digitG))]) (hints 49) noTab (d + 1) (lp Tryd.f49 2) [(0, (.string s)), (5, (.int .i64 n)), (6, (.int .i64 (IntKind.i64.wrap (i + (1 : Int)))))] [] K)))) (K (.exit 0) [(0, (.string s))] [])) (by kernel_rfl) ?_
      rw [hw2]
      refine bcase_t (by simpa using hlt) (need_of hin ⟨trivial, bcase_of (fun a => need_of hin ⟨trivial, bcase_of (fun b => need_of hin (bcase_of (fun c => ?_) (fun c => bcase_of (fun e => ?_) (fun e => bcase_of (fun f => ?_) (fun f => ?_))))) (fun b => ?_)⟩) (fun a => ?_)⟩)
      · exact stop (by simp only [Bool.not_eq_true'] at a b; simp [labelAt, a, b, c])
      · exact stop (by simp only [Bool.not_eq_true'] at a b; simp only [labelAt, a, b, e]; simp)
      · exact stop (by simp only [Bool.not_eq_true'] at a b; simp only [labelAt, a, b, f]; simp)
      · rw [hw]; exact next (by simp only [labelAt, c, e, f]; simp)
      · rw [hw]; exact next (by simp only [Bool.not_eq_false'] at b; simp only [labelAt, b]; simp)
      · rw [hw]; exact next (by simp only [Bool.not_eq_false'] at a; simp only [labelAt, a]; simp)
  · exact h.elim
theorem toList_empty (s : ByteArray) : (s.toList == (ByteArray.mk #[]).toList) = (s.size == 0) := by
  rw [ByteArray.toList_eq, ByteArray.toList_eq, Bool.eq_iff_iff]
  simp only [beq_iff_eq]
  constructor
  · intro h
    have := congrArg List.length h
    simpa using this
  · intro h
    exact List.eq_nil_of_length_eq_zero (by simpa using h)
def labelB (s : ByteArray) : Bool := labelFrom s 0 s.size && !(s.size == 0)
def labelG : Pure | [.string s] => some (s.size < 2 ^ 62, .bool (labelB s)) | _ => none
def tab49 : Tab := ⟨fun | 2 => some labelLp | _ => none, fun _ => none⟩
theorem label_ok : PureOk Tryd.prog 49 labelG := by
  refine .of_run (call := callOf [(44, pureS letterG), (45, pureS digitG)]) (hint := hints 49) (tb := tab49) hm (callOf_cons letter_ok.spec (callOf_cons digit_ok.spec callOf_nil)) Tryd.func49 (by kernel_rfl) rfl (by kernel_rfl)
    (by repeat' first | exact trivial | constructor | (intro _ h; cases h; exact labelLp_ok) | (intro _ h; cases h)) fun args c r h => ?_
  unfold labelG at h
  split at h
  · rename_i s
    cases h
    refine ⟨rfl, fun hs => ⟨rfl, 1, fun K hK => ?_⟩⟩
    refine to (R := (((↑s.size : Int) = (↑s.size : Int)) ∧ (((0 : Int) ≤ (0 : Int)) ∧ (((0 : Int) ≤ (↑s.size : Int)) ∧ (s.size < (2 ^ 62))))) ∧ (bcase (labelFrom s (Int.toNat (0 : Int)) (s.size - (Int.toNat (0 : Int)))) (K (.bool !(s.toList == (ByteArray.mk #[]).toList)) []) (K (.bool false) []))) (by kernel_rfl) ?_
    have he : (!(s.toList == (ByteArray.mk #[]).toList)) = !(s.size == 0) := by rw [toList_empty]
    refine ⟨⟨rfl, by omega, by omega, hs⟩, bcase_of (fun h => ?_) (fun h => ?_)⟩
    · rw [he]; simpa [labelB, show labelFrom s 0 s.size = true from h] using hK []
    · simpa [labelB, show labelFrom s 0 s.size = false from h] using hK []
  · cases h
end Go.Proofs.YtofcjkbgieenlaaDoor.PM

namespace Go.Proofs.YtofcjkbgieenlaaDoor.PM
open Go Go.Proofs
set_option maxRecDepth 100000
set_option linter.unusedVariables false

/-- One byte more. -/
def cutStep (s : ByteArray) (c : Int) (xs : List ByteArray) (i : Nat) : List ByteArray :=
  if bt s i == c then xs ++ [ByteArray.mk #[]] else xs.set (xs.length - 1) (xs.getD (xs.length - 1) (ByteArray.mk #[]) ++ s.extract i (i + 1))
def cutFrom (s : ByteArray) (c : Int) : Nat → List ByteArray → Nat → List ByteArray
  | 0, xs, _ => xs
  | d + 1, xs, i => cutFrom s c d (cutStep s c xs i) (i + 1)
def cutAll (s : ByteArray) (c : Int) : List ByteArray := cutFrom s c s.size [ByteArray.mk #[]] 0

def cutLp : LSpec
  | [(0, .string s), (1, .int .u8 c), (5, .slice (some ⟨0, 0, none⟩) n m), (6, .int .i64 i)], H, K => (s.size < 2 ^ 40 ∧ i = 0 ∧ n = 1 ∧ m = 1 ∧ H = [.row strC 1 [ByteArray.mk #[]] .own]) ∧
      K (.exit 0) [(5, .slice (some ⟨0, 0, none⟩) (cutAll s c).length (cutAll s c).length)] [.row strC 1 (cutAll s c) .own]
  | _, _, _ => False

theorem cut_rounds (s : ByteArray) (c : Int) (hs : s.size < 2 ^ 40) (K : Kont) : ∀ (d i : Nat) (xs : List ByteArray), i + d = s.size → 0 < xs.length → xs.length ≤ i + 1 → (∀ x ∈ xs, x.size ≤ i) →
    K (.exit 0) [(5, .slice (some ⟨0, 0, none⟩) (cutFrom s c d xs i).length (cutFrom s c d xs i).length)] [.row strC 1 (cutFrom s c d xs i) .own] →
    rnds Tryd.prog (callOf []) (hints 23) noTab (d + 1) (lp Tryd.f23 3) [(0, .string s), (1, .int .u8 c), (5, .slice (some ⟨0, 0, none⟩) xs.length xs.length), (6, .int .i64 i)] [.row strC 1 xs .own] K
  | 0, i, xs, hi, h0, hl, hx, hK => by
    refine to (R := bcase (decide ((↑i : Int) < (↑s.size : Int))) (need (decide ((↑i : Int) < (↑s.size : Int))) (bcase ((bt s (↑i : Int)) == c) (need (((0 + xs.length).beq xs.length) && ((((xs.length + 1) * 16).ble 140737488355328) && true)) (rnds Tryd.prog (callOf []) (hints 23) noTab (nat_lit 0) (lp Tryd.f23 3) [(0, (.string s)), (1, (.int .u8 c)), (5, (.slice (some (Addr.mk 0 0 none)) (xs.length + 1) (xs.length + 1))), (6, (.int .i64 (IntKind.i64.wrap ((↑i : Int) + (1 : Int)))))] [(.row strC 1 (xs ++ [(ByteArray.mk #[])]) .own)] K)) (need ((decide ((0 : Int) ≤ (IntKind.i64.wrap ((↑xs.length : Int) - (1 : Int))))) && (decide ((IntKind.i64.wrap ((↑xs.length : Int) - (1 : Int))) < (↑xs.length : Int)))) (need ((decide ((0 + (IntKind.i64.wrap ((↑xs.length : Int) - (1 : Int))).toNat) < xs.length)) && true) (need ((decide ((↑i : Int) ≤ (IntKind.i64.wrap ((↑i : Int) + (1 : Int))))) && (decide ((IntKind.i64.wrap ((↑i : Int) + (1 : Int))) ≤ (↑s.size : Int)))) (need (decide (((ByteArray.size (xs.getD (0 + (IntKind.i64.wrap ((↑xs.length : Int) - (1 : Int))).toNat) (ByteArray.mk #[]))) + (s.extract (↑i : Int).toNat (IntKind.i64.wrap ((↑i : Int) + (1 : Int))).toNat).size) < 9223372036854775808)) (need ((decide ((0 : Int) ≤ (IntKind.i64.wrap ((↑xs.length : Int) - (1 : Int))))) && (decide ((IntKind.i64.wrap ((↑xs.length : Int) - (1 : Int))) < (↑xs.length : Int)))) (need ((decide ((0 + (IntKind.i64.wrap ((↑xs.length : Int) - (1 : Int))).toNat) < xs.length)) && true) (rnds Tryd.prog (callOf []) (hints 23) noTab (nat_lit 0) (lp Tryd.f23 3) [(0, (.string s)), (1, (.int .u8 c)), (5, (.slice (some (Addr.mk 0 0 none)) xs.length xs.length)), (6, (.int .i64 (IntKind.i64.wrap ((↑i : Int) + (1 : Int)))))] [(.row strC 1 (xs.set (0 + (IntKind.i64.wrap ((↑xs.length : Int) - (1 : Int))).toNat) ((xs.getD (0 + (IntKind.i64.wrap ((↑xs.length : Int) - (1 : Int))).toNat) (ByteArray.mk #[])) ++ (s.extract (↑i : Int).toNat (IntKind.i64.wrap ((↑i : Int) + (1 : Int))).toNat))) .own)] K))))))))) (K (.exit 0) [(5, (.slice (some (Addr.mk 0 0 none)) xs.length xs.length))] [(.row strC 1 xs .own)])) (by kernel_rfl) ?_
    exact bcase_f (by simp; omega) hK
  | d + 1, i, xs, hi, h0, hl, hx, hK => by
    have hw : IntKind.i64.wrap ((i : Int) + 1) = ((i + 1 : Nat) : Int) := wrap_id (by omega) (by omega)
    have hw2 : IntKind.i64.wrap ((xs.length : Int) - 1) = ((xs.length - 1 : Nat) : Int) := by
      rw [show ((xs.length : Int) - 1) = ((xs.length - 1 : Nat) : Int) by omega]; exact wrap_id (by omega) (by omega)
    have ih := cut_rounds s c hs K d (i + 1) (cutStep s c xs i) (by omega)
    refine to (R := bcase (decide ((↑i : Int) < (↑s.size : Int))) (need (decide ((↑i : Int) < (↑s.size : Int))) (bcase ((bt s (↑i : Int)) == c) (need (((0 + xs.length).beq xs.length) && ((((xs.length + 1) * 16).ble 140737488355328) && true)) (rnds Tryd.prog (callOf []) (hints 23) noTab (d + 1) (lp Tryd.f23 3) [(0, (.string s)), (1, (.int .u8 c)), (5, (.slice (some (Addr.mk 0 0 none)) (xs.length + 1) (xs.length + 1))), (6, (.int .i64 (IntKind.i64.wrap ((↑i : Int) + (1 : Int)))))] [(.row strC 1 (xs ++ [(ByteArray.mk #[])]) .own)] K)) (need ((decide ((0 : Int) ≤ (IntKind.i64.wrap ((↑xs.length : Int) - (1 : Int))))) && (decide ((IntKind.i64.wrap ((↑xs.length : Int) - (1 : Int))) < (↑xs.length : Int)))) (need ((decide ((0 + (IntKind.i64.wrap ((↑xs.length : Int) - (1 : Int))).toNat) < xs.length)) && true) (need ((decide ((↑i : Int) ≤ (IntKind.i64.wrap ((↑i : Int) + (1 : Int))))) && (decide ((IntKind.i64.wrap ((↑i : Int) + (1 : Int))) ≤ (↑s.size : Int)))) (need (decide (((ByteArray.size (xs.getD (0 + (IntKind.i64.wrap ((↑xs.length : Int) - (1 : Int))).toNat) (ByteArray.mk #[]))) + (s.extract (↑i : Int).toNat (IntKind.i64.wrap ((↑i : Int) + (1 : Int))).toNat).size) < 9223372036854775808)) (need ((decide ((0 : Int) ≤ (IntKind.i64.wrap ((↑xs.length : Int) - (1 : Int))))) && (decide ((IntKind.i64.wrap ((↑xs.length : Int) - (1 : Int))) < (↑xs.length : Int)))) (need ((decide ((0 + (IntKind.i64.wrap ((↑xs.length : Int) - (1 : Int))).toNat) < xs.length)) && true) (rnds Tryd.prog (callOf []) (hints 23) noTab (d + 1) (lp Tryd.f23 3) [(0, (.string s)), (1, (.int .u8 c)), (5, (.slice (some (Addr.mk 0 0 none)) xs.length xs.length)), (6, (.int .i64 (IntKind.i64.wrap ((↑i : Int) + (1 : Int)))))] [(.row strC 1 (xs.set (0 + (IntKind.i64.wrap ((↑xs.length : Int) - (1 : Int))).toNat) ((xs.getD (0 + (IntKind.i64.wrap ((↑xs.length : Int) - (1 : Int))).toNat) (ByteArray.mk #[])) ++ (s.extract (↑i : Int).toNat (IntKind.i64.wrap ((↑i : Int) + (1 : Int))).toNat))) .own)] K))))))))) (K (.exit 0) [(5, (.slice (some (Addr.mk 0 0 none)) xs.length xs.length))] [(.row strC 1 xs .own)])) (by kernel_rfl) ?_
    rw [hw, hw2]
    have hlast : (xs.getD (xs.length - 1) (ByteArray.mk #[])).size ≤ i := hx _ (by
      rw [List.getD_eq_getElem?_getD, List.getElem?_eq_getElem (by omega)]
      exact List.getElem_mem _)
    have hlast2 := hlast
    rw [List.getD_eq_getElem?_getD] at hlast2
    have hone : (s.extract i (i + 1)).size = 1 := by rw [ByteArray.size_extract]; omega
    refine bcase_t (by simp; omega) (need_of (by simp; omega) (bcase_of (fun h => ?_) (fun h => ?_)))
    · refine need_of (by simp; omega) ?_
      have e : cutStep s c xs i = xs ++ [ByteArray.mk #[]] := by unfold cutStep; rw [if_pos h]
      rw [e] at ih
      have := ih (by simp) (by simp; omega) (fun x hx' => by
        rcases List.mem_append.1 hx' with hx' | hx'
        · have := hx x hx'; omega
        · rw [List.mem_singleton.1 hx']; exact Nat.zero_le _) (by rw [← e]; exact hK)
      simpa using this
    · have e : cutStep s c xs i = xs.set (xs.length - 1) (xs.getD (xs.length - 1) (ByteArray.mk #[]) ++ s.extract i (i + 1)) := by unfold cutStep; rw [h]; rfl
      rw [e] at ih
      have := ih (by simpa using h0) (by simp; omega) (fun x hx' => by
        rcases List.mem_or_eq_of_mem_set hx' with hx' | rfl
        · have := hx x hx'; omega
        · rw [ByteArray.size_append, hone]; omega) (by rw [← e]; exact hK)
      refine need_of (by simp; omega) (need_of (by simp; omega) (need_of (by simp; omega) (need_of ?_ (need_of (by simp; omega) (need_of (by simp; omega) ?_)))))
      · simp only [Int.toNat_natCast, Nat.zero_add]
        rw [hone]
        simp
        omega
      · simpa using this
theorem cutLp_ok : CodeOk Tryd.prog Tryd.f23.ntmps (.loop (lp Tryd.f23 3)) cutLp := by
  refine loop_ok (call := callOf []) (hint := hints 23) (tb := noTab) hm callOf_nil (by kernel_rfl) (by repeat' first | exact trivial | constructor | (intro _ h; cases h)) fun fr H K h => ?_
  unfold cutLp at h
  split at h
  · obtain ⟨⟨hs, rfl, rfl, rfl, rfl⟩, hK⟩ := h
    exact ⟨_, cut_rounds _ _ hs _ _ 0 [ByteArray.mk #[]] (Nat.zero_add _) (by simp) (by simp) (fun x hx => by rw [List.mem_singleton.1 hx]; exact Nat.zero_le _) hK⟩
  · exact h.elim

def tab23 : Tab := ⟨fun | 3 => some cutLp | _ => none, fun _ => none⟩
def cutG : Mem
  | [.string s, .int .u8 c] => some (s.size < 2 ^ 40, .slice (some ⟨0, 0, none⟩) (cutAll s c).length (cutAll s c).length, [.row strC 1 (cutAll s c) .own])
  | _ => none
theorem cut_ok : MemOk Tryd.prog 23 cutG := by
  refine .of_run (call := callOf []) (hint := hints 23) (tb := tab23) hm callOf_nil Tryd.func23 (by kernel_rfl) rfl (by kernel_rfl)
    (by repeat' first | exact trivial | constructor | (intro _ h; cases h; exact cutLp_ok) | (intro _ h; cases h)) fun args c r G h => ?_
  unfold cutG at h
  split at h
  · rename_i s c
    cases h
    refine ⟨rfl, fun hs => ⟨1, fun K hK => ?_⟩⟩
    refine to (R := ((s.size < (2 ^ 40)) ∧ (((0 : Int) = (0 : Int)) ∧ ((1 = 1) ∧ ((1 = 1) ∧ ((canonH [(0, (.string s)), (1, (.int .u8 c)), (5, (.slice (some (Addr.mk 0 0 none)) 1 1)), (6, (.int .i64 (0 : Int)))] [(.row strC 1 [(ByteArray.mk #[])] .own)]) = [(.row strC 1 [(ByteArray.mk #[])] .own)]))))) ∧ (K (.slice (some (Addr.mk 0 0 none)) (cutAll s c).length (cutAll s c).length) [(.row strC 1 (cutAll s c) .own)])) (by kernel_rfl) ?_
    exact ⟨⟨hs, rfl, rfl, rfl, rfl⟩, hK⟩
  · cases h

/-- Are all bytes of a text some of another one? -/
def someOf (t : ByteArray) (c : Int) (k n : Nat) : Bool := (List.range' k n).any fun j => c == bt t j
def ofFrom (s t : ByteArray) (i n : Nat) : Bool := (List.range' i n).all fun j => someOf t (bt s j) 0 t.size
def innerLp : LSpec
  | [(0, .string s), (1, .string t), (5, .int .i64 i), (6, .bool ok), (7, .int .i64 k)], [], K => (0 ≤ i ∧ i < s.size ∧ k = 0 ∧ t.size < 2 ^ 62) ∧
      K (.exit 2) [(0, .string s), (1, .string t), (5, .int .i64 i), (6, .bool (ok || someOf t (bt s i) 0 t.size))] []
  | _, _, _ => False
theorem inner_rounds (s t : ByteArray) (i : Int) (h0 : 0 ≤ i) (h1 : i < s.size) (ht : t.size < 2 ^ 62) (K : Kont) : ∀ (d k : Nat) (ok : Bool), k + d = t.size →
    K (.exit 2) [(0, .string s), (1, .string t), (5, .int .i64 i), (6, .bool (ok || someOf t (bt s i) k d))] [] →
    rnds Tryd.prog (callOf []) (hints 35) noTab (d + 1) (lp Tryd.f35 6) [(0, .string s), (1, .string t), (5, .int .i64 i), (6, .bool ok), (7, .int .i64 k)] [] K
  | 0, k, ok, hk, hK => by
    refine to (R := bcase (decide ((↑k : Int) < (↑t.size : Int))) (bcase ok (rnds Tryd.prog (callOf []) (hints 35) noTab (nat_lit 0) (lp Tryd.f35 6) [(0, (.string s)), (1, (.string t)), (5, (.int .i64 i)), (6, (.bool true)), (7, (.int .i64 (IntKind.i64.wrap ((↑k : Int) + (1 : Int)))))] [] K) (need ((decide ((0 : Int) ≤ i)) && (decide (i < (↑s.size : Int)))) (need (decide ((↑k : Int) < (↑t.size : Int))) (rnds Tryd.prog (callOf []) (hints 35) noTab (nat_lit 0) (lp Tryd.f35 6) [(0, (.string s)), (1, (.string t)), (5, (.int .i64 i)), (6, (.bool ((bt s i) == (bt t (↑k : Int))))), (7, (.int .i64 (IntKind.i64.wrap ((↑k : Int) + (1 : Int)))))] [] K)))) (K (.exit 2) [(0, (.string s)), (1, (.string t)), (5, (.int .i64 i)), (6, (.bool ok))] [])) (by kernel_rfl) ?_
    refine bcase_f (by simp; omega) ?_
    simpa [someOf] using hK
  | d + 1, k, ok, hk, hK => by
    have hw : IntKind.i64.wrap ((k : Int) + 1) = ((k + 1 : Nat) : Int) := wrap_id (by omega) (by omega)
    have hin : (decide ((0 : Int) ≤ i) && decide (i < (s.size : Int))) = true := by simp; omega
    have hs : someOf t (bt s i) k (d + 1) = (bt s i == bt t k || someOf t (bt s i) (k + 1) d) := by simp [someOf, List.range'_succ]
    rw [hs] at hK
    refine to (R := bcase (decide ((↑k : Int) < (↑t.size : Int))) (bcase ok (rnds Tryd.prog (callOf []) (hints 35) noTab (d + 1) (lp Tryd.f35 6) [(0, (.string s)), (1, (.string t)), (5, (.int .i64 i)), (6, (.bool true)), (7, (.int .i64 (IntKind.i64.wrap ((↑k : Int) + (1 : Int)))))] [] K) (need ((decide ((0 : Int) ≤ i)) && (decide (i < (↑s.size : Int)))) (need (decide ((↑k : Int) < (↑t.size : Int))) (rnds Tryd.prog (callOf []) (hints 35) noTab (d + 1) (lp Tryd.f35 6) [(0, (.string s)), (1, (.string t)), (5, (.int .i64 i)), (6, (.bool ((bt s i) == (bt t (↑k : Int))))), (7, (.int .i64 (IntKind.i64.wrap ((↑k : Int) + (1 : Int)))))] [] K)))) (K (.exit 2) [(0, (.string s)), (1, (.string t)), (5, (.int .i64 i)), (6, (.bool ok))] [])) (by kernel_rfl) ?_
    rw [hw]
    refine bcase_t (by simp; omega) (bcase_of (fun h => ?_) (fun h => need_of hin (need_of (by simp; omega) ?_)))
    · subst h
      exact inner_rounds s t i h0 h1 ht K d (k + 1) true (by omega) (by simpa using hK)
    · subst h
      exact inner_rounds s t i h0 h1 ht K d (k + 1) _ (by omega) (by simpa using hK)
theorem innerLp_ok : CodeOk Tryd.prog Tryd.f35.ntmps (.loop (lp Tryd.f35 6)) innerLp := by
  refine loop_ok (call := callOf []) (hint := hints 35) (tb := noTab) hm callOf_nil (by kernel_rfl) (by repeat' first | exact trivial | constructor | (intro _ h; cases h)) fun fr H K h => ?_
  unfold innerLp at h
  split at h
  · rename_i s t i ok k
    obtain ⟨⟨h0, h1, rfl, ht⟩, hK⟩ := h
    exact ⟨_, inner_rounds s t i h0 h1 ht K t.size 0 ok (by omega) hK⟩
  · exact h.elim
def outerLp : LSpec
  | [(0, .string s), (1, .string t), (5, .int .i64 i)], [], K => (i = 0 ∧ t.size < 2 ^ 62 ∧ s.size < 2 ^ 62) ∧ bcase (ofFrom s t 0 s.size) (K (.exit 0) [] []) (K .ret [(4, .bool false)] [])
  | _, _, _ => False
def tab35 : Tab := ⟨fun | 6 => some innerLp | _ => none, fun _ => none⟩
theorem outer_rounds (s t : ByteArray) (hs : s.size < 2 ^ 62) (ht : t.size < 2 ^ 62) (K : Kont) : ∀ (d i : Nat), i + d = s.size →
    bcase (ofFrom s t i d) (K (.exit 0) [] []) (K .ret [(4, .bool false)] []) →
    rnds Tryd.prog (callOf []) (hints 35) tab35 (d + 1) (lp Tryd.f35 2) [(0, .string s), (1, .string t), (5, .int .i64 i)] [] K
  | 0, i, hi, hK => by
    refine to (R := bcase (decide ((↑i : Int) < (↑s.size : Int))) ((((0 : Int) ≤ (↑i : Int)) ∧ (((↑i : Int) < (↑s.size : Int)) ∧ (((0 : Int) = (0 : Int)) ∧ (t.size < (2 ^ 62))))) ∧ (bcase (!(someOf t (bt s (↑i : Int)) 0 t.size)) (K .ret [(4, (.bool false))] []) (rnds Tryd.prog (callOf []) (hints 35) tab35 (nat_lit 0) (lp Tryd.f35 2) [(0, (.string s)), (1, (.string t)), (5, (.int .i64 (IntKind.i64.wrap ((↑i : Int) + (1 : Int)))))] [] K))) (K (.exit 0) [] [])) (by kernel_rfl) ?_
    refine bcase_f (by simp; omega) ?_
    simpa [ofFrom, bcase] using hK
  | d + 1, i, hi, hK => by
    have hw : IntKind.i64.wrap ((i : Int) + 1) = ((i + 1 : Nat) : Int) := wrap_id (by omega) (by omega)
    have hs2 : ofFrom s t i (d + 1) = (someOf t (bt s i) 0 t.size && ofFrom s t (i + 1) d) := by simp [ofFrom, List.range'_succ]
    rw [hs2] at hK
    refine to (R := bcase (decide ((↑i : Int) < (↑s.size : Int))) ((((0 : Int) ≤ (↑i : Int)) ∧ (((↑i : Int) < (↑s.size : Int)) ∧ (((0 : Int) = (0 : Int)) ∧ (t.size < (2 ^ 62))))) ∧ (bcase (!(someOf t (bt s (↑i : Int)) 0 t.size)) (K .ret [(4, (.bool false))] []) (rnds Tryd.prog (callOf []) (hints 35) tab35 (d + 1) (lp Tryd.f35 2) [(0, (.string s)), (1, (.string t)), (5, (.int .i64 (IntKind.i64.wrap ((↑i : Int) + (1 : Int)))))] [] K))) (K (.exit 0) [] [])) (by kernel_rfl) ?_
    rw [hw]
    refine bcase_t (by simp; omega) ⟨⟨by omega, by omega, rfl, ht⟩, ?_⟩
    refine bcase_of (fun h => ?_) (fun h => ?_)
    · have : someOf t (bt s i) 0 t.size = false := by simpa using h
      rw [this] at hK
      exact hK
    · have : someOf t (bt s i) 0 t.size = true := by simpa using h
      rw [this, Bool.true_and] at hK
      exact outer_rounds s t hs ht K d (i + 1) (by omega) hK
theorem outerLp_ok : CodeOk Tryd.prog Tryd.f35.ntmps (.loop (lp Tryd.f35 2)) outerLp := by
  refine loop_ok (call := callOf []) (hint := hints 35) (tb := tab35) hm callOf_nil (by kernel_rfl) (by repeat' first | exact trivial | constructor | (intro _ h; cases h; exact innerLp_ok) | (intro _ h; cases h)) fun fr H K h => ?_
  unfold outerLp at h
  split at h
  · rename_i s t i
    obtain ⟨⟨rfl, ht, hs⟩, hK⟩ := h
    exact ⟨_, outer_rounds s t hs ht K s.size 0 (by omega) hK⟩
  · exact h.elim
def tab35' : Tab := ⟨fun | 6 => some innerLp | 2 => some outerLp | _ => none, fun _ => none⟩
def ofG : Pure
  | [.string s, .string t] => some (s.size < 2 ^ 62 ∧ t.size < 2 ^ 62, .bool (ofFrom s t 0 s.size))
  | _ => none
theorem of_ok : PureOk Tryd.prog 35 ofG := by
  refine .of_run (call := callOf []) (hint := hints 35) (tb := tab35') hm callOf_nil Tryd.func35 (by kernel_rfl) rfl (by kernel_rfl)
    (by repeat' first | exact trivial | constructor | (intro _ h; cases h; exact innerLp_ok) | (intro _ h; cases h; exact outerLp_ok) | (intro _ h; cases h)) fun args c r h => ?_
  unfold ofG at h
  split at h
  · rename_i s t
    cases h
    refine ⟨rfl, fun hs => ⟨rfl, 1, fun K hK => ?_⟩⟩
    refine to (R := (((0 : Int) = (0 : Int)) ∧ ((t.size < (2 ^ 62)) ∧ (s.size < (2 ^ 62)))) ∧ (bcase (ofFrom s t 0 s.size) (K (.bool true) []) (K (.bool false) []))) (by kernel_rfl) ?_
    refine ⟨⟨rfl, hs.2, hs.1⟩, bcase_of (fun h => ?_) (fun h => ?_)⟩
    · rw [h] at hK; exact hK []
    · rw [h] at hK; exact hK []
  · cases h
end Go.Proofs.YtofcjkbgieenlaaDoor.PM

namespace Go.Proofs.YtofcjkbgieenlaaDoor.PM
open Go Go.Proofs
set_option maxRecDepth 100000
set_option linter.unusedVariables false

theorem cutFrom_size (s : ByteArray) (c : Int) : ∀ (d i : Nat) (xs : List ByteArray), i + d = s.size → (∀ x ∈ xs, x.size ≤ i) → ∀ x ∈ cutFrom s c d xs i, x.size ≤ s.size
  | 0, i, xs, hi, hx, x, h => by have := hx x h; omega
  | d + 1, i, xs, hi, hx, x, h => by
    refine cutFrom_size s c d (i + 1) (cutStep s c xs i) (by omega) (fun y hy => ?_) x h
    unfold cutStep at hy
    cases hb : (bt s i == c) <;> rw [hb] at hy <;> simp only [Bool.false_eq_true, if_true, if_false] at hy
    · rcases List.mem_or_eq_of_mem_set hy with hy | rfl
      · have := hx y hy; omega
      · rw [ByteArray.size_append, ByteArray.size_extract]
        have : (xs.getD (xs.length - 1) (ByteArray.mk #[])).size ≤ i := by
          rw [List.getD_eq_getElem?_getD]
          cases he : xs[xs.length - 1]? with
          | none => exact Nat.zero_le _
          | some y => exact hx y (List.mem_of_getElem? he)
        omega
    · rcases List.mem_append.1 hy with hy | hy
      · have := hx y hy; omega
      · rw [List.mem_singleton.1 hy]; exact Nat.zero_le _
theorem cutAll_size (s : ByteArray) (c : Int) (i : Nat) : ((cutAll s c).getD i (ByteArray.mk #[])).size ≤ s.size := by
  rw [List.getD_eq_getElem?_getD]
  cases he : (cutAll s c)[i]? with
  | none => exact Nat.zero_le _
  | some y => exact cutFrom_size s c s.size 0 _ (Nat.zero_add _) (fun x hx => by rw [List.mem_singleton.1 hx]; exact Nat.zero_le _) y (List.mem_of_getElem? he)
theorem cutStep_len (s : ByteArray) (c : Int) (xs : List ByteArray) (i : Nat) : xs.length ≤ (cutStep s c xs i).length ∧ (cutStep s c xs i).length ≤ xs.length + 1 := by
  unfold cutStep
  split <;> simp
theorem cutFrom_len (s : ByteArray) (c : Int) : ∀ (d i : Nat) (xs : List ByteArray), xs.length ≤ (cutFrom s c d xs i).length ∧ (cutFrom s c d xs i).length ≤ xs.length + d
  | 0, i, xs => ⟨Nat.le_refl _, Nat.le_refl _⟩
  | d + 1, i, xs => by
    have := cutFrom_len s c d (i + 1) (cutStep s c xs i)
    have := cutStep_len s c xs i
    unfold cutFrom
    omega
theorem cutAll_len (s : ByteArray) (c : Int) : 1 ≤ (cutAll s c).length ∧ (cutAll s c).length ≤ 1 + s.size := cutFrom_len s c s.size 0 [ByteArray.mk #[]]

abbrev isS (s : ByteArray) (l : List UInt8) : Bool := s.toList == (ByteArray.mk l.toArray).toList
def frontS (s : ByteArray) : ByteArray :=
  bif decide (((cutAll s 47).length : Int) > 1) && (decide (((cutAll ((cutAll s 47).getD 0 (ByteArray.mk #[])) 46).length : Int) > 1) || (decide (((cutAll ((cutAll s 47).getD 0 (ByteArray.mk #[])) 58).length : Int) > 1) ||
    isS ((cutAll s 47).getD 0 (ByteArray.mk #[])) [108, 111, 99, 97, 108, 104, 111, 115, 116])) then (cutAll s 47).getD 0 (ByteArray.mk #[]) else ByteArray.mk #[]
def frontG : Pure
  | [.string s] => some (s.size < 2 ^ 40, .string (frontS s))
  | _ => none
theorem front_ok : PureOk Tryd.prog 25 frontG := by
  refine .of_run (call := callOf [(23, memS cutG)]) (hint := hints 25) (tb := noTab) hm (callOf_cons cut_ok.spec callOf_nil) Tryd.func25 (by kernel_rfl) rfl (by kernel_rfl) (by repeat' first | exact trivial | constructor |  (intro _ h; cases h)) fun args c r h => ?_
  unfold frontG at h
  split at h
  · rename_i s
    cases h
    refine ⟨rfl, fun hs => ⟨rfl, 1, fun K hK => ?_⟩⟩
    have h1 := cutAll_len s 47
    have h2 := cutAll_size s 47 0
    refine to (R := (s.size < (2 ^ 40)) ∧ (bcase (decide ((↑(cutAll s (47 : Int)).length : Int) > (1 : Int))) (need (decide ((0 : Int) < (↑(cutAll s (47 : Int)).length : Int))) (need ((decide (0 < (cutAll s (47 : Int)).length)) && true) (((ByteArray.size ((cutAll s (47 : Int)).getD 0 (ByteArray.mk #[]))) < (2 ^ 40)) ∧ (bcase (decide ((↑(cutAll ((cutAll s (47 : Int)).getD 0 (ByteArray.mk #[])) (46 : Int)).length : Int) > (1 : Int))) (need (decide ((0 : Int) < (↑(cutAll s (47 : Int)).length : Int))) (need ((decide (0 < (cutAll s (47 : Int)).length)) && true) (K (.string ((cutAll s (47 : Int)).getD 0 (ByteArray.mk #[]))) []))) (need (decide ((0 : Int) < (↑(cutAll s (47 : Int)).length : Int))) (need ((decide (0 < (cutAll s (47 : Int)).length)) && true) (((ByteArray.size ((cutAll s (47 : Int)).getD 0 (ByteArray.mk #[]))) < (2 ^ 40)) ∧ (bcase (decide ((↑(cutAll ((cutAll s (47 : Int)).getD 0 (ByteArray.mk #[])) (58 : Int)).length : Int) > (1 : Int))) (need (decide ((0 : Int) < (↑(cutAll s (47 : Int)).length : Int))) (need ((decide (0 < (cutAll s (47 : Int)).length)) && true) (K (.string ((cutAll s (47 : Int)).getD 0 (ByteArray.mk #[]))) []))) (need (decide ((0 : Int) < (↑(cutAll s (47 : Int)).length : Int))) (need ((decide (0 < (cutAll s (47 : Int)).length)) && true) (bcase ((ByteArray.toList ((cutAll s (47 : Int)).getD 0 (ByteArray.mk #[]))) == (ByteArray.mk #[(108 : UInt8), (111 : UInt8), (99 : UInt8), (97 : UInt8), (108 : UInt8), (104 : UInt8), (111 : UInt8), (115 : UInt8), (116 : UInt8)]).toList) (need (decide ((0 : Int) < (↑(cutAll s (47 : Int)).length : Int))) (need ((decide (0 < (cutAll s (47 : Int)).length)) && true) (K (.string ((cutAll s (47 : Int)).getD 0 (ByteArray.mk #[]))) []))) (K (.string (ByteArray.mk #[])) [])))))))))))) (K (.string (ByteArray.mk #[])) []))) (by kernel_rfl) ?_
    ((repeat' first | exact trivial | with_reducible refine need_of (by first | assumption | omega | (simp only [Bool.and_true, Bool.and_eq_true, decide_eq_true_eq]; omega)) ?_ | with_reducible refine ⟨by first | assumption | omega | (simp only [Bool.and_true, Bool.and_eq_true, decide_eq_true_eq]; omega), ?_⟩ | with_reducible refine bcase_of (fun h => ?_) (fun h => ?_)) <;> simpa only [isS, frontS, *, cond_true, cond_false, Bool.and_true, Bool.and_false, Bool.true_and, Bool.false_and, Bool.or_true, Bool.or_false, Bool.true_or, Bool.false_or] using hK _)
  · cases h
end Go.Proofs.YtofcjkbgieenlaaDoor.PM
