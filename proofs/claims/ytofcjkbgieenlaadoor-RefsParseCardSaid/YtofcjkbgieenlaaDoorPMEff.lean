/- Operations that write memory, and calls: what the small machine says of them holds of the model. By an AI agent. -/
import Derived.Test.YtofcjkbgieenlaaDoorPMOps
namespace Go.Proofs.YtofcjkbgieenlaaDoor.PM
open Go Go.RowKit
set_option linter.unusedVariables false
set_option linter.unusedSimpArgs false

theorem RowOk.mono {μ μ' : Mu} {w w' : World} {C : Codec} {esz : Nat} {l : List C.α} {m : VMode} {p : Place} (h : RowOk μ w C esz l m p) (hm : Mu.le μ μ')
    (hb : ∀ k, k < w.heap.size → w'.heap[k]? = w.heap[k]?) (hs : w.heap.size ≤ w'.heap.size) : RowOk μ' w' C esz l m p where
  pe := h.pe
  blk := Nat.lt_of_lt_of_le h.blk hs
  lens := h.lens
  cells i j x v h1 h2 := by
    obtain ⟨v', h3, h4⟩ := h.cells i j x v h1 h2
    exact ⟨v', by rw [Place.at, World.cell?_of_block (hb _ h.blk)]; exact h3, h4.mono hm⟩
  own ho := by
    obtain ⟨L, h1, h2, h3⟩ := h.own ho
    refine ⟨L, h1, h2, fun i hi => ?_⟩
    rw [World.cell?_of_block (w := w) (hb _ h.blk), World.frozen?_of_block (w := w) (hb _ h.blk)]
    exact h3 i hi

theorem mu_lt {μ : Mu} {b : Nat} {p : Place} (h : μ[b]? = some p) : b < μ.length := (List.getElem?_eq_some_iff.1 h).1

theorem mu_snoc (μ : Mu) (p : Place) : Mu.le μ (μ ++ [p]) := fun b q h => by
  rw [List.getElem?_append_left (mu_lt h)]; exact h

/-- A new row behind all that were. -/
theorem HR.snoc {μ : Mu} {H : VH} {w w' : World} (h : HR μ H w) {C : Codec} {esz : Nat} {l : List C.α} {m : VMode} {p : Place}
    (hb : ∀ k, k < w.heap.size → w'.heap[k]? = w.heap[k]?) (hs : w.heap.size ≤ w'.heap.size) (hp : w.heap.size ≤ p.blk)
    (hr : RowOk (μ ++ [p]) w' C esz l m p) : HR (μ ++ [p]) (H ++ [.row C esz l m]) w' where
  len := by simp [h.len]
  row b C' esz' l' m' hg := by
    rcases Nat.lt_trichotomy b H.length with hlt | heq | hgt
    · rw [hget_append_lt hlt] at hg
      obtain ⟨q, hq, r⟩ := h.row b C' esz' l' m' hg
      exact ⟨q, mu_snoc μ p b q hq, r.mono (mu_snoc μ p) hb hs⟩
    · subst heq
      have := hget_append_ge (H := H) (G := [.row C esz l m]) 0
      simp only [Nat.add_zero] at this
      rw [this] at hg
      cases hg
      exact ⟨p, by rw [← h.len]; simp, hr⟩
    · rw [hget_len (by simp; omega)] at hg; cases hg
  iter b s pos hg := by
    rcases Nat.lt_trichotomy b H.length with hlt | heq | hgt
    · rw [hget_append_lt hlt] at hg
      obtain ⟨q, hq, r⟩ := (h.later hb hs).iter b s pos hg
      exact ⟨q, mu_snoc μ p b q hq, r⟩
    · subst heq
      have := hget_append_ge (H := H) (G := [.row C esz l m]) 0
      simp only [Nat.add_zero] at this
      rw [this] at hg
      cases hg
    · rw [hget_len (by simp; omega)] at hg; cases hg
  sep b1 b2 C1 C2 e1 e2 l1 l2 m2 p1 p2 hne g1 g2 q1 q2 hblk i j hi hj hst := by
    have place : ∀ {b : Nat} {C' : Codec} {e : Nat} {l' : List C'.α} {m' : VMode} {q : Place}, hget (H ++ [.row C esz l m]) b = .row C' e l' m' → (μ ++ [p])[b]? = some q →
        (b < H.length ∧ hget H b = .row C' e l' m' ∧ μ[b]? = some q ∧ q.blk < w.heap.size) ∨ (b = H.length ∧ q = p) := by
      intro b C' e l' m' q hg hq
      rcases Nat.lt_trichotomy b H.length with hlt | heq | hgt
      · left
        rw [hget_append_lt hlt] at hg
        rw [List.getElem?_append_left (by rw [h.len]; exact hlt)] at hq
        obtain ⟨q', hq', r⟩ := h.row b C' e l' m' hg
        obtain rfl : q' = q := Option.some.inj (hq'.symm.trans hq)
        exact ⟨hlt, hg, hq, r.blk⟩
      · right
        subst heq
        refine ⟨rfl, ?_⟩
        rw [← h.len] at hq
        simpa using hq.symm
      · rw [hget_len (by simp; omega)] at hg; cases hg
    rcases place g1 q1 with ⟨_, k1, k2, k3⟩ | ⟨rfl, rfl⟩
    · rcases place g2 q2 with ⟨_, k4, k5, k6⟩ | ⟨rfl, rfl⟩
      · exact h.sep b1 b2 C1 C2 e1 e2 l1 l2 m2 p1 p2 hne k1 k4 k2 k5 hblk i j hi hj hst
      · omega
    · rcases place g2 q2 with ⟨_, k4, k5, k6⟩ | ⟨rfl, rfl⟩
      · omega
      · exact absurd rfl hne
  isep b1 b2 s1 s2 o1 o2 p1 p2 hne g1 g2 q1 q2 := by
    have place : ∀ {b : Nat} {s : ByteArray} {o : Nat} {q : Place}, hget (H ++ [.row C esz l m]) b = .iter s o → (μ ++ [p])[b]? = some q →
        (hget H b = .iter s o ∧ μ[b]? = some q) := by
      intro b s o q hg hq
      rcases Nat.lt_trichotomy b H.length with hlt | heq | hgt
      · rw [hget_append_lt hlt] at hg
        rw [List.getElem?_append_left (by rw [h.len]; exact hlt)] at hq
        exact ⟨hg, hq⟩
      · subst heq
        have := hget_append_ge (H := H) (G := [.row C esz l m]) 0
        simp only [Nat.add_zero] at this
        rw [this] at hg
        cases hg
      · rw [hget_len (by simp; omega)] at hg; cases hg
    obtain ⟨a1, a2⟩ := place g1 q1
    obtain ⟨c1, c2⟩ := place g2 q2
    exact h.isep b1 b2 s1 s2 o1 o2 p1 p2 hne a1 c1 a2 c2

/-- A fresh variable. -/
theorem HR.fresh {μ : Mu} {H : VH} {w : World} (h : HR μ H w) {zs zs' : List Value} (hz : VRs μ zs zs') (T : TypeId) :
    HR (μ ++ [⟨w.heap.size, 0, zs.length, some zs.length⟩]) (H ++ [.row raw zs.length [zs] .own]) { w with heap := w.heap.push (.cells ⟨zs'⟩ T (0, 0)) } := by
  have hb : ∀ k, k < w.heap.size → (w.heap.push (.cells ⟨zs'⟩ T (0, 0)))[k]? = w.heap[k]? := fun k hk => by
    rw [Array.getElem?_push]; simp [Nat.ne_of_lt hk]
  have hcell : ∀ i, ({ w with heap := w.heap.push (.cells ⟨zs'⟩ T (0, 0)) } : World).cell? ⟨w.heap.size, i, none⟩ = zs'[i]? := fun i => by
    simp [World.cell?]
  refine h.snoc (w' := { w with heap := w.heap.push (.cells ⟨zs'⟩ T (0, 0)) }) hb (by simp) (Nat.le_refl _) ⟨rfl, by simp, ?_, ?_, ?_⟩
  · intro x hx
    simp only [List.mem_singleton] at hx
    subst hx
    rfl
  · intro i j x v h1 h2
    cases i with
    | succ i => simp at h1
    | zero =>
      simp only [List.getElem?_cons_zero, Option.some.injEq] at h1
      subst h1
      obtain ⟨v', k1, k2⟩ := hz.get (show zs[j]? = some v from h2)
      refine ⟨v', ?_, k2.mono (mu_snoc _ _)⟩
      have := hcell j
      simpa [Place.at] using this.trans k1
  · intro _
    refine ⟨zs.length, rfl, by simp, fun i hi => ⟨?_, ?_⟩⟩
    · rw [Nat.zero_add, hcell]
      exact ⟨_, List.getElem?_eq_getElem (by rw [hz.length]; exact hi)⟩
    · simp [World.frozen?]

theorem setFrom_spec {C : Codec} : ∀ (cs : List Value) (x y : C.α) (j : Nat), setFrom C x j cs = some y → j + cs.length ≤ (C.enc x).length →
    (C.enc y).length = (C.enc x).length ∧ (∀ q, q < j ∨ j + cs.length ≤ q → (C.enc y)[q]? = (C.enc x)[q]?) ∧ (∀ q, q < cs.length → (C.enc y)[j + q]? = cs[q]?) ∧ (∀ v ∈ cs, cellV v = true)
  | [], x, y, j, h, _ => by
    obtain rfl := Option.some.inj h
    exact ⟨rfl, fun _ _ => rfl, fun q hq => by simp at hq, fun v hv => by simp at hv⟩
  | v :: r, x, y, j, h, hlen => by
    unfold setFrom at h
    cases hok : (C.okv j v && cellV v) with
    | false => rw [hok] at h; cases h
    | true =>
      rw [hok] at h
      simp only [cond_true] at h
      simp only [Bool.and_eq_true] at hok
      have he := C.h_set x j v hok.1
      simp only [List.length_cons] at hlen ⊢
      obtain ⟨k1, k2, k3, k4⟩ := setFrom_spec r (C.set x j v) y (j + 1) h (by rw [he]; simp; omega)
      refine ⟨by rw [k1, he]; simp, fun q hq => ?_, fun q hq => ?_, ?_⟩
      · rw [k2 q (by omega), he]
        rw [List.getElem?_set_ne (by omega)]
      · cases q with
        | zero =>
          have hjl : j < (C.enc x).length := by omega
          rw [Nat.add_zero, k2 j (by omega), he]
          simp [hjl]
        | succ q =>
          rw [show j + (q + 1) = j + 1 + q by omega, k3 q (by omega)]
          simp
      · intro u hu
        rcases List.mem_cons.1 hu with rfl | hu
        · exact hok.2
        · exact k4 u hu

theorem cellsV_all : ∀ {l : List Value}, cellsV l = true → ∀ v ∈ l, cellV v = true
  | [], _, v, h => by cases h
  | u :: l, h, v, hv => by
    simp only [cellsV, Bool.and_eq_true] at h
    rcases List.mem_cons.1 hv with rfl | hv
    · exact h.1
    · exact cellsV_all h.2 v hv

theorem setAll_spec {C : Codec} {esz : Nat} (cs : List Value) (x y : C.α) (j : Nat) (h : setAll C esz x j cs = some y) (hlen : j + cs.length ≤ (C.enc x).length) (he : (C.enc x).length = esz) :
    (C.enc y).length = (C.enc x).length ∧ (∀ q, q < j ∨ j + cs.length ≤ q → (C.enc y)[q]? = (C.enc x)[q]?) ∧ (∀ q, q < cs.length → (C.enc y)[j + q]? = cs[q]?) ∧ (∀ v ∈ cs, cellV v = true) := by
  unfold setAll at h
  cases hb : ((Nat.beq cs.length esz && Nat.beq j 0) && (C.okl cs && cellsV cs)) with
  | false =>
    rw [hb] at h
    simp only [cond_false] at h
    cases hb2 : (Nat.ble 4 cs.length && (C.okl (splice (C.enc x) j cs) && cellsV cs)) with
    | false => rw [hb2] at h; exact setFrom_spec cs x y j h hlen
    | true =>
      rw [hb2] at h
      obtain rfl := Option.some.inj h
      simp only [Bool.and_eq_true] at hb2
      rw [C.h_dec _ hb2.2.1]
      refine ⟨splice_len hlen, fun q hq => ?_, fun q hq => ?_, cellsV_all hb2.2.2⟩
      · unfold splice
        rcases hq with hq | hq
        · rw [List.getElem?_append_left (by rw [List.length_take]; omega), List.getElem?_take_of_lt hq]
        · rw [List.getElem?_append_right (by rw [List.length_take]; omega), List.length_take, List.getElem?_append_right (by omega), List.getElem?_drop]
          congr 1
          omega
      · unfold splice
        rw [List.getElem?_append_right (by rw [List.length_take]; omega), List.length_take, List.getElem?_append_left (by omega)]
        congr 1
        omega
  | true =>
    rw [hb] at h
    obtain rfl := Option.some.inj h
    simp only [Bool.and_eq_true] at hb
    obtain ⟨⟨h2, h1⟩, h3, h4⟩ := hb
    obtain rfl := Nat.eq_of_beq_eq_true h1
    have h2 := Nat.eq_of_beq_eq_true h2
    rw [C.h_dec cs h3]
    refine ⟨by omega, fun q hq => ?_, fun q _ => by rw [Nat.zero_add], cellsV_all h4⟩
    rw [List.getElem?_eq_none (by omega), List.getElem?_eq_none (by omega)]

theorem cellV_one {μ : Mu} {v v' : Value} (h : VR μ v v') (hc : cellV v = true) : v'.oneCell' = true := by
  cases h <;> first | rfl | cases hc

theorem VRs.ones {μ : Mu} : ∀ {l l' : List Value}, VRs μ l l' → (∀ v ∈ l, cellV v = true) → ∀ v ∈ l', v.oneCell' = true
  | _, _, .nil, _, v, hv => by simp at hv
  | _, _, .cons a b, h, v, hv => by
    rcases List.mem_cons.1 hv with rfl | hv
    · exact cellV_one a (h _ (by simp))
    · exact VRs.ones b (fun u hu => h u (by simp [hu])) v hv

theorem cell_apart {e i j i' j' : Nat} (hj : j < e) (hj' : j' < e) (h : i ≠ i') : i * e + j ≠ i' * e + j' := by
  intro heq
  rcases Nat.lt_or_gt_of_ne h with h' | h'
  · have : (i + 1) * e ≤ i' * e := Nat.mul_le_mul_right e h'
    rw [Nat.add_mul] at this
    omega
  · have : (i' + 1) * e ≤ i * e := Nat.mul_le_mul_right e h'
    rw [Nat.add_mul] at this
    omega

theorem size_setCells (b : Nat) : ∀ (vs : List Value) (o : Nat) (w : World), (w.setCells b o vs).heap.size = w.heap.size
  | [], _, _ => rfl
  | v :: r, o, w => by
    rw [World.setCells, size_setCells b r]
    simp [World.setCell]

theorem heap_setCells_ne (b : Nat) {k : Nat} (hk : k ≠ b) : ∀ (vs : List Value) (o : Nat) (w : World), (w.setCells b o vs).heap[k]? = w.heap[k]?
  | [], _, _ => rfl
  | v :: r, o, w => by
    rw [World.setCells, heap_setCells_ne b hk r]
    exact Below.heap_setCell w ⟨b, o, none⟩ v k hk

theorem fade_row {X : VB} {C : Codec} {e : Nat} {l : List C.α} {m : VMode} (h : X.fade = .row C e l m) : X = .row C e l m ∧ m ≠ .stale := by
  cases X with
  | row C' e' l' m' =>
    cases m' with
    | own => simp only [VB.fade] at h; cases h; exact ⟨rfl, by intro h; cases h⟩
    | ro => simp only [VB.fade] at h; cases h; exact ⟨rfl, by intro h; cases h⟩
    | stale => simp only [VB.fade] at h; cases h
  | iter s p => simp only [VB.fade] at h; cases h
  | dead => simp only [VB.fade] at h; cases h

theorem fade_iter {X : VB} {s : ByteArray} {o : Nat} (h : X.fade = .iter s o) : X = .iter s o := by
  cases X with
  | row C' e' l' m' => cases m' <;> simp only [VB.fade] at h <;> cases h
  | iter s p => simpa only [VB.fade] using h
  | dead => simp only [VB.fade] at h; cases h

/-- A store into an own row. -/
theorem HR.store {P : Program} {μ : Mu} {H : VH} {w : World} (h : HR μ H w) {b : Nat} {C : Codec} {esz : Nat} {l : List C.α} {p : Place} (hg : hget H b = .row C esz l .own) (hp : μ[b]? = some p)
    {i j : Nat} {cs cs' : List Value} {x : C.α} (hi : i < l.length) (hj : j + cs.length ≤ esz) (hs : setAll C esz (nth C l i) j cs = some x) (hv : VRs μ cs cs') :
    (storeCells (p.at i j) cs').run P w = .ok () (w.setCells p.blk (p.base + i * esz + j) cs') ∧
    HR μ ((hset H b (.row C esz (l.set i x) .own)).map VB.fade) (w.setCells p.blk (p.base + i * esz + j) cs') := by
  obtain ⟨p', hp', r⟩ := h.row _ _ _ _ _ hg
  obtain rfl : p' = p := Option.some.inj (hp'.symm.trans hp)
  obtain ⟨L, hL, hlen, hcell⟩ := r.own rfl
  have hn : cs'.length = cs.length := hv.length
  have hmem : nth C l i ∈ l := List.mem_of_getElem? (nth_some hi)
  have hel : (C.enc (nth C l i)).length = esz := r.lens _ hmem
  obtain ⟨s1, s2, s3, s4⟩ := setAll_spec cs (nth C l i) x j hs (by rw [hel]; exact hj) hel
  have hreg : ∀ i', i' < l.length → i' * esz + esz ≤ L := fun i' hi' => by
    have : (i' + 1) * esz ≤ l.length * esz := Nat.mul_le_mul_right esz hi'
    rw [Nat.add_mul] at this
    omega
  have hri := hreg i hi
  have hin : ∀ q, q < cs'.length → (∃ v, w.cell? ⟨p'.blk, p'.base + i * esz + j + q, none⟩ = some v) ∧ w.frozen? ⟨p'.blk, p'.base + i * esz + j + q, none⟩ = false := fun q hq => by
    have := hcell (i * esz + j + q) (by omega)
    rwa [show p'.base + (i * esz + j + q) = p'.base + i * esz + j + q by omega] at this
  have hat : p'.at i j = ⟨p'.blk, p'.base + i * esz + j, none⟩ := by unfold Place.at; rw [r.pe]
  generalize ho : p'.base + i * esz + j = o at *
  have hout : ∀ (k f : Nat), (k = p'.blk → f < o ∨ o + cs'.length ≤ f) → (w.setCells p'.blk o cs').cell? ⟨k, f, none⟩ = w.cell? ⟨k, f, none⟩ :=
    fun k f hf => World.cell?_setCells_out p'.blk cs' o w ⟨k, f, none⟩ (fun hb _ => hf hb)
  have hins : ∀ (q : Nat) (hq : q < cs'.length), (w.setCells p'.blk o cs').cell? ⟨p'.blk, o + q, none⟩ = some cs'[q] :=
    fun q hq => World.cell?_setCells_in p'.blk cs' o w (fun j hj => by obtain ⟨v, hv⟩ := (hin j hj).1; rw [hv]; rfl) q hq
  have hfz : ∀ a, (w.setCells p'.blk o cs').frozen? a = w.frozen? a := fun a => World.frozen?_setCells p'.blk cs' o w a
  constructor
  · rw [hat]
    have := run_storeCells_cells (P := P) p'.blk o cs' 0 w (fun q hq => by obtain ⟨v, hv⟩ := (hin q hq).1; simp [hv]) (fun q hq => by simpa using (hin q hq).2) (hv.ones s4)
    simpa using this
  · have hnew : ∀ b', hget ((hset H b (.row C esz (l.set i x) .own)).map VB.fade) b' = (hget (hset H b (.row C esz (l.set i x) .own)) b').fade := fun b' => hget_map _ rfl
    have hbl : b < H.length := by rw [← h.len]; exact mu_lt hp
    -- what stands at a place behind the store
    have old : ∀ {b' : Nat} {C' : Codec} {e' : Nat} {l' : List C'.α} {m' : VMode}, hget ((hset H b (.row C esz (l.set i x) .own)).map VB.fade) b' = .row C' e' l' m' →
        (b' = b ∧ (VB.row C' e' l' m' = VB.row C esz (l.set i x) .own)) ∨ (b' ≠ b ∧ hget H b' = .row C' e' l' m' ∧ m' ≠ .stale) := by
      intro b' C' e' l' m' hg'
      rw [hnew] at hg'
      obtain ⟨k1, k2⟩ := fade_row hg'
      by_cases hbb : b' = b
      · subst hbb
        rw [hget_set_eq hbl] at k1
        exact .inl ⟨rfl, k1.symm⟩
      · rw [hget_set_ne (Ne.symm hbb)] at k1
        exact .inr ⟨hbb, k1, k2⟩
    have oldI : ∀ {b' : Nat} {s : ByteArray} {f : Nat}, hget ((hset H b (.row C esz (l.set i x) .own)).map VB.fade) b' = .iter s f → hget H b' = .iter s f := by
      intro b' s f hg'
      rw [hnew] at hg'
      have k1 := fade_iter hg'
      by_cases hbb : b' = b
      · subst hbb
        rw [hget_set_eq hbl] at k1
        cases k1
      · rwa [hget_set_ne (Ne.symm hbb)] at k1
    refine ⟨by simp [hset_len, h.len], ?_, ?_, ?_, ?_⟩
    · intro b' C' e' l' m' hg'
      rcases old hg' with ⟨rfl, heq⟩ | ⟨hbb, k1, k2⟩
      · cases heq
        refine ⟨p', hp, r.pe, by rw [size_setCells]; exact r.blk, ?_, ?_, ?_⟩
        · intro y hy
          rcases List.mem_or_eq_of_mem_set hy with hy | rfl
          · exact r.lens y hy
          · rw [s1, hel]
        · intro i' j' y v h1 h2
          have hel' : (C.enc y).length = esz := by
            rcases List.mem_or_eq_of_mem_set (List.mem_of_getElem? h1) with hy | rfl
            · exact r.lens y hy
            · rw [s1, hel]
          have hj' : j' < esz := by rw [← hel']; exact (List.getElem?_eq_some_iff.1 h2).1
          by_cases hii : i' = i
          · subst hii
            rw [List.getElem?_set_self hi] at h1
            obtain rfl := Option.some.inj h1
            rcases Nat.lt_or_ge j' j with hlt | hge
            · rw [s2 j' (.inl hlt)] at h2
              obtain ⟨v', k1, k2⟩ := r.cells i' j' _ v (nth_some hi) h2
              refine ⟨v', ?_, k2⟩
              unfold Place.at at k1 ⊢
              rw [hout _ _ (fun _ => .inl (by rw [r.pe]; omega))]
              exact k1
            · rcases Nat.lt_or_ge j' (j + cs.length) with hlt | hge2
              · have h3 := s3 (j' - j) (by omega)
                rw [show j + (j' - j) = j' by omega, h2] at h3
                obtain ⟨v', k1, k2⟩ := hv.get h3.symm
                refine ⟨v', ?_, k2⟩
                have hq : j' - j < cs'.length := by omega
                have := hins (j' - j) hq
                rw [List.getElem?_eq_getElem hq] at k1
                obtain rfl := Option.some.inj k1
                unfold Place.at
                rw [r.pe, show p'.base + i' * esz + j' = o + (j' - j) by omega]
                exact this
              · rw [s2 j' (.inr hge2)] at h2
                obtain ⟨v', k1, k2⟩ := r.cells i' j' _ v (nth_some hi) h2
                refine ⟨v', ?_, k2⟩
                unfold Place.at at k1 ⊢
                rw [hout _ _ (fun _ => .inr (by rw [r.pe]; omega))]
                exact k1
          · rw [List.getElem?_set_ne (Ne.symm hii)] at h1
            obtain ⟨v', k1, k2⟩ := r.cells i' j' y v h1 h2
            refine ⟨v', ?_, k2⟩
            unfold Place.at at k1 ⊢
            rw [hout _ _ (fun _ => ?_)]
            · exact k1
            · rw [r.pe]
              rcases Nat.lt_or_gt_of_ne hii with h' | h'
              · left
                have : (i' + 1) * esz ≤ i * esz := Nat.mul_le_mul_right esz h'
                rw [Nat.add_mul] at this
                omega
              · right
                have : (i + 1) * esz ≤ i' * esz := Nat.mul_le_mul_right esz h'
                rw [Nat.add_mul] at this
                omega
        · intro _
          refine ⟨L, hL, by rw [List.length_set]; exact hlen, fun q hq => ⟨?_, by rw [hfz]; exact (hcell q hq).2⟩⟩
          by_cases hr : o ≤ p'.base + q ∧ p'.base + q < o + cs'.length
          · have hq2 : p'.base + q - o < cs'.length := by omega
            exact ⟨_, by have := hins (p'.base + q - o) hq2; rwa [show o + (p'.base + q - o) = p'.base + q by omega] at this⟩
          · rw [hout _ _ (fun _ => by omega)]
            exact (hcell q hq).1
      · obtain ⟨q, hq, rq⟩ := h.row _ _ _ _ _ k1
        have hdis : ∀ f, f < ext q m' (l'.length * e') → q.blk = p'.blk → q.base + f < o ∨ o + cs'.length ≤ q.base + f := fun f hf hblk => by
          have hs := h.sep b b' C C' esz e' l l' m' p' q (Ne.symm hbb) hg k1 hp hq hblk.symm
          rcases Nat.lt_or_ge (q.base + f) o with h' | h'
          · exact .inl h'
          · rcases Nat.lt_or_ge (q.base + f) (o + cs'.length) with h'' | h''
            · exfalso
              refine hs (q.base + f - p'.base) f ?_ hf (fun hst => absurd hst k2) (by omega)
              rw [hL]
              simp only [Option.getD_some]
              omega
            · exact .inr h''
        refine ⟨q, hq, rq.pe, by rw [size_setCells]; exact rq.blk, rq.lens, ?_, ?_⟩
        · intro i' j' y v h1 h2
          obtain ⟨v', k3, k4⟩ := rq.cells i' j' y v h1 h2
          refine ⟨v', ?_, k4⟩
          unfold Place.at at k3 ⊢
          have hj' : j' < e' := by rw [← rq.lens y (List.mem_of_getElem? h1)]; exact (List.getElem?_eq_some_iff.1 h2).1
          have hi' : i' < l'.length := (List.getElem?_eq_some_iff.1 h1).1
          have hle : i' * e' + e' ≤ l'.length * e' := by
            have : (i' + 1) * e' ≤ l'.length * e' := Nat.mul_le_mul_right e' hi'
            rw [Nat.add_mul] at this
            omega
          have hx : l'.length * e' ≤ ext q m' (l'.length * e') := by
            cases m' with
            | own =>
              obtain ⟨L2, z1, z2, _⟩ := rq.own rfl
              simp only [ext, z1, Option.getD_some]
              exact z2
            | ro => exact Nat.le_refl _
            | stale => exact Nat.le_refl _
          rw [hout _ _ (fun hb => ?_)]
          · exact k3
          · have := hdis (i' * e' + j') (by omega) hb
            rw [rq.pe]
            omega
        · intro ho'
          obtain ⟨L2, z1, z2, z3⟩ := rq.own ho'
          refine ⟨L2, z1, z2, fun f hf => ⟨?_, by rw [hfz]; exact (z3 f hf).2⟩⟩
          rw [hout _ _ (fun hb => ?_)]
          · exact (z3 f hf).1
          · refine hdis f ?_ hb
            subst ho'
            simp only [ext, z1, Option.getD_some]
            exact hf
    · intro b' s f hg'
      obtain ⟨q, hq, k1, k2⟩ := h.iter b' s f (oldI hg')
      refine ⟨q, hq, ?_, k2⟩
      rcases Nat.eq_zero_or_pos L with hL0 | hLp
      · have h0 : cs'.length = 0 := by omega
        rw [List.length_eq_zero_iff.1 h0]
        exact k1
      · rw [heap_setCells_ne]
        · exact k1
        · intro hqb
          obtain ⟨v, hv0⟩ := (hcell 0 hLp).1
          rw [← hqb] at hv0
          simp [World.cell?, k1] at hv0
    · intro b1 b2 C1 C2 e1 e2 l1 l2 m2 p1 p2 hne g1 g2 q1 q2 hblk i1 j1 hi1 hj1 hst
      have key : ∀ {b' : Nat} {C' : Codec} {e' : Nat} {l' : List C'.α} {m' : VMode}, hget ((hset H b (.row C esz (l.set i x) .own)).map VB.fade) b' = .row C' e' l' m' →
          ∃ (C'' : Codec) (l'' : List C''.α), hget H b' = .row C'' e' l'' m' ∧ l''.length = l'.length ∧ m' ≠ .stale := by
        intro b' C' e' l' m' hg'
        rcases old hg' with ⟨rfl, heq⟩ | ⟨hbb, k1, k2⟩
        · cases heq
          exact ⟨C, l, hg, by simp, by intro h; cases h⟩
        · exact ⟨C', l', k1, rfl, k2⟩
      obtain ⟨C3, l3, z1, z2, _⟩ := key g1
      obtain ⟨C4, l4, z3, z4, z5⟩ := key g2
      exact h.sep b1 b2 C3 C4 e1 e2 l3 l4 m2 p1 p2 hne z1 z3 q1 q2 hblk i1 j1 hi1 (by rw [z4]; exact hj1) (fun hst' => absurd hst' z5)
    · intro b1 b2 s1' s2' o1 o2 p1 p2 hne g1 g2 q1 q2
      exact h.isep b1 b2 s1' s2' o1 o2 p1 p2 hne (oldI g1) (oldI g2) q1 q2

/-- A new block that is no row of cells. -/
theorem HR.snocIter {μ : Mu} {H : VH} {w : World} (h : HR μ H w) (s : ByteArray) (o : Nat) :
    HR (μ ++ [⟨w.heap.size, 0, 0, some 0⟩]) (H ++ [.iter s o]) { w with heap := w.heap.push (.stringIter s o) } := by
  have hb : ∀ k, k < w.heap.size → (w.heap.push (.stringIter s o))[k]? = w.heap[k]? := fun k hk => by
    rw [Array.getElem?_push]; simp [Nat.ne_of_lt hk]
  have hl := h.later (w' := { w with heap := w.heap.push (.stringIter s o) }) hb (by simp)
  have split : ∀ {b : Nat} {X : VB}, hget (H ++ [.iter s o]) b = X → X ≠ .dead → (b < H.length ∧ hget H b = X ∧ (μ ++ [(⟨w.heap.size, 0, 0, some 0⟩ : Place)])[b]? = μ[b]?) ∨ (b = H.length ∧ X = .iter s o ∧ (μ ++ [(⟨w.heap.size, 0, 0, some 0⟩ : Place)])[b]? = some ⟨w.heap.size, 0, 0, some 0⟩) := by
    intro b X hg hX
    rcases Nat.lt_trichotomy b H.length with hlt | heq | hgt
    · left
      rw [hget_append_lt hlt] at hg
      exact ⟨hlt, hg, List.getElem?_append_left (by rw [h.len]; exact hlt)⟩
    · right
      subst heq
      have := hget_append_ge (H := H) (G := [.iter s o]) 0
      simp only [Nat.add_zero] at this
      rw [this] at hg
      exact ⟨rfl, hg.symm, by rw [← h.len]; simp⟩
    · rw [hget_len (by simp; omega)] at hg; exact absurd hg.symm hX
  refine ⟨by simp [h.len], ?_, ?_, ?_, ?_⟩
  · intro b C e l m hg
    rcases split hg (by intro hh; cases hh) with ⟨_, k1, k2⟩ | ⟨_, k1, _⟩
    · obtain ⟨p, hp, r⟩ := hl.row b C e l m k1
      exact ⟨p, by rw [k2]; exact hp, ⟨r.pe, r.blk, r.lens, fun i j x v h1 h2 => by obtain ⟨v', a1, a2⟩ := r.cells i j x v h1 h2; exact ⟨v', a1, a2.mono (mu_snoc _ _)⟩, r.own⟩⟩
    · cases k1
  · intro b s' o' hg
    rcases split hg (by intro hh; cases hh) with ⟨_, k1, k2⟩ | ⟨_, k1, k2⟩
    · obtain ⟨p, hp, r⟩ := hl.iter b s' o' k1
      exact ⟨p, by rw [k2]; exact hp, r⟩
    · cases k1
      exact ⟨_, k2, by simp, rfl⟩
  · intro b1 b2 C1 C2 e1 e2 l1 l2 m2 p1 p2 hne g1 g2 q1 q2
    rcases split g1 (by intro hh; cases hh) with ⟨_, k1, k2⟩ | ⟨_, k1, _⟩
    · rcases split g2 (by intro hh; cases hh) with ⟨_, k3, k4⟩ | ⟨_, k3, _⟩
      · exact h.sep b1 b2 C1 C2 e1 e2 l1 l2 m2 p1 p2 hne k1 k3 (by rw [← k2]; exact q1) (by rw [← k4]; exact q2)
      · cases k3
    · cases k1
  · intro b1 b2 s1 s2 o1 o2 p1 p2 hne g1 g2 q1 q2
    have lt : ∀ {b : Nat} {s' : ByteArray} {o' : Nat} {p : Place}, hget H b = .iter s' o' → μ[b]? = some p → p.blk < w.heap.size := by
      intro b s' o' p hg hp
      obtain ⟨p', hp', k1, _⟩ := h.iter b s' o' hg
      obtain rfl : p' = p := Option.some.inj (hp'.symm.trans hp)
      rcases Nat.lt_or_ge p'.blk w.heap.size with h' | h'
      · exact h'
      · rw [Array.getElem?_eq_none h'] at k1; cases k1
    rcases split g1 (by intro hh; cases hh) with ⟨_, k1, k2⟩ | ⟨rfl, k1, k2⟩
    · rw [k2] at q1
      rcases split g2 (by intro hh; cases hh) with ⟨_, k3, k4⟩ | ⟨rfl, k3, k4⟩
      · rw [k4] at q2
        exact h.isep b1 b2 s1 s2 o1 o2 p1 p2 hne k1 k3 q1 q2
      · rw [k4] at q2
        obtain rfl := Option.some.inj q2
        exact Nat.ne_of_lt (lt k1 q1)
    · rw [k2] at q1
      obtain rfl := Option.some.inj q1
      rcases split g2 (by intro hh; cases hh) with ⟨_, k3, k4⟩ | ⟨rfl, k3, k4⟩
      · rw [k4] at q2
        exact Nat.ne_of_gt (lt k3 q2)
      · exact absurd rfl hne

/-- An iterator that has gone on. -/
theorem HR.setIter {μ : Mu} {H : VH} {w : World} (h : HR μ H w) {b : Nat} {s : ByteArray} {o o2 : Nat} {p : Place} (hg : hget H b = .iter s o) (hp : μ[b]? = some p) :
    HR μ (hset H b (.iter s o2)) { w with heap := w.heap.setIfInBounds p.blk (.stringIter s o2) } := by
  have hbl : b < H.length := by rw [← h.len]; exact mu_lt hp
  obtain ⟨p', hp', k1, k2⟩ := h.iter b s o hg
  obtain rfl : p' = p := Option.some.inj (hp'.symm.trans hp)
  have hlt : p'.blk < w.heap.size := by
    rcases Nat.lt_or_ge p'.blk w.heap.size with h' | h'
    · exact h'
    · rw [Array.getElem?_eq_none h'] at k1; cases k1
  have hne : ∀ k, k ≠ p'.blk → (w.heap.setIfInBounds p'.blk (.stringIter s o2))[k]? = w.heap[k]? := fun k hk => Array.getElem?_setIfInBounds_ne (Ne.symm hk)
  have row : ∀ {b' : Nat} {C : Codec} {e : Nat} {l : List C.α} {m : VMode}, hget (hset H b (.iter s o2)) b' = .row C e l m → hget H b' = .row C e l m := by
    intro b' C e l m hg'
    by_cases hbb : b' = b
    · subst hbb; rw [hget_set_eq hbl] at hg'; cases hg'
    · rwa [hget_set_ne (Ne.symm hbb)] at hg'
  refine ⟨by rw [hset_len]; exact h.len, ?_, ?_, ?_, ?_⟩
  · intro b' C e l m hg'
    obtain ⟨q, hq, r⟩ := h.row b' C e l m (row hg')
    -- no row lies in the iterator's block, but where it has no cell
    by_cases hqb : q.blk = p'.blk
    · have nocell : ∀ f, w.cell? ⟨q.blk, f, none⟩ = none := fun f => by simp [World.cell?, hqb, k1]
      refine ⟨q, hq, r.pe, by simpa using r.blk, r.lens, fun i j x v h1 h2 => ?_, fun ho => ?_⟩
      · obtain ⟨v', c1, _⟩ := r.cells i j x v h1 h2
        rw [Place.at, nocell] at c1
        cases c1
      · obtain ⟨L, h1, h2, h3⟩ := r.own ho
        refine ⟨L, h1, h2, fun i hi => ?_⟩
        obtain ⟨⟨v, hv⟩, _⟩ := h3 i hi
        rw [nocell] at hv
        cases hv
    · have hc : ∀ f, ({ w with heap := w.heap.setIfInBounds p'.blk (.stringIter s o2) } : World).cell? ⟨q.blk, f, none⟩ = w.cell? ⟨q.blk, f, none⟩ := fun f => World.cell?_of_block (hne _ hqb)
      have hf : ∀ f, ({ w with heap := w.heap.setIfInBounds p'.blk (.stringIter s o2) } : World).frozen? ⟨q.blk, f, none⟩ = w.frozen? ⟨q.blk, f, none⟩ := fun f => World.frozen?_of_block (hne _ hqb)
      refine ⟨q, hq, r.pe, by simpa using r.blk, r.lens, fun i j x v h1 h2 => ?_, fun ho => ?_⟩
      · obtain ⟨v', c1, c2⟩ := r.cells i j x v h1 h2
        exact ⟨v', by rw [Place.at, hc]; exact c1, c2⟩
      · obtain ⟨L, h1, h2, h3⟩ := r.own ho
        exact ⟨L, h1, h2, fun i hi => by rw [hc, hf]; exact h3 i hi⟩
  · intro b' s' o' hg'
    by_cases hbb : b' = b
    · subst hbb
      rw [hget_set_eq hbl] at hg'
      cases hg'
      exact ⟨p', hp, by simp [hlt], k2⟩
    · rw [hget_set_ne (Ne.symm hbb)] at hg'
      obtain ⟨q, hq, c1, c2⟩ := h.iter b' s' o' hg'
      exact ⟨q, hq, by rw [hne _ (h.isep b' b s' s o' o q p' hbb hg' hg hq hp)]; exact c1, c2⟩
  · intro b1 b2 C1 C2 e1 e2 l1 l2 m2 p1 p2 hne' g1 g2
    exact h.sep b1 b2 C1 C2 e1 e2 l1 l2 m2 p1 p2 hne' (row g1) (row g2)
  · intro b1 b2 s1 s2 o1 o2' p1 p2 hne' g1 g2 q1 q2
    have it : ∀ {b' : Nat} {s' : ByteArray} {o' : Nat}, hget (hset H b (.iter s o2)) b' = .iter s' o' → ∃ o'', hget H b' = .iter s' o'' := by
      intro b' s' o' hg'
      by_cases hbb : b' = b
      · subst hbb; rw [hget_set_eq hbl] at hg'; cases hg'; exact ⟨_, hg⟩
      · rw [hget_set_ne (Ne.symm hbb)] at hg'; exact ⟨_, hg'⟩
    obtain ⟨a1, z1⟩ := it g1
    obtain ⟨a2, z2⟩ := it g2
    exact h.isep b1 b2 s1 s2 a1 a2 p1 p2 hne' z1 z2 q1 q2

/-- A row that is grown no more. -/
theorem HR.stale {μ : Mu} {H : VH} {w : World} (h : HR μ H w) {b : Nat} {C : Codec} {esz : Nat} {l : List C.α} (hg : hget H b = .row C esz l .own) :
    HR μ (hset H b (.row C esz l .stale)) w := by
  obtain ⟨p, hp, r⟩ := h.row _ _ _ _ _ hg
  have hbl : b < H.length := by rw [← h.len]; exact mu_lt hp
  obtain ⟨L, hL, hlen, hcell⟩ := r.own rfl
  have row : ∀ {b' : Nat} {C' : Codec} {e' : Nat} {l' : List C'.α} {m' : VMode}, hget (hset H b (.row C esz l .stale)) b' = .row C' e' l' m' →
      (b' = b ∧ VB.row C' e' l' m' = .row C esz l .stale) ∨ (b' ≠ b ∧ hget H b' = .row C' e' l' m') := by
    intro b' C' e' l' m' hg'
    by_cases hbb : b' = b
    · subst hbb; rw [hget_set_eq hbl] at hg'; exact .inl ⟨rfl, hg'.symm⟩
    · rw [hget_set_ne (Ne.symm hbb)] at hg'; exact .inr ⟨hbb, hg'⟩
  have it : ∀ {b' : Nat} {s' : ByteArray} {o' : Nat}, hget (hset H b (.row C esz l .stale)) b' = .iter s' o' → hget H b' = .iter s' o' := by
    intro b' s' o' hg'
    by_cases hbb : b' = b
    · subst hbb; rw [hget_set_eq hbl] at hg'; cases hg'
    · rwa [hget_set_ne (Ne.symm hbb)] at hg'
  refine ⟨by rw [hset_len]; exact h.len, ?_, fun b' s' o' hg' => h.iter b' s' o' (it hg'), ?_, fun b1 b2 s1 s2 o1 o2 p1 p2 hne g1 g2 => h.isep b1 b2 s1 s2 o1 o2 p1 p2 hne (it g1) (it g2)⟩
  · intro b' C' e' l' m' hg'
    rcases row hg' with ⟨rfl, heq⟩ | ⟨hbb, k1⟩
    · cases heq
      exact ⟨p, hp, r.pe, r.blk, r.lens, r.cells, fun hh => by cases hh⟩
    · exact h.row b' C' e' l' m' k1
  · intro b1 b2 C1 C2 e1 e2 l1 l2 m2 p1 p2 hne g1 g2 q1 q2 hblk i j hi hj hst
    rcases row g1 with ⟨_, heq⟩ | ⟨_, k1⟩
    · cases heq
    · rcases row g2 with ⟨rfl, heq⟩ | ⟨_, k2⟩
      · cases heq
        obtain rfl : p2 = p := Option.some.inj (q2.symm.trans hp)
        refine h.sep b1 b2 C1 C e1 esz l1 l .own p1 p2 hne k1 hg q1 q2 hblk i j hi ?_ (fun hh => by cases hh)
        simp only [ext] at hj ⊢
        rw [hL]
        simp only [Option.getD_some]
        omega
      · exact h.sep b1 b2 C1 C2 e1 e2 l1 l2 m2 p1 p2 hne k1 k2 q1 q2 hblk i j hi hj hst

def flat (C : Codec) : List C.α → List Value
  | [] => []
  | y :: r => C.enc y ++ flat C r

theorem flat_get {C : Codec} {e : Nat} : ∀ {ys : List C.α}, (∀ y ∈ ys, (C.enc y).length = e) → ∀ {i j : Nat} {y : C.α}, ys[i]? = some y → j < e → (flat C ys)[i * e + j]? = (C.enc y)[j]?
  | [], _, i, j, y, h, _ => by simp at h
  | x :: r, hl, i, j, y, h, hj => by
    have hx := hl x (by simp)
    cases i with
    | zero =>
      simp at h
      subst h
      simp only [flat, Nat.zero_mul, Nat.zero_add]
      rw [List.getElem?_append_left (by omega)]
    | succ i =>
      simp only [flat]
      rw [Nat.succ_mul, List.getElem?_append_right (by omega), hx, show i * e + e + j - e = i * e + j by omega]
      exact flat_get (fun y hy => hl y (by simp [hy])) (by simpa using h) hj

theorem flat_len {C : Codec} {e : Nat} : ∀ {ys : List C.α}, (∀ y ∈ ys, (C.enc y).length = e) → (flat C ys).length = ys.length * e
  | [], _ => by simp [flat]
  | x :: r, hl => by
    simp only [flat, List.length_append, List.length_cons, hl x (by simp), flat_len (ys := r) (fun y hy => hl y (by simp [hy])), Nat.succ_mul]
    omega

/-- What is added behind an own row, in its own room. -/
theorem HR.grow {P : Program} {μ : Mu} {H : VH} {w : World} (h : HR μ H w) {b : Nat} {C : Codec} {esz : Nat} {l : List C.α} {p : Place} {L : Nat} (hg : hget H b = .row C esz l .own) (hp : μ[b]? = some p)
    (hL : p.lim = some L) {ys : List C.α} {ns' : List Value} {i0 : Nat} (hi0 : i0 ≤ l.length) (hy : ∀ y ∈ ys, (C.enc y).length = esz) (hv : VRs μ (flat C ys) ns') (hone : ∀ v ∈ ns', v.oneCell' = true)
    (hroom : (l.length + ys.length) * esz ≤ L) :
    (storeCells ⟨p.blk, p.base + l.length * esz, none⟩ ns').run P w = .ok () (w.setCells p.blk (p.base + l.length * esz) ns') ∧
    HR (μ ++ [⟨p.blk, p.base + i0 * esz, esz, some (L - i0 * esz)⟩]) (hset H b (.row C esz l .stale) ++ [.row C esz (l.drop i0 ++ ys) .own]) (w.setCells p.blk (p.base + l.length * esz) ns') := by
  obtain ⟨p', hp', r⟩ := h.row _ _ _ _ _ hg
  obtain rfl : p' = p := Option.some.inj (hp'.symm.trans hp)
  obtain ⟨L', hL', hlen, hcell⟩ := r.own rfl
  obtain rfl : L' = L := Option.some.inj (hL'.symm.trans hL)
  have hbl : b < H.length := by rw [← h.len]; exact mu_lt hp
  have hn : ns'.length = ys.length * esz := by rw [hv.length, flat_len hy]
  rw [Nat.add_mul] at hroom
  have hi0e : i0 * esz ≤ l.length * esz := Nat.mul_le_mul_right esz hi0
  have hin : ∀ q, q < ns'.length → (∃ v, w.cell? ⟨p'.blk, p'.base + l.length * esz + q, none⟩ = some v) ∧ w.frozen? ⟨p'.blk, p'.base + l.length * esz + q, none⟩ = false := fun q hq => by
    have := hcell (l.length * esz + q) (by omega)
    rwa [show p'.base + (l.length * esz + q) = p'.base + l.length * esz + q by omega] at this
  generalize ho : p'.base + l.length * esz = o at *
  have hout : ∀ (k f : Nat), (k = p'.blk → f < o ∨ o + ns'.length ≤ f) → (w.setCells p'.blk o ns').cell? ⟨k, f, none⟩ = w.cell? ⟨k, f, none⟩ :=
    fun k f hf => World.cell?_setCells_out p'.blk ns' o w ⟨k, f, none⟩ (fun hb _ => hf hb)
  have hins : ∀ (q : Nat) (hq : q < ns'.length), (w.setCells p'.blk o ns').cell? ⟨p'.blk, o + q, none⟩ = some ns'[q] :=
    fun q hq => World.cell?_setCells_in p'.blk ns' o w (fun j hj => by obtain ⟨v, hv⟩ := (hin j hj).1; rw [hv]; rfl) q hq
  have hfz : ∀ a, (w.setCells p'.blk o ns').frozen? a = w.frozen? a := fun a => World.frozen?_setCells p'.blk ns' o w a
  have hex : ∀ q, q < L' → ∃ v, (w.setCells p'.blk o ns').cell? ⟨p'.blk, p'.base + q, none⟩ = some v := fun q hq => by
    by_cases hr : o ≤ p'.base + q ∧ p'.base + q < o + ns'.length
    · have hq2 : p'.base + q - o < ns'.length := by omega
      exact ⟨_, by have := hins (p'.base + q - o) hq2; rwa [show o + (p'.base + q - o) = p'.base + q by omega] at this⟩
    · rw [hout _ _ (fun _ => by omega)]
      exact (hcell q hq).1
  refine ⟨by simpa using run_storeCells_cells (P := P) p'.blk o ns' 0 w (fun q hq => by obtain ⟨v, hv⟩ := (hin q hq).1; simp [hv]) (fun q hq => by simpa using (hin q hq).2) hone, ?_⟩
  have hs := h.stale hg
  generalize hH : hset H b (.row C esz l .stale) = H1 at hs
  have hH1 : H1.length = H.length := by rw [← hH, hset_len]
  have hb1 : hget H1 b = .row C esz l .stale := by rw [← hH]; exact hget_set_eq hbl
  have hne1 : ∀ {b'}, b' ≠ b → hget H1 b' = hget H b' := fun hh => by rw [← hH]; exact hget_set_ne (Ne.symm hh)
  -- a row that was there is apart from what is written
  have apart : ∀ {b' : Nat} {C' : Codec} {e' : Nat} {l' : List C'.α} {m' : VMode} {q : Place}, hget H1 b' = .row C' e' l' m' → μ[b']? = some q → ∀ f, f < ext q m' (l'.length * e') → q.blk = p'.blk →
      q.base + f < o ∨ o + ns'.length ≤ q.base + f := by
    intro b' C' e' l' m' q hg' hq f hf hblk
    by_cases hbb : b' = b
    · subst hbb
      rw [hb1] at hg'
      cases hg'
      obtain rfl : q = p' := Option.some.inj (hq.symm.trans hp)
      simp only [ext] at hf
      omega
    · rw [hne1 hbb] at hg'
      rcases Nat.lt_or_ge (q.base + f) o with h' | h'
      · exact .inl h'
      · rcases Nat.lt_or_ge (q.base + f) (o + ns'.length) with h'' | h''
        · exfalso
          refine h.sep b b' C C' esz e' l l' m' p' q (Ne.symm hbb) hg hg' hp hq hblk.symm (q.base + f - p'.base) f ?_ hf (fun _ => by omega) (by omega)
          rw [hL]
          simp only [Option.getD_some]
          omega
        · exact .inr h''
  have ext_ge : ∀ {b' : Nat} {C' : Codec} {e' : Nat} {l' : List C'.α} {m' : VMode} {q : Place}, RowOk μ w C' e' l' m' q → l'.length * e' ≤ ext q m' (l'.length * e') := by
    intro b' C' e' l' m' q rq
    cases m' with
    | own =>
      obtain ⟨L2, z1, z2, _⟩ := rq.own rfl
      simp only [ext, z1, Option.getD_some]
      exact z2
    | ro => exact Nat.le_refl _
    | stale => exact Nat.le_refl _
  have cls : ∀ {b' : Nat} {X : VB}, hget (H1 ++ [.row C esz (l.drop i0 ++ ys) .own]) b' = X → X ≠ .dead →
      (b' < H.length ∧ hget H1 b' = X ∧ (μ ++ [(⟨p'.blk, p'.base + i0 * esz, esz, some (L' - i0 * esz)⟩ : Place)])[b']? = μ[b']?) ∨
      (b' = H.length ∧ X = .row C esz (l.drop i0 ++ ys) .own ∧ (μ ++ [(⟨p'.blk, p'.base + i0 * esz, esz, some (L' - i0 * esz)⟩ : Place)])[b']? = some ⟨p'.blk, p'.base + i0 * esz, esz, some (L' - i0 * esz)⟩) := by
    intro b' X hg' hX
    rcases Nat.lt_trichotomy b' H.length with hlt | heq | hgt
    · left
      rw [hget_append_lt (by omega)] at hg'
      exact ⟨hlt, hg', List.getElem?_append_left (by rw [h.len]; exact hlt)⟩
    · right
      subst heq
      have := hget_append_ge (H := H1) (G := [.row C esz (l.drop i0 ++ ys) .own]) 0
      simp only [Nat.add_zero] at this
      rw [← hH1, this] at hg'
      exact ⟨rfl, hg'.symm, by rw [← h.len]; simp⟩
    · rw [hget_len (by simp; omega)] at hg'; exact absurd hg'.symm hX
  refine ⟨by simp [h.len, hH1], ?_, ?_, ?_, ?_⟩
  · intro b' C' e' l' m' hg'
    rcases cls hg' (by intro hh; cases hh) with ⟨_, k1, k2⟩ | ⟨_, k1, k2⟩
    · obtain ⟨q, hq, rq⟩ := hs.row _ _ _ _ _ k1
      refine ⟨q, by rw [k2]; exact hq, rq.pe, by rw [size_setCells]; exact rq.blk, rq.lens, ?_, ?_⟩
      · intro i' j' y v h1 h2
        obtain ⟨v', c1, c2⟩ := rq.cells i' j' y v h1 h2
        refine ⟨v', ?_, c2.mono (mu_snoc _ _)⟩
        unfold Place.at at c1 ⊢
        have hj' : j' < e' := by rw [← rq.lens y (List.mem_of_getElem? h1)]; exact (List.getElem?_eq_some_iff.1 h2).1
        have hi' : i' < l'.length := (List.getElem?_eq_some_iff.1 h1).1
        have hle : i' * e' + e' ≤ l'.length * e' := by
          have : (i' + 1) * e' ≤ l'.length * e' := Nat.mul_le_mul_right e' hi'
          rw [Nat.add_mul] at this
          omega
        have hx := ext_ge (b' := b') rq
        rw [hout _ _ (fun hb => ?_)]
        · exact c1
        · have := apart k1 hq (i' * e' + j') (by omega) hb
          rw [rq.pe]
          omega
      · intro ho'
        obtain ⟨L2, z1, z2, z3⟩ := rq.own ho'
        refine ⟨L2, z1, z2, fun f hf => ⟨?_, by rw [hfz]; exact (z3 f hf).2⟩⟩
        rw [hout _ _ (fun hb => ?_)]
        · exact (z3 f hf).1
        · refine apart k1 hq f ?_ hb
          subst ho'
          simp only [ext, z1, Option.getD_some]
          exact hf
    · cases k1
      refine ⟨_, k2, rfl, by rw [size_setCells]; exact r.blk, ?_, ?_, ?_⟩
      · intro y hy'
        rcases List.mem_append.1 hy' with hy' | hy'
        · exact r.lens y (List.mem_of_mem_drop hy')
        · exact hy y hy'
      · intro i' j' y v h1 h2
        have hj' : j' < esz := by
          have : (C.enc y).length = esz := by
            rcases List.mem_append.1 (List.mem_of_getElem? h1) with hy' | hy'
            · exact r.lens y (List.mem_of_mem_drop hy')
            · exact hy y hy'
          rw [← this]; exact (List.getElem?_eq_some_iff.1 h2).1
        have hdl : (l.drop i0).length = l.length - i0 := by simp
        rcases Nat.lt_or_ge i' (l.length - i0) with hlt | hge
        · rw [List.getElem?_append_left (by omega), List.getElem?_drop] at h1
          obtain ⟨v', c1, c2⟩ := r.cells (i0 + i') j' y v h1 h2
          refine ⟨v', ?_, c2.mono (mu_snoc _ _)⟩
          have hlt2 : (i0 + i' + 1) * esz ≤ l.length * esz := Nat.mul_le_mul_right esz (by omega)
          rw [Nat.add_mul, Nat.add_mul] at hlt2
          unfold Place.at at c1 ⊢
          rw [r.pe, Nat.add_mul] at c1
          simp only
          rw [hout _ _ (fun _ => by omega), show p'.base + i0 * esz + i' * esz + j' = p'.base + (i0 * esz + i' * esz) + j' by omega]
          exact c1
        · rw [List.getElem?_append_right (by omega), hdl] at h1
          have hfl := flat_get hy h1 hj'
          rw [h2] at hfl
          obtain ⟨v', c1, c2⟩ := hv.get hfl
          refine ⟨v', ?_, c2.mono (mu_snoc _ _)⟩
          obtain ⟨hq, hqe⟩ := List.getElem?_eq_some_iff.1 c1
          have := hins _ hq
          rw [hqe] at this
          unfold Place.at
          simp only
          have hadd : i' * esz = (i' - (l.length - i0)) * esz + (l.length - i0) * esz := by rw [← Nat.add_mul]; congr 1; omega
          have hsub : (l.length - i0) * esz = l.length * esz - i0 * esz := Nat.sub_mul _ _ _
          rw [show p'.base + i0 * esz + i' * esz + j' = o + ((i' - (l.length - i0)) * esz + j') by omega]
          exact this
      · intro _
        refine ⟨_, rfl, ?_, fun q hq => ⟨?_, ?_⟩⟩
        · rw [List.length_append, List.length_drop, Nat.add_mul, Nat.sub_mul]
          omega
        · have := hex (i0 * esz + q) (by omega)
          rwa [show p'.base + (i0 * esz + q) = p'.base + i0 * esz + q by omega] at this
        · rw [hfz]
          have := (hcell (i0 * esz + q) (by omega)).2
          rwa [show p'.base + (i0 * esz + q) = p'.base + i0 * esz + q by omega] at this
  · intro b' s' o' hg'
    rcases cls hg' (by intro hh; cases hh) with ⟨_, k1, k2⟩ | ⟨_, k1, _⟩
    · obtain ⟨q, hq, c1, c2⟩ := hs.iter b' s' o' k1
      refine ⟨q, by rw [k2]; exact hq, ?_, c2⟩
      rcases Nat.eq_zero_or_pos L' with hL0 | hLp
      · have h0 : ns'.length = 0 := by omega
        rw [List.length_eq_zero_iff.1 h0]
        exact c1
      · rw [heap_setCells_ne]
        · exact c1
        · intro hqb
          obtain ⟨v, hv0⟩ := (hcell 0 hLp).1
          rw [← hqb] at hv0
          simp [World.cell?, c1] at hv0
    · cases k1
  · intro b1 b2 C1 C2 e1 e2 l1 l2 m2 p1 p2 hne g1 g2 q1 q2 hblk i j hi hj hst
    rcases cls g1 (by intro hh; cases hh) with ⟨_, k1, k2⟩ | ⟨rfl, k1, k2⟩
    · rw [k2] at q1
      rcases cls g2 (by intro hh; cases hh) with ⟨_, k3, k4⟩ | ⟨rfl, k3, k4⟩
      · rw [k4] at q2
        exact hs.sep b1 b2 C1 C2 e1 e2 l1 l2 m2 p1 p2 hne k1 k3 q1 q2 hblk i j hi hj hst
      · -- another own row, and the new one: inside of the old one's
        cases k3
        rw [k4] at q2
        obtain rfl := Option.some.inj q2
        have hbb : b1 ≠ b := by
          intro hh; subst hh; rw [hb1] at k1; cases k1
        rw [hne1 hbb] at k1
        simp only [ext, Option.getD_some] at hj
        have := h.sep b1 b C1 C e1 esz l1 l .own p1 p' hbb k1 hg q1 hp hblk i (i0 * esz + j) hi (by simp only [ext, hL, Option.getD_some]; omega) (fun hh => by cases hh)
        simp only
        omega
    · cases k1
      rw [k2] at q1
      obtain rfl := Option.some.inj q1
      simp only [Option.getD_some] at hi
      rcases cls g2 (by intro hh; cases hh) with ⟨_, k3, k4⟩ | ⟨rfl, k3, k4⟩
      · rw [k4] at q2
        by_cases hbb : b2 = b
        · subst hbb
          rw [hb1] at k3
          cases k3
          obtain rfl : p2 = p' := Option.some.inj (q2.symm.trans hp)
          simp only [ext] at hj
          have h1 := hst rfl
          rw [List.length_append, List.length_drop, Nat.add_mul, Nat.sub_mul] at h1
          simp only
          omega
        · rw [hne1 hbb] at k3
          have := h.sep b b2 C C2 esz e2 l l2 m2 p' p2 (Ne.symm hbb) hg k3 hp q2 hblk (i0 * esz + i) j (by rw [hL]; simp only [Option.getD_some]; omega) hj (fun hh => by
            have h1 := hst hh
            rw [List.length_append, List.length_drop, Nat.add_mul, Nat.sub_mul] at h1
            omega)
          simp only
          omega
      · exact absurd rfl hne
  · intro b1 b2 s1 s2 o1 o2 p1 p2 hne g1 g2 q1 q2
    rcases cls g1 (by intro hh; cases hh) with ⟨_, k1, k2⟩ | ⟨_, k1, _⟩
    · rcases cls g2 (by intro hh; cases hh) with ⟨_, k3, k4⟩ | ⟨_, k3, _⟩
      · rw [k2] at q1; rw [k4] at q2
        exact hs.isep b1 b2 s1 s2 o1 o2 p1 p2 hne k1 k3 q1 q2
      · cases k3
    · cases k1

end Go.Proofs.YtofcjkbgieenlaaDoor.PM
