/- What the small machine's values and memory say of the model's: the relation, and how it goes on. By an AI agent. -/
import Derived.Test.YtofcjkbgieenlaaDoorPMDefs
import Derived.Laws.IdiomCopy
import Derived.Below
namespace Go.Proofs.YtofcjkbgieenlaaDoor.PM
open Go

/-- Where a row lies: its block, where it begins, how many cells an element has, how many cells are its own. -/
structure Place where
  blk : Nat
  base : Nat
  esz : Nat
  lim : Option Nat

abbrev Mu := List Place

def Place.at (p : Place) (i j : Nat) : Addr := ⟨p.blk, p.base + i * p.esz + j, none⟩

mutual
inductive VR (μ : Mu) : Value → Value → Prop
  | junk (v : Value) : VR μ (.chan none) v
  | bool (b : Bool) : VR μ (.bool b) (.bool b)
  | int (k : IntKind) (n : Int) : VR μ (.int k n) (.int k n)
  | string (s : ByteArray) : VR μ (.string s) (.string s)
  | nilp : VR μ (.pointer none) (.pointer none)
  | ptr {b i j : Nat} {p : Place} : μ[b]? = some p → VR μ (.pointer (some ⟨b, i, some j⟩)) (.pointer (some (p.at i j)))
  | nils : VR μ (.slice none 0 0) (.slice none 0 0)
  | slice {b i n c c' : Nat} {p : Place} : μ[b]? = some p → n ≤ c' → (∀ L, p.lim = some L → (i + c') * p.esz ≤ L) →
      VR μ (.slice (some ⟨b, i, none⟩) n c) (.slice (some (p.at i 0)) n c')
  | slice0 {b i c : Nat} (a : Addr) : VR μ (.slice (some ⟨b, i, none⟩) 0 c) (.slice (some a) 0 0)
  | nilf : VR μ .nilFunc .nilFunc
  | nili : VR μ .nilIface .nilIface
  | nilm : VR μ (.map none) (.map none)
  | iface {t : TypeId} {v v' : Value} : VR μ v v' → VR μ (.iface t v) (.iface t v')
  | func {fn : Fn} {l m l' m' : List Value} : VRs μ l l' → VRs μ m m' → VR μ (.func fn ⟨l⟩ ⟨m⟩) (.func fn ⟨l'⟩ ⟨m'⟩)
  | agg {l l' : List Value} : VRs μ l l' → VR μ (.agg ⟨l⟩) (.agg ⟨l'⟩)
  | tuple {l l' : List Value} : VRs μ l l' → VR μ (.tuple ⟨l⟩) (.tuple ⟨l'⟩)
inductive VRs (μ : Mu) : List Value → List Value → Prop
  | nil : VRs μ [] []
  | cons {v v' : Value} {l l' : List Value} : VR μ v v' → VRs μ l l' → VRs μ (v :: l) (v' :: l')
end

def Mu.le (μ μ' : Mu) : Prop := ∀ (b : Nat) (p : Place), μ[b]? = some p → μ'[b]? = some p

mutual
theorem VR.mono {μ μ' : Mu} (h : Mu.le μ μ') : ∀ {v v' : Value}, VR μ v v' → VR μ' v v'
  | _, _, .junk v => .junk v
  | _, _, .bool b => .bool b
  | _, _, .int k n => .int k n
  | _, _, .string s => .string s
  | _, _, .nilp => .nilp
  | _, _, .ptr hp => .ptr (h _ _ hp)
  | _, _, .nils => .nils
  | _, _, .slice hp hn hl => .slice (h _ _ hp) hn hl
  | _, _, .slice0 a => .slice0 a
  | _, _, .nilf => .nilf
  | _, _, .nili => .nili
  | _, _, .nilm => .nilm
  | _, _, .iface hv => .iface (hv.mono h)
  | _, _, .func a b => .func (a.mono h) (b.mono h)
  | _, _, .agg a => .agg (a.mono h)
  | _, _, .tuple a => .tuple (a.mono h)
theorem VRs.mono {μ μ' : Mu} (h : Mu.le μ μ') : ∀ {v v' : List Value}, VRs μ v v' → VRs μ' v v'
  | _, _, .nil => .nil
  | _, _, .cons a b => .cons (a.mono h) (b.mono h)
end

theorem VRs.length {μ : Mu} {l l' : List Value} (h : VRs μ l l') : l'.length = l.length := by
  induction l generalizing l' with
  | nil => cases h; rfl
  | cons v l ih => cases h with | cons a b => simp [ih b]

theorem VRs.get {μ : Mu} {l l' : List Value} (h : VRs μ l l') {i : Nat} {v : Value} (hv : l[i]? = some v) : ∃ v', l'[i]? = some v' ∧ VR μ v v' := by
  induction l generalizing l' i with
  | nil => simp at hv
  | cons u l ih =>
    cases h with
    | cons a b =>
      cases i with
      | zero => simp at hv; subst hv; exact ⟨_, rfl, a⟩
      | succ i => simpa using ih b (by simpa using hv)

theorem VRs.drop {μ : Mu} {l l' : List Value} (h : VRs μ l l') (n : Nat) : VRs μ (l.drop n) (l'.drop n) := by
  induction n generalizing l l' with
  | zero => simpa using h
  | succ n ih => cases h with
    | nil => exact .nil
    | cons a b => simpa using ih b

theorem VRs.take {μ : Mu} {l l' : List Value} (h : VRs μ l l') (n : Nat) : VRs μ (l.take n) (l'.take n) := by
  induction n generalizing l l' with
  | zero => simpa using .nil
  | succ n ih => cases h with
    | nil => exact .nil
    | cons a b => simpa using .cons a (ih b)

theorem VRs.append {μ : Mu} {l l' m m' : List Value} (h : VRs μ l l') (k : VRs μ m m') : VRs μ (l ++ m) (l' ++ m') := by
  induction l generalizing l' with
  | nil => cases h; exact k
  | cons v l ih => cases h with | cons a b => exact .cons a (ih b)

theorem VRs.of_get {μ : Mu} : ∀ {l l' : List Value}, l'.length = l.length → (∀ (i : Nat) (v : Value), l[i]? = some v → ∃ v', l'[i]? = some v' ∧ VR μ v v') → VRs μ l l'
  | [], [], _, _ => .nil
  | [], _ :: _, h, _ => by simp at h
  | _ :: _, [], h, _ => by simp at h
  | v :: l, v' :: l', h, k => by
    obtain ⟨u, hu, hr⟩ := k 0 v rfl
    simp at hu
    subst hu
    exact .cons hr (VRs.of_get (by simpa using h) fun i w hw => by simpa using k (i + 1) w (by simpa using hw))

theorem VRs.map {μ : Mu} {α : Type} (f g : α → Value) (h : ∀ x, VR μ (f x) (g x)) : ∀ l : List α, VRs μ (l.map f) (l.map g)
  | [] => .nil
  | x :: l => .cons (h x) (VRs.map f g h l)

theorem VR.plain {μ : Mu} {v : Value} (h : plainV v = true) : VR μ v v := by
  unfold plainV at h
  split at h <;> first | constructor | cases h

theorem VRs.plain {μ : Mu} : ∀ {l : List Value}, plainL l = true → VRs μ l l
  | [], _ => .nil
  | v :: l, h => by
    simp only [plainL, Bool.and_eq_true] at h
    exact .cons (VR.plain h.1) (VRs.plain h.2)

theorem VR.const {μ : Mu} (v : Value) : VR μ (constV v) v := by
  unfold constV
  split
  · rename_i cs
    cases h : plainL cs.toList
    · exact .junk _
    · obtain ⟨l⟩ := cs
      exact .agg (VRs.plain h)
  · cases h : plainV v
    · exact .junk _
    · exact VR.plain h

/-- A row as it lies. -/
structure RowOk (μ : Mu) (w : World) (C : Codec) (esz : Nat) (l : List C.α) (m : VMode) (p : Place) : Prop where
  pe : p.esz = esz
  blk : p.blk < w.heap.size
  lens : ∀ x ∈ l, (C.enc x).length = esz
  cells : ∀ (i j : Nat) (x : C.α) (v : Value), l[i]? = some x → (C.enc x)[j]? = some v → ∃ v', w.cell? (p.at i j) = some v' ∧ VR μ v v'
  own : m = .own → ∃ L, p.lim = some L ∧ l.length * esz ≤ L ∧ ∀ i, i < L → (∃ v, w.cell? ⟨p.blk, p.base + i, none⟩ = some v) ∧ w.frozen? ⟨p.blk, p.base + i, none⟩ = false

/-- How far a row reaches. -/
def ext (p : Place) (m : VMode) (n : Nat) : Nat := match m with | .own => p.lim.getD 0 | _ => n

structure HR (μ : Mu) (H : VH) (w : World) : Prop where
  len : μ.length = H.length
  row : ∀ (b : Nat) (C : Codec) (esz : Nat) (l : List C.α) (m : VMode), hget H b = .row C esz l m → ∃ p, μ[b]? = some p ∧ RowOk μ w C esz l m p
  iter : ∀ (b : Nat) (s : ByteArray) (pos : Nat), hget H b = .iter s pos → ∃ p, μ[b]? = some p ∧ w.heap[p.blk]? = some (.stringIter s pos) ∧ p.base = 0
  sep : ∀ (b1 b2 : Nat) (C1 C2 : Codec) (e1 e2 : Nat) (l1 : List C1.α) (l2 : List C2.α) (m2 : VMode) (p1 p2 : Place), b1 ≠ b2 →
    hget H b1 = .row C1 e1 l1 .own → hget H b2 = .row C2 e2 l2 m2 → μ[b1]? = some p1 → μ[b2]? = some p2 → p1.blk = p2.blk →
    ∀ i j, i < p1.lim.getD 0 → j < ext p2 m2 (l2.length * e2) → (m2 = .stale → l1.length * e1 ≤ i) → p1.base + i ≠ p2.base + j
  isep : ∀ (b1 b2 : Nat) (s1 s2 : ByteArray) (o1 o2 : Nat) (p1 p2 : Place), b1 ≠ b2 → hget H b1 = .iter s1 o1 → hget H b2 = .iter s2 o2 →
    μ[b1]? = some p1 → μ[b2]? = some p2 → p1.blk ≠ p2.blk

theorem hget_len {H : VH} {b : Nat} (h : H.length ≤ b) : hget H b = .dead := by
  induction H generalizing b with
  | nil => rfl
  | cons a H ih => cases b with
    | zero => simp at h
    | succ b => exact ih (by simpa using h)

theorem hget_append_lt {H G : VH} {b : Nat} (h : b < H.length) : hget (H ++ G) b = hget H b := by
  induction H generalizing b with
  | nil => simp at h
  | cons a H ih => cases b with
    | zero => rfl
    | succ b => exact ih (by simpa using h)

theorem hget_append_ge {H G : VH} (n : Nat) : hget (H ++ G) (H.length + n) = hget G n := by
  induction H with
  | nil => simp
  | cons a H ih =>
    have : (a :: H).length + n = (H.length + n) + 1 := by simp; omega
    rw [this]
    exact ih

theorem hget_set_ne {H : VH} {b c : Nat} {x : VB} (h : b ≠ c) : hget (hset H b x) c = hget H c := by
  induction H generalizing b c with
  | nil => cases b <;> rfl
  | cons a H ih => cases b with
    | zero => cases c with
      | zero => exact absurd rfl h
      | succ c => rfl
    | succ b => cases c with
      | zero => rfl
      | succ c => exact ih (by omega)

theorem hget_set_eq {H : VH} {b : Nat} {x : VB} (h : b < H.length) : hget (hset H b x) b = x := by
  induction H generalizing b with
  | nil => simp at h
  | cons a H ih => cases b with
    | zero => rfl
    | succ b => exact ih (by simpa using h)

theorem hset_len {H : VH} {b : Nat} {x : VB} : (hset H b x).length = H.length := by
  induction H generalizing b with
  | nil => cases b <;> rfl
  | cons a H ih => cases b with
    | zero => rfl
    | succ b => simp [hset, ih]

theorem hget_map {H : VH} {b : Nat} (f : VB → VB) (hd : f .dead = .dead) : hget (H.map f) b = f (hget H b) := by
  induction H generalizing b with
  | nil => cases b <;> exact hd.symm
  | cons a H ih => cases b with
    | zero => rfl
    | succ b => exact ih

/-- Memory in which the blocks ahead of a number are as they were. -/
theorem HR.later {μ : Mu} {H : VH} {w w' : World} (h : HR μ H w) (hb : ∀ k, k < w.heap.size → w'.heap[k]? = w.heap[k]?) (hs : w.heap.size ≤ w'.heap.size) : HR μ H w' where
  len := h.len
  row b C esz l m hg := by
    obtain ⟨p, hp, r⟩ := h.row b C esz l m hg
    have hc : ∀ o, w'.cell? ⟨p.blk, o, none⟩ = w.cell? ⟨p.blk, o, none⟩ := fun o => World.cell?_of_block (hb _ r.blk)
    have hf : ∀ o, w'.frozen? ⟨p.blk, o, none⟩ = w.frozen? ⟨p.blk, o, none⟩ := fun o => World.frozen?_of_block (hb _ r.blk)
    refine ⟨p, hp, r.pe, Nat.lt_of_lt_of_le r.blk hs, r.lens, fun i j x v h1 h2 => ?_, fun ho => ?_⟩
    · obtain ⟨v', h3, h4⟩ := r.cells i j x v h1 h2
      exact ⟨v', by rw [Place.at, hc]; exact h3, h4⟩
    · obtain ⟨L, h1, h2, h3⟩ := r.own ho
      exact ⟨L, h1, h2, fun i hi => by rw [hc, hf]; exact h3 i hi⟩
  iter b s pos hg := by
    obtain ⟨p, hp, h1, h2⟩ := h.iter b s pos hg
    refine ⟨p, hp, ?_, h2⟩
    rw [hb _ (by
      rcases Nat.lt_or_ge p.blk w.heap.size with h' | h'
      · exact h'
      · rw [Array.getElem?_eq_none h'] at h1; cases h1)]
    exact h1
  sep := h.sep
  isep := h.isep

end Go.Proofs.YtofcjkbgieenlaaDoor.PM
