/- Contracts of functions whose arguments and results hold no address: they serve whatever memory there is. By an AI agent. -/
import Derived.Test.YtofcjkbgieenlaaDoorPMRun
namespace Go.Proofs.YtofcjkbgieenlaaDoor.PM
open Go Go.RowKit
set_option linter.unusedVariables false
set_option linter.unusedSimpArgs false

theorem to {G R : Prop} (h : G = R) (r : R) : G := h ▸ r
theorem bcase_of {b : Bool} {X Y : Prop} (hx : b = true → X) (hy : b = false → Y) : bcase b X Y := by
  cases b
  · exact hy rfl
  · exact hx rfl
theorem need_of {b : Bool} {X : Prop} (h : b = true) (x : X) : need b X := by subst h; exact x
theorem bcase_t {b : Bool} {X Y : Prop} (h : b = true) (x : X) : bcase b X Y := by subst h; exact x
theorem bcase_f {b : Bool} {X Y : Prop} (h : b = false) (y : Y) : bcase b X Y := by subst h; exact y

def closed1 (v : Value) : Bool :=
  match v with
  | .agg cs => plainL cs.toList
  | .func _ ⟨[]⟩ ⟨[]⟩ => true
  | v => plainV v
def closedL1 : List Value → Bool
  | [] => true
  | v :: r => closed1 v && closedL1 r
/-- No address in it. -/
def closedV (v : Value) : Bool :=
  match v with
  | .tuple vs => closedL1 vs.toList
  | v => closed1 v
def closedL : List Value → Bool
  | [] => true
  | v :: r => closedV v && closedL r

section
variable {μ ν : Mu}
theorem plainV_same {v v' : Value} (h : plainV v = true) (r : VR μ v v') : v' = v := by
  cases r <;> first | rfl | (simp [plainV] at h; done) | cases h

theorem plainL_same : ∀ {l l' : List Value}, plainL l = true → VRs μ l l' → l' = l
  | _, _, _, .nil => rfl
  | _, _, h, .cons a b => by
    simp only [plainL, Bool.and_eq_true] at h
    rw [plainV_same h.1 a, plainL_same h.2 b]

theorem closed1_same {v v' : Value} (h : closed1 v = true) (r : VR μ v v') : v' = v ∧ VR ν v v := by
  unfold closed1 at h
  split at h
  · cases r with
    | agg hl => exact ⟨by rw [plainL_same h hl], .agg (VRs.plain h)⟩
  · cases r with
    | func a b => cases a; cases b; exact ⟨rfl, .func .nil .nil⟩
  · exact ⟨plainV_same h r, VR.plain h⟩

theorem closedL1_same : ∀ {l l' : List Value}, closedL1 l = true → VRs μ l l' → l' = l ∧ VRs ν l l
  | _, _, _, .nil => ⟨rfl, .nil⟩
  | _, _, h, .cons a b => by
    simp only [closedL1, Bool.and_eq_true] at h
    obtain ⟨h1, h2⟩ := closed1_same (ν := ν) h.1 a
    obtain ⟨h3, h4⟩ := closedL1_same h.2 b
    exact ⟨by rw [h1, h3], .cons h2 h4⟩

theorem closedV_same {v v' : Value} (h : closedV v = true) (r : VR μ v v') : v' = v ∧ VR ν v v := by
  unfold closedV at h
  split at h
  · cases r with
    | tuple hl =>
      obtain ⟨h1, h2⟩ := closedL1_same (ν := ν) h hl
      exact ⟨by rw [h1], .tuple h2⟩
  · exact closed1_same h r

theorem closedL_same : ∀ {l l' : List Value}, closedL l = true → VRs μ l l' → l' = l ∧ VRs ν l l
  | _, _, _, .nil => ⟨rfl, .nil⟩
  | _, _, h, .cons a b => by
    simp only [closedL, Bool.and_eq_true] at h
    obtain ⟨h1, h2⟩ := closedV_same (ν := ν) h.1 a
    obtain ⟨h3, h4⟩ := closedL_same h.2 b
    exact ⟨by rw [h1, h3], .cons h2 h4⟩
end

theorem HR.empty (w : World) : HR [] [] w where
  len := rfl
  row b C e l m h := by cases b <;> cases h
  iter b s p h := by cases b <;> cases h
  sep b1 b2 C1 C2 e1 e2 l1 l2 m2 p1 p2 hne h := by cases b1 <;> cases h
  isep b1 b2 s1 s2 o1 o2 p1 p2 hne h := by cases b1 <;> cases h

theorem Ro.empty : Ro [] := fun b => by cases b <;> exact .inr rfl

/-- A contract of a function by what it yields: for every memory. -/
theorem Meets.lift {P : Program} {f : FuncId} {args : List Value} {K0 K : Value → VH → Prop} (h : Meets P f args [] K0) (ha : closedL args = true) (H : VH)
    (hk : ∀ r H', K0 r H' → closedV r = true ∧ K r H) : Meets P f args H K := by
  intro μ w args' hr hargs
  obtain ⟨rfl, h2⟩ := closedL_same (ν := []) ha hargs
  refine (h [] w _ (HR.empty w) h2).mono ?_
  rintro e w' ⟨r, r', μ', H', rfl, k1, _, _, _, _, _, k7, k8⟩
  obtain ⟨c1, c2⟩ := hk r H' k8
  obtain ⟨rfl, k1'⟩ := closedV_same (ν := μ) c1 k1
  exact ⟨_, _, μ, H, rfl, k1', hr.later k7.block k7.size, fun _ _ h => h, Nat.le_refl _, fun _ _ => rfl, fun b p hb hp => by
    have := mu_lt hp
    rw [hr.len] at this
    omega, k7, c2⟩

/-- What a function yields, on which condition. -/
abbrev Pure := List Value → Option (Prop × Value)

def pureS (g : Pure) : Spec := fun args H K => match g args with
  | some (c, r) => c ∧ K r H
  | none => False

/-- A function that yields this. -/
structure PureOk (P : Program) (f : FuncId) (g : Pure) : Prop where
  enter : callable P f
  args : ∀ args c r, g args = some (c, r) → closedL args = true
  meets : ∀ args c r, g args = some (c, r) → c → closedV r = true ∧ Meets P f args [] (fun r' _ => r' = r)

theorem PureOk.ok {P : Program} {f : FuncId} {g : Pure} (h : PureOk P f g) {args : List Value} {H : VH} {K : Value → VH → Prop} (hs : pureS g args H K) : callable P f ∧ Meets P f args H K := by
  unfold pureS at hs
  split at hs
  · rename_i c r hg
    obtain ⟨h1, h2⟩ := h.meets args c r hg hs.1
    exact ⟨h.enter, h2.lift (h.args args c r hg) H fun r' H' e => by subst e; exact ⟨h1, hs.2⟩⟩
  · exact hs.elim

/-- From the model's own contracts. -/
theorem Meets.of_calls {P : Program} {f : FuncId} {args : List Value} {r : Value} (ha : closedL args = true) (hr : closedV r = true)
    (h : ∀ w, Calls P f ⟨args⟩ w fun e w' => e = .returned r ∧ Below w.heap.size w w') : Meets P f args [] (fun r' _ => r' = r) := by
  intro μ w args' hrr hargs
  obtain ⟨rfl, h2⟩ := closedL_same (ν := []) ha hargs
  refine (h w).mono ?_
  rintro e w' ⟨rfl, hb⟩
  have hv : VR μ r r := by
    have : ∀ v, closedV v = true → VR μ v v := by
      intro v hv
      unfold closedV at hv
      have one : ∀ u, closed1 u = true → VR μ u u := fun u hu => by
        unfold closed1 at hu
        split at hu
        · exact .agg (VRs.plain hu)
        · exact .func .nil .nil
        · exact VR.plain hu
      split at hv
      · rename_i vs
        obtain ⟨l⟩ := vs
        refine .tuple ?_
        have : ∀ l : List Value, closedL1 l = true → VRs μ l l := by
          intro l
          induction l with
          | nil => intro _; exact .nil
          | cons u l ih =>
            intro hl
            simp only [closedL1, Bool.and_eq_true] at hl
            exact .cons (one u hl.1) (ih hl.2)
        exact this l hv
      · exact one v hv
    exact this r hr
  exact ⟨r, r, μ, [], rfl, hv, hrr.later hb.block hb.size, fun _ _ h => h, Nat.le_refl _, fun _ hb => absurd hb (Nat.not_lt_zero _), fun _ _ _ hp => absurd (mu_lt hp) (by rw [hrr.len]; exact Nat.not_lt_zero _), hb, rfl⟩

/-- What a function is known to do, it does. -/
def SpecOk (P : Program) (f : FuncId) (sp : Spec) : Prop := ∀ args H K, sp args H K → callable P f ∧ Meets P f args H K

def callOf : List (Nat × Spec) → FuncId → Spec
  | [], _ => fun _ _ _ => False
  | (f', sp) :: r, f => bif Nat.beq f' f then sp else callOf r f

theorem callOf_nil {P : Program} : CallOk P (callOf []) := fun _ _ _ _ h => h.elim
theorem callOf_cons {P : Program} {f : Nat} {sp : Spec} {r : List (Nat × Spec)} (h : SpecOk P f sp) (hr : CallOk P (callOf r)) : CallOk P (callOf ((f, sp) :: r)) := fun f' args H K hs => by
  unfold callOf at hs
  cases hb : Nat.beq f f' with
  | true =>
    rw [hb] at hs
    obtain rfl := Nat.eq_of_beq_eq_true hb
    exact h args H K hs
  | false => rw [hb] at hs; exact hr f' args H K hs

theorem PureOk.spec {P : Program} {f : FuncId} {g : Pure} (h : PureOk P f g) : SpecOk P f (pureS g) := fun _ _ _ hs => h.ok hs

/-- A function by its run. -/
theorem PureOk.of_run {P : Program} {call : FuncId → Spec} {hint : List (Nat × List Nat)} {tb : Tab} {f : FuncId} {fn : Func} {c : Code} {g : Pure} (hm : P.follows .mixedOrders = true) (hc : CallOk P call)
    (hf : P.funcs[f]? = some fn) (hn : (fn.name == "runtime.NumGoroutine") = false) (hb : fn.body = some c) (hwf : wfC fn.ntmps (bodyOf fn) = true) (ht : TabOk P fn.ntmps tb (bodyOf fn))
    (h : ∀ args c r, g args = some (c, r) → closedL args = true ∧ (c → closedV r = true ∧ ∃ k, ∀ K : Value → VH → Prop, (∀ H, K r H) → runF P call hint tb k fn args [] K)) : PureOk P f g where
  enter := ⟨fn, c, hf, hn, hb⟩
  args args c r hg := (h args c r hg).1
  meets args c r hg hcc := by
    obtain ⟨h1, k, h2⟩ := (h args c r hg).2 hcc
    exact ⟨h1, runF_meets hm hc Ro.empty hf hwf ht (h2 _ fun _ => rfl)⟩

/-! ### Contracts of functions that hand back new rows -/
theorem HR.join {μ ν : Mu} {H G : VH} {w : World} {B : Nat} (h : HR μ H w) (g : HR ν G w) (hlt : ∀ b C e (l : List C.α) m p, hget H b = .row C e l m → μ[b]? = some p → p.blk < B)
    (hli : ∀ b s o p, hget H b = .iter s o → μ[b]? = some p → p.blk < B) (hge : ∀ (b : Nat) (p : Place), ν[b]? = some p → B ≤ p.blk) :
    HR (μ ++ ν) (H ++ G.map (renB fun b => some (H.length + b))) w := by
  have hf : ∀ (b c : Nat) (p : Place), (fun b => some (H.length + b)) b = some c → ν[b]? = some p → (μ ++ ν)[c]? = some p := fun b c p hc hp => by
    cases hc
    rw [List.getElem?_append_right (by rw [h.len]; omega), h.len, show H.length + b - H.length = b by omega]
    exact hp
  have cls : ∀ {b : Nat} {X : VB}, hget (H ++ G.map (renB fun b => some (H.length + b))) b = X → X ≠ .dead →
      (b < H.length ∧ hget H b = X ∧ (μ ++ ν)[b]? = μ[b]?) ∨ (∃ c, b = H.length + c ∧ X = renB (fun b => some (H.length + b)) (hget G c) ∧ (μ ++ ν)[b]? = ν[c]?) := by
    intro b X hg hX
    rcases Nat.lt_or_ge b H.length with hlt' | hge'
    · left
      rw [hget_append_lt hlt'] at hg
      exact ⟨hlt', hg, List.getElem?_append_left (by rw [h.len]; exact hlt')⟩
    · right
      obtain ⟨c, rfl⟩ : ∃ c, b = H.length + c := ⟨b - H.length, by omega⟩
      rw [hget_append_ge, hget_map _ rfl] at hg
      exact ⟨c, rfl, hg.symm, by rw [List.getElem?_append_right (by rw [h.len]; omega), h.len, show H.length + c - H.length = c by omega]⟩
  have lt : ∀ {b : Nat} {C : Codec} {e : Nat} {l : List C.α} {m : VMode} {p : Place}, hget H b = .row C e l m → μ[b]? = some p → p.blk < B := fun h1 h2 => hlt _ _ _ _ _ _ h1 h2
  refine ⟨by simp [h.len, g.len], ?_, ?_, ?_, ?_⟩
  · intro b C e l m hg
    rcases cls hg (by intro hh; cases hh) with ⟨_, k1, k2⟩ | ⟨c, rfl, k1, k2⟩
    · obtain ⟨p, hp, r⟩ := h.row b C e l m k1
      refine ⟨p, by rw [k2]; exact hp, r.mono (fun b p hp => by rw [List.getElem?_append_left (mu_lt hp)]; exact hp) (fun _ _ => rfl) (Nat.le_refl _)⟩
    · obtain ⟨l0, hg0, rfl⟩ := renB_row k1.symm
      obtain ⟨p, hp, r⟩ := g.row c C e l0 m hg0
      exact ⟨p, by rw [k2]; exact hp, r.ren hf⟩
  · intro b s o hg
    rcases cls hg (by intro hh; cases hh) with ⟨_, k1, k2⟩ | ⟨c, rfl, k1, k2⟩
    · obtain ⟨p, hp, r⟩ := h.iter b s o k1
      exact ⟨p, by rw [k2]; exact hp, r⟩
    · obtain ⟨p, hp, r⟩ := g.iter c s o (renB_iter k1.symm)
      exact ⟨p, by rw [k2]; exact hp, r⟩
  · intro b1 b2 C1 C2 e1 e2 l1 l2 m2 p1 p2 hne g1 g2 q1 q2 hblk i j hi hj hst
    rcases cls g1 (by intro hh; cases hh) with ⟨_, k1, k2⟩ | ⟨c1, rfl, k1, k2⟩
    · rw [k2] at q1
      rcases cls g2 (by intro hh; cases hh) with ⟨_, k3, k4⟩ | ⟨c2, rfl, k3, k4⟩
      · rw [k4] at q2
        exact h.sep b1 b2 C1 C2 e1 e2 l1 l2 m2 p1 p2 hne k1 k3 q1 q2 hblk i j hi hj hst
      · rw [k4] at q2
        have a1 := lt k1 q1
        have a2 := hge c2 p2 q2
        omega
    · rw [k2] at q1
      have a1 := hge c1 p1 q1
      rcases cls g2 (by intro hh; cases hh) with ⟨_, k3, k4⟩ | ⟨c2, rfl, k3, k4⟩
      · rw [k4] at q2
        have a2 := lt k3 q2
        omega
      · rw [k4] at q2
        obtain ⟨x1, hg1, rfl⟩ := renB_row k1.symm
        obtain ⟨x2, hg2, rfl⟩ := renB_row k3.symm
        rw [ren_len] at hj hst
        exact g.sep c1 c2 C1 C2 e1 e2 x1 x2 m2 p1 p2 (by omega) hg1 hg2 q1 q2 hblk i j hi hj hst
  · intro b1 b2 s1 s2 o1 o2 p1 p2 hne g1 g2 q1 q2
    rcases cls g1 (by intro hh; cases hh) with ⟨_, k1, k2⟩ | ⟨c1, rfl, k1, k2⟩
    · rw [k2] at q1
      have a1 := hli _ _ _ _ k1 q1
      rcases cls g2 (by intro hh; cases hh) with ⟨_, k3, k4⟩ | ⟨c2, rfl, k3, k4⟩
      · rw [k4] at q2
        exact h.isep b1 b2 s1 s2 o1 o2 p1 p2 hne k1 k3 q1 q2
      · rw [k4] at q2
        have a2 := hge c2 p2 q2
        omega
    · rw [k2] at q1
      have a1 := hge c1 p1 q1
      rcases cls g2 (by intro hh; cases hh) with ⟨_, k3, k4⟩ | ⟨c2, rfl, k3, k4⟩
      · rw [k4] at q2
        have a2 := hli _ _ _ _ k3 q2
        omega
      · rw [k4] at q2
        exact g.isep c1 c2 s1 s2 o1 o2 p1 p2 (by omega) (renB_iter k1.symm) (renB_iter k3.symm) q1 q2

/-- What a function yields, and the rows it has made. -/
abbrev Mem := List Value → Option (Prop × Value × VH)
def memS (g : Mem) : Spec := fun args H K => match g args with
  | some (c, r, G) => c ∧ K (ren2 (fun b => some (H.length + b)) r) (H ++ G.map (renB fun b => some (H.length + b)))
  | none => False

structure MemOk (P : Program) (f : FuncId) (g : Mem) : Prop where
  enter : callable P f
  args : ∀ args c r G, g args = some (c, r, G) → closedL args = true
  meets : ∀ args c r G, g args = some (c, r, G) → c → Meets P f args [] (fun r' G' => r' = r ∧ G' = G)

theorem MemOk.spec {P : Program} {f : FuncId} {g : Mem} (h : MemOk P f g) : SpecOk P f (memS g) := by
  intro args H K hs
  unfold memS at hs
  split at hs
  · rename_i c r G hg
    refine ⟨h.enter, fun μ w args' hr hargs => ?_⟩
    obtain ⟨rfl, h2⟩ := closedL_same (ν := []) (h.args args c r G hg) hargs
    refine (h.meets args' c r G hg hs.1 [] w _ (HR.empty w) h2).mono ?_
    rintro e w' ⟨r0, r', ν, G0, rfl, k1, k2, _, _, _, k6, k7, rfl, rfl⟩
    have hl := hr.later k7.block k7.size
    have hlt : ∀ {b : Nat} {C : Codec} {e : Nat} {l : List C.α} {m : VMode} {p : Place}, hget H b = .row C e l m → μ[b]? = some p → p.blk < w.heap.size := fun h1 h2 => by
      obtain ⟨p', hp', r⟩ := hr.row _ _ _ _ _ h1
      obtain rfl := Option.some.inj (hp'.symm.trans h2)
      exact r.blk
    have hli : ∀ {b : Nat} {s : ByteArray} {o : Nat} {p : Place}, hget H b = .iter s o → μ[b]? = some p → p.blk < w.heap.size := fun h1 h2 => by
      obtain ⟨p', hp', r, _⟩ := hr.iter _ _ _ h1
      obtain rfl := Option.some.inj (hp'.symm.trans h2)
      rcases Nat.lt_or_ge p'.blk w.heap.size with h' | h'
      · exact h'
      · rw [Array.getElem?_eq_none h'] at r; cases r
    have hj := hl.join (B := w.heap.size) k2 (fun b C e l m p => hlt) (fun b s o p => hli) (fun b p hp => k6 b p (Nat.zero_le _) hp)
    refine ⟨_, r', μ ++ ν, _, rfl, k1.ren2 (fun b c p hc hp => ?_), hj, fun b p hp => by rw [List.getElem?_append_left (mu_lt hp)]; exact hp, by simp, fun b hb => hget_append_lt hb, fun b p hb hp => ?_, k7, hs.2⟩
    · cases hc
      rw [List.getElem?_append_right (by rw [hr.len]; omega), hr.len, show H.length + b - H.length = b by omega]
      exact hp
    · rw [List.getElem?_append_right (by rw [hr.len]; exact hb)] at hp
      exact k6 _ p (Nat.zero_le _) hp
  · exact hs.elim

theorem MemOk.of_run {P : Program} {call : FuncId → Spec} {hint : List (Nat × List Nat)} {tb : Tab} {f : FuncId} {fn : Func} {c : Code} {g : Mem} (hm : P.follows .mixedOrders = true) (hc : CallOk P call)
    (hf : P.funcs[f]? = some fn) (hn : (fn.name == "runtime.NumGoroutine") = false) (hb : fn.body = some c) (hwf : wfC fn.ntmps (bodyOf fn) = true) (ht : TabOk P fn.ntmps tb (bodyOf fn))
    (h : ∀ args c r G, g args = some (c, r, G) → closedL args = true ∧ (c → ∃ k, ∀ K : Value → VH → Prop, K r G → runF P call hint tb k fn args [] K)) : MemOk P f g where
  enter := ⟨fn, c, hf, hn, hb⟩
  args args c r G hg := (h args c r G hg).1
  meets args c r G hg hcc := by
    obtain ⟨k, h2⟩ := (h args c r G hg).2 hcc
    exact runF_meets hm hc Ro.empty hf hwf ht (h2 _ ⟨rfl, rfl⟩)

theorem pos_of {t : ByteArray} (h : (t.toList == (ByteArray.mk #[]).toList) = false) : decide ((0 : Int) < (t.size : Int)) = true := by
  refine decide_eq_true ?_
  cases hz : t.size with
  | succ n => omega
  | zero =>
    have : t = ByteArray.mk #[] := ByteArray.ext (Array.eq_empty_of_size_eq_zero hz)
    subst this
    simp at h
theorem pos_of' {t : ByteArray} (h : (!(t.toList == (ByteArray.mk #[]).toList)) = true) : decide ((0 : Int) < (t.size : Int)) = true := pos_of (by simpa using h)
theorem bcase_not {b : Bool} {X Y : Prop} (h : bcase b Y X) : bcase (!b) X Y := by cases b <;> exact h
theorem bcase_tt (X Y : Prop) : bcase true X Y = X := rfl
theorem bcase_ff (X Y : Prop) : bcase false X Y = Y := rfl
theorem sz1 (c : UInt8) : (ByteArray.mk #[c]).size = 1 := rfl
end Go.Proofs.YtofcjkbgieenlaaDoor.PM
