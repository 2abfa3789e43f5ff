/- Other numbers for the blocks: what holds of the one holds of the other. By an AI agent. -/
import Derived.Test.YtofcjkbgieenlaaDoorPMEff
namespace Go.Proofs.YtofcjkbgieenlaaDoor.PM
open Go Go.RowKit
set_option linter.unusedVariables false
set_option linter.unusedSimpArgs false

section
variable {μ ν : Mu} {f : Nat → Option Nat}

theorem VR.ren0 (hf : ∀ (b c : Nat) (p : Place), f b = some c → μ[b]? = some p → ν[c]? = some p) {v v' : Value} (h : VR μ v v') : VR ν (PM.ren0 f v) v' := by
  unfold PM.ren0
  split
  · rename_i b i j
    split
    · rename_i c hc
      cases h with
      | ptr hp => exact .ptr (hf _ _ _ hc hp)
    · exact .junk _
  · rename_i b i n c
    split
    · rename_i d hd
      cases h with
      | slice hp h1 h2 => exact .slice (hf _ _ _ hd hp) h1 h2
      | slice0 a => exact .slice0 a
    · exact .junk _
  · cases h with
    | func a b => cases a; cases b; exact .func .nil .nil
  · cases hp : plainV v with
    | false => exact .junk _
    | true =>
      simp only [cond_true]
      cases h <;> first | (exfalso; simp [plainV] at hp; done) | constructor | cases hp

theorem VRs.mapR {g : Value → Value} (hg : ∀ {v v' : Value}, VR μ v v' → VR ν (g v) v') : ∀ {l l' : List Value}, VRs μ l l' → VRs ν (l.map g) l'
  | _, _, .nil => .nil
  | _, _, .cons a b => .cons (hg a) (VRs.mapR hg b)

theorem VR.ren1 (hf : ∀ (b c : Nat) (p : Place), f b = some c → μ[b]? = some p → ν[c]? = some p) {v v' : Value} (h : VR μ v v') : VR ν (PM.ren1 f v) v' := by
  unfold PM.ren1
  split
  · cases h with
    | agg hl => exact .agg (hl.mapR fun h => h.ren0 hf)
  · cases h with
    | func a b => exact .func (a.mapR fun h => h.ren0 hf) (b.mapR fun h => h.ren0 hf)
  · cases h with
    | iface h => exact .iface (h.ren0 hf)
  · cases h with
    | tuple hl => cases hl; exact .tuple .nil
  · exact h.ren0 hf

theorem VR.ren2 (hf : ∀ (b c : Nat) (p : Place), f b = some c → μ[b]? = some p → ν[c]? = some p) {v v' : Value} (h : VR μ v v') : VR ν (PM.ren2 f v) v' := by
  unfold PM.ren2
  split
  · cases h with
    | tuple hl => exact .tuple (hl.mapR fun h => h.ren1 hf)
  · exact h.ren1 hf

theorem RowOk.ren (hf : ∀ (b c : Nat) (p : Place), f b = some c → μ[b]? = some p → ν[c]? = some p) {w : World} {C : Codec} {e : Nat} {l : List C.α} {m : VMode} {p : Place} (r : RowOk μ w C e l m p) :
    RowOk ν w C e (bif C.flat then l else l.map (C.map (PM.ren1 f))) m p := by
  have hmap : ∀ x, C.enc (C.map (PM.ren1 f) x) = (C.enc x).map (PM.ren1 f) := C.h_map _ (fun _ => rfl) (fun _ _ => rfl) (fun _ => rfl)
  cases hfl : C.flat with
  | true =>
    refine ⟨r.pe, r.blk, r.lens, fun i j x v h1 h2 => ?_, r.own⟩
    obtain ⟨v', c1, c2⟩ := r.cells i j x v h1 h2
    refine ⟨v', c1, ?_⟩
    obtain ⟨u, hu, hk⟩ := C.h_flat hfl x v (List.mem_of_getElem? h2)
    subst hu
    cases v <;> first | (cases c2; constructor; done) | (simp at hk; done)
  | false =>
    simp only [cond_false]
    refine ⟨r.pe, r.blk, fun x hx => ?_, fun i j x v h1 h2 => ?_, fun ho => ?_⟩
    · obtain ⟨y, hy, rfl⟩ := List.mem_map.1 hx
      rw [hmap, List.length_map]
      exact r.lens y hy
    · rw [List.getElem?_map] at h1
      obtain ⟨y, hy, rfl⟩ := Option.map_eq_some_iff.1 h1
      rw [hmap, List.getElem?_map] at h2
      obtain ⟨u, hu, rfl⟩ := Option.map_eq_some_iff.1 h2
      obtain ⟨v', c1, c2⟩ := r.cells i j y u hy hu
      exact ⟨v', c1, c2.ren1 hf⟩
    · rw [List.length_map]
      exact r.own ho
end

theorem hget_mapL {σ : List Nat} {g : Nat → VB} {c : Nat} : hget (σ.map g) c = match σ[c]? with | some b => g b | none => .dead := by
  induction σ generalizing c with
  | nil => cases c <;> rfl
  | cons b σ ih => cases c with
    | zero => rfl
    | succ c => simpa [hget] using ih

theorem idxN_some : ∀ {σ : List Nat} {b c : Nat}, idxN σ b = some c → σ[c]? = some b
  | [], b, c, h => by cases h
  | a :: r, b, c, h => by
    unfold idxN at h
    cases hb : Nat.beq a b with
    | true =>
      rw [hb] at h
      obtain rfl := Nat.eq_of_beq_eq_true hb
      cases h
      rfl
    | false =>
      rw [hb] at h
      simp only [cond_false] at h
      split at h
      · rename_i i hi
        cases h
        simpa using idxN_some hi
      · cases h

theorem renB_row {f : Nat → Option Nat} {X : VB} {C : Codec} {e : Nat} {l : List C.α} {m : VMode} (h : renB f X = .row C e l m) : ∃ l0, X = .row C e l0 m ∧ l = (bif C.flat then l0 else l0.map (C.map (ren1 f))) := by
  cases X with
  | row C' e' l' m' => simp only [renB] at h; cases h; exact ⟨l', rfl, rfl⟩
  | iter s o => simp only [renB] at h; cases h
  | dead => simp only [renB] at h; cases h
theorem renB_iter {f : Nat → Option Nat} {X : VB} {s : ByteArray} {o : Nat} (h : renB f X = .iter s o) : X = .iter s o := by
  cases X with
  | row C' e' l' m' => simp only [renB] at h; cases h
  | iter s o => simpa only [renB] using h
  | dead => simp only [renB] at h; cases h
theorem ren_len {C : Codec} {f : Nat → Option Nat} {l : List C.α} : (bif C.flat then l else l.map (C.map (ren1 f))).length = l.length := by cases C.flat <;> simp

theorem nodup_at {σ : List Nat} (hnd : σ.Nodup) {i j b : Nat} (hi : σ[i]? = some b) (hj : σ[j]? = some b) : i = j := by
  obtain ⟨l1, e1⟩ := List.getElem?_eq_some_iff.1 hi
  obtain ⟨l2, e2⟩ := List.getElem?_eq_some_iff.1 hj
  have hp := List.pairwise_iff_getElem.1 hnd
  rcases Nat.lt_trichotomy i j with h | h | h
  · exact absurd (e1.trans e2.symm) (hp i j l1 l2 h)
  · exact h
  · exact absurd (e2.trans e1.symm) (hp j i l2 l1 h)

/-- The blocks that are kept, in another order. -/
theorem HR.pick {μ : Mu} {H : VH} {w : World} (h : HR μ H w) {σ : List Nat} (hlt : ∀ b ∈ σ, b < H.length) (hnd : σ.Nodup) (d : Place) :
    HR (σ.map fun b => μ.getD b d) (σ.map fun b => renB (idxN σ) (hget H b)) w ∧
    ∀ (b c : Nat) (p : Place), idxN σ b = some c → μ[b]? = some p → (σ.map fun b => μ.getD b d)[c]? = some p := by
  have hf : ∀ (b c : Nat) (p : Place), idxN σ b = some c → μ[b]? = some p → (σ.map fun b => μ.getD b d)[c]? = some p := fun b c p hc hp => by
    rw [List.getElem?_map, idxN_some hc]
    simp [List.getD, hp]
  have at_ : ∀ {c : Nat} {X : VB}, hget (σ.map fun b => renB (idxN σ) (hget H b)) c = X → X ≠ .dead → ∃ b, σ[c]? = some b ∧ X = renB (idxN σ) (hget H b) ∧ (∀ p, μ[b]? = some p → (σ.map fun b => μ.getD b d)[c]? = some p) ∧
      (∀ p, (σ.map fun b => μ.getD b d)[c]? = some p → μ[b]? = some p) := by
    intro c X hg hX
    rw [hget_mapL] at hg
    cases hc : σ[c]? with
    | none => rw [hc] at hg; exact absurd hg.symm hX
    | some b =>
      rw [hc] at hg
      have hbl : b < μ.length := by rw [h.len]; exact hlt b (List.mem_of_getElem? hc)
      have hmu := List.getElem?_eq_getElem hbl
      have hm2 : (σ.map fun b => μ.getD b d)[c]? = some μ[b] := by
        rw [List.getElem?_map, hc]
        simp [List.getD, hmu]
      refine ⟨b, rfl, hg.symm, fun p hp => ?_, fun p hp => ?_⟩
      · rw [hm2, ← hp, hmu]
      · rw [hm2] at hp; rw [hmu]; exact hp
  have inj : ∀ {c1 c2 b : Nat}, σ[c1]? = some b → σ[c2]? = some b → c1 = c2 := fun h1 h2 => nodup_at hnd h1 h2
  refine ⟨⟨by simp, ?_, ?_, ?_, ?_⟩, hf⟩
  · intro c C e l m hg
    obtain ⟨b, hb, hX, h1, h2⟩ := at_ hg (by intro hh; cases hh)
    obtain ⟨l0, hg0, rfl⟩ := renB_row hX.symm
    obtain ⟨p, hp, r⟩ := h.row b C e l0 m hg0
    exact ⟨p, h1 p hp, r.ren hf⟩
  · intro c s o hg
    obtain ⟨b, hb, hX, h1, h2⟩ := at_ hg (by intro hh; cases hh)
    obtain ⟨p, hp, r⟩ := h.iter b s o (renB_iter hX.symm)
    exact ⟨p, h1 p hp, r⟩
  · intro c1 c2 C1 C2 e1 e2 l1 l2 m2 p1 p2 hne g1 g2 q1 q2 hblk i j hi hj hst
    obtain ⟨b1, hb1, hX1, _, k1⟩ := at_ g1 (by intro hh; cases hh)
    obtain ⟨b2, hb2, hX2, _, k2⟩ := at_ g2 (by intro hh; cases hh)
    obtain ⟨x1, hg1, rfl⟩ := renB_row hX1.symm
    obtain ⟨x2, hg2, rfl⟩ := renB_row hX2.symm
    rw [ren_len] at hj hst
    exact h.sep b1 b2 C1 C2 e1 e2 x1 x2 m2 p1 p2 (fun hh => by subst hh; exact hne (inj hb1 hb2)) hg1 hg2 (k1 p1 q1) (k2 p2 q2) hblk i j hi hj hst
  · intro c1 c2 s1 s2 o1 o2 p1 p2 hne g1 g2 q1 q2
    obtain ⟨b1, hb1, hX1, _, k1⟩ := at_ g1 (by intro hh; cases hh)
    obtain ⟨b2, hb2, hX2, _, k2⟩ := at_ g2 (by intro hh; cases hh)
    exact h.isep b1 b2 s1 s2 o1 o2 p1 p2 (fun hh => by subst hh; exact hne (inj hb1 hb2)) (renB_iter hX1.symm) (renB_iter hX2.symm) (k1 p1 q1) (k2 p2 q2)

theorem hasN_mem : ∀ {l : List Nat} {b : Nat}, hasN l b = false → b ∉ l
  | [], _, _ => by simp
  | a :: r, b, h => by
    unfold hasN at h
    cases hb : Nat.beq a b with
    | true => rw [hb] at h; cases h
    | false =>
      rw [hb] at h
      have hne : a ≠ b := fun e => by subst e; simp at hb
      intro hm
      rcases List.mem_cons.1 hm with hm | hm
      · exact hne hm.symm
      · exact hasN_mem h hm

theorem reach_ok {H : VH} : ∀ (n : Nat) (t acc : List Nat), (∀ b ∈ acc, b < H.length) → acc.Nodup → (∀ b ∈ reach H n t acc, b < H.length) ∧ (reach H n t acc).Nodup ∧ ∃ r, reach H n t acc = acc ++ r
  | 0, t, acc, h1, h2 => ⟨h1, h2, [], by simp [reach]⟩
  | n + 1, [], acc, h1, h2 => ⟨h1, h2, [], by simp [reach]⟩
  | n + 1, b :: t, acc, h1, h2 => by
    unfold reach
    cases hb : (hasN acc b || !(Nat.blt b H.length)) with
    | true => exact reach_ok n t acc h1 h2
    | false =>
      simp only [Bool.or_eq_false_iff, Bool.not_eq_false'] at hb
      have hbl : b < H.length := Nat.le_of_ble_eq_true hb.2
      obtain ⟨k1, k2, r, k3⟩ := reach_ok n (t ++ idsB (hget H b)) (acc ++ [b]) (fun c hc => by
        rcases List.mem_append.1 hc with hc | hc
        · exact h1 c hc
        · rw [List.mem_singleton.1 hc]; exact hbl) (by
        rw [List.nodup_append]
        exact ⟨h2, by simp, fun c hc d hd => by rw [List.mem_singleton.1 hd]; exact fun e => hasN_mem hb.1 (e ▸ hc)⟩)
      refine ⟨k1, k2, b :: r, ?_⟩
      simp only [cond_false]
      rw [k3]
      simp

theorem leadRo_le : ∀ H : VH, leadRo H ≤ H.length
  | [] => Nat.le_refl _
  | .row _ _ _ .ro :: r => by simpa [leadRo] using leadRo_le r
  | .dead :: r => by simpa [leadRo] using leadRo_le r
  | .row _ _ _ .own :: r => Nat.zero_le _
  | .row _ _ _ .stale :: r => Nat.zero_le _
  | .iter _ _ :: r => Nat.zero_le _

theorem kept_ok (fr : Fr) (H : VH) : (∀ b ∈ kept fr H, b < H.length) ∧ (kept fr H).Nodup ∧ ∃ r, kept fr H = List.range (leadRo H) ++ r :=
  reach_ok 100 (idsF fr) (List.range (leadRo H)) (fun b hb => Nat.lt_of_lt_of_le (List.mem_range.1 hb) (leadRo_le H)) List.nodup_range

end Go.Proofs.YtofcjkbgieenlaaDoor.PM
