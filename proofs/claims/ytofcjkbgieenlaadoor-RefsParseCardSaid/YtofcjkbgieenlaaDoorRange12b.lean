/- refs.domain: a range over strings.SplitSeq, by the kit's walk. By an AI agent. -/
import Derived.Test.YtofcjkbgieenlaaDoorSplitSeq
import Derived.Test.YtofcjkbgieenlaaDoorRefsS
import Derived.Test.YtofcjkbgieenlaaDoorRange12
set_option linter.unusedVariables false
set_option linter.unusedSimpArgs false
namespace Go.Proofs.YtofcjkbgieenlaaDoor.PM
open Go Go.Proofs Go.RowKit Go.Shelf Go.Proofs.YtofcjkbgieenlaaDoor.Hand
attribute [local go_sem] Oper.semAt_some

/-- Between two rounds, and behind a return. -/
def AllInv2 (f : ByteArray → Bool) (w : World) (B : Nat) (pre : List ByteArray) (W : World) : Prop :=
  Boxed W w.heap.size 4 (.bool false) ∧ (∀ x ∈ pre, f x = true) ∧ Below w.heap.size w W ∧ w.heap.size < B ∧ B + 3 ≤ W.heap.size
def AllOut2 (f : ByteArray → Bool) (w : World) (B : Nat) (c : Code) (pre : List ByteArray) (W : World) : Prop :=
  c = .ret ∧ Boxed W w.heap.size 4 (.bool false) ∧ (∃ x ∈ pre, f x = false) ∧ Below w.heap.size w W ∧ w.heap.size < B
theorem AllInv2.ownFrom (f : ByteArray → Bool) (w : World) (B D : Nat) (hB : w.heap.size ≤ D) : OwnFrom D (AllInv2 f w B) := by
  rintro pre A A' row ⟨h1, h2, hb, hk, hz⟩ hg hr
  have hr' : ∀ r, row = some r → ∃ o : Obj, A.heap[r]? = some o ∧ o.isCells = false := fun r e => (hr r e).2
  exact ⟨boxed_keep h1 hg hr', h2, hb.grown hg hb.size (fun k e => by have := (hr k e).1; omega), hk, Nat.le_trans hz hg.size⟩
theorem AllOut2.ownFrom (f : ByteArray → Bool) (w : World) (B D : Nat) (hB : w.heap.size ≤ D) (c : Code) : OwnFrom D (AllOut2 f w B c) := by
  rintro pre A A' row ⟨h1, h2, h3, hb, hk⟩ hg hr
  have hr' : ∀ r, row = some r → ∃ o : Obj, A.heap[r]? = some o ∧ o.isCells = false := fun r e => (hr r e).2
  exact ⟨h1, boxed_keep h2 hg hr', h3, hb.grown hg hb.size (fun k e => by have := (hr k e).1; omega), hk⟩
theorem AllInv2.step {f : ByteArray → Bool} {w A A' : World} {B : Nat} {pre : List ByteArray} (h : AllInv2 f w B pre A) (hb : BoxStep B 3 A A') : AllInv2 f w B pre A' :=
  ⟨boxed_step h.1 hb h.2.2.2.1, h.2.1, below_step h.2.2.1 hb (by have := h.2.2.2.1; omega), h.2.2.2.1, by rw [hb.size]; exact h.2.2.2.2⟩
theorem AllOut2.step {f : ByteArray → Bool} {w A A' : World} {B : Nat} {c : Code} {pre : List ByteArray} (h : AllOut2 f w B c pre A) (hb : BoxStep B 3 A A') : AllOut2 f w B c pre A' :=
  ⟨h.1, boxed_step h.2.1 hb h.2.2.2.2, h.2.2.1, below_step h.2.2.2.1 hb (by have := h.2.2.2.2; omega), h.2.2.2.2⟩
def domainPS (s : ByteArray) : Bool := bif cutF s 58 && !portS (cutZ s 58) then false else (splitS 46 (cutA s 58)).all labelB
theorem cutZ_size (s : ByteArray) (c : UInt8) : (cutZ s c).size ≤ s.size := by
  unfold cutZ
  cases cutF s c
  · exact Nat.zero_le _
  · show (s.extract _ _).size ≤ _
    rw [ByteArray.size_extract]
    omega
set_option maxHeartbeats 4000000 in
set_option maxRecDepth 100000 in
theorem domain_in (p : ByteArray) (hp : p.size ≤ 1000000) (w : World) :
    CallsIn Fence.wide 5 Tryd.prog 31 #[.string p] w fun e w' => e = .returned (.bool (domainPS p)) ∧ Below w.heap.size w w' := by
  have hcut : ∀ W, Calls Tryd.prog 18 #[.string p, .string ⟨#[58]⟩] W fun e w' => e = .returned (.tuple #[.string (cutA p 58), .string (cutZ p 58), .bool (cutF p 58)]) ∧ Below W.heap.size W w' := fun W => cut_ok'.calls (args := [.string p, .string ⟨#[58]⟩]) rfl ⟨⟨58, rfl⟩, by omega⟩ W
  have hport : ∀ W, Calls Tryd.prog 47 #[.string (cutZ p 58)] W fun e w' => e = .returned (.bool (portS (cutZ p 58))) ∧ Below W.heap.size W w' := fun W => port_ok.calls (args := [.string (cutZ p 58)]) rfl (by have := cutZ_size p 58; omega) W
  have hsz2 := cutA_size p 58
  obtain ⟨hst, hhst⟩ : ∃ h, h = cutA p 58 := ⟨_, rfl⟩
  obtain ⟨prt, hprt⟩ : ∃ h, h = cutZ p 58 := ⟨_, rfl⟩
  have hdom : domainPS p = bif cutF p 58 && !portS prt then false else (splitS 46 hst).all labelB := by rw [hhst, hprt]; rfl
  rw [← hhst, ← hprt] at hcut
  rw [← hprt] at hport
  rw [← hhst] at hsz2
  clear hhst hprt
  have b00 := Boxed.new w 4 (.bool false)
  have hB0 : Below w.heap.size w (w.alloc (.cells #[.bool false] 4)) := (Below.refl _ w).alloc (Nat.le_refl _) _
  have Hdom := Lib.hid hdom
  clear hdom
  cases hf : cutF p 58 <;> cases hq : portS prt <;> rw [hf] at hcut Hdom <;> rw [hq] at hport Hdom
  all_goals
    have Hcut := Lib.hid hcut
    have Hport := Lib.hid hport
    clear hcut hport
    refine callsIn_of_wp_marks Tryd.func31 rfl trivial ?_ rfl
    simp only [Tryd.ntmps31, List.size_toArray, List.length_cons, List.length_nil, Nat.reduceAdd, Nat.reduceSub, Array.replicate_succ, Array.replicate_zero, List.push_toArray, List.append_toArray, List.nil_append, List.cons_append]
    gi_wp2_with (refine ⟨trivial, ?_⟩; first | ((with_reducible refine (callsIn_wide.2 (Hcut.out _)).mono ?_); rintro e w1 ⟨rfl, hb1⟩; have b1 := boxed_later b00 hb1; have c1 := b1.cell; have f1 := b1.frozen) | ((with_reducible refine (callsIn_wide.2 (Hport.out _)).mono ?_); rintro e w2 ⟨rfl, hb2⟩; have b2 := boxed_later b1 hb2; have c2 := b2.cell; have f2 := b2.frozen) | ((with_reducible refine (callsIn_wide.2 (SplitSeq_calls hst ⟨#[46]⟩ _)).mono ?_); rintro e w3 ⟨rfl, rfl⟩) | skip)
  · have hBB : Below w.heap.size w w1 := hB0.trans (hb1.mono (by simp))
    have hwB : w.heap.size < w1.heap.size := b1.lt
    have b0 := ((b1.alloc (.cells #[.string hst] 9)).alloc (.cells #[.string ⟨#[46]⟩] 9)).alloc (.cells #[.int .i64 0] 3)
    have b3 := ((Boxed.new w1 9 (.string hst)).alloc (.cells #[.string ⟨#[46]⟩] 9)).alloc (.cells #[.int .i64 0] 3)
    have b4 := (Boxed.new (w1.alloc (.cells #[.string hst] 9)) 9 (.string ⟨#[46]⟩)).alloc (.cells #[.int .i64 0] 3)
    have b5 := Boxed.new ((w1.alloc (.cells #[.string hst] 9)).alloc (.cells #[.string ⟨#[46]⟩] 9)) 3 (.int .i64 0)
    have hB : Below w.heap.size w (((w1.alloc (.cells #[.string hst] 9)).alloc (.cells #[.string ⟨#[46]⟩] 9)).alloc (.cells #[.int .i64 0] 3)) :=
      ((hBB.alloc (by omega) _).alloc (by simp; omega) _).alloc (by simp; omega) _
    generalize hW : ((w1.alloc (.cells #[.string hst] 9)).alloc (.cells #[.string ⟨#[46]⟩] 9)).alloc (.cells #[.int .i64 0] 3) = W6 at b0 b3 b4 b5 hB ⊢
    have hsz : W6.heap.size = w1.heap.size + 3 := by rw [← hW]; simp
    clear hW
    simp only [World.size_alloc, Nat.add_assoc, Nat.reduceAdd] at b0 b3 b4 b5 ⊢
    have hdom : domainPS p = (splitS 46 hst).all labelB := Hdom.out
    clear Hdom Hcut Hport
    have Hdom := Lib.hid hdom
    clear hdom
    obtain ⟨B, hBe⟩ : ∃ B, B = w1.heap.size := ⟨_, rfl⟩
    rw [← hBe] at b3 b4 b5 hsz hwB ⊢
    refine wpIn_rangeFunc_box rfl (by omega) (gf := 79) (lb := #[.pointer (some ⟨B + 1, 0, none⟩), .pointer (some ⟨B, 0, none⟩), .pointer (some ⟨B + 2, 0, none⟩)]) rfl trivial (enters_of Tryd.func79 (by kernel_rfl) rfl)
      (splitSeq1_seq 4 B (by omega) 46 hst (by omega) W6 ⟨b3, b4, b5⟩) (by omega) (fun _ => rfl)
      (AllInv2 labelB w B) (AllOut2 labelB w B) (AllInv2.ownFrom _ w B _ (by omega)) (AllOut2.ownFrom _ w B _ (by omega)) (fun _ _ _ h hb => h.step hb) (fun _ _ _ _ h hb => h.step hb)
      ⟨b0, fun _ h => absurd h List.not_mem_nil, hB, hwB, by omega⟩ ?act0 ?assign ?body ?done ?stop
    case assign =>
      intro l x W K hK
      gi_wp2
      exact hK
    case body =>
      rintro l pre x W ⟨h1, h2, hb, hk, hz⟩ hpx
      have hxs : x.size < 2 ^ 62 := by
        have hm : x ∈ splitS 46 hst := hpx.subset (by simp)
        obtain ⟨q, hq, rfl⟩ := List.mem_map.1 hm
        have := splitB_mem_length 46 _ q hq
        rw [bs_size]
        have : hst.data.toList.length = hst.size := Array.length_toList ..
        omega
      have hcall : ∀ W, Calls Tryd.prog 49 #[.string x] W fun e w' => e = .returned (.bool (labelB x)) ∧ Below W.heap.size W w' := fun W => label_ok.calls (args := [.string x]) rfl hxs W
      have Hcall := Lib.hid hcall
      clear hcall hxs
      cases hx : labelB x with
      | true =>
        rw [hx] at Hcall
        gi_wp2_with (refine ⟨trivial, ?_⟩; (with_reducible refine (CallsIn.inRound l (callsIn_wide.2 (Hcall.out _))).mono ?_); rintro e w' ⟨rfl, hbb⟩)
        exact ⟨keeps_below hbb, boxkept_below hbb (by omega), (hbb.block _ h1.lt).trans h1, fun y hy => by
          rcases List.mem_append.1 hy with hy | hy
          · exact h2 y hy
          · rw [List.mem_singleton.1 hy]; exact hx, hb.trans (hbb.mono hb.size), hk, by have := hbb.size; omega⟩
      | false =>
        rw [hx] at Hcall
        gi_wp2_with (refine ⟨trivial, ?_⟩; (with_reducible refine (CallsIn.inRound l (callsIn_wide.2 (Hcall.out _))).mono ?_); rintro e w' ⟨rfl, hbb⟩; have h1' := boxed_later h1 hbb; have c0 := h1'.cell; have f0 := h1'.frozen)
        exact ⟨(keeps_below hbb).trans ((KeepsOthers.setCell _ _ _).from _), rfl, h1'.set _, ⟨x, by simp, hx⟩, (hb.trans (hbb.mono hb.size)).setCell (p := ⟨w.heap.size, 0, none⟩) (Nat.le_refl _) _, hk⟩
    case done =>
      rintro D W hD ⟨h1, h2, hb, hk, hz⟩ hK
      have c0 := h1.cell
      have f0 := h1.frozen
      have hall : domainPS p = true := Hdom.out.trans (List.all_eq_true.2 h2)
      have Hall := Lib.hid hall
      clear hall
      gi_wp2
      have hK' := (KeepsOthers.setCell W ⟨w.heap.size, 0, none⟩ (.bool true)).same D _ hK rfl
      have u := (h1.set (.bool true))
      refine ⟨by simp, .inl ⟨_, _, rfl, run_takeDeferred hK', ?_⟩⟩
      have r := cell_kept u.cell (grownBy_putObj' _ D (.deferred none)) (fun r e => by cases e; exact ⟨_, hK', rfl⟩)
      refine ⟨.bool true, ?_, by rw [Hall.out], (hb.setCell (p := ⟨w.heap.size, 0, none⟩) (Nat.le_refl _) _).trans (belowK_b (w := w) (Nat.le_refl _) _ D _ _ (by omega) hK' rfl rfl)⟩
      simp [results, Tryd.f31, go_sem, r]
    case stop =>
      rintro D c pre W hD hpre ⟨rfl, h1, ⟨x, hx1, hx2⟩, hb, hk⟩ hK
      gi_wp2
      refine ⟨by simp, .inl ⟨_, _, rfl, run_takeDeferred hK, ?_⟩⟩
      have r := cell_kept h1.cell (grownBy_putObj' _ D (.deferred none)) (fun r e => by cases e; exact ⟨_, hK, rfl⟩)
      have hall : domainPS p = false := by
        rw [Hdom.out]
        cases h : (splitS 46 hst).all labelB with
        | false => rfl
        | true =>
          have := List.all_eq_true.1 h x (hpre.subset hx1)
          rw [hx2] at this
          cases this
      refine ⟨.bool false, ?_, by rw [hall], hb.trans (belowK_b (w := w) (Nat.le_refl _) _ D _ _ (by omega) hK rfl rfl)⟩
      simp [results, Tryd.f31, go_sem, r]
  · have hBB : Below w.heap.size w w1 := hB0.trans (hb1.mono (by simp))
    have hwB : w.heap.size < w1.heap.size := b1.lt
    have b0 := ((b1.alloc (.cells #[.string hst] 9)).alloc (.cells #[.string ⟨#[46]⟩] 9)).alloc (.cells #[.int .i64 0] 3)
    have b3 := ((Boxed.new w1 9 (.string hst)).alloc (.cells #[.string ⟨#[46]⟩] 9)).alloc (.cells #[.int .i64 0] 3)
    have b4 := (Boxed.new (w1.alloc (.cells #[.string hst] 9)) 9 (.string ⟨#[46]⟩)).alloc (.cells #[.int .i64 0] 3)
    have b5 := Boxed.new ((w1.alloc (.cells #[.string hst] 9)).alloc (.cells #[.string ⟨#[46]⟩] 9)) 3 (.int .i64 0)
    have hB : Below w.heap.size w (((w1.alloc (.cells #[.string hst] 9)).alloc (.cells #[.string ⟨#[46]⟩] 9)).alloc (.cells #[.int .i64 0] 3)) :=
      ((hBB.alloc (by omega) _).alloc (by simp; omega) _).alloc (by simp; omega) _
    generalize hW : ((w1.alloc (.cells #[.string hst] 9)).alloc (.cells #[.string ⟨#[46]⟩] 9)).alloc (.cells #[.int .i64 0] 3) = W6 at b0 b3 b4 b5 hB ⊢
    have hsz : W6.heap.size = w1.heap.size + 3 := by rw [← hW]; simp
    clear hW
    simp only [World.size_alloc, Nat.add_assoc, Nat.reduceAdd] at b0 b3 b4 b5 ⊢
    have hdom : domainPS p = (splitS 46 hst).all labelB := Hdom.out
    clear Hdom Hcut Hport
    have Hdom := Lib.hid hdom
    clear hdom
    obtain ⟨B, hBe⟩ : ∃ B, B = w1.heap.size := ⟨_, rfl⟩
    rw [← hBe] at b3 b4 b5 hsz hwB ⊢
    refine wpIn_rangeFunc_box rfl (by omega) (gf := 79) (lb := #[.pointer (some ⟨B + 1, 0, none⟩), .pointer (some ⟨B, 0, none⟩), .pointer (some ⟨B + 2, 0, none⟩)]) rfl trivial (enters_of Tryd.func79 (by kernel_rfl) rfl)
      (splitSeq1_seq 4 B (by omega) 46 hst (by omega) W6 ⟨b3, b4, b5⟩) (by omega) (fun _ => rfl)
      (AllInv2 labelB w B) (AllOut2 labelB w B) (AllInv2.ownFrom _ w B _ (by omega)) (AllOut2.ownFrom _ w B _ (by omega)) (fun _ _ _ h hb => h.step hb) (fun _ _ _ _ h hb => h.step hb)
      ⟨b0, fun _ h => absurd h List.not_mem_nil, hB, hwB, by omega⟩ ?act1 ?assign ?body ?done ?stop
    case assign =>
      intro l x W K hK
      gi_wp2
      exact hK
    case body =>
      rintro l pre x W ⟨h1, h2, hb, hk, hz⟩ hpx
      have hxs : x.size < 2 ^ 62 := by
        have hm : x ∈ splitS 46 hst := hpx.subset (by simp)
        obtain ⟨q, hq, rfl⟩ := List.mem_map.1 hm
        have := splitB_mem_length 46 _ q hq
        rw [bs_size]
        have : hst.data.toList.length = hst.size := Array.length_toList ..
        omega
      have hcall : ∀ W, Calls Tryd.prog 49 #[.string x] W fun e w' => e = .returned (.bool (labelB x)) ∧ Below W.heap.size W w' := fun W => label_ok.calls (args := [.string x]) rfl hxs W
      have Hcall := Lib.hid hcall
      clear hcall hxs
      cases hx : labelB x with
      | true =>
        rw [hx] at Hcall
        gi_wp2_with (refine ⟨trivial, ?_⟩; (with_reducible refine (CallsIn.inRound l (callsIn_wide.2 (Hcall.out _))).mono ?_); rintro e w' ⟨rfl, hbb⟩)
        exact ⟨keeps_below hbb, boxkept_below hbb (by omega), (hbb.block _ h1.lt).trans h1, fun y hy => by
          rcases List.mem_append.1 hy with hy | hy
          · exact h2 y hy
          · rw [List.mem_singleton.1 hy]; exact hx, hb.trans (hbb.mono hb.size), hk, by have := hbb.size; omega⟩
      | false =>
        rw [hx] at Hcall
        gi_wp2_with (refine ⟨trivial, ?_⟩; (with_reducible refine (CallsIn.inRound l (callsIn_wide.2 (Hcall.out _))).mono ?_); rintro e w' ⟨rfl, hbb⟩; have h1' := boxed_later h1 hbb; have c0 := h1'.cell; have f0 := h1'.frozen)
        exact ⟨(keeps_below hbb).trans ((KeepsOthers.setCell _ _ _).from _), rfl, h1'.set _, ⟨x, by simp, hx⟩, (hb.trans (hbb.mono hb.size)).setCell (p := ⟨w.heap.size, 0, none⟩) (Nat.le_refl _) _, hk⟩
    case done =>
      rintro D W hD ⟨h1, h2, hb, hk, hz⟩ hK
      have c0 := h1.cell
      have f0 := h1.frozen
      have hall : domainPS p = true := Hdom.out.trans (List.all_eq_true.2 h2)
      have Hall := Lib.hid hall
      clear hall
      gi_wp2
      have hK' := (KeepsOthers.setCell W ⟨w.heap.size, 0, none⟩ (.bool true)).same D _ hK rfl
      have u := (h1.set (.bool true))
      refine ⟨by simp, .inl ⟨_, _, rfl, run_takeDeferred hK', ?_⟩⟩
      have r := cell_kept u.cell (grownBy_putObj' _ D (.deferred none)) (fun r e => by cases e; exact ⟨_, hK', rfl⟩)
      refine ⟨.bool true, ?_, by rw [Hall.out], (hb.setCell (p := ⟨w.heap.size, 0, none⟩) (Nat.le_refl _) _).trans (belowK_b (w := w) (Nat.le_refl _) _ D _ _ (by omega) hK' rfl rfl)⟩
      simp [results, Tryd.f31, go_sem, r]
    case stop =>
      rintro D c pre W hD hpre ⟨rfl, h1, ⟨x, hx1, hx2⟩, hb, hk⟩ hK
      gi_wp2
      refine ⟨by simp, .inl ⟨_, _, rfl, run_takeDeferred hK, ?_⟩⟩
      have r := cell_kept h1.cell (grownBy_putObj' _ D (.deferred none)) (fun r e => by cases e; exact ⟨_, hK, rfl⟩)
      have hall : domainPS p = false := by
        rw [Hdom.out]
        cases h : (splitS 46 hst).all labelB with
        | false => rfl
        | true =>
          have := List.all_eq_true.1 h x (hpre.subset hx1)
          rw [hx2] at this
          cases this
      refine ⟨.bool false, ?_, by rw [hall], hb.trans (belowK_b (w := w) (Nat.le_refl _) _ D _ _ (by omega) hK rfl rfl)⟩
      simp [results, Tryd.f31, go_sem, r]
  · have hBB : Below w.heap.size w w2 := (hB0.trans (hb1.mono (by simp))).trans (hb2.mono (by have := hb1.size; simp at this; omega))
    have u := b2.set (.bool false)
    have hdom : domainPS p = false := Hdom.out
    refine ⟨.bool false, ?_, by rw [hdom], hBB.setCell (p := ⟨w.heap.size, 0, none⟩) (Nat.le_refl _) _⟩
    simp [results, Tryd.f31, go_sem, u.cell]
  · have hBB : Below w.heap.size w w2 := (hB0.trans (hb1.mono (by simp))).trans (hb2.mono (by have := hb1.size; simp at this; omega))
    have hwB : w.heap.size < w2.heap.size := b2.lt
    have b0 := ((b2.alloc (.cells #[.string hst] 9)).alloc (.cells #[.string ⟨#[46]⟩] 9)).alloc (.cells #[.int .i64 0] 3)
    have b3 := ((Boxed.new w2 9 (.string hst)).alloc (.cells #[.string ⟨#[46]⟩] 9)).alloc (.cells #[.int .i64 0] 3)
    have b4 := (Boxed.new (w2.alloc (.cells #[.string hst] 9)) 9 (.string ⟨#[46]⟩)).alloc (.cells #[.int .i64 0] 3)
    have b5 := Boxed.new ((w2.alloc (.cells #[.string hst] 9)).alloc (.cells #[.string ⟨#[46]⟩] 9)) 3 (.int .i64 0)
    have hB : Below w.heap.size w (((w2.alloc (.cells #[.string hst] 9)).alloc (.cells #[.string ⟨#[46]⟩] 9)).alloc (.cells #[.int .i64 0] 3)) :=
      ((hBB.alloc (by omega) _).alloc (by simp; omega) _).alloc (by simp; omega) _
    generalize hW : ((w2.alloc (.cells #[.string hst] 9)).alloc (.cells #[.string ⟨#[46]⟩] 9)).alloc (.cells #[.int .i64 0] 3) = W6 at b0 b3 b4 b5 hB ⊢
    have hsz : W6.heap.size = w2.heap.size + 3 := by rw [← hW]; simp
    clear hW
    simp only [World.size_alloc, Nat.add_assoc, Nat.reduceAdd] at b0 b3 b4 b5 ⊢
    have hdom : domainPS p = (splitS 46 hst).all labelB := Hdom.out
    clear Hdom Hcut Hport
    have Hdom := Lib.hid hdom
    clear hdom
    obtain ⟨B, hBe⟩ : ∃ B, B = w2.heap.size := ⟨_, rfl⟩
    rw [← hBe] at b3 b4 b5 hsz hwB ⊢
    refine wpIn_rangeFunc_box rfl (by omega) (gf := 79) (lb := #[.pointer (some ⟨B + 1, 0, none⟩), .pointer (some ⟨B, 0, none⟩), .pointer (some ⟨B + 2, 0, none⟩)]) rfl trivial (enters_of Tryd.func79 (by kernel_rfl) rfl)
      (splitSeq1_seq 4 B (by omega) 46 hst (by omega) W6 ⟨b3, b4, b5⟩) (by omega) (fun _ => rfl)
      (AllInv2 labelB w B) (AllOut2 labelB w B) (AllInv2.ownFrom _ w B _ (by omega)) (AllOut2.ownFrom _ w B _ (by omega)) (fun _ _ _ h hb => h.step hb) (fun _ _ _ _ h hb => h.step hb)
      ⟨b0, fun _ h => absurd h List.not_mem_nil, hB, hwB, by omega⟩ ?act2 ?assign ?body ?done ?stop
    case assign =>
      intro l x W K hK
      gi_wp2
      exact hK
    case body =>
      rintro l pre x W ⟨h1, h2, hb, hk, hz⟩ hpx
      have hxs : x.size < 2 ^ 62 := by
        have hm : x ∈ splitS 46 hst := hpx.subset (by simp)
        obtain ⟨q, hq, rfl⟩ := List.mem_map.1 hm
        have := splitB_mem_length 46 _ q hq
        rw [bs_size]
        have : hst.data.toList.length = hst.size := Array.length_toList ..
        omega
      have hcall : ∀ W, Calls Tryd.prog 49 #[.string x] W fun e w' => e = .returned (.bool (labelB x)) ∧ Below W.heap.size W w' := fun W => label_ok.calls (args := [.string x]) rfl hxs W
      have Hcall := Lib.hid hcall
      clear hcall hxs
      cases hx : labelB x with
      | true =>
        rw [hx] at Hcall
        gi_wp2_with (refine ⟨trivial, ?_⟩; (with_reducible refine (CallsIn.inRound l (callsIn_wide.2 (Hcall.out _))).mono ?_); rintro e w' ⟨rfl, hbb⟩)
        exact ⟨keeps_below hbb, boxkept_below hbb (by omega), (hbb.block _ h1.lt).trans h1, fun y hy => by
          rcases List.mem_append.1 hy with hy | hy
          · exact h2 y hy
          · rw [List.mem_singleton.1 hy]; exact hx, hb.trans (hbb.mono hb.size), hk, by have := hbb.size; omega⟩
      | false =>
        rw [hx] at Hcall
        gi_wp2_with (refine ⟨trivial, ?_⟩; (with_reducible refine (CallsIn.inRound l (callsIn_wide.2 (Hcall.out _))).mono ?_); rintro e w' ⟨rfl, hbb⟩; have h1' := boxed_later h1 hbb; have c0 := h1'.cell; have f0 := h1'.frozen)
        exact ⟨(keeps_below hbb).trans ((KeepsOthers.setCell _ _ _).from _), rfl, h1'.set _, ⟨x, by simp, hx⟩, (hb.trans (hbb.mono hb.size)).setCell (p := ⟨w.heap.size, 0, none⟩) (Nat.le_refl _) _, hk⟩
    case done =>
      rintro D W hD ⟨h1, h2, hb, hk, hz⟩ hK
      have c0 := h1.cell
      have f0 := h1.frozen
      have hall : domainPS p = true := Hdom.out.trans (List.all_eq_true.2 h2)
      have Hall := Lib.hid hall
      clear hall
      gi_wp2
      have hK' := (KeepsOthers.setCell W ⟨w.heap.size, 0, none⟩ (.bool true)).same D _ hK rfl
      have u := (h1.set (.bool true))
      refine ⟨by simp, .inl ⟨_, _, rfl, run_takeDeferred hK', ?_⟩⟩
      have r := cell_kept u.cell (grownBy_putObj' _ D (.deferred none)) (fun r e => by cases e; exact ⟨_, hK', rfl⟩)
      refine ⟨.bool true, ?_, by rw [Hall.out], (hb.setCell (p := ⟨w.heap.size, 0, none⟩) (Nat.le_refl _) _).trans (belowK_b (w := w) (Nat.le_refl _) _ D _ _ (by omega) hK' rfl rfl)⟩
      simp [results, Tryd.f31, go_sem, r]
    case stop =>
      rintro D c pre W hD hpre ⟨rfl, h1, ⟨x, hx1, hx2⟩, hb, hk⟩ hK
      gi_wp2
      refine ⟨by simp, .inl ⟨_, _, rfl, run_takeDeferred hK, ?_⟩⟩
      have r := cell_kept h1.cell (grownBy_putObj' _ D (.deferred none)) (fun r e => by cases e; exact ⟨_, hK, rfl⟩)
      have hall : domainPS p = false := by
        rw [Hdom.out]
        cases h : (splitS 46 hst).all labelB with
        | false => rfl
        | true =>
          have := List.all_eq_true.1 h x (hpre.subset hx1)
          rw [hx2] at this
          cases this
      refine ⟨.bool false, ?_, by rw [hall], hb.trans (belowK_b (w := w) (Nat.le_refl _) _ D _ _ (by omega) hK rfl rfl)⟩
      simp [results, Tryd.f31, go_sem, r]
def domainPG : Pure
  | [.string s] => some (s.size ≤ 1000000, .bool (domainPS s))
  | _ => none
theorem pdomain_ok : PureOk Tryd.prog 31 domainPG :=
  .of_shelf Tryd.func31 (by kernel_rfl) rfl fun args c r hg => by
    unfold domainPG at hg
    split at hg
    · rename_i s
      cases hg
      exact ⟨rfl, fun hcc => ⟨rfl, fun w => callsIn_wide.1 (domain_in s hcc w)⟩⟩
    · cases hg
end Go.Proofs.YtofcjkbgieenlaaDoor.PM
