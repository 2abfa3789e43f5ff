/- The program's parts of paths against the reference's. By an AI agent. -/
import Derived.Test.YtofcjkbgieenlaaDoorPlainB
namespace Go.Proofs.YtofcjkbgieenlaaDoor.PM
open Go Go.Proofs Go.Proofs.YtofcjkbgieenlaaDoor.Hand
set_option maxRecDepth 100000
set_option linter.unusedVariables false
set_option linter.unusedSimpArgs false

/-- Is a byte one of a word? -/
def Wb (b : UInt8) : Bool := wb (b.toNat : Int)
def headW : List UInt8 → Bool
  | [] => false
  | b :: _ => Wb b
theorem drop_tw (p : UInt8 → Bool) : ∀ l : List UInt8, l.drop (l.takeWhile p).length = l.dropWhile p
  | [] => rfl
  | a :: l => by
    rw [List.takeWhile_cons, List.dropWhile_cons]
    cases h : p a with
    | true => simp [drop_tw p l]
    | false => simp
theorem wordN_tw (s : ByteArray) : ∀ d i, i + d = s.size → wordN s d i = i + (((li s).drop i).takeWhile Wb).length
  | 0, i, h => by
    rw [List.drop_of_length_le (by rw [li_size]; omega)]
    rfl
  | d + 1, i, h => by
    have hi : i < (li s).length := by rw [li_size]; omega
    have hb : bt s (i : Int) = (((li s)[i]).toNat : Int) := by
      rw [bt_li, Int.toNat_natCast, List.getD_eq_getElem?_getD, List.getElem?_eq_getElem hi]; rfl
    unfold wordN
    rw [List.drop_eq_getElem_cons hi, List.takeWhile_cons, hb, wordN_tw s d (i + 1) (by omega)]
    unfold Wb
    cases wb (((li s)[i]).toNat : Int) with
    | true => simp only [cond_true, if_true, List.length_cons]; omega
    | false => simp
theorem wordEnd_tw (s : ByteArray) : wordEnd s = ((li s).takeWhile Wb).length := by
  unfold wordEnd
  rw [wordN_tw s s.size 0 (Nat.zero_add _), List.drop_zero, Nat.zero_add]
theorem li_wordR (s : ByteArray) : li (wordR s) = (li s).dropWhile Wb := by
  unfold wordR
  rw [li_extract, List.take_of_length_le (by rw [li_size]; exact Nat.le_refl _), wordEnd_tw, drop_tw]
theorem wordB_head (s : ByteArray) : decide ((wordEnd s : Int) > 0) = headW (li s) := by
  rw [wordEnd_tw]
  cases li s with
  | nil => rfl
  | cons a l =>
    rw [List.takeWhile_cons]
    unfold headW
    cases h : Wb a with
    | true => simp [h]
    | false => simp [h]
/-- What parts two words. -/
def partedL (l : List UInt8) : List UInt8 × Bool :=
  let t := l.dropWhile (· == 45)
  bif decide (t.length < l.length) then (t, true) else
  bif List.isPrefixOf [46] l then (l.drop 1, true) else
  bif List.isPrefixOf [95, 95] l then (l.drop 2, true) else
  bif List.isPrefixOf [95] l then (l.drop 1, true) else (l, false)
theorem partedS_list (s : ByteArray) : li (partedS s).1 = (partedL (li s)).1 ∧ (partedS s).2 = (partedL (li s)).2 := by
  have hl : ∀ p : List UInt8, Lib.hasPrefix s.data.toList p = List.isPrefixOf p (li s) := fun p => rfl
  have h1 : decide (((ByteArray.mk (Lib.trimLeftB s.data.toList 45).toArray).size : Int) < s.size) = decide (((li s).dropWhile (· == 45)).length < (li s).length) := by
    rw [mk_size, ← li_size s]
    exact decide_eq_decide.2 (by show ((((li s).dropWhile (· == 45)).length : Int) < _) ↔ _; omega)
  unfold partedS partedL
  simp only [h1, hl]
  cases decide (((li s).dropWhile (· == 45)).length < (li s).length) with
  | true => exact ⟨rfl, rfl⟩
  | false =>
    simp only [cond_false]
    cases hp : List.isPrefixOf [46] (li s) with
    | true => exact ⟨by show Lib.trimPrefix s.data.toList [46] = _; unfold Lib.trimPrefix; rw [hl, hp]; rfl, rfl⟩
    | false =>
      simp only [cond_false]
      cases hq : List.isPrefixOf [95, 95] (li s) with
      | true => exact ⟨by show Lib.trimPrefix s.data.toList [95, 95] = _; unfold Lib.trimPrefix; rw [hl, hq]; rfl, rfl⟩
      | false =>
        simp only [cond_false]
        cases hr : List.isPrefixOf [95] (li s) with
        | true => exact ⟨by show Lib.trimPrefix s.data.toList [95] = _; unfold Lib.trimPrefix; rw [hl, hr]; rfl, rfl⟩
        | false => exact ⟨rfl, rfl⟩
def pL : Nat → List UInt8 → Bool → Bool
  | 0, _, ok => ok
  | d + 1, l, ok => bif ok && !l.isEmpty then (bif (partedL l).2 then pL d ((partedL l).1.dropWhile Wb) (headW (partedL l).1) else false) else ok
theorem partP_list : ∀ (d : Nat) (s : ByteArray) (ok : Bool), partP d s ok = pL d (li s) ok
  | 0, s, ok => by unfold partP; rfl
  | d + 1, s, ok => by
    unfold partP pL
    obtain ⟨e1, e2⟩ := partedS_list s
    have hn : isS s [] = (li s).isEmpty := by
      rw [Bool.eq_iff_iff, isS_nil, List.isEmpty_iff]
    rw [hn, e2, partP_list d, li_wordR, wordB_head, e1]
theorem partPS_list (s : ByteArray) : partPS s = pL s.size ((li s).dropWhile Wb) (headW (li s)) := by
  unfold partPS
  rw [partP_list, li_wordR, wordB_head]
/-! ### Both against one automaton -/
def okGap (g : List UInt8) : Bool := !badGap (ofL g)
theorem dash_cls : ((List.range 256).all fun n => someOf ⟨#[45]⟩ (n : Int) 0 (ByteArray.mk #[45]).size == ((n : Int) == 45)) = true := by kernel_rfl
theorem isS_list (g l : List UInt8) : isS (ofL g) l = true ↔ g = l := by
  rw [show isS (ofL g) l = ((ofL g).toList == (ByteArray.mk l.toArray).toList) from rfl, eq_iff, decide_eq_true_eq]
  constructor
  · intro h
    have := congrArg li h
    exact this
  · rintro rfl; rfl
theorem okGap_iff (g : List UInt8) : okGap g = true ↔ g = [] ∨ g = [46] ∨ g = [95] ∨ g = [95, 95] ∨ ∀ x ∈ g, x = 45 := by
  have hd : ofS (ofL g) ⟨#[45]⟩ = true ↔ ∀ x ∈ g, x = 45 := by
    rw [ofS_bytes (p := fun c => c == 45) dash_cls]
    constructor
    · intro h x hx
      have := beq_iff_eq.1 (h x hx)
      exact UInt8.toNat_inj.1 (by show x.toNat = 45; omega)
    · intro h x hx
      rw [h x hx]; rfl
  have h0 := isS_list g []
  have h1 := isS_list g [46]
  have h2 := isS_list g [95]
  have h3 := isS_list g [95, 95]
  unfold okGap badGap
  rw [← h0, ← h1, ← h2, ← h3, ← hd]
  cases isS (ofL g) [] <;> cases isS (ofL g) [46] <;> cases isS (ofL g) [95] <;> cases isS (ofL g) [95, 95] <;> cases ofS (ofL g) ⟨#[45]⟩ <;> simp
def pQ (b : UInt8) : Bool := partQ (b.toNat : Int)
def A : List UInt8 → List UInt8 → Bool
  | [], g => g.isEmpty
  | a :: l, g => bif Wb a then okGap g && A l [] else pQ a && A l (g ++ [a])
def R : List UInt8 → List UInt8 → Bool
  | [], _ => true
  | a :: l, g => bif !Wb a then R l (g ++ [a]) else bif badGap (ofL g) then false else R l []
def lastOK (l g : List UInt8) : Bool := match l.getLast? with
  | none => g.isEmpty
  | some b => Wb b
theorem W_pQ {a : UInt8} (h : Wb a = true) : pQ a = true := by
  unfold pQ partQ
  rw [show wb (a.toNat : Int) = true from h]
  rfl
theorem last_cons (a : UInt8) (l g g' : List UInt8) : lastOK (a :: l) g = bif l.isEmpty then Wb a else lastOK l g' := by
  cases l with
  | nil => rfl
  | cons b l =>
    unfold lastOK
    rw [List.getLast?_cons_cons]
    cases h : (b :: l).getLast? with
    | none => simp at h
    | some c => rfl
theorem A_ref : ∀ l g : List UInt8, A l g = (l.all pQ && (lastOK l g && R l g))
  | [], g => by simp [A, R, lastOK]
  | a :: l, g => by
    unfold A R
    cases hw : Wb a with
    | true =>
      rw [A_ref l [], last_cons a l g [], List.all_cons, W_pQ hw, hw]
      simp only [cond_true, Bool.not_true, cond_false, Bool.true_and]
      unfold okGap
      cases l with
      | nil => cases badGap (ofL g) <;> rfl
      | cons b l =>
        cases badGap (ofL g) <;> simp
    | false =>
      rw [A_ref l (g ++ [a]), last_cons a l g (g ++ [a]), List.all_cons, hw]
      simp only [cond_false, Bool.not_false, cond_true]
      cases l with
      | nil => cases pQ a <;> simp [lastOK]
      | cons b l => cases pQ a <;> simp
theorem A_gap : ∀ (g h r : List UInt8), (∀ x ∈ g, Wb x = false) → A (g ++ r) h = (g.all pQ && A r (h ++ g))
  | [], h, r, _ => by simp
  | a :: g, h, r, hn => by
    have hw := hn a List.mem_cons_self
    rw [List.cons_append, A, hw, cond_false, A_gap g (h ++ [a]) r (fun x hx => hn x (List.mem_cons_of_mem _ hx)), List.all_cons, Bool.and_assoc, List.append_assoc]
    rfl
theorem A_words : ∀ r : List UInt8, A (r.dropWhile Wb) [] = A r []
  | [] => rfl
  | a :: r => by
    rw [List.dropWhile_cons]
    cases hw : Wb a with
    | true =>
      have e : okGap [] = true := (okGap_iff []).2 (.inl rfl)
      simp only [if_true]
      rw [A_words r, A, hw, cond_true, e, Bool.true_and]
    | false => simp
theorem dw_head : ∀ (g r : List UInt8), (∀ x ∈ g, Wb x = false) → (¬ ∀ x ∈ g, x = 45) → headW ((g ++ r).dropWhile (· == 45)) = false
  | [], r, _, h => absurd (fun _ hx => absurd hx List.not_mem_nil) h
  | a :: g, r, hn, h => by
    rw [List.cons_append, List.dropWhile_cons]
    cases ha : a == 45 with
    | true =>
      simp only [if_true]
      refine dw_head g r (fun x hx => hn x (List.mem_cons_of_mem _ hx)) (fun hall => h fun x hx => ?_)
      rcases List.mem_cons.1 hx with rfl | hx
      · exact beq_iff_eq.1 ha
      · exact hall x hx
    | false =>
      simp only [Bool.false_eq_true, if_false]
      exact hn a List.mem_cons_self
theorem dw_all : ∀ (g r : List UInt8), (∀ x ∈ g, x = 45) → (g ++ r).dropWhile (· == 45) = r.dropWhile (· == 45)
  | [], r, _ => rfl
  | a :: g, r, h => by
    rw [List.cons_append, List.dropWhile_cons, h a List.mem_cons_self]
    simp only [beq_self_eq_true, if_true]
    exact dw_all g r fun x hx => h x (List.mem_cons_of_mem _ hx)
theorem headW_app {g r : List UInt8} (hg : g ≠ []) (hn : ∀ x ∈ g, Wb x = false) : headW (g ++ r) = false := by
  cases g with
  | nil => exact absurd rfl hg
  | cons a g => exact hn a List.mem_cons_self
theorem dw_word {r : List UInt8} (h : r = [] ∨ headW r = true) : r.dropWhile (· == 45) = r := by
  cases r with
  | nil => rfl
  | cons b r =>
    rcases h with h | h
    · cases h
    · rw [List.dropWhile_cons]
      have : (b == 45) = false := by
        rw [beq_eq_false_iff_ne]
        rintro rfl
        have h' : Wb 45 = true := h
        exact absurd h' (by decide)
      rw [this]
      rfl
theorem gap_parted (g r : List UInt8) (hg : g ≠ []) (hn : ∀ x ∈ g, Wb x = false) (hr : r = [] ∨ headW r = true) :
    (okGap g = true → partedL (g ++ r) = (r, true)) ∧ (okGap g = false → (partedL (g ++ r)).2 = true → headW (partedL (g ++ r)).1 = false) := by
  have ok := okGap_iff g
  cases g with
  | nil => exact absurd rfl hg
  | cons a g =>
    have hn' : ∀ x ∈ g, Wb x = false := fun x hx => hn x (List.mem_cons_of_mem _ hx)
    by_cases ha : a = 45
    · subst ha
      have hlt : decide ((((45 :: g) ++ r).dropWhile (· == 45)).length < ((45 :: g) ++ r).length) = true := by
        refine decide_eq_true ?_
        rw [List.cons_append, List.dropWhile_cons]
        simp only [beq_self_eq_true, if_true, List.length_cons]
        have := (List.dropWhile_sublist (· == 45) (l := g ++ r)).length_le
        omega
      have e : partedL ((45 :: g) ++ r) = (((45 :: g) ++ r).dropWhile (· == 45), true) := by
        unfold partedL
        simp only [hlt, cond_true]
      rw [e]
      refine ⟨fun h => ?_, fun h _ => dw_head _ r hn fun hall => ?_⟩
      · rcases ok.1 h with h | h | h | h | h
        · cases h
        · cases h
        · cases h
        · cases h
        · rw [dw_all _ r h, dw_word hr]
      · rw [ok.2 (.inr (.inr (.inr (.inr hall))))] at h
        cases h
    · have hne : (a == 45) = false := beq_eq_false_iff_ne.2 ha
      have hdw : (a :: (g ++ r)).dropWhile (· == 45) = a :: (g ++ r) := by
        rw [List.dropWhile_cons, hne]; rfl
      have notall : ¬ ∀ x ∈ a :: g, x = 45 := fun h => ha (h a List.mem_cons_self)
      have e : partedL ((a :: g) ++ r) = bif List.isPrefixOf [46] (a :: (g ++ r)) then (g ++ r, true) else
          bif List.isPrefixOf [95, 95] (a :: (g ++ r)) then ((g ++ r).drop 1, true) else bif List.isPrefixOf [95] (a :: (g ++ r)) then (g ++ r, true) else (a :: (g ++ r), false) := by
        rw [List.cons_append]
        unfold partedL
        simp only [hdw, Nat.lt_irrefl, decide_false, cond_false, List.drop_succ_cons, List.drop_zero]
      rw [e]
      by_cases h46 : a = 46
      · subst h46
        simp only [List.isPrefixOf, beq_self_eq_true, Bool.true_and, cond_true]
        refine ⟨fun h => ?_, fun h _ => headW_app (fun eg => ?_) hn'⟩
        · rcases ok.1 h with h | h | h | h | h
          · cases h
          · rw [show g = [] by simpa using h]; rfl
          · cases h
          · cases h
          · exact absurd h notall
        · subst eg
          rw [ok.2 (.inr (.inl rfl))] at h
          cases h
      · have p46 : List.isPrefixOf [46] (a :: (g ++ r)) = false := by simp [List.isPrefixOf, Ne.symm h46]
        by_cases h95 : a = 95
        · subst h95
          rw [p46]
          simp only [List.isPrefixOf, beq_self_eq_true, Bool.true_and, cond_false, cond_true]
          cases g with
          | nil =>
            have hb : List.isPrefixOf [95] ([] ++ r) = false := by
              cases r with
              | nil => rfl
              | cons b r =>
                rcases hr with hr | hr
                · cases hr
                · have : b ≠ 95 := by
                    rintro rfl
                    have h' : Wb 95 = true := hr
                    exact absurd h' (by decide)
                  simp [List.isPrefixOf, Ne.symm this]
            rw [hb]
            refine ⟨fun _ => rfl, fun h => ?_⟩
            rw [ok.2 (.inr (.inr (.inl rfl)))] at h
            cases h
          | cons b g =>
            have hn2 : ∀ x ∈ g, Wb x = false := fun x hx => hn' x (List.mem_cons_of_mem _ hx)
            by_cases hb : b = 95
            · subst hb
              simp only [List.cons_append, List.isPrefixOf, beq_self_eq_true, Bool.true_and, cond_true, List.drop_succ_cons, List.drop_zero]
              refine ⟨fun h => ?_, fun h _ => headW_app (fun eg => ?_) hn2⟩
              · rcases ok.1 h with h | h | h | h | h
                · cases h
                · cases h
                · cases h
                · rw [show g = [] by simpa using h]; rfl
                · exact absurd h notall
              · subst eg
                rw [ok.2 (.inr (.inr (.inr (.inl rfl))))] at h
                cases h
            · have pb : ((95 : UInt8) == b) = false := beq_eq_false_iff_ne.2 (Ne.symm hb)
              simp only [List.cons_append, List.isPrefixOf, pb, Bool.false_and, cond_false]
              refine ⟨fun h => ?_, fun h _ => hn' b List.mem_cons_self⟩
              rcases ok.1 h with h | h | h | h | h
              · cases h
              · cases h
              · cases h
              · simp at h; exact absurd h.1 hb
              · exact absurd h notall
        · have p95 : ∀ z, List.isPrefixOf (95 :: z) (a :: (g ++ r)) = false := fun z => by simp [List.isPrefixOf, Ne.symm h95]
          rw [p46, p95, p95]
          simp only [cond_false]
          refine ⟨fun h => ?_, fun _ h => by cases h⟩
          rcases ok.1 h with h | h | h | h | h
          · cases h
          · simp at h; exact absurd h.1 h46
          · simp at h; exact absurd h.1 h95
          · simp at h; exact absurd h.1 h95
          · exact absurd h notall
end Go.Proofs.YtofcjkbgieenlaaDoor.PM
