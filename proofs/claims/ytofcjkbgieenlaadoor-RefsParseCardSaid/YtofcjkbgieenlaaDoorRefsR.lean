/- Contracts of strings.IndexAny and ContainsAny at the set that told looks for, and of told. By an AI agent. -/
import Derived.Test.YtofcjkbgieenlaaDoorRefsQ
import Derived.Laws.RangeAny
import Derived.Laws.RangeString
namespace Go.Proofs.YtofcjkbgieenlaaDoor.PM
open Go Go.Proofs Go.RowKit
set_option maxRecDepth 100000
set_option linter.unusedVariables false
set_option linter.unusedSimpArgs false

def longG : Pure
  | [.int .i64 n] => some (True, .bool (decide (8 < n)))
  | _ => none
theorem long_ok : PureOk Tryd.prog 70 longG :=
  .of_shelf Tryd.func70 (by kernel_rfl) rfl fun args c r hg => by
    unfold longG at hg
    split at hg
    · rename_i n
      cases hg
      exact ⟨rfl, fun _ => ⟨rfl, fun w => (Tryd.strings_shouldUseASCIISet n w).mono fun e w' k => ⟨k.1, by rw [k.2]; exact Below.refl _ _⟩⟩⟩
    · cases hg
/-- Where a rune that is looked for stands. -/
def iaFrom (s : ByteArray) : Nat → Nat → Int
  | 0, _ => -1
  | d + 1, pos => bif decide (pos < s.size) then (bif decide (irS ((Utf8.decode s pos).1 : Int) ≥ 0) then (pos : Int) else iaFrom s d (pos + (Utf8.decode s pos).2)) else -1
def iaLp : LSpec
  | [(1, .string t), (45, .pointer (some ⟨0, 0, some 0⟩))], H, K => ∃ s : ByteArray, (H = [.iter s 0] ∧ t = dots ∧ s.size ≤ 8) ∧
      bcase (decide (iaFrom s 9 0 ≥ 0)) (∀ p, K .ret [(4, .int .i64 (iaFrom s 9 0))] [.iter s p]) (∀ p, K (.exit 2) [] [.iter s p])
  | _, _, _ => False
theorem dec_pos (s : ByteArray) (pos : Nat) (h : pos < s.size) : 1 ≤ (Utf8.decode s pos).2 := by
  by_cases ha : (s[pos]'h).toNat < 128
  · rw [decode_ascii s pos h ha]; exact Nat.le_refl _
  · exact (decode_high s pos h (by omega)).2
theorem ia_rounds (s : ByteArray) (hs : s.size ≤ 8) (K : Kont) : ∀ (d pos : Nat), s.size ≤ pos + d →
    bcase (decide (iaFrom s (d + 1) pos ≥ 0)) (∀ p, K .ret [(4, .int .i64 (iaFrom s (d + 1) pos))] [.iter s p]) (∀ p, K (.exit 2) [] [.iter s p]) →
    rnds Tryd.prog (callOf [(37, pureS irG)]) (hints 61) noTab (d + 1) (lp Tryd.f61 18) [(1, .string dots), (45, pt 0)] [.iter s pos] K
  | 0, pos, hd, hK => by
    have h0 : decide (pos < s.size) = false := decide_eq_false (by omega)
    rw [iaFrom, h0] at hK
    refine to (R := bcase (decide (pos < s.size)) (((dots = dots) ∧ (((0 : Int) ≤ (↑(Utf8.decode s pos).fst : Int)) ∧ ((↑(Utf8.decode s pos).fst : Int) ≤ (2147483647 : Int)))) ∧ (bcase (decide ((irS (↑(Utf8.decode s pos).fst : Int)) ≥ (0 : Int))) (K .ret [(4, (.int .i64 (↑pos : Int)))] [(VB.iter s (pos + (Utf8.decode s pos).snd))]) (rnds Tryd.prog (callOf [(37, (pureS irG))]) (hints 61) noTab (nat_lit 0) (lp Tryd.f61 18) [(1, (.string dots)), (45, (.pointer (some (Addr.mk 0 0 (some 0)))))] [(VB.iter s (pos + (Utf8.decode s pos).snd))] K))) (K (.exit 2) [] [(VB.iter s pos)])) (by kernel_rfl) ?_
    exact bcase_f h0 (hK _)
  | d + 1, pos, hd, hK => by
    have ih := ia_rounds s hs K d (pos + (Utf8.decode s pos).2)
    have hle := decode_le s pos
    have hpos := dec_pos s pos
    rw [iaFrom] at hK
    obtain ⟨n, hn⟩ : ∃ n, n = d + 1 := ⟨_, rfl⟩; rw [← hn] at ih ⊢
    refine to (R := bcase (decide (pos < s.size)) (((dots = dots) ∧ (((0 : Int) ≤ (↑(Utf8.decode s pos).fst : Int)) ∧ ((↑(Utf8.decode s pos).fst : Int) ≤ (2147483647 : Int)))) ∧ (bcase (decide ((irS (↑(Utf8.decode s pos).fst : Int)) ≥ (0 : Int))) (K .ret [(4, (.int .i64 (↑pos : Int)))] [(VB.iter s (pos + (Utf8.decode s pos).snd))]) (rnds Tryd.prog (callOf [(37, (pureS irG))]) (hints 61) noTab n (lp Tryd.f61 18) [(1, (.string dots)), (45, (.pointer (some (Addr.mk 0 0 (some 0)))))] [(VB.iter s (pos + (Utf8.decode s pos).snd))] K))) (K (.exit 2) [] [(VB.iter s pos)])) (by kernel_rfl) ?_
    refine bcase_of (fun h => ⟨⟨rfl, by omega, by omega⟩, bcase_of (fun h2 => ?_) (fun h2 => ?_)⟩) (fun h => ?_)
    · simp only [h, h2, cond_true] at hK
      rw [decide_eq_true (by omega : (pos : Int) ≥ 0)] at hK
      exact hK _
    · simp only [h, h2, cond_true, cond_false] at hK
      have := hpos (of_decide_eq_true h)
      rw [← hn] at hK
      exact ih (by omega) hK
    · simp only [h, cond_false] at hK
      exact hK _
theorem iaLp_ok : CodeOk Tryd.prog Tryd.f61.ntmps (.loop (lp Tryd.f61 18)) iaLp := by
  refine loop_ok (call := callOf [(37, pureS irG)]) (hint := hints 61) (tb := noTab) hm (callOf_cons ir_ok.spec callOf_nil) (by kernel_rfl) (by repeat' first | exact trivial | constructor |  (intro _ h; cases h)) fun fr H K h => ?_
  unfold iaLp at h
  split at h
  · obtain ⟨s, ⟨rfl, rfl, hs⟩, hK⟩ := h
    exact ⟨9, ia_rounds s hs _ 8 0 (by omega) hK⟩
  · exact h.elim
attribute [irreducible] iaFrom
def tab61 : Tab := ⟨fun | 12 => some never | 18 => some iaLp | _ => none, fun _ => none⟩
def iaG : Pure
  | [.string s, .string t] => some (t = dots ∧ s.size ≤ 8, .int .i64 (bif decide (iaFrom s 9 0 ≥ 0) then iaFrom s 9 0 else -1))
  | _ => none
theorem ia_ok : PureOk Tryd.prog 61 iaG := by
  refine .of_run (call := callOf [(37, pureS irG), (70, pureS longG)]) (hint := hints 61) (tb := tab61) hm (callOf_cons ir_ok.spec (callOf_cons long_ok.spec callOf_nil)) Tryd.func61 (by kernel_rfl) rfl (by kernel_rfl) (by repeat' first | exact trivial | constructor | (intro _ h; cases h; exact fun _ _ _ _ _ _ _ _ _ _ h => h.elim) | (intro _ h; cases h; exact iaLp_ok) | (intro _ h; cases h)) fun args c r h => ?_
  unfold iaG at h
  split at h
  · rename_i s t
    cases h
    refine ⟨rfl, fun hs => ⟨rfl, 1, fun K hK => ?_⟩⟩
    obtain ⟨rfl, h1⟩ := hs
    refine to (R := bcase (dots.toList == (ByteArray.mk #[]).toList) (K (.int .i64 ((-1) : Int)) []) (True ∧ (bcase (decide ((8 : Int) < (↑s.size : Int))) False (∃ (s_1 : ByteArray), ((([(VB.iter s 0)] = [(VB.iter s_1 0)]) ∧ ((dots = dots) ∧ (s_1.size ≤ 8))) ∧ (bcase (decide ((iaFrom s_1 9 0) ≥ (0 : Int))) (∀ (p : Nat), (K (.int .i64 (iaFrom s_1 9 0)) [])) (∀ (p : Nat), (K (.int .i64 ((-1) : Int)) [])))))))) (by kernel_rfl) ?_
    have hK := hK []
    refine bcase_f (by rw [toList_empty]; rfl) ⟨trivial, bcase_f (by simp; omega) ⟨s, ⟨rfl, rfl, h1⟩, bcase_of (fun h => ?_) (fun h => ?_)⟩⟩
    · rw [h] at hK
      exact fun _ => hK
    · rw [h] at hK
      exact fun _ => hK
  · cases h
theorem getb (s : ByteArray) (i : Nat) (h : i < s.size) : (s.get! i) = (li s)[i]'(by rw [li_size]; exact h) := by
  have h2 : i < s.data.size := h
  show s.data[i]! = _
  rw [getElem!_pos s.data i h2]
  simp [li]
/-- What a rune of more bytes goes over. -/
theorem dec_skip (s : ByteArray) (pos : Nat) (h : pos < s.size) (ha : 128 ≤ ((li s)[pos]'(by rw [li_size]; exact h)).toNat) : pos + (Utf8.decode s pos).2 ≤ s.size ∧ ∀ k, k < (Utf8.decode s pos).2 → 128 ≤ (s.get! (pos + k)).toNat := by
  have h0 : 128 ≤ (s.get! (pos + 0)).toNat := by rw [Nat.add_zero, getb s pos h]; exact ha
  have one : ∀ k, k < 1 → 128 ≤ (s.get! (pos + k)).toNat := fun k hk => by
    obtain rfl : k = 0 := by omega
    exact h0
  have hn : ¬ (s.get! (pos + 0)).toNat < 128 := by omega
  simp only [Utf8.decode, hn, if_false]
  split
  · rename_i hc
    simp only [Bool.and_eq_true, decide_eq_true_eq, beq_iff_eq] at hc
    split
    · exact ⟨by omega, fun k hk => by
        match k, hk with
        | 0, _ => exact h0
        | 1, _ => omega⟩
    · exact ⟨by omega, one⟩
  · split
    · rename_i hc
      simp only [Bool.and_eq_true, decide_eq_true_eq, beq_iff_eq] at hc
      split
      · exact ⟨by omega, fun k hk => by
          match k, hk with
          | 0, _ => exact h0
          | 1, _ => omega
          | 2, _ => omega⟩
      · exact ⟨by omega, one⟩
    · split
      · rename_i hc
        simp only [Bool.and_eq_true, decide_eq_true_eq, beq_iff_eq] at hc
        split
        · exact ⟨by omega, fun k hk => by
            match k, hk with
            | 0, _ => exact h0
            | 1, _ => omega
            | 2, _ => omega
            | 3, _ => omega⟩
        · exact ⟨by omega, one⟩
      · exact ⟨by omega, one⟩
/-- The bytes that are looked for. -/
abbrev two58 : List UInt8 := [46, 58]
theorem ia_cons (b : UInt8) (l cs : List UInt8) : Lib.indexAny (b :: l) cs ≥ 0 ↔ cs.contains b = true ∨ Lib.indexAny l cs ≥ 0 := by
  have e : Lib.indexAny (b :: l) cs = if cs.contains b then 0 else if Lib.indexAny l cs == -1 then -1 else Lib.indexAny l cs + 1 := rfl
  have hge := Lib.indexAny_ge cs l
  rw [e]
  cases cs.contains b with
  | true => simp
  | false =>
    simp only [Bool.false_eq_true, if_false, false_or]
    split
    · rename_i he
      rw [beq_iff_eq] at he
      rw [he]
    · rename_i he
      have : Lib.indexAny l cs ≠ -1 := fun e => he (by rw [e]; rfl)
      omega
theorem ia_skip : ∀ (w : Nat) (l : List UInt8), w ≤ l.length → (∀ k (h : k < l.length), k < w → 128 ≤ (l[k]).toNat) → (Lib.indexAny l two58 ≥ 0 ↔ Lib.indexAny (l.drop w) two58 ≥ 0)
  | 0, l, _, _ => by rw [List.drop_zero]
  | w + 1, [], h, _ => by simp at h
  | w + 1, b :: l, h, hk => by
    have h0 : 128 ≤ b.toNat := hk 0 (by simp) (by omega)
    have hb : two58.contains b = false := by
      cases hc : two58.contains b with
      | false => rfl
      | true =>
        rw [List.contains_iff_mem] at hc
        rcases List.mem_cons.1 hc with rfl | hc
        · exact absurd h0 (by decide)
        · rw [List.mem_singleton.1 hc] at h0; exact absurd h0 (by decide)
    have ih := ia_skip w l (by simpa using h) fun k hl hw => hk (k + 1) (by simpa using hl) (by omega)
    rw [List.drop_succ_cons, ← ih, ia_cons, hb]
    simp
theorem irS_low (b : UInt8) (h : b.toNat < 128) : (irS (b.toNat : Int) ≥ 0) ↔ two58.contains b = true := by
  have : ∀ n : Fin 128, (irS (n.val : Int) ≥ 0) ↔ two58.contains (UInt8.ofNat n.val) = true := by decide
  have := this ⟨b.toNat, h⟩
  simpa using this
theorem irS_high (r : Nat) (h : 128 ≤ r) : ¬ irS (r : Int) ≥ 0 := by
  unfold irS
  have h1 : ((r : Int) == 46) = false := by simp; omega
  have h2 : ((r : Int) == 58) = false := by simp; omega
  rw [h1, h2]
  simp
theorem ia_law (s : ByteArray) : ∀ (d pos : Nat), s.size < pos + d → (iaFrom s d pos ≥ 0 ↔ Lib.indexAny ((li s).drop pos) two58 ≥ 0)
  | 0, pos, h => by
    rw [List.drop_of_length_le (by rw [li_size]; omega)]
    simp [iaFrom, Lib.indexAny]
  | d + 1, pos, h => by
    unfold iaFrom
    by_cases hp : pos < s.size
    · have hl : pos < (li s).length := by rw [li_size]; exact hp
      rw [decide_eq_true hp, cond_true]
      have hdp := dec_pos s pos hp
      have ih := ia_law s d (pos + (Utf8.decode s pos).2) (by omega)
      by_cases hb : ((li s)[pos]).toNat < 128
      · have he : Utf8.decode s pos = (((li s)[pos]).toNat, 1) := decode_ascii s pos hp hb
        rw [he] at ih ⊢
        simp only at ih ⊢
        rw [List.drop_eq_getElem_cons hl]
        have hlow := irS_low _ hb
        rw [ia_cons]
        cases hc : two58.contains ((li s)[pos]) with
        | true =>
          rw [decide_eq_true (hlow.2 hc), cond_true]
          simp
        | false =>
          rw [decide_eq_false (fun hh => by rw [hlow.1 hh] at hc; cases hc), cond_false, ih]
          simp
      · have hh := (decode_high s pos hp (by show 128 ≤ ((li s)[pos]).toNat; omega)).1
        rw [decide_eq_false (irS_high _ hh), cond_false, ih, ← List.drop_drop]
        have hsk := dec_skip s pos hp (by omega)
        refine (ia_skip _ _ (by rw [List.length_drop, li_size]; omega) fun k hk hw => ?_).symm
        have := hsk.2 k hw
        rw [getb s (pos + k) (by omega)] at this
        simpa [List.getElem_drop] using this
    · rw [decide_eq_false hp, cond_false, List.drop_of_length_le (by rw [li_size]; omega)]
      simp [Lib.indexAny]
end Go.Proofs.YtofcjkbgieenlaaDoor.PM
