/- The program's digests are the reference's. By an AI agent. -/
import Derived.Test.YtofcjkbgieenlaaDoorPlainG
namespace Go.Proofs.YtofcjkbgieenlaaDoor.PM
open Go Go.Proofs Go.Proofs.YtofcjkbgieenlaaDoor.Hand
set_option maxRecDepth 100000
set_option linter.unusedVariables false
set_option linter.unusedSimpArgs false

/-- A digit's value. -/
def hv (b : UInt8) : Int := irH (b.toNat : Int)
theorem hv_tab : ((List.range 256).all fun n => decide (irH (n : Int) < 0) || (decide (n < 128) && (decide (0 ≤ irH (n : Int)) && (decide (irH (n : Int) < 16) && (hexB (irH (n : Int)) == UInt8.ofNat n))))) = true := by kernel_rfl
theorem hv_fact (b : UInt8) (h : ¬ hv b < 0) : b.toNat < 128 ∧ 0 ≤ hv b ∧ hv b < 16 ∧ hexB (hv b) = b := by
  have := List.all_eq_true.1 hv_tab b.toNat (List.mem_range.2 b.toNat_lt)
  rw [Bool.or_eq_true] at this
  rcases this with h2 | h2
  · exact absurd (of_decide_eq_true h2) h
  · simp only [Bool.and_eq_true, decide_eq_true_eq, beq_iff_eq] at h2
    refine ⟨h2.1, h2.2.1, h2.2.2.1, ?_⟩
    have := h2.2.2.2
    simpa [hv] using this
theorem hex_tab : ((List.range 16).all fun q => (hv (hexB (q : Int)) == (q : Int)) && (valS ((hexB (q : Int)).toNat : Int) == (q : Int))) = true := by kernel_rfl
theorem hex_fact (q : Int) (h0 : 0 ≤ q) (h1 : q < 16) : hv (hexB q) = q ∧ valS ((hexB q).toNat : Int) = q := by
  obtain ⟨n, rfl⟩ : ∃ n : Nat, q = (n : Int) := ⟨q.toNat, by omega⟩
  have := List.all_eq_true.1 hex_tab n (List.mem_range.2 (by omega))
  simpa using this
def stepL (pos : Nat) (b : UInt8) (x : List Int) : List Int := x.set (pos / 2) (IntKind.u8.wrap (IntKind.u8.wrap (x.getD (pos / 2) 0 * (2 : Int) ^ 4) + IntKind.u8.wrap (hv b)))
def pdL : List UInt8 → Nat → List Int → Option (List Int)
  | [], _, x => some x
  | b :: l, pos, x => bif decide (hv b < 0) then none else pdL l (pos + 1) (stepL pos b x)
theorem pd_list (s : ByteArray) : ∀ (d pos : Nat) (x : List Int), s.size ≤ pos + d → pd s (d + 1) pos x = pdL ((li s).drop pos) pos x := by
  have stop : ∀ (d pos : Nat) (x : List Int), ¬ pos < s.size → pd s (d + 1) pos x = pdL ((li s).drop pos) pos x := fun d pos x hp => by
    unfold pd
    rw [decide_eq_false hp, cond_false, List.drop_of_length_le (by rw [li_size]; omega)]
    rfl
  intro d
  induction d with
  | zero => exact fun pos x h => stop 0 pos x (by omega)
  | succ d ih =>
    intro pos x h
    by_cases hp : pos < s.size
    · have hl : pos < (li s).length := by rw [li_size]; exact hp
      rw [pd, decide_eq_true hp, cond_true, List.drop_eq_getElem_cons hl, pdL]
      by_cases hb : ((li s)[pos]).toNat < 128
      · have he : Utf8.decode s pos = (((li s)[pos]).toNat, 1) := decode_ascii s pos hp hb
        unfold pdStep
        rw [he]
        simp only
        rw [ih (pos + 1) _ (by omega)]
        rfl
      · have hh := (decode_high s pos hp (by show 128 ≤ ((li s)[pos]).toNat; omega)).1
        have n1 : irH ((Utf8.decode s pos).1 : Int) = -1 := by unfold irH; rw [decide_eq_false (by omega)]; rfl
        have n2 : hv ((li s)[pos]) = -1 := by unfold hv irH; rw [decide_eq_false (by omega)]; rfl
        rw [n1, n2]
        rfl
    · exact stop (d + 1) pos x hp
def H (xs : List Int) : List UInt8 := xs.flatMap fun c => [hexB (c / 16), hexB (c % 16)]
def zeroFrom (k : Nat) (x : List Int) : Prop := ∀ j, k ≤ j → x.getD j 0 = 0
theorem wrap8 {x : Int} (h0 : 0 ≤ x) (h1 : x < 256) : IntKind.u8.wrap x = x := by show x % 256 = x; omega
theorem two_steps (k : Nat) (a b : UInt8) (x : List Int) (hx : k < x.length) (hz : x.getD k 0 = 0) (ha : ¬ hv a < 0) (hb : ¬ hv b < 0) :
    stepL (2 * k + 1) b (stepL (2 * k) a x) = x.set k (16 * hv a + hv b) := by
  have a1 := hv_fact a ha
  have b1 := hv_fact b hb
  unfold stepL
  have e1 : (2 * k) / 2 = k := by omega
  have e2 : (2 * k + 1) / 2 = k := by omega
  rw [e1, e2, hz]
  have w1 : IntKind.u8.wrap (IntKind.u8.wrap (0 * (2 : Int) ^ 4) + IntKind.u8.wrap (hv a)) = hv a := by
    have z : IntKind.u8.wrap (0 * (2 : Int) ^ 4) = 0 := by decide
    rw [z, wrap8 (x := hv a) a1.2.1 (by omega), Int.zero_add, wrap8 (x := hv a) a1.2.1 (by omega)]
  rw [w1]
  have g : (x.set k (hv a)).getD k 0 = hv a := by
    rw [List.getD_eq_getElem?_getD, List.getElem?_set_self hx]; rfl
  rw [g, List.set_set]
  congr 1
  rw [wrap8 (x := hv b) b1.2.1 (by omega), show hv a * (2 : Int) ^ 4 = 16 * hv a by omega, wrap8 (x := 16 * hv a) (by omega) (by omega), wrap8 (by omega) (by omega)]
theorem set_take {x : List Int} {k : Nat} (v : Int) (hk : k < x.length) : (x.set k v).take (k + 1) = x.take k ++ [v] := by
  rw [List.take_add_one, List.take_set_of_le (Nat.le_refl k), List.getElem?_set_self hk]
  rfl
theorem zero_set {x : List Int} {k : Nat} (v : Int) (h : zeroFrom k x) : zeroFrom (k + 1) (x.set k v) := fun j hj => by
  have := h j (by omega)
  rw [List.getD_eq_getElem?_getD] at this ⊢
  rw [List.getElem?_set_ne (by omega)]
  exact this
theorem pdL_fwd : ∀ (xs : List Int) (k : Nat) (x : List Int), (∀ c ∈ xs, 0 ≤ c ∧ c < 256) → x.length = k + xs.length → zeroFrom k x → pdL (H xs) (2 * k) x = some (x.take k ++ xs)
  | [], k, x, _, hl, _ => by
    rw [List.take_of_length_le (by simp at hl; omega), List.append_nil]
    rfl
  | c :: xs, k, x, hc, hl, hz => by
    have hcc := hc c List.mem_cons_self
    have hk : k < x.length := by rw [hl, List.length_cons]; omega
    obtain ⟨q1, _⟩ := hex_fact (c / 16) (by omega) (by omega)
    obtain ⟨r1, _⟩ := hex_fact (c % 16) (by omega) (by omega)
    have e : H (c :: xs) = hexB (c / 16) :: hexB (c % 16) :: H xs := rfl
    have n1 : ¬ hv (hexB (c / 16)) < 0 := by rw [q1]; omega
    have n2 : ¬ hv (hexB (c % 16)) < 0 := by rw [r1]; omega
    rw [e, pdL, decide_eq_false n1, cond_false, pdL, decide_eq_false n2, cond_false, two_steps k _ _ x hk (hz k (Nat.le_refl k)) n1 n2, q1, r1]
    have ev : 16 * (c / 16) + c % 16 = c := by omega
    rw [ev, show 2 * k + 1 + 1 = 2 * (k + 1) by omega, pdL_fwd xs (k + 1) _ (fun y hy => hc y (List.mem_cons_of_mem _ hy)) (by rw [List.length_set, hl, List.length_cons]; omega) (zero_set c hz), set_take c hk]
    simp
theorem pdL_bwd : ∀ (n k : Nat) (x : List Int) (l : List UInt8) (y : List Int), l.length = 2 * n → x.length = k + n → zeroFrom k x → pdL l (2 * k) x = some y → ∃ xs : List Int, xs.length = n ∧ (∀ c ∈ xs, 0 ≤ c ∧ c < 256) ∧ l = H xs
  | 0, k, x, l, y, hl, _, _, _ => ⟨[], rfl, fun _ h => absurd h List.not_mem_nil, List.eq_nil_of_length_eq_zero (by omega)⟩
  | n + 1, k, x, l, y, hl, hx, hz, h => by
    match l, hl with
    | a :: b :: l, hl =>
      simp only [List.length_cons] at hl
      rw [pdL] at h
      by_cases ha : hv a < 0
      · rw [decide_eq_true ha] at h; cases h
      · rw [decide_eq_false ha, cond_false, pdL] at h
        by_cases hb : hv b < 0
        · rw [decide_eq_true hb] at h; cases h
        · have hk : k < x.length := by omega
          rw [decide_eq_false hb, cond_false, two_steps k a b x hk (hz k (Nat.le_refl k)) ha hb, show 2 * k + 1 + 1 = 2 * (k + 1) by omega] at h
          obtain ⟨xs, e1, e2, e3⟩ := pdL_bwd n (k + 1) _ l y (by omega) (by rw [List.length_set]; omega) (zero_set _ hz) h
          have a1 := hv_fact a ha
          have b1 := hv_fact b hb
          refine ⟨(16 * hv a + hv b) :: xs, by simp [e1], fun c hc => ?_, ?_⟩
          · rcases List.mem_cons.1 hc with rfl | hc
            · omega
            · exact e2 c hc
          · rw [e3]
            show a :: b :: H xs = hexB ((16 * hv a + hv b) / 16) :: hexB ((16 * hv a + hv b) % 16) :: H xs
            rw [show (16 * hv a + hv b) / 16 = hv a by omega, show (16 * hv a + hv b) % 16 = hv b by omega, a1.2.2.2, b1.2.2.2]
theorem H_hexN (xs : List Int) (h : xs.length = 32) : hexN xs 32 = H xs := by
  unfold hexN H
  rw [List.take_of_length_le (by omega)]
theorem H_len (xs : List Int) : (H xs).length = 2 * xs.length := by
  induction xs with
  | nil => rfl
  | cons a l ih => show ([hexB (a / 16), hexB (a % 16)] ++ H l).length = _; rw [List.length_append, ih]; simp; omega
theorem H_get : ∀ (xs : List Int) (k : Nat) (h : k < xs.length), (H xs)[2 * k]? = some (hexB (xs[k] / 16)) ∧ (H xs)[2 * k + 1]? = some (hexB (xs[k] % 16))
  | c :: xs, 0, _ => ⟨rfl, rfl⟩
  | c :: xs, k + 1, h => by
    have e : H (c :: xs) = hexB (c / 16) :: hexB (c % 16) :: H xs := rfl
    have := H_get xs k (by simpa using h)
    rw [e, show 2 * (k + 1) = 2 * k + 1 + 1 by omega]
    simpa using this
/-- What the reference reads of such a text. -/
theorem readFrom_H (s : ByteArray) (xs : List Int) (hs : li s = li headT ++ H xs) (hl : xs.length = 32) (hb : ∀ c ∈ xs, 0 ≤ c ∧ c < 256) : ∀ (d k : Nat) (x : List Int), k + d = 32 → x.length = 32 → readFrom s d k x = x.take k ++ xs.drop k
  | 0, k, x, h, hx => by
    rw [List.drop_of_length_le (by omega), List.append_nil, List.take_of_length_le (by omega)]
    rfl
  | d + 1, k, x, h, hx => by
    have hk : k < xs.length := by omega
    have hsz : s.size = 71 := by
      rw [← li_size, hs, List.length_append, H_len, hl]; rfl
    obtain ⟨g1, g2⟩ := H_get xs k hk
    have hc := hb xs[k] (List.getElem_mem hk)
    have at7 : ∀ j b, (H xs)[j]? = some b → bt s ((7 + j : Nat) : Int) = (b.toNat : Int) := fun j b hj => by
      rw [bt_li, Int.toNat_natCast, hs, List.getD_eq_getElem?_getD, List.getElem?_append_right (by show 7 ≤ 7 + j; omega)]
      rw [show 7 + j - (li headT).length = j by show 7 + j - 7 = j; omega, hj]
      rfl
    unfold readFrom
    rw [decide_eq_true (by omega : 7 + 2 * k + 1 < s.size), cond_true, at7 (2 * k) _ g1, show 8 + 2 * k = 7 + (2 * k + 1) by omega, at7 (2 * k + 1) _ g2]
    rw [(hex_fact (xs[k] / 16) (by omega) (by omega)).2, (hex_fact (xs[k] % 16) (by omega) (by omega)).2]
    rw [show 16 * (xs[k] / 16) + xs[k] % 16 = xs[k] by omega, readFrom_H s xs hs hl hb d (k + 1) _ (by omega) (by rw [List.length_set]; exact hx), set_take _ (by omega), List.append_assoc, List.drop_eq_getElem_cons hk]
    rfl
theorem bytes_mem {x : List Int} (h : bytesL x) : ∀ c ∈ x, 0 ≤ c ∧ c < 256 := fun c hc => by
  obtain ⟨j, hj, e⟩ := List.getElem_of_mem hc
  have := h j
  rw [List.getD_eq_getElem?_getD, List.getElem?_eq_getElem hj, Option.getD_some, e] at this
  exact this
theorem mem_bytes {x : List Int} (h : ∀ c ∈ x, 0 ≤ c ∧ c < 256) : bytesL x := fun j => by
  rw [List.getD_eq_getElem?_getD]
  cases hj : x[j]? with
  | none => simp
  | some c => exact h c (List.mem_of_getElem? hj)
theorem zeros_from : zeroFrom 0 zerosL := fun j _ => by
  rw [show zerosL = List.replicate 32 0 from rfl, List.getD_eq_getElem?_getD, List.getElem?_replicate]
  split <;> rfl
/-- The program takes a text: it is a digest's. -/
theorem pdOk_text {s : ByteArray} (h : pdOk s = true) : ∃ xs : List Int, xs.length = 32 ∧ (∀ c ∈ xs, 0 ≤ c ∧ c < 256) ∧ li s = li headT ++ H xs := by
  unfold pdOk at h
  simp only [Bool.and_eq_true, beq_iff_eq] at h
  obtain ⟨h1, h2, h3⟩ := h
  obtain ⟨y, hy⟩ := Option.isSome_iff_exists.1 h3
  rw [pd_list (restS s) 64 0 zerosL (by omega), List.drop_zero] at hy
  obtain ⟨xs, e1, e2, e3⟩ := pdL_bwd 32 0 zerosL (li (restS s)) y (by rw [li_size]; omega) rfl zeros_from hy
  refine ⟨xs, e1, e2, ?_⟩
  rw [← e3]
  obtain ⟨z, hz⟩ := List.isPrefixOf_iff_prefix.1 h1
  have : li (restS s) = z := by
    show Lib.trimPrefix (li s) (li headT) = z
    unfold Lib.trimPrefix
    rw [if_pos h1, show li s = li headT ++ z from hz.symm]
    exact List.drop_left
  rw [this]
  exact hz.symm
theorem of_text {s : ByteArray} {xs : List Int} (hl : xs.length = 32) (hb : ∀ c ∈ xs, 0 ≤ c ∧ c < 256) (hs : li s = li headT ++ H xs) :
    pdOk s = true ∧ pd (restS s) 65 0 zerosL = some xs ∧ readS s = xs ∧ tellS xs = s := by
  have hpre : hpS s headT = true := List.isPrefixOf_iff_prefix.2 ⟨H xs, hs.symm⟩
  have hrest : li (restS s) = H xs := by
    show Lib.trimPrefix (li s) (li headT) = _
    unfold Lib.trimPrefix
    rw [if_pos hpre, hs]
    exact List.drop_left
  have hsz : (restS s).size = 64 := by rw [← li_size, hrest, H_len, hl]
  have hpd : pd (restS s) 65 0 zerosL = some xs := by
    rw [pd_list (restS s) 64 0 zerosL (by omega), List.drop_zero, hrest]
    have := pdL_fwd xs 0 zerosL hb (by rw [hl]; rfl) zeros_from
    simpa using this
  refine ⟨?_, hpd, ?_, ?_⟩
  · unfold pdOk
    rw [hpre, hsz, hpd]
    rfl
  · unfold readS
    have := readFrom_H s xs hs hl hb 32 0 zerosL rfl rfl
    simpa using this
  · rw [tellS_hex xs (mem_bytes hb) hl, H_hexN xs hl]
    apply li_inj
    rw [li_append, hs]
theorem digest_same (s : ByteArray) : pparseX s = rparseX s ∧ pparseE s = rparseE s := by
  unfold pparseX rparseX pparseE rparseE
  cases hp : pdOk s with
  | true =>
    obtain ⟨xs, h1, h2, h3⟩ := pdOk_text hp
    obtain ⟨_, e2, e3, e4⟩ := of_text h1 h2 h3
    rw [e2, e3, e4, eqs]
    exact ⟨rfl, rfl⟩
  | false =>
    cases hr : (tellS (readS s)).toList == s.toList with
    | false => exact ⟨rfl, rfl⟩
    | true =>
      exfalso
      have hb := readS_bytes s
      have e := eq_of hr
      have : li s = li headT ++ H (readS s) := by
        rw [← H_hexN _ hb.2]
        conv => lhs; rw [← e, tellS_hex _ hb.1 hb.2]
        rw [li_append]
      rw [(of_text hb.2 (bytes_mem hb.1) this).1] at hp
      cases hp
theorem parse_law (s : ByteArray) : pparse9 s = rparse12 s := parse_same s (digest_same _).1 (digest_same _).2
end Go.Proofs.YtofcjkbgieenlaaDoor.PM
