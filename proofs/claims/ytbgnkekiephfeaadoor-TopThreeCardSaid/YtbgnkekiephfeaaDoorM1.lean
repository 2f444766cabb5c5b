/-
  The plain law of the sums: they are linear, and no burst of at most 32 bits passes unseen. No program stands here.
-/
import Derived.Test.YtbgnkekiephfeaaDoorL0
namespace Go.Proofs.YtbgnkekiephfeaaDoor

theorem xor_cancel {a b : Nat} (h : a ^^^ b = 0) : a = b := by
  have : a ^^^ b ^^^ b = 0 ^^^ b := by rw [h]
  rw [Nat.xor_assoc, Nat.xor_self, Nat.xor_zero, Nat.zero_xor] at this
  exact this
theorem stp_xor (a b : Nat) : stp (a ^^^ b) = stp a ^^^ stp b := by
  unfold stp
  rw [Nat.xor_div_two]
  by_cases ha : a % 2 = 1 <;> by_cases hb : b % 2 = 1
  · rw [if_pos ha, if_pos hb, if_neg (by rw [Nat.xor_mod_two_eq_one]; simp [ha, hb])]
    have : a / 2 ^^^ 3988292384 ^^^ (b / 2 ^^^ 3988292384) = a / 2 ^^^ b / 2 ^^^ (3988292384 ^^^ 3988292384) := by ac_rfl
    rw [this, Nat.xor_self, Nat.xor_zero]
  · rw [if_pos ha, if_neg hb, if_pos (by rw [Nat.xor_mod_two_eq_one]; simp [ha, hb])]
    ac_rfl
  · rw [if_neg ha, if_pos hb, if_pos (by rw [Nat.xor_mod_two_eq_one]; simp [ha, hb])]
    ac_rfl
  · rw [if_neg ha, if_neg hb, if_neg (by rw [Nat.xor_mod_two_eq_one]; simp [ha, hb])]
theorem stpN_xor (a b : Nat) : ∀ n, stpN n (a ^^^ b) = stpN n a ^^^ stpN n b
  | 0 => by rw [stpN_zero, stpN_zero, stpN_zero]
  | n + 1 => by rw [stpN_succ, stpN_succ, stpN_succ, stpN_xor a b n, stp_xor]
theorem stpN_add (m x : Nat) : ∀ n, stpN (n + m) x = stpN n (stpN m x)
  | 0 => by rw [Nat.zero_add, stpN_zero]
  | n + 1 => by rw [show n + 1 + m = (n + m) + 1 by omega, stpN_succ, stpN_succ, stpN_add m x n]
theorem stp_two (x : Nat) : stp (2 * x) = x := by
  rw [stp_even (by omega)]
  omega
theorem stpN_pow (x : Nat) : ∀ n, stpN n (2 ^ n * x) = x
  | 0 => by rw [stpN_zero, Nat.pow_zero, Nat.one_mul]
  | n + 1 => by
    rw [show n + 1 = n + 1 from rfl, show stpN (n + 1) (2 ^ (n + 1) * x) = stpN n (stpN 1 (2 ^ (n + 1) * x)) from stpN_add 1 _ n]
    rw [stpN_succ, stpN_zero, show 2 ^ (n + 1) * x = 2 * (2 ^ n * x) by rw [Nat.pow_succ, Nat.mul_comm (2 ^ n) 2, Nat.mul_assoc], stp_two]
    exact stpN_pow x n
theorem stp_zero_of {x : Nat} (hx : x < 4294967296) (h : stp x = 0) : x = 0 := by
  by_cases h1 : x % 2 = 1
  · rw [stp_odd h1] at h
    have := xor_cancel h
    omega
  · rw [stp_even h1] at h
    omega
theorem stpN_zero_of {x : Nat} (hx : x < 4294967296) : ∀ n, stpN n x = 0 → x = 0
  | 0, h => by rw [stpN_zero] at h; exact h
  | n + 1, h => by
    rw [stpN_succ] at h
    exact stpN_zero_of hx n (stp_zero_of (stpN_lt hx n) h)

/-- The bytes as one number, the first one least. -/
def nm : List Nat → Nat
  | [] => 0
  | b :: l => b + 256 * nm l
theorem add_xor {b : Nat} (hb : b < 256) (x : Nat) : b + 256 * x = b ^^^ 256 * x := by
  apply Nat.eq_of_testBit_eq
  intro i
  have h1 := Nat.testBit_two_pow_mul_add x (i := 8) (b := b) (by omega) i
  have h2 := Nat.testBit_two_pow_mul_add x (i := 8) (b := 0) (by omega) i
  rw [Nat.testBit_xor, show b + 256 * x = 2 ^ 8 * x + b by omega, h1, show 256 * x = 2 ^ 8 * x + 0 by omega, h2]
  by_cases hi : i < 8
  · simp [hi]
  · simp only [hi, if_false]
    rw [Nat.testBit_lt_two_pow (x := b) (i := i) (Nat.lt_of_lt_of_le hb (show 2 ^ 8 ≤ 2 ^ i from Nat.pow_le_pow_right (by decide) (by omega)))]
    simp
theorem updB_stp (r b : Nat) : updB r b = stpN 8 (r ^^^ b) := by
  unfold updB
  rw [tab_eq]
  have h1 : r = r % 256 ^^^ 256 * (r / 256) := by rw [← add_xor (by omega)]; omega
  have h2 : r ^^^ b = ((r % 256) ^^^ b) ^^^ 256 * (r / 256) := by
    conv => lhs; rw [h1]
    ac_rfl
  rw [h2, stpN_xor (r % 256 ^^^ b) (256 * (r / 256)), show 256 * (r / 256) = 2 ^ 8 * (r / 256) from rfl, stpN_pow]
  exact Nat.xor_comm _ _
theorem upd_cons (r b : Nat) (l : List Nat) : upd r (b :: l) = upd (updB r b) l := by unfold upd; rfl
theorem upd_app (r : Nat) (l m : List Nat) : upd r (l ++ m) = upd (upd r l) m := by unfold upd; rw [List.foldl_append]
theorem upd_nm : ∀ (l : List Nat) (r : Nat), (∀ b ∈ l, b < 256) → upd r l = stpN (8 * l.length) (r ^^^ nm l)
  | [], r, _ => by rw [upd_nil, nm, Nat.xor_zero]; exact (stpN_zero r).symm
  | b :: l, r, h => by
    rw [upd_cons, updB_stp, upd_nm l _ (fun c hc => h c (by simp [hc])), nm, add_xor (h b (by simp)), List.length_cons, show 8 * (l.length + 1) = 8 * l.length + 8 by omega, stpN_add]
    congr 1
    rw [show r ^^^ (b ^^^ 256 * nm l) = (r ^^^ b) ^^^ 256 * nm l by ac_rfl, stpN_xor (r ^^^ b) (256 * nm l), show 256 * nm l = 2 ^ 8 * nm l from rfl, stpN_pow]
theorem nm_inj : ∀ {l m : List Nat}, l.length = m.length → (∀ b ∈ l, b < 256) → (∀ b ∈ m, b < 256) → nm l = nm m → l = m
  | [], [], _, _, _, _ => rfl
  | b :: l, c :: m, hl, h1, h2, h => by
    have hb := h1 b (by simp)
    have hc := h2 c (by simp)
    rw [nm, nm] at h
    have e1 : b = c := by omega
    have e2 : nm l = nm m := by omega
    rw [e1, nm_inj (by simpa using hl) (fun x hx => h1 x (by simp [hx])) (fun x hx => h2 x (by simp [hx])) e2]
theorem mul256_xor (a b : Nat) : 256 * (a ^^^ b) = 256 * a ^^^ 256 * b := by
  have := @Nat.shiftLeft_xor_distrib 8 a b
  simpa [Nat.shiftLeft_eq, Nat.mul_comm] using this
theorem nm_set : ∀ (l : List Nat) (i y : Nat), (∀ b ∈ l, b < 256) → i < l.length → y < 256 → nm (l.set i (l[i]?.getD 0 ^^^ y)) = nm l ^^^ 2 ^ (8 * i) * y
  | b :: l, 0, y, h, _, hy => by
    rw [List.set_cons_zero, nm, nm]
    simp only [List.getElem?_cons_zero, Option.getD_some, Nat.mul_zero, Nat.pow_zero, Nat.one_mul]
    rw [add_xor (byte_xor_lt (h b (by simp)) hy), add_xor (h b (by simp))]
    ac_rfl
  | b :: l, i + 1, y, h, hi, hy => by
    rw [List.set_cons_succ, nm, nm, List.getElem?_cons_succ, nm_set l i y (fun x hx => h x (by simp [hx])) (by simpa using hi) hy, add_xor (h b (by simp)), add_xor (h b (by simp))]
    have : 256 * (nm l ^^^ 2 ^ (8 * i) * y) = 256 * nm l ^^^ 2 ^ (8 * (i + 1)) * y := by
      rw [show 2 ^ (8 * (i + 1)) * y = 256 * (2 ^ (8 * i) * y) by rw [show 8 * (i + 1) = 8 * i + 8 by omega, Nat.pow_add]; rw [Nat.mul_comm (2 ^ (8 * i)) (2 ^ 8), Nat.mul_assoc]]
      exact mul256_xor _ _
    rw [this]
    ac_rfl

theorem mulpow_xor (n a b : Nat) : 2 ^ n * (a ^^^ b) = 2 ^ n * a ^^^ 2 ^ n * b := by
  have := @Nat.shiftLeft_xor_distrib n a b
  simpa [Nat.shiftLeft_eq, Nat.mul_comm] using this
theorem fl_bytes (l : List Nat) (i : Nat) (h : ∀ b ∈ l, b < 256) : ∀ b ∈ fl l i, b < 256 := by
  unfold fl
  split
  · intro b hb
    rcases List.mem_or_eq_of_mem_set hb with hb | rfl
    · exact h b hb
    · exact byte_xor_lt (getD_lt h _) (Nat.lt_of_le_of_lt (Nat.pow_le_pow_right (by decide) (show i % 8 ≤ 7 by omega)) (by decide))
  · exact h
theorem fl_nm (l : List Nat) (i : Nat) (h : ∀ b ∈ l, b < 256) : nm (fl l i) = nm l ∨ nm (fl l i) = nm l ^^^ 2 ^ i := by
  unfold fl
  split
  · rename_i hi
    right
    rw [nm_set l (i / 8) (2 ^ (i % 8)) h (by omega) (Nat.lt_of_le_of_lt (Nat.pow_le_pow_right (by decide) (show i % 8 ≤ 7 by omega)) (by decide)), ← Nat.pow_add, show 8 * (i / 8) + i % 8 = i by omega]
  · exact .inl rfl
theorem flAll_nm (a : Nat) : ∀ (ks : List Nat) (l : List Nat), (∀ k ∈ ks, k < 32) → (∀ b ∈ l, b < 256) → (∃ M, M < 4294967296 ∧ nm (flAll l a ks) = nm l ^^^ 2 ^ a * M) ∧ ∀ b ∈ flAll l a ks, b < 256
  | [], l, _, h => ⟨⟨0, by decide, by show nm l = _; rw [Nat.mul_zero, Nat.xor_zero]⟩, h⟩
  | k :: ks, l, hk, h => by
    obtain ⟨⟨M, hM, e⟩, hb⟩ := flAll_nm a ks (fl l (a + k)) (fun x hx => hk x (by simp [hx])) (fl_bytes l _ h)
    refine ⟨?_, hb⟩
    show ∃ M, M < 4294967296 ∧ nm (flAll (fl l (a + k)) a ks) = nm l ^^^ 2 ^ a * M
    rcases fl_nm l (a + k) h with e2 | e2
    · exact ⟨M, hM, by rw [e, e2]⟩
    · refine ⟨2 ^ k ^^^ M, Nat.xor_lt_two_pow (n := 32) (Nat.pow_lt_pow_right (by decide) (hk k (by simp))) hM, ?_⟩
      rw [e, e2, mulpow_xor, ← Nat.pow_add, Nat.xor_assoc]
theorem bl_lt : ∀ (f m : Nat), m < 4294967296 → ∀ k ∈ bl f m, k < 32
  | 0, m, _, k, h => by simp [bl] at h
  | f + 1, m, hm, k, h => by
    by_cases h0 : m = 0
    · subst h0
      rw [bl_zero] at h
      cases h
    · rw [bl_succ f m h0] at h
      rcases List.mem_cons.1 h with rfl | h
      · exact (low_spec h0 hm).1
      · exact bl_lt f _ (Nat.lt_of_le_of_lt (Nat.sub_le _ _) hm) k h

theorem nm_numK : ∀ (l : List Nat), l.length = 4 → nm l = numK l 4
  | [a, b, c, d], _ => by
    simp only [numK_succ, numK_zero, nm, List.getElem?_cons_zero, List.getElem?_cons_succ, Option.getD_some]
    omega
theorem upd_fits (l r : List Nat) (hl : ∀ b ∈ l, b < 256) (hr : ∀ b ∈ r, b < 256) (h4 : r.length = 4) (h : numK r 4 = sumOf 0 l) : upd 4294967295 (l ++ r) = stpN 32 4294967295 := by
  rw [upd_app, upd_nm r _ hr, h4, nm_numK r h4, h]
  congr 1
  unfold sumOf flip
  rw [Nat.zero_xor, ← Nat.xor_assoc, Nat.xor_self, Nat.zero_xor]

/-- A burst of at most 32 bits in bytes that fit their trailer: none is turned, or they do not fit. -/
theorem burst_seen (S : List Nat) (n a m : Nat) (hb : ∀ b ∈ S, b < 256) (hn : S.length = n + 8) (ha : a < 8 * (n + 8)) (hm : m < 4294967296) (hfit : numK (S.drop (n + 4)) 4 = sumOf 0 (S.take (n + 4)))
    (hne : flAll S a (bl 33 m) ≠ S) : numK ((flAll S a (bl 33 m)).drop (n + 4)) 4 ≠ sumOf 0 ((flAll S a (bl 33 m)).take (n + 4)) := by
  intro hf
  obtain ⟨⟨M, hM, e⟩, hbH⟩ := flAll_nm a (bl 33 m) S (bl_lt 33 m hm) hb
  have hlH : (flAll S a (bl 33 m)).length = n + 8 := by rw [flAll_length, hn]
  generalize flAll S a (bl 33 m) = H at *
  have fits : ∀ X : List Nat, (∀ b ∈ X, b < 256) → X.length = n + 8 → numK (X.drop (n + 4)) 4 = sumOf 0 (X.take (n + 4)) → stpN (8 * (n + 8)) (4294967295 ^^^ nm X) = stpN 32 4294967295 := by
    intro X hX hlX hfX
    have h1 := upd_fits (X.take (n + 4)) (X.drop (n + 4)) (fun b h => hX b (List.mem_of_mem_take h)) (fun b h => hX b (List.mem_of_mem_drop h)) (by rw [List.length_drop, hlX]; omega) hfX
    rw [List.take_append_drop, upd_nm X _ hX, hlX] at h1
    exact h1
  have h1 := fits S hb hn hfit
  have h2 := fits H hbH hlH hf
  rw [← h1, stpN_xor, stpN_xor, e, stpN_xor] at h2
  have h3 : stpN (8 * (n + 8)) (2 ^ a * M) = 0 := by
    have h4 : stpN (8 * (n + 8)) 4294967295 ^^^ (stpN (8 * (n + 8)) (nm S) ^^^ stpN (8 * (n + 8)) (2 ^ a * M)) ^^^ (stpN (8 * (n + 8)) 4294967295 ^^^ stpN (8 * (n + 8)) (nm S)) = 0 := by rw [h2, Nat.xor_self]
    rw [← h4]
    generalize stpN (8 * (n + 8)) 4294967295 = x
    generalize stpN (8 * (n + 8)) (nm S) = y
    generalize stpN (8 * (n + 8)) (2 ^ a * M) = z
    have : x ^^^ (y ^^^ z) ^^^ (x ^^^ y) = (x ^^^ x) ^^^ (y ^^^ y) ^^^ z := by ac_rfl
    rw [this, Nat.xor_self, Nat.xor_self, Nat.zero_xor, Nat.zero_xor]
  rw [show 8 * (n + 8) = (8 * (n + 8) - a) + a by omega, stpN_add, stpN_pow] at h3
  have hM0 := stpN_zero_of hM _ h3
  rw [hM0, Nat.mul_zero, Nat.xor_zero] at e
  exact hne (nm_inj (by rw [hlH, hn]) hbH hb e)
end Go.Proofs.YtbgnkekiephfeaaDoor
