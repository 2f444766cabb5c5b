/-
  The plain law of the sums: the bytes of frames are linear.
-/
import Derived.Test.YtbgnkekiephfeaaDoorM1
namespace Go.Proofs.YtbgnkekiephfeaaDoor

/-- Three lists of one length, place by place, by exclusive or. -/
def x3 (a b c : List Nat) : List Nat := List.zipWith (· ^^^ ·) (List.zipWith (· ^^^ ·) a b) c
theorem x3_cons (a b c : Nat) (l m n : List Nat) : x3 (a :: l) (b :: m) (c :: n) = (a ^^^ b ^^^ c) :: x3 l m n := rfl
theorem x3_nil : x3 [] [] [] = [] := rfl
theorem x3_app (a b c a' b' c' : List Nat) (h1 : a.length = b.length) (h2 : b.length = c.length) : x3 (a ++ a') (b ++ b') (c ++ c') = x3 a b c ++ x3 a' b' c' := by
  unfold x3
  rw [List.zipWith_append h1, List.zipWith_append (by rw [List.length_zipWith, h1, ← h2]; simp)]
theorem dx_x3 (N : Nat) (B : Nat → List Nat) (h : ∀ i, i < 3 → (B i).length = N) : dx N B 3 = x3 (B 0) (B 1) (B 2) := by
  have h0 := h 0 (by omega)
  have h1 := h 1 (by omega)
  have h2 := h 2 (by omega)
  unfold dx x3
  apply List.ext_getElem
  · simp [h0, h1, h2]
  · intro i q1 q2
    have hi : i < N := by simpa using q1
    rw [List.getElem_map, List.getElem_range, List.getElem_zipWith, List.getElem_zipWith, xf_three]
    rw [List.getElem?_eq_getElem (by omega), List.getElem?_eq_getElem (by omega), List.getElem?_eq_getElem (by omega)]
    rfl
theorem upd_x3 : ∀ (l m n : List Nat) (r s t : Nat), l.length = m.length → m.length = n.length → upd (r ^^^ s ^^^ t) (x3 l m n) = upd r l ^^^ upd s m ^^^ upd t n
  | [], [], [], r, s, t, _, _ => by rw [x3_nil, upd_nil, upd_nil, upd_nil, upd_nil]
  | a :: l, b :: m, c :: n, r, s, t, h1, h2 => by
    rw [x3_cons, upd_cons, upd_cons, upd_cons, upd_cons, ← upd_x3 l m n _ _ _ (by simpa using h1) (by simpa using h2)]
    congr 1
    rw [updB_stp, updB_stp, updB_stp, updB_stp, ← stpN_xor, ← stpN_xor]
    congr 1
    ac_rfl
theorem sumOf_x3 (l m n : List Nat) (h1 : l.length = m.length) (h2 : m.length = n.length) : sumOf 0 (x3 l m n) = sumOf 0 l ^^^ sumOf 0 m ^^^ sumOf 0 n := by
  unfold sumOf flip
  rw [Nat.zero_xor]
  have e : (4294967295 : Nat) = 4294967295 ^^^ 4294967295 ^^^ 4294967295 := by rw [Nat.xor_self, Nat.zero_xor]
  have h := upd_x3 l m n 4294967295 4294967295 4294967295 h1 h2
  rw [← e] at h
  rw [h]
  generalize upd 4294967295 l = x
  generalize upd 4294967295 m = y
  generalize upd 4294967295 n = z
  have h3 : (x ^^^ 4294967295) ^^^ (y ^^^ 4294967295) ^^^ (z ^^^ 4294967295) = x ^^^ y ^^^ z ^^^ (4294967295 ^^^ 4294967295 ^^^ 4294967295) := by ac_rfl
  rw [h3, ← e]
theorem trail_x3 (a b c : Nat) : x3 (trail a 4) (trail b 4) (trail c 4) = trail (a ^^^ b ^^^ c) 4 := by
  have e : ∀ j, (a ^^^ b ^^^ c) / 256 ^ j % 256 = (a / 256 ^ j % 256) ^^^ (b / 256 ^ j % 256) ^^^ (c / 256 ^ j % 256) := fun j => by
    rw [show (256 : Nat) ^ j = 2 ^ (8 * j) by rw [Nat.pow_mul], Nat.xor_div_two_pow, Nat.xor_div_two_pow, show (256 : Nat) = 2 ^ 8 from rfl, Nat.xor_mod_two_pow, Nat.xor_mod_two_pow]
  simp only [trail, List.range, List.range.loop, List.map_cons, List.map_nil, x3_cons, x3_nil, e]
theorem three_same (n : Nat) : n ^^^ n ^^^ n = n := by rw [Nat.xor_self, Nat.zero_xor]

/-- The bytes of three frames with data of one length. -/
theorem bytes_linear (n : Nat) (v t s : Nat → Nat) (L : Nat → List Nat) (hL : ∀ i, i < 3 → (L i).length = n) :
    dx (n + 8) (fun i => bytesOf (v i) (t i) (s i) (L i)) 3 = bytesOf (xf v 3) (xf t 3) (xf s 3) (dx n L 3) := by
  have h0 := hL 0 (by omega)
  have h1 := hL 1 (by omega)
  have h2 := hL 2 (by omega)
  rw [dx_x3 (n + 8) _ (fun i hi => by rw [bytesOf_len, hL i hi]), dx_x3 n L hL]
  have hlen : (x3 (L 0) (L 1) (L 2)).length = n := by unfold x3; simp [h0, h1, h2]
  have hbody : x3 (bodyOf (v 0) (t 0) (s 0) (L 0)) (bodyOf (v 1) (t 1) (s 1) (L 1)) (bodyOf (v 2) (t 2) (s 2) (L 2)) = bodyOf (xf v 3) (xf t 3) (xf s 3) (x3 (L 0) (L 1) (L 2)) := by
    unfold bodyOf
    rw [x3_app [v 0, t 0, s 0, (L 0).length] [v 1, t 1, s 1, (L 1).length] [v 2, t 2, s 2, (L 2).length] (L 0) (L 1) (L 2) rfl rfl, xf_three, xf_three, xf_three, hlen, h0, h1, h2, x3_cons, x3_cons, x3_cons, x3_cons, x3_nil, three_same]
  unfold bytesOf
  rw [x3_app _ _ _ _ _ _ (by rw [bodyOf_len, bodyOf_len, h0, h1]) (by rw [bodyOf_len, bodyOf_len, h1, h2]), trail_x3, ← sumOf_x3 _ _ _ (by rw [bodyOf_len, bodyOf_len, h0, h1]) (by rw [bodyOf_len, bodyOf_len, h1, h2]), hbody]
end Go.Proofs.YtbgnkekiephfeaaDoor
