/-
  Plain facts on cyclic redundancy sums over natural numbers: the step of a bit, the table, the register; nothing of the program stands here.
-/
namespace Go.Proofs.YtbgnkekiephfeaaDoor

/-- One bit of the register. -/
def stp (x : Nat) : Nat := if x % 2 = 1 then x / 2 ^^^ 3988292384 else x / 2
/-- So many bits, the first one first. -/
def stpN : Nat → Nat → Nat
  | 0, x => x
  | n + 1, x => stp (stpN n x)
def tab (i : Nat) : Nat := stpN 8 i
/-- A byte. -/
def updB (r b : Nat) : Nat := r / 256 ^^^ tab ((r % 256) ^^^ b)
def upd (r : Nat) (l : List Nat) : Nat := l.foldl updB r
/-- All 32 bits turned. -/
def flip (x : Nat) : Nat := x ^^^ 4294967295
def sumOf (s : Nat) (l : List Nat) : Nat := flip (upd (flip s) l)

/-- The first k bytes of a number, the least one first. -/
def trail (c k : Nat) : List Nat := (List.range k).map fun j => c / 256 ^ j % 256

theorem stp_lt {x : Nat} (h : x < 4294967296) : stp x < 4294967296 := by
  unfold stp
  split
  · exact Nat.xor_lt_two_pow (n := 32) (by omega) (by omega)
  · omega
theorem stpN_lt {x : Nat} (h : x < 4294967296) : ∀ n, stpN n x < 4294967296
  | 0 => h
  | n + 1 => stp_lt (stpN_lt h n)
theorem tab_lt {i : Nat} (h : i < 4294967296) : tab i < 4294967296 := stpN_lt h 8
theorem byte_xor_lt {a b : Nat} (ha : a < 256) (hb : b < 256) : a ^^^ b < 256 := Nat.xor_lt_two_pow (n := 8) ha hb
theorem updB_lt {r b : Nat} (hr : r < 4294967296) (hb : b < 256) : updB r b < 4294967296 := by
  refine Nat.xor_lt_two_pow (n := 32) (by omega) (tab_lt ?_)
  have := byte_xor_lt (a := r % 256) (b := b) (by omega) hb
  omega
theorem upd_lt : ∀ {l : List Nat} {r : Nat}, r < 4294967296 → (∀ b ∈ l, b < 256) → upd r l < 4294967296
  | [], _, hr, _ => hr
  | b :: l, r, hr, hl => upd_lt (l := l) (updB_lt hr (hl b (by simp))) (fun c hc => hl c (by simp [hc]))
theorem flip_lt {x : Nat} (h : x < 4294967296) : flip x < 4294967296 := Nat.xor_lt_two_pow (n := 32) h (by omega)
theorem stp_odd {x : Nat} (h : x % 2 = 1) : stp x = x / 2 ^^^ 3988292384 := if_pos h
theorem stp_even {x : Nat} (h : ¬ x % 2 = 1) : stp x = x / 2 := if_neg h
theorem stpN_zero (x : Nat) : stpN 0 x = x := rfl
theorem stpN_succ (n x : Nat) : stpN (n + 1) x = stp (stpN n x) := rfl
theorem tab_eq (i : Nat) : tab i = stpN 8 i := rfl
theorem upd_snoc (r : Nat) (l : List Nat) (b : Nat) : upd r (l ++ [b]) = updB (upd r l) b := by simp [upd, List.foldl_append]

attribute [irreducible] stp stpN tab updB upd flip sumOf
end Go.Proofs.YtbgnkekiephfeaaDoor
