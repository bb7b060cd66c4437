/-
  The reducer: the table of remainders, and how eight coefficients or one are moved into a remainder.
-/
import Derived.Test.YtpfbmfnfcppjeacChk
import Derived.Deep.OwnRows
namespace Go.Proofs.Ytpfbmfnfcppjeac
open Go.RowKit

/-- Block B holds the reducer of the polynomial G of degree d. -/
def Rdc (w : World) (B G d : Nat) : Prop :=
  w.cell? ⟨B, 0, none⟩ = some (.int .i64 (d : Int)) ∧ w.cell? ⟨B, 1, none⟩ = some (.int .i64 ((2 ^ d - 1 : Nat) : Int)) ∧ ∀ t, t < 256 → w.cell? ⟨B, 2 + t, none⟩ = some (.int .i64 ((tabAt G d t : Nat) : Int))
theorem Rdc.quiet {w w' : World} {B G d : Nat} (h : Rdc w B G d) (hq : Quiet w w') : Rdc w' B G d := by obtain ⟨n, rfl⟩ := hq; exact h
theorem Rdc.kept {w w' : World} {B G d : Nat} (h : Rdc w B G d) (hb : w'.heap[B]? = w.heap[B]?) : Rdc w' B G d :=
  ⟨(World.cell?_of_block (w := w) hb).trans h.1, (World.cell?_of_block (w := w) hb).trans h.2.1, fun t ht => (World.cell?_of_block (w := w) hb).trans (h.2.2 t ht)⟩
theorem Rdc.lt {w : World} {B G d : Nat} (h : Rdc w B G d) : B < w.heap.size := World.block_lt_of_cell? w _ h.1
theorem Rdc.below {w w' : World} {B G d : Nat} (h : Rdc w B G d) (hb : Below w.heap.size w w') : Rdc w' B G d := h.kept (hb.block B h.lt)

theorem pow_le16 {d : Nat} (hd : d ≤ 16) : 2 ^ d ≤ 65536 := Nat.pow_le_pow_right (n := 2) (by omega) hd
theorem tab_lt {G d t : Nat} (hG : Gen G d) (ht : t < 256) : tabAt G d t < 2 ^ d := by
  refine pmod_lt hG 8 _ ?_
  rw [Nat.shiftLeft_eq, Nat.pow_add, Nat.mul_comm]
  exact Nat.mul_lt_mul_of_pos_left ht (Nat.two_pow_pos d)
theorem shr_cast (V d : Nat) : (V : Int) / 2 ^ d = ((V >>> d : Nat) : Int) := by
  rw [Nat.shiftRight_eq_div_pow]; simp
theorem and_mask {V d : Nat} (hV : V < 4611686018427387904) (hd : d ≤ 16) : bits .and .i64 (V : Int) ((2 ^ d - 1 : Nat) : Int) = ((V % 2 ^ d : Nat) : Int) := by
  have := pow_le16 hd
  rw [i64_and V (2 ^ d - 1) hV (by omega), Nat.and_two_pow_sub_one_eq_mod]
/-- What the walk of one step into the reducer asks. -/
theorem red_facts {G d V : Nat} (hG : Gen G d) (hd : d ≤ 16) (hV : V < 2 ^ (d + 8)) : ∃ L t T : Nat, t < 256 ∧ L < 65536 ∧ T < 65536 ∧
    bits .and .i64 (V : Int) ((2 ^ d - 1 : Nat) : Int) = (L : Int) ∧ (V : Int) / 2 ^ d = (t : Int) ∧ (V : Int) / 2 ^ (min d 64) = (t : Int) ∧ Hid (tabAt G d t = T) ∧
    bits .xor .i64 (L : Int) (T : Int) = ((pmod G d 8 V : Nat) : Int) := by
  have hp := pow_le16 hd
  have hV2 : V < 16777216 := by rw [Nat.pow_add] at hV; omega
  have ht : V >>> d < 256 := by
    rw [Nat.shiftRight_eq_div_pow]
    apply Nat.div_lt_of_lt_mul
    rw [Nat.pow_add] at hV; exact hV
  have hT := tab_lt hG ht
  have hL : V % 2 ^ d < 2 ^ d := Nat.mod_lt _ (Nat.two_pow_pos d)
  refine ⟨V % 2 ^ d, V >>> d, tabAt G d (V >>> d), ht, by omega, by omega, and_mask (by omega) hd, shr_cast V d, by rw [Nat.min_eq_left (by omega)]; exact shr_cast V d, rfl, ?_⟩
  rw [i64_xor _ _ (by omega) (by omega), feed_is]
theorem or_shift {R E k : Nat} (hR : R < 65536) (hE : E < 2 ^ k) (hk : k ≤ 8) : bits .or .i64 ((R : Int) * 2 ^ k) (E : Int) = ((R * 2 ^ k + E : Nat) : Int) := by
  have hp : 2 ^ k ≤ 256 := Nat.pow_le_pow_right (n := 2) (by omega) hk
  have e : (R : Int) * 2 ^ k = ((R * 2 ^ k : Nat) : Int) := by simp
  have hm : R * 2 ^ k ≤ 65536 * 256 := Nat.mul_le_mul (by omega) hp
  rw [e, i64_or _ _ (by omega) (by omega)]
  congr 1
  rw [Nat.mul_comm]
  exact (Nat.two_pow_add_eq_or_of_lt hE R).symm

end Go.Proofs.Ytpfbmfnfcppjeac
