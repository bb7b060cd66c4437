/-
  The block code by the program: a code word appended, a corrected word appended. Written by a program (enc.py).
-/
import Derived.Test.YtpfbmfnfcppjeadDoorTabB
import Derived.Test.YtpfbmfnfcppjeadDoorSyn
import Derived.Test.YtpfbmfnfcppjeadDoorChk
namespace Go.Proofs.YtpfbmfnfcppjeadDoor
open Go.RowKit
theorem BitL.put {zs : List Int} (h : BitL zs) (i : Nat) {x : Int} (hx : x = 0 ∨ x = 1) : BitL (zs.set i x) := by
  intro z hz
  rcases List.mem_or_eq_of_mem_set hz with hz | rfl
  · exact h z hz
  · exact hx
theorem BitL.at {zs : List Int} (h : BitL zs) (i : Nat) : zs.getD i 0 = 0 ∨ zs.getD i 0 = 1 := by
  by_cases hi : i < zs.length
  · have : zs.getD i 0 ∈ zs := by rw [List.getD, List.getElem?_eq_getElem hi]; exact List.getElem_mem hi
    exact h _ this
  · left; rw [List.getD, List.getElem?_eq_none (by omega)]; rfl
theorem and_mask1 {y : Int} (h : y = 0 ∨ y = 1) : bits .and .i64 1 y = y := by rcases h with rfl | rfl <;> decide
theorem and_mask0 {y : Int} (h : y = 0 ∨ y = 1) : bits .and .i64 0 y = 0 := by rcases h with rfl | rfl <;> decide
theorem xor_bit2 {x y : Int} (hx : x = 0 ∨ x = 1) (hy : y = 0 ∨ y = 1) : bits .xor .i64 x y = xorZ x y := by rcases hx with rfl | rfl <;> rcases hy with rfl | rfl <;> decide
def wA (zs : List Int) : Nat → List Int
  | 0 => [0, 0, 0, 0, 0, 0, 0]
  | k + 1 => (wA zs k).set (placeZ.getD k 0).toNat (zs.getD k 0)
def wB (zs : List Int) : Nat → List Int
  | 0 => wA zs 4
  | n + 1 => (wB zs n).set (2 ^ (n / 4) - 1) (xorZ ((wB zs n).getD (2 ^ (n / 4) - 1) 0) (if (maskZ.getD (n / 4) []).getD (n % 4) 0 = 1 then zs.getD (n % 4) 0 else 0))
theorem wA_length (zs : List Int) : ∀ k, (wA zs k).length = 7
  | 0 => rfl
  | k + 1 => by rw [wA, List.length_set, wA_length zs k]
theorem wB_length (zs : List Int) : ∀ k, (wB zs k).length = 7
  | 0 => wA_length zs 4
  | k + 1 => by rw [wB, List.length_set, wB_length zs k]
theorem wA_bits {zs : List Int} (h : BitL zs) : ∀ k, BitL (wA zs k)
  | 0 => fun z hz => by left; simpa [wA] using hz
  | k + 1 => (wA_bits h k).put _ (h.at k)
theorem wB_bits {zs : List Int} (h : BitL zs) : ∀ k, BitL (wB zs k)
  | 0 => wA_bits h 4
  | k + 1 => (wB_bits h k).put _ (xorZ_bit _ _)
theorem wB_enc {zs : List Int} (h : BitL zs) (hl : zs.length = 4) : wB zs 12 = enc zs := by
  obtain ⟨a, b, c, d, rfl⟩ := bits4 h hl
  clear h hl
  revert a b c d; decide +kernel
theorem word_new (w : World) : OwnK 42 .i64 w.heap.size (w.alloc (.cells #[.int .i64 0, .int .i64 0, .int .i64 0, .int .i64 0, .int .i64 0, .int .i64 0, .int .i64 0] 42)) (.slice (some ⟨w.heap.size, 0, none⟩) 7 7) [0, 0, 0, 0, 0, 0, 0] :=
  ⟨rfl, .inr ⟨w.heap.size, 7, _, rfl, Nat.le_refl _, heap_alloc_new w _, Nat.le_refl _, by decide, rfl, rfl⟩⟩
theorem ixP0 (w : World) : (Instr.index 43 (.agg #[.int .i64 2, .int .i64 4, .int .i64 5, .int .i64 6]) (.int .i64 0)).run Tryd.prog w = .ok (.int .i64 2) w := by kernel_rfl
theorem ixP1 (w : World) : (Instr.index 43 (.agg #[.int .i64 2, .int .i64 4, .int .i64 5, .int .i64 6]) (.int .i64 1)).run Tryd.prog w = .ok (.int .i64 4) w := by kernel_rfl
theorem ixP2 (w : World) : (Instr.index 43 (.agg #[.int .i64 2, .int .i64 4, .int .i64 5, .int .i64 6]) (.int .i64 2)).run Tryd.prog w = .ok (.int .i64 5) w := by kernel_rfl
theorem ixP3 (w : World) : (Instr.index 43 (.agg #[.int .i64 2, .int .i64 4, .int .i64 5, .int .i64 6]) (.int .i64 3)).run Tryd.prog w = .ok (.int .i64 6) w := by kernel_rfl
theorem ixM0 (w : World) : (Instr.index 44 (.agg #[.int .i64 1, .int .i64 1, .int .i64 0, .int .i64 1, .int .i64 1, .int .i64 0, .int .i64 1, .int .i64 1, .int .i64 0, .int .i64 1, .int .i64 1, .int .i64 1]) (.int .i64 0)).run Tryd.prog w = .ok (.agg #[.int .i64 1, .int .i64 1, .int .i64 0, .int .i64 1]) w := by kernel_rfl
theorem ixR00 (w : World) : (Instr.index 43 (.agg #[.int .i64 1, .int .i64 1, .int .i64 0, .int .i64 1]) (.int .i64 0)).run Tryd.prog w = .ok (.int .i64 1) w := by kernel_rfl
theorem ixR01 (w : World) : (Instr.index 43 (.agg #[.int .i64 1, .int .i64 1, .int .i64 0, .int .i64 1]) (.int .i64 1)).run Tryd.prog w = .ok (.int .i64 1) w := by kernel_rfl
theorem ixR02 (w : World) : (Instr.index 43 (.agg #[.int .i64 1, .int .i64 1, .int .i64 0, .int .i64 1]) (.int .i64 2)).run Tryd.prog w = .ok (.int .i64 0) w := by kernel_rfl
theorem ixR03 (w : World) : (Instr.index 43 (.agg #[.int .i64 1, .int .i64 1, .int .i64 0, .int .i64 1]) (.int .i64 3)).run Tryd.prog w = .ok (.int .i64 1) w := by kernel_rfl
theorem ixM1 (w : World) : (Instr.index 44 (.agg #[.int .i64 1, .int .i64 1, .int .i64 0, .int .i64 1, .int .i64 1, .int .i64 0, .int .i64 1, .int .i64 1, .int .i64 0, .int .i64 1, .int .i64 1, .int .i64 1]) (.int .i64 1)).run Tryd.prog w = .ok (.agg #[.int .i64 1, .int .i64 0, .int .i64 1, .int .i64 1]) w := by kernel_rfl
theorem ixR10 (w : World) : (Instr.index 43 (.agg #[.int .i64 1, .int .i64 0, .int .i64 1, .int .i64 1]) (.int .i64 0)).run Tryd.prog w = .ok (.int .i64 1) w := by kernel_rfl
theorem ixR11 (w : World) : (Instr.index 43 (.agg #[.int .i64 1, .int .i64 0, .int .i64 1, .int .i64 1]) (.int .i64 1)).run Tryd.prog w = .ok (.int .i64 0) w := by kernel_rfl
theorem ixR12 (w : World) : (Instr.index 43 (.agg #[.int .i64 1, .int .i64 0, .int .i64 1, .int .i64 1]) (.int .i64 2)).run Tryd.prog w = .ok (.int .i64 1) w := by kernel_rfl
theorem ixR13 (w : World) : (Instr.index 43 (.agg #[.int .i64 1, .int .i64 0, .int .i64 1, .int .i64 1]) (.int .i64 3)).run Tryd.prog w = .ok (.int .i64 1) w := by kernel_rfl
theorem ixM2 (w : World) : (Instr.index 44 (.agg #[.int .i64 1, .int .i64 1, .int .i64 0, .int .i64 1, .int .i64 1, .int .i64 0, .int .i64 1, .int .i64 1, .int .i64 0, .int .i64 1, .int .i64 1, .int .i64 1]) (.int .i64 2)).run Tryd.prog w = .ok (.agg #[.int .i64 0, .int .i64 1, .int .i64 1, .int .i64 1]) w := by kernel_rfl
theorem ixR20 (w : World) : (Instr.index 43 (.agg #[.int .i64 0, .int .i64 1, .int .i64 1, .int .i64 1]) (.int .i64 0)).run Tryd.prog w = .ok (.int .i64 0) w := by kernel_rfl
theorem ixR21 (w : World) : (Instr.index 43 (.agg #[.int .i64 0, .int .i64 1, .int .i64 1, .int .i64 1]) (.int .i64 1)).run Tryd.prog w = .ok (.int .i64 1) w := by kernel_rfl
theorem ixR22 (w : World) : (Instr.index 43 (.agg #[.int .i64 0, .int .i64 1, .int .i64 1, .int .i64 1]) (.int .i64 2)).run Tryd.prog w = .ok (.int .i64 1) w := by kernel_rfl
theorem ixR23 (w : World) : (Instr.index 43 (.agg #[.int .i64 0, .int .i64 1, .int .i64 1, .int .i64 1]) (.int .i64 3)).run Tryd.prog w = .ok (.int .i64 1) w := by kernel_rfl
set_option maxHeartbeats 4000000 in
theorem appendNibble_any (zs xs : List Int) (u v : Value) (base : Nat) (w : World) (hT : Tabs w) (hrow : RowK .i64 w v zs) (hb : BitL zs) (hl : zs.length = 4) (hown : OwnI base w u xs) (hx : xs.length ≤ 100000) (hbase : base ≤ w.heap.size) :
    Calls Tryd.prog 15 #[u, v] w fun e w' => ∃ r, e = .returned r ∧ OwnI base w' r (xs ++ enc zs) ∧ Below base w w' := by
  have HE := Lib.hid (wB_enc hb hl)
  have HB := Lib.hid hb
  have hnew := word_new w
  have hb0 : Below w.heap.size w (w.alloc (.cells #[.int .i64 0, .int .i64 0, .int .i64 0, .int .i64 0, .int .i64 0, .int .i64 0, .int .i64 0] 42)) := (Below.refl _ w).alloc (Nat.le_refl _) _
  obtain ⟨a, cap, hv⟩ := hrow.form
  rw [hl] at hv
  subst hv
  obtain ⟨_, _, _, _, hcell⟩ := hrow.at
  obtain ⟨b, off, rfl, hc⟩ := hcell (by omega)
  have HC := Lib.hid hc
  have HP0 := Lib.hid (hT.p 0 (by omega))
  have HP1 := Lib.hid (hT.p 1 (by omega))
  have HP2 := Lib.hid (hT.p 2 (by omega))
  have HP3 := Lib.hid (hT.p 3 (by omega))
  have HM0 := Lib.hid (hT.m 0 (by omega) 0 (by omega))
  have HM1 := Lib.hid (hT.m 0 (by omega) 1 (by omega))
  have HM2 := Lib.hid (hT.m 0 (by omega) 2 (by omega))
  have HM3 := Lib.hid (hT.m 0 (by omega) 3 (by omega))
  have HM4 := Lib.hid (hT.m 1 (by omega) 0 (by omega))
  have HM5 := Lib.hid (hT.m 1 (by omega) 1 (by omega))
  have HM6 := Lib.hid (hT.m 1 (by omega) 2 (by omega))
  have HM7 := Lib.hid (hT.m 1 (by omega) 3 (by omega))
  have HM8 := Lib.hid (hT.m 2 (by omega) 0 (by omega))
  have HM9 := Lib.hid (hT.m 2 (by omega) 1 (by omega))
  have HM10 := Lib.hid (hT.m 2 (by omega) 2 (by omega))
  have HM11 := Lib.hid (hT.m 2 (by omega) 3 (by omega))
  have HOW := Lib.hid hown
  clear hcell hc hrow hown hT hb
  have p0 : (w.alloc (.cells #[.int .i64 0, .int .i64 0, .int .i64 0, .int .i64 0, .int .i64 0, .int .i64 0, .int .i64 0] 42)).cell? ⟨0, 0, none⟩ = some (.int .i64 2) := cell_belowT HP0.out hb0
  have p1 : (w.alloc (.cells #[.int .i64 0, .int .i64 0, .int .i64 0, .int .i64 0, .int .i64 0, .int .i64 0, .int .i64 0] 42)).cell? ⟨0, 1, none⟩ = some (.int .i64 4) := cell_belowT HP1.out hb0
  have p2 : (w.alloc (.cells #[.int .i64 0, .int .i64 0, .int .i64 0, .int .i64 0, .int .i64 0, .int .i64 0, .int .i64 0] 42)).cell? ⟨0, 2, none⟩ = some (.int .i64 5) := cell_belowT HP2.out hb0
  have p3 : (w.alloc (.cells #[.int .i64 0, .int .i64 0, .int .i64 0, .int .i64 0, .int .i64 0, .int .i64 0, .int .i64 0] 42)).cell? ⟨0, 3, none⟩ = some (.int .i64 6) := cell_belowT HP3.out hb0
  go_enter Tryd.func15, Tryd.ntmps15
  go_wp2
  go_loopw [13] (fun i wr => ∃ k : Nat, k ≤ 4 ∧ i = .int .i64 k ∧ OwnK 42 .i64 w.heap.size wr (.slice (some ⟨w.heap.size, 0, none⟩) 7 7) (wA zs k) ∧ Below w.heap.size w wr) (fun i _ => 4 - (intOf i).toNat)
  case atStart => exact ⟨0, Nat.zero_le _, rfl, hnew, hb0⟩
  case round =>
    obtain ⟨k, hk, rfl, hw, hbel⟩ := hrel
    have hk5 : k = 0 ∨ k = 1 ∨ k = 2 ∨ k = 3 ∨ k = 4 := by omega
    rcases hk5 with rfl | rfl | rfl | rfl | rfl
    · have hcell := hw.cell (wA_length zs 0) 2 (by omega)
      have hfree := hw.free (wA_length zs 0) 2
      have hc0 := cell_belowT (HC.out 0 (by omega)) hbel
      obtain ⟨y, hy⟩ : ∃ y, y = zs.getD 0 0 := ⟨_, rfl⟩
      rw [← hy] at hc0
      have hc1 : wr.cell? ⟨b, off, none⟩ = some (.int .i64 y) := hc0
      have HST := Lib.hid (hw.stored (wA_length zs 0) 2 y)
      have HS := Lib.hid (show wA zs (0 + 1) = (wA zs 0).set 2 y by rw [hy]; rfl)
      have HBL := Lib.hid hbel
      clear hw hbel hc0 hy
      have ix := ixP0
      go_wp2
      go_roundw
      case rel => first | exact ⟨0 + 1, by omega, by go_num, by rw [HS.out]; exact HST.out.1, below_mark HBL.out HST.out.2 (fun j e => by cases e; exact Nat.le_refl _)⟩ | ((repeat apply Exists.intro); exact ⟨⟨0 + 1, by omega, by go_num, by rw [HS.out]; exact HST.out.1, below_mark HBL.out HST.out.2 (fun j e => by cases e; exact Nat.le_refl _)⟩, rfl⟩)
      case measure => simp [intOf]
    · have hcell := hw.cell (wA_length zs 1) 4 (by omega)
      have hfree := hw.free (wA_length zs 1) 4
      have hc0 := cell_belowT (HC.out 1 (by omega)) hbel
      obtain ⟨y, hy⟩ : ∃ y, y = zs.getD 1 0 := ⟨_, rfl⟩
      rw [← hy] at hc0
      have hc1 : wr.cell? ⟨b, off + 1, none⟩ = some (.int .i64 y) := hc0
      have HST := Lib.hid (hw.stored (wA_length zs 1) 4 y)
      have HS := Lib.hid (show wA zs (1 + 1) = (wA zs 1).set 4 y by rw [hy]; rfl)
      have HBL := Lib.hid hbel
      clear hw hbel hc0 hy
      have ix := ixP1
      go_wp2
      go_roundw
      case rel => first | exact ⟨1 + 1, by omega, by go_num, by rw [HS.out]; exact HST.out.1, below_mark HBL.out HST.out.2 (fun j e => by cases e; exact Nat.le_refl _)⟩ | ((repeat apply Exists.intro); exact ⟨⟨1 + 1, by omega, by go_num, by rw [HS.out]; exact HST.out.1, below_mark HBL.out HST.out.2 (fun j e => by cases e; exact Nat.le_refl _)⟩, rfl⟩)
      case measure => simp [intOf]
    · have hcell := hw.cell (wA_length zs 2) 5 (by omega)
      have hfree := hw.free (wA_length zs 2) 5
      have hc0 := cell_belowT (HC.out 2 (by omega)) hbel
      obtain ⟨y, hy⟩ : ∃ y, y = zs.getD 2 0 := ⟨_, rfl⟩
      rw [← hy] at hc0
      have hc1 : wr.cell? ⟨b, off + 2, none⟩ = some (.int .i64 y) := hc0
      have HST := Lib.hid (hw.stored (wA_length zs 2) 5 y)
      have HS := Lib.hid (show wA zs (2 + 1) = (wA zs 2).set 5 y by rw [hy]; rfl)
      have HBL := Lib.hid hbel
      clear hw hbel hc0 hy
      have ix := ixP2
      go_wp2
      go_roundw
      case rel => first | exact ⟨2 + 1, by omega, by go_num, by rw [HS.out]; exact HST.out.1, below_mark HBL.out HST.out.2 (fun j e => by cases e; exact Nat.le_refl _)⟩ | ((repeat apply Exists.intro); exact ⟨⟨2 + 1, by omega, by go_num, by rw [HS.out]; exact HST.out.1, below_mark HBL.out HST.out.2 (fun j e => by cases e; exact Nat.le_refl _)⟩, rfl⟩)
      case measure => simp [intOf]
    · have hcell := hw.cell (wA_length zs 3) 6 (by omega)
      have hfree := hw.free (wA_length zs 3) 6
      have hc0 := cell_belowT (HC.out 3 (by omega)) hbel
      obtain ⟨y, hy⟩ : ∃ y, y = zs.getD 3 0 := ⟨_, rfl⟩
      rw [← hy] at hc0
      have hc1 : wr.cell? ⟨b, off + 3, none⟩ = some (.int .i64 y) := hc0
      have HST := Lib.hid (hw.stored (wA_length zs 3) 6 y)
      have HS := Lib.hid (show wA zs (3 + 1) = (wA zs 3).set 6 y by rw [hy]; rfl)
      have HBL := Lib.hid hbel
      clear hw hbel hc0 hy
      have ix := ixP3
      go_wp2
      go_roundw
      case rel => first | exact ⟨3 + 1, by omega, by go_num, by rw [HS.out]; exact HST.out.1, below_mark HBL.out HST.out.2 (fun j e => by cases e; exact Nat.le_refl _)⟩ | ((repeat apply Exists.intro); exact ⟨⟨3 + 1, by omega, by go_num, by rw [HS.out]; exact HST.out.1, below_mark HBL.out HST.out.2 (fun j e => by cases e; exact Nat.le_refl _)⟩, rfl⟩)
      case measure => simp [intOf]
    · have hB1 : OwnK 42 .i64 w.heap.size wr (.slice (some ⟨w.heap.size, 0, none⟩) 7 7) (wB zs 0) := hw
      have HBL := Lib.hid hbel
      have m0 : wr.cell? ⟨1, 0, none⟩ = some (.int .i64 1) := cell_belowT HM0.out hbel
      have m1 : wr.cell? ⟨1, 1, none⟩ = some (.int .i64 1) := cell_belowT HM1.out hbel
      have m2 : wr.cell? ⟨1, 2, none⟩ = some (.int .i64 0) := cell_belowT HM2.out hbel
      have m3 : wr.cell? ⟨1, 3, none⟩ = some (.int .i64 1) := cell_belowT HM3.out hbel
      have m4 : wr.cell? ⟨1, 4, none⟩ = some (.int .i64 1) := cell_belowT HM4.out hbel
      have m5 : wr.cell? ⟨1, 5, none⟩ = some (.int .i64 0) := cell_belowT HM5.out hbel
      have m6 : wr.cell? ⟨1, 6, none⟩ = some (.int .i64 1) := cell_belowT HM6.out hbel
      have m7 : wr.cell? ⟨1, 7, none⟩ = some (.int .i64 1) := cell_belowT HM7.out hbel
      have m8 : wr.cell? ⟨1, 8, none⟩ = some (.int .i64 0) := cell_belowT HM8.out hbel
      have m9 : wr.cell? ⟨1, 9, none⟩ = some (.int .i64 1) := cell_belowT HM9.out hbel
      have m10 : wr.cell? ⟨1, 10, none⟩ = some (.int .i64 1) := cell_belowT HM10.out hbel
      have m11 : wr.cell? ⟨1, 11, none⟩ = some (.int .i64 1) := cell_belowT HM11.out hbel
      clear hw
      rename World => wl
      have hbl : ∀ x, x = 0 ∨ x = 1 → True := fun _ _ => trivial
      clear hbl
      go_wp2
      go_loopw [25] (fun i wr => ∃ k : Nat, k ≤ 3 ∧ i = .int .i64 k ∧ OwnK 42 .i64 w.heap.size wr (.slice (some ⟨w.heap.size, 0, none⟩) 7 7) (wB zs (4 * k)) ∧ Below w.heap.size w wr) (fun i _ => 3 - (intOf i).toNat)
      case atStart => exact ⟨0, Nat.zero_le _, rfl, hB1, HBL.out⟩
      case round =>
        obtain ⟨k, hk, rfl, hw, hbel⟩ := hrel
        have hk4 : k = 0 ∨ k = 1 ∨ k = 2 ∨ k = 3 := by omega
        rcases hk4 with rfl | rfl | rfl | rfl
        · have ix := ixM0
          have hw2 := hw.belowAll ((Below.refl _ wr).alloc (Nat.le_refl _) (.cells #[.int .i64 1, .int .i64 1, .int .i64 0, .int .i64 1] 43))
          have hbel2 := hbel.alloc hbel.size (.cells #[.int .i64 1, .int .i64 1, .int .i64 0, .int .i64 1] 43)
          clear hw hbel
          rename World => w0
          go_wp2
          go_loopw [30] (fun i wr => ∃ q : Nat, q ≤ 4 ∧ i = .int .i64 q ∧ OwnK 42 .i64 w.heap.size wr (.slice (some ⟨w.heap.size, 0, none⟩) 7 7) (wB zs (4 * 0 + q)) ∧ Below w.heap.size w wr) (fun i _ => 4 - (intOf i).toNat)
          case atStart => exact ⟨0, Nat.zero_le _, rfl, hw2, hbel2⟩
          case round =>
            clear hw2 hbel2
            obtain ⟨q, hq, rfl, hw, hbel⟩ := hrel
            have hq5 : q = 0 ∨ q = 1 ∨ q = 2 ∨ q = 3 ∨ q = 4 := by omega
            rcases hq5 with rfl | rfl | rfl | rfl | rfl
            · have hcell := hw.cell (wB_length zs 0) 0 (by omega)
              have hfree := hw.free (wB_length zs 0) 0
              have hc0 := cell_belowT (HC.out 0 (by omega)) hbel
              have bx := (wB_bits HB.out 0).at 0
              have by_ := HB.out.at 0
              have HS0 := Lib.hid (show wB zs (0 + 1) = (wB zs 0).set 0 (xorZ ((wB zs 0).getD 0 0) (zs.getD 0 0)) from rfl)
              obtain ⟨y, hy⟩ : ∃ y, y = zs.getD 0 0 := ⟨_, rfl⟩
              rw [← hy] at hc0 by_ HS0
              obtain ⟨x, hx⟩ : ∃ x, x = (wB zs 0).getD 0 0 := ⟨_, rfl⟩
              rw [← hx] at hcell bx HS0
              have hc1 : wr.cell? ⟨b, off, none⟩ = some (.int .i64 y) := hc0
              have a1 := and_mask1 by_
              have x1 : bits .xor .i64 x y = xorZ x y := xor_bit2 bx by_
              obtain ⟨z, hz⟩ : ∃ z, z = xorZ x y := ⟨_, rfl⟩
              rw [← hz] at x1 HS0
              have HST := Lib.hid ((show OwnK 42 .i64 w.heap.size wr.drew (.slice (some ⟨w.heap.size, 0, none⟩) 7 7) (wB zs 0) from hw).stored (wB_length zs 0) 0 z)
              have HBL := Lib.hid hbel.drew
              clear hw hbel hc0 hy hx hz bx by_
              have ix := ixR00
              go_wp2
              all_goals try (go_region; all_goals go_wp2)
              go_roundw
              have hfin : OwnK 42 .i64 w.heap.size (wr.drew.setCell ⟨w.heap.size, 0, none⟩ (.int .i64 z)) (.slice (some ⟨w.heap.size, 0, none⟩) 7 7) (wB zs (4 * 0 + (0 + 1))) := by have := HST.out.1; rw [← HS0.out] at this; exact this
              have hfin2 := below_mark HBL.out HST.out.2 (fun j e => by cases e; exact Nat.le_refl _)
              case rel => first | exact ⟨0 + 1, by omega, by go_num, hfin, hfin2⟩ | ((repeat apply Exists.intro); exact ⟨⟨0 + 1, by omega, by go_num, hfin, hfin2⟩, rfl⟩)
              case measure => simp [intOf]
            · have hcell := hw.cell (wB_length zs 1) 0 (by omega)
              have hfree := hw.free (wB_length zs 1) 0
              have hc0 := cell_belowT (HC.out 1 (by omega)) hbel
              have bx := (wB_bits HB.out 1).at 0
              have by_ := HB.out.at 1
              have HS0 := Lib.hid (show wB zs (1 + 1) = (wB zs 1).set 0 (xorZ ((wB zs 1).getD 0 0) (zs.getD 1 0)) from rfl)
              obtain ⟨y, hy⟩ : ∃ y, y = zs.getD 1 0 := ⟨_, rfl⟩
              rw [← hy] at hc0 by_ HS0
              obtain ⟨x, hx⟩ : ∃ x, x = (wB zs 1).getD 0 0 := ⟨_, rfl⟩
              rw [← hx] at hcell bx HS0
              have hc1 : wr.cell? ⟨b, off + 1, none⟩ = some (.int .i64 y) := hc0
              have a1 := and_mask1 by_
              have x1 : bits .xor .i64 x y = xorZ x y := xor_bit2 bx by_
              obtain ⟨z, hz⟩ : ∃ z, z = xorZ x y := ⟨_, rfl⟩
              rw [← hz] at x1 HS0
              have HST := Lib.hid ((show OwnK 42 .i64 w.heap.size wr.drew (.slice (some ⟨w.heap.size, 0, none⟩) 7 7) (wB zs 1) from hw).stored (wB_length zs 1) 0 z)
              have HBL := Lib.hid hbel.drew
              clear hw hbel hc0 hy hx hz bx by_
              have ix := ixR01
              go_wp2
              all_goals try (go_region; all_goals go_wp2)
              go_roundw
              have hfin : OwnK 42 .i64 w.heap.size (wr.drew.setCell ⟨w.heap.size, 0, none⟩ (.int .i64 z)) (.slice (some ⟨w.heap.size, 0, none⟩) 7 7) (wB zs (4 * 0 + (1 + 1))) := by have := HST.out.1; rw [← HS0.out] at this; exact this
              have hfin2 := below_mark HBL.out HST.out.2 (fun j e => by cases e; exact Nat.le_refl _)
              case rel => first | exact ⟨1 + 1, by omega, by go_num, hfin, hfin2⟩ | ((repeat apply Exists.intro); exact ⟨⟨1 + 1, by omega, by go_num, hfin, hfin2⟩, rfl⟩)
              case measure => simp [intOf]
            · have hcell := hw.cell (wB_length zs 2) 0 (by omega)
              have hfree := hw.free (wB_length zs 2) 0
              have hc0 := cell_belowT (HC.out 2 (by omega)) hbel
              have bx := (wB_bits HB.out 2).at 0
              have by_ := HB.out.at 2
              have HS0 := Lib.hid (show wB zs (2 + 1) = (wB zs 2).set 0 (xorZ ((wB zs 2).getD 0 0) (0)) from rfl)
              obtain ⟨y, hy⟩ : ∃ y, y = zs.getD 2 0 := ⟨_, rfl⟩
              rw [← hy] at hc0 by_
              obtain ⟨x, hx⟩ : ∃ x, x = (wB zs 2).getD 0 0 := ⟨_, rfl⟩
              rw [← hx] at hcell bx HS0
              have hc1 : wr.cell? ⟨b, off + 2, none⟩ = some (.int .i64 y) := hc0
              have a1 := and_mask0 by_
              have x1 : bits .xor .i64 x 0 = xorZ x 0 := xor_bit2 bx (Or.inl rfl)
              obtain ⟨z, hz⟩ : ∃ z, z = xorZ x 0 := ⟨_, rfl⟩
              rw [← hz] at x1 HS0
              have HST := Lib.hid ((show OwnK 42 .i64 w.heap.size wr.drew (.slice (some ⟨w.heap.size, 0, none⟩) 7 7) (wB zs 2) from hw).stored (wB_length zs 2) 0 z)
              have HBL := Lib.hid hbel.drew
              clear hw hbel hc0 hy hx hz bx by_
              have ix := ixR02
              go_wp2
              all_goals try (go_region; all_goals go_wp2)
              go_roundw
              have hfin : OwnK 42 .i64 w.heap.size (wr.drew.setCell ⟨w.heap.size, 0, none⟩ (.int .i64 z)) (.slice (some ⟨w.heap.size, 0, none⟩) 7 7) (wB zs (4 * 0 + (2 + 1))) := by have := HST.out.1; rw [← HS0.out] at this; exact this
              have hfin2 := below_mark HBL.out HST.out.2 (fun j e => by cases e; exact Nat.le_refl _)
              case rel => first | exact ⟨2 + 1, by omega, by go_num, hfin, hfin2⟩ | ((repeat apply Exists.intro); exact ⟨⟨2 + 1, by omega, by go_num, hfin, hfin2⟩, rfl⟩)
              case measure => simp [intOf]
            · have hcell := hw.cell (wB_length zs 3) 0 (by omega)
              have hfree := hw.free (wB_length zs 3) 0
              have hc0 := cell_belowT (HC.out 3 (by omega)) hbel
              have bx := (wB_bits HB.out 3).at 0
              have by_ := HB.out.at 3
              have HS0 := Lib.hid (show wB zs (3 + 1) = (wB zs 3).set 0 (xorZ ((wB zs 3).getD 0 0) (zs.getD 3 0)) from rfl)
              obtain ⟨y, hy⟩ : ∃ y, y = zs.getD 3 0 := ⟨_, rfl⟩
              rw [← hy] at hc0 by_ HS0
              obtain ⟨x, hx⟩ : ∃ x, x = (wB zs 3).getD 0 0 := ⟨_, rfl⟩
              rw [← hx] at hcell bx HS0
              have hc1 : wr.cell? ⟨b, off + 3, none⟩ = some (.int .i64 y) := hc0
              have a1 := and_mask1 by_
              have x1 : bits .xor .i64 x y = xorZ x y := xor_bit2 bx by_
              obtain ⟨z, hz⟩ : ∃ z, z = xorZ x y := ⟨_, rfl⟩
              rw [← hz] at x1 HS0
              have HST := Lib.hid ((show OwnK 42 .i64 w.heap.size wr.drew (.slice (some ⟨w.heap.size, 0, none⟩) 7 7) (wB zs 3) from hw).stored (wB_length zs 3) 0 z)
              have HBL := Lib.hid hbel.drew
              clear hw hbel hc0 hy hx hz bx by_
              have ix := ixR03
              go_wp2
              all_goals try (go_region; all_goals go_wp2)
              go_roundw
              have hfin : OwnK 42 .i64 w.heap.size (wr.drew.setCell ⟨w.heap.size, 0, none⟩ (.int .i64 z)) (.slice (some ⟨w.heap.size, 0, none⟩) 7 7) (wB zs (4 * 0 + (3 + 1))) := by have := HST.out.1; rw [← HS0.out] at this; exact this
              have hfin2 := below_mark HBL.out HST.out.2 (fun j e => by cases e; exact Nat.le_refl _)
              case rel => first | exact ⟨3 + 1, by omega, by go_num, hfin, hfin2⟩ | ((repeat apply Exists.intro); exact ⟨⟨3 + 1, by omega, by go_num, hfin, hfin2⟩, rfl⟩)
              case measure => simp [intOf]
            · have hw3 : OwnK 42 .i64 w.heap.size wr (.slice (some ⟨w.heap.size, 0, none⟩) 7 7) (wB zs (4 * (0 + 1))) := hw
              go_wp2
              go_roundw
              case rel => first | exact ⟨0 + 1, by omega, by go_num, hw3, hbel⟩ | ((repeat apply Exists.intro); exact ⟨⟨0 + 1, by omega, by go_num, hw3, hbel⟩, rfl⟩)
              case measure => simp [intOf]
        · have ix := ixM1
          have hw2 := hw.belowAll ((Below.refl _ wr).alloc (Nat.le_refl _) (.cells #[.int .i64 1, .int .i64 0, .int .i64 1, .int .i64 1] 43))
          have hbel2 := hbel.alloc hbel.size (.cells #[.int .i64 1, .int .i64 0, .int .i64 1, .int .i64 1] 43)
          clear hw hbel
          rename World => w0
          go_wp2
          go_loopw [30] (fun i wr => ∃ q : Nat, q ≤ 4 ∧ i = .int .i64 q ∧ OwnK 42 .i64 w.heap.size wr (.slice (some ⟨w.heap.size, 0, none⟩) 7 7) (wB zs (4 * 1 + q)) ∧ Below w.heap.size w wr) (fun i _ => 4 - (intOf i).toNat)
          case atStart => exact ⟨0, Nat.zero_le _, rfl, hw2, hbel2⟩
          case round =>
            clear hw2 hbel2
            obtain ⟨q, hq, rfl, hw, hbel⟩ := hrel
            have hq5 : q = 0 ∨ q = 1 ∨ q = 2 ∨ q = 3 ∨ q = 4 := by omega
            rcases hq5 with rfl | rfl | rfl | rfl | rfl
            · have hcell := hw.cell (wB_length zs 4) 1 (by omega)
              have hfree := hw.free (wB_length zs 4) 1
              have hc0 := cell_belowT (HC.out 0 (by omega)) hbel
              have bx := (wB_bits HB.out 4).at 1
              have by_ := HB.out.at 0
              have HS0 := Lib.hid (show wB zs (4 + 1) = (wB zs 4).set 1 (xorZ ((wB zs 4).getD 1 0) (zs.getD 0 0)) from rfl)
              obtain ⟨y, hy⟩ : ∃ y, y = zs.getD 0 0 := ⟨_, rfl⟩
              rw [← hy] at hc0 by_ HS0
              obtain ⟨x, hx⟩ : ∃ x, x = (wB zs 4).getD 1 0 := ⟨_, rfl⟩
              rw [← hx] at hcell bx HS0
              have hc1 : wr.cell? ⟨b, off, none⟩ = some (.int .i64 y) := hc0
              have a1 := and_mask1 by_
              have x1 : bits .xor .i64 x y = xorZ x y := xor_bit2 bx by_
              obtain ⟨z, hz⟩ : ∃ z, z = xorZ x y := ⟨_, rfl⟩
              rw [← hz] at x1 HS0
              have HST := Lib.hid ((show OwnK 42 .i64 w.heap.size wr.drew (.slice (some ⟨w.heap.size, 0, none⟩) 7 7) (wB zs 4) from hw).stored (wB_length zs 4) 1 z)
              have HBL := Lib.hid hbel.drew
              clear hw hbel hc0 hy hx hz bx by_
              have ix := ixR10
              go_wp2
              all_goals try (go_region; all_goals go_wp2)
              go_roundw
              have hfin : OwnK 42 .i64 w.heap.size (wr.drew.setCell ⟨w.heap.size, 1, none⟩ (.int .i64 z)) (.slice (some ⟨w.heap.size, 0, none⟩) 7 7) (wB zs (4 * 1 + (0 + 1))) := by have := HST.out.1; rw [← HS0.out] at this; exact this
              have hfin2 := below_mark HBL.out HST.out.2 (fun j e => by cases e; exact Nat.le_refl _)
              case rel => first | exact ⟨0 + 1, by omega, by go_num, hfin, hfin2⟩ | ((repeat apply Exists.intro); exact ⟨⟨0 + 1, by omega, by go_num, hfin, hfin2⟩, rfl⟩)
              case measure => simp [intOf]
            · have hcell := hw.cell (wB_length zs 5) 1 (by omega)
              have hfree := hw.free (wB_length zs 5) 1
              have hc0 := cell_belowT (HC.out 1 (by omega)) hbel
              have bx := (wB_bits HB.out 5).at 1
              have by_ := HB.out.at 1
              have HS0 := Lib.hid (show wB zs (5 + 1) = (wB zs 5).set 1 (xorZ ((wB zs 5).getD 1 0) (0)) from rfl)
              obtain ⟨y, hy⟩ : ∃ y, y = zs.getD 1 0 := ⟨_, rfl⟩
              rw [← hy] at hc0 by_
              obtain ⟨x, hx⟩ : ∃ x, x = (wB zs 5).getD 1 0 := ⟨_, rfl⟩
              rw [← hx] at hcell bx HS0
              have hc1 : wr.cell? ⟨b, off + 1, none⟩ = some (.int .i64 y) := hc0
              have a1 := and_mask0 by_
              have x1 : bits .xor .i64 x 0 = xorZ x 0 := xor_bit2 bx (Or.inl rfl)
              obtain ⟨z, hz⟩ : ∃ z, z = xorZ x 0 := ⟨_, rfl⟩
              rw [← hz] at x1 HS0
              have HST := Lib.hid ((show OwnK 42 .i64 w.heap.size wr.drew (.slice (some ⟨w.heap.size, 0, none⟩) 7 7) (wB zs 5) from hw).stored (wB_length zs 5) 1 z)
              have HBL := Lib.hid hbel.drew
              clear hw hbel hc0 hy hx hz bx by_
              have ix := ixR11
              go_wp2
              all_goals try (go_region; all_goals go_wp2)
              go_roundw
              have hfin : OwnK 42 .i64 w.heap.size (wr.drew.setCell ⟨w.heap.size, 1, none⟩ (.int .i64 z)) (.slice (some ⟨w.heap.size, 0, none⟩) 7 7) (wB zs (4 * 1 + (1 + 1))) := by have := HST.out.1; rw [← HS0.out] at this; exact this
              have hfin2 := below_mark HBL.out HST.out.2 (fun j e => by cases e; exact Nat.le_refl _)
              case rel => first | exact ⟨1 + 1, by omega, by go_num, hfin, hfin2⟩ | ((repeat apply Exists.intro); exact ⟨⟨1 + 1, by omega, by go_num, hfin, hfin2⟩, rfl⟩)
              case measure => simp [intOf]
            · have hcell := hw.cell (wB_length zs 6) 1 (by omega)
              have hfree := hw.free (wB_length zs 6) 1
              have hc0 := cell_belowT (HC.out 2 (by omega)) hbel
              have bx := (wB_bits HB.out 6).at 1
              have by_ := HB.out.at 2
              have HS0 := Lib.hid (show wB zs (6 + 1) = (wB zs 6).set 1 (xorZ ((wB zs 6).getD 1 0) (zs.getD 2 0)) from rfl)
              obtain ⟨y, hy⟩ : ∃ y, y = zs.getD 2 0 := ⟨_, rfl⟩
              rw [← hy] at hc0 by_ HS0
              obtain ⟨x, hx⟩ : ∃ x, x = (wB zs 6).getD 1 0 := ⟨_, rfl⟩
              rw [← hx] at hcell bx HS0
              have hc1 : wr.cell? ⟨b, off + 2, none⟩ = some (.int .i64 y) := hc0
              have a1 := and_mask1 by_
              have x1 : bits .xor .i64 x y = xorZ x y := xor_bit2 bx by_
              obtain ⟨z, hz⟩ : ∃ z, z = xorZ x y := ⟨_, rfl⟩
              rw [← hz] at x1 HS0
              have HST := Lib.hid ((show OwnK 42 .i64 w.heap.size wr.drew (.slice (some ⟨w.heap.size, 0, none⟩) 7 7) (wB zs 6) from hw).stored (wB_length zs 6) 1 z)
              have HBL := Lib.hid hbel.drew
              clear hw hbel hc0 hy hx hz bx by_
              have ix := ixR12
              go_wp2
              all_goals try (go_region; all_goals go_wp2)
              go_roundw
              have hfin : OwnK 42 .i64 w.heap.size (wr.drew.setCell ⟨w.heap.size, 1, none⟩ (.int .i64 z)) (.slice (some ⟨w.heap.size, 0, none⟩) 7 7) (wB zs (4 * 1 + (2 + 1))) := by have := HST.out.1; rw [← HS0.out] at this; exact this
              have hfin2 := below_mark HBL.out HST.out.2 (fun j e => by cases e; exact Nat.le_refl _)
              case rel => first | exact ⟨2 + 1, by omega, by go_num, hfin, hfin2⟩ | ((repeat apply Exists.intro); exact ⟨⟨2 + 1, by omega, by go_num, hfin, hfin2⟩, rfl⟩)
              case measure => simp [intOf]
            · have hcell := hw.cell (wB_length zs 7) 1 (by omega)
              have hfree := hw.free (wB_length zs 7) 1
              have hc0 := cell_belowT (HC.out 3 (by omega)) hbel
              have bx := (wB_bits HB.out 7).at 1
              have by_ := HB.out.at 3
              have HS0 := Lib.hid (show wB zs (7 + 1) = (wB zs 7).set 1 (xorZ ((wB zs 7).getD 1 0) (zs.getD 3 0)) from rfl)
              obtain ⟨y, hy⟩ : ∃ y, y = zs.getD 3 0 := ⟨_, rfl⟩
              rw [← hy] at hc0 by_ HS0
              obtain ⟨x, hx⟩ : ∃ x, x = (wB zs 7).getD 1 0 := ⟨_, rfl⟩
              rw [← hx] at hcell bx HS0
              have hc1 : wr.cell? ⟨b, off + 3, none⟩ = some (.int .i64 y) := hc0
              have a1 := and_mask1 by_
              have x1 : bits .xor .i64 x y = xorZ x y := xor_bit2 bx by_
              obtain ⟨z, hz⟩ : ∃ z, z = xorZ x y := ⟨_, rfl⟩
              rw [← hz] at x1 HS0
              have HST := Lib.hid ((show OwnK 42 .i64 w.heap.size wr.drew (.slice (some ⟨w.heap.size, 0, none⟩) 7 7) (wB zs 7) from hw).stored (wB_length zs 7) 1 z)
              have HBL := Lib.hid hbel.drew
              clear hw hbel hc0 hy hx hz bx by_
              have ix := ixR13
              go_wp2
              all_goals try (go_region; all_goals go_wp2)
              go_roundw
              have hfin : OwnK 42 .i64 w.heap.size (wr.drew.setCell ⟨w.heap.size, 1, none⟩ (.int .i64 z)) (.slice (some ⟨w.heap.size, 0, none⟩) 7 7) (wB zs (4 * 1 + (3 + 1))) := by have := HST.out.1; rw [← HS0.out] at this; exact this
              have hfin2 := below_mark HBL.out HST.out.2 (fun j e => by cases e; exact Nat.le_refl _)
              case rel => first | exact ⟨3 + 1, by omega, by go_num, hfin, hfin2⟩ | ((repeat apply Exists.intro); exact ⟨⟨3 + 1, by omega, by go_num, hfin, hfin2⟩, rfl⟩)
              case measure => simp [intOf]
            · have hw3 : OwnK 42 .i64 w.heap.size wr (.slice (some ⟨w.heap.size, 0, none⟩) 7 7) (wB zs (4 * (1 + 1))) := hw
              go_wp2
              go_roundw
              case rel => first | exact ⟨1 + 1, by omega, by go_num, hw3, hbel⟩ | ((repeat apply Exists.intro); exact ⟨⟨1 + 1, by omega, by go_num, hw3, hbel⟩, rfl⟩)
              case measure => simp [intOf]
        · have ix := ixM2
          have hw2 := hw.belowAll ((Below.refl _ wr).alloc (Nat.le_refl _) (.cells #[.int .i64 0, .int .i64 1, .int .i64 1, .int .i64 1] 43))
          have hbel2 := hbel.alloc hbel.size (.cells #[.int .i64 0, .int .i64 1, .int .i64 1, .int .i64 1] 43)
          clear hw hbel
          rename World => w0
          go_wp2
          go_loopw [30] (fun i wr => ∃ q : Nat, q ≤ 4 ∧ i = .int .i64 q ∧ OwnK 42 .i64 w.heap.size wr (.slice (some ⟨w.heap.size, 0, none⟩) 7 7) (wB zs (4 * 2 + q)) ∧ Below w.heap.size w wr) (fun i _ => 4 - (intOf i).toNat)
          case atStart => exact ⟨0, Nat.zero_le _, rfl, hw2, hbel2⟩
          case round =>
            clear hw2 hbel2
            obtain ⟨q, hq, rfl, hw, hbel⟩ := hrel
            have hq5 : q = 0 ∨ q = 1 ∨ q = 2 ∨ q = 3 ∨ q = 4 := by omega
            rcases hq5 with rfl | rfl | rfl | rfl | rfl
            · have hcell := hw.cell (wB_length zs 8) 3 (by omega)
              have hfree := hw.free (wB_length zs 8) 3
              have hc0 := cell_belowT (HC.out 0 (by omega)) hbel
              have bx := (wB_bits HB.out 8).at 3
              have by_ := HB.out.at 0
              have HS0 := Lib.hid (show wB zs (8 + 1) = (wB zs 8).set 3 (xorZ ((wB zs 8).getD 3 0) (0)) from rfl)
              obtain ⟨y, hy⟩ : ∃ y, y = zs.getD 0 0 := ⟨_, rfl⟩
              rw [← hy] at hc0 by_
              obtain ⟨x, hx⟩ : ∃ x, x = (wB zs 8).getD 3 0 := ⟨_, rfl⟩
              rw [← hx] at hcell bx HS0
              have hc1 : wr.cell? ⟨b, off, none⟩ = some (.int .i64 y) := hc0
              have a1 := and_mask0 by_
              have x1 : bits .xor .i64 x 0 = xorZ x 0 := xor_bit2 bx (Or.inl rfl)
              obtain ⟨z, hz⟩ : ∃ z, z = xorZ x 0 := ⟨_, rfl⟩
              rw [← hz] at x1 HS0
              have HST := Lib.hid ((show OwnK 42 .i64 w.heap.size wr.drew (.slice (some ⟨w.heap.size, 0, none⟩) 7 7) (wB zs 8) from hw).stored (wB_length zs 8) 3 z)
              have HBL := Lib.hid hbel.drew
              clear hw hbel hc0 hy hx hz bx by_
              have ix := ixR20
              go_wp2
              all_goals try (go_region; all_goals go_wp2)
              go_roundw
              have hfin : OwnK 42 .i64 w.heap.size (wr.drew.setCell ⟨w.heap.size, 3, none⟩ (.int .i64 z)) (.slice (some ⟨w.heap.size, 0, none⟩) 7 7) (wB zs (4 * 2 + (0 + 1))) := by have := HST.out.1; rw [← HS0.out] at this; exact this
              have hfin2 := below_mark HBL.out HST.out.2 (fun j e => by cases e; exact Nat.le_refl _)
              case rel => first | exact ⟨0 + 1, by omega, by go_num, hfin, hfin2⟩ | ((repeat apply Exists.intro); exact ⟨⟨0 + 1, by omega, by go_num, hfin, hfin2⟩, rfl⟩)
              case measure => simp [intOf]
            · have hcell := hw.cell (wB_length zs 9) 3 (by omega)
              have hfree := hw.free (wB_length zs 9) 3
              have hc0 := cell_belowT (HC.out 1 (by omega)) hbel
              have bx := (wB_bits HB.out 9).at 3
              have by_ := HB.out.at 1
              have HS0 := Lib.hid (show wB zs (9 + 1) = (wB zs 9).set 3 (xorZ ((wB zs 9).getD 3 0) (zs.getD 1 0)) from rfl)
              obtain ⟨y, hy⟩ : ∃ y, y = zs.getD 1 0 := ⟨_, rfl⟩
              rw [← hy] at hc0 by_ HS0
              obtain ⟨x, hx⟩ : ∃ x, x = (wB zs 9).getD 3 0 := ⟨_, rfl⟩
              rw [← hx] at hcell bx HS0
              have hc1 : wr.cell? ⟨b, off + 1, none⟩ = some (.int .i64 y) := hc0
              have a1 := and_mask1 by_
              have x1 : bits .xor .i64 x y = xorZ x y := xor_bit2 bx by_
              obtain ⟨z, hz⟩ : ∃ z, z = xorZ x y := ⟨_, rfl⟩
              rw [← hz] at x1 HS0
              have HST := Lib.hid ((show OwnK 42 .i64 w.heap.size wr.drew (.slice (some ⟨w.heap.size, 0, none⟩) 7 7) (wB zs 9) from hw).stored (wB_length zs 9) 3 z)
              have HBL := Lib.hid hbel.drew
              clear hw hbel hc0 hy hx hz bx by_
              have ix := ixR21
              go_wp2
              all_goals try (go_region; all_goals go_wp2)
              go_roundw
              have hfin : OwnK 42 .i64 w.heap.size (wr.drew.setCell ⟨w.heap.size, 3, none⟩ (.int .i64 z)) (.slice (some ⟨w.heap.size, 0, none⟩) 7 7) (wB zs (4 * 2 + (1 + 1))) := by have := HST.out.1; rw [← HS0.out] at this; exact this
              have hfin2 := below_mark HBL.out HST.out.2 (fun j e => by cases e; exact Nat.le_refl _)
              case rel => first | exact ⟨1 + 1, by omega, by go_num, hfin, hfin2⟩ | ((repeat apply Exists.intro); exact ⟨⟨1 + 1, by omega, by go_num, hfin, hfin2⟩, rfl⟩)
              case measure => simp [intOf]
            · have hcell := hw.cell (wB_length zs 10) 3 (by omega)
              have hfree := hw.free (wB_length zs 10) 3
              have hc0 := cell_belowT (HC.out 2 (by omega)) hbel
              have bx := (wB_bits HB.out 10).at 3
              have by_ := HB.out.at 2
              have HS0 := Lib.hid (show wB zs (10 + 1) = (wB zs 10).set 3 (xorZ ((wB zs 10).getD 3 0) (zs.getD 2 0)) from rfl)
              obtain ⟨y, hy⟩ : ∃ y, y = zs.getD 2 0 := ⟨_, rfl⟩
              rw [← hy] at hc0 by_ HS0
              obtain ⟨x, hx⟩ : ∃ x, x = (wB zs 10).getD 3 0 := ⟨_, rfl⟩
              rw [← hx] at hcell bx HS0
              have hc1 : wr.cell? ⟨b, off + 2, none⟩ = some (.int .i64 y) := hc0
              have a1 := and_mask1 by_
              have x1 : bits .xor .i64 x y = xorZ x y := xor_bit2 bx by_
              obtain ⟨z, hz⟩ : ∃ z, z = xorZ x y := ⟨_, rfl⟩
              rw [← hz] at x1 HS0
              have HST := Lib.hid ((show OwnK 42 .i64 w.heap.size wr.drew (.slice (some ⟨w.heap.size, 0, none⟩) 7 7) (wB zs 10) from hw).stored (wB_length zs 10) 3 z)
              have HBL := Lib.hid hbel.drew
              clear hw hbel hc0 hy hx hz bx by_
              have ix := ixR22
              go_wp2
              all_goals try (go_region; all_goals go_wp2)
              go_roundw
              have hfin : OwnK 42 .i64 w.heap.size (wr.drew.setCell ⟨w.heap.size, 3, none⟩ (.int .i64 z)) (.slice (some ⟨w.heap.size, 0, none⟩) 7 7) (wB zs (4 * 2 + (2 + 1))) := by have := HST.out.1; rw [← HS0.out] at this; exact this
              have hfin2 := below_mark HBL.out HST.out.2 (fun j e => by cases e; exact Nat.le_refl _)
              case rel => first | exact ⟨2 + 1, by omega, by go_num, hfin, hfin2⟩ | ((repeat apply Exists.intro); exact ⟨⟨2 + 1, by omega, by go_num, hfin, hfin2⟩, rfl⟩)
              case measure => simp [intOf]
            · have hcell := hw.cell (wB_length zs 11) 3 (by omega)
              have hfree := hw.free (wB_length zs 11) 3
              have hc0 := cell_belowT (HC.out 3 (by omega)) hbel
              have bx := (wB_bits HB.out 11).at 3
              have by_ := HB.out.at 3
              have HS0 := Lib.hid (show wB zs (11 + 1) = (wB zs 11).set 3 (xorZ ((wB zs 11).getD 3 0) (zs.getD 3 0)) from rfl)
              obtain ⟨y, hy⟩ : ∃ y, y = zs.getD 3 0 := ⟨_, rfl⟩
              rw [← hy] at hc0 by_ HS0
              obtain ⟨x, hx⟩ : ∃ x, x = (wB zs 11).getD 3 0 := ⟨_, rfl⟩
              rw [← hx] at hcell bx HS0
              have hc1 : wr.cell? ⟨b, off + 3, none⟩ = some (.int .i64 y) := hc0
              have a1 := and_mask1 by_
              have x1 : bits .xor .i64 x y = xorZ x y := xor_bit2 bx by_
              obtain ⟨z, hz⟩ : ∃ z, z = xorZ x y := ⟨_, rfl⟩
              rw [← hz] at x1 HS0
              have HST := Lib.hid ((show OwnK 42 .i64 w.heap.size wr.drew (.slice (some ⟨w.heap.size, 0, none⟩) 7 7) (wB zs 11) from hw).stored (wB_length zs 11) 3 z)
              have HBL := Lib.hid hbel.drew
              clear hw hbel hc0 hy hx hz bx by_
              have ix := ixR23
              go_wp2
              all_goals try (go_region; all_goals go_wp2)
              go_roundw
              have hfin : OwnK 42 .i64 w.heap.size (wr.drew.setCell ⟨w.heap.size, 3, none⟩ (.int .i64 z)) (.slice (some ⟨w.heap.size, 0, none⟩) 7 7) (wB zs (4 * 2 + (3 + 1))) := by have := HST.out.1; rw [← HS0.out] at this; exact this
              have hfin2 := below_mark HBL.out HST.out.2 (fun j e => by cases e; exact Nat.le_refl _)
              case rel => first | exact ⟨3 + 1, by omega, by go_num, hfin, hfin2⟩ | ((repeat apply Exists.intro); exact ⟨⟨3 + 1, by omega, by go_num, hfin, hfin2⟩, rfl⟩)
              case measure => simp [intOf]
            · have hw3 : OwnK 42 .i64 w.heap.size wr (.slice (some ⟨w.heap.size, 0, none⟩) 7 7) (wB zs (4 * (2 + 1))) := hw
              go_wp2
              go_roundw
              case rel => first | exact ⟨2 + 1, by omega, by go_num, hw3, hbel⟩ | ((repeat apply Exists.intro); exact ⟨⟨2 + 1, by omega, by go_num, hw3, hbel⟩, rfl⟩)
              case measure => simp [intOf]
        · have hr1 : RowK .i64 wr (.slice (some ⟨w.heap.size, 0, none⟩) 7 7) (enc zs) := by have := row_of_own hw; rw [show 4 * 3 = 12 from rfl, HE.out] at this; exact this
          have ho1 := HOW.out.belowAll hbel
          have hsz := hbel.size
          have HBL2 := Lib.hid hbel
          have HL := Lib.hid (enc_length zs)
          clear hw hbel
          go_wp2_with (at_builtin; refine wp_apps tabI _ rfl (.tmp 49) (.tmp 50) rfl base _ _ xs (enc zs) rfl rfl ho1 hr1 (by have := HL.out; omega) (by omega) ?_; intro vc wc hoc hgc hnc)
          go_ret
          exact ⟨_, rfl, hoc, (HBL2.out.mono hbase).trans (below_of_row hgc (by omega) (fun j e => (ho1.lt j e).1))⟩
end Go.Proofs.YtpfbmfnfcppjeadDoor
