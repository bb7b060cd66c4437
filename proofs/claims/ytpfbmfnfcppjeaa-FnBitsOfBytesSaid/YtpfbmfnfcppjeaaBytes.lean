/-
  Contracts of the functions that copy, compare and mark lists of bytes; the bits of bytes and the bytes of bits.
-/
import Derived.Test.YtpfbmfnfcppjeaaMake
import Derived.Test.YtpfbmfnfcppjeaaArith
import Derived.Deep.RegionLaw
import Derived.RegionTactic
namespace Go.Proofs.Ytpfbmfnfcppjeaa
open Go.RowKit

def marksB (k : Int) (n : Nat) : List Int := (marks k n).map IntKind.u8.wrap
theorem marksB_length (k : Int) (n : Nat) : (marksB k n).length = n := by simp [marksB, marks_length]
theorem marksB_get (k : Int) (n i : Nat) (h : i < n) : (marksB k n).getD i 0 = IntKind.u8.wrap (k + i) := by
  have : i < (marks k n).length := by simpa [marks_length] using h
  simp [marksB, marks, List.getD, h]
theorem marksB_step (k : Int) (j : Nat) (zs : List Int) (h : j < zs.length) : (marksB k j ++ zs.drop j).set j (IntKind.u8.wrap (k + j)) = marksB k (j + 1) ++ zs.drop (j + 1) := by
  have e : marksB k (j + 1) = marksB k j ++ [IntKind.u8.wrap (k + j)] := by simp [marksB, marks_succ]
  rw [e, List.drop_eq_getElem_cons h, List.set_append_right _ _ (by simp [marksB_length]), marksB_length, Nat.sub_self, List.set_cons_zero]
  simp

theorem ofInt_u8 (a : Nat) (ha : a < 256) : (BitVec.ofInt 8 (a : Int)).toNat = a := by
  rw [BitVec.ofInt_natCast, BitVec.toNat_ofNat]; exact Nat.mod_eq_of_lt (by omega)
theorem u8_and1 (p : Int) (h : 0 ≤ p ∧ p ≤ 255) : bits .and .u8 p 1 = p % 2 := by
  obtain ⟨a, rfl⟩ := Int.eq_ofNat_of_zero_le h.1
  show IntKind.u8.wrap ((BitVec.ofInt 8 (a : Int) &&& BitVec.ofInt 8 ((1 : Nat) : Int)).toNat : Int) = _
  rw [BitVec.toNat_and, ofInt_u8 a (by omega), ofInt_u8 1 (by omega), IntKind.wrap_u8, Nat.and_one_is_mod]
  omega
theorem u8_or1 (p b : Int) (h : 0 ≤ p ∧ p ≤ 127) (hb : b = 0 ∨ b = 1) : bits .or .u8 (p * 2) b = 2 * p + b := by
  obtain ⟨a, rfl⟩ := Int.eq_ofNat_of_zero_le h.1
  rcases hb with rfl | rfl
  · show IntKind.u8.wrap ((BitVec.ofInt 8 ((a * 2 : Nat) : Int) ||| BitVec.ofInt 8 ((0 : Nat) : Int)).toNat : Int) = _
    rw [BitVec.toNat_or, ofInt_u8 _ (by omega), ofInt_u8 0 (by omega), IntKind.wrap_u8, Nat.or_zero]
    omega
  · show IntKind.u8.wrap ((BitVec.ofInt 8 ((a * 2 : Nat) : Int) ||| BitVec.ofInt 8 ((1 : Nat) : Int)).toNat : Int) = _
    rw [BitVec.toNat_or, ofInt_u8 _ (by omega), ofInt_u8 1 (by omega), IntKind.wrap_u8]
    have : a * 2 ||| 1 = a * 2 + 1 := by
      have := Nat.two_pow_add_eq_or_of_lt (b := 1) (i := 1) (by omega) a
      rw [Nat.mul_comm] at this; simpa using this.symm
    rw [this]
    omega

/-- The bits of a byte, the highest first. -/
def bits8 (p : Int) : List Int := [p / 128 % 2, p / 64 % 2, p / 32 % 2, p / 16 % 2, p / 8 % 2, p / 4 % 2, p / 2 % 2, p % 2]
def bitsL (zs : List Int) : List Int := zs.flatMap bits8
def bitsOf (zs : List Int) : List Int := if zs.length ≤ 128 then bitsL zs else []
theorem bits8_length (p : Int) : (bits8 p).length = 8 := rfl
theorem bitsL_length : ∀ zs : List Int, (bitsL zs).length = 8 * zs.length
  | [] => rfl
  | z :: zs => by rw [bitsL, List.flatMap_cons, List.length_append, bits8_length, ← bitsL, bitsL_length zs, List.length_cons]; omega
theorem bitsL_step (zs : List Int) (k : Nat) (hk : k < zs.length) : bitsL (zs.take (k + 1)) = bitsL (zs.take k) ++ bits8 (zs.getD k 0) := by
  rw [take_succ' zs 0 k hk]; simp [bitsL]

set_option maxHeartbeats 1000000 in
theorem appendTo_any (p : Int) (v : Value) (xs : List Int) (B : Nat) (w : World) (h : OwnI B w v xs) (hB : B ≤ w.heap.size) (hp : 0 ≤ p ∧ p ≤ 255) (hl : xs.length ≤ 100000) :
    Calls Try.prog 14 #[.int .u8 p, v] w fun e w' => ∃ r, e = .returned r ∧ OwnI B w' r (xs ++ bits8 p) ∧ Below B w w' := by
  go_enter Try.func14, Try.ntmps14
  go_wp2_with fail
  go_loopw [1, 5] (fun r i wr => ∃ j : Nat, j ≤ 8 ∧ i = .int .i64 (7 - (j : Int)) ∧ OwnI B wr r (xs ++ (bits8 p).take j) ∧ Below B w wr) (fun _ i _ => (intOf i + 1).toNat)
  case atStart => exact ⟨0, by omega, rfl, by simpa using h, Below.refl _ _⟩
  case round =>
    obtain ⟨j, hj, rfl, hown, hbel⟩ := hrel
    have hsz := Nat.le_trans hB hbel.size
    have hj8 : j = 0 ∨ j = 1 ∨ j = 2 ∨ j = 3 ∨ j = 4 ∨ j = 5 ∨ j = 6 ∨ j = 7 ∨ j = 8 := by omega
    rcases hj8 with rfl | rfl | rfl | rfl | rfl | rfl | rfl | rfl | rfl
    · have hv : wrap64 (bits .and .u8 (p / 128) 1) = p / 128 % 2 := by rw [u8_and1 _ (by omega)]; exact IntWalk.wrap64_in _ ⟨by omega, by omega⟩
      have HS := Lib.hid (show (bits8 p).take 1 = (bits8 p).take 0 ++ [p / 128 % 2] from rfl)
      go_wp2_with (at_builtin; refine wp_app1 tabI wr _ (p / 128 % 2) rfl rfl rfl rfl rfl (.tmp 10) (.tmp 16) rfl B u1 (xs ++ (bits8 p).take 0) rfl 1 rfl hown (by simp [bits8]; omega) hsz ?_; intro v' w' hown' hgrow hnew)
      clear hv
      go_roundw
      case rel => exact ⟨1, by omega, rfl, by rw [HS.out, ← List.append_assoc]; exact hown', hbel.trans (below_of_row hgrow hsz (fun k e => (hown.lt k e).1))⟩
      case measure => simp [intOf]
    · have hv : wrap64 (bits .and .u8 (p / 64) 1) = p / 64 % 2 := by rw [u8_and1 _ (by omega)]; exact IntWalk.wrap64_in _ ⟨by omega, by omega⟩
      have HS := Lib.hid (show (bits8 p).take 2 = (bits8 p).take 1 ++ [p / 64 % 2] from rfl)
      go_wp2_with (at_builtin; refine wp_app1 tabI wr _ (p / 64 % 2) rfl rfl rfl rfl rfl (.tmp 10) (.tmp 16) rfl B u1 (xs ++ (bits8 p).take 1) rfl 1 rfl hown (by simp [bits8]; omega) hsz ?_; intro v' w' hown' hgrow hnew)
      clear hv
      go_roundw
      case rel => exact ⟨2, by omega, rfl, by rw [HS.out, ← List.append_assoc]; exact hown', hbel.trans (below_of_row hgrow hsz (fun k e => (hown.lt k e).1))⟩
      case measure => simp [intOf]
    · have hv : wrap64 (bits .and .u8 (p / 32) 1) = p / 32 % 2 := by rw [u8_and1 _ (by omega)]; exact IntWalk.wrap64_in _ ⟨by omega, by omega⟩
      have HS := Lib.hid (show (bits8 p).take 3 = (bits8 p).take 2 ++ [p / 32 % 2] from rfl)
      go_wp2_with (at_builtin; refine wp_app1 tabI wr _ (p / 32 % 2) rfl rfl rfl rfl rfl (.tmp 10) (.tmp 16) rfl B u1 (xs ++ (bits8 p).take 2) rfl 1 rfl hown (by simp [bits8]; omega) hsz ?_; intro v' w' hown' hgrow hnew)
      clear hv
      go_roundw
      case rel => exact ⟨3, by omega, rfl, by rw [HS.out, ← List.append_assoc]; exact hown', hbel.trans (below_of_row hgrow hsz (fun k e => (hown.lt k e).1))⟩
      case measure => simp [intOf]
    · have hv : wrap64 (bits .and .u8 (p / 16) 1) = p / 16 % 2 := by rw [u8_and1 _ (by omega)]; exact IntWalk.wrap64_in _ ⟨by omega, by omega⟩
      have HS := Lib.hid (show (bits8 p).take 4 = (bits8 p).take 3 ++ [p / 16 % 2] from rfl)
      go_wp2_with (at_builtin; refine wp_app1 tabI wr _ (p / 16 % 2) rfl rfl rfl rfl rfl (.tmp 10) (.tmp 16) rfl B u1 (xs ++ (bits8 p).take 3) rfl 1 rfl hown (by simp [bits8]; omega) hsz ?_; intro v' w' hown' hgrow hnew)
      clear hv
      go_roundw
      case rel => exact ⟨4, by omega, rfl, by rw [HS.out, ← List.append_assoc]; exact hown', hbel.trans (below_of_row hgrow hsz (fun k e => (hown.lt k e).1))⟩
      case measure => simp [intOf]
    · have hv : wrap64 (bits .and .u8 (p / 8) 1) = p / 8 % 2 := by rw [u8_and1 _ (by omega)]; exact IntWalk.wrap64_in _ ⟨by omega, by omega⟩
      have HS := Lib.hid (show (bits8 p).take 5 = (bits8 p).take 4 ++ [p / 8 % 2] from rfl)
      go_wp2_with (at_builtin; refine wp_app1 tabI wr _ (p / 8 % 2) rfl rfl rfl rfl rfl (.tmp 10) (.tmp 16) rfl B u1 (xs ++ (bits8 p).take 4) rfl 1 rfl hown (by simp [bits8]; omega) hsz ?_; intro v' w' hown' hgrow hnew)
      clear hv
      go_roundw
      case rel => exact ⟨5, by omega, rfl, by rw [HS.out, ← List.append_assoc]; exact hown', hbel.trans (below_of_row hgrow hsz (fun k e => (hown.lt k e).1))⟩
      case measure => simp [intOf]
    · have hv : wrap64 (bits .and .u8 (p / 4) 1) = p / 4 % 2 := by rw [u8_and1 _ (by omega)]; exact IntWalk.wrap64_in _ ⟨by omega, by omega⟩
      have HS := Lib.hid (show (bits8 p).take 6 = (bits8 p).take 5 ++ [p / 4 % 2] from rfl)
      go_wp2_with (at_builtin; refine wp_app1 tabI wr _ (p / 4 % 2) rfl rfl rfl rfl rfl (.tmp 10) (.tmp 16) rfl B u1 (xs ++ (bits8 p).take 5) rfl 1 rfl hown (by simp [bits8]; omega) hsz ?_; intro v' w' hown' hgrow hnew)
      clear hv
      go_roundw
      case rel => exact ⟨6, by omega, rfl, by rw [HS.out, ← List.append_assoc]; exact hown', hbel.trans (below_of_row hgrow hsz (fun k e => (hown.lt k e).1))⟩
      case measure => simp [intOf]
    · have hv : wrap64 (bits .and .u8 (p / 2) 1) = p / 2 % 2 := by rw [u8_and1 _ (by omega)]; exact IntWalk.wrap64_in _ ⟨by omega, by omega⟩
      have HS := Lib.hid (show (bits8 p).take 7 = (bits8 p).take 6 ++ [p / 2 % 2] from rfl)
      go_wp2_with (at_builtin; refine wp_app1 tabI wr _ (p / 2 % 2) rfl rfl rfl rfl rfl (.tmp 10) (.tmp 16) rfl B u1 (xs ++ (bits8 p).take 6) rfl 1 rfl hown (by simp [bits8]; omega) hsz ?_; intro v' w' hown' hgrow hnew)
      clear hv
      go_roundw
      case rel => exact ⟨7, by omega, rfl, by rw [HS.out, ← List.append_assoc]; exact hown', hbel.trans (below_of_row hgrow hsz (fun k e => (hown.lt k e).1))⟩
      case measure => simp [intOf]
    · have hv : wrap64 (bits .and .u8 (p) 1) = p % 2 := by rw [u8_and1 _ (by omega)]; exact IntWalk.wrap64_in _ ⟨by omega, by omega⟩
      have HS := Lib.hid (show (bits8 p).take 8 = (bits8 p).take 7 ++ [p % 2] from rfl)
      go_wp2_with (at_builtin; refine wp_app1 tabI wr _ (p % 2) rfl rfl rfl rfl rfl (.tmp 10) (.tmp 16) rfl B u1 (xs ++ (bits8 p).take 7) rfl 1 rfl hown (by simp [bits8]; omega) hsz ?_; intro v' w' hown' hgrow hnew)
      clear hv
      go_roundw
      case rel => exact ⟨8, by omega, rfl, by rw [HS.out, ← List.append_assoc]; exact hown', hbel.trans (below_of_row hgrow hsz (fun k e => (hown.lt k e).1))⟩
      case measure => simp [intOf]
    · go_wp2
      go_ret
      exact ⟨_, rfl, hown, hbel⟩
theorem ownK_nil (e : Nat) (k : IntKind) (B : Nat) (w : World) : OwnK e k B w (.slice none 0 0) [] := World.ownsRow_nil _ _ _ _
theorem newSlice (e : Nat) (k : IntKind) (B : Nat) (w : World) (hB : B ≤ w.heap.size) : OwnK e k B (w.alloc (.cells #[] e)) (.slice (some ⟨w.heap.size, 0, none⟩) 0 0) [] := World.ownsRow_made w #[] 0 hB (by decide) rfl
/-- All are bytes. -/
def Byt (zs : List Int) : Prop := ∀ i, i < zs.length → 0 ≤ zs.getD i 0 ∧ zs.getD i 0 ≤ 255

set_option maxHeartbeats 1000000 in
theorem BitsOfBytes_any (zs : List Int) (v : Value) (w : World) (h : RowK .u8 w v zs) (hz : Byt zs) :
    Calls Try.prog 5 #[v] w fun e w' => ∃ r, e = .returned r ∧ OwnI w.heap.size w' r (bitsOf zs) ∧ Below w.heap.size w w' := by
  have hl := h.len
  obtain ⟨a, cap, rfl, _, _, _, hc⟩ := h
  by_cases hlen : 128 < zs.length
  · go_enter Try.func5, Try.ntmps5
    go_wp2
    go_ret
    exact ⟨_, rfl, by rw [bitsOf, if_neg (by omega)]; exact ownK_nil _ _ _ _, Below.refl _ _⟩
  · have hHZ := Lib.hid hz
    clear hz
    go_enter Try.func5, Try.ntmps5
    go_wp2_with (at_make; refine wp_make0 tabI _ rfl _ _ rfl (8 * zs.length) rfl rfl (by omega) ?_; intro w1 hown hbel hsz)
    go_loopw [3, 15] (fun r i wr => ∃ k : Nat, k ≤ zs.length ∧ i = .int .i64 k ∧ OwnI w.heap.size wr r (bitsL (zs.take k)) ∧ Below w.heap.size w wr) (fun _ i _ => zs.length - (intOf i).toNat)
    case atStart => exact ⟨0, Nat.zero_le _, rfl, by simpa [bitsL] using hown, hbel⟩
    case round =>
      obtain ⟨k, hk, rfl, hown, hbel⟩ := hrel
      by_cases hlt : k < zs.length
      · obtain ⟨b, off, rfl, hcc⟩ := hc (by omega)
        have hx0 := hcc k hlt
        have hb := World.block_lt_of_cell? w _ hx0
        have hx := (hbel.cell (p := ⟨b, off + k, none⟩) hb).trans hx0
        have hr := hHZ.out k hlt
        obtain ⟨z, hzz⟩ : ∃ z, z = zs.getD k 0 := ⟨_, rfl⟩
        have HE := Lib.hid (bitsL_step zs k hlt)
        rw [← hzz] at hx hr HE
        have hll : (bitsL (zs.take k)).length ≤ 100000 := by rw [bitsL_length]; simp; omega
        clear hx0 hcc hzz
        have hsz := hbel.size
        go_wp2_with fail
        refine (appendTo_any z _ _ _ _ hown hsz hr hll).mono ?_
        rintro e w2 ⟨r, rfl, hown2, hbel2⟩
        rw [← HE.out] at hown2
        go_wp2
        go_roundw
        case rel => exact ⟨k + 1, by omega, by go_num, hown2, hbel.trans hbel2⟩
        case measure => simp [intOf]; omega
      · obtain rfl : k = zs.length := by omega
        have HE := Lib.hid (show bitsL (zs.take zs.length) = bitsOf zs by rw [List.take_length, bitsOf, if_pos (by omega)])
        go_wp2
        go_ret
        exact ⟨_, rfl, by have := hown; rw [HE.out] at this; exact this, hbel⟩
set_option maxHeartbeats 1000000 in
theorem specBitsOfBytes_any (zs : List Int) (v : Value) (w : World) (h : RowK .u8 w v zs) (hz : Byt zs) :
    Calls Try.prog 7 #[v] w fun e w' => ∃ r, e = .returned r ∧ OwnI w.heap.size w' r (bitsOf zs) ∧ Below w.heap.size w w' := by
  have hl := h.len
  have hmt := newSlice 3 .i64 w.heap.size w (Nat.le_refl _)
  have hb0 : Below w.heap.size w (w.alloc (.cells #[] 3)) := (Below.refl _ w).alloc (Nat.le_refl _) _
  obtain ⟨a, cap, rfl, _, _, _, hc⟩ := h
  have hHZ := Lib.hid hz
  clear hz
  go_enter Try.func7, Try.ntmps7
  go_wp2_with fail
  go_loopw [3, 4] (fun r i wr => ∃ k : Nat, k ≤ zs.length ∧ (k = 0 ∨ zs.length ≤ 128) ∧ i = .int .i64 k ∧ OwnI w.heap.size wr r (bitsL (zs.take k)) ∧ Below w.heap.size w wr) (fun _ i _ => zs.length - (intOf i).toNat)
  case atStart => exact ⟨0, Nat.zero_le _, .inl rfl, rfl, by simpa [bitsL] using hmt, hb0⟩
  case round =>
    obtain ⟨k, hk, hk1, rfl, hown, hbel⟩ := hrel
    by_cases hlen : zs.length ≤ 128
    · by_cases hlt : k < zs.length
      · obtain ⟨b, off, rfl, hcc⟩ := hc (by omega)
        have hx0 := hcc k hlt
        have hb := World.block_lt_of_cell? w _ hx0
        have hr := hHZ.out k hlt
        obtain ⟨z, hzz⟩ : ∃ z, z = zs.getD k 0 := ⟨_, rfl⟩
        have HE := Lib.hid (bitsL_step zs k hlt)
        rw [← hzz] at hx0 hr HE
        have hll : (bitsL (zs.take k)).length ≤ 100000 := by rw [bitsL_length]; simp; omega
        clear hcc hzz
        have hsz := hbel.size
        go_wp2_with fail
        go_loopw [3, 5] (fun r i wr => ∃ j : Nat, j ≤ 8 ∧ i = .int .i64 (7 - (j : Int)) ∧ OwnI w.heap.size wr r (bitsL (zs.take k) ++ (bits8 z).take j) ∧ Below w.heap.size w wr) (fun _ i _ => (intOf i + 1).toNat)
        case atStart => exact ⟨0, by omega, rfl, by simpa using hown, hbel⟩
        case round =>
          clear hown hbel
          obtain ⟨j, hj, rfl, hown, hbel⟩ := hrel
          have hsz := hbel.size
          have hx := (hbel.cell (p := ⟨b, off + k, none⟩) hb).trans hx0
          have hj8 : j = 0 ∨ j = 1 ∨ j = 2 ∨ j = 3 ∨ j = 4 ∨ j = 5 ∨ j = 6 ∨ j = 7 ∨ j = 8 := by omega
          rcases hj8 with rfl | rfl | rfl | rfl | rfl | rfl | rfl | rfl | rfl
          · have hv : wrap64 (z / 128) = z / 128 := IntWalk.wrap64_in _ ⟨by omega, by omega⟩
            have hv2 : (z / 128).tmod 2 = z / 128 % 2 := Int.tmod_eq_emod_of_nonneg (by omega)
            have HS := Lib.hid (show (bits8 z).take 1 = (bits8 z).take 0 ++ [z / 128 % 2] from rfl)
            go_wp2_with (at_builtin; refine wp_app1 tabI wr _ (z / 128 % 2) rfl rfl rfl rfl rfl (.tmp 22) (.tmp 31) rfl w.heap.size u3 (bitsL (zs.take k) ++ (bits8 z).take 0) rfl 1 rfl hown (by simp [bits8]; omega) hsz ?_; intro v' w' hown' hgrow hnew)
            clear hv hv2
            go_roundw
            case rel => exact ⟨1, by omega, rfl, by rw [HS.out, ← List.append_assoc]; exact hown', hbel.trans (below_of_row hgrow hsz (fun k e => (hown.lt k e).1))⟩
            case measure => simp [intOf]
          · have hv : wrap64 (z / 64) = z / 64 := IntWalk.wrap64_in _ ⟨by omega, by omega⟩
            have hv2 : (z / 64).tmod 2 = z / 64 % 2 := Int.tmod_eq_emod_of_nonneg (by omega)
            have HS := Lib.hid (show (bits8 z).take 2 = (bits8 z).take 1 ++ [z / 64 % 2] from rfl)
            go_wp2_with (at_builtin; refine wp_app1 tabI wr _ (z / 64 % 2) rfl rfl rfl rfl rfl (.tmp 22) (.tmp 31) rfl w.heap.size u3 (bitsL (zs.take k) ++ (bits8 z).take 1) rfl 1 rfl hown (by simp [bits8]; omega) hsz ?_; intro v' w' hown' hgrow hnew)
            clear hv hv2
            go_roundw
            case rel => exact ⟨2, by omega, rfl, by rw [HS.out, ← List.append_assoc]; exact hown', hbel.trans (below_of_row hgrow hsz (fun k e => (hown.lt k e).1))⟩
            case measure => simp [intOf]
          · have hv : wrap64 (z / 32) = z / 32 := IntWalk.wrap64_in _ ⟨by omega, by omega⟩
            have hv2 : (z / 32).tmod 2 = z / 32 % 2 := Int.tmod_eq_emod_of_nonneg (by omega)
            have HS := Lib.hid (show (bits8 z).take 3 = (bits8 z).take 2 ++ [z / 32 % 2] from rfl)
            go_wp2_with (at_builtin; refine wp_app1 tabI wr _ (z / 32 % 2) rfl rfl rfl rfl rfl (.tmp 22) (.tmp 31) rfl w.heap.size u3 (bitsL (zs.take k) ++ (bits8 z).take 2) rfl 1 rfl hown (by simp [bits8]; omega) hsz ?_; intro v' w' hown' hgrow hnew)
            clear hv hv2
            go_roundw
            case rel => exact ⟨3, by omega, rfl, by rw [HS.out, ← List.append_assoc]; exact hown', hbel.trans (below_of_row hgrow hsz (fun k e => (hown.lt k e).1))⟩
            case measure => simp [intOf]
          · have hv : wrap64 (z / 16) = z / 16 := IntWalk.wrap64_in _ ⟨by omega, by omega⟩
            have hv2 : (z / 16).tmod 2 = z / 16 % 2 := Int.tmod_eq_emod_of_nonneg (by omega)
            have HS := Lib.hid (show (bits8 z).take 4 = (bits8 z).take 3 ++ [z / 16 % 2] from rfl)
            go_wp2_with (at_builtin; refine wp_app1 tabI wr _ (z / 16 % 2) rfl rfl rfl rfl rfl (.tmp 22) (.tmp 31) rfl w.heap.size u3 (bitsL (zs.take k) ++ (bits8 z).take 3) rfl 1 rfl hown (by simp [bits8]; omega) hsz ?_; intro v' w' hown' hgrow hnew)
            clear hv hv2
            go_roundw
            case rel => exact ⟨4, by omega, rfl, by rw [HS.out, ← List.append_assoc]; exact hown', hbel.trans (below_of_row hgrow hsz (fun k e => (hown.lt k e).1))⟩
            case measure => simp [intOf]
          · have hv : wrap64 (z / 8) = z / 8 := IntWalk.wrap64_in _ ⟨by omega, by omega⟩
            have hv2 : (z / 8).tmod 2 = z / 8 % 2 := Int.tmod_eq_emod_of_nonneg (by omega)
            have HS := Lib.hid (show (bits8 z).take 5 = (bits8 z).take 4 ++ [z / 8 % 2] from rfl)
            go_wp2_with (at_builtin; refine wp_app1 tabI wr _ (z / 8 % 2) rfl rfl rfl rfl rfl (.tmp 22) (.tmp 31) rfl w.heap.size u3 (bitsL (zs.take k) ++ (bits8 z).take 4) rfl 1 rfl hown (by simp [bits8]; omega) hsz ?_; intro v' w' hown' hgrow hnew)
            clear hv hv2
            go_roundw
            case rel => exact ⟨5, by omega, rfl, by rw [HS.out, ← List.append_assoc]; exact hown', hbel.trans (below_of_row hgrow hsz (fun k e => (hown.lt k e).1))⟩
            case measure => simp [intOf]
          · have hv : wrap64 (z / 4) = z / 4 := IntWalk.wrap64_in _ ⟨by omega, by omega⟩
            have hv2 : (z / 4).tmod 2 = z / 4 % 2 := Int.tmod_eq_emod_of_nonneg (by omega)
            have HS := Lib.hid (show (bits8 z).take 6 = (bits8 z).take 5 ++ [z / 4 % 2] from rfl)
            go_wp2_with (at_builtin; refine wp_app1 tabI wr _ (z / 4 % 2) rfl rfl rfl rfl rfl (.tmp 22) (.tmp 31) rfl w.heap.size u3 (bitsL (zs.take k) ++ (bits8 z).take 5) rfl 1 rfl hown (by simp [bits8]; omega) hsz ?_; intro v' w' hown' hgrow hnew)
            clear hv hv2
            go_roundw
            case rel => exact ⟨6, by omega, rfl, by rw [HS.out, ← List.append_assoc]; exact hown', hbel.trans (below_of_row hgrow hsz (fun k e => (hown.lt k e).1))⟩
            case measure => simp [intOf]
          · have hv : wrap64 (z / 2) = z / 2 := IntWalk.wrap64_in _ ⟨by omega, by omega⟩
            have hv2 : (z / 2).tmod 2 = z / 2 % 2 := Int.tmod_eq_emod_of_nonneg (by omega)
            have HS := Lib.hid (show (bits8 z).take 7 = (bits8 z).take 6 ++ [z / 2 % 2] from rfl)
            go_wp2_with (at_builtin; refine wp_app1 tabI wr _ (z / 2 % 2) rfl rfl rfl rfl rfl (.tmp 22) (.tmp 31) rfl w.heap.size u3 (bitsL (zs.take k) ++ (bits8 z).take 6) rfl 1 rfl hown (by simp [bits8]; omega) hsz ?_; intro v' w' hown' hgrow hnew)
            clear hv hv2
            go_roundw
            case rel => exact ⟨7, by omega, rfl, by rw [HS.out, ← List.append_assoc]; exact hown', hbel.trans (below_of_row hgrow hsz (fun k e => (hown.lt k e).1))⟩
            case measure => simp [intOf]
          · have hv : wrap64 (z) = z := IntWalk.wrap64_in _ ⟨by omega, by omega⟩
            have hv2 : (z).tmod 2 = z % 2 := Int.tmod_eq_emod_of_nonneg (by omega)
            have HS := Lib.hid (show (bits8 z).take 8 = (bits8 z).take 7 ++ [z % 2] from rfl)
            go_wp2_with (at_builtin; refine wp_app1 tabI wr _ (z % 2) rfl rfl rfl rfl rfl (.tmp 22) (.tmp 31) rfl w.heap.size u3 (bitsL (zs.take k) ++ (bits8 z).take 7) rfl 1 rfl hown (by simp [bits8]; omega) hsz ?_; intro v' w' hown' hgrow hnew)
            clear hv hv2
            go_roundw
            case rel => exact ⟨8, by omega, rfl, by rw [HS.out, ← List.append_assoc]; exact hown', hbel.trans (below_of_row hgrow hsz (fun k e => (hown.lt k e).1))⟩
            case measure => simp [intOf]
          · have hown2 : OwnI w.heap.size wr u3 (bitsL (zs.take (k + 1))) := by rw [HE.out]; exact hown
            go_wp2
            go_roundw
            case rel => exact ⟨k + 1, by omega, .inr hlen, by go_num, hown2, hbel⟩
            case measure => simp [intOf]; omega
      · obtain rfl : k = zs.length := by omega
        have HE := Lib.hid (show bitsL (zs.take zs.length) = bitsOf zs by rw [List.take_length, bitsOf, if_pos (by omega)])
        go_wp2
        go_ret
        exact ⟨_, rfl, by have := hown; rw [HE.out] at this; exact this, hbel⟩
    · obtain rfl : k = 0 := by omega
      have HE := Lib.hid (show bitsL (zs.take 0) = bitsOf zs by rw [bitsOf, if_neg (by omega)]; rfl)
      have hlt : (0 : Int) < (zs.length : Int) := by omega
      go_wp2
      go_ret
      exact ⟨_, rfl, by have := hown; rw [HE.out] at this; exact this, hbel⟩
theorem push_any (p b : Int) (B : Nat) (w : World) (hp : 0 ≤ p ∧ p ≤ 127) (hc : w.cell? ⟨B, 0, none⟩ = some (.int .u8 p)) (hf : w.frozen? ⟨B, 0, none⟩ = false) (hb : b = 0 ∨ b = 1) :
    Calls Try.prog 17 #[.pointer (some ⟨B, 0, none⟩), .int .i64 b] w fun e w' => ∃ r, e = .returned r ∧ w' = w.setCell ⟨B, 0, none⟩ (.int .u8 (2 * p + b)) := by
  have hv := u8_or1 p b hp hb
  go_enter Try.func17, Try.ntmps17
  go_wp2
  refine bodyPost_end (results_none rfl _ _ _) rfl ?_
  exact ⟨_, rfl, rfl⟩
end Go.Proofs.Ytpfbmfnfcppjeaa
