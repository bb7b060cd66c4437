/-
  Contracts of the functions that copy, compare and mark lists of bytes; the bits of bytes and the bytes of bits.
-/
import Derived.Test.YtjlocicelnndhaaMake
import Derived.Test.YtjlocicelnndhaaArith
import Derived.Deep.RegionLaw
import Derived.RegionTactic
namespace Go.Proofs.Ytjlocicelnndhaa
open Go.RowKit

def marksB (k : Int) (n : Nat) : List Int := (marks k n).map IntKind.u8.wrap
theorem marksB_length (k : Int) (n : Nat) : (marksB k n).length = n := by simp [marksB, marks_length]
theorem marksB_get (k : Int) (n i : Nat) (h : i < n) : (marksB k n).getD i 0 = IntKind.u8.wrap (k + i) := by
  have : i < (marks k n).length := by simpa [marks_length] using h
  simp [marksB, marks, List.getD, h]
theorem marksB_step (k : Int) (j : Nat) (zs : List Int) (h : j < zs.length) : (marksB k j ++ zs.drop j).set j (IntKind.u8.wrap (k + j)) = marksB k (j + 1) ++ zs.drop (j + 1) := by
  have e : marksB k (j + 1) = marksB k j ++ [IntKind.u8.wrap (k + j)] := by simp [marksB, marks_succ]
  rw [e, List.drop_eq_getElem_cons h, List.set_append_right _ _ (by simp [marksB_length]), marksB_length, Nat.sub_self, List.set_cons_zero]
  simp
set_option maxHeartbeats 400000 in
theorem toByteS_any (zs : List Int) (v : Value) (w : World) (h : RowK .u8 w v zs) (hz : zs.length ≤ 1000000000) :
    Calls Try.prog 21 #[v] w fun e w' => ∃ cap, e = .returned (.slice (some ⟨w.heap.size, 0, none⟩) zs.length cap) ∧ OwnB w.heap.size w' (.slice (some ⟨w.heap.size, 0, none⟩) zs.length cap) zs ∧ Below w.heap.size w w' ∧ w.heap.size < w'.heap.size := by
  obtain ⟨a, cap, rfl, _, _, _, hc⟩ := h
  obtain ⟨n, hn⟩ : ∃ n, n = zs.length := ⟨_, rfl⟩
  rw [← hn] at hz hc ⊢
  have HN := Lib.hid hn.symm
  clear hn
  go_enter Try.func21, Try.ntmps21
  go_wp2_with (at_make; refine wp_make tabB _ rfl _ _ rfl n rfl rfl (by omega) ?_; intro w1 hown hbel hsz)
  go_loopw [4] (fun i wr => ∃ k : Nat, k ≤ n ∧ i = .int .i64 k ∧ OwnB w.heap.size wr (.slice (some ⟨w.heap.size, 0, none⟩) n n) (zs.take k ++ List.replicate (n - k) 0) ∧ Below w.heap.size w wr ∧ w.heap.size < wr.heap.size) (fun i _ => n - (intOf i).toNat)
  case atStart => exact ⟨0, Nat.zero_le _, rfl, by simpa using hown, hbel, hsz⟩
  case round =>
    obtain ⟨k, hk, rfl, hown, hbel, hsz⟩ := hrel
    have HL := Lib.hid (show (zs.take k ++ List.replicate (n - k) 0).length = n by simp [HN.out]; omega)
    by_cases hlt : k < n
    · obtain ⟨b, off, rfl, hcc⟩ := hc (by omega)
      have hx0 := hcc k hlt
      have hb := World.block_lt_of_cell? w _ hx0
      have hx := (hbel.cell (p := ⟨b, off + k, none⟩) hb).trans hx0
      clear hx0 hcc
      have hd := hown.cell HL.out k hlt
      have hf := hown.free HL.out k
      have HS := Lib.hid (hown.stored HL.out k (zs.getD k 0))
      have HE := Lib.hid (copy_step zs k n HN.out.symm hlt)
      clear hown
      go_wp2
      go_roundw
      case rel => exact ⟨k + 1, by omega, by go_num, by have := HS.out.1; rw [HE.out] at this; exact this, hbel.trans (below_of_row HS.out.2 (by omega) (by simp)), by simpa using hsz⟩
      case measure => simp [intOf]; omega
    · obtain rfl : k = n := by omega
      have HE := Lib.hid (show zs.take k ++ List.replicate (k - k) 0 = zs by have := HN.out; rw [List.take_of_length_le (by omega)]; simp)
      go_wp2
      go_ret
      exact ⟨_, rfl, by rw [HE.out] at hown; exact hown, hbel, hsz⟩
set_option maxHeartbeats 400000 in
theorem eqByteS_any (xs ys : List Int) (v u : Value) (w : World) (hx : RowK .u8 w v xs) (hy : RowK .u8 w u ys) :
    Calls Try.prog 23 #[v, u] w fun e w' => e = .returned (.bool (xs == ys)) ∧ Quiet w w' := by
  have hlx := hx.len
  have hly := hy.len
  obtain ⟨a, cap, rfl, _, _, _, hc⟩ := hx
  obtain ⟨b, cbp, rfl, _, _, _, hd⟩ := hy
  by_cases hne : xs.length = ys.length
  · have HN := Lib.hid hne
    clear hne
    have ht : ((xs.length : Int) != (ys.length : Int)) = false := by have := HN.out; simp; omega
    go_enter Try.func23, Try.ntmps23
    go_wp2
    go_loopw [5] (fun i wr => ∃ k n : Nat, k ≤ xs.length ∧ i = .int .i64 k ∧ xs.take k = ys.take k ∧ wr = w.drewN n) (fun i _ => xs.length - (intOf i).toNat)
    case atStart => exact ⟨0, 0, Nat.zero_le _, rfl, by simp, rfl⟩
    case round =>
      obtain ⟨k, n, hk, rfl, hb, rfl⟩ := hrel
      have Hb := Lib.hid hb
      clear hb
      by_cases hlt : k < xs.length
      · have hlt2 : k < ys.length := by have := HN.out; omega
        obtain ⟨b1, off1, rfl, hcc⟩ := hc (by omega)
        obtain ⟨b2, off2, rfl, hdd⟩ := hd (by omega)
        have hx := hcc k hlt
        have hy := hdd k hlt2
        by_cases heq : xs[k] = ys[k]
        · have HE := Lib.hid heq
          have hbe : (xs[k] != ys[k]) = false := by simp [heq]
          clear heq
          go_wp2
          go_quiet (fail)
          go_wp2
          go_roundw
          case rel => exact ⟨k + 1, _, by omega, by go_num, take_eq_succ xs ys k hlt hlt2 Hb.out HE.out, (by first | rfl | exact World.drewN_drewN ..)⟩
          case measure => simp [intOf]; omega
        · have hbe : (xs[k] != ys[k]) = true := by simp [heq]
          go_wp2
          go_quiet (fail)
          go_wp2
          go_ret
          refine ⟨ret_bool ?_, (by first | exact Quiet.same _ | exact Quiet.n _ _ | exact Quiet.nn _ _ _ | assumption)⟩
          symm
          rw [beq_eq_false_iff_ne]
          intro h; subst h; exact heq rfl
      · obtain rfl : k = xs.length := by omega
        go_wp2
        go_ret
        refine ⟨ret_bool ?_, (by first | exact Quiet.same _ | exact Quiet.n _ _ | exact Quiet.nn _ _ _ | assumption)⟩
        symm
        rw [beq_iff_eq]
        have := Hb.out
        rw [List.take_length, HN.out, List.take_length] at this
        exact this
  · have ht : ((xs.length : Int) != (ys.length : Int)) = true := by simp; omega
    go_enter Try.func23, Try.ntmps23
    go_wp2
    go_ret
    refine ⟨ret_bool ?_, (by first | exact Quiet.same _ | exact Quiet.n _ _ | exact Quiet.nn _ _ _ | assumption)⟩
    symm
    rw [beq_eq_false_iff_ne]
    intro h; subst h; exact hne rfl
set_option maxHeartbeats 400000 in
theorem markByteS_any (zs : List Int) (k : Int) (v : Value) (B : Nat) (w : World) (h : OwnB B w v zs) (hk : 0 ≤ k) (hk2 : k ≤ 4611686018427387904) (hz : zs.length ≤ 1000000000) :
    Calls Try.prog 24 #[v, .int .i64 k] w fun e w' => e = .returned (.int .i64 (k + zs.length)) ∧ OwnB B w' v (marksB k zs.length) ∧ w.grownBy w' v.ownBlock := by
  rcases h.form with ⟨rfl, rfl⟩ | ⟨g, cap, rfl, hcap⟩
  · go_enter Try.func24, Try.ntmps24
    go_wp2
    go_rounds 1
    go_ret
    exact ⟨ret_int (by simp), h, World.grownBy.refl _ _⟩
  · obtain ⟨n, hn⟩ : ∃ n, n = zs.length := ⟨_, rfl⟩
    rw [← hn] at h hz hcap ⊢
    have HN := Lib.hid hn.symm
    clear hn
    go_enter Try.func24, Try.ntmps24
    go_wp2
    go_loopw [1, 5] (fun m i wr => ∃ j : Nat, j ≤ n ∧ i = .int .i64 j ∧ m = .int .i64 (k + j) ∧ OwnB B wr (.slice (some ⟨g, 0, none⟩) n cap) (marksB k j ++ zs.drop j) ∧ w.grownBy wr (some g)) (fun _ i _ => n - (intOf i).toNat)
    case atStart => exact ⟨0, Nat.zero_le _, rfl, by go_num, by simpa [marksB, marks] using h, World.grownBy.refl _ _⟩
    case round =>
      obtain ⟨j, hj, rfl, rfl, hown, hg⟩ := hrel
      have hlen : (marksB k j ++ zs.drop j).length = n := by simp [marksB_length, HN.out]; omega
      have HL := Lib.hid hlen
      clear hlen
      by_cases hlt : j < n
      · have hx := hown.cell HL.out j hlt
        have hf := hown.free HL.out j
        have hst := hown.stored HL.out j (IntKind.u8.wrap (k + j))
        have HS := Lib.hid hst
        clear hst
        go_wp2
        go_roundw
        case rel => exact ⟨j + 1, by omega, by go_num, by go_num, by have := HS.out.1; rw [marksB_step k j zs (by have := HN.out; omega)] at this; exact this, grown_trans hg HS.out.2⟩
        case measure => simp [intOf]; omega
      · obtain rfl : j = n := by omega
        go_wp2
        go_ret
        exact ⟨rfl, by have := HN.out; rw [List.drop_eq_nil_of_le (by omega), List.append_nil] at hown; exact hown, hg⟩
set_option maxHeartbeats 400000 in
theorem heldByteS_any (n : Nat) (k : Int) (v : Value) (w : World) (h : RowK .u8 w v (marksB k n)) (hk : 0 ≤ k) (hk2 : k ≤ 4611686018427387904) (hz : n ≤ 1000000000) :
    Calls Try.prog 35 #[v, .int .i64 k] w fun e w' => e = .returned (.int .i64 (k + n)) ∧ Quiet w w' := by
  obtain ⟨a, cap, rfl, _, _, _, hc⟩ := h
  rw [marksB_length] at hc ⊢
  have hcc : ∀ j, j < n → ∃ b off, a = some ⟨b, off, none⟩ ∧ w.cell? ⟨b, off + j, none⟩ = some (.int .u8 (IntKind.u8.wrap (k + j))) := by
    intro j hj
    obtain ⟨b, off, ha, hd⟩ := hc (by omega)
    exact ⟨b, off, ha, by rw [hd j hj, marksB_get k n j hj]⟩
  clear hc
  go_enter Try.func35, Try.ntmps35
  go_wp2
  go_loopw [1, 5] (fun m i wr => ∃ j q : Nat, j ≤ n ∧ i = .int .i64 j ∧ m = .int .i64 (k + j) ∧ wr = w.drewN q) (fun _ i _ => n - (intOf i).toNat)
  case atStart => exact ⟨0, 0, Nat.zero_le _, rfl, by go_num, rfl⟩
  case round =>
    obtain ⟨j, q, hj, rfl, rfl, rfl⟩ := hrel
    by_cases hlt : j < n
    · obtain ⟨b, off, rfl, hx⟩ := hcc j hlt
      go_wp2
      all_goals try (go_quiet (fail); go_wp2)
      go_roundw
      case rel => exact ⟨j + 1, _, by omega, by go_num, by go_num, (by first | rfl | exact World.drewN_drewN ..)⟩
      case measure => simp [intOf]; omega
    · obtain rfl : j = n := by omega
      go_wp2
      go_ret
      exact ⟨rfl, (by first | exact Quiet.same _ | exact Quiet.n _ _ | exact Quiet.nn _ _ _ | assumption)⟩

theorem ofInt_u8 (a : Nat) (ha : a < 256) : (BitVec.ofInt 8 (a : Int)).toNat = a := by
  rw [BitVec.ofInt_natCast, BitVec.toNat_ofNat]; exact Nat.mod_eq_of_lt (by omega)
theorem u8_and1 (p : Int) (h : 0 ≤ p ∧ p ≤ 255) : bits .and .u8 p 1 = p % 2 := by
  obtain ⟨a, rfl⟩ := Int.eq_ofNat_of_zero_le h.1
  show IntKind.u8.wrap ((BitVec.ofInt 8 (a : Int) &&& BitVec.ofInt 8 ((1 : Nat) : Int)).toNat : Int) = _
  rw [BitVec.toNat_and, ofInt_u8 a (by omega), ofInt_u8 1 (by omega), IntKind.wrap_u8, Nat.and_one_is_mod]
  omega
theorem u8_or1 (p b : Int) (h : 0 ≤ p ∧ p ≤ 127) (hb : b = 0 ∨ b = 1) : bits .or .u8 (p * 2) b = 2 * p + b := by
  obtain ⟨a, rfl⟩ := Int.eq_ofNat_of_zero_le h.1
  rcases hb with rfl | rfl
  · show IntKind.u8.wrap ((BitVec.ofInt 8 ((a * 2 : Nat) : Int) ||| BitVec.ofInt 8 ((0 : Nat) : Int)).toNat : Int) = _
    rw [BitVec.toNat_or, ofInt_u8 _ (by omega), ofInt_u8 0 (by omega), IntKind.wrap_u8, Nat.or_zero]
    omega
  · show IntKind.u8.wrap ((BitVec.ofInt 8 ((a * 2 : Nat) : Int) ||| BitVec.ofInt 8 ((1 : Nat) : Int)).toNat : Int) = _
    rw [BitVec.toNat_or, ofInt_u8 _ (by omega), ofInt_u8 1 (by omega), IntKind.wrap_u8]
    have : a * 2 ||| 1 = a * 2 + 1 := by
      have := Nat.two_pow_add_eq_or_of_lt (b := 1) (i := 1) (by omega) a
      rw [Nat.mul_comm] at this; simpa using this.symm
    rw [this]
    omega

/-- The bits of a byte, the highest first. -/
def bits8 (p : Int) : List Int := [p / 128 % 2, p / 64 % 2, p / 32 % 2, p / 16 % 2, p / 8 % 2, p / 4 % 2, p / 2 % 2, p % 2]
def bitsL (zs : List Int) : List Int := zs.flatMap bits8
def bitsOf (zs : List Int) : List Int := if zs.length ≤ 128 then bitsL zs else []
theorem bits8_length (p : Int) : (bits8 p).length = 8 := rfl
theorem bitsL_length : ∀ zs : List Int, (bitsL zs).length = 8 * zs.length
  | [] => rfl
  | z :: zs => by rw [bitsL, List.flatMap_cons, List.length_append, bits8_length, ← bitsL, bitsL_length zs, List.length_cons]; omega
theorem bitsL_step (zs : List Int) (k : Nat) (hk : k < zs.length) : bitsL (zs.take (k + 1)) = bitsL (zs.take k) ++ bits8 (zs.getD k 0) := by
  rw [take_succ' zs 0 k hk]; simp [bitsL]

set_option maxHeartbeats 1000000 in
theorem appendTo_any (p : Int) (v : Value) (xs : List Int) (B : Nat) (w : World) (h : OwnI B w v xs) (hB : B ≤ w.heap.size) (hp : 0 ≤ p ∧ p ≤ 255) (hl : xs.length ≤ 100000) :
    Calls Try.prog 42 #[.int .u8 p, v] w fun e w' => ∃ r, e = .returned r ∧ OwnI B w' r (xs ++ bits8 p) ∧ Below B w w' := by
  go_enter Try.func42, Try.ntmps42
  go_wp2_with fail
  go_loopw [1, 5] (fun r i wr => ∃ j : Nat, j ≤ 8 ∧ i = .int .i64 (7 - (j : Int)) ∧ OwnI B wr r (xs ++ (bits8 p).take j) ∧ Below B w wr) (fun _ i _ => (intOf i + 1).toNat)
  case atStart => exact ⟨0, by omega, rfl, by simpa using h, Below.refl _ _⟩
  case round =>
    obtain ⟨j, hj, rfl, hown, hbel⟩ := hrel
    have hsz := Nat.le_trans hB hbel.size
    have hj8 : j = 0 ∨ j = 1 ∨ j = 2 ∨ j = 3 ∨ j = 4 ∨ j = 5 ∨ j = 6 ∨ j = 7 ∨ j = 8 := by omega
    rcases hj8 with rfl | rfl | rfl | rfl | rfl | rfl | rfl | rfl | rfl
    · have hv : wrap64 (bits .and .u8 (p / 128) 1) = p / 128 % 2 := by rw [u8_and1 _ (by omega)]; exact IntWalk.wrap64_in _ ⟨by omega, by omega⟩
      have HS := Lib.hid (show (bits8 p).take 1 = (bits8 p).take 0 ++ [p / 128 % 2] from rfl)
      go_wp2_with (at_builtin; refine wp_app1 tabI wr _ (p / 128 % 2) rfl rfl rfl rfl rfl (.tmp 10) (.tmp 16) rfl B u1 (xs ++ (bits8 p).take 0) rfl 1 rfl hown (by simp [bits8]; omega) hsz ?_; intro v' w' hown' hgrow hnew)
      clear hv
      go_roundw
      case rel => exact ⟨1, by omega, rfl, by rw [HS.out, ← List.append_assoc]; exact hown', hbel.trans (below_of_row hgrow hsz (fun k e => (hown.lt k e).1))⟩
      case measure => simp [intOf]
    · have hv : wrap64 (bits .and .u8 (p / 64) 1) = p / 64 % 2 := by rw [u8_and1 _ (by omega)]; exact IntWalk.wrap64_in _ ⟨by omega, by omega⟩
      have HS := Lib.hid (show (bits8 p).take 2 = (bits8 p).take 1 ++ [p / 64 % 2] from rfl)
      go_wp2_with (at_builtin; refine wp_app1 tabI wr _ (p / 64 % 2) rfl rfl rfl rfl rfl (.tmp 10) (.tmp 16) rfl B u1 (xs ++ (bits8 p).take 1) rfl 1 rfl hown (by simp [bits8]; omega) hsz ?_; intro v' w' hown' hgrow hnew)
      clear hv
      go_roundw
      case rel => exact ⟨2, by omega, rfl, by rw [HS.out, ← List.append_assoc]; exact hown', hbel.trans (below_of_row hgrow hsz (fun k e => (hown.lt k e).1))⟩
      case measure => simp [intOf]
    · have hv : wrap64 (bits .and .u8 (p / 32) 1) = p / 32 % 2 := by rw [u8_and1 _ (by omega)]; exact IntWalk.wrap64_in _ ⟨by omega, by omega⟩
      have HS := Lib.hid (show (bits8 p).take 3 = (bits8 p).take 2 ++ [p / 32 % 2] from rfl)
      go_wp2_with (at_builtin; refine wp_app1 tabI wr _ (p / 32 % 2) rfl rfl rfl rfl rfl (.tmp 10) (.tmp 16) rfl B u1 (xs ++ (bits8 p).take 2) rfl 1 rfl hown (by simp [bits8]; omega) hsz ?_; intro v' w' hown' hgrow hnew)
      clear hv
      go_roundw
      case rel => exact ⟨3, by omega, rfl, by rw [HS.out, ← List.append_assoc]; exact hown', hbel.trans (below_of_row hgrow hsz (fun k e => (hown.lt k e).1))⟩
      case measure => simp [intOf]
    · have hv : wrap64 (bits .and .u8 (p / 16) 1) = p / 16 % 2 := by rw [u8_and1 _ (by omega)]; exact IntWalk.wrap64_in _ ⟨by omega, by omega⟩
      have HS := Lib.hid (show (bits8 p).take 4 = (bits8 p).take 3 ++ [p / 16 % 2] from rfl)
      go_wp2_with (at_builtin; refine wp_app1 tabI wr _ (p / 16 % 2) rfl rfl rfl rfl rfl (.tmp 10) (.tmp 16) rfl B u1 (xs ++ (bits8 p).take 3) rfl 1 rfl hown (by simp [bits8]; omega) hsz ?_; intro v' w' hown' hgrow hnew)
      clear hv
      go_roundw
      case rel => exact ⟨4, by omega, rfl, by rw [HS.out, ← List.append_assoc]; exact hown', hbel.trans (below_of_row hgrow hsz (fun k e => (hown.lt k e).1))⟩
      case measure => simp [intOf]
    · have hv : wrap64 (bits .and .u8 (p / 8) 1) = p / 8 % 2 := by rw [u8_and1 _ (by omega)]; exact IntWalk.wrap64_in _ ⟨by omega, by omega⟩
      have HS := Lib.hid (show (bits8 p).take 5 = (bits8 p).take 4 ++ [p / 8 % 2] from rfl)
      go_wp2_with (at_builtin; refine wp_app1 tabI wr _ (p / 8 % 2) rfl rfl rfl rfl rfl (.tmp 10) (.tmp 16) rfl B u1 (xs ++ (bits8 p).take 4) rfl 1 rfl hown (by simp [bits8]; omega) hsz ?_; intro v' w' hown' hgrow hnew)
      clear hv
      go_roundw
      case rel => exact ⟨5, by omega, rfl, by rw [HS.out, ← List.append_assoc]; exact hown', hbel.trans (below_of_row hgrow hsz (fun k e => (hown.lt k e).1))⟩
      case measure => simp [intOf]
    · have hv : wrap64 (bits .and .u8 (p / 4) 1) = p / 4 % 2 := by rw [u8_and1 _ (by omega)]; exact IntWalk.wrap64_in _ ⟨by omega, by omega⟩
      have HS := Lib.hid (show (bits8 p).take 6 = (bits8 p).take 5 ++ [p / 4 % 2] from rfl)
      go_wp2_with (at_builtin; refine wp_app1 tabI wr _ (p / 4 % 2) rfl rfl rfl rfl rfl (.tmp 10) (.tmp 16) rfl B u1 (xs ++ (bits8 p).take 5) rfl 1 rfl hown (by simp [bits8]; omega) hsz ?_; intro v' w' hown' hgrow hnew)
      clear hv
      go_roundw
      case rel => exact ⟨6, by omega, rfl, by rw [HS.out, ← List.append_assoc]; exact hown', hbel.trans (below_of_row hgrow hsz (fun k e => (hown.lt k e).1))⟩
      case measure => simp [intOf]
    · have hv : wrap64 (bits .and .u8 (p / 2) 1) = p / 2 % 2 := by rw [u8_and1 _ (by omega)]; exact IntWalk.wrap64_in _ ⟨by omega, by omega⟩
      have HS := Lib.hid (show (bits8 p).take 7 = (bits8 p).take 6 ++ [p / 2 % 2] from rfl)
      go_wp2_with (at_builtin; refine wp_app1 tabI wr _ (p / 2 % 2) rfl rfl rfl rfl rfl (.tmp 10) (.tmp 16) rfl B u1 (xs ++ (bits8 p).take 6) rfl 1 rfl hown (by simp [bits8]; omega) hsz ?_; intro v' w' hown' hgrow hnew)
      clear hv
      go_roundw
      case rel => exact ⟨7, by omega, rfl, by rw [HS.out, ← List.append_assoc]; exact hown', hbel.trans (below_of_row hgrow hsz (fun k e => (hown.lt k e).1))⟩
      case measure => simp [intOf]
    · have hv : wrap64 (bits .and .u8 (p) 1) = p % 2 := by rw [u8_and1 _ (by omega)]; exact IntWalk.wrap64_in _ ⟨by omega, by omega⟩
      have HS := Lib.hid (show (bits8 p).take 8 = (bits8 p).take 7 ++ [p % 2] from rfl)
      go_wp2_with (at_builtin; refine wp_app1 tabI wr _ (p % 2) rfl rfl rfl rfl rfl (.tmp 10) (.tmp 16) rfl B u1 (xs ++ (bits8 p).take 7) rfl 1 rfl hown (by simp [bits8]; omega) hsz ?_; intro v' w' hown' hgrow hnew)
      clear hv
      go_roundw
      case rel => exact ⟨8, by omega, rfl, by rw [HS.out, ← List.append_assoc]; exact hown', hbel.trans (below_of_row hgrow hsz (fun k e => (hown.lt k e).1))⟩
      case measure => simp [intOf]
    · go_wp2
      go_ret
      exact ⟨_, rfl, hown, hbel⟩
theorem ownK_nil (e : Nat) (k : IntKind) (B : Nat) (w : World) : OwnK e k B w (.slice none 0 0) [] := World.ownsRow_nil _ _ _ _
theorem newSlice (e : Nat) (k : IntKind) (B : Nat) (w : World) (hB : B ≤ w.heap.size) : OwnK e k B (w.alloc (.cells #[] e)) (.slice (some ⟨w.heap.size, 0, none⟩) 0 0) [] := World.ownsRow_made w #[] 0 hB (by decide) rfl
/-- All are bytes. -/
def Byt (zs : List Int) : Prop := ∀ i, i < zs.length → 0 ≤ zs.getD i 0 ∧ zs.getD i 0 ≤ 255

set_option maxHeartbeats 1000000 in
theorem BitsOfBytes_any (zs : List Int) (v : Value) (w : World) (h : RowK .u8 w v zs) (hz : Byt zs) :
    Calls Try.prog 22 #[v] w fun e w' => ∃ r, e = .returned r ∧ OwnI w.heap.size w' r (bitsOf zs) ∧ Below w.heap.size w w' := by
  have hl := h.len
  obtain ⟨a, cap, rfl, _, _, _, hc⟩ := h
  by_cases hlen : 128 < zs.length
  · go_enter Try.func22, Try.ntmps22
    go_wp2
    go_ret
    exact ⟨_, rfl, by rw [bitsOf, if_neg (by omega)]; exact ownK_nil _ _ _ _, Below.refl _ _⟩
  · have hHZ := Lib.hid hz
    clear hz
    go_enter Try.func22, Try.ntmps22
    go_wp2_with (at_make; refine wp_make0 tabI _ rfl _ _ rfl (8 * zs.length) rfl rfl (by omega) ?_; intro w1 hown hbel hsz)
    go_loopw [3, 15] (fun r i wr => ∃ k : Nat, k ≤ zs.length ∧ i = .int .i64 k ∧ OwnI w.heap.size wr r (bitsL (zs.take k)) ∧ Below w.heap.size w wr) (fun _ i _ => zs.length - (intOf i).toNat)
    case atStart => exact ⟨0, Nat.zero_le _, rfl, by simpa [bitsL] using hown, hbel⟩
    case round =>
      obtain ⟨k, hk, rfl, hown, hbel⟩ := hrel
      by_cases hlt : k < zs.length
      · obtain ⟨b, off, rfl, hcc⟩ := hc (by omega)
        have hx0 := hcc k hlt
        have hb := World.block_lt_of_cell? w _ hx0
        have hx := (hbel.cell (p := ⟨b, off + k, none⟩) hb).trans hx0
        have hr := hHZ.out k hlt
        obtain ⟨z, hzz⟩ : ∃ z, z = zs.getD k 0 := ⟨_, rfl⟩
        have HE := Lib.hid (bitsL_step zs k hlt)
        rw [← hzz] at hx hr HE
        have hll : (bitsL (zs.take k)).length ≤ 100000 := by rw [bitsL_length]; simp; omega
        clear hx0 hcc hzz
        have hsz := hbel.size
        go_wp2_with fail
        refine (appendTo_any z _ _ _ _ hown hsz hr hll).mono ?_
        rintro e w2 ⟨r, rfl, hown2, hbel2⟩
        rw [← HE.out] at hown2
        go_wp2
        go_roundw
        case rel => exact ⟨k + 1, by omega, by go_num, hown2, hbel.trans hbel2⟩
        case measure => simp [intOf]; omega
      · obtain rfl : k = zs.length := by omega
        have HE := Lib.hid (show bitsL (zs.take zs.length) = bitsOf zs by rw [List.take_length, bitsOf, if_pos (by omega)])
        go_wp2
        go_ret
        exact ⟨_, rfl, by have := hown; rw [HE.out] at this; exact this, hbel⟩
set_option maxHeartbeats 1000000 in
theorem specBitsOfBytes_any (zs : List Int) (v : Value) (w : World) (h : RowK .u8 w v zs) (hz : Byt zs) :
    Calls Try.prog 20 #[v] w fun e w' => ∃ r, e = .returned r ∧ OwnI w.heap.size w' r (bitsOf zs) ∧ Below w.heap.size w w' := by
  have hl := h.len
  have hmt := newSlice 3 .i64 w.heap.size w (Nat.le_refl _)
  have hb0 : Below w.heap.size w (w.alloc (.cells #[] 3)) := (Below.refl _ w).alloc (Nat.le_refl _) _
  obtain ⟨a, cap, rfl, _, _, _, hc⟩ := h
  have hHZ := Lib.hid hz
  clear hz
  go_enter Try.func20, Try.ntmps20
  go_wp2_with fail
  go_loopw [3, 4] (fun r i wr => ∃ k : Nat, k ≤ zs.length ∧ (k = 0 ∨ zs.length ≤ 128) ∧ i = .int .i64 k ∧ OwnI w.heap.size wr r (bitsL (zs.take k)) ∧ Below w.heap.size w wr) (fun _ i _ => zs.length - (intOf i).toNat)
  case atStart => exact ⟨0, Nat.zero_le _, .inl rfl, rfl, by simpa [bitsL] using hmt, hb0⟩
  case round =>
    obtain ⟨k, hk, hk1, rfl, hown, hbel⟩ := hrel
    by_cases hlen : zs.length ≤ 128
    · by_cases hlt : k < zs.length
      · obtain ⟨b, off, rfl, hcc⟩ := hc (by omega)
        have hx0 := hcc k hlt
        have hb := World.block_lt_of_cell? w _ hx0
        have hr := hHZ.out k hlt
        obtain ⟨z, hzz⟩ : ∃ z, z = zs.getD k 0 := ⟨_, rfl⟩
        have HE := Lib.hid (bitsL_step zs k hlt)
        rw [← hzz] at hx0 hr HE
        have hll : (bitsL (zs.take k)).length ≤ 100000 := by rw [bitsL_length]; simp; omega
        clear hcc hzz
        have hsz := hbel.size
        go_wp2_with fail
        go_loopw [3, 5] (fun r i wr => ∃ j : Nat, j ≤ 8 ∧ i = .int .i64 (7 - (j : Int)) ∧ OwnI w.heap.size wr r (bitsL (zs.take k) ++ (bits8 z).take j) ∧ Below w.heap.size w wr) (fun _ i _ => (intOf i + 1).toNat)
        case atStart => exact ⟨0, by omega, rfl, by simpa using hown, hbel⟩
        case round =>
          clear hown hbel
          obtain ⟨j, hj, rfl, hown, hbel⟩ := hrel
          have hsz := hbel.size
          have hx := (hbel.cell (p := ⟨b, off + k, none⟩) hb).trans hx0
          have hj8 : j = 0 ∨ j = 1 ∨ j = 2 ∨ j = 3 ∨ j = 4 ∨ j = 5 ∨ j = 6 ∨ j = 7 ∨ j = 8 := by omega
          rcases hj8 with rfl | rfl | rfl | rfl | rfl | rfl | rfl | rfl | rfl
          · have hv : wrap64 (z / 128) = z / 128 := IntWalk.wrap64_in _ ⟨by omega, by omega⟩
            have hv2 : (z / 128).tmod 2 = z / 128 % 2 := Int.tmod_eq_emod_of_nonneg (by omega)
            have HS := Lib.hid (show (bits8 z).take 1 = (bits8 z).take 0 ++ [z / 128 % 2] from rfl)
            go_wp2_with (at_builtin; refine wp_app1 tabI wr _ (z / 128 % 2) rfl rfl rfl rfl rfl (.tmp 22) (.tmp 31) rfl w.heap.size u3 (bitsL (zs.take k) ++ (bits8 z).take 0) rfl 1 rfl hown (by simp [bits8]; omega) hsz ?_; intro v' w' hown' hgrow hnew)
            clear hv hv2
            go_roundw
            case rel => exact ⟨1, by omega, rfl, by rw [HS.out, ← List.append_assoc]; exact hown', hbel.trans (below_of_row hgrow hsz (fun k e => (hown.lt k e).1))⟩
            case measure => simp [intOf]
          · have hv : wrap64 (z / 64) = z / 64 := IntWalk.wrap64_in _ ⟨by omega, by omega⟩
            have hv2 : (z / 64).tmod 2 = z / 64 % 2 := Int.tmod_eq_emod_of_nonneg (by omega)
            have HS := Lib.hid (show (bits8 z).take 2 = (bits8 z).take 1 ++ [z / 64 % 2] from rfl)
            go_wp2_with (at_builtin; refine wp_app1 tabI wr _ (z / 64 % 2) rfl rfl rfl rfl rfl (.tmp 22) (.tmp 31) rfl w.heap.size u3 (bitsL (zs.take k) ++ (bits8 z).take 1) rfl 1 rfl hown (by simp [bits8]; omega) hsz ?_; intro v' w' hown' hgrow hnew)
            clear hv hv2
            go_roundw
            case rel => exact ⟨2, by omega, rfl, by rw [HS.out, ← List.append_assoc]; exact hown', hbel.trans (below_of_row hgrow hsz (fun k e => (hown.lt k e).1))⟩
            case measure => simp [intOf]
          · have hv : wrap64 (z / 32) = z / 32 := IntWalk.wrap64_in _ ⟨by omega, by omega⟩
            have hv2 : (z / 32).tmod 2 = z / 32 % 2 := Int.tmod_eq_emod_of_nonneg (by omega)
            have HS := Lib.hid (show (bits8 z).take 3 = (bits8 z).take 2 ++ [z / 32 % 2] from rfl)
            go_wp2_with (at_builtin; refine wp_app1 tabI wr _ (z / 32 % 2) rfl rfl rfl rfl rfl (.tmp 22) (.tmp 31) rfl w.heap.size u3 (bitsL (zs.take k) ++ (bits8 z).take 2) rfl 1 rfl hown (by simp [bits8]; omega) hsz ?_; intro v' w' hown' hgrow hnew)
            clear hv hv2
            go_roundw
            case rel => exact ⟨3, by omega, rfl, by rw [HS.out, ← List.append_assoc]; exact hown', hbel.trans (below_of_row hgrow hsz (fun k e => (hown.lt k e).1))⟩
            case measure => simp [intOf]
          · have hv : wrap64 (z / 16) = z / 16 := IntWalk.wrap64_in _ ⟨by omega, by omega⟩
            have hv2 : (z / 16).tmod 2 = z / 16 % 2 := Int.tmod_eq_emod_of_nonneg (by omega)
            have HS := Lib.hid (show (bits8 z).take 4 = (bits8 z).take 3 ++ [z / 16 % 2] from rfl)
            go_wp2_with (at_builtin; refine wp_app1 tabI wr _ (z / 16 % 2) rfl rfl rfl rfl rfl (.tmp 22) (.tmp 31) rfl w.heap.size u3 (bitsL (zs.take k) ++ (bits8 z).take 3) rfl 1 rfl hown (by simp [bits8]; omega) hsz ?_; intro v' w' hown' hgrow hnew)
            clear hv hv2
            go_roundw
            case rel => exact ⟨4, by omega, rfl, by rw [HS.out, ← List.append_assoc]; exact hown', hbel.trans (below_of_row hgrow hsz (fun k e => (hown.lt k e).1))⟩
            case measure => simp [intOf]
          · have hv : wrap64 (z / 8) = z / 8 := IntWalk.wrap64_in _ ⟨by omega, by omega⟩
            have hv2 : (z / 8).tmod 2 = z / 8 % 2 := Int.tmod_eq_emod_of_nonneg (by omega)
            have HS := Lib.hid (show (bits8 z).take 5 = (bits8 z).take 4 ++ [z / 8 % 2] from rfl)
            go_wp2_with (at_builtin; refine wp_app1 tabI wr _ (z / 8 % 2) rfl rfl rfl rfl rfl (.tmp 22) (.tmp 31) rfl w.heap.size u3 (bitsL (zs.take k) ++ (bits8 z).take 4) rfl 1 rfl hown (by simp [bits8]; omega) hsz ?_; intro v' w' hown' hgrow hnew)
            clear hv hv2
            go_roundw
            case rel => exact ⟨5, by omega, rfl, by rw [HS.out, ← List.append_assoc]; exact hown', hbel.trans (below_of_row hgrow hsz (fun k e => (hown.lt k e).1))⟩
            case measure => simp [intOf]
          · have hv : wrap64 (z / 4) = z / 4 := IntWalk.wrap64_in _ ⟨by omega, by omega⟩
            have hv2 : (z / 4).tmod 2 = z / 4 % 2 := Int.tmod_eq_emod_of_nonneg (by omega)
            have HS := Lib.hid (show (bits8 z).take 6 = (bits8 z).take 5 ++ [z / 4 % 2] from rfl)
            go_wp2_with (at_builtin; refine wp_app1 tabI wr _ (z / 4 % 2) rfl rfl rfl rfl rfl (.tmp 22) (.tmp 31) rfl w.heap.size u3 (bitsL (zs.take k) ++ (bits8 z).take 5) rfl 1 rfl hown (by simp [bits8]; omega) hsz ?_; intro v' w' hown' hgrow hnew)
            clear hv hv2
            go_roundw
            case rel => exact ⟨6, by omega, rfl, by rw [HS.out, ← List.append_assoc]; exact hown', hbel.trans (below_of_row hgrow hsz (fun k e => (hown.lt k e).1))⟩
            case measure => simp [intOf]
          · have hv : wrap64 (z / 2) = z / 2 := IntWalk.wrap64_in _ ⟨by omega, by omega⟩
            have hv2 : (z / 2).tmod 2 = z / 2 % 2 := Int.tmod_eq_emod_of_nonneg (by omega)
            have HS := Lib.hid (show (bits8 z).take 7 = (bits8 z).take 6 ++ [z / 2 % 2] from rfl)
            go_wp2_with (at_builtin; refine wp_app1 tabI wr _ (z / 2 % 2) rfl rfl rfl rfl rfl (.tmp 22) (.tmp 31) rfl w.heap.size u3 (bitsL (zs.take k) ++ (bits8 z).take 6) rfl 1 rfl hown (by simp [bits8]; omega) hsz ?_; intro v' w' hown' hgrow hnew)
            clear hv hv2
            go_roundw
            case rel => exact ⟨7, by omega, rfl, by rw [HS.out, ← List.append_assoc]; exact hown', hbel.trans (below_of_row hgrow hsz (fun k e => (hown.lt k e).1))⟩
            case measure => simp [intOf]
          · have hv : wrap64 (z) = z := IntWalk.wrap64_in _ ⟨by omega, by omega⟩
            have hv2 : (z).tmod 2 = z % 2 := Int.tmod_eq_emod_of_nonneg (by omega)
            have HS := Lib.hid (show (bits8 z).take 8 = (bits8 z).take 7 ++ [z % 2] from rfl)
            go_wp2_with (at_builtin; refine wp_app1 tabI wr _ (z % 2) rfl rfl rfl rfl rfl (.tmp 22) (.tmp 31) rfl w.heap.size u3 (bitsL (zs.take k) ++ (bits8 z).take 7) rfl 1 rfl hown (by simp [bits8]; omega) hsz ?_; intro v' w' hown' hgrow hnew)
            clear hv hv2
            go_roundw
            case rel => exact ⟨8, by omega, rfl, by rw [HS.out, ← List.append_assoc]; exact hown', hbel.trans (below_of_row hgrow hsz (fun k e => (hown.lt k e).1))⟩
            case measure => simp [intOf]
          · have hown2 : OwnI w.heap.size wr u3 (bitsL (zs.take (k + 1))) := by rw [HE.out]; exact hown
            go_wp2
            go_roundw
            case rel => exact ⟨k + 1, by omega, .inr hlen, by go_num, hown2, hbel⟩
            case measure => simp [intOf]; omega
      · obtain rfl : k = zs.length := by omega
        have HE := Lib.hid (show bitsL (zs.take zs.length) = bitsOf zs by rw [List.take_length, bitsOf, if_pos (by omega)])
        go_wp2
        go_ret
        exact ⟨_, rfl, by have := hown; rw [HE.out] at this; exact this, hbel⟩
    · obtain rfl : k = 0 := by omega
      have HE := Lib.hid (show bitsL (zs.take 0) = bitsOf zs by rw [bitsOf, if_neg (by omega)]; rfl)
      have hlt : (0 : Int) < (zs.length : Int) := by omega
      go_wp2
      go_ret
      exact ⟨_, rfl, by have := hown; rw [HE.out] at this; exact this, hbel⟩
theorem push_any (p b : Int) (B : Nat) (w : World) (hp : 0 ≤ p ∧ p ≤ 127) (hc : w.cell? ⟨B, 0, none⟩ = some (.int .u8 p)) (hf : w.frozen? ⟨B, 0, none⟩ = false) (hb : b = 0 ∨ b = 1) :
    Calls Try.prog 48 #[.pointer (some ⟨B, 0, none⟩), .int .i64 b] w fun e w' => ∃ r, e = .returned r ∧ w' = w.setCell ⟨B, 0, none⟩ (.int .u8 (2 * p + b)) := by
  have hv := u8_or1 p b hp hb
  go_enter Try.func48, Try.ntmps48
  go_wp2
  refine bodyPost_end (results_none rfl _ _ _) rfl ?_
  exact ⟨_, rfl, rfl⟩
end Go.Proofs.Ytjlocicelnndhaa
