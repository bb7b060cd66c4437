/-
  Contracts of the functions that read and copy lists of numbers: validity, equality, copying, marking.
-/
import Derived.Test.YtpfbmfnfcppjeadDoorRows
import Derived.Test.YtpfbmfnfcppjeadDoorMem
import Derived.Outline
import Derived.Deep.QuietTactic
import Derived.BigQuiet
import Derived.Handy
namespace Go.Proofs.YtpfbmfnfcppjeadDoor
open Go.RowKit

theorem info3 : (Tryd.prog.info? 3).map (fun i => (i.zero, i.size, i.bytes)) = some (some (.int .i64 0), 1, 8) := by kernel_rfl

def bitB (x : Int) : Bool := x == 0 || x == 1
/-- Is n in lo..hi? -/
def inB (n lo hi : Int) : Bool := decide (lo ≤ n) && decide (n ≤ hi)
def validB (zs : List Int) : Bool := decide (zs.length ≤ 1024) && zs.all bitB

theorem all_take_succ (p : Int → Bool) (zs : List Int) (k : Nat) (hk : k < zs.length) (h : (zs.take k).all p = true) (hp : p zs[k] = true) : (zs.take (k + 1)).all p = true := by
  rw [take_succ' zs 0 k hk, List.all_append, h]; simp [List.getD, hk, hp]
theorem all_false (p : Int → Bool) (zs : List Int) (k : Nat) (hk : k < zs.length) (hp : p zs[k] = false) : zs.all p = false := by
  rw [List.all_eq_false]; exact ⟨zs[k], List.getElem_mem hk, by simp [hp]⟩
theorem valid_all (zs : List Int) (k : Nat) (hk : k = zs.length) (h : (zs.take k).all bitB = true) : Hid (validB zs = decide (zs.length ≤ 1024)) := by
  subst hk; rw [List.take_length] at h; show validB zs = _; rw [validB, h, Bool.and_true]
theorem ret_bool {a b : Bool} (h : a = b) : Ending.returned (.bool a) = .returned (.bool b) := by rw [h]
theorem ret_int {k : IntKind} {a b : Int} (h : a = b) : Ending.returned (.int k a) = .returned (.int k b) := by rw [h]

set_option maxHeartbeats 400000 in
theorem BitsValid_any (zs : List Int) (v : Value) (w : World) (h : RowK .i64 w v zs) :
    Calls Tryd.prog 14 #[v] w fun e w' => e = .returned (.bool (validB zs)) ∧ w = w' := by
  have hl := h.len
  obtain ⟨a, cap, rfl, _, _, _, hc⟩ := h
  by_cases hlen : 1024 < zs.length
  · go_enter Tryd.func14, Tryd.ntmps14
    go_wp2
    go_ret
    refine ⟨?_, rfl⟩
    simp [validB]; omega
  · go_enter Tryd.func14, Tryd.ntmps14
    go_wp2
    go_loop [10] (fun i => ∃ k : Nat, k ≤ zs.length ∧ i = .int .i64 k ∧ (zs.take k).all bitB = true) (fun i => zs.length - (intOf i).toNat)
    case atStart => exact ⟨0, Nat.zero_le _, rfl, by simp⟩
    case round =>
      obtain ⟨k, hk, rfl, hb⟩ := hrel
      have Hb := Lib.hid hb
      clear hb
      by_cases hlt : k < zs.length
      · obtain ⟨b, off, rfl, hcc⟩ := hc (by omega)
        have hx := hcc k hlt
        cases hbit : bitB zs[k]
        · have h0 : (zs[k] != 0) = true := by simp [bitB] at hbit; simp [hbit]
          have h1 : (zs[k] != 1) = true := by simp [bitB] at hbit; simp [hbit]
          go_wp2
          go_ret
          exact ⟨ret_bool (by rw [validB, all_false bitB zs k hlt hbit]; simp), rfl⟩
        · have hor : zs[k] = 0 ∨ zs[k] = 1 := by simpa [bitB] using hbit
          have HB := Lib.hid hbit
          clear hbit
          rcases hor with h0 | h0
          all_goals
            go_wp2
            go_round
            case rel => exact ⟨k + 1, by omega, by go_num, all_take_succ bitB zs k hlt Hb.out HB.out⟩
            case measure => simp [intOf]; omega
      · obtain rfl : k = zs.length := by omega
        have HV := valid_all zs _ rfl Hb.out
        clear Hb
        go_wp2
        go_ret
        exact ⟨ret_bool (by rw [HV.out]; simp; omega), rfl⟩

theorem l1In_any (n lo hi : Int) (w : World) :
    Calls Tryd.prog 20 #[.int .i64 n, .int .i64 lo, .int .i64 hi] w fun e w' => e = .returned (.bool (inB n lo hi)) ∧ w = w' := by
  by_cases h1 : lo ≤ n <;> by_cases h2 : n ≤ hi
  all_goals
    go_enter Tryd.func20, Tryd.ntmps20
    go_wp2
    all_goals go_ret
    all_goals exact ⟨ret_bool (by simp [inB, h1, h2]), rfl⟩

theorem take_eq_succ (xs ys : List Int) (k : Nat) (hx : k < xs.length) (hy : k < ys.length) (h : xs.take k = ys.take k) (he : xs[k] = ys[k]) : xs.take (k + 1) = ys.take (k + 1) := by
  rw [take_succ' xs 0 k hx, take_succ' ys 0 k hy, h]; simp [List.getD, hx, hy, he]

set_option maxHeartbeats 400000 in
theorem sameInts_any (xs ys : List Int) (v u : Value) (w : World) (hx : RowK .i64 w v xs) (hy : RowK .i64 w u ys) :
    Calls Tryd.prog 6 #[v, u] w fun e w' => e = .returned (.bool (xs == ys)) ∧ Quiet w w' := by
  have hlx := hx.len
  have hly := hy.len
  obtain ⟨a, cap, rfl, _, _, _, hc⟩ := hx
  obtain ⟨b, cbp, rfl, _, _, _, hd⟩ := hy
  by_cases hne : xs.length = ys.length
  · have HN := Lib.hid hne
    clear hne
    have ht : ((xs.length : Int) != (ys.length : Int)) = false := by have := HN.out; simp; omega
    go_enter Tryd.func6, Tryd.ntmps6
    go_wp2
    go_loopw [5] (fun i wr => ∃ k n : Nat, k ≤ xs.length ∧ i = .int .i64 k ∧ xs.take k = ys.take k ∧ wr = w.drewN n) (fun i _ => xs.length - (intOf i).toNat)
    case atStart => exact ⟨0, 0, Nat.zero_le _, rfl, by simp, rfl⟩
    case round =>
      obtain ⟨k, n, hk, rfl, hb, rfl⟩ := hrel
      have Hb := Lib.hid hb
      clear hb
      by_cases hlt : k < xs.length
      · have hlt2 : k < ys.length := by have := HN.out; omega
        obtain ⟨b1, off1, rfl, hcc⟩ := hc (by omega)
        obtain ⟨b2, off2, rfl, hdd⟩ := hd (by omega)
        have hx := hcc k hlt
        have hy := hdd k hlt2
        by_cases heq : xs[k] = ys[k]
        · have HE := Lib.hid heq
          have hbe : (xs[k] != ys[k]) = false := by simp [heq]
          clear heq
          go_wp2
          go_quiet (fail)
          go_wp2
          go_roundw
          case rel => exact ⟨k + 1, _, by omega, by go_num, take_eq_succ xs ys k hlt hlt2 Hb.out HE.out, (by first | rfl | exact World.drewN_drewN ..)⟩
          case measure => simp [intOf]; omega
        · have hbe : (xs[k] != ys[k]) = true := by simp [heq]
          go_wp2
          go_quiet (fail)
          go_wp2
          go_ret
          refine ⟨ret_bool ?_, (by first | exact Quiet.same _ | exact Quiet.n _ _ | exact Quiet.nn _ _ _ | assumption)⟩
          symm
          rw [beq_eq_false_iff_ne]
          intro h; subst h; exact heq rfl
      · obtain rfl : k = xs.length := by omega
        go_wp2
        go_ret
        refine ⟨ret_bool ?_, (by first | exact Quiet.same _ | exact Quiet.n _ _ | exact Quiet.nn _ _ _ | assumption)⟩
        symm
        rw [beq_iff_eq]
        have := Hb.out
        rw [List.take_length, HN.out, List.take_length] at this
        exact this
  · have ht : ((xs.length : Int) != (ys.length : Int)) = true := by simp; omega
    go_enter Tryd.func6, Tryd.ntmps6
    go_wp2
    go_ret
    refine ⟨ret_bool ?_, (by first | exact Quiet.same _ | exact Quiet.n _ _ | exact Quiet.nn _ _ _ | assumption)⟩
    symm
    rw [beq_eq_false_iff_ne]
    intro h; subst h; exact hne rfl

theorem bit_in (x : Int) : inB x 0 1 = bitB x := by
  rw [Bool.eq_iff_iff]; simp [inB, bitB]; omega
set_option maxHeartbeats 400000 in
theorem specBitsValid_any (zs : List Int) (v : Value) (w : World) (h : RowK .i64 w v zs) :
    Calls Tryd.prog 16 #[v] w fun e w' => e = .returned (.bool (validB zs)) ∧ w = w' := by
  have hl := h.len
  obtain ⟨a, cap, rfl, _, _, _, hc⟩ := h
  go_enter Tryd.func16, Tryd.ntmps16
  go_wp2
  go_loop [3] (fun i => ∃ k : Nat, k ≤ zs.length ∧ i = .int .i64 k ∧ (zs.take k).all bitB = true) (fun i => zs.length - (intOf i).toNat)
  case atStart => exact ⟨0, Nat.zero_le _, rfl, by simp⟩
  case round =>
    obtain ⟨k, hk, rfl, hb⟩ := hrel
    have Hb := Lib.hid hb
    clear hb
    by_cases hlt : k < zs.length
    · obtain ⟨b, off, rfl, hcc⟩ := hc (by omega)
      have hx := hcc k hlt
      cases hbit : bitB zs[k]
      · have hin : inB zs[k] 0 1 = false := by rw [bit_in, hbit]
        go_wp2_with (go_at_call 20; refine (l1In_any _ _ _ _).mono ?_; rintro e w' ⟨rfl, rfl⟩)
        go_ret
        exact ⟨ret_bool (by rw [validB, all_false bitB zs k hlt hbit]; simp), rfl⟩
      · have hin : inB zs[k] 0 1 = true := by rw [bit_in, hbit]
        have HB := Lib.hid hbit
        clear hbit
        go_wp2_with (go_at_call 20; refine (l1In_any _ _ _ _).mono ?_; rintro e w' ⟨rfl, rfl⟩)
        go_round
        case rel => exact ⟨k + 1, by omega, by go_num, all_take_succ bitB zs k hlt Hb.out HB.out⟩
        case measure => simp [intOf]; omega
    · obtain rfl : k = zs.length := by omega
      have HV := valid_all zs _ rfl Hb.out
      clear Hb
      go_wp2
      go_ret
      exact ⟨ret_bool (by rw [HV.out]; simp; omega), rfl⟩



end Go.Proofs.YtpfbmfnfcppjeadDoor
