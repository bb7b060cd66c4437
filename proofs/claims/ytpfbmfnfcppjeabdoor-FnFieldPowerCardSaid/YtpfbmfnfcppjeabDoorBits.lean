/-
  Contracts of the functions that read and copy lists of numbers: validity, equality, copying, marking.
-/
import Derived.Test.YtpfbmfnfcppjeabDoorRows
import Derived.Test.YtpfbmfnfcppjeabDoorMem
import Derived.Outline
import Derived.Deep.QuietTactic
import Derived.BigQuiet
import Derived.Handy
namespace Go.Proofs.YtpfbmfnfcppjeabDoor
open Go.RowKit

theorem info3 : (Tryd.prog.info? 3).map (fun i => (i.zero, i.size, i.bytes)) = some (some (.int .i64 0), 1, 8) := by kernel_rfl

def bitB (x : Int) : Bool := x == 0 || x == 1
/-- Is n in lo..hi? -/
def inB (n lo hi : Int) : Bool := decide (lo ≤ n) && decide (n ≤ hi)
def validB (zs : List Int) : Bool := decide (zs.length ≤ 1024) && zs.all bitB

theorem all_take_succ (p : Int → Bool) (zs : List Int) (k : Nat) (hk : k < zs.length) (h : (zs.take k).all p = true) (hp : p zs[k] = true) : (zs.take (k + 1)).all p = true := by
  rw [take_succ' zs 0 k hk, List.all_append, h]; simp [List.getD, hk, hp]
theorem all_false (p : Int → Bool) (zs : List Int) (k : Nat) (hk : k < zs.length) (hp : p zs[k] = false) : zs.all p = false := by
  rw [List.all_eq_false]; exact ⟨zs[k], List.getElem_mem hk, by simp [hp]⟩
theorem valid_all (zs : List Int) (k : Nat) (hk : k = zs.length) (h : (zs.take k).all bitB = true) : Hid (validB zs = decide (zs.length ≤ 1024)) := by
  subst hk; rw [List.take_length] at h; show validB zs = _; rw [validB, h, Bool.and_true]
theorem ret_bool {a b : Bool} (h : a = b) : Ending.returned (.bool a) = .returned (.bool b) := by rw [h]
theorem ret_int {k : IntKind} {a b : Int} (h : a = b) : Ending.returned (.int k a) = .returned (.int k b) := by rw [h]

set_option maxHeartbeats 400000 in
theorem BitsValid_any (zs : List Int) (v : Value) (w : World) (h : RowK .i64 w v zs) :
    Calls Tryd.prog 18 #[v] w fun e w' => e = .returned (.bool (validB zs)) ∧ w = w' := by
  have hl := h.len
  obtain ⟨a, cap, rfl, _, _, _, hc⟩ := h
  by_cases hlen : 1024 < zs.length
  · go_enter Tryd.func18, Tryd.ntmps18
    go_wp2
    go_ret
    refine ⟨?_, rfl⟩
    simp [validB]; omega
  · go_enter Tryd.func18, Tryd.ntmps18
    go_wp2
    go_loop [10] (fun i => ∃ k : Nat, k ≤ zs.length ∧ i = .int .i64 k ∧ (zs.take k).all bitB = true) (fun i => zs.length - (intOf i).toNat)
    case atStart => exact ⟨0, Nat.zero_le _, rfl, by simp⟩
    case round =>
      obtain ⟨k, hk, rfl, hb⟩ := hrel
      have Hb := Lib.hid hb
      clear hb
      by_cases hlt : k < zs.length
      · obtain ⟨b, off, rfl, hcc⟩ := hc (by omega)
        have hx := hcc k hlt
        cases hbit : bitB zs[k]
        · have h0 : (zs[k] != 0) = true := by simp [bitB] at hbit; simp [hbit]
          have h1 : (zs[k] != 1) = true := by simp [bitB] at hbit; simp [hbit]
          go_wp2
          go_ret
          exact ⟨ret_bool (by rw [validB, all_false bitB zs k hlt hbit]; simp), rfl⟩
        · have hor : zs[k] = 0 ∨ zs[k] = 1 := by simpa [bitB] using hbit
          have HB := Lib.hid hbit
          clear hbit
          rcases hor with h0 | h0
          all_goals
            go_wp2
            go_round
            case rel => exact ⟨k + 1, by omega, by go_num, all_take_succ bitB zs k hlt Hb.out HB.out⟩
            case measure => simp [intOf]; omega
      · obtain rfl : k = zs.length := by omega
        have HV := valid_all zs _ rfl Hb.out
        clear Hb
        go_wp2
        go_ret
        exact ⟨ret_bool (by rw [HV.out]; simp; omega), rfl⟩

theorem l1In_any (n lo hi : Int) (w : World) :
    Calls Tryd.prog 13 #[.int .i64 n, .int .i64 lo, .int .i64 hi] w fun e w' => e = .returned (.bool (inB n lo hi)) ∧ w = w' := by
  by_cases h1 : lo ≤ n <;> by_cases h2 : n ≤ hi
  all_goals
    go_enter Tryd.func13, Tryd.ntmps13
    go_wp2
    all_goals go_ret
    all_goals exact ⟨ret_bool (by simp [inB, h1, h2]), rfl⟩

theorem take_eq_succ (xs ys : List Int) (k : Nat) (hx : k < xs.length) (hy : k < ys.length) (h : xs.take k = ys.take k) (he : xs[k] = ys[k]) : xs.take (k + 1) = ys.take (k + 1) := by
  rw [take_succ' xs 0 k hx, take_succ' ys 0 k hy, h]; simp [List.getD, hx, hy, he]





end Go.Proofs.YtpfbmfnfcppjeabDoor
