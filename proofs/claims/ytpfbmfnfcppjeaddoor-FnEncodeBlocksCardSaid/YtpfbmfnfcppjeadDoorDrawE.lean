/-
  Drawn lists of blocks.
-/
import Derived.Test.YtpfbmfnfcppjeadDoorDrawB
import Derived.Test.YtpfbmfnfcppjeadDoorEnc8
namespace Go.Proofs.YtpfbmfnfcppjeadDoor
open Go.RowKit
set_option maxHeartbeats 800000 in
theorem DrawEncodeBlocks_any (zs : List Int) (v : Value) (w : World) (h : RowK .u8 w v zs) (hz : ∀ n ∈ zs, (Lit.int .u8 n).wf = true) :
    Calls Tryd.prog 4 #[v] w fun e w' => ∃ (a : Value) (xs : List Int), e = .returned a ∧ OwnI w.heap.size w' a xs ∧ xs.length ≤ 1025 ∧ Below w.heap.size w w' := by
  go_enter Tryd.func4, Tryd.ntmps4
  go_wp2_with fail
  refine (l20Open_any _ _ _ h hz).mono ?_
  rintro e w1 ⟨rfl, hr, hb⟩
  have hsz := hb.size
  go_wp2_with fail
  refine (odd_any _ _ _ _ _ hr (by omega) (by omega) (by omega)).mono ?_
  rintro e w2 ⟨t, rfl, hr2, hg2⟩
  have hsz2 := hg2.size
  have HB := Lib.hid (below_open hb hg2)
  clear hb hg2 hr
  cases t
  · go_wp2_with fail
    refine (pick_any _ _ _ _ _ hr2 (by omega) (by omega) (by omega)).mono ?_
    rintro e w3 ⟨p1, rfl, h10, h11, hr3, hg3⟩
    have HB3 := Lib.hid (below_open HB.out hg3)
    have hsz3 := hg3.size
    clear hr2 hg3
    go_wp2_with fail
    refine (pick_any _ _ _ _ _ hr3 (by omega) (by omega) (by omega)).mono ?_
    rintro e w4 ⟨p2, rfl, h20, h21, hr4, hg4⟩
    have HB4 := Lib.hid (below_open HB3.out hg4)
    have hsz4 := hg4.size
    have hq : p2.tdiv 8 = p2 / 8 := Int.tdiv_eq_ediv_of_nonneg h20
    have hq2 : 0 ≤ p2 / 8 ∧ p2 / 8 ≤ 1 := by omega
    clear hr3 hg4
    go_wp2_with fail
    refine (l20Fixed_any _ _ _ _ _ _ hr4 (by omega) (by omega) (by omega) (by omega) (by omega)).mono ?_
    rintro e w5 ⟨a, xs, rfl, ho, hl, hr5, hg5⟩
    go_wp2_with fail
    go_ret
    exact ⟨a, xs, rfl, ho.mono (by omega), by omega, below_open HB4.out hg5⟩
  · go_wp2_with fail
    refine (pick_any _ _ _ _ _ hr2 (by omega) (by omega) (by omega)).mono ?_
    rintro e w3 ⟨t2, rfl, ht0, ht1, hr3, hg3⟩
    have hsz3 := hg3.size
    obtain ⟨n, hn⟩ : ∃ n : Nat, (n : Int) = 512 + 4 * t2 := ⟨(512 + 4 * t2).toNat, by omega⟩
    have hnle : n ≤ 1025 := by omega
    have HB3 := Lib.hid (below_open HB.out hg3)
    have hwr : (512 : Int) + 4 * t2 = (n : Int) := hn.symm
    clear hn hg3 hr2 hr3
    go_wp2_with (at_make; refine wp_make tabI _ rfl _ _ rfl n rfl rfl (by omega) ?_; intro w4 hown hbel hs4)
    go_ret
    exact ⟨_, List.replicate n 0, rfl, hown.mono (by omega), by simpa using hnle, HB3.out.trans (hbel.mono (by omega))⟩
end Go.Proofs.YtpfbmfnfcppjeadDoor
