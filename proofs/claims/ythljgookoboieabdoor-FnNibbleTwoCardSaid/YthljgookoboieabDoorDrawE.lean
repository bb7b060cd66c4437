/-
  Drawn lists of blocks.
-/
import Derived.Test.YthljgookoboieabDoorDrawB
import Derived.Test.YthljgookoboieabDoorEnc8
namespace Go.Proofs.YthljgookoboieabDoor
open Go.RowKit
set_option maxHeartbeats 800000 in
theorem DrawEncodeBlocks_any (zs : List Int) (v : Value) (w : World) (h : RowK .u8 w v zs) (hz : ∀ n ∈ zs, (Lit.int .u8 n).wf = true) :
    Calls Tryd.prog 26 #[v] w fun e w' => ∃ (a : Value) (xs : List Int), e = .returned a ∧ OwnI w.heap.size w' a xs ∧ xs.length ≤ 1025 ∧ Below w.heap.size w w' := by
  go_enter Tryd.func26, Tryd.ntmps26
  go_wp2_with fail
  refine (l20Open_any _ _ _ h hz).mono ?_
  rintro e w1 ⟨rfl, hr, hb⟩
  have hsz := hb.size
  go_wp2_with fail
  refine (odd_any _ _ _ _ _ hr (by omega) (by omega) (by omega)).mono ?_
  rintro e w2 ⟨t, rfl, hr2, hg2⟩
  have hsz2 := hg2.size
  have HB := Lib.hid (below_open hb hg2)
  clear hb hg2 hr
  cases t
  · go_wp2_with fail
    refine (pick_any _ _ _ _ _ hr2 (by omega) (by omega) (by omega)).mono ?_
    rintro e w3 ⟨p1, rfl, h10, h11, hr3, hg3⟩
    have HB3 := Lib.hid (below_open HB.out hg3)
    have hsz3 := hg3.size
    clear hr2 hg3
    go_wp2_with fail
    refine (pick_any _ _ _ _ _ hr3 (by omega) (by omega) (by omega)).mono ?_
    rintro e w4 ⟨p2, rfl, h20, h21, hr4, hg4⟩
    have HB4 := Lib.hid (below_open HB3.out hg4)
    have hsz4 := hg4.size
    have hq : p2.tdiv 8 = p2 / 8 := Int.tdiv_eq_ediv_of_nonneg h20
    have hq2 : 0 ≤ p2 / 8 ∧ p2 / 8 ≤ 1 := by omega
    clear hr3 hg4
    go_wp2_with fail
    refine (l20Fixed_any _ _ _ _ _ _ hr4 (by omega) (by omega) (by omega) (by omega) (by omega)).mono ?_
    rintro e w5 ⟨a, xs, rfl, ho, hl, hr5, hg5⟩
    go_wp2_with fail
    go_ret
    exact ⟨a, xs, rfl, ho.mono (by omega), by omega, below_open HB4.out hg5⟩
  · go_wp2_with fail
    refine (pick_any _ _ _ _ _ hr2 (by omega) (by omega) (by omega)).mono ?_
    rintro e w3 ⟨t2, rfl, ht0, ht1, hr3, hg3⟩
    have hsz3 := hg3.size
    obtain ⟨n, hn⟩ : ∃ n : Nat, (n : Int) = 512 + 4 * t2 := ⟨(512 + 4 * t2).toNat, by omega⟩
    have hnle : n ≤ 1025 := by omega
    have HB3 := Lib.hid (below_open HB.out hg3)
    have hwr : (512 : Int) + 4 * t2 = (n : Int) := hn.symm
    clear hn hg3 hr2 hr3
    go_wp2_with (at_make; refine wp_make tabI _ rfl _ _ rfl n rfl rfl (by omega) ?_; intro w4 hown hbel hs4)
    go_ret
    exact ⟨_, List.replicate n 0, rfl, hown.mono (by omega), by simpa using hnle, HB3.out.trans (hbel.mono (by omega))⟩
set_option maxHeartbeats 1600000 in
theorem DrawDecodeBlocks_any (zs : List Int) (v : Value) (w : World) (h : RowK .u8 w v zs) (hz : ∀ n ∈ zs, (Lit.int .u8 n).wf = true) :
    Calls Tryd.prog 29 #[v] w fun e w' => ∃ (a : Value) (xs : List Int), e = .returned a ∧ OwnI w.heap.size w' a xs ∧ xs.length ≤ 1025 ∧ Below w.heap.size w w' := by
  go_enter Tryd.func29, Tryd.ntmps29
  go_wp2_with fail
  refine (l20Open_any _ _ _ h hz).mono ?_
  rintro e w1 ⟨rfl, hr, hb⟩
  have hsz := hb.size
  go_wp2_with fail
  refine (pick_any _ _ _ _ _ hr (by omega) (by omega) (by omega)).mono ?_
  rintro e w3 ⟨p1, rfl, h10, h11, hr3, hg3⟩
  have HB3 := Lib.hid (below_open hb hg3)
  have hsz3 := hg3.size
  clear hr hg3 hb
  go_wp2_with fail
  refine (l20Fixed_any _ _ _ _ _ _ hr3 (by omega) (by omega) (by omega) (by omega) (by omega)).mono ?_
  rintro e w5 ⟨a, xs, rfl, ho, hl, hr5, hg5⟩
  have HB5 := Lib.hid (below_open HB3.out hg5)
  have hsz5 := hg5.size
  have hl5 := hr5.lt
  clear hr3 hg5
  go_wp2_with fail
  refine (specEncodeBlocks_any xs _ _ (row_of_own ho)).mono ?_
  rintro e w6 ⟨r, rfl, ho6, hb6⟩
  have hsz6 := hb6.size
  have hr6 := hr5.below hb6
  have HB6 := Lib.hid (below_step HB5.out hb6)
  have hlen := encL_len xs
  have hbits := bits_of (encL_valid xs)
  have hge := hr6.ge
  have hlt := hr6.lt
  obtain ⟨ys, ey⟩ : ∃ ys, ys = encL xs := ⟨_, rfl⟩
  rw [← ey] at ho6 hlen hbits
  clear ey ho hb6 hr5
  obtain ⟨n, hn⟩ : ∃ n, n = ys.length := ⟨_, rfl⟩
  obtain ⟨ab, cb, hvb⟩ := (row_of_own ho6).form
  rw [← hn] at hvb
  subst hvb
  have HN := Lib.hid hn.symm
  rw [← hn] at hlen
  clear hn
  go_wp2_with fail
  go_loopw [5] (fun i wr => ∃ (k : Nat) (ys : List Int), k ≤ n ∧ i = .int .i64 k ∧ ys.length = n ∧ Hid (BitL ys) ∧ OwnI w5.heap.size wr (.slice ab n cb) ys ∧ Rd wr w.heap.size w.heap.size (3000 + 2 * k) ∧ Below w.heap.size w wr ∧ w5.heap.size ≤ wr.heap.size) (fun i _ => n - (intOf i).toNat)
  case atStart => exact ⟨0, ys, Nat.zero_le _, rfl, HN.out, hbits, ho6, hr6.more (by omega), HB6.out, hsz6⟩
  case round =>
    obtain ⟨k, ys, hk, rfl, hyn, HBI, hob, hrd, hg, hs5⟩ := hrel
    have HY := Lib.hid hyn
    clear hyn
    by_cases hlt2 : k < n
    · obtain ⟨g, rfl⟩ := own_form_pos hob (by have := HY.out; omega)
      have hgb := (hob.lt g rfl).1
      go_wp2_with fail
      refine (pick_any _ _ _ _ _ hrd (by omega) (by omega) (by omega)).mono ?_
      rintro e w7 ⟨t, rfl, ht0, ht1, hrd4, hg4⟩
      have hob4 : OwnI w5.heap.size w7 (.slice (some ⟨g, 0, none⟩) n cb) ys := hob.kept hg4 (Or.inr (fun e => by have := hob.lt w.heap.size e; omega))
      have HG4 := Lib.hid (below_open hg hg4)
      have hs7 : w5.heap.size ≤ w7.heap.size := Nat.le_trans hs5 hg4.size
      clear hg hg4 hob hrd
      cases hb : (t == 0)
      · go_wp2_with fail
        go_roundw
        case rel => first | exact ⟨k + 1, ys, by omega, by go_num, HY.out, HBI, hob4, hrd4.more (by omega), HG4.out, hs7⟩ | ((repeat apply Exists.intro); exact ⟨⟨k + 1, ys, by omega, by go_num, HY.out, HBI, hob4, hrd4.more (by omega), HG4.out, hs7⟩, rfl⟩)
        case measure => simp [intOf]; omega
      · have hlk : k < ys.length := by have := HY.out; omega
        obtain ⟨x, hx, hx2⟩ := bit_nat HBI.out k hlk
        have hcell := hob4.cell HY.out k hlt2
        rw [hx] at hcell
        have hfree := hob4.free HY.out k
        have HST := Lib.hid (hob4.stored HY.out k (1 - (x : Int)))
        have HBJ : Hid (BitL (ys.set k (1 - (x : Int)))) := by have := flip_bits HBI.out k hlk; rw [flipAt, hx] at this; exact this
        clear hob4 hx
        go_wp2_with fail
        go_roundw
        have hsf : w5.heap.size ≤ (w7.setCell ⟨g, k, none⟩ (.int .i64 (1 - (x : Int)))).heap.size := by simp; omega
        have hfin : Rd (w7.setCell ⟨g, k, none⟩ (.int .i64 (1 - (x : Int)))) w.heap.size w.heap.size (3000 + 2 * (k + 1)) ∧ Below w.heap.size w (w7.setCell ⟨g, k, none⟩ (.int .i64 (1 - (x : Int)))) :=
          ⟨(hrd4.grown HST.out.2 (fun j e => by cases e; omega)).more (by omega), below_mark HG4.out HST.out.2 (fun j e => by cases e; omega)⟩
        case rel => first | exact ⟨k + 1, ys.set k (1 - (x : Int)), by omega, by go_num, by rw [List.length_set]; exact HY.out, HBJ, HST.out.1, hfin.1, hfin.2, hsf⟩ | ((repeat apply Exists.intro); exact ⟨⟨k + 1, ys.set k (1 - (x : Int)), by omega, by go_num, by rw [List.length_set]; exact HY.out, HBJ, HST.out.1, hfin.1, hfin.2, hsf⟩, rfl⟩)
        case measure => simp [intOf]; omega
    · obtain rfl : k = n := by omega
      go_wp2_with fail
      refine (odd_any _ _ _ _ _ hrd (by omega) (by omega) (by omega)).mono ?_
      rintro e w7 ⟨t, rfl, hrd4, hg4⟩
      have hob4 : OwnI w5.heap.size w7 (.slice ab k cb) ys := hob.kept hg4 (Or.inr (fun e => by have := hob.lt w.heap.size e; omega))
      have HG4 := Lib.hid (below_open hg hg4)
      have hsz7 := HG4.out.size
      have hs7 : w5.heap.size ≤ w7.heap.size := Nat.le_trans hs5 hg4.size
      clear hg hg4 hob hrd
      cases t
      · go_wp2
        go_ret
        exact ⟨_, ys, rfl, hob4.mono (by omega), by have := HY.out; omega, HG4.out⟩
      · go_wp2_with fail
        refine (pick_any _ _ _ _ _ hrd4 (by omega) (by omega) (by omega)).mono ?_
        rintro e w8 ⟨t2, rfl, ht0, ht1, hrd5, hg5⟩
        have hob5 : OwnI w5.heap.size w8 (.slice ab k cb) ys := hob4.kept hg5 (Or.inr (fun e => by have := hob4.lt w.heap.size e; omega))
        have HG5 := Lib.hid (below_open HG4.out hg5)
        have hsz8 := hg5.size
        clear hg5 hob4 hrd4
        have hs58 : w5.heap.size ≤ w8.heap.size := by omega
        go_wp2_with (at_builtin; refine wp_app1 tabI w8 _ t2 rfl rfl rfl rfl rfl _ _ rfl w5.heap.size _ ys rfl 1 rfl hob5 (by have := HY.out; omega) hs58 ?_; intro v' w' hown' hgrow hnew)
        go_ret
        exact ⟨_, ys ++ [t2], rfl, hown'.mono (by omega), by have := HY.out; simp; omega, below_mark HG5.out hgrow (fun j e => by have := hob5.lt j e; omega)⟩
end Go.Proofs.YthljgookoboieabDoor
