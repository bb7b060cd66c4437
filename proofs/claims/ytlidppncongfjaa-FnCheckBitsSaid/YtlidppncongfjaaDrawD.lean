/-
  The drawn lists that pass the check, and bursts.
-/
import Derived.Test.YtlidppncongfjaaDrawC
namespace Go.Proofs.Ytlidppncongfjaa
open Go.RowKit

theorem emptySl (w : World) : OwnI w.heap.size (w.alloc (.cells #[] 3)) (.slice (some ⟨w.heap.size, 0, none⟩) 0 0) [] := World.ownsRow_made w #[] 0 (Nat.le_refl _) (by decide) rfl
theorem own_one (w : World) (y : Int) : OwnI w.heap.size (w.alloc (.cells #[.int .i64 y] 3)) (.slice (some ⟨w.heap.size, 0, none⟩) 1 1) [y] :=
  ⟨rfl, .inr ⟨w.heap.size, 1, #[.int .i64 y], rfl, Nat.le_refl _, heap_alloc_new w _, by simp, by simp [maxLen], rfl, rfl⟩⟩
theorem appL_bits (zs : List Int) (g : Int) : BitL (appL zs g) := by
  unfold appL; split
  · rename_i h
    simp only [Bool.and_eq_true] at h
    exact (bits_of h.1.1).app (cbits_bits _ _ _)
  · exact BitL.nil
theorem results4 {fn : Func} {t u v x : Tmp} (h : fn.results = #[.tmp t, .tmp u, .tmp v, .tmp x]) (tmps : Array Value) (P : Program) (w : World) :
    (results fn tmps).run P w = .ok (.tuple #[tmps.getD t undef, tmps.getD u undef, tmps.getD v undef, tmps.getD x undef]) w := by simp [results, h]
set_option maxHeartbeats 1000000 in
theorem DrawCheckPasses_any (zs : List Int) (v : Value) (w : World) (h : RowK .u8 w v zs) (hz : ∀ n ∈ zs, (Lit.int .u8 n).wf = true) :
    Calls Try.prog 19 #[v] w fun e w' => ∃ (a : Value) (xs : List Int) (s : Int), e = .returned (.tuple #[a, .int .i64 s]) ∧ OwnI w.heap.size w' a xs ∧ xs.length ≤ 1100 ∧ -1000 ≤ s ∧ s ≤ 200000 ∧ Below w.heap.size w w' := by
  go_enter Try.func19, Try.ntmps19
  go_wp2_with fail
  refine (l20Open_any _ _ _ h hz).mono ?_
  rintro e w1 ⟨rfl, hr, hb⟩
  have hsz := hb.size
  have hlt0 := hr.lt
  go_wp2_with fail
  refine (l20Generator_any _ _ _ _ _ hr (by omega) (by omega) (by omega)).mono ?_
  rintro e w2 ⟨g, rfl, hg0, hg1, hr2, hg2⟩
  have HBa := Lib.hid hb
  have hs2 := hg2.size
  go_wp2_with fail
  refine (l20Bits_any _ _ _ _ _ _ hr2 (by omega) (by omega) (by omega) (by omega) (by omega)).mono ?_
  rintro e w3 ⟨a, xs, rfl, ho, hl, hr3, hg3⟩
  have HG3 := Lib.hid (grown_trans hg2 hg3)
  have hs3 := hg3.size
  clear hb hg2 hg3 hr hr2
  go_wp2_with fail
  refine (pick_any _ _ _ _ _ hr3 (by omega) (by omega) (by omega)).mono ?_
  rintro e w4 ⟨t, rfl, ht0, ht1, hr4, hg4⟩
  have ho4 : OwnI w2.heap.size w4 a xs := ho.kept hg4 (Or.inr (fun e => by have := ho.lt _ e; omega))
  have HG4 := Lib.hid (grown_trans HG3.out hg4)
  have hs4 := hg4.size
  clear hg4 ho hr3 HG3
  cases ht : (t == 0)
  · go_wp2
    go_ret2
    exact ⟨a, xs, g, rfl, ho4.mono (by omega), by omega, hg0, hg1, below_open HBa.out HG4.out⟩
  · go_wp2_with fail
    refine (specCheckAppend_any xs g _ _ (row_of_own ho4)).mono ?_
    rintro e w5 ⟨r, rfl, ho5, hb5⟩
    have hr5 := hr4.below hb5
    have HG5 := Lib.hid (grown_own HG4.out (grown_of_below hb5 none) (fun j e => by cases e))
    have hs5 := hb5.size
    have hlen := appL_len xs g
    have HBI := Lib.hid (appL_bits xs g)
    clear hb5 ho4 hr4 HG4
    obtain ⟨ys, ey⟩ : ∃ ys, ys = appL xs g := ⟨_, rfl⟩
    rw [← ey] at ho5 hlen HBI
    clear ey
    obtain ⟨n, hn⟩ : ∃ n, n = ys.length := ⟨_, rfl⟩
    obtain ⟨a5, c5, hv5⟩ := (row_of_own ho5).form
    rw [← hn] at hv5 hlen
    subst hv5
    have HN := Lib.hid hn.symm
    clear hn
    by_cases hn0 : n = 0
    · subst hn0
      go_wp2
      go_ret2
      exact ⟨_, ys, g, rfl, ho5.mono (by omega), by have := HN.out; omega, hg0, hg1, below_open HBa.out HG5.out⟩
    · have hd : decide ((0 : Int) < (n : Int)) = true := decide_eq_true (by omega)
      have hnp : (0 : Int) < (n : Int) := by omega
      obtain ⟨g5, rfl⟩ := own_form_pos ho5 (by have := HN.out; omega)
      have hgl := ho5.lt g5 rfl
      clear hn0
      go_wp2_with fail
      refine (odd_any _ _ _ _ _ hr5 (by omega) (by omega) (by omega)).mono ?_
      rintro e w6 ⟨o, rfl, hr6, hg6⟩
      have ho6 : OwnI w4.heap.size w6 (.slice (some ⟨g5, 0, none⟩) n c5) ys := ho5.kept hg6 (Or.inr (by intro e; have e' : some g5 = some w.heap.size := e; cases e'; omega))
      have HG6 := Lib.hid (grown_trans HG5.out hg6)
      clear hg6 ho5 hr5 HG5
      cases o
      · go_wp2
        go_ret2
        exact ⟨_, ys, g, rfl, ho6.mono (by omega), by have := HN.out; omega, hg0, hg1, below_open HBa.out HG6.out⟩
      · go_wp2_with fail
        refine (pick_any _ _ _ _ _ hr6 (by omega) (by omega) (by omega)).mono ?_
        rintro e w7 ⟨k, rfl, hk0, hk1, hr7, hg7⟩
        obtain ⟨k, rfl⟩ := Int.eq_ofNat_of_zero_le hk0
        have ho7 : OwnI w4.heap.size w7 (.slice (some ⟨g5, 0, none⟩) n c5) ys := ho6.kept hg7 (Or.inr (by intro e; have e' : some g5 = some w.heap.size := e; cases e'; omega))
        have HG7 := Lib.hid (grown_trans HG6.out hg7)
        clear hg7 ho6 hr6 HG6
        obtain ⟨x, hx, hx2⟩ := bit_nat HBI.out k (by have := HN.out; omega)
        have hcell := ho7.cell HN.out k (by omega)
        rw [hx] at hcell
        have hf := ho7.free HN.out k
        have HST := Lib.hid (ho7.stored HN.out k (1 - (x : Int)))
        clear hx ho7
        go_wp2
        go_ret2
        exact ⟨_, ys.set k (1 - (x : Int)), g, rfl, HST.out.1.mono (by omega), by have := HN.out; rw [List.length_set]; omega, hg0, hg1, below_open HBa.out (grown_own HG7.out HST.out.2 (by intro j e; cases e; omega))⟩
set_option maxHeartbeats 1000000 in
theorem DrawBurstDetected_any (zs : List Int) (v : Value) (w : World) (h : RowK .u8 w v zs) (hz : ∀ n ∈ zs, (Lit.int .u8 n).wf = true) :
    Calls Try.prog 42 #[v] w fun e w' => ∃ (a b : Value) (xs ys : List Int) (s p : Int), e = .returned (.tuple #[a, .int .i64 s, .int .i64 p, b]) ∧ OwnI w.heap.size w' a xs ∧ OwnI w.heap.size w' b ys ∧ xs.length ≤ 1100 ∧ ys.length ≤ 1100 ∧ -1000 ≤ s ∧ s ≤ 200000 ∧ -1 ≤ p ∧ p ≤ 2000 ∧ Below w.heap.size w w' := by
  go_enter Try.func42, Try.ntmps42
  go_wp2_with fail
  refine (l20Open_any _ _ _ h hz).mono ?_
  rintro e w1 ⟨rfl, hr, hb⟩
  have hsz := hb.size
  have hlt0 := hr.lt
  go_wp2_with fail
  refine (l20Generator_any _ _ _ _ _ hr (by omega) (by omega) (by omega)).mono ?_
  rintro e w2 ⟨g, rfl, hg0, hg1, hr2, hg2⟩
  have HBa := Lib.hid hb
  have hs2 := hg2.size
  go_wp2_with fail
  refine (l20Bits_any _ _ _ _ _ _ hr2 (by omega) (by omega) (by omega) (by omega) (by omega)).mono ?_
  rintro e w3 ⟨a, xs, rfl, ho, hl, hr3, hg3⟩
  have HG3 := Lib.hid (grown_trans hg2 hg3)
  have hs3 := hg3.size
  clear hb hg2 hg3 hr hr2
  go_wp2_with fail
  refine (specCheckAppend_any xs g _ _ (row_of_own ho)).mono ?_
  rintro e w5 ⟨r, rfl, ho5, hb5⟩
  have hr5 := hr3.below hb5
  have HG5 := Lib.hid (grown_own HG3.out (grown_of_below hb5 none) (fun j e => by cases e))
  have hs5 := hb5.size
  have hlen := appL_len xs g
  clear hb5 ho hr3 HG3
  obtain ⟨ys, ey⟩ : ∃ ys, ys = appL xs g := ⟨_, rfl⟩
  rw [← ey] at ho5 hlen
  clear ey
  go_wp2_with fail
  refine (l20Bits_any _ _ _ _ _ _ hr5 (by omega) (by omega) (by omega) (by omega) (by omega)).mono ?_
  rintro e w6 ⟨b, bs, rfl, hob, hlb, hr6, hg6⟩
  have ho6 : OwnI w3.heap.size w6 r ys := ho5.kept hg6 (Or.inr (fun e => by have := ho5.lt _ e; omega))
  have HG6 := Lib.hid (grown_trans HG5.out hg6)
  have hs6 := hg6.size
  clear hg6 ho5 hr5 HG5
  go_wp2_with fail
  refine (odd_any _ _ _ _ _ hr6 (by omega) (by omega) (by omega)).mono ?_
  rintro e w7 ⟨o, rfl, hr7, hg7⟩
  have ho7 : OwnI w3.heap.size w7 r ys := ho6.kept hg7 (Or.inr (fun e => by have := ho6.lt _ e; omega))
  have hob7 : OwnI w5.heap.size w7 b bs := hob.kept hg7 (Or.inr (fun e => by have := hob.lt _ e; omega))
  have HG7 := Lib.hid (grown_trans HG6.out hg7)
  have hs7 := hg7.size
  clear hg7 ho6 hob hr6 HG6
  cases o
  · obtain ⟨n, hn⟩ : ∃ n, n = ys.length := ⟨_, rfl⟩
    obtain ⟨a5, c5, hv5⟩ := (row_of_own ho7).form
    rw [← hn] at hv5 hlen
    subst hv5
    have HN := Lib.hid hn.symm
    clear hn
    go_wp2_with fail
    refine (pick_any _ _ _ _ _ hr7 (by omega) (by omega) (by omega)).mono ?_
    rintro e w8 ⟨k, rfl, hk0, hk1, hr8, hg8⟩
    have ho8 : OwnI w3.heap.size w8 (.slice a5 n c5) ys := ho7.kept hg8 (Or.inr (fun e => by have := ho7.lt _ e; omega))
    have hob8 : OwnI w5.heap.size w8 b bs := hob7.kept hg8 (Or.inr (fun e => by have := hob7.lt _ e; omega))
    have HG8 := Lib.hid (grown_trans HG7.out hg8)
    clear hg8 ho7 hob7 hr7 HG7
    go_wp2_with fail
    refine bodyPost_ret (results4 rfl _ _ _) rfl ?_
    exact ⟨_, b, ys, bs, g, k - 1, rfl, ho8.mono (by omega), hob8.mono (by omega), by have := HN.out; omega, by omega, hg0, hg1, by omega, by omega, below_open HBa.out HG8.out⟩
  · clear ho7
    go_wp2_with fail
    refine (l20Bits_any _ _ _ _ _ _ hr7 (by omega) (by omega) (by omega) (by omega) (by omega)).mono ?_
    rintro e w9 ⟨q, qs, rfl, hoq, hlq, hr9, hg9⟩
    have hob9 : OwnI w5.heap.size w9 b bs := hob7.kept hg9 (Or.inr (fun e => by have := hob7.lt _ e; omega))
    have HG9 := Lib.hid (grown_trans HG7.out hg9)
    have hs9 := hg9.size
    clear hg9 hob7 hr7 HG7
    obtain ⟨n, hn⟩ : ∃ n, n = qs.length := ⟨_, rfl⟩
    obtain ⟨a5, c5, hv5⟩ := (row_of_own hoq).form
    rw [← hn] at hv5 hlq
    subst hv5
    have HN := Lib.hid hn.symm
    clear hn
    go_wp2_with fail
    refine (pick_any _ _ _ _ _ hr9 (by omega) (by omega) (by omega)).mono ?_
    rintro e w8 ⟨k, rfl, hk0, hk1, hr8, hg8⟩
    have ho8 : OwnI w7.heap.size w8 (.slice a5 n c5) qs := hoq.kept hg8 (Or.inr (fun e => by have := hoq.lt _ e; omega))
    have hob8 : OwnI w5.heap.size w8 b bs := hob9.kept hg8 (Or.inr (fun e => by have := hob9.lt _ e; omega))
    have HG8 := Lib.hid (grown_trans HG9.out hg8)
    clear hg8 hoq hob9 hr9 HG9
    go_wp2_with fail
    refine bodyPost_ret (results4 rfl _ _ _) rfl ?_
    exact ⟨_, b, qs, bs, g, k - 1, rfl, ho8.mono (by omega), hob8.mono (by omega), by have := HN.out; omega, by omega, hg0, hg1, by omega, by omega, below_open HBa.out HG8.out⟩
end Go.Proofs.Ytlidppncongfjaa
