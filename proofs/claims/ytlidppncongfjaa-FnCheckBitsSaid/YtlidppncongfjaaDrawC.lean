/-
  The drawn generator polynomials and the lists that go with them.
-/
import Derived.Test.YtlidppncongfjaaDraw2
import Derived.Test.YtlidppncongfjaaChk9
namespace Go.Proofs.Ytlidppncongfjaa
open Go.RowKit

theorem wf_small {g : Int} (h0 : -1000000 ≤ g) (h1 : g ≤ 1000000) : (Lit.int .i64 g).wf = true := by
  simp [Lit.wf, IntKind.min, IntKind.max, IntKind.signed, IntKind.bits]; omega
def genA : List Int := [0, 1, 2, 131072, 131073, -3]
def genC (x : Int) : List Int := [3, 7, 11, 19, 25, 37, 263, 69665, 65537, x]
theorem genA_at (w : World) : ∀ i, i < 6 → (w.alloc (.cells #[.int .i64 0, .int .i64 1, .int .i64 2, .int .i64 131072, .int .i64 131073, .int .i64 (-3)] 3)).cell? ⟨w.heap.size, i, none⟩ = some (.int .i64 (genA.getD i 0)) := by
  intro i hi
  rw [World.cell?_alloc_at _ _ _ _ rfl]
  match i, hi with
  | 0, _ => rfl
  | 1, _ => rfl
  | 2, _ => rfl
  | 3, _ => rfl
  | 4, _ => rfl
  | 5, _ => rfl
theorem genC_at (w : World) (x : Int) : ∀ i, i < 10 → (w.alloc (.cells #[.int .i64 3, .int .i64 7, .int .i64 11, .int .i64 19, .int .i64 25, .int .i64 37, .int .i64 263, .int .i64 69665, .int .i64 65537, .int .i64 x] 3)).cell? ⟨w.heap.size, i, none⟩ = some (.int .i64 ((genC x).getD i 0)) := by
  intro i hi
  rw [World.cell?_alloc_at _ _ _ _ rfl]
  match i, hi with
  | 0, _ => rfl
  | 1, _ => rfl
  | 2, _ => rfl
  | 3, _ => rfl
  | 4, _ => rfl
  | 5, _ => rfl
  | 6, _ => rfl
  | 7, _ => rfl
  | 8, _ => rfl
  | 9, _ => rfl
theorem genA_le : ∀ i, i < 6 → -1000 ≤ genA.getD i 0 ∧ genA.getD i 0 ≤ 200000 := by decide
theorem genC_le (x : Int) (h0 : 0 ≤ x) (h1 : x ≤ 1000) : ∀ i, i < 10 → -1000 ≤ (genC x).getD i 0 ∧ (genC x).getD i 0 ≤ 200000 := by
  intro i hi
  match i, hi with
  | 0, _ => show -1000 ≤ (3 : Int) ∧ (3 : Int) ≤ 200000; omega
  | 1, _ => show -1000 ≤ (7 : Int) ∧ (7 : Int) ≤ 200000; omega
  | 2, _ => show -1000 ≤ (11 : Int) ∧ (11 : Int) ≤ 200000; omega
  | 3, _ => show -1000 ≤ (19 : Int) ∧ (19 : Int) ≤ 200000; omega
  | 4, _ => show -1000 ≤ (25 : Int) ∧ (25 : Int) ≤ 200000; omega
  | 5, _ => show -1000 ≤ (37 : Int) ∧ (37 : Int) ≤ 200000; omega
  | 6, _ => show -1000 ≤ (263 : Int) ∧ (263 : Int) ≤ 200000; omega
  | 7, _ => show -1000 ≤ (69665 : Int) ∧ (69665 : Int) ≤ 200000; omega
  | 8, _ => show -1000 ≤ (65537 : Int) ∧ (65537 : Int) ≤ 200000; omega
  | 9, _ => show -1000 ≤ x ∧ x ≤ 200000; omega
set_option maxHeartbeats 800000 in
theorem l20Generator_any (n : Int) (S B m : Nat) (w : World) (h : Rd w S B m) (hm : m ≤ 100000) (hn : 0 ≤ n) (hn2 : n ≤ 1000) :
    Calls Try.prog 45 #[.pointer (some ⟨B, 0, none⟩), .int .i64 n] w fun e w' => ∃ r : Int, e = .returned (.int .i64 r) ∧ -1000 ≤ r ∧ r ≤ 200000 ∧ Rd w' S B (m + 4) ∧ w.grownBy w' (some B) := by
  go_enter Try.func45, Try.ntmps45
  go_wp2_with fail
  refine (odd_any _ _ _ _ _ h (by omega) (by omega) (by omega)).mono ?_
  rintro e w1 ⟨t, rfl, hr1, hg1⟩
  clear h
  cases t
  · go_wp2_with fail
    refine (pick_any _ _ _ _ _ hr1 (by omega) (by omega) (by omega)).mono ?_
    rintro e w2 ⟨x, rfl, h0, h1, hr2, hg2⟩
    have hr3 := hr2.below ((Below.refl _ w2).alloc (Nat.le_refl _) (.cells #[.int .i64 3, .int .i64 7, .int .i64 11, .int .i64 19, .int .i64 25, .int .i64 37, .int .i64 263, .int .i64 69665, .int .i64 65537, .int .i64 (2 * x + 3)] 3))
    have HG3 := Lib.hid (grown_trans (grown_trans hg1 hg2) (World.grownBy_alloc w2 (.cells #[.int .i64 3, .int .i64 7, .int .i64 11, .int .i64 19, .int .i64 25, .int .i64 37, .int .i64 263, .int .i64 69665, .int .i64 65537, .int .i64 (2 * x + 3)] 3) (some B)))
    have HC := Lib.hid (genC_at w2 (2 * x + 3))
    have HL := Lib.hid (genC_le (2 * x + 3) (by omega) (by omega))
    have hlt : B < w2.heap.size := hr2.lt
    clear hr1 hr2 hg1 hg2
    go_wp2_with fail
    refine (pick_any _ _ _ _ _ hr3 (by omega) (by omega) (by omega)).mono ?_
    rintro e w4 ⟨r, rfl, h2, h3, hr4, hg4⟩
    obtain ⟨r, rfl⟩ := Int.eq_ofNat_of_zero_le h2
    have hr10 : r < 10 := by omega
    obtain ⟨y, ey⟩ : ∃ y, y = (genC (2 * x + 3)).getD r 0 := ⟨_, rfl⟩
    have hle := HL.out r hr10
    have hc := hg4.cell (HC.out r hr10) (by simp; omega)
    rw [← ey] at hle hc
    have HG4 := Lib.hid (grown_trans HG3.out hg4)
    clear hg4 hr3 ey
    go_wp2_with fail
    go_ret
    exact ⟨y, rfl, hle.1, hle.2, hr4.more (by omega), HG4.out⟩
  · have hr3 := hr1.below ((Below.refl _ w1).alloc (Nat.le_refl _) (.cells #[.int .i64 0, .int .i64 1, .int .i64 2, .int .i64 131072, .int .i64 131073, .int .i64 (-3)] 3))
    have HG3 := Lib.hid (grown_trans hg1 (World.grownBy_alloc w1 (.cells #[.int .i64 0, .int .i64 1, .int .i64 2, .int .i64 131072, .int .i64 131073, .int .i64 (-3)] 3) (some B)))
    have HC := Lib.hid (genA_at w1)
    have hlt : B < w1.heap.size := hr1.lt
    clear hr1 hg1
    go_wp2_with fail
    refine (pick_any _ _ _ _ _ hr3 (by omega) (by omega) (by omega)).mono ?_
    rintro e w4 ⟨r, rfl, h2, h3, hr4, hg4⟩
    obtain ⟨r, rfl⟩ := Int.eq_ofNat_of_zero_le h2
    have hr6 : r < 6 := by omega
    obtain ⟨y, ey⟩ : ∃ y, y = genA.getD r 0 := ⟨_, rfl⟩
    have hle := genA_le r hr6
    have hc := hg4.cell (HC.out r hr6) (by simp; omega)
    rw [← ey] at hle hc
    have HG4 := Lib.hid (grown_trans HG3.out hg4)
    clear hg4 hr3 ey
    go_wp2_with fail
    go_ret
    exact ⟨y, rfl, hle.1, hle.2, hr4.more (by omega), HG4.out⟩
set_option maxHeartbeats 400000 in
theorem DrawDegreeOf_any (zs : List Int) (v : Value) (w : World) (h : RowK .u8 w v zs) (hz : ∀ n ∈ zs, (Lit.int .u8 n).wf = true) :
    Calls Try.prog 33 #[v] w fun e w' => ∃ r : Int, e = .returned (.int .i64 r) ∧ -1000 ≤ r ∧ r ≤ 200000 ∧ Below w.heap.size w w' := by
  go_enter Try.func33, Try.ntmps33
  go_wp2_with fail
  refine (l20Open_any _ _ _ h hz).mono ?_
  rintro e w1 ⟨rfl, hr, hb⟩
  go_wp2_with fail
  refine (l20Generator_any _ _ _ _ _ hr (by omega) (by omega) (by omega)).mono ?_
  rintro e w2 ⟨r, rfl, h0, h1, hr2, hg⟩
  go_wp2_with fail
  go_ret
  exact ⟨r, rfl, h0, h1, below_open hb hg⟩
set_option maxHeartbeats 400000 in
theorem DrawGeneratorValid_any (zs : List Int) (v : Value) (w : World) (h : RowK .u8 w v zs) (hz : ∀ n ∈ zs, (Lit.int .u8 n).wf = true) :
    Calls Try.prog 32 #[v] w fun e w' => ∃ r : Int, e = .returned (.int .i64 r) ∧ -1000 ≤ r ∧ r ≤ 200000 ∧ Below w.heap.size w w' := by
  go_enter Try.func32, Try.ntmps32
  go_wp2_with fail
  refine (l20Open_any _ _ _ h hz).mono ?_
  rintro e w1 ⟨rfl, hr, hb⟩
  go_wp2_with fail
  refine (pick_any _ _ _ _ _ hr (by omega) (by omega) (by omega)).mono ?_
  rintro e w2 ⟨t, rfl, h0, h1, hr2, hg2⟩
  have HB := Lib.hid (below_open hb hg2)
  have HGa := Lib.hid hg2
  have HBa := Lib.hid hb
  clear hb hg2 hr
  cases ht : (t == 0)
  · go_wp2_with fail
    refine (l20Generator_any _ _ _ _ _ hr2 (by omega) (by omega) (by omega)).mono ?_
    rintro e w3 ⟨r, rfl, h0, h1, hr3, hg3⟩
    have HB3 := Lib.hid (below_open HBa.out (grown_trans HGa.out hg3))
    clear hg3
    go_wp2_with fail
    go_ret
    exact ⟨r, rfl, h0, h1, HB3.out⟩
  · go_wp2_with fail
    refine (pick_any _ _ _ _ _ hr2 (by omega) (by omega) (by omega)).mono ?_
    rintro e w3 ⟨r, rfl, h0, h1, hr3, hg3⟩
    have HB3 := Lib.hid (below_open HBa.out (grown_trans HGa.out hg3))
    clear hg3
    go_wp2_with fail
    go_ret
    exact ⟨r * 600 - 50, rfl, by omega, by omega, HB3.out⟩
set_option maxHeartbeats 400000 in
theorem DrawCheckBits_any (zs : List Int) (v : Value) (w : World) (h : RowK .u8 w v zs) (hz : ∀ n ∈ zs, (Lit.int .u8 n).wf = true) :
    Calls Try.prog 41 #[v] w fun e w' => ∃ (a : Value) (xs : List Int) (s : Int), e = .returned (.tuple #[a, .int .i64 s]) ∧ OwnI w.heap.size w' a xs ∧ xs.length ≤ 1100 ∧ -1000 ≤ s ∧ s ≤ 200000 ∧ Below w.heap.size w w' := by
  go_enter Try.func41, Try.ntmps41
  go_wp2_with fail
  refine (l20Open_any _ _ _ h hz).mono ?_
  rintro e w1 ⟨rfl, hr, hb⟩
  have hsz := hb.size
  have hlt0 := hr.lt
  go_wp2_with fail
  refine (l20Bits_any _ _ _ _ _ _ hr (by omega) (by omega) (by omega) (by omega) (by omega)).mono ?_
  rintro e w2 ⟨a, xs, rfl, ho, hl, hr2, hg2⟩
  have HBa := Lib.hid hb
  have HGa := Lib.hid hg2
  clear hb hg2 hr
  go_wp2_with fail
  refine (l20Generator_any _ _ _ _ _ hr2 (by omega) (by omega) (by omega)).mono ?_
  rintro e w3 ⟨r, rfl, h0, h1, hr3, hg3⟩
  have ho3 : OwnI w1.heap.size w3 a xs := ho.kept hg3 (Or.inr (fun e => by have := ho.lt _ e; omega))
  have HB3 := Lib.hid (below_open HBa.out (grown_trans HGa.out hg3))
  clear hg3 ho
  go_wp2_with fail
  go_ret2
  exact ⟨a, xs, r, rfl, ho3.mono hsz, by omega, h0, h1, HB3.out⟩
set_option maxHeartbeats 400000 in
theorem DrawCheckAppend_any (zs : List Int) (v : Value) (w : World) (h : RowK .u8 w v zs) (hz : ∀ n ∈ zs, (Lit.int .u8 n).wf = true) :
    Calls Try.prog 28 #[v] w fun e w' => ∃ (a : Value) (xs : List Int) (s : Int), e = .returned (.tuple #[a, .int .i64 s]) ∧ OwnI w.heap.size w' a xs ∧ xs.length ≤ 1100 ∧ -1000 ≤ s ∧ s ≤ 200000 ∧ Below w.heap.size w w' := by
  go_enter Try.func28, Try.ntmps28
  go_wp2_with fail
  refine (l20Open_any _ _ _ h hz).mono ?_
  rintro e w1 ⟨rfl, hr, hb⟩
  have hsz := hb.size
  have hlt0 := hr.lt
  go_wp2_with fail
  refine (l20Bits_any _ _ _ _ _ _ hr (by omega) (by omega) (by omega) (by omega) (by omega)).mono ?_
  rintro e w2 ⟨a, xs, rfl, ho, hl, hr2, hg2⟩
  have HBa := Lib.hid hb
  have HGa := Lib.hid hg2
  clear hb hg2 hr
  go_wp2_with fail
  refine (odd_any _ _ _ _ _ hr2 (by omega) (by omega) (by omega)).mono ?_
  rintro e w3 ⟨t, rfl, hr3, hg3⟩
  have ho3 : OwnI w1.heap.size w3 a xs := ho.kept hg3 (Or.inr (fun e => by have := ho.lt _ e; omega))
  have HG3 := Lib.hid (grown_trans HGa.out hg3)
  clear hg3 ho hr2 HGa
  cases t
  · go_wp2_with fail
    refine (l20Generator_any _ _ _ _ _ hr3 (by omega) (by omega) (by omega)).mono ?_
    rintro e w4 ⟨r, rfl, h0, h1, hr4, hg4⟩
    have ho4 : OwnI w1.heap.size w4 a xs := ho3.kept hg4 (Or.inr (fun e => by have := ho3.lt _ e; omega))
    have HB4 := Lib.hid (below_open HBa.out (grown_trans HG3.out hg4))
    clear hg4 ho3
    go_wp2_with fail
    go_ret2
    exact ⟨a, xs, r, rfl, ho4.mono hsz, by omega, h0, h1, HB4.out⟩
  · go_wp2_with fail
    refine (pick_any _ _ _ _ _ hr3 (by omega) (by omega) (by omega)).mono ?_
    rintro e w4 ⟨x, rfl, hx0, hx1, hr4, hg4⟩
    obtain ⟨x, rfl⟩ := Int.eq_ofNat_of_zero_le hx0
    have HG4 := Lib.hid (grown_trans HG3.out hg4)
    have hsz4 := HG4.out.size
    have hB4 := hr4.lt
    clear hg4 ho3 hr3 HG3
    go_wp2_with (at_make; refine wp_make tabI _ rfl _ _ rfl (1019 + x) (by show Value.int .i64 (1019 + (x : Int)) = _; simp) (by show Value.int .i64 (1019 + (x : Int)) = _; simp) (by omega) ?_; intro w5 hown5 hbel5 hsz5)
    have hr5 := hr4.below hbel5
    have HG5 := Lib.hid (grown_own HG4.out (grown_of_below hbel5 none) (fun j e => by cases e))
    clear hbel5
    refine (l20Generator_any _ _ _ _ _ hr5 (by omega) (by omega) (by omega)).mono ?_
    rintro e w6 ⟨r, rfl, h0, h1, hr6, hg6⟩
    have ho6 : OwnI w4.heap.size w6 _ _ := hown5.kept hg6 (Or.inr (fun e => by have := hown5.lt _ e; omega))
    have HB6 := Lib.hid (below_open HBa.out (grown_trans HG5.out hg6))
    clear hg6
    go_wp2_with fail
    go_ret2
    exact ⟨_, List.replicate (1019 + x) 0, r, rfl, ho6.mono (by omega), by rw [List.length_replicate]; omega, h0, h1, HB6.out⟩
end Go.Proofs.Ytlidppncongfjaa
