/-
  The drawn lists of bits, and the fixed answer.
-/
import Derived.Test.YtelaceakilhpcaaDraw
import Derived.Test.YtelaceakilhpcaaHam
namespace Go.Proofs.Ytelaceakilhpcaa
open Go.RowKit

theorem own_form_pos {e : Nat} {k : IntKind} {B : Nat} {w : World} {a : Option Addr} {n cap : Nat} {zs : List Int} (h : OwnK e k B w (.slice a n cap) zs) (hp : 0 < zs.length) : ∃ g, a = some ⟨g, 0, none⟩ := by
  rcases h.form with ⟨_, h0⟩ | ⟨g, c, e, _⟩
  · subst h0; simp at hp
  · cases e; exact ⟨g, rfl⟩
set_option maxHeartbeats 800000 in
theorem l20Twin_any (most : Int) (S B m : Nat) (w : World) (h : Rd w S B m) (hm : m ≤ 9000) (h1 : 0 ≤ most) (h2 : most ≤ 100) :
    Calls Try.prog 47 #[.pointer (some ⟨B, 0, none⟩), .int .i64 most] w fun e w' => ∃ (v u : Value) (xs ys : List Int), e = .returned (.tuple #[v, u]) ∧ OwnI w.heap.size w' v xs ∧ OwnI w.heap.size w' u ys ∧ xs.length ≤ 101 ∧ ys.length ≤ 101 ∧ w.grownBy w' (some B) := by
  have hlt := h.lt
  have hge := h.ge
  go_enter Try.func47, Try.ntmps47
  go_wp2_with fail
  refine (l20Bits_any _ _ _ _ _ _ h (by omega) (by omega) (by omega) (by omega) (by omega)).mono ?_
  rintro e w1 ⟨va, xs, rfl, hoa, hla, hr1, hg1⟩
  have hsz1 := hg1.size
  have hra := hr1.below ((Below.refl _ w1).alloc (Nat.le_refl _) (.cells #[] 3))
  have hmt : OwnI w1.heap.size (w1.alloc (.cells #[] 3)) (.slice (some ⟨w1.heap.size, 0, none⟩) 0 0) [] := World.ownsRow_made w1 #[] 0 (Nat.le_refl _) (by decide) rfl
  have hoa1 := hoa.belowAll ((Below.refl _ w1).alloc (Nat.le_refl _) (.cells #[] 3))
  have hlta : ∀ b, va.ownBlock = some b → b < w1.heap.size := fun b e => (hoa.lt b e).2
  have HG1 := Lib.hid (grown_trans hg1 (World.grownBy_alloc w1 (.cells #[] 3) (some B)))
  clear h hr1 hoa hg1
  go_wp2_with (at_builtin; refine wp_apps tabI _ rfl _ _ rfl w1.heap.size _ va [] xs rfl rfl hmt (row_of_own hoa1) (by simp; omega) (by simp) ?_; intro vb w2 hob hgb0 hnb)
  have hgb : (w1.alloc (.cells #[] 3)).grownBy w2 (some w1.heap.size) := hgb0
  have hob2 : OwnI w1.heap.size w2 vb xs := by simpa using hob
  have hoa2 : OwnI w.heap.size w2 va xs := hoa1.kept hgb (Or.inr (fun e => by have := hlta _ e; omega))
  have hr2 : Rd w2 S B (m + 300) := hra.grown hgb (fun k e => by cases e; omega)
  have HG2 := Lib.hid (grown_own HG1.out hgb (fun j e => by cases e; omega))
  obtain ⟨n, hn⟩ : ∃ n, n = xs.length := ⟨_, rfl⟩
  obtain ⟨ab, cb, hvb⟩ := (row_of_own hob2).form
  rw [← hn] at hvb
  subst hvb
  have HN := Lib.hid hn.symm
  rw [← hn] at hla
  clear hob hgb hgb0 hra hoa1 hmt hn hnb
  go_wp2_with fail
  go_loopw [8] (fun i wr => ∃ (k : Nat) (ys : List Int), k ≤ n ∧ i = .int .i64 k ∧ ys.length = n ∧ OwnI w1.heap.size wr (.slice ab n cb) ys ∧ OwnI w.heap.size wr va xs ∧ Rd wr S B (m + 300 + 2 * k) ∧ w.grownBy wr (some B)) (fun i _ => n - (intOf i).toNat)
  case atStart => exact ⟨0, xs, Nat.zero_le _, rfl, HN.out, hob2, hoa2, hr2, HG2.out⟩
  case round =>
    obtain ⟨k, ys, hk, rfl, hyn, hob, hoa, hrd, hg⟩ := hrel
    have HY := Lib.hid hyn
    clear hyn
    by_cases hlt2 : k < n
    · obtain ⟨g, rfl⟩ := own_form_pos hob (by have := HY.out; omega)
      have hgb := (hob.lt g rfl).1
      go_wp2_with fail
      refine (pick_any _ _ _ _ _ hrd (by omega) (by omega) (by omega)).mono ?_
      rintro e w4 ⟨t, rfl, ht0, ht1, hrd4, hg4⟩
      have hob4 : OwnI w1.heap.size w4 (.slice (some ⟨g, 0, none⟩) n cb) ys := hob.kept hg4 (Or.inr (fun e => by have := hob.lt B e; omega))
      have hoa4 : OwnI w.heap.size w4 va xs := hoa.kept hg4 (Or.inr (fun e => by have := hoa.lt B e; omega))
      have HG4 := Lib.hid (grown_trans hg hg4)
      clear hg hg4 hob hoa hrd
      cases hb : (t == 0)
      · go_wp2_with fail
        go_roundw
        case rel => first | exact ⟨k + 1, ys, by omega, by go_num, HY.out, hob4, hoa4, hrd4.more (by omega), HG4.out⟩ | ((repeat apply Exists.intro); exact ⟨⟨k + 1, ys, by omega, by go_num, HY.out, hob4, hoa4, hrd4.more (by omega), HG4.out⟩, rfl⟩)
        case measure => simp [intOf]; omega
      · go_wp2_with fail
        refine (pick_any _ _ _ _ _ hrd4 (by omega) (by omega) (by omega)).mono ?_
        rintro e w5 ⟨t2, rfl, hu0, hu1, hrd5, hg5⟩
        have hob5 : OwnI w1.heap.size w5 (.slice (some ⟨g, 0, none⟩) n cb) ys := hob4.kept hg5 (Or.inr (fun e => by have := hob4.lt B e; omega))
        have hoa5 : OwnI w.heap.size w5 va xs := hoa4.kept hg5 (Or.inr (fun e => by have := hoa4.lt B e; omega))
        have HG5 := Lib.hid (grown_trans HG4.out hg5)
        have hcell := hob5.cell HY.out k hlt2
        have hfree := hob5.free HY.out k
        have HST := Lib.hid (hob5.stored HY.out k t2)
        clear hg5 HG4 hob4 hoa4 hrd4
        go_wp2_with fail
        go_roundw
        have hfin : Rd (w5.setCell ⟨g, k, none⟩ (.int .i64 t2)) S B (m + 300 + 2 * (k + 1)) ∧ w.grownBy (w5.setCell ⟨g, k, none⟩ (.int .i64 t2)) (some B) ∧ OwnI w.heap.size (w5.setCell ⟨g, k, none⟩ (.int .i64 t2)) va xs :=
          ⟨(hrd5.grown HST.out.2 (fun j e => by cases e; omega)).more (by omega), grown_own HG5.out HST.out.2 (fun j e => by cases e; omega), hoa5.kept HST.out.2 (Or.inr (fun e => by have := hlta _ e; omega))⟩
        case rel => first | exact ⟨k + 1, ys.set k t2, by omega, by go_num, by rw [List.length_set]; exact HY.out, HST.out.1, hfin.2.2, hfin.1, hfin.2.1⟩ | ((repeat apply Exists.intro); exact ⟨⟨k + 1, ys.set k t2, by omega, by go_num, by rw [List.length_set]; exact HY.out, HST.out.1, hfin.2.2, hfin.1, hfin.2.1⟩, rfl⟩)
        case measure => simp [intOf]; omega
    · obtain rfl : k = n := by omega
      go_wp2_with fail
      refine (odd_any _ _ _ _ _ hrd (by omega) (by omega) (by omega)).mono ?_
      rintro e w4 ⟨t, rfl, hrd4, hg4⟩
      have hob4 : OwnI w1.heap.size w4 (.slice ab k cb) ys := hob.kept hg4 (Or.inr (fun e => by have := hob.lt B e; omega))
      have hoa4 : OwnI w.heap.size w4 va xs := hoa.kept hg4 (Or.inr (fun e => by have := hoa.lt B e; omega))
      have HG4 := Lib.hid (grown_trans hg hg4)
      clear hg hg4 hob hoa hrd
      cases t
      · go_wp2_with fail
        all_goals try (go_quiet (fail); go_wp2_with fail)
        go_ret2
        exact ⟨_, _, xs, ys, rfl, hoa4, hob4.mono (by omega), by rw [HN.out]; omega, by rw [HY.out]; omega, HG4.out⟩
      · go_wp2_with fail
        refine (l20Bits_any _ _ _ _ _ _ hrd4 (by omega) (by omega) (by omega) (by omega) (by omega)).mono ?_
        rintro e w5 ⟨vc, zs, rfl, hoc, hlc, hr5, hg5⟩
        have hoa5 : OwnI w.heap.size w5 va xs := hoa4.kept hg5 (Or.inr (fun e => by have := hoa4.lt B e; omega))
        have hsz4 := HG4.out.size
        have HG5 := Lib.hid (grown_trans HG4.out hg5)
        clear hg5 HG4 hob4 hoa4 hrd4
        go_wp2_with fail
        all_goals try (go_quiet (fail); go_wp2_with fail)
        go_ret2
        exact ⟨_, _, xs, zs, rfl, hoa5, hoc.mono hsz4, by rw [HN.out]; omega, hlc, HG5.out⟩

/-- Behind an opened code: all that was there is as it was. -/
theorem below_open {w w1 w2 : World} (h1 : Below w.heap.size w w1) (h2 : w1.grownBy w2 (some w.heap.size)) : Below w.heap.size w w2 :=
  h1.trans (below_of_row h2 h1.size (fun k e => by cases e; exact Nat.le_refl _))

set_option maxHeartbeats 400000 in
theorem DrawAddBits_any (zs : List Int) (v : Value) (w : World) (h : RowK .u8 w v zs) (hz : ∀ n ∈ zs, (Lit.int .u8 n).wf = true) :
    Calls Try.prog 30 #[v] w fun e w' => ∃ (a b : Value) (xs ys : List Int), e = .returned (.tuple #[a, b]) ∧ OwnI w.heap.size w' a xs ∧ OwnI w.heap.size w' b ys ∧ xs.length ≤ 101 ∧ ys.length ≤ 101 ∧ Below w.heap.size w w' := by
  go_enter Try.func30, Try.ntmps30
  go_wp2_with fail
  refine (l20Open_any _ _ _ h hz).mono ?_
  rintro e w1 ⟨rfl, hr, hb⟩
  go_wp2_with fail
  refine (l20Twin_any _ _ _ _ _ hr (by omega) (by omega) (by omega)).mono ?_
  rintro e w2 ⟨a, b, xs, ys, rfl, ha, hbb, hx, hy, hg⟩
  have hsz := hb.size
  go_wp2_with fail
  go_ret2
  exact ⟨a, b, xs, ys, rfl, ha.mono hsz, hbb.mono hsz, hx, hy, below_open hb hg⟩
set_option maxHeartbeats 400000 in
theorem alive_any (w : World) : Calls Try.prog 25 #[] w fun e w' => e = .returned (.bool true) ∧ Below w.heap.size w w' := by
  have h1 : RowK .i64 ((w.alloc (.cells #[.int .i64 1] 3)).alloc (.cells #[.int .i64 0] 3)) (.slice (some ⟨w.heap.size, 0, none⟩) 1 1) [1] :=
    ⟨_, 1, rfl, (fun h => by cases h), by simp, by decide, fun _ => ⟨_, 0, rfl, fun i hi => by
      have : i = 0 := by simp at hi; omega
      subst this
      rw [World.cell?_alloc_past _ _ _ (by simp), World.cell?_alloc_at _ _ _ _ rfl]; rfl⟩⟩
  have h2 : RowK .i64 ((w.alloc (.cells #[.int .i64 1] 3)).alloc (.cells #[.int .i64 0] 3)) (.slice (some ⟨w.heap.size + 1, 0, none⟩) 1 1) [0] :=
    ⟨_, 1, rfl, (fun h => by cases h), by simp, by decide, fun _ => ⟨_, 0, rfl, fun i hi => by
      have : i = 0 := by simp at hi; omega
      subst this
      rw [World.cell?_alloc_at _ _ _ _ (by simp)]; rfl⟩⟩
  have HB := Lib.hid (((Below.refl w.heap.size w).alloc (Nat.le_refl _) (.cells #[.int .i64 1] 3)).alloc (by simp) (.cells #[.int .i64 0] 3))
  have hd : hamD [1] [0] = 1 := by decide
  go_enter Try.func25, Try.ntmps25
  go_wp2_with (go_at_call 26; refine (HammingDistance_any _ _ _ _ _ h1 h2).mono ?_; rintro e w' ⟨rfl, hq⟩)
  go_ret
  exact ⟨rfl, HB.out.trans (hq.below _)⟩
end Go.Proofs.Ytelaceakilhpcaa
