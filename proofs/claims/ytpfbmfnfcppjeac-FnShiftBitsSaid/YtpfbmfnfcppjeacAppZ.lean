/-
  append(v, make([]int, n)...): the machine appends n zeros at once. The kit has no law of it.
-/
import Derived.Test.YtpfbmfnfcppjeacMake
namespace Go.Proofs.Ytpfbmfnfcppjeac
open Go.RowKit

theorem zeroCells_int (k : IntKind) (n : Nat) : (Builtin.zeroCells (Value.int k 0).cells n).toList = (List.replicate n (0 : Int)).map (Value.int k) := by
  apply List.ext_getElem
  · simp [Builtin.zeroCells, Value.cells]
  · intro i h1 h2
    simp [Builtin.zeroCells, Value.cells]
    have : i % 1 = 0 := Nat.mod_one i
    simp [this]
theorem zeroCells_arr (k : IntKind) (n : Nat) : Builtin.zeroCells (Value.int k 0).cells n = ((List.replicate n (0 : Int)).map (Value.int k)).toArray := by
  rw [← zeroCells_int]
theorem run_append_zeros {T U e base : Nat} {k : IntKind} (tab : Tab T e k) (hU : Try.prog.underlying U = some (.int .i64)) (ty : Nat) (w : World) (g len cap n : Nat) (xs : List Int) (hown : OwnK e k base w (.slice (some ⟨g, 0, none⟩) len cap) xs) (hl : xs.length = len)
    (hn1 : 1 ≤ n) (hn : len + n ≤ 1000000000) (hb : base ≤ w.heap.size) :
    ∃ v' w', (Builtin.append_ #[T, U] ty #[.slice (some ⟨g, 0, none⟩) len cap, .int .i64 (n : Int)]).run Try.prog w = .ok v' w' ∧ OwnK e k base w' v' (xs ++ List.replicate n 0) ∧ w.grownBy w' (some g) ∧ NewAt w (.slice (some ⟨g, 0, none⟩) len cap) v' := by
  obtain ⟨hT, i, by_, hi, hz, hsz, hby, hle⟩ := tab
  subst hl
  unfold OwnK at hown
  have hw : IntKind.i64.wrap (n : Int) = (n : Int) := IntWalk.i64_in _ (by omega)
  have hn0 : ¬ ((n : Int) < 0) := by omega
  have hbn : ¬ (281474976710656 < (n : Int) * (i.bytes : Int)) := by
    have h1 : n * i.bytes ≤ n * 8 := Nat.mul_le_mul_left _ (by omega)
    have h2 : ((n * i.bytes : Nat) : Int) ≤ ((n * 8 : Nat) : Int) := by exact_mod_cast h1
    rw [Int.natCast_mul] at h2
    omega
  have hne : n ≠ 0 := by omega
  have hlen : ((xs ++ List.replicate n (0 : Int)).map (Value.int k)).length = (xs.length + n) * 1 := by simp
  rcases hown.2 with ⟨h, _⟩ | ⟨g', cap', cur, e1, hbg, hg, hnc, hcm, hcs, htake⟩
  · cases h
  · cases e1
    have holds := hown.cells (g := g) rfl
    by_cases hroom : xs.length + n ≤ cap
    · have hfit : xs.length * 1 + ((List.replicate n (0 : Int)).map (Value.int k)).length ≤ cur.size := by rw [hcs]; simp; omega
      have hst := run_storeCells_at Try.prog g (xs.length * 1) e ((List.replicate n (0 : Int)).map (Value.int k)) 0 cur w hg (by simpa using hfit) (ints_oneCell k _)
      simp only [Nat.add_zero, Nat.mul_one, List.map_replicate] at hst
      refine ⟨.slice (some ⟨g, 0, none⟩) (xs.length + n) cap, w.setRow g (cur.toList.take xs.length ++ List.replicate n (Value.int k 0) ++ cur.toList.drop (xs.length + (List.replicate n (Value.int k 0)).length)).toArray, ?_, ?_, ?_, fun b h => .inl h⟩
      · simp [Builtin.append_, run_underlying hT, run_underlying hU, sizeOf, typeInfo, zeroValue, hi, hz, hsz, asInt, asIntOf, hw, hn0, hbn, hne, hroom, zeroCells_arr, Addr.add_lit, hst]
      · refine ⟨hlen.trans (by simp), .inr ⟨g, cap, _, by simp, hbg, setRow_heap w g cur _ e _ hg, by simp; omega, hcm, ?_, ?_⟩⟩
        · simp only [List.size_toArray, List.length_append, List.length_take, List.length_drop, Array.length_toList, List.length_replicate]
          omega
        · have ht : cur.toList.take xs.length = xs.map (Value.int k) := by simpa using htake
          rw [ht, List.map_append, List.map_replicate]
          exact List.take_left' (by simp)
      · exact ⟨rfl, rfl, rfl, by simp, fun j _ hj => setRow_other w g j _ (fun e => hj (by rw [e]))⟩
    · have hfo := run_firstCells_some (P := Try.prog) w.drew 1 xs.length ⟨g, 0, none⟩ xs.length cap (xs.map (Value.int k)) (by simp) (fun j u h => holds j u h)
      have h63 : ¬ (9223372036854775807 < ((xs.length : Int) + (n : Int))) := by omega
      have hfit := growslice_fits (bytes := i.bytes) (need := xs.length + n) (old := cap) (by omega) (by have h1 : (xs.length + n) * i.bytes ≤ (xs.length + n) * 8 := Nat.mul_le_mul_left _ (by omega); omega)
      have h48 : ¬ (281474976710656 < Builtin.nextslicecap (xs.length + n) cap * i.bytes) := by omega
      refine ⟨.slice (some ⟨w.heap.size, 0, none⟩) (xs.length + n) (grownCap w (xs.length + n) cap e), w.drew.alloc (.cells ((xs.map (Value.int k) ++ List.replicate n (Value.int k 0)).toArray ++ Builtin.zeroCells (Value.int k 0).cells (grownCap w (xs.length + n) cap e - (xs.length + n))) e), ?_, ?_, ?_, fun b h => .inr (by cases h; exact Nat.le_refl _)⟩
      · simp [Builtin.append_, run_underlying hT, run_underlying hU, sizeOf, typeInfo, zeroValue, hi, hz, hsz, asInt, asIntOf, hw, hn0, hbn, hne, hroom, h63, h48, zeroCells_arr, Question.forced, hfo, newRow, grownCap]
        congr 2
        apply Array.ext'
        simp [← List.replicate_append_replicate]
      · have hge := grownCap_ge w (xs.length + n) cap e
        have hgm : grownCap w (xs.length + n) cap e ≤ maxLen := grownCap_le_maxLen w (xs.length + n) cap e (by unfold maxLen; omega)
        refine ⟨hlen.trans (by simp), .inr ⟨w.heap.size, _, _, by simp, hb, heap_alloc_new w.drew _, by simpa using hge, hgm, ?_, ?_⟩⟩
        · simp only [Array.size_append, List.size_toArray, size_zeroCells, List.length_append, List.length_map, List.length_replicate]
          simp [Value.cells]; omega
        · rw [List.map_append, List.map_replicate, Array.toList_append]
          exact List.take_left' (by simp)
      · exact ⟨rfl, rfl, rfl, by simp, fun j hj _ => heap_alloc_old w.drew _ hj⟩
theorem run_append_zeros_nil {T U e base : Nat} {k : IntKind} (tab : Tab T e k) (hU : Try.prog.underlying U = some (.int .i64)) (ty : Nat) (w : World) (n : Nat)
    (hn1 : 1 ≤ n) (hn : n ≤ 1000000000) (hb : base ≤ w.heap.size) :
    ∃ v' w', (Builtin.append_ #[T, U] ty #[.slice none 0 0, .int .i64 (n : Int)]).run Try.prog w = .ok v' w' ∧ OwnK e k base w' v' (List.replicate n 0) ∧ w.grownBy w' none ∧ NewAt w (.slice none 0 0) v' := by
  obtain ⟨hT, i, by_, hi, hz, hsz, hby, hle⟩ := tab
  have hw : IntKind.i64.wrap (n : Int) = (n : Int) := IntWalk.i64_in _ (by omega)
  have hn0 : ¬ ((n : Int) < 0) := by omega
  have hbn : ¬ (281474976710656 < (n : Int) * (i.bytes : Int)) := by
    have h1 : n * i.bytes ≤ n * 8 := Nat.mul_le_mul_left _ (by omega)
    have h2 : ((n * i.bytes : Nat) : Int) ≤ ((n * 8 : Nat) : Int) := by exact_mod_cast h1
    rw [Int.natCast_mul] at h2
    omega
  have hne : n ≠ 0 := by omega
  have h63 : ¬ (9223372036854775807 < (n : Int)) := by omega
  have hfit := growslice_fits (bytes := i.bytes) (need := n) (old := 0) (by omega) (by have h1 : n * i.bytes ≤ n * 8 := Nat.mul_le_mul_left _ (by omega); omega)
  have h48 : ¬ (281474976710656 < Builtin.nextslicecap n 0 * i.bytes) := by omega
  have hfo := run_firstCells_none (P := Try.prog) w.drew 1 0 0 0
  refine ⟨.slice (some ⟨w.heap.size, 0, none⟩) n (grownCap w n 0 e), w.drew.alloc (.cells ((List.replicate n (Value.int k 0)).toArray ++ Builtin.zeroCells (Value.int k 0).cells (grownCap w n 0 e - n)) e), ?_, ?_, ?_, fun b h => .inr (by cases h; exact Nat.le_refl _)⟩
  · simp [Builtin.append_, run_underlying hT, run_underlying hU, sizeOf, typeInfo, zeroValue, hi, hz, hsz, asInt, asIntOf, hw, hn0, hbn, hne, h63, h48, zeroCells_arr, Question.forced, hfo, newRow, grownCap]
  · have hge := grownCap_ge w n 0 e
    have hgm : grownCap w n 0 e ≤ maxLen := grownCap_le_maxLen w n 0 e (by unfold maxLen; omega)
    refine ⟨by simp, .inr ⟨w.heap.size, _, _, by simp, hb, heap_alloc_new w.drew _, by simpa using hge, hgm, ?_, ?_⟩⟩
    · simp only [Array.size_append, List.size_toArray, size_zeroCells, List.length_replicate]
      simp [Value.cells]; omega
    · rw [List.map_replicate, Array.toList_append]
      exact List.take_left' (by simp)
  · exact ⟨rfl, rfl, rfl, by simp, fun j hj _ => heap_alloc_old w.drew _ hj⟩
section
variable {ops : Array Oper} {rest : List Oper} {o : Oper} {a : Act} {Q : Exit → Act → World → Prop}
/-- append(v, make([]int, n)...) in a walk. -/
theorem wp_appz {T U e : Nat} {k : IntKind} (tab : Tab T e k) (hU : Try.prog.underlying U = some (.int .i64)) (w : World) (hg : o.guard = none) (s x : Operand) (hop : o.op = .call { callee := .builtin .append, args := #[s, x], argTypes := #[T, U] })
    (base n : Nat) (v : Value) (xs : List Int) (hs : a.eval s = v) (hx : a.eval x = .int .i64 (n : Int)) (hown : OwnK e k base w v xs)
    (hn1 : 1 ≤ n) (hn : xs.length + n ≤ 1000000000) (hb : base ≤ w.heap.size)
    (hK : ∀ v' w', OwnK e k base w' v' (xs ++ List.replicate n 0) → w.grownBy w' v.ownBlock → NewAt w v v' → wpList Try.prog ops Q rest (a.put o.dst v') w') : wpList Try.prog ops Q (o :: rest) a w := by
  refine wpList_plain hg fun K hKK => ?_
  rcases hown.form with ⟨rfl, rfl⟩ | ⟨g, cap, rfl, _⟩
  · obtain ⟨v', w', hr, h2, h3, h4⟩ := run_append_zeros_nil (base := base) tab hU o.type w n hn1 (by omega) hb
    unfold Oper.wp execOp
    simp only [hop, resolve, invoke, builtin, Sem.run_bind, Sem.run_pure, Result.andThen_ok, List.map_toArray, List.map_cons, List.map_nil, hs, hx, hr]
    exact hKK _ _ (hK v' w' h2 h3 h4)
  · obtain ⟨v', w', hr, h2, h3, h4⟩ := run_append_zeros tab hU o.type w g xs.length cap n xs hown rfl hn1 hn hb
    unfold Oper.wp execOp
    simp only [hop, resolve, invoke, builtin, Sem.run_bind, Sem.run_pure, Result.andThen_ok, List.map_toArray, List.map_cons, List.map_nil, hs, hx, hr]
    exact hKK _ _ (hK v' w' h2 h3 h4)
end
end Go.Proofs.Ytpfbmfnfcppjeac
