/- The walk over this seat's functions, part 6: what each of them answers, at all data. -/
import Derived.Test.YtaceckhmclddeaaM1
import Derived.Test.YtaceckhmclddeaaM2
import Derived.Test.YtaceckhmclddeaaM3
import Derived.Test.YtaceckhmclddeaaM4
import Derived.Test.YtaceckhmclddeaaM5
/- slices.Insert of one element: what it answers. -/
namespace Go.Rk
set_option linter.unusedSimpArgs false
set_option linter.unusedVariables false
open Go Go.Proofs Go.RowKit Go.Lib
set_option maxHeartbeats 4000000 in
set_option maxRecDepth 100000 in
theorem ins_shift (b off n c i vb voff vc : Nat) (cs vs : List Value) (w : World) (hi : i < n) (hroom : n + 1 ≤ c) (hn63 : n ≤ 1100000) (hvb : vb ≠ b)
    (hcl : cs.length = n * 13) (hvl : vs.length = 13)
    (hcs : ∀ j v, cs[j]? = some v → w.cell? ⟨b, off + j, none⟩ = some v) (hsp : ∀ j, j < (n + 1) * 13 → (w.cell? ⟨b, off + j, none⟩).isSome = true) (hfz : ∀ j, j < (n + 1) * 13 → w.frozen? ⟨b, off + j, none⟩ = false)
    (hvs : ∀ j v, vs[j]? = some v → w.cell? ⟨vb, voff + j, none⟩ = some v) (h1c : ∀ v ∈ cs, v.oneCell' = true) (h1v : ∀ v ∈ vs, v.oneCell' = true)
    (tA tB : TypeId) (kA kB : Nat) (hsa : w.shape? vb = some (tA, kA)) (hsb : w.shape? b = some (tB, kB)) (hkB : kB ≠ 0) (hfa : w.frozen? ⟨vb, voff, none⟩ = false) (hfe : w.frozen? ⟨vb, kA, none⟩ = false) :
    Calls Try.prog 156 #[.slice (some ⟨b, off, none⟩) n c, .int .i64 i, .slice (some ⟨vb, voff, none⟩) 1 vc] w fun e w' =>
      e = .returned (.slice (some ⟨b, off, none⟩) (n + 1) c) ∧ w' = (w.drew.setCells b (off + (i + 1) * 13) (cs.drop (i * 13))).setCells b (off + i * 13) vs := by
  have hz2 : ¬ ((i : Int) = (n : Int)) := by omega
  have hsz : (Try.prog.info? 55).map (·.size) = some 13 := by kernel_rfl
  have hov : ∀ lb cb, (callFunc 163 #[.slice (some ⟨vb, voff, none⟩) 1 vc, .slice (some ⟨b, off + (i + 1) * 13, none⟩) lb cb]).run Try.prog w = .ok (.value (.bool false)) w := fun lb cb => by
    rw [run_callFunc_extern Try.func163 (by kernel_rfl) (by kernel_rfl) (by kernel_rfl) (e := Extern.SlicesOverlaps.overlaps #[28, 28] #[4]) (by kernel_rfl),
      Lib.run_overlaps_apart w 28 4 55 Try.underlying28 13 Try.sizeOf55 ⟨vb, voff, none⟩ ⟨b, off + (i + 1) * 13, none⟩ 1 vc lb cb hvb tA tB kA kB hsa hsb hkB hfa hfe]
    rfl
  have hdl : (cs.drop (i * 13)).length = (n - i) * 13 := by rw [List.length_drop, hcl, Nat.sub_mul]
  have hw1 : IntKind.i64.wrap ((i : Int) + 1) = (i : Int) + 1 := by rw [IntKind.wrap_i64]; omega
  have hw2 : IntKind.i64.wrap ((n : Int) + 1) = (n : Int) + 1 := by rw [IntKind.wrap_i64]; omega
  have hb1 : (0 : Int) ≤ (i : Int) + 1 := by omega
  have hin : i ≤ n := by omega
  have htn : ((i : Int) + 1).toNat = i + 1 := by omega
  have htm : ((n : Int) + 1).toNat = n + 1 := by omega
  have hb2 : ¬ (c = i + 1) := by omega
  have hb3 : (i : Int) ≤ (n : Int) + 1 := by omega
  have hb4 : ¬ (c = i) := by omega
  have hcp1 : ∀ ty dc sc, (Builtin.copy_ #[28, 28] ty #[.slice (some ⟨b, off + (i + 1) * 13, none⟩) (n - i) dc, .slice (some ⟨b, off + i * 13, none⟩) (n + 1 - i) sc]).run Try.prog w.drew = .ok (goInt ((n - i : Nat) : Int)) (w.drew.setCells b (off + (i + 1) * 13) (cs.drop (i * 13))) := fun ty dc sc =>
    run_copy_k w.drew _ _ ty 55 13 b (off + (i + 1) * 13) (n - i) dc ⟨b, off + i * 13, none⟩ (n + 1 - i) sc (cs.drop (i * 13)) Try.underlying28 hsz (n - i) (by simp only [Nat.min_def]; split <;> omega) hdl
      (fun j v hj => by rw [Addr.add_lit, Nat.add_assoc]; exact hcs (i * 13 + j) v (by rwa [List.getElem?_drop] at hj))
      (fun j hj => by rw [Nat.add_assoc]; exact hsp _ (by rw [hdl] at hj; omega)) (fun j hj => by rw [Nat.add_assoc]; exact hfz _ (by rw [hdl] at hj; omega)) (fun v hv => h1c v (List.mem_of_mem_drop hv))
  obtain ⟨W1, hW1⟩ : ∃ W1, W1 = w.drew.setCells b (off + (i + 1) * 13) (cs.drop (i * 13)) := ⟨_, rfl⟩
  have hsp1 : ∀ k, k < (n + 1) * 13 → (W1.cell? ⟨b, off + k, none⟩).isSome = true := fun k hk => by
    rw [hW1]
    exact isSome_setCells b _ _ _ (fun j hj => by rw [Nat.add_assoc]; exact hsp _ (by rw [hdl] at hj; omega)) _ (hsp k hk)
  have hcp2 : ∀ (W : World), (∀ x, W.cell? x = W1.cell? x) → (∀ x, W.frozen? x = W1.frozen? x) → ∀ ty dc, (Builtin.copy_ #[28, 28] ty #[.slice (some ⟨b, off + i * 13, none⟩) (n + 1 - i) dc, .slice (some ⟨vb, voff, none⟩) 1 vc]).run Try.prog W = .ok (goInt 1) (W.setCells b (off + i * 13) vs) := fun W hWc hWf ty dc =>
    run_copy_k W _ _ ty 55 13 b (off + i * 13) (n + 1 - i) dc ⟨vb, voff, none⟩ 1 vc vs Try.underlying28 hsz 1 (by simp only [Nat.min_def]; split <;> omega) (by rw [hvl])
      (fun j v hj => by
        rw [Addr.add_lit, hWc, hW1, World.cell?_setCells_out b _ _ _ _ (fun h _ => absurd h hvb)]
        exact hvs j v hj)
      (fun j hj => by rw [hWc, Nat.add_assoc]; exact hsp1 _ (by rw [hvl] at hj; omega)) (fun j hj => by rw [hWf, hW1, World.frozen?_setCells, Nat.add_assoc]; exact hfz _ (by rw [hvl] at hj; omega)) h1v
  rw [← hW1] at hcp1
  have mixed := mixed
  go_enter Try.func156, Try.ntmps156
  go_wp2_with (simp only [hov])
  go_region_law_o (refine step_copy_runI rfl _ _ 28 28 rfl _ _ (by simp [Act.eval, Act.put]) (by simp [Act.eval, Act.put]) (hcp1 _ _ _) ?_)
  go_wp2_with (at_builtin; refine wpList_copy_runI _ rfl _ _ 28 28 rfl _ _ rfl rfl (hcp2 _ (fun _ => rfl) (fun _ => rfl) _ _) ?_)
  go_ret
  first | exact ⟨rfl, rfl⟩ | exact ⟨rfl, by rw [hW1]⟩
end Go.Rk
namespace Go.Rk
open Go.Proofs
set_option maxRecDepth 100000
set_option maxHeartbeats 1000000
theorem ins_end (n : Nat) (hn : n ≤ 1100000) (row : Nat → List DV) (r : List DV) (row1 : Nat → List DV) (hr : row1 0 = r) (R : Nat → List DV) (hR : ∀ k, k < n + 1 → R k = if k < n then row k else r) :
    Meets Try.prog 156 [.c (.own 13 n row), .c (.d (eI n)), .c (.own 13 1 row1)] ⟨.one (.c (.own 13 (n + 1) R)), [none, none, none]⟩ := by
  obtain ⟨R', hR'⟩ : ∃ R' : Nat → List DV, R' = real.app n row (real.sub 0 row1) := ⟨_, rfl⟩
  refine meets_rows (row := R') (fun k hk => ?_) ?_
  · rw [hR k hk, hR']
    show (if k < n then row k else row1 (0 + (k - n))) = _
    by_cases h : k < n
    · rw [if_pos h, if_pos h]
    · rw [if_neg h, if_neg h, show 0 + (k - n) = 0 by omega, hr]
  refine meets_of (H := []) (EX := EXA) ttok mixed Try.func156 rfl (by kernel_rfl) (by decide) ?_
  generalize hA : real = A
  generalize hM : MeetsB Try.prog = M
  cbv
  repeat' first
    | (refine br_f hA ?_ ?_; focus (subst hA; simp [real]; done))
    | (refine br_t hA ?_ ?_; focus (subst hA; simp [real]; done))
    | apply And.intro
    | exact True.intro
    | with_reducible rfl
    | exact same_of hA rfl
    | refine br_of hA (fun _ => ?_) (fun _ => ?_)
    | exact imp_of hA id
    | (refine imp_of hA ?_; subst hA; simp only [real, Bool.true_and]; exact id)
    | (refine ind_of hA ?_; decide +kernel)
    | (refine cut_of hA ?_; subst hA; exact ⟨Int.natCast_nonneg n, Int.le_refl _, Int.le_refl _⟩)
    | exact room_add2 hA (by omega) (by decide)
  subst hA
  rw [hR']
  rfl
end Go.Rk
namespace Go.Rk
open Go Go.Proofs Go.RowKit Go.Lib
set_option maxHeartbeats 4000000 in
set_option maxRecDepth 100000 in
theorem ins_grow (b off n c i vb voff vc : Nat) (cs vs : List Value) (w : World) (hi : i < n) (hnc : n ≤ c) (hroom : c < n + 1) (hbig : (n + 1) * 104 ≤ 140737488355328)
    (hcl : cs.length = n * 13) (hvl : vs.length = 13)
    (hcs : ∀ j v, cs[j]? = some v → w.cell? ⟨b, off + j, none⟩ = some v)
    (hvs : ∀ j v, vs[j]? = some v → w.cell? ⟨vb, voff + j, none⟩ = some v) (h1c : ∀ v ∈ cs, v.oneCell' = true) (h1v : ∀ v ∈ vs, v.oneCell' = true) :
    ∃ ROW : Array Value, ROW.size = grownCap w (n + 1) c 55 * 13 ∧ (∀ j, j < i * 13 → ROW[j]? = cs[j]?) ∧ n + 1 ≤ grownCap w (n + 1) c 55 ∧
    Calls Try.prog 156 #[.slice (some ⟨b, off, none⟩) n c, .int .i64 i, .slice (some ⟨vb, voff, none⟩) 1 vc] w fun e w' =>
      e = .returned (.slice (some ⟨w.heap.size, 0, none⟩) (n + 1) (grownCap w (n + 1) c 55)) ∧
      w' = (((w.alloc (.cells ROW 55)).drew.setCells w.heap.size (i * 13) vs).drew).setCells w.heap.size ((i + 1) * 13) (cs.drop (i * 13)) := by
  have hi0 : Try.prog.info? 55 = some Try.t55 := by kernel_rfl
  have hzs : Try.t55.size = 13 := rfl
  have hzb : Try.t55.bytes = 104 := rfl
  have hz0 : Try.t55.zero = some (.agg #[.int .i64 0, .int .i64 0, .int .i64 0, .int .i64 0, .int .i64 0, .int .i64 0, .int .i64 0, .int .i64 0, .int .i64 0, .int .i64 0, .int .i64 0, .int .i64 0, .bool false]) := rfl
  obtain ⟨Z, hZ⟩ : ∃ Z : Array Value, Z = #[.int .i64 0, .int .i64 0, .int .i64 0, .int .i64 0, .int .i64 0, .int .i64 0, .int .i64 0, .int .i64 0, .int .i64 0, .int .i64 0, .int .i64 0, .int .i64 0, .bool false] := ⟨_, rfl⟩
  have hZ7 : Z.size = 13 := by rw [hZ]; rfl
  rw [← hZ] at hz0
  have hz2 : ¬ ((i : Int) = (n : Int)) := by omega
  have hsz : (Try.prog.info? 55).map (·.size) = some 13 := by rw [hi0]; rfl
  have hbw : b < w.heap.size := block_lt_of_cell (hcs 0 _ (List.getElem?_eq_getElem (by omega)))
  have hvw : vb < w.heap.size := block_lt_of_cell (hvs 0 _ (List.getElem?_eq_getElem (by omega)))
  have hkk : (n : Int) + 1 - (i : Int) = ((n + 1 - i : Nat) : Int) := by omega
  have hik : i + (n + 1 - i) = n + 1 := by omega
  have hold : (Builtin.firstCells Try.t55.size i (.slice (some ⟨b, off, none⟩) i c)).run Try.prog w.drew = .ok (cs.take (i * 13)).toArray w.drew := by
    rw [hzs]
    exact run_firstCells_some w.drew 13 i ⟨b, off, none⟩ i c (cs.take (i * 13)) (by rw [List.length_take]; omega) (fun j v hj => by
      rw [Addr.add_lit]
      rw [List.getElem?_take] at hj
      split at hj
      · exact hcs j v hj
      · cases hj)
  have hrz : ∀ ty, (Builtin.append_ #[28, 3] ty #[.slice (some ⟨b, off, none⟩) i c, .int .i64 ((n : Int) + 1 - (i : Int))]).run Try.prog w =
      .ok (.slice (some ⟨w.heap.size, 0, none⟩) (n + 1) (grownCap w (n + 1) c 55)) (w.drew.alloc (.cells ((cs.take (i * 13)).toArray ++ Builtin.zeroCells Z (n + 1 - i) ++ Builtin.zeroCells Z (grownCap w (n + 1) c 55 - (n + 1))) 55)) := fun ty => by
    have h := Lib.run_append_grow_zeros w 28 3 ty 55 Try.t55 _ .i64 .i64 Try.underlying28 Try.underlying3 hi0 hz0 (some ⟨b, off, none⟩) i c (cs.take (i * 13)) hold (n + 1 - i) (by omega) (by omega) (by omega) (by omega) (by rw [hzb]; omega) (by rw [hzb, hik]; exact growslice_fits hroom hbig)
    rw [hik] at h
    rw [hkk]
    exact h
  obtain ⟨G, hG⟩ : ∃ G, G = grownCap w (n + 1) c 55 := ⟨_, rfl⟩
  obtain ⟨ROW, hROW⟩ : ∃ ROW : Array Value, ROW = (cs.take (i * 13)).toArray ++ Builtin.zeroCells Z (n + 1 - i) ++ Builtin.zeroCells Z (G - (n + 1)) := ⟨_, rfl⟩
  have hGn : n + 1 ≤ G := by rw [hG]; exact grownCap_ge w _ _ _
  have hG63 : G ≤ 9223372036854775807 := by
    have := grownCap_le_maxLen w (n + 1) c 55 (by unfold maxLen; omega)
    rw [← hG] at this
    unfold maxLen at this
    omega
  rw [← hG] at hrz ⊢
  rw [← hROW] at hrz
  have htl : (cs.take (i * 13)).length = i * 13 := by rw [List.length_take, hcl]; omega
  have hRs : ROW.size = G * 13 := by
    rw [hROW]
    simp only [Array.size_append, List.size_toArray, htl, Builtin.zeroCells, Array.size_map, Array.size_range, hZ7]
    omega
  refine ⟨ROW, hRs, fun j hj => ?_, hGn, ?_⟩
  · rw [hROW, Array.append_assoc, Array.getElem?_append_left (by rw [List.size_toArray, htl]; exact hj), List.getElem?_toArray, List.getElem?_take, if_pos hj]
  obtain ⟨W1, hW1⟩ : ∃ W1, W1 = w.drew.alloc (.cells ROW 55) := ⟨_, rfl⟩
  rw [← hW1] at hrz
  have hN : ∀ j, j < (n + 1) * 13 → (W1.cell? ⟨w.heap.size, j, none⟩).isSome = true := fun j hj => by
    rw [hW1, World.cell?_alloc_at (w := w.drew) ROW _ w.heap.size j rfl, Array.getElem?_eq_getElem (by omega)]; rfl
  have hNf : ∀ j, W1.frozen? ⟨w.heap.size, j, none⟩ = false := fun j => by rw [hW1]; exact World.frozen?_alloc_at (w := w.drew) ROW _ w.heap.size j rfl
  have hOb : ∀ j v, w.cell? ⟨b, j, none⟩ = some v → W1.cell? ⟨b, j, none⟩ = some v := fun j v h => by rw [hW1, World.cell?_alloc_past (w := w.drew) _ b j hbw]; exact h
  have hOv : ∀ j v, w.cell? ⟨vb, j, none⟩ = some v → W1.cell? ⟨vb, j, none⟩ = some v := fun j v h => by rw [hW1, World.cell?_alloc_past (w := w.drew) _ vb j hvw]; exact h
  have hcpA : ∀ (W : World), (∀ x, W.cell? x = W1.cell? x) → (∀ x, W.frozen? x = W1.frozen? x) → ∀ ty dc, (Builtin.copy_ #[28, 28] ty #[.slice (some ⟨w.heap.size, i * 13, none⟩) (n + 1 - i) dc, .slice (some ⟨vb, voff, none⟩) 1 vc]).run Try.prog W = .ok (goInt 1) (W.setCells w.heap.size (i * 13) vs) := fun W hWc hWf ty dc =>
    run_copy_k W _ _ ty 55 13 w.heap.size (i * 13) (n + 1 - i) dc ⟨vb, voff, none⟩ 1 vc vs Try.underlying28 hsz 1 (by simp only [Nat.min_def]; split <;> omega) (by rw [hvl])
      (fun j v hj => by rw [Addr.add_lit, hWc]; exact hOv _ v (hvs j v hj))
      (fun j hj => by rw [hWc]; exact hN _ (by rw [hvl] at hj; omega)) (fun j hj => by rw [hWf]; exact hNf _) h1v
  have hGi : ¬ (G = i) := by omega
  have hGim : ¬ (G = i + 1) := by omega
  have hci : ¬ (c = i) := by omega
  have hbN : b ≠ w.heap.size := by omega
  have hdl : (cs.drop (i * 13)).length = (n - i) * 13 := by rw [List.length_drop, hcl, Nat.sub_mul]
  have hcpB : ∀ (W : World), (∀ x, W.cell? x = (W1.setCells w.heap.size (i * 13) vs).cell? x) → (∀ x, W.frozen? x = (W1.setCells w.heap.size (i * 13) vs).frozen? x) → ∀ ty dc sc, (Builtin.copy_ #[28, 28] ty #[.slice (some ⟨w.heap.size, (i + 1) * 13, none⟩) (n - i) dc, .slice (some ⟨b, off + i * 13, none⟩) (n - i) sc]).run Try.prog W = .ok (goInt ((n - i : Nat) : Int)) (W.setCells w.heap.size ((i + 1) * 13) (cs.drop (i * 13))) := fun W hWc hWf ty dc sc =>
    run_copy_k W _ _ ty 55 13 w.heap.size ((i + 1) * 13) (n - i) dc ⟨b, off + i * 13, none⟩ (n - i) sc (cs.drop (i * 13)) Try.underlying28 hsz (n - i) (by simp only [Nat.min_def]; split <;> omega) hdl
      (fun j v hj => by
        rw [Addr.add_lit, hWc, World.cell?_setCells_out _ _ _ _ _ (fun h _ => absurd h hbN), Nat.add_assoc]
        exact hOb _ v (hcs (i * 13 + j) v (by rwa [List.getElem?_drop] at hj)))
      (fun j hj => by rw [hWc]; exact isSome_setCells _ _ _ _ (fun t ht => hN _ (by rw [hvl] at ht; omega)) _ (hN _ (by rw [hdl] at hj; omega)))
      (fun j hj => by rw [hWf, World.frozen?_setCells]; exact hNf _) (fun v hv => h1c v (List.mem_of_mem_drop hv))
  subst hW1
  have hE1 : ∀ x, ((w.alloc (.cells ROW 55)).drew).cell? x = (w.drew.alloc (.cells ROW 55)).cell? x := fun x => rfl
  have hE2 : ∀ x, ((w.alloc (.cells ROW 55)).drew).frozen? x = (w.drew.alloc (.cells ROW 55)).frozen? x := fun x => rfl
  have hF1 : ∀ x, (((w.alloc (.cells ROW 55)).drew.setCells w.heap.size (i * 13) vs).drew).cell? x = ((w.drew.alloc (.cells ROW 55)).setCells w.heap.size (i * 13) vs).cell? x := fun x => rfl
  have hF2 : ∀ x, (((w.alloc (.cells ROW 55)).drew.setCells w.heap.size (i * 13) vs).drew).frozen? x = ((w.drew.alloc (.cells ROW 55)).setCells w.heap.size (i * 13) vs).frozen? x := fun x => rfl
  have hw1 : IntKind.i64.wrap ((i : Int) + 1) = (i : Int) + 1 := by rw [IntKind.wrap_i64]; omega
  have hw2 : IntKind.i64.wrap ((n : Int) + 1) = (n : Int) + 1 := by rw [IntKind.wrap_i64]; omega
  have hb1 : (0 : Int) ≤ (i : Int) + 1 := by omega
  have hin : i ≤ n := by omega
  have htn : ((i : Int) + 1).toNat = i + 1 := by omega
  have hb3 : (i : Int) ≤ (n : Int) := by omega
  have mixed := mixed
  clear hkk hik hold hROW hG hRs
  go_enter Try.func156, Try.ntmps156
  go_wp2_with (first
    | (at_builtin; refine Lib.wpList_append_run _ rfl _ _ _ _ rfl _ _ rfl rfl _ _ (hrz _) ?_)
    | (at_builtin; refine wpList_copy_runI _ rfl _ _ 28 28 rfl _ _ rfl rfl (hcpA _ hE1 hE2 _ _) ?_)
    | (at_builtin; refine wpList_copy_runI _ rfl _ _ 28 28 rfl _ _ rfl rfl (hcpB _ (fun _ => rfl) (fun _ => rfl) _ _ _) ?_))
  go_region_law_o (refine step_copy_runI rfl _ _ 28 28 rfl (.slice (some ⟨w.heap.size, (i + 1) * 13, none⟩) (n - i) (G - (i + 1))) (.slice (some ⟨b, off + i * 13, none⟩) (n - i) (c - i)) (by simp [Act.eval, Act.put]) (by simp [Act.eval, Act.put]) (hcpB _ hF1 hF2 3 (G - (i + 1)) (c - i)) ?_)
  go_wp2
  go_ret
  exact ⟨rfl, rfl⟩
end Go.Rk
namespace Go.Rk
open Go Go.Proofs
/-- The cells that lie one behind the other. -/
def cutOf (A : Array Value) (o k : Nat) : List Value := (A.toList.drop o).take k
theorem cutOf_len {A : Array Value} {o k : Nat} (h : o + k ≤ A.size) : (cutOf A o k).length = k := by
  unfold cutOf
  rw [List.length_take, List.length_drop, Array.length_toList]
  omega
theorem cutOf_at {A : Array Value} {o k j : Nat} : (cutOf A o k)[j]? = if j < k then A[o + j]? else none := by
  unfold cutOf
  rw [List.getElem?_take]
  split
  · rw [List.getElem?_drop, Array.getElem?_toList]
  · rfl
theorem cell_of {w : World} {b : Nat} {A : Array Value} {e : TypeId} {fr : Nat × Nat} (h : w.heap[b]? = some (.cells A e fr)) (j : Nat) : w.cell? ⟨b, j, none⟩ = A[j]? := by
  simp [World.cell?, h]
theorem frozen_of {w : World} {b : Nat} {A : Array Value} {e : TypeId} (h : w.heap[b]? = some (.cells A e (0, 0))) (j : Nat) : w.frozen? ⟨b, j, none⟩ = false := by
  simp [World.frozen?, h]
/-- Rows of so many cells, one put between. -/
theorem ins_rows {w : World} {N : Nat → Prop} {n i base base' vo : Nat} {A B C : Array Value} {row row1 R : Nat → List DV}
    (hi : i ≤ n) (hl : ∀ k, k < n → (row k).length = 13) (hl1 : (row1 0).length = 13)
    (hA : ∀ k j x, k < n → (row k)[j]? = some x → ∃ u, A[base + k * 13 + j]? = some u ∧ DRep w N x u)
    (hB : ∀ j x, (row1 0)[j]? = some x → ∃ u, B[vo + j]? = some u ∧ DRep w N x u)
    (c1 : ∀ k j, k < i → j < 13 → C[base' + k * 13 + j]? = A[base + k * 13 + j]?)
    (c2 : ∀ j, j < 13 → C[base' + i * 13 + j]? = B[vo + j]?)
    (c3 : ∀ k j, i ≤ k → k < n → j < 13 → C[base' + (k + 1) * 13 + j]? = A[base + k * 13 + j]?)
    (hR : ∀ k, k < n + 1 → R k = if k < i then row k else if k = i then row1 0 else row (k - 1)) :
    (∀ k, k < n + 1 → (R k).length = 13) ∧ ∀ k j x, k < n + 1 → (R k)[j]? = some x → ∃ u, C[base' + k * 13 + j]? = some u ∧ DRep w N x u := by
  have hlen : ∀ k, k < n + 1 → (R k).length = 13 := fun k hk => by
    rw [hR k hk]
    split
    · exact hl k (by omega)
    · split
      · exact hl1
      · exact hl (k - 1) (by omega)
  refine ⟨hlen, fun k j x hk hj => ?_⟩
  have hj7 : j < 13 := by rw [← hlen k hk]; exact (List.getElem?_eq_some_iff.1 hj).1
  rw [hR k hk] at hj
  split at hj
  · rename_i h
    rw [c1 k j h hj7]
    exact hA k j x (by omega) hj
  · split at hj
    · rename_i h
      subst h
      rw [c2 j hj7]
      exact hB j x hj
    · rename_i h1 h2
      have e : k = (k - 1) + 1 := by omega
      rw [e, c3 (k - 1) j (by omega) (by omega) hj7]
      exact hA (k - 1) j x (by omega) hj
theorem c_Insert (n i : Nat) (hn : n ≤ 1100000) (hi : i ≤ n) (row row1 R : Nat → List DV) (hR : ∀ k, k < n + 1 → R k = if k < i then row k else if k = i then row1 0 else row (k - 1)) :
    Meets Try.prog 156 [.c (.own 13 n row), .c (.d (eI i)), .c (.own 13 1 row1)] ⟨.one (.c (.own 13 (n + 1) R)), [none, none, none]⟩ := by
  by_cases hin : i = n
  · subst hin
    refine ins_end i hn row (row1 0) row1 rfl R fun k hk => ?_
    rw [hR k hk]
    by_cases h : k < i
    · rw [if_pos h, if_pos h]
    · rw [if_neg h, if_neg h, if_pos (by omega)]
  have hlt : i < n := by omega
  refine ⟨by kernel_rfl, fun w vals F N hx hF hFN hN => ?_⟩
  obtain ⟨v0, vals, rfl⟩ : ∃ v0 r, vals = v0 :: r := by cases vals with | nil => exact hx.elim | cons a r => exact ⟨a, r, rfl⟩
  obtain ⟨v1, vals, rfl⟩ : ∃ v0 r, vals = v0 :: r := by cases vals with | nil => obtain ⟨_, _, _, _, h⟩ := hx; exact h.elim | cons a r => exact ⟨a, r, rfl⟩
  obtain ⟨v2, vals, rfl⟩ : ∃ v0 r, vals = v0 :: r := by cases vals with | nil => obtain ⟨_, _, _, _, _, _, _, _, h⟩ := hx; exact h.elim | cons a r => exact ⟨a, r, rfl⟩
  obtain ⟨F1, F', rfl, h0, F2, F'', rfl, h1, F3, F4, rfl, h2, h3⟩ := hx
  obtain rfl : vals = [] := by cases vals with | nil => rfl | cons a r => exact h3.elim
  have h3 : F4 = [] := h3
  subst h3
  obtain ⟨h1a, h1⟩ := h1
  subst h1a
  obtain ⟨hl, h0⟩ := h0
  rcases h0 with ⟨h0, _⟩ | ⟨b, base, cap, A, e, rfl, rfl, hcp, hnc, hb, hsz, hA⟩
  · omega
  obtain ⟨hl1, h2⟩ := h2
  rcases h2 with ⟨h2, _⟩ | ⟨vb, vo, vc, B, e2, rfl, rfl, hvp, h1c, hvb, hvsz, hB⟩
  · omega
  cases h1
  simp only [List.nil_append, List.append_nil, List.cons_append] at hF hFN ⊢
  have hne : vb ≠ b := by
    intro h
    simp only [List.nodup_cons, List.mem_cons, List.not_mem_nil, or_false] at hF
    exact hF.1 h.symm
  have hbN : ∀ x, N x → x ≠ b ∧ x ≠ vb := fun x hx => ⟨fun h => (hFN b (by simp)).2 (h ▸ hx), fun h => (hFN vb (by simp)).2 (h ▸ hx)⟩
  have hbw : b < w.heap.size := (hFN b (by simp)).1
  have hvw : vb < w.heap.size := (hFN vb (by simp)).1
  have hsA : base + n * 13 ≤ A.size := Nat.le_trans (Nat.add_le_add_left (Nat.mul_le_mul_right 13 hnc) base) hsz
  have hsB : vo + 13 ≤ B.size := by omega
  obtain ⟨cs, hcs⟩ : ∃ cs, cs = cutOf A base (n * 13) := ⟨_, rfl⟩
  obtain ⟨vs, hvs⟩ : ∃ vs, vs = cutOf B vo 13 := ⟨_, rfl⟩
  have hcl : cs.length = n * 13 := by rw [hcs]; exact cutOf_len hsA
  have hvl : vs.length = 13 := by rw [hvs]; exact cutOf_len hsB
  have hca : ∀ j v, cs[j]? = some v → w.cell? ⟨b, base + j, none⟩ = some v := fun j v h => by
    rw [hcs, cutOf_at] at h
    split at h
    · rw [cell_of hb]; exact h
    · cases h
  have hva : ∀ j v, vs[j]? = some v → w.cell? ⟨vb, vo + j, none⟩ = some v := fun j v h => by
    rw [hvs, cutOf_at] at h
    split at h
    · rw [cell_of hvb]; exact h
    · cases h
  have h1A : ∀ v ∈ cs, v.oneCell' = true := fun v hv => by
    obtain ⟨j, hj⟩ := List.mem_iff_getElem?.1 hv
    rw [hcs, cutOf_at] at hj
    split at hj
    · rename_i hjn
      have hk : j / 13 < n := Nat.div_lt_of_lt_mul (by omega)
      have hr := hl (j / 13) hk
      obtain ⟨x, hx⟩ : ∃ x, (row (j / 13))[j % 13]? = some x := ⟨_, List.getElem?_eq_getElem (by rw [hr]; exact Nat.mod_lt _ (by decide))⟩
      obtain ⟨u, hu, hd⟩ := hA (j / 13) (j % 13) x hk hx
      rw [show base + j / 13 * 13 + j % 13 = base + j by omega, hj] at hu
      cases hu
      exact hd.one
    · cases hj
  have h1B : ∀ v ∈ vs, v.oneCell' = true := fun v hv => by
    obtain ⟨j, hj⟩ := List.mem_iff_getElem?.1 hv
    rw [hvs, cutOf_at] at hj
    split at hj
    · rename_i hjn
      obtain ⟨x, hx⟩ : ∃ x, (row1 0)[j]? = some x := ⟨_, List.getElem?_eq_getElem (by rw [hl1 0 (by omega)]; exact hjn)⟩
      obtain ⟨u, hu, hd⟩ := hB 0 j x (by omega) hx
      rw [show vo + 0 * 13 + j = vo + j by omega, hj] at hu
      cases hu
      exact hd.one
    · cases hj
  have hBr : ∀ j x, (row1 0)[j]? = some x → ∃ u, B[vo + j]? = some u ∧ DRep w N x u := fun j x hj => by
    have := hB 0 j x (by omega) hj
    rw [show vo + 0 * 13 + j = vo + j by omega] at this
    exact this
  have hcsA : ∀ j, j < n * 13 → cs[j]? = A[base + j]? := fun j hj => by rw [hcs, cutOf_at, if_pos hj]
  have hvsB : ∀ j, j < 13 → vs[j]? = B[vo + j]? := fun j hj => by rw [hvs, cutOf_at, if_pos hj]
  have hdl : (cs.drop (i * 13)).length = (n - i) * 13 := by rw [List.length_drop, hcl, Nat.sub_mul]
  by_cases hroom : n + 1 ≤ cap
  · -- in place
    have hsC : base + (n + 1) * 13 ≤ A.size := Nat.le_trans (Nat.add_le_add_left (Nat.mul_le_mul_right 13 hroom) base) hsz
    refine (ins_shift b base n cap i vb vo vc cs vs w hlt hroom hn hne hcl hvl hca (fun j hj => by rw [cell_of hb, Array.getElem?_eq_getElem (by omega)]; rfl) (fun j hj => frozen_of hb _) hva h1A h1B e2 e B.size A.size (by simp [World.shape?, hvb]) (by simp [World.shape?, hb]) (by omega) (frozen_of hvb _) (frozen_of hvb _)).mono ?_
    rintro ee w' ⟨rfl, rfl⟩
    have hbd : w.drew.heap[b]? = some (.cells A e (0, 0)) := hb
    obtain ⟨C1, g1, g2, g3, g4, g5⟩ := setCells_at b (cs.drop (i * 13)) (base + (i + 1) * 13) w.drew A e (0, 0) hbd (by rw [hdl]; omega)
    obtain ⟨C, k1, k2, k3, k4, k5⟩ := setCells_at b vs (base + i * 13) _ C1 e (0, 0) g1 (by rw [hvl, g2]; omega)
    have hoth : ∀ x, x ≠ b → ((w.drew.setCells b (base + (i + 1) * 13) (cs.drop (i * 13))).setCells b (base + i * 13) vs).heap[x]? = w.heap[x]? := fun x hx => by
      rw [setCells_other b _ _ _ x hx, setCells_other b _ _ _ x hx]; rfl
    have hsize : ((w.drew.setCells b (base + (i + 1) * 13) (cs.drop (i * 13))).setCells b (base + i * 13) vs).heap.size = w.heap.size := by rw [setCells_size, setCells_size]; rfl
    obtain ⟨q1, q2⟩ := ins_rows (w := w) (N := N) (n := n) (i := i) (base := base) (base' := base) (vo := vo) (A := A) (B := B) (C := C) hi hl (hl1 0 (by omega)) hA hBr
      (fun k j hk hj => by rw [k3 _ (by omega), g3 _ (by omega)])
      (fun j hj => by rw [k4 j (by rw [hvl]; exact hj), hvsB j hj])
      (fun k j hk1 hk2 hj => by
        rw [k5 _ (by rw [hvl]; omega), show base + (k + 1) * 13 + j = base + (i + 1) * 13 + ((k - i) * 13 + j) by omega, g4 _ (by rw [hdl]; omega), List.getElem?_drop, hcsA _ (by omega)]
        congr 1
        omega) hR
    refine ⟨_, [b], [], rfl, ?_, by rw [hsize]; exact Nat.le_refl _, fun x hx hxF => hoth x fun h => hxF (by rw [h]; simp), fun x xs xe xf hx => ?_, fun x hx => ?_, by simp, ?_, ?_⟩
    · have e1 := setCells_env b vs (base + i * 13) (w.drew.setCells b (base + (i + 1) * 13) (cs.drop (i * 13)))
      have e2 := setCells_env b (cs.drop (i * 13)) (base + (i + 1) * 13) w.drew
      exact ⟨e1.1.trans e2.1, e1.2.1.trans e2.2.1, e1.2.2.trans e2.2.2⟩
    · by_cases hxb : x = b
      · subst hxb
        rw [hb] at hx
        cases hx
        exact ⟨C, k1, by rw [k2, g2]⟩
      · exact ⟨xs, by rw [hoth x hxb]; exact hx, rfl⟩
    · have hx : x = b := by simpa using hx
      subst hx
      exact ⟨by rw [hsize]; exact hbw, .inl (by simp)⟩
    · refine ⟨q1, .inr ⟨b, base, cap, C, e, rfl, rfl, hcp, hroom, k1, by rw [k2, g2]; exact hsz, fun k j x hk hj => ?_⟩⟩
      obtain ⟨u, hu, hd⟩ := q2 k j x hk hj
      exact ⟨u, hu, hd.carry fun x hx => ⟨hoth x (hbN x hx).1, by rw [hsize]; exact hN x hx, by simpa using (hbN x hx).1, .inl hx⟩⟩
    · rfl
  · -- a new row
    obtain ⟨ROW, hRs, hR1, hGn, hc⟩ := ins_grow b base n cap i vb vo vc cs vs w hlt hnc (by omega) (by omega) hcl hvl hca hva h1A h1B
    refine hc.mono ?_
    rintro ee w' ⟨rfl, rfl⟩
    obtain ⟨Gc, hGc⟩ : ∃ G, G = grownCap w (n + 1) cap 55 := ⟨_, rfl⟩
    rw [← hGc] at hRs hGn ⊢
    have hnw : (w.alloc (.cells ROW 55)).drew.heap[w.heap.size]? = some (.cells ROW 55 (0, 0)) := by
      show (w.heap.push _)[w.heap.size]? = _
      rw [Array.getElem?_push_size]
    obtain ⟨C1, g1, g2, g3, g4, g5⟩ := setCells_at w.heap.size vs (i * 13) _ ROW 55 (0, 0) hnw (by rw [hvl]; omega)
    have g1' : (((w.alloc (.cells ROW 55)).drew.setCells w.heap.size (i * 13) vs).drew).heap[w.heap.size]? = some (.cells C1 55 (0, 0)) := g1
    obtain ⟨C, k1, k2, k3, k4, k5⟩ := setCells_at w.heap.size (cs.drop (i * 13)) ((i + 1) * 13) _ C1 55 (0, 0) g1' (by rw [hdl, g2]; omega)
    obtain ⟨w', hw'⟩ : ∃ w', w' = (((w.alloc (.cells ROW 55)).drew.setCells w.heap.size (i * 13) vs).drew).setCells w.heap.size ((i + 1) * 13) (cs.drop (i * 13)) := ⟨_, rfl⟩
    have hoth : ∀ x, x < w.heap.size → w'.heap[x]? = w.heap[x]? := fun x hx => by
      rw [hw', setCells_other _ _ _ _ x (by omega)]
      show ((w.alloc (.cells ROW 55)).drew.setCells w.heap.size (i * 13) vs).heap[x]? = _
      rw [setCells_other _ _ _ _ x (by omega)]
      show (w.heap.push _)[x]? = _
      rw [Array.getElem?_push, if_neg (by omega)]
    have hsize : w'.heap.size = w.heap.size + 1 := by
      rw [hw', setCells_size]
      show ((w.alloc (.cells ROW 55)).drew.setCells w.heap.size (i * 13) vs).heap.size = _
      rw [setCells_size]
      show (w.heap.push _).size = _
      rw [Array.size_push]
    have henv : Env w w' := by
      have e1 := setCells_env w.heap.size (cs.drop (i * 13)) ((i + 1) * 13) (((w.alloc (.cells ROW 55)).drew.setCells w.heap.size (i * 13) vs).drew)
      have e2 := setCells_env w.heap.size vs (i * 13) ((w.alloc (.cells ROW 55)).drew)
      rw [hw']
      exact ⟨e1.1.trans e2.1, e1.2.1.trans e2.2.1, e1.2.2.trans e2.2.2⟩
    rw [← hw'] at k1 ⊢
    obtain ⟨q1, q2⟩ := ins_rows (w := w) (N := N) (n := n) (i := i) (base := base) (base' := 0) (vo := vo) (A := A) (B := B) (C := C) hi hl (hl1 0 (by omega)) hA hBr
      (fun k j hk hj => by rw [k3 _ (by omega), g3 _ (by omega), hR1 _ (by omega), hcsA _ (by omega)]; congr 1; omega)
      (fun j hj => by rw [k3 _ (by omega), Nat.zero_add, g4 j (by rw [hvl]; exact hj), hvsB j hj])
      (fun k j hk1 hk2 hj => by
        rw [show 0 + (k + 1) * 13 + j = (i + 1) * 13 + ((k - i) * 13 + j) by omega, k4 _ (by rw [hdl]; omega), List.getElem?_drop, hcsA _ (by omega)]
        congr 1
        omega) hR
    refine ⟨_, [w.heap.size], [], rfl, henv, by rw [hsize]; omega, fun x hx _ => hoth x hx, fun x xs xe xf hx => ⟨xs, by rw [hoth x (Array.getElem?_eq_some_iff.1 hx).1]; exact hx, rfl⟩, fun x hx => ?_, by simp, ?_, ?_⟩
    · have hx : x = w.heap.size := by simpa using hx
      subst hx
      exact ⟨by rw [hsize]; omega, .inr (Nat.le_refl _)⟩
    · refine ⟨q1, .inr ⟨w.heap.size, 0, Gc, C, 55, rfl, rfl, by omega, hGn, k1, by rw [k2, g2, hRs]; omega, fun k j x hk hj => ?_⟩⟩
      obtain ⟨u, hu, hd⟩ := q2 k j x hk hj
      exact ⟨u, hu, hd.carry fun x hx => ⟨hoth x (hN x hx), by have := hN x hx; rw [hsize]; omega, by have := hN x hx; simp; omega, .inl hx⟩⟩
    · rfl
end Go.Rk
/- What is known of values, put together. -/
namespace Go.Rk
set_option linter.unusedSimpArgs false
set_option linter.unusedVariables false
open Go.Proofs
set_option maxRecDepth 100000
set_option maxHeartbeats 1000000
theorem c_AggBoth (a b c : AggT) (hc : c = aggB a b) : Meets Try.prog 59 [xd (eAgg a), xd (eAgg b)] ⟨.one (xd (eAgg c)), [none, none]⟩ := by
  obtain ⟨n, s, l, m⟩ := a; obtain ⟨n2, s2, l2, m2⟩ := b; obtain ⟨n3, s3, l3, m3⟩ := c
  refine meets_of (H := []) (EX := EXA) ttok mixed Try.func59 rfl (by kernel_rfl) (by decide) ?_
  generalize hA : real = A
  generalize hM : MeetsB Try.prog = M
  cbv
  repeat' first
    | apply And.intro
    | exact True.intro
    | with_reducible rfl
    | exact same_of hA rfl
    | refine br_of hA (fun _ => ?_) (fun _ => ?_)
    | exact imp_of hA id
    | (refine imp_of hA ?_; subst hA; simp only [real, Bool.true_and]; exact id)
    | (refine ind_of hA ?_; decide +kernel)
  all_goals
    subst hA
    simp only [aggB, w64] at hc
    simp only [real, bifA, bifB, bifC, bifD, beqI, beqIF, decide_eq_true_eq, decide_eq_false_iff_not, gt_iff_lt] at *
    simp_all
theorem c_AggAdd (a : AggT) (v : Int) (c : AggT) (hc : c = aggAdd a v) : Meets Try.prog 37 [xd (eAgg a), .c (.d (eI v))] ⟨.one (xd (eAgg c)), [none, none]⟩ := by
  have h := c_AggBoth a (agg1 v) c hc
  obtain ⟨n, s, l, m⟩ := a
  refine meets_of (H := []) (EX := EXA) ttok mixed Try.func37 rfl (by kernel_rfl) (by decide) ?_
  generalize hA : real = A
  generalize hM : MeetsB Try.prog = M
  cbv
  repeat' first
    | apply And.intro
    | exact True.intro
    | with_reducible rfl
    | exact same_of hA rfl
    | refine br_of hA (fun _ => ?_) (fun _ => ?_)
    | exact imp_of hA id
    | (refine imp_of hA ?_; subst hA; simp only [real, Bool.true_and]; exact id)
    | (refine ind_of hA ?_; decide +kernel)
    | (refine call_of hA hM _ h ?_; cbv)
theorem c_WinSpan (a b c : WinT) (hc : c = winSpan a b) : Meets Try.prog 80 [xd (eWin a), xd (eWin b)] ⟨.one (xd (eWin c)), [none, none]⟩ := by
  obtain ⟨n, s⟩ := a; obtain ⟨n2, s2⟩ := b; obtain ⟨n3, s3⟩ := c
  refine meets_of (H := []) (EX := EXA) ttok mixed Try.func80 rfl (by kernel_rfl) (by decide) ?_
  generalize hA : real = A
  generalize hM : MeetsB Try.prog = M
  cbv
  repeat' first
    | apply And.intro
    | exact True.intro
    | with_reducible rfl
    | exact same_of hA rfl
    | refine br_of hA (fun _ => ?_) (fun _ => ?_)
    | exact imp_of hA id
    | (refine imp_of hA ?_; subst hA; simp only [real, Bool.true_and]; exact id)
    | (refine ind_of hA ?_; decide +kernel)
  all_goals
    subst hA
    simp only [winSpan] at hc
    simp only [real, bifA, bifB, bifC, bifD, beqI, beqIF, decide_eq_true_eq, decide_eq_false_iff_not, gt_iff_lt] at *
    simp_all
end Go.Rk
/- How much a mark leaves and tells. -/
namespace Go.Rk
set_option linter.unusedSimpArgs false
set_option linter.unusedVariables false
theorem opMarkL_len (j : JobT) (s : OpStT) (m : Int) : (opMarkL j s m).2.1.length ≤ s.rows.n ∧ (opMarkL j s m).2.2.length ≤ s.rows.n := by
  unfold opMarkL
  split
  · exact ⟨Nat.zero_le _, Nat.zero_le _⟩
  · split
    · exact ⟨by simp, Nat.zero_le _⟩
    · exact ⟨keepN_len _ _ _, tellN_len _ _ _ _⟩
end Go.Rk
/- A row that is put, and found. -/
namespace Go.Rk
set_option linter.unusedSimpArgs false
set_option linter.unusedVariables false
theorem tFind_ins_same {r : TabT} : ∀ {l : List TabT}, (∀ q, q ∈ l → ¬ IsRow r.key r.win q) → tFind r.key r.win (tIns r l) = some r.agg
  | [], _ => by
    show (if IsRow r.key r.win r then some r.agg else _) = _
    rw [if_pos ⟨rfl, rfl, rfl⟩]
  | q :: l, h => by
    show tFind r.key r.win (if Ahead r q then r :: q :: l else q :: tIns r l) = _
    split
    · show (if IsRow r.key r.win r then some r.agg else _) = _
      rw [if_pos ⟨rfl, rfl, rfl⟩]
    · show (if IsRow r.key r.win q then some q.agg else tFind r.key r.win (tIns r l)) = _
      rw [if_neg (h q (by simp)), tFind_ins_same fun x hx => h x (List.mem_cons_of_mem _ hx)]
theorem tFind_put_same (r : TabT) (l : List TabT) : tFind r.key r.win (tPut r l) = some r.agg := tFind_ins_same fun q hq => (tOut_in.1 hq).2
theorem tFind_ins_other {r : TabT} {k : Int} {w : WinT} (hn : ¬ IsRow k w r) : ∀ (l : List TabT), tFind k w (tIns r l) = tFind k w l
  | [] => by
    show (if IsRow k w r then some r.agg else none) = none
    rw [if_neg hn]
  | q :: l => by
    show tFind k w (if Ahead r q then r :: q :: l else q :: tIns r l) = (if IsRow k w q then some q.agg else tFind k w l)
    split
    · show (if IsRow k w r then some r.agg else (if IsRow k w q then some q.agg else tFind k w l)) = _
      rw [if_neg hn]
    · show (if IsRow k w q then some q.agg else tFind k w (tIns r l)) = _
      rw [tFind_ins_other hn l]
theorem tFind_out_other {k k2 : Int} {w w2 : WinT} (hn : ∀ q, IsRow k w q → ¬ IsRow k2 w2 q) : ∀ (l : List TabT), tFind k w (tOut k2 w2 l) = tFind k w l
  | [] => rfl
  | q :: l => by
    show tFind k w (if IsRow k2 w2 q then tOut k2 w2 l else q :: tOut k2 w2 l) = (if IsRow k w q then some q.agg else tFind k w l)
    split
    · rename_i h
      rw [tFind_out_other hn l, if_neg (fun h' => hn q h' h)]
    · show (if IsRow k w q then some q.agg else tFind k w (tOut k2 w2 l)) = _
      rw [tFind_out_other hn l]
theorem tFind_put_other {r : TabT} {k : Int} {w : WinT} (hn : ¬ IsRow k w r) (l : List TabT) : tFind k w (tPut r l) = tFind k w l := by
  unfold tPut
  rw [tFind_ins_other hn, tFind_out_other fun q h h' => hn (by unfold IsRow at *; omega)]
end Go.Rk
/- What a record does to rows, in plain words. -/
namespace Go.Rk
set_option linter.unusedSimpArgs false
set_option linter.unusedVariables false
theorem win_ext {a b : WinT} (h1 : a.s = b.s) (h2 : a.e = b.e) : a = b := by cases a; cases b; simp_all
def IsR (k : Int) (w : WinT) (r : RowT) : Prop := r.key = k ∧ (r.win.s = w.s ∧ r.win.e = w.e)
instance (k : Int) (w : WinT) (r : RowT) : Decidable (IsR k w r) := inferInstanceAs (Decidable (_ ∧ _))
def RA (r q : RowT) : Prop := AheadP r.key r.win q.key q.win
instance (r q : RowT) : Decidable (RA r q) := inferInstanceAs (Decidable (_ ∨ (_ ∧ (_ ∨ (_ ∧ _)))))
def rOut (k : Int) (w : WinT) (l : List RowT) : List RowT := l.filter fun r => !decide (IsR k w r)
def rIns (r : RowT) : List RowT → List RowT
  | [] => [r]
  | q :: l => if RA r q then r :: q :: l else q :: rIns r l
def rPut (r : RowT) (l : List RowT) : List RowT := rIns r (rOut r.key r.win l)
def rFind (k : Int) (w : WinT) (l : List RowT) : Option RowT := l.find? fun r => decide (IsR k w r)
def kindT (r : RowT) : Int := if r.timely = true then 2 else 1
def tellS (j : JobT) (m : Int) (r : RowT) : RowT × List PaneT := if m < r.win.e then (r, []) else (toldR r, [paneP j.piece r (kindT r)])
def addR (r : RowT) (v : Int) : RowT := { r with all := aggAdd r.all v, fresh := aggAdd r.fresh v }
def nrow (k : Int) (w : WinT) : RowT := ⟨k, w, zAgg, zAgg, 0, false⟩
/-- A value put into a window that does not grow. -/
def intoL (j : JobT) (m : Int) (k v : Int) (w : WinT) (l : List RowT) : Option (List RowT × List PaneT) :=
  if w64 (w.e + j.late) ≤ m then none
  else some (rPut (tellS j m (addR ((rFind k w l).getD (nrow k w)) v)).1 l, (tellS j m (addR ((rFind k w l).getD (nrow k w)) v)).2)
def tchR (k : Int) (w : WinT) (r : RowT) : Bool := decide (r.key = k ∧ (r.win.s < w.e ∧ w.s < r.win.e))
def spanL (w : WinT) (l : List RowT) : WinT := l.foldl (fun s r => winSpan s r.win) w
def goneP (r : RowT) : PaneT := ⟨r.key, r.win, r.told, 3, zAgg⟩
def goneL (l : List RowT) : List PaneT := (l.filter fun r => decide (0 < r.told)).map goneP
def oneB (w : WinT) : List RowT → Bool
  | [o] => decide (o.win.s = w.s ∧ o.win.e = w.e)
  | _ => false
def oldL (k : Int) (w : WinT) (l : List RowT) : List RowT := l.filter (tchR k w)
def restL (k : Int) (w : WinT) (l : List RowT) : List RowT := l.filter fun r => !tchR k w r
/-- A value put into a session. -/
def sessL (j : JobT) (m : Int) (k v : Int) (w : WinT) (l : List RowT) : Option (List RowT × List PaneT) :=
  if w64 ((spanL w (oldL k w l)).e + j.late) ≤ m then none
  else if oneB (spanL w (oldL k w l)) (oldL k w l) = true then intoL j m k v (spanL w (oldL k w l)) l
  else some (rPut (tellS j m ⟨k, spanL w (oldL k w l), ((oldL k w l).map (·.all)).foldl aggB (agg1 v), ((oldL k w l).map (·.all)).foldl aggB (agg1 v), 0, false⟩).1 (restL k w l),
    goneL (oldL k w l) ++ (tellS j m ⟨k, spanL w (oldL k w l), ((oldL k w l).map (·.all)).foldl aggB (agg1 v), ((oldL k w l).map (·.all)).foldl aggB (agg1 v), 0, false⟩).2)
def stepT (j : JobT) (m : Int) (x : ItmT) (w : WinT) (l : List RowT) : Option (List RowT × List PaneT) := if j.kind = 3 then sessL j m x.key x.v w l else intoL j m x.key x.v w l
def takeS (j : JobT) (m : Int) (x : ItmT) (a : List RowT × List PaneT × List LatT) (w : WinT) : List RowT × List PaneT × List LatT :=
  match stepT j m x w a.1 with
  | some q => (q.1, a.2.1 ++ q.2, a.2.2)
  | none => (a.1, a.2.1, a.2.2 ++ [⟨x, w⟩])
def takeL (j : JobT) (m : Int) (x : ItmT) (ws : List WinT) (l : List RowT) : List RowT × List PaneT × List LatT := ws.foldl (takeS j m x) (l, [], [])
def rowsL (s : OpStT) : List RowT := (List.range s.rows.n).map s.rows.g
/-- What OpTake answers: the mark, the rows, what is told, and what came too late. -/
noncomputable def opTakeL (j : JobT) (s : OpStT) (x : ItmT) : Int × List RowT × List PaneT × List LatT :=
  open Classical in
  if OpOkP j s ∧ RecP x ∧ s.rows.n ≤ 280 then (s.mark, takeL j s.mark x (winsL j x.t) (rowsL s)) else (0, [], [], [])

theorem ra_irr (a : RowT) : ¬ RA a a := by unfold RA AheadP WinLt; omega
theorem ra_tr {a b c : RowT} (h : RA a b) (h' : RA b c) : RA a c := by unfold RA AheadP WinLt at *; omega
theorem ra_as {a b : RowT} (h : RA a b) : ¬ RA b a := by unfold RA AheadP WinLt at *; omega
theorem ra_tot {r q : RowT} (h : ¬ RA q r) (h' : ¬ IsR r.key r.win q) : RA r q := by unfold RA AheadP WinLt at *; unfold IsR at h'; omega
theorem ra_ne {k : Int} {w : WinT} {r q : RowT} (h : RA r q) (hr : IsR k w r) : ¬ IsR k w q := by unfold RA AheadP WinLt at h; unfold IsR at *; omega
theorem ra_l {k : Int} {w : WinT} {r r' q : RowT} (hr : IsR k w r) (hr' : IsR k w r') (h : RA r q) : RA r' q := by
  unfold RA AheadP WinLt at *; unfold IsR at *; omega
theorem ra_r {k : Int} {w : WinT} {r r' q : RowT} (hr : IsR k w r) (hr' : IsR k w r') (h : RA q r) : RA q r' := by
  unfold RA AheadP WinLt at *; unfold IsR at *; omega
abbrev RiseR (l : List RowT) : Prop := l.Pairwise RA
theorem rOut_none {k : Int} {w : WinT} {l : List RowT} (h : ∀ q, q ∈ l → ¬ IsR k w q) : rOut k w l = l := by
  unfold rOut
  rw [List.filter_eq_self]
  intro q hq
  simp [h q hq]
theorem mem_rOut {k : Int} {w : WinT} {l : List RowT} {q : RowT} : q ∈ rOut k w l ↔ q ∈ l ∧ ¬ IsR k w q := by
  unfold rOut; rw [List.mem_filter]; simp
theorem mem_rIns {r x : RowT} : ∀ {l : List RowT}, x ∈ rIns r l ↔ x = r ∨ x ∈ l
  | [] => by simp [rIns]
  | q :: l => by
    show x ∈ (if RA r q then r :: q :: l else q :: rIns r l) ↔ _
    split
    · simp
    · rw [List.mem_cons, mem_rIns, List.mem_cons]
      exact ⟨fun h => h.elim (fun e => .inr (.inl e)) (fun h => h.imp id .inr), fun h => h.elim (fun e => .inr (.inl e)) (fun h => h.elim .inl fun h => .inr (.inr h))⟩
theorem mem_rPut {r x : RowT} {l : List RowT} : x ∈ rPut r l ↔ x = r ∨ (x ∈ l ∧ ¬ IsR r.key r.win x) := by
  unfold rPut; rw [mem_rIns, mem_rOut]
theorem rIns_len (r : RowT) : ∀ l, (rIns r l).length = l.length + 1
  | [] => rfl
  | q :: l => by
    have := rIns_len r l
    show (if RA r q then r :: q :: l else q :: rIns r l).length = _
    split <;> simp <;> omega
theorem rPut_len (r : RowT) (l : List RowT) : (rPut r l).length ≤ l.length + 1 := by
  unfold rPut rOut
  rw [rIns_len]
  have := List.length_filter_le (fun q => !decide (IsR r.key r.win q)) l
  omega
theorem rise_rIns {r : RowT} : ∀ {l : List RowT}, RiseR l → (∀ q, q ∈ l → ¬ IsR r.key r.win q) → RiseR (rIns r l)
  | [], _, _ => by simp [rIns, RiseR]
  | q :: l, h, hn => by
    have h' := h
    rw [RiseR, List.pairwise_cons] at h
    show RiseR (if RA r q then r :: q :: l else q :: rIns r l)
    split
    · rename_i ha
      rw [RiseR, List.pairwise_cons]
      refine ⟨fun x hx => ?_, h'⟩
      rcases List.mem_cons.1 hx with rfl | hx
      · exact ha
      · exact ra_tr ha (h.1 x hx)
    · rename_i ha
      rw [RiseR, List.pairwise_cons]
      refine ⟨fun x hx => ?_, rise_rIns h.2 fun y hy => hn y (List.mem_cons_of_mem _ hy)⟩
      rcases mem_rIns.1 hx with rfl | hx
      · have h1 := hn q (by simp)
        unfold RA AheadP WinLt at *; unfold IsR at h1; omega
      · exact h.1 x hx
theorem rise_rOut {k : Int} {w : WinT} {l : List RowT} (h : RiseR l) : RiseR (rOut k w l) := List.Pairwise.filter _ h
theorem rise_rPut {r : RowT} {l : List RowT} (h : RiseR l) : RiseR (rPut r l) := rise_rIns (rise_rOut h) fun q hq => (mem_rOut.1 hq).2
theorem rPut_set {k : Int} {w : WinT} {r : RowT} (hr : IsR k w r) : ∀ {l : List RowT} {i : Nat} {q : RowT}, RiseR l → l[i]? = some q → IsR k w q → rPut r l = l.set i r
  | [], _, _, _, h, _ => by simp at h
  | q0 :: l, 0, q, hs, h, hq => by
    simp at h; subst h
    rw [RiseR, List.pairwise_cons] at hs
    have hk : IsR r.key r.win q0 := by unfold IsR at *; omega
    have hno : ∀ x, x ∈ l → ¬ IsR r.key r.win x := fun x hx => ra_ne (hs.1 x hx) hk
    have e : rOut r.key r.win (q0 :: l) = l := by
      unfold rOut
      rw [List.filter_cons, if_neg (by simp [hk])]
      exact rOut_none hno
    unfold rPut
    rw [e]
    cases l with
    | nil => rfl
    | cons x l =>
      show (if RA r x then r :: x :: l else x :: rIns r l) = _
      rw [if_pos (ra_l hq hr (hs.1 x (by simp)))]; rfl
  | q0 :: l, i + 1, q, hs, h, hq => by
    have hs' := hs
    rw [RiseR, List.pairwise_cons] at hs
    have hm : q ∈ l := List.mem_of_getElem? (by simpa using h)
    have ha : RA q0 q := hs.1 q hm
    have hn0 : ¬ IsR r.key r.win q0 := by
      intro h0
      refine ra_ne ha h0 ?_
      unfold IsR at *; omega
    have ih := rPut_set hr (l := l) (i := i) (q := q) hs.2 (by simpa using h) hq
    unfold rPut at ih ⊢
    have e : rOut r.key r.win (q0 :: l) = q0 :: rOut r.key r.win l := by
      unfold rOut
      rw [List.filter_cons, if_pos (by simp [hn0])]
    rw [e]
    show (if RA r q0 then _ else q0 :: rIns r (rOut r.key r.win l)) = _
    rw [if_neg (ra_as (ra_r hq hr ha)), ih]; rfl
theorem rIns_at {r : RowT} : ∀ {l : List RowT} {i : Nat}, (∀ t x, t < i → l[t]? = some x → ¬ RA r x) → (∀ x, l[i]? = some x → RA r x) → i ≤ l.length → rIns r l = l.take i ++ r :: l.drop i
  | [], i, _, _, h => by
    have : i = 0 := by simpa using h
    subst this; rfl
  | q :: l, 0, _, h2, _ => by
    show (if RA r q then r :: q :: l else q :: rIns r l) = _
    rw [if_pos (h2 q rfl)]; rfl
  | q :: l, i + 1, h1, h2, h3 => by
    show (if RA r q then r :: q :: l else q :: rIns r l) = _
    rw [if_neg (h1 0 q (by omega) rfl), rIns_at (l := l) (i := i) (fun t x ht hx => h1 (t + 1) x (by omega) (by simpa using hx)) (fun x hx => h2 x (by simpa using hx)) (by simpa using h3)]
    rfl
theorem lst_at {α : Type} {z : α} {l : List α} {n : Nat} {g : Nat → α} (h : Lst z l n g) {i : Nat} (hi : i < n) : l[i]? = some (g i) := by
  have hl : i < l.length := by rw [← h.1]; exact hi
  rw [h.2 i hi, List.getD_eq_getElem?_getD, List.getElem?_eq_getElem hl]; rfl
theorem lst_get {α : Type} {z : α} {l : List α} {n : Nat} {g : Nat → α} (h : Lst z l n g) {i : Nat} {x : α} (hx : l[i]? = some x) : i < n ∧ g i = x := by
  have hl : i < l.length := (List.getElem?_eq_some_iff.1 hx).1
  refine ⟨by rw [h.1]; exact hl, ?_⟩
  rw [h.2 i (by rw [h.1]; exact hl), List.getD_eq_getElem?_getD, hx]; rfl
theorem lst_gets {α : Type} {z : α} {l : List α} {n : Nat} {g : Nat → α} (hn : n = l.length) (h : ∀ k, k < n → l[k]? = some (g k)) : Lst z l n g :=
  ⟨hn, fun k hk => by rw [List.getD_eq_getElem?_getD, h k hk]; rfl⟩
/-- A row that is there is turned where it stands. -/
theorem rput_found {l : List RowT} {n : Nat} {R : Nat → RowT} (hL : Lst zRow l n R) (hs : RiseR l) {k : Int} {w : WinT} {i : Nat} (hi : i < n) (he : IsR k w (R i)) {r : RowT} (hr : IsR k w r) {R' : Nat → RowT} (hR : ∀ q, q < n → R' q = if q = i then r else R q) :
    Lst zRow (rPut r l) n R' := by
  rw [rPut_set hr hs (lst_at hL hi) he]
  refine lst_gets (by rw [List.length_set]; exact hL.1) fun q hq => ?_
  rw [hR q hq, List.getElem?_set]
  by_cases e : q = i
  · subst e
    rw [if_pos rfl, if_pos rfl, if_pos (by rw [← hL.1]; exact hq)]
  · rw [if_neg (fun h => e h.symm), if_neg e, lst_at hL hq]
/-- A row that is new is put in its place. -/
theorem rput_new {l : List RowT} {n : Nat} {R : Nat → RowT} (hL : Lst zRow l n R) {r : RowT} {i : Nat} (hi : i ≤ n) (h1 : ∀ q, q < i → RA (R q) r) (h2 : ∀ q, i ≤ q → q < n → ¬ RA (R q) r) (hn : ∀ q, q < n → ¬ IsR r.key r.win (R q))
    {R' : Nat → RowT} (hR : ∀ q, q < n + 1 → R' q = if q < i then R q else if q = i then r else R (q - 1)) : Lst zRow (rPut r l) (n + 1) R' := by
  have hm : ∀ q, q ∈ l → ¬ IsR r.key r.win q := fun q hq => by
    obtain ⟨t, ht, rfl⟩ := lst_mem hL hq
    exact hn t ht
  have hl : l.length = n := hL.1.symm
  unfold rPut
  rw [rOut_none hm, rIns_at (i := i) (fun t x ht hx => by
      obtain ⟨h, rfl⟩ := lst_get hL hx
      exact ra_as (h1 t ht)) (fun x hx => by
      obtain ⟨h, rfl⟩ := lst_get hL hx
      exact ra_tot (h2 i (Nat.le_refl _) h) (hn i h)) (by omega)]
  have htl : (l.take i).length = i := by rw [List.length_take]; omega
  refine lst_gets (by simp; omega) fun q hq => ?_
  rw [hR q hq]
  by_cases a : q < i
  · rw [if_pos a, List.getElem?_append_left (by omega), List.getElem?_take, if_pos a, lst_at hL (by omega)]
  · rw [if_neg a, List.getElem?_append_right (by omega), htl]
    by_cases b : q = i
    · rw [if_pos b, b, Nat.sub_self]; rfl
    · rw [if_neg b, show q - i = (q - 1 - i) + 1 by omega, List.getElem?_cons_succ, List.getElem?_drop, show i + (q - 1 - i) = q - 1 by omega, lst_at hL (by omega)]
theorem rfind_some {k : Int} {w : WinT} {i : Nat} {l : List RowT} {n : Nat} {R : Nat → RowT} (hL : Lst zRow l n R) (hi : i < n) (he : IsR k w (R i)) (hb : ∀ q, q < i → ¬ IsR k w (R q)) : rFind k w l = some (R i) := by
  unfold rFind
  rw [List.find?_eq_some_iff_getElem]
  refine ⟨by simp [he], i, by rw [← hL.1]; exact hi, ?_, fun q hq => ?_⟩
  · have := lst_at hL hi
    rw [List.getElem?_eq_getElem (by rw [← hL.1]; exact hi)] at this
    simpa using this
  · have := lst_at hL (show q < n by omega)
    rw [List.getElem?_eq_getElem (by rw [← hL.1]; omega)] at this
    simp at this
    simp [this, hb q hq]
theorem rfind_none {k : Int} {w : WinT} {l : List RowT} {n : Nat} {R : Nat → RowT} (hL : Lst zRow l n R) (hb : ∀ q, q < n → ¬ IsR k w (R q)) : rFind k w l = none := by
  unfold rFind
  rw [List.find?_eq_none]
  intro q hq
  obtain ⟨t, ht, rfl⟩ := lst_mem hL hq
  simp [hb t ht]
theorem isR_eq {k : Int} {w : WinT} {r : RowT} (h : IsR k w r) : r.key = k ∧ r.win = w := ⟨h.1, win_ext h.2.1 h.2.2⟩
theorem addR_is {k : Int} {w : WinT} {r : RowT} {v : Int} (h : IsR k w r) : IsR k w (addR r v) := h
theorem toldR_is {k : Int} {w : WinT} {r : RowT} (h : IsR k w r) : IsR k w (toldR r) := h
theorem tellS_is {k : Int} {w : WinT} {r : RowT} {j : JobT} {m : Int} (h : IsR k w r) : IsR k w (tellS j m r).1 := by
  unfold tellS; split <;> exact h
theorem nrow_is (k : Int) (w : WinT) : IsR k w (nrow k w) := ⟨rfl, rfl, rfl⟩
theorem getD_is {k : Int} {w : WinT} {l : List RowT} : IsR k w ((rFind k w l).getD (nrow k w)) := by
  cases h : rFind k w l with
  | none => exact nrow_is k w
  | some r =>
    unfold rFind at h
    have := List.find?_some h
    simpa using this
theorem rise_into {j : JobT} {m k v : Int} {w : WinT} {l : List RowT} {q : List RowT × List PaneT} (h : RiseR l) (he : intoL j m k v w l = some q) : RiseR q.1 := by
  unfold intoL at he
  split at he
  · cases he
  · cases he; exact rise_rPut h
theorem rise_sess {j : JobT} {m k v : Int} {w : WinT} {l : List RowT} {q : List RowT × List PaneT} (h : RiseR l) (he : sessL j m k v w l = some q) : RiseR q.1 := by
  unfold sessL at he
  split at he
  · cases he
  · split at he
    · exact rise_into h he
    · cases he; exact rise_rPut (List.Pairwise.filter _ h)
theorem rise_takeS {j : JobT} {m : Int} {x : ItmT} {a : List RowT × List PaneT × List LatT} {w : WinT} (h : RiseR a.1) : RiseR (takeS j m x a w).1 := by
  unfold takeS
  split
  · rename_i q hq
    unfold stepT at hq
    split at hq
    · exact rise_sess h hq
    · exact rise_into h hq
  · exact h
theorem into_len {j : JobT} {m k v : Int} {w : WinT} {l : List RowT} {q : List RowT × List PaneT} (he : intoL j m k v w l = some q) : q.1.length ≤ l.length + 1 ∧ q.2.length ≤ 1 := by
  unfold intoL at he
  split at he
  · cases he
  · cases he
    refine ⟨rPut_len _ _, ?_⟩
    unfold tellS; split <;> simp
theorem gone_len (l : List RowT) : (goneL l).length ≤ l.length := by unfold goneL; rw [List.length_map]; exact List.length_filter_le _ _
theorem sess_len {j : JobT} {m k v : Int} {w : WinT} {l : List RowT} {q : List RowT × List PaneT} (he : sessL j m k v w l = some q) : q.1.length ≤ l.length + 1 ∧ q.2.length ≤ l.length + 1 := by
  unfold sessL at he
  split at he
  · cases he
  · split at he
    · obtain ⟨h1, h2⟩ := into_len he
      exact ⟨h1, by omega⟩
    · cases he
      have h1 := List.length_filter_le (fun r => !tchR k w r) l
      have h2 := gone_len (oldL k w l)
      have h3 : (oldL k w l).length ≤ l.length := List.length_filter_le _ _
      refine ⟨Nat.le_trans (rPut_len _ _) (Nat.succ_le_succ h1), ?_⟩
      show (goneL (oldL k w l) ++ _).length ≤ _
      rw [List.length_append]
      have : ∀ r, (tellS j m r).2.length ≤ 1 := fun r => by unfold tellS; split <;> simp
      have := this ⟨k, spanL w (oldL k w l), ((oldL k w l).map (·.all)).foldl aggB (agg1 v), ((oldL k w l).map (·.all)).foldl aggB (agg1 v), 0, false⟩
      omega
theorem takeS_len {j : JobT} {m : Int} {x : ItmT} {a : List RowT × List PaneT × List LatT} {w : WinT} : (takeS j m x a w).1.length ≤ a.1.length + 1 ∧ (takeS j m x a w).2.1.length ≤ a.2.1.length + a.1.length + 1 ∧ (takeS j m x a w).2.2.length ≤ a.2.2.length + 1 := by
  unfold takeS
  split
  · rename_i q hq
    unfold stepT at hq
    rw [List.length_append]
    split at hq
    · have := sess_len hq; refine ⟨by first | omega | (dsimp only; omega), by first | omega | (dsimp only; omega), by first | omega | (dsimp only; omega)⟩
    · have := into_len hq; refine ⟨by first | omega | (dsimp only; omega), by first | omega | (dsimp only; omega), by first | omega | (dsimp only; omega)⟩
  · rw [List.length_append]
    refine ⟨by first | omega | (dsimp only; omega), by first | omega | (dsimp only; omega), by simp⟩
theorem takeL_snoc (j : JobT) (m : Int) (x : ItmT) (ws : List WinT) (w : WinT) (l : List RowT) : takeL j m x (ws ++ [w]) l = takeS j m x (takeL j m x ws l) w := by
  unfold takeL; rw [List.foldl_append]; rfl
theorem snocInd {α : Type} {P : List α → Prop} (h0 : P []) (h1 : ∀ l x, P l → P (l ++ [x])) : ∀ l, P l := by
  intro l
  rw [← List.reverse_reverse l]
  induction l.reverse with
  | nil => exact h0
  | cons x r ih => rw [List.reverse_cons]; exact h1 _ _ ih
theorem rise_takeL {j : JobT} {m : Int} {x : ItmT} {l : List RowT} (h : RiseR l) : ∀ (ws : List WinT) , RiseR (takeL j m x ws l).1 := by
  refine snocInd h fun ws w ih => ?_
  rw [takeL_snoc]; exact rise_takeS ih
theorem takeL_len {j : JobT} {m : Int} {x : ItmT} {l : List RowT} : ∀ (ws : List WinT), (takeL j m x ws l).1.length ≤ l.length + ws.length ∧ (takeL j m x ws l).2.1.length ≤ ws.length * (l.length + ws.length + 1) ∧ (takeL j m x ws l).2.2.length ≤ ws.length := by
  refine snocInd (by simp [takeL]) fun ws w ih => ?_
  · rw [takeL_snoc]
    have := takeS_len (j := j) (m := m) (x := x) (a := takeL j m x ws l) (w := w)
    obtain ⟨h1, h2, h3⟩ := ih
    obtain ⟨g1, g2, g3⟩ := this
    refine ⟨by simp; omega, ?_, by simp; omega⟩
    have e : (ws ++ [w]).length = ws.length + 1 := by simp
    rw [e, Nat.succ_mul]
    have : ws.length * (l.length + ws.length + 1) ≤ ws.length * (l.length + (ws.length + 1) + 1) := Nat.mul_le_mul_left _ (by omega)
    omega
end Go.Rk
/- What is known of sessions that become one, in either order. -/
namespace Go.Rk
set_option linter.unusedSimpArgs false
set_option linter.unusedVariables false
theorem aggB_rc {a b c : AggT} (ha : 0 ≤ a.n ∧ a.n ≤ 1000000000) (hb : 1 ≤ b.n ∧ b.n ≤ 1000) (hc : 1 ≤ c.n ∧ c.n ≤ 1000) : aggB (aggB a b) c = aggB (aggB a c) b := by
  obtain ⟨an, az, al, am⟩ := a
  obtain ⟨bn, bs, bl, bm⟩ := b
  obtain ⟨cn, cs, cl, cm⟩ := c
  simp only at ha hb hc
  unfold aggB
  by_cases h : an = 0
  · simp only [if_pos h]
    rw [if_neg (show ¬ bn = 0 by omega), if_neg (show ¬ cn = 0 by omega), if_neg (show ¬ cn = 0 by omega), if_neg (show ¬ bn = 0 by omega)]
    refine AggT.mk.injEq .. ▸ ⟨?_, ?_, ?_, ?_⟩
    · rw [Int.add_comm]
    · rw [Int.add_comm]
    · split <;> split <;> omega
    · split <;> split <;> omega
  · have e1 : w64 (an + bn) = an + bn := w64_in _ (by omega)
    have e2 : w64 (an + cn) = an + cn := w64_in _ (by omega)
    simp only [if_neg h, if_neg (show ¬ bn = 0 by omega), if_neg (show ¬ cn = 0 by omega), e1, e2, if_neg (show ¬ an + bn = 0 by omega), if_neg (show ¬ an + cn = 0 by omega)]
    refine AggT.mk.injEq .. ▸ ⟨?_, ?_, ?_, ?_⟩
    · rw [show an + bn + cn = an + cn + bn by omega]
    · unfold w64; simp only [IntKind.wrap_i64]; omega
    · split <;> split <;> (try split) <;> (try split) <;> omega
    · split <;> split <;> (try split) <;> (try split) <;> omega
theorem aggB_n {a b : AggT} (ha : 0 ≤ a.n ∧ a.n ≤ 1000000000) (hb : 1 ≤ b.n ∧ b.n ≤ 1000) : 1 ≤ (aggB a b).n ∧ (aggB a b).n ≤ a.n + 1000 := by
  unfold aggB
  by_cases h : a.n = 0
  · rw [if_pos h]; omega
  · rw [if_neg h, if_neg (by omega)]
    show 1 ≤ w64 (a.n + b.n) ∧ w64 (a.n + b.n) ≤ _
    rw [w64_in _ (by omega)]; omega
theorem fold_rc (c : AggT) (hc : 1 ≤ c.n ∧ c.n ≤ 1000) : ∀ (L : List AggT) (a : AggT), 0 ≤ a.n → a.n + 1000 * (L.length : Int) ≤ 1000000000 → (∀ b, b ∈ L → 1 ≤ b.n ∧ b.n ≤ 1000) → aggB (L.foldl aggB a) c = L.foldl aggB (aggB a c)
  | [], _, _, _, _ => rfl
  | b :: L, a, h1, h2, hb => by
    have hb0 := hb b (by simp)
    simp only [List.length_cons, Int.natCast_add, Int.natCast_one] at h2
    have hn := aggB_n (a := a) (b := b) ⟨h1, by omega⟩ hb0
    rw [List.foldl_cons, List.foldl_cons, fold_rc c hc L _ (by omega) (by omega) fun x hx => hb x (List.mem_cons_of_mem _ hx), aggB_rc ⟨h1, by omega⟩ hb0 hc]
theorem fold_last {L : List AggT} {v : Int} (hl : L.length ≤ 1000) (hb : ∀ b, b ∈ L → 1 ≤ b.n ∧ b.n ≤ 1000) : aggAdd (L.foldl aggB zAgg) v = L.foldl aggB (agg1 v) := by
  unfold aggAdd
  rw [fold_rc (agg1 v) ⟨Int.le_refl _, (by show (1 : Int) ≤ 1000; decide)⟩ L zAgg (by decide) (by show (0 : Int) + _ ≤ _; omega) hb, aggB_z]
/-- A session grows to the beginning and the end of what it touches. -/
theorem span_in (w : WinT) : ∀ (l : List RowT) (u : WinT), (u.s ≤ w.s ∧ w.e ≤ u.e) → (spanL u l).s ≤ w.s ∧ w.e ≤ (spanL u l).e
  | [], _, h => h
  | r :: l, u, h => by
    unfold spanL
    rw [List.foldl_cons]
    refine span_in w l (winSpan u r.win) ?_
    unfold winSpan
    constructor <;> simp only <;> split <;> omega
theorem spanL_app (w : WinT) (l : List RowT) (r : RowT) : spanL w (l ++ [r]) = winSpan (spanL w l) r.win := by unfold spanL; rw [List.foldl_append]; rfl
/-- What stays has not the window of what was put together. -/
theorem rest_no {k : Int} {w : WinT} {l : List RowT} (hw : w.s < w.e) {q : RowT} (hq : q ∈ restL k w l) : ¬ IsR k (spanL w (oldL k w l)) q := by
  intro h
  have hs := span_in w (oldL k w l) w ⟨Int.le_refl _, Int.le_refl _⟩
  unfold restL at hq
  rw [List.mem_filter] at hq
  have h2 := hq.2
  unfold tchR at h2
  simp only [Bool.not_eq_true', decide_eq_false_iff_not] at h2
  unfold IsR at h
  omega
end Go.Rk
/- Small things that a record needs. -/
namespace Go.Rk
set_option linter.unusedSimpArgs false
set_option linter.unusedVariables false
open Go.Proofs
set_option maxRecDepth 100000
set_option maxHeartbeats 1000000
set_option maxRecDepth 100000 in
theorem c_isRec (kind t key v n : Int) : ∃ b, b = decide (kind = 1 ∧ (0 ≤ t ∧ t ≤ 60) ∧ (0 ≤ key ∧ key ≤ 3) ∧ (-9 ≤ v ∧ v ≤ 9) ∧ n = 0) ∧ Meets Try.prog 87 [.agg [.d (eI kind), .d (eI t), .d (eI key), .d (eI v), .d (eI n)]] ⟨.one (.c (.d (eB b))), [none]⟩ := by
  obtain ⟨b, hb⟩ : ∃ b, b = decide (kind = 1 ∧ (0 ≤ t ∧ t ≤ 60) ∧ (0 ≤ key ∧ key ≤ 3) ∧ (-9 ≤ v ∧ v ≤ 9) ∧ n = 0) := ⟨_, rfl⟩
  refine ⟨b, hb, ?_⟩
  refine meets_of (H := []) (EX := EXA) ttok mixed Try.func87 rfl (by kernel_rfl) (by decide) ?_
  generalize hA : real = A
  generalize hM : MeetsB Try.prog = M
  cbv
  repeat' first
    | apply And.intro
    | exact True.intro
    | with_reducible rfl
    | exact same_of hA rfl
    | refine br_of hA (fun _ => ?_) (fun _ => ?_)
    | exact imp_of hA id
    | (refine imp_of hA ?_; subst hA; simp only [real, Bool.true_and]; exact id)
    | (refine ind_of hA ?_; decide +kernel)
    | (refine call_ex hA hM (c_ItmOk _ _ _ _ _) (fun _ _ => ?_); cbv)
  all_goals subst hA
  all_goals refine congrArg (fun b => XA.one (.c (.d (eB b)))) (Bool.eq_iff_iff.2 ?_)
  all_goals subst_vars
  all_goals try simp only [real, bifA, bifB, bifC, bifD, decide_eq_true_eq, decide_eq_false_iff_not, beq_iff_eq, bne_iff_ne, beq_eq_false_iff_ne, bne_eq_false_iff_eq, ne_eq, Bool.and_eq_true, Bool.or_eq_true, Bool.not_eq_true', Bool.not_eq_false', Bool.and_eq_false_iff, Bool.or_eq_false_iff, Bool.false_eq_true, and_false, false_and, or_false, false_or, and_true, true_and, not_true_eq_false, not_false_eq_true, true_iff, false_iff, IntKind.wrap_i64] at *
  all_goals first
    | omega
    | skip
theorem c_isRecP (x : ItmT) : ∃ b, (b = true ↔ RecP x) ∧ Meets Try.prog 87 [xd (eItm x)] ⟨.one (.c (.d (eB b))), [none]⟩ := by
  obtain ⟨b, hb, hm⟩ := c_isRec x.kind x.t x.key x.v x.n
  refine ⟨b, ?_, hm⟩
  rw [hb, decide_eq_true_eq]
  unfold RecP ItmOkP
  omega
theorem c_crowded (mk : Int) (n : Nat) (hn : n ≤ 1080000) (g : Nat → RowT) : ∃ b, (b = true ↔ 280 < n) ∧ Meets Try.prog 104 [.agg [.d (eI mk), .d (.sl 13 n fun i => eRow (g i))]] ⟨.one (.c (.d (eB b))), [none]⟩ := by
  obtain ⟨b, hb⟩ : ∃ b, b = decide (280 < n) := ⟨_, rfl⟩
  refine ⟨b, by rw [hb, decide_eq_true_eq], ?_⟩
  refine meets_of (H := []) (EX := EXA) ttok mixed Try.func104 rfl (by kernel_rfl) (by decide) ?_
  generalize hA : real = A
  generalize hM : MeetsB Try.prog = M
  cbv
  repeat' first
    | apply And.intro
    | exact True.intro
    | with_reducible rfl
    | exact same_of hA rfl
    | refine br_of hA (fun _ => ?_) (fun _ => ?_)
    | exact imp_of hA id
    | (refine imp_of hA ?_; subst hA; simp only [real, Bool.true_and]; exact id)
    | (refine ind_of hA ?_; decide +kernel)
  all_goals subst hA
  refine congrArg (fun b => XA.one (.c (.d (eB b)))) ?_
  rw [hb]
  show decide ((280 : Int) < (n : Int)) = decide (280 < n)
  exact decide_eq_decide.2 (by omega)
open Classical in
set_option maxRecDepth 100000 in
theorem c_find1 (r : RowT) (key : Int) (w : WinT) : ∃ b, (b = true ↔ IsR key w r) ∧ Meets Try.prog 125 [xd (eRow r), .c (.d (.p [eI key])), .c (.d (.p (eWin w)))] ⟨.one (.c (.d (eB b))), [none, none, none]⟩ := by
  obtain ⟨b, hb⟩ : ∃ b, b = decide (IsR key w r) := ⟨_, rfl⟩
  refine ⟨b, by rw [hb, decide_eq_true_eq], ?_⟩
  refine meets_of (H := []) (EX := EXA) ttok mixed Try.func125 rfl (by kernel_rfl) (by decide) ?_
  generalize hA : real = A
  generalize hM : MeetsB Try.prog = M
  cbv
  repeat' first
    | apply And.intro
    | exact True.intro
    | with_reducible rfl
    | exact same_of hA rfl
    | refine br_of hA (fun _ => ?_) (fun _ => ?_)
    | exact imp_of hA id
    | (refine imp_of hA ?_; subst hA; simp only [real, Bool.true_and]; exact id)
    | (refine ind_of hA ?_; decide +kernel)
  all_goals obtain ⟨k, ⟨s, e⟩, ⟨x1, x2, x3, x4⟩, ⟨x5, x6, x7, x8⟩, x9, x10⟩ := r; obtain ⟨s2, e2⟩ := w
  all_goals subst hA
  all_goals refine congrArg (fun b => XA.one (.c (.d (eB b)))) (Bool.eq_iff_iff.2 ?_)
  all_goals subst_vars
  all_goals simp only [real, bifA, bifB, bifC, bifD, beqB, decide_eq_true_eq, decide_eq_false_iff_not, beqI, bneI, beqIF, bneIF, ne_eq, Bool.and_eq_true, Bool.or_eq_true, Bool.not_eq_true', Bool.not_eq_false', Bool.and_eq_false_iff, Bool.or_eq_false_iff, Bool.false_eq_true, and_false, false_and, or_false, false_or, and_true, true_and, not_true_eq_false, not_false_eq_true, true_iff, false_iff, IntKind.wrap_i64, IsR, WinOkP, AggOkP] at *
  all_goals first | omega | exact decide_eq_true_iff.symm
theorem c_find (mk : Int) (n : Nat) (hn : n ≤ 1080000) (g : Nat → RowT) (key : Int) (w : WinT) : ∃ x, FirstIx n (fun i => IsR key w (g i)) x ∧ Meets Try.prog 75 [.agg [.d (eI mk), .d (.sl 13 n fun i => eRow (g i))], .c (.d (eI key)), xd (eWin w)] ⟨.one (.c (.d (eI x))), [none, none, none]⟩ := by
  obtain ⟨x, hx, cI⟩ := c_IndexRow2 n (Nat.le_trans hn (by decide)) g 125 (.p [eI key]) (.p (eWin w)) (fun r => IsR key w r) (fun r => c_find1 r key w)
  refine ⟨x, hx, ?_⟩
  refine meets_of (H := []) (EX := EXA) ttok mixed Try.func75 rfl (by kernel_rfl) (by decide) ?_
  generalize hA : real = A
  generalize hM : MeetsB Try.prog = M
  cbv
  repeat' first
    | apply And.intro
    | exact True.intro
    | with_reducible rfl
    | exact same_of hA rfl
    | refine br_of hA (fun _ => ?_) (fun _ => ?_)
    | exact imp_of hA id
    | (refine imp_of hA ?_; subst hA; simp only [real, Bool.true_and]; exact id)
    | (refine ind_of hA ?_; decide +kernel)
    | (refine call_of hA hM _ cI ?_; cbv)
def st_bs (n : Nat) (g : Nat → RowT) (r : RowT) (a b : Nat) : St := ⟨[(9, .c (.d (eI a))), (10, .c (.d (eI b))), (8, .c (.d (eI n))), (0, .c (.d (.sl 13 n fun i => eRow (g i)))), (2, .c (.d (.fn 99 []))), (4, .c (.bp 256 1 0))], [(256, 1, .box ((eRow r).map .d))]⟩
theorem half_eq {A : Ar} (hA : real = A) {a b : Nat} (h : a + b ≤ 4000000) : A.wrap .i64 (A.ar .shr .u64 (A.wrap .u64 (A.ar .add .i64 (Int.ofNat a) (Int.ofNat b))) 1) = (((a + b) / 2 : Nat) : Int) := by
  subst hA
  show IntKind.i64.wrap (Int.fdiv (IntKind.u64.wrap (IntKind.i64.wrap ((a : Int) + (b : Int)))) (2 ^ min (Int.toNat 1) 64)) = _
  have e1 : IntKind.i64.wrap ((a : Int) + (b : Int)) = ((a + b : Nat) : Int) := by rw [IntWalk.i64_in _ (by omega)]; omega
  have e2 : IntKind.u64.wrap ((a + b : Nat) : Int) = ((a + b : Nat) : Int) := by simp only [IntKind.wrap_u64]; omega
  rw [e1, e2]
  have e3 : Int.fdiv ((a + b : Nat) : Int) (2 ^ min (Int.toNat 1) 64) = (((a + b) / 2 : Nat) : Int) := by
    show Int.fdiv ((a + b : Nat) : Int) 2 = _
    rw [Int.fdiv_eq_ediv_of_nonneg _ (by decide)]
    omega
  rw [e3, IntWalk.i64_in _ (by omega)]
theorem c_Half (n : Nat) (hn : n ≤ 1080000) (g : Nat → RowT) (r : RowT) (i : Nat) (hi : i ≤ n) (h1 : ∀ q, q < i → RA (g q) r) (h2 : ∀ q, i ≤ q → q < n → ¬ RA (g q) r) : ∃ b : Bool, True ∧ Meets Try.prog 155 [.c (.d (.sl 13 n fun i => eRow (g i))), xd (eRow r), .c (.d (.fn 99 []))] ⟨.tup [.c (.d (eI i)), .c (.d (eB b))], [none, none, none]⟩ := by
  have hc : ∀ q, ∃ x : Int, (x < 0 ↔ RA (g q) r) ∧ Meets Try.prog 99 [xd (eRow (g q)), xd (eRow r)] ⟨.one (.c (.d (eI x))), [none, none]⟩ := fun q => c_rcmpA (g q) r
  obtain ⟨X, hX⟩ : ∃ X : Nat → Int, ∀ q, (X q < 0 ↔ RA (g q) r) ∧ Meets Try.prog 99 [xd (eRow (g q)), xd (eRow r)] ⟨.one (.c (.d (eI (X q)))), [none, none]⟩ := ⟨fun q => Classical.choose (hc q), fun q => Classical.choose_spec (hc q)⟩
  clear hc
  obtain ⟨b, hb⟩ : ∃ b, b = real.bite (real.cmp .lss (Int.ofNat i) (Int.ofNat n)) (real.cmp .eql (X i) 0) false := ⟨_, rfl⟩
  refine ⟨b, trivial, ?_⟩
  refine meets_of (H := []) (EX := EXA) ttok mixed Try.func155 rfl (by kernel_rfl) (by decide) ?_
  generalize hA : real = A
  generalize hM : MeetsB Try.prog = M
  cbv
  repeat' first
    | apply And.intro
    | exact True.intro
    | with_reducible rfl
    | exact same_of hA rfl
    | refine br_of hA (fun _ => ?_) (fun _ => ?_)
    | exact imp_of hA id
    | (refine imp_of hA ?_; subst hA; simp only [real, Bool.true_and]; exact id)
    | (refine ind_of hA ?_; decide +kernel)
  refine loop_of hA (α := { q : Nat × Nat // q.1 ≤ i ∧ i ≤ q.2 ∧ q.2 ≤ n }) (fun y => st_bs n g r y.1.1 y.1.2) (fun y => y.1.2 - y.1.1) ⟨(0, n), Nat.zero_le _, hi, Nat.le_refl _⟩ ?_ ?_
  · refine cov_of ?_ ?_ ?_
    · cbv; try (subst hA; repeat' first | apply And.intro | exact True.intro | rfl | fail)
    · cbv; try (subst hA; repeat' first | apply And.intro | exact True.intro | rfl | (intro _ _; rfl) | (intro k hk; exact absurd hk (Nat.not_lt_zero k)) | fail)
    · cbv; try (subst hA; repeat' first | apply And.intro | exact True.intro | rfl | exact .inr trivial | exact .inl trivial)
  rintro ⟨⟨a, e⟩, ha, he, hen⟩
  have ha : a ≤ i := ha
  have he : i ≤ e := he
  have hen : e ≤ n := hen
  obtain ⟨m, hm⟩ : ∃ m, m = (a + e) / 2 := ⟨_, rfl⟩
  have hH := half_eq hA (a := a) (b := e) (by omega)
  rw [← hm] at hH
  have hnat : A.nat (A.wrap .i64 (A.ar .shr .u64 (A.wrap .u64 (A.ar .add .i64 (Int.ofNat a) (Int.ofNat e))) 1)) = m := by rw [hH]; subst hA; exact Int.toNat_natCast _
  have hin : ∀ z : Int, a < e → z = (m : Int) → 0 ≤ z ∧ z < n := fun z h e => by omega
  cbv
  repeat' first
    | apply And.intro
    | exact True.intro
    | with_reducible rfl
    | exact same_of hA rfl
    | refine br_of hA (fun _ => ?_) (fun _ => ?_)
    | exact imp_of hA id
    | (refine imp_of hA ?_; subst hA; simp only [real, Bool.true_and]; exact id)
    | (refine ind_of hA ?_; decide +kernel)
    | (refine call_of hA hM _ ((hX _).2) ?_; cbv)
    | (refine inb_of hA fun h => ?_; have h9 := lt2_of hA h; exact ⟨Int.natCast_nonneg _, Int.ofNat_lt.2 h9⟩)
    | (refine inb_of hA fun h0 => ?_; rename_i hlt; have h9 := lt2_of hA hlt; exact hin _ h9 hH)
  · rename_i hlt hneg
    have hlt' : a < e := lt2_of hA hlt
    have hx := (hX m).1
    have hneg :  X m < 0 := by rw [← hnat]; subst hA; exact of_decide_eq_true hneg
    have hmi : m < i := by
      have := hx.1 hneg
      have h3 := h2 m
      refine Nat.lt_of_not_le fun hc => h3 hc (by omega) this
    refine ⟨⟨(m + 1, e), by dsimp only; omega, by dsimp only; omega, by dsimp only; omega⟩, by dsimp only; omega, cov_of ?_ ?_ ?_⟩
    · cbv
      refine ⟨congrArg (fun z => DV.v (.int .i64 z)) ?_, ?_⟩
      · have e2 := hH; subst hA; refine (congrArg (fun z => IntKind.i64.wrap (z + 1)) e2).trans ?_; exact up64 hmi (Nat.le_trans hi (Nat.le_trans hn (by decide)))
      · subst hA; repeat' first | apply And.intro | exact True.intro | rfl
    · cbv; try (subst hA; repeat' first | apply And.intro | exact True.intro | rfl | (intro _ _; rfl))
    · cbv; try (subst hA; repeat' first | apply And.intro | exact True.intro | rfl | exact .inr trivial | exact .inl trivial)
  · rename_i hlt hneg
    have hlt' : a < e := lt2_of hA hlt
    have hx := (hX m).1
    have hneg : ¬ X m < 0 := by rw [← hnat]; subst hA; exact of_decide_eq_false hneg
    have hmi : i ≤ m := by
      have h3 := h1 m
      exact Nat.le_of_not_lt fun hc => hneg (hx.2 (h3 hc))
    refine ⟨⟨(a, m), by dsimp only; omega, by dsimp only; omega, by dsimp only; omega⟩, by dsimp only; omega, cov_of ?_ ?_ ?_⟩
    · cbv
      (repeat' first | apply And.intro | exact True.intro | exact congrArg (fun z => DV.v (.int .i64 z)) hH | rfl)
    · cbv; try (subst hA; repeat' first | apply And.intro | exact True.intro | rfl | (intro _ _; rfl))
    · cbv; try (subst hA; repeat' first | apply And.intro | exact True.intro | rfl | exact .inr trivial | exact .inl trivial)
  rename_i hge
  have hai : a = i := by have := ge2_of hA hge; omega
  subst hai
  subst hA
  rw [hb]
  rfl
end Go.Rk
/- A worker's methods. -/
namespace Go.Rk
set_option linter.unusedSimpArgs false
set_option linter.unusedVariables false
open Go.Proofs
set_option maxRecDepth 100000
set_option maxHeartbeats 1000000
def EXTf : FuncId → List Nat × Bool := fun f => bif nbeq f 1 then ([6000], false) else ([], false)
theorem k_tellf (j : JobT) (mk : Int) (n : Nat) (R : Nat → RowT) (c : Nat) (hc : c ≤ 1080000) (P : Nat → PaneT) (d : Nat) (hd : d ≤ 1080000) (Q : Nat → LatT) (pv : Nat) (q : Nat) (hq : q < n) (kind : Int) (R' : Nat → RowT) (hR' : ∀ i, i < n → R' i = if i = q then toldR (R q) else R i) (P' : Nat → PaneT) (hP' : ∀ i, i < c + 1 → P' i = if i < c then P i else paneP j.piece (R q) kind) : MeetsO Try.prog 65 [.c (.bp 1920 1 0), .c (.op 1793 1 q 0), .c (.d (eI kind))]
    [(1920, 1, .box [.d (eI j.srcs), .d (eI j.tsks), .d (eI j.kind), .d (eI j.size), .d (eI j.step), .d (eI j.late), .d (eI j.tell), .d (eB j.piece), .d (eI j.least), .d (eI j.room), .d (eI mk), .own 1793 0 n 1, .own 2001 0 c pv, .own 2002 0 d 1]), (1793, 1, .arr 13 n fun i => eRow (R i)), (2001, pv, .arr 9 c fun i => ePane (P i)), (2002, 1, .arr 7 d fun i => eLat (Q i))] (.tup [])
    [(1920, 1, .box [.d (eI j.srcs), .d (eI j.tsks), .d (eI j.kind), .d (eI j.size), .d (eI j.step), .d (eI j.late), .d (eI j.tell), .d (eB j.piece), .d (eI j.least), .d (eI j.room), .d (eI mk), .own 1793 0 n 1, .own 2001 0 (c + 1) (pv + 1), .own 2002 0 d 1]), (1793, 1, .arr 13 n fun i => eRow (R' i)), (2001, (pv + 1), .arr 9 (c + 1) fun i => ePane (P' i)), (2002, 1, .arr 7 d fun i => eLat (Q i)), (6384, 1, .dead), (8560, 1, .dead)] := by
  obtain ⟨K, hK⟩ : ∃ K, K = (paneP j.piece (R q) kind).agg := ⟨_, rfl⟩
  refine inl_ofH [999, 1, 3] (EX := EXTf) ttok mixed Try.func65 rfl (by kernel_rfl) (by decide) rfl rfl rfl rfl ?_
  generalize hA : real = A
  generalize hM : MeetsB Try.prog = M
  rcases A with ⟨a1, a2, a3, a4, a5, a6, a7, a8, a9, a10, a11, a12, a13, a14, a15, a16, a17, a18, a19, a20, a21, a22, up, a24, a25, a26, a27, a28, a29⟩
  have hup : ∀ (f : Nat → List DV) (q : Nat) (l : List DV), up f q l q = l := by
    have h : real.upd = up := congrArg Ar.upd hA
    intro f q l; rw [← h]; exact if_pos rfl
  cbv
  repeat' first
    | apply And.intro
    | exact True.intro
    | with_reducible rfl
    | exact same_of hA rfl
    | refine br_of hA (fun _ => ?_) (fun _ => ?_)
    | exact imp_of hA id
    | (refine imp_of hA ?_; subst hA; simp only [real, Bool.true_and]; exact id)
    | (refine ind_of hA ?_; decide +kernel)
  refine stop_ofG hA ⟨[(0, .c (.bp 1920 1 0)), (1, .c (.op 1793 1 q 0)), (2, .c (.d (eI kind))), (6, .c (.bp 6384 1 0))], [(1920, 1, .box [.d (eI j.srcs), .d (eI j.tsks), .d (eI j.kind), .d (eI j.size), .d (eI j.step), .d (eI j.late), .d (eI j.tell), .d (eB j.piece), .d (eI j.least), .d (eI j.room), .d (eI mk), .own 1793 0 n 1, .own 2001 0 c pv, .own 2002 0 d 1]), (1793, 1, .arr 13 n fun i => eRow (R i)), (2001, pv, .arr 9 c fun i => ePane (P i)), (2002, 1, .arr 7 d fun i => eLat (Q i)), (6384, 1, .box ((eAgg (R q).all).map .d))]⟩ (cov_ofG ?_ ?_ ?_) ?_
  · cbv; try (repeat' first | apply And.intro | exact True.intro | rfl)
  · cbv; try (repeat' first | apply And.intro | exact True.intro | rfl | (intro _ _; rfl))
  · cbv; try (repeat' first | apply And.intro | exact True.intro | rfl | exact .inr (Nat.le_refl _) | exact .inl trivial | exact .inr trivial)
  cbv
  repeat' first
    | apply And.intro
    | exact True.intro
    | with_reducible rfl
    | exact same_of hA rfl
    | refine br_of hA (fun _ => ?_) (fun _ => ?_)
    | exact imp_of hA id
    | (refine imp_of hA ?_; subst hA; simp only [real, Bool.true_and]; exact id)
    | (refine ind_of hA ?_; decide +kernel)
  all_goals
    rename_i hpc
    refine stop_ofG hA ⟨[(0, .c (.bp 1920 1 0)), (1, .c (.op 1793 1 q 0)), (2, .c (.d (eI kind))), (6, .c (.bp 6384 1 0))], [(1920, 1, .box [.d (eI j.srcs), .d (eI j.tsks), .d (eI j.kind), .d (eI j.size), .d (eI j.step), .d (eI j.late), .d (eI j.tell), .d (eB j.piece), .d (eI j.least), .d (eI j.room), .d (eI mk), .own 1793 0 n 1, .own 2001 0 c pv, .own 2002 0 d 1]), (1793, 1, .arr 13 n fun i => eRow (R i)), (2001, pv, .arr 9 c fun i => ePane (P i)), (2002, 1, .arr 7 d fun i => eLat (Q i)), (6384, 1, .box ((eAgg K).map .d))]⟩ (cov_ofG ?_ ?_ ?_) ?_
    · cbv; try (repeat' first | apply And.intro | exact True.intro | rfl)
    · cbv
      repeat' first
        | apply And.intro
        | exact True.intro
        | rfl
        | (intro _ _; rfl)
        | (rw [hK]; dsimp only [paneP]; first | rw [if_pos hpc] | rw [if_neg (by rw [hpc]; simp)])
    · cbv; try (repeat' first | apply And.intro | exact True.intro | rfl | exact .inr (Nat.le_refl _) | exact .inl trivial | exact .inr trivial)
    cbv
    repeat' first
      | apply And.intro
      | exact True.intro
      | with_reducible rfl
      | exact same_of hA rfl
      | refine br_of hA (fun _ => ?_) (fun _ => ?_)
      | exact imp_of hA id
      | (refine imp_of hA ?_; subst hA; simp only [real, Bool.true_and]; exact id)
      | (refine ind_of hA ?_; decide +kernel)
      | exact room_add2 hA (by omega) (by decide)
      | (simp only [hup]; cbv)
      | (intro _ _; first | rfl | trivial)
  all_goals (unfold real at hA; cases hA)
  all_goals first
    | rfl
    | (intro i hi; first | rfl | trivial)
    | (intro i hi
       by_cases e : i = q
       · refine Eq.trans ?_ (congrArg eRow ((hR' i hi).trans (if_pos e)).symm)
         dsimp only
         simp only [if_pos e]
         rfl
       · refine Eq.trans ?_ (congrArg eRow ((hR' i hi).trans (if_neg e)).symm)
         dsimp only
         simp only [if_neg e])
    | (intro i hi
       refine Eq.trans ?_ (congrArg ePane (hP' i hi).symm)
       have e : paneP j.piece (R q) kind = ⟨(R q).key, (R q).win, (R q).told, kind, K⟩ := by rw [hK]; rfl
       rw [e]
       exact push_if (A := real) ePane rfl c P ⟨(R q).key, (R q).win, (R q).told, kind, K⟩ (fun _ => [eI 0, eI 0, eI 0, eI 0, eI 0, eI 0, eI 0, eI 0, eI 0]) i hi)
def EXTn : FuncId → List Nat × Bool := fun f => bif nbeq f 1 then ([6000], false) else ([], false)
theorem k_telln (j : JobT) (mk : Int) (n : Nat) (R : Nat → RowT) (c : Nat) (hc : c ≤ 1080000) (P : Nat → PaneT) (d : Nat) (hd : d ≤ 1080000) (Q : Nat → LatT) (pv : Nat) (q : Nat) (hq : q < n) (kind : Int) (R' : Nat → RowT) (hR' : ∀ i, i < n → R' i = if i = q then toldR (R q) else R i) (P' : Nat → PaneT) (hP' : ∀ i, i < c + 1 → P' i = if i < c then P i else paneP j.piece (R q) kind) : MeetsO Try.prog 65 [.c (.bp 1920 1 0), .c (.op 2664 1 q 0), .c (.d (eI kind))]
    [(1920, 1, .box [.d (eI j.srcs), .d (eI j.tsks), .d (eI j.kind), .d (eI j.size), .d (eI j.step), .d (eI j.late), .d (eI j.tell), .d (eB j.piece), .d (eI j.least), .d (eI j.room), .d (eI mk), .own 2664 0 n 1, .own 2001 0 c pv, .own 2002 0 d 1]), (2664, 1, .arr 13 n fun i => eRow (R i)), (2001, pv, .arr 9 c fun i => ePane (P i)), (2002, 1, .arr 7 d fun i => eLat (Q i))] (.tup [])
    [(1920, 1, .box [.d (eI j.srcs), .d (eI j.tsks), .d (eI j.kind), .d (eI j.size), .d (eI j.step), .d (eI j.late), .d (eI j.tell), .d (eB j.piece), .d (eI j.least), .d (eI j.room), .d (eI mk), .own 2664 0 n 1, .own 2001 0 (c + 1) (pv + 1), .own 2002 0 d 1]), (2664, 1, .arr 13 n fun i => eRow (R' i)), (2001, (pv + 1), .arr 9 (c + 1) fun i => ePane (P' i)), (2002, 1, .arr 7 d fun i => eLat (Q i)), (6384, 1, .dead), (8560, 1, .dead)] := by
  obtain ⟨K, hK⟩ : ∃ K, K = (paneP j.piece (R q) kind).agg := ⟨_, rfl⟩
  refine inl_ofH [999, 1, 3] (EX := EXTn) ttok mixed Try.func65 rfl (by kernel_rfl) (by decide) rfl rfl rfl rfl ?_
  generalize hA : real = A
  generalize hM : MeetsB Try.prog = M
  rcases A with ⟨a1, a2, a3, a4, a5, a6, a7, a8, a9, a10, a11, a12, a13, a14, a15, a16, a17, a18, a19, a20, a21, a22, up, a24, a25, a26, a27, a28, a29⟩
  have hup : ∀ (f : Nat → List DV) (q : Nat) (l : List DV), up f q l q = l := by
    have h : real.upd = up := congrArg Ar.upd hA
    intro f q l; rw [← h]; exact if_pos rfl
  cbv
  repeat' first
    | apply And.intro
    | exact True.intro
    | with_reducible rfl
    | exact same_of hA rfl
    | refine br_of hA (fun _ => ?_) (fun _ => ?_)
    | exact imp_of hA id
    | (refine imp_of hA ?_; subst hA; simp only [real, Bool.true_and]; exact id)
    | (refine ind_of hA ?_; decide +kernel)
  refine stop_ofG hA ⟨[(0, .c (.bp 1920 1 0)), (1, .c (.op 2664 1 q 0)), (2, .c (.d (eI kind))), (6, .c (.bp 6384 1 0))], [(1920, 1, .box [.d (eI j.srcs), .d (eI j.tsks), .d (eI j.kind), .d (eI j.size), .d (eI j.step), .d (eI j.late), .d (eI j.tell), .d (eB j.piece), .d (eI j.least), .d (eI j.room), .d (eI mk), .own 2664 0 n 1, .own 2001 0 c pv, .own 2002 0 d 1]), (2664, 1, .arr 13 n fun i => eRow (R i)), (2001, pv, .arr 9 c fun i => ePane (P i)), (2002, 1, .arr 7 d fun i => eLat (Q i)), (6384, 1, .box ((eAgg (R q).all).map .d))]⟩ (cov_ofG ?_ ?_ ?_) ?_
  · cbv; try (repeat' first | apply And.intro | exact True.intro | rfl)
  · cbv; try (repeat' first | apply And.intro | exact True.intro | rfl | (intro _ _; rfl))
  · cbv; try (repeat' first | apply And.intro | exact True.intro | rfl | exact .inr (Nat.le_refl _) | exact .inl trivial | exact .inr trivial)
  cbv
  repeat' first
    | apply And.intro
    | exact True.intro
    | with_reducible rfl
    | exact same_of hA rfl
    | refine br_of hA (fun _ => ?_) (fun _ => ?_)
    | exact imp_of hA id
    | (refine imp_of hA ?_; subst hA; simp only [real, Bool.true_and]; exact id)
    | (refine ind_of hA ?_; decide +kernel)
  all_goals
    rename_i hpc
    refine stop_ofG hA ⟨[(0, .c (.bp 1920 1 0)), (1, .c (.op 2664 1 q 0)), (2, .c (.d (eI kind))), (6, .c (.bp 6384 1 0))], [(1920, 1, .box [.d (eI j.srcs), .d (eI j.tsks), .d (eI j.kind), .d (eI j.size), .d (eI j.step), .d (eI j.late), .d (eI j.tell), .d (eB j.piece), .d (eI j.least), .d (eI j.room), .d (eI mk), .own 2664 0 n 1, .own 2001 0 c pv, .own 2002 0 d 1]), (2664, 1, .arr 13 n fun i => eRow (R i)), (2001, pv, .arr 9 c fun i => ePane (P i)), (2002, 1, .arr 7 d fun i => eLat (Q i)), (6384, 1, .box ((eAgg K).map .d))]⟩ (cov_ofG ?_ ?_ ?_) ?_
    · cbv; try (repeat' first | apply And.intro | exact True.intro | rfl)
    · cbv
      repeat' first
        | apply And.intro
        | exact True.intro
        | rfl
        | (intro _ _; rfl)
        | (rw [hK]; dsimp only [paneP]; first | rw [if_pos hpc] | rw [if_neg (by rw [hpc]; simp)])
    · cbv; try (repeat' first | apply And.intro | exact True.intro | rfl | exact .inr (Nat.le_refl _) | exact .inl trivial | exact .inr trivial)
    cbv
    repeat' first
      | apply And.intro
      | exact True.intro
      | with_reducible rfl
      | exact same_of hA rfl
      | refine br_of hA (fun _ => ?_) (fun _ => ?_)
      | exact imp_of hA id
      | (refine imp_of hA ?_; subst hA; simp only [real, Bool.true_and]; exact id)
      | (refine ind_of hA ?_; decide +kernel)
      | exact room_add2 hA (by omega) (by decide)
      | (simp only [hup]; cbv)
      | (intro _ _; first | rfl | trivial)
  all_goals (unfold real at hA; cases hA)
  all_goals first
    | rfl
    | (intro i hi; first | rfl | trivial)
    | (intro i hi
       by_cases e : i = q
       · refine Eq.trans ?_ (congrArg eRow ((hR' i hi).trans (if_pos e)).symm)
         dsimp only
         simp only [if_pos e]
         rfl
       · refine Eq.trans ?_ (congrArg eRow ((hR' i hi).trans (if_neg e)).symm)
         dsimp only
         simp only [if_neg e])
    | (intro i hi
       refine Eq.trans ?_ (congrArg ePane (hP' i hi).symm)
       have e : paneP j.piece (R q) kind = ⟨(R q).key, (R q).win, (R q).told, kind, K⟩ := by rw [hK]; rfl
       rw [e]
       exact push_if (A := real) ePane rfl c P ⟨(R q).key, (R q).win, (R q).told, kind, K⟩ (fun _ => [eI 0, eI 0, eI 0, eI 0, eI 0, eI 0, eI 0, eI 0, eI 0]) i hi)
def EXPw : FuncId → List Nat × Bool := fun f => bif nbeq f 1 then ([1000], false) else bif nbeq f 156 then ([0, 2], false) else ([], false)
theorem k_putw (j : JobT) (mk : Int) (n : Nat) (R : Nat → RowT) (c : Nat) (hc : c ≤ 1080000) (P : Nat → PaneT) (d : Nat) (hd : d ≤ 1080000) (Q : Nat → LatT) (pv : Nat) (hn : n ≤ 1080000) (r : RowT) (i : Nat) (hi : i ≤ n) (h1 : ∀ q, q < i → RA (R q) r) (h2 : ∀ q, i ≤ q → q < n → ¬ RA (R q) r) (R' : Nat → RowT) (hR' : ∀ q, q < n + 1 → R' q = if q < i then R q else if q = i then r else R (q - 1)) : MeetsO Try.prog 141 [.c (.bp 1920 1 0), .agg ((eRow r).map .d)]
    [(1920, 1, .box [.d (eI j.srcs), .d (eI j.tsks), .d (eI j.kind), .d (eI j.size), .d (eI j.step), .d (eI j.late), .d (eI j.tell), .d (eB j.piece), .d (eI j.least), .d (eI j.room), .d (eI mk), .own 1793 0 n 1, .own 2001 0 c pv, .own 2002 0 d 1]), (1793, 1, .arr 13 n fun i => eRow (R i)), (2001, pv, .arr 9 c fun i => ePane (P i)), (2002, 1, .arr 7 d fun i => eLat (Q i))] (.c (.op 2664 1 i 0))
    [(1920, 1, .box [.d (eI j.srcs), .d (eI j.tsks), .d (eI j.kind), .d (eI j.size), .d (eI j.step), .d (eI j.late), .d (eI j.tell), .d (eB j.piece), .d (eI j.least), .d (eI j.room), .d (eI mk), .own 2664 0 (n + 1) 1, .own 2001 0 c pv, .own 2002 0 d 1]), (2664, 1, .arr 13 (n + 1) fun i => eRow (R' i)), (2001, pv, .arr 9 c fun i => ePane (P i)), (2002, 1, .arr 7 d fun i => eLat (Q i)), (1793, 2, .dead), (1192, 1, .dead), (2600, 2, .dead)] := by
  have hIn : ∀ row1 : Nat → List DV, row1 0 = eRow r → Meets Try.prog 156 [.c (.own 13 n fun k => eRow (R k)), .c (.d (eI i)), .c (.own 13 1 row1)] ⟨.one (.c (.own 13 (n + 1) fun k => eRow (R' k))), [none, none, none]⟩ := fun row1 hr1 => by
    refine c_Insert n i (by omega) hi _ row1 _ fun k hk => ?_
    show eRow (R' k) = _
    rw [hR' k hk]
    split
    · rfl
    · split
      · exact hr1.symm
      · rfl
  have cH := c_Half n hn R r i hi h1 h2
  obtain ⟨x0, x1, x2, x3, x4, x5, x6, x7, x8, x9, x10, x11, x12, hr⟩ : ∃ x0 x1 x2 x3 x4 x5 x6 x7 x8 x9 x10 x11 x12 : DV, eRow r = [x0, x1, x2, x3, x4, x5, x6, x7, x8, x9, x10, x11, x12] := ⟨_, _, _, _, _, _, _, _, _, _, _, _, _, rfl⟩
  rw [hr] at cH hIn ⊢
  generalize eI j.srcs = y0
  generalize eI j.tsks = y1
  generalize eI j.kind = y2
  generalize eI j.size = y3
  generalize eI j.step = y4
  generalize eI j.late = y5
  generalize eI j.tell = y6
  generalize eB j.piece = y7
  generalize eI j.least = y8
  generalize eI j.room = y9
  refine inl_ofH [999, 2, 3] (EX := EXPw) ttok mixed Try.func141 rfl (by kernel_rfl) (by decide) rfl rfl rfl rfl ?_
  generalize hA : real = A
  generalize hM : MeetsB Try.prog = M
  cbv
  repeat' first
    | apply And.intro
    | exact True.intro
    | with_reducible rfl
    | exact same_of hA rfl
    | refine br_of hA (fun _ => ?_) (fun _ => ?_)
    | exact imp_of hA id
    | (refine imp_of hA ?_; subst hA; simp only [real, Bool.true_and]; exact id)
    | (refine ind_of hA ?_; decide +kernel)
    | (refine call_ex2 hA hM cH (by subst hA; first | rfl | (simp only [sub0r]; try rfl)) (fun _ _ => ?_); cbv)
  refine stop_ofG hA ⟨[(0, .c (.bp 1920 1 0)), (3, .c (.bp 1192 1 0)), (5, .c (.d (eI i)))], [(1920, 1, .box [.d y0, .d y1, .d y2, .d y3, .d y4, .d y5, .d y6, .d y7, .d y8, .d y9, .d (eI mk), .own 1793 0 n 1, .own 2001 0 c pv, .own 2002 0 d 1]), (1793, 1, .arr 13 n fun i => eRow (R i)), (2001, pv, .arr 9 c fun i => ePane (P i)), (2002, 1, .arr 7 d fun i => eLat (Q i)), (1192, 1, .box ([x0, x1, x2, x3, x4, x5, x6, x7, x8, x9, x10, x11, x12].map .d))]⟩ (cov_ofG ?_ ?_ ?_) ?_
  · cbv; try (repeat' first | apply And.intro | exact True.intro | rfl)
  · cbv; try (repeat' first | apply And.intro | exact True.intro | rfl | (intro _ _; rfl))
  · cbv; try (repeat' first | apply And.intro | exact True.intro | rfl | exact .inr (Nat.le_refl _) | exact .inl trivial | exact .inr trivial)
  cbv
  repeat' first
    | apply And.intro
    | exact True.intro
    | with_reducible rfl
    | exact same_of hA rfl
    | refine br_of hA (fun _ => ?_) (fun _ => ?_)
    | exact imp_of hA id
    | (refine imp_of hA ?_; subst hA; simp only [real, Bool.true_and]; exact id)
    | (refine ind_of hA ?_; decide +kernel)
    | (refine call_of2 hA hM _ (hIn (A.app 1 (A.rep [x0, x1, x2, x3, x4, x5, x6, x7, x8, x9, x10, x11, x12]) (A.rep (eRow zRow))) (by subst hA; rfl)) (by subst hA; rfl) ?_; cbv)
    | exact room_add2 hA (by omega) (by decide)
    | exact flat_row hA _ _
    | (refine inb_of hA fun h => ?_; exact ⟨Int.natCast_nonneg _, Int.ofNat_lt.2 (by omega)⟩)
    | (intro _ _; first | rfl | trivial)
    | (subst hA; exact congrArg (fun q => AV.c (.op 2664 1 q 0)) (Nat.zero_add _).symm)
  refine stop_ofG hA ⟨[(0, .c (.bp 1920 1 0)), (5, .c (.d (eI i)))], [(1920, 1, .box [.d y0, .d y1, .d y2, .d y3, .d y4, .d y5, .d y6, .d y7, .d y8, .d y9, .d (eI mk), .own 2664 0 (n + 1) 1, .own 2001 0 c pv, .own 2002 0 d 1]), (2664, 1, .arr 13 (n + 1) fun i => eRow (R' i)), (2001, pv, .arr 9 c fun i => ePane (P i)), (2002, 1, .arr 7 d fun i => eLat (Q i)), (1793, 2, .dead), (1192, 1, .dead), (2600, 2, .dead)]⟩ (cov_ofG ?_ ?_ ?_) ?_
  · cbv; try (repeat' first | apply And.intro | exact True.intro | rfl)
  · cbv; try (repeat' first | apply And.intro | exact True.intro | rfl | (intro _ _; first | rfl | trivial))
  · cbv; try (repeat' first | apply And.intro | exact True.intro | rfl | exact .inr (Nat.le_refl _) | exact .inl trivial | exact .inr trivial)
  cbv
  repeat' first
    | apply And.intro
    | exact True.intro
    | with_reducible rfl
    | exact same_of hA rfl
    | refine br_of hA (fun _ => ?_) (fun _ => ?_)
    | exact imp_of hA id
    | (refine imp_of hA ?_; subst hA; simp only [real, Bool.true_and]; exact id)
    | (refine ind_of hA ?_; decide +kernel)
    | exact room_add2 hA (by omega) (by decide)
    | exact flat_row hA _ _
    | (refine inb_of hA fun h => ?_; exact ⟨Int.natCast_nonneg _, Int.ofNat_lt.2 (by omega)⟩)
    | (intro _ _; first | rfl | trivial)
    | (subst hA; exact congrArg (fun q => AV.c (.op 2664 1 q 0)) (Nat.zero_add _).symm)
def EXPs : FuncId → List Nat × Bool := fun f => bif nbeq f 1 then ([1000], false) else bif nbeq f 156 then ([0, 2], false) else ([], false)
theorem k_puts (j : JobT) (mk : Int) (n : Nat) (R : Nat → RowT) (c : Nat) (hc : c ≤ 1080000) (P : Nat → PaneT) (d : Nat) (hd : d ≤ 1080000) (Q : Nat → LatT) (pv : Nat) (hn : n ≤ 1080000) (r : RowT) (i : Nat) (hi : i ≤ n) (h1 : ∀ q, q < i → RA (R q) r) (h2 : ∀ q, i ≤ q → q < n → ¬ RA (R q) r) (R' : Nat → RowT) (hR' : ∀ q, q < n + 1 → R' q = if q < i then R q else if q = i then r else R (q - 1)) : MeetsO Try.prog 141 [.c (.bp 1920 1 0), .agg ((eRow r).map .d)]
    [(1920, 1, .box [.d (eI j.srcs), .d (eI j.tsks), .d (eI j.kind), .d (eI j.size), .d (eI j.step), .d (eI j.late), .d (eI j.tell), .d (eB j.piece), .d (eI j.least), .d (eI j.room), .d (eI mk), .own 8440 0 n 1, .own 2001 0 c pv, .own 2002 0 d 1]), (8440, 1, .arr 13 n fun i => eRow (R i)), (2001, pv, .arr 9 c fun i => ePane (P i)), (2002, 1, .arr 7 d fun i => eLat (Q i))] (.c (.op 2664 1 i 0))
    [(1920, 1, .box [.d (eI j.srcs), .d (eI j.tsks), .d (eI j.kind), .d (eI j.size), .d (eI j.step), .d (eI j.late), .d (eI j.tell), .d (eB j.piece), .d (eI j.least), .d (eI j.room), .d (eI mk), .own 2664 0 (n + 1) 1, .own 2001 0 c pv, .own 2002 0 d 1]), (2664, 1, .arr 13 (n + 1) fun i => eRow (R' i)), (2001, pv, .arr 9 c fun i => ePane (P i)), (2002, 1, .arr 7 d fun i => eLat (Q i)), (8440, 2, .dead), (1192, 1, .dead), (2600, 2, .dead)] := by
  have hIn : ∀ row1 : Nat → List DV, row1 0 = eRow r → Meets Try.prog 156 [.c (.own 13 n fun k => eRow (R k)), .c (.d (eI i)), .c (.own 13 1 row1)] ⟨.one (.c (.own 13 (n + 1) fun k => eRow (R' k))), [none, none, none]⟩ := fun row1 hr1 => by
    refine c_Insert n i (by omega) hi _ row1 _ fun k hk => ?_
    show eRow (R' k) = _
    rw [hR' k hk]
    split
    · rfl
    · split
      · exact hr1.symm
      · rfl
  have cH := c_Half n hn R r i hi h1 h2
  obtain ⟨x0, x1, x2, x3, x4, x5, x6, x7, x8, x9, x10, x11, x12, hr⟩ : ∃ x0 x1 x2 x3 x4 x5 x6 x7 x8 x9 x10 x11 x12 : DV, eRow r = [x0, x1, x2, x3, x4, x5, x6, x7, x8, x9, x10, x11, x12] := ⟨_, _, _, _, _, _, _, _, _, _, _, _, _, rfl⟩
  rw [hr] at cH hIn ⊢
  generalize eI j.srcs = y0
  generalize eI j.tsks = y1
  generalize eI j.kind = y2
  generalize eI j.size = y3
  generalize eI j.step = y4
  generalize eI j.late = y5
  generalize eI j.tell = y6
  generalize eB j.piece = y7
  generalize eI j.least = y8
  generalize eI j.room = y9
  refine inl_ofH [999, 2, 3] (EX := EXPs) ttok mixed Try.func141 rfl (by kernel_rfl) (by decide) rfl rfl rfl rfl ?_
  generalize hA : real = A
  generalize hM : MeetsB Try.prog = M
  cbv
  repeat' first
    | apply And.intro
    | exact True.intro
    | with_reducible rfl
    | exact same_of hA rfl
    | refine br_of hA (fun _ => ?_) (fun _ => ?_)
    | exact imp_of hA id
    | (refine imp_of hA ?_; subst hA; simp only [real, Bool.true_and]; exact id)
    | (refine ind_of hA ?_; decide +kernel)
    | (refine call_ex2 hA hM cH (by subst hA; first | rfl | (simp only [sub0r]; try rfl)) (fun _ _ => ?_); cbv)
  refine stop_ofG hA ⟨[(0, .c (.bp 1920 1 0)), (3, .c (.bp 1192 1 0)), (5, .c (.d (eI i)))], [(1920, 1, .box [.d y0, .d y1, .d y2, .d y3, .d y4, .d y5, .d y6, .d y7, .d y8, .d y9, .d (eI mk), .own 8440 0 n 1, .own 2001 0 c pv, .own 2002 0 d 1]), (8440, 1, .arr 13 n fun i => eRow (R i)), (2001, pv, .arr 9 c fun i => ePane (P i)), (2002, 1, .arr 7 d fun i => eLat (Q i)), (1192, 1, .box ([x0, x1, x2, x3, x4, x5, x6, x7, x8, x9, x10, x11, x12].map .d))]⟩ (cov_ofG ?_ ?_ ?_) ?_
  · cbv; try (repeat' first | apply And.intro | exact True.intro | rfl)
  · cbv; try (repeat' first | apply And.intro | exact True.intro | rfl | (intro _ _; rfl))
  · cbv; try (repeat' first | apply And.intro | exact True.intro | rfl | exact .inr (Nat.le_refl _) | exact .inl trivial | exact .inr trivial)
  cbv
  repeat' first
    | apply And.intro
    | exact True.intro
    | with_reducible rfl
    | exact same_of hA rfl
    | refine br_of hA (fun _ => ?_) (fun _ => ?_)
    | exact imp_of hA id
    | (refine imp_of hA ?_; subst hA; simp only [real, Bool.true_and]; exact id)
    | (refine ind_of hA ?_; decide +kernel)
    | (refine call_of2 hA hM _ (hIn (A.app 1 (A.rep [x0, x1, x2, x3, x4, x5, x6, x7, x8, x9, x10, x11, x12]) (A.rep (eRow zRow))) (by subst hA; rfl)) (by subst hA; rfl) ?_; cbv)
    | exact room_add2 hA (by omega) (by decide)
    | exact flat_row hA _ _
    | (refine inb_of hA fun h => ?_; exact ⟨Int.natCast_nonneg _, Int.ofNat_lt.2 (by omega)⟩)
    | (intro _ _; first | rfl | trivial)
    | (subst hA; exact congrArg (fun q => AV.c (.op 2664 1 q 0)) (Nat.zero_add _).symm)
  refine stop_ofG hA ⟨[(0, .c (.bp 1920 1 0)), (5, .c (.d (eI i)))], [(1920, 1, .box [.d y0, .d y1, .d y2, .d y3, .d y4, .d y5, .d y6, .d y7, .d y8, .d y9, .d (eI mk), .own 2664 0 (n + 1) 1, .own 2001 0 c pv, .own 2002 0 d 1]), (2664, 1, .arr 13 (n + 1) fun i => eRow (R' i)), (2001, pv, .arr 9 c fun i => ePane (P i)), (2002, 1, .arr 7 d fun i => eLat (Q i)), (8440, 2, .dead), (1192, 1, .dead), (2600, 2, .dead)]⟩ (cov_ofG ?_ ?_ ?_) ?_
  · cbv; try (repeat' first | apply And.intro | exact True.intro | rfl)
  · cbv; try (repeat' first | apply And.intro | exact True.intro | rfl | (intro _ _; first | rfl | trivial))
  · cbv; try (repeat' first | apply And.intro | exact True.intro | rfl | exact .inr (Nat.le_refl _) | exact .inl trivial | exact .inr trivial)
  cbv
  repeat' first
    | apply And.intro
    | exact True.intro
    | with_reducible rfl
    | exact same_of hA rfl
    | refine br_of hA (fun _ => ?_) (fun _ => ?_)
    | exact imp_of hA id
    | (refine imp_of hA ?_; subst hA; simp only [real, Bool.true_and]; exact id)
    | (refine ind_of hA ?_; decide +kernel)
    | exact room_add2 hA (by omega) (by decide)
    | exact flat_row hA _ _
    | (refine inb_of hA fun h => ?_; exact ⟨Int.natCast_nonneg _, Int.ofNat_lt.2 (by omega)⟩)
    | (intro _ _; first | rfl | trivial)
    | (subst hA; exact congrArg (fun q => AV.c (.op 2664 1 q 0)) (Nat.zero_add _).symm)
end Go.Rk
/- A worker's methods: gone, add. -/
namespace Go.Rk
set_option linter.unusedSimpArgs false
set_option linter.unusedVariables false
open Go.Proofs
set_option maxRecDepth 100000
set_option maxHeartbeats 1000000
theorem flat_lat {A : Ar} (hA : real = A) (n : Nat) (G : Nat → LatT) : A.flat n fun i => eLat (G i) := by
  subst hA
  intro i hi x hx
  unfold eLat at hx
  simp only [List.mem_cons, List.not_mem_nil, or_false] at hx
  rcases hx with rfl | rfl | rfl | rfl | rfl | rfl | rfl <;> exact ⟨_, rfl⟩
def EXGf : FuncId → List Nat × Bool := fun f => bif nbeq f 1 then ([4000], false) else ([], false)
theorem k_gonef (j : JobT) (mk : Int) (n : Nat) (R : Nat → RowT) (c : Nat) (hc : c ≤ 1080000) (P : Nat → PaneT) (d : Nat) (hd : d ≤ 1080000) (Q : Nat → LatT) (x : ItmT) (w ov : WinT) (hov : (mk < w64 (ov.e + j.late))) : MeetsO Try.prog 139 [.c (.bp 1920 1 0), .agg ((eItm x).map .d), .agg ((eWin w).map .d), .agg ((eWin ov).map .d)]
    [(1920, 1, .box [.d (eI j.srcs), .d (eI j.tsks), .d (eI j.kind), .d (eI j.size), .d (eI j.step), .d (eI j.late), .d (eI j.tell), .d (eB j.piece), .d (eI j.least), .d (eI j.room), .d (eI mk), .own 1793 0 n 1, .own 2001 0 c 1, .own 2002 0 d 1]), (1793, 1, .arr 13 n fun i => eRow (R i)), (2001, 1, .arr 9 c fun i => ePane (P i)), (2002, 1, .arr 7 d fun i => eLat (Q i))] (.c (.d (eB false)))
    [(1920, 1, .box [.d (eI j.srcs), .d (eI j.tsks), .d (eI j.kind), .d (eI j.size), .d (eI j.step), .d (eI j.late), .d (eI j.tell), .d (eB j.piece), .d (eI j.least), .d (eI j.room), .d (eI mk), .own 1793 0 n 1, .own 2001 0 c 1, .own 2002 0 d 1]), (1793, 1, .arr 13 n fun i => eRow (R i)), (2001, 1, .arr 9 c fun i => ePane (P i)), (2002, 1, .arr 7 d fun i => eLat (Q i)), (4320, 1, .dead), (4384, 1, .dead), (4448, 1, .dead)] := by
  have no : ∀ {A : Ar}, real = A → A.cmp .lss mk (A.ar .add .i64 ov.e j.late) = false → False := fun hA h => by
    subst hA
    have h : decide (mk < w64 (ov.e + j.late)) = false := h
    simp at h; omega
  refine inl_of (EX := EXGf) ttok mixed Try.func139 rfl (by kernel_rfl) (by decide) (by kernel_rfl) rfl rfl ?_
  generalize hA : real = A
  generalize hM : MeetsB Try.prog = M
  cbv
  repeat' first
    | exact (no hA (by assumption)).elim
    | apply And.intro
    | exact True.intro
    | with_reducible rfl
    | exact same_of hA rfl
    | refine br_of hA (fun _ => ?_) (fun _ => ?_)
    | exact imp_of hA id
    | (refine imp_of hA ?_; subst hA; simp only [real, Bool.true_and]; exact id)
    | (refine ind_of hA ?_; decide +kernel)
    | exact room_add2 hA (by omega) (by decide)
    | (intro _ _; first | rfl | trivial)
def EXGt : FuncId → List Nat × Bool := fun f => bif nbeq f 1 then ([4000], false) else ([], false)
theorem k_gonet (j : JobT) (mk : Int) (n : Nat) (R : Nat → RowT) (c : Nat) (hc : c ≤ 1080000) (P : Nat → PaneT) (d : Nat) (hd : d ≤ 1080000) (Q : Nat → LatT) (x : ItmT) (w ov : WinT) (hov : (w64 (ov.e + j.late) ≤ mk)) (Q' : Nat → LatT) (hQ' : ∀ i, i < d + 1 → Q' i = if i < d then Q i else ⟨x, w⟩) : MeetsO Try.prog 139 [.c (.bp 1920 1 0), .agg ((eItm x).map .d), .agg ((eWin w).map .d), .agg ((eWin ov).map .d)]
    [(1920, 1, .box [.d (eI j.srcs), .d (eI j.tsks), .d (eI j.kind), .d (eI j.size), .d (eI j.step), .d (eI j.late), .d (eI j.tell), .d (eB j.piece), .d (eI j.least), .d (eI j.room), .d (eI mk), .own 1793 0 n 1, .own 2001 0 c 1, .own 2002 0 d 1]), (1793, 1, .arr 13 n fun i => eRow (R i)), (2001, 1, .arr 9 c fun i => ePane (P i)), (2002, 1, .arr 7 d fun i => eLat (Q i))] (.c (.d (eB true)))
    [(1920, 1, .box [.d (eI j.srcs), .d (eI j.tsks), .d (eI j.kind), .d (eI j.size), .d (eI j.step), .d (eI j.late), .d (eI j.tell), .d (eB j.piece), .d (eI j.least), .d (eI j.room), .d (eI mk), .own 1793 0 n 1, .own 2001 0 c 1, .own 2002 0 (d + 1) 2]), (1793, 1, .arr 13 n fun i => eRow (R i)), (2001, 1, .arr 9 c fun i => ePane (P i)), (2002, 2, .arr 7 (d + 1) fun i => eLat (Q' i)), (4320, 1, .dead), (4384, 1, .dead), (4448, 1, .dead), (5984, 1, .dead)] := by
  have no : ∀ {A : Ar}, real = A → A.cmp .lss mk (A.ar .add .i64 ov.e j.late) = true → False := fun hA h => by
    subst hA
    have h : decide (mk < w64 (ov.e + j.late)) = true := h
    simp at h; omega
  refine inl_of (EX := EXGt) ttok mixed Try.func139 rfl (by kernel_rfl) (by decide) (by kernel_rfl) rfl rfl ?_
  generalize hA : real = A
  generalize hM : MeetsB Try.prog = M
  cbv
  repeat' first
    | exact (no hA (by assumption)).elim
    | apply And.intro
    | exact True.intro
    | with_reducible rfl
    | exact same_of hA rfl
    | refine br_of hA (fun _ => ?_) (fun _ => ?_)
    | exact imp_of hA id
    | (refine imp_of hA ?_; subst hA; simp only [real, Bool.true_and]; exact id)
    | (refine ind_of hA ?_; decide +kernel)
    | exact room_add2 hA (by omega) (by decide)
    | (intro _ _; first | rfl | trivial)
  all_goals subst hA
  all_goals first
    | rfl
    | (intro i hi
       refine Eq.trans ?_ (congrArg eLat (hQ' i hi).symm)
       exact push_if (A := real) eLat rfl d Q ⟨x, w⟩ (fun _ => [eI 0, eI 0, eI 0, eI 0, eI 0, eI 0, eI 0]) i hi)
def EXAft : FuncId → List Nat × Bool := fun f => bif nbeq f 1 then ([3000], false) else bif nbeq f 65 then ([99], false) else ([], false)
theorem k_addft (j : JobT) (mk : Int) (n : Nat) (R : Nat → RowT) (c : Nat) (hc : c ≤ 1080000) (P : Nat → PaneT) (d : Nat) (hd : d ≤ 1080000) (Q : Nat → LatT) (q : Nat) (hq : q < n) (v : Int) (r : RowT) (hr : r = addR (R q) v) (hm : ¬ mk < (R q).win.e) (R' : Nat → RowT) (hR' : ∀ i, i < n → R' i = if i = q then toldR r else R i) (P' : Nat → PaneT) (hP' : ∀ i, i < c + 1 → P' i = if i < c then P i else paneP j.piece r (kindT r)) : MeetsO Try.prog 140 [.c (.bp 1920 1 0), .c (.op 1793 1 q 0), .c (.d (eI v))]
    [(1920, 1, .box [.d (eI j.srcs), .d (eI j.tsks), .d (eI j.kind), .d (eI j.size), .d (eI j.step), .d (eI j.late), .d (eI j.tell), .d (eB j.piece), .d (eI j.least), .d (eI j.room), .d (eI mk), .own 1793 0 n 1, .own 2001 0 c 1, .own 2002 0 d 1]), (1793, 1, .arr 13 n fun i => eRow (R i)), (2001, 1, .arr 9 c fun i => ePane (P i)), (2002, 1, .arr 7 d fun i => eLat (Q i))] (.tup [])
    [(1920, 1, .box [.d (eI j.srcs), .d (eI j.tsks), .d (eI j.kind), .d (eI j.size), .d (eI j.step), .d (eI j.late), .d (eI j.tell), .d (eB j.piece), .d (eI j.least), .d (eI j.room), .d (eI mk), .own 1793 0 n 1, .own 2001 0 (c + 1) 2, .own 2002 0 d 1]), (1793, 1, .arr 13 n fun i => eRow (R' i)), (2001, 2, .arr 9 (c + 1) fun i => ePane (P' i)), (2002, 1, .arr 7 d fun i => eLat (Q i)), (6384, 1, .dead), (8560, 1, .dead)] := by
  have cA := c_AggAdd (R q).all v r.all (by rw [hr]; rfl)
  have cF := c_AggAdd (R q).fresh v r.fresh (by rw [hr]; rfl)
  obtain ⟨R1, hR1⟩ : ∃ R1 : Nat → RowT, R1 = fun i => if i = q then r else R i := ⟨_, rfl⟩
  have e1 : R1 q = r := (congrFun hR1 q).trans (if_pos rfl)
  have ew : (R1 q).win = (R q).win := by rw [e1, hr]; rfl
  have no : ∀ {A : Ar}, real = A → A.cmp .lss mk (R1 q).win.e = true → False := fun hA h => by
    subst hA
    have h : decide (mk < (R1 q).win.e) = true := h
    rw [ew] at h
    simp at h; omega
  refine inl_ofH [999, 1] (EX := EXAft) ttok mixed Try.func140 rfl (by kernel_rfl) (by decide) rfl rfl rfl rfl ?_
  generalize hA : real = A
  generalize hM : MeetsB Try.prog = M
  rcases A with ⟨a1, a2, a3, a4, a5, a6, a7, a8, a9, a10, a11, a12, a13, a14, a15, a16, a17, a18, a19, a20, a21, a22, up, a24, a25, a26, a27, a28, a29⟩
  have hup : ∀ (f : Nat → List DV) (q : Nat) (l : List DV), up f q l q = l := by
    have h : real.upd = up := congrArg Ar.upd hA
    intro f q l; rw [← h]; exact if_pos rfl
  cbv
  repeat' first
    | apply And.intro
    | exact True.intro
    | with_reducible rfl
    | exact same_of hA rfl
    | refine br_of hA (fun _ => ?_) (fun _ => ?_)
    | exact imp_of hA id
    | (refine imp_of hA ?_; subst hA; simp only [real, Bool.true_and]; exact id)
    | (refine ind_of hA ?_; decide +kernel)
    | (refine call_of hA hM _ cA ?_; cbv)
    | (refine call_of hA hM _ cF ?_; cbv)
    | (simp only [hup]; cbv)
    | (intro _ _; first | rfl | trivial)
  refine stop_ofG hA ⟨[(0, .c (.bp 1920 1 0)), (1, .c (.op 1793 1 q 0))], [(1920, 1, .box [.d (eI j.srcs), .d (eI j.tsks), .d (eI j.kind), .d (eI j.size), .d (eI j.step), .d (eI j.late), .d (eI j.tell), .d (eB j.piece), .d (eI j.least), .d (eI j.room), .d (eI mk), .own 1793 0 n 1, .own 2001 0 c 1, .own 2002 0 d 1]), (1793, 1, .arr 13 n fun i => eRow (R1 i)), (2001, 1, .arr 9 c fun i => ePane (P i)), (2002, 1, .arr 7 d fun i => eLat (Q i))]⟩ (cov_ofG ?_ ?_ ?_) ?_
  · (repeat' first | exact True.intro | exact rfl | apply And.intro | (intro _ _; first | rfl | trivial))
  · skip
    repeat' first
      | exact True.intro
      | exact rfl
      | apply And.intro
      | (intro _ _; first | rfl | trivial)
      | (intro i hi
         unfold real at hA
         cases hA
         by_cases e : i = q
         · refine Eq.trans ?_ (congrArg eRow ((congrFun hR1 i).trans (if_pos e)).symm)
           dsimp only
           simp only [if_pos e]
           rw [hr]
           rfl
         · refine Eq.trans ?_ (congrArg eRow ((congrFun hR1 i).trans (if_neg e)).symm)
           dsimp only
           simp only [if_neg e])
  · (repeat' first | exact True.intro | exact rfl | apply And.intro | exact .inl rfl | exact .inr (le_of_nble rfl))
  cbv
  repeat' first
    | exact (no hA (by assumption)).elim
    | apply And.intro
    | exact True.intro
    | with_reducible rfl
    | exact same_of hA rfl
    | refine br_of hA (fun _ => ?_) (fun _ => ?_)
    | exact imp_of hA id
    | (refine imp_of hA ?_; subst hA; simp only [real, Bool.true_and]; exact id)
    | (refine ind_of hA ?_; decide +kernel)
    | (intro _ _; first | rfl | trivial)
  · rename_i ht
    have htm : r.timely = true := by rw [← e1]; exact ht
    have hkd : kindT r = 2 := if_pos htm
    (refine inl_call hA _ _ _ ⟨fun _ => (by rw [← hM]; exact k_tellf j mk n R1 c hc P d hd Q 1 q hq 2 R' (fun i hi => by rw [hR' i hi, e1, hR1]; dsimp only; split <;> first | rfl | (rename_i e; simp [e])) P' (fun i hi => by rw [hP' i hi, e1, hkd])), (by cbv; repeat' first | apply And.intro | exact True.intro | rfl | exact .inr trivial | exact .inl trivial), ?_⟩; cbv)
    repeat' first
      | apply And.intro
      | exact True.intro
      | with_reducible rfl
      | exact same_of hA rfl
      | refine br_of hA (fun _ => ?_) (fun _ => ?_)
      | exact imp_of hA id
      | (refine imp_of hA ?_; subst hA; simp only [real, Bool.true_and]; exact id)
      | (refine ind_of hA ?_; decide +kernel)
      | (intro _ _; first | rfl | trivial)
  · rename_i ht
    have htm : ¬ r.timely = true := fun h => (by rw [← e1] at h; exact absurd (ht.symm.trans h) (by decide))
    have hkd : kindT r = 1 := if_neg htm
    (refine inl_call hA _ _ _ ⟨fun _ => (by rw [← hM]; exact k_tellf j mk n R1 c hc P d hd Q 1 q hq 1 R' (fun i hi => by rw [hR' i hi, e1, hR1]; dsimp only; split <;> first | rfl | (rename_i e; simp [e])) P' (fun i hi => by rw [hP' i hi, e1, hkd])), (by cbv; repeat' first | apply And.intro | exact True.intro | rfl | exact .inr trivial | exact .inl trivial), ?_⟩; cbv)
    repeat' first
      | apply And.intro
      | exact True.intro
      | with_reducible rfl
      | exact same_of hA rfl
      | refine br_of hA (fun _ => ?_) (fun _ => ?_)
      | exact imp_of hA id
      | (refine imp_of hA ?_; subst hA; simp only [real, Bool.true_and]; exact id)
      | (refine ind_of hA ?_; decide +kernel)
      | (intro _ _; first | rfl | trivial)
def EXAfn : FuncId → List Nat × Bool := fun f => bif nbeq f 1 then ([3000], false) else bif nbeq f 65 then ([99], false) else ([], false)
theorem k_addfn (j : JobT) (mk : Int) (n : Nat) (R : Nat → RowT) (c : Nat) (hc : c ≤ 1080000) (P : Nat → PaneT) (d : Nat) (hd : d ≤ 1080000) (Q : Nat → LatT) (q : Nat) (hq : q < n) (v : Int) (r : RowT) (hr : r = addR (R q) v) (hm : mk < (R q).win.e) (R' : Nat → RowT) (hR' : ∀ i, i < n → R' i = if i = q then r else R i) : MeetsO Try.prog 140 [.c (.bp 1920 1 0), .c (.op 1793 1 q 0), .c (.d (eI v))]
    [(1920, 1, .box [.d (eI j.srcs), .d (eI j.tsks), .d (eI j.kind), .d (eI j.size), .d (eI j.step), .d (eI j.late), .d (eI j.tell), .d (eB j.piece), .d (eI j.least), .d (eI j.room), .d (eI mk), .own 1793 0 n 1, .own 2001 0 c 1, .own 2002 0 d 1]), (1793, 1, .arr 13 n fun i => eRow (R i)), (2001, 1, .arr 9 c fun i => ePane (P i)), (2002, 1, .arr 7 d fun i => eLat (Q i))] (.tup [])
    [(1920, 1, .box [.d (eI j.srcs), .d (eI j.tsks), .d (eI j.kind), .d (eI j.size), .d (eI j.step), .d (eI j.late), .d (eI j.tell), .d (eB j.piece), .d (eI j.least), .d (eI j.room), .d (eI mk), .own 1793 0 n 1, .own 2001 0 c 2, .own 2002 0 d 1]), (1793, 1, .arr 13 n fun i => eRow (R' i)), (2001, 2, .arr 9 c fun i => ePane (P i)), (2002, 1, .arr 7 d fun i => eLat (Q i)), (6384, 1, .dead), (8560, 1, .dead)] := by
  have cA := c_AggAdd (R q).all v r.all (by rw [hr]; rfl)
  have cF := c_AggAdd (R q).fresh v r.fresh (by rw [hr]; rfl)
  obtain ⟨R1, hR1⟩ : ∃ R1 : Nat → RowT, R1 = fun i => if i = q then r else R i := ⟨_, rfl⟩
  have e1 : R1 q = r := (congrFun hR1 q).trans (if_pos rfl)
  have ew : (R1 q).win = (R q).win := by rw [e1, hr]; rfl
  have no : ∀ {A : Ar}, real = A → A.cmp .lss mk (R1 q).win.e = false → False := fun hA h => by
    subst hA
    have h : decide (mk < (R1 q).win.e) = false := h
    rw [ew] at h
    simp at h; omega
  refine inl_ofH [999, 1] (EX := EXAfn) ttok mixed Try.func140 rfl (by kernel_rfl) (by decide) rfl rfl rfl rfl ?_
  generalize hA : real = A
  generalize hM : MeetsB Try.prog = M
  rcases A with ⟨a1, a2, a3, a4, a5, a6, a7, a8, a9, a10, a11, a12, a13, a14, a15, a16, a17, a18, a19, a20, a21, a22, up, a24, a25, a26, a27, a28, a29⟩
  have hup : ∀ (f : Nat → List DV) (q : Nat) (l : List DV), up f q l q = l := by
    have h : real.upd = up := congrArg Ar.upd hA
    intro f q l; rw [← h]; exact if_pos rfl
  cbv
  repeat' first
    | apply And.intro
    | exact True.intro
    | with_reducible rfl
    | exact same_of hA rfl
    | refine br_of hA (fun _ => ?_) (fun _ => ?_)
    | exact imp_of hA id
    | (refine imp_of hA ?_; subst hA; simp only [real, Bool.true_and]; exact id)
    | (refine ind_of hA ?_; decide +kernel)
    | (refine call_of hA hM _ cA ?_; cbv)
    | (refine call_of hA hM _ cF ?_; cbv)
    | (simp only [hup]; cbv)
    | (intro _ _; first | rfl | trivial)
  refine stop_ofG hA ⟨[(0, .c (.bp 1920 1 0)), (1, .c (.op 1793 1 q 0))], [(1920, 1, .box [.d (eI j.srcs), .d (eI j.tsks), .d (eI j.kind), .d (eI j.size), .d (eI j.step), .d (eI j.late), .d (eI j.tell), .d (eB j.piece), .d (eI j.least), .d (eI j.room), .d (eI mk), .own 1793 0 n 1, .own 2001 0 c 2, .own 2002 0 d 1]), (1793, 1, .arr 13 n fun i => eRow (R1 i)), (2001, 2, .arr 9 c fun i => ePane (P i)), (2002, 1, .arr 7 d fun i => eLat (Q i)), (6384, 1, .dead), (8560, 1, .dead)]⟩ (cov_ofG ?_ ?_ ?_) ?_
  · (repeat' first | exact True.intro | exact rfl | apply And.intro | (intro _ _; first | rfl | trivial))
  · skip
    repeat' first
      | exact True.intro
      | exact rfl
      | apply And.intro
      | (intro _ _; first | rfl | trivial)
      | (intro i hi
         unfold real at hA
         cases hA
         by_cases e : i = q
         · refine Eq.trans ?_ (congrArg eRow ((congrFun hR1 i).trans (if_pos e)).symm)
           dsimp only
           simp only [if_pos e]
           rw [hr]
           rfl
         · refine Eq.trans ?_ (congrArg eRow ((congrFun hR1 i).trans (if_neg e)).symm)
           dsimp only
           simp only [if_neg e])
  · (repeat' first | exact True.intro | exact rfl | apply And.intro | exact .inl rfl | exact .inr (le_of_nble rfl))
  cbv
  repeat' first
    | exact (no hA (by assumption)).elim
    | apply And.intro
    | exact True.intro
    | with_reducible rfl
    | exact same_of hA rfl
    | refine br_of hA (fun _ => ?_) (fun _ => ?_)
    | exact imp_of hA id
    | (refine imp_of hA ?_; subst hA; simp only [real, Bool.true_and]; exact id)
    | (refine ind_of hA ?_; decide +kernel)
    | (intro _ _; first | rfl | trivial)
  all_goals
    intro i hi
    exact congrArg eRow ((congrFun hR1 i).trans (hR' i hi).symm)
def EXAnt : FuncId → List Nat × Bool := fun f => bif nbeq f 1 then ([3000], false) else bif nbeq f 65 then ([99], false) else ([], false)
theorem k_addnt (j : JobT) (mk : Int) (n : Nat) (R : Nat → RowT) (c : Nat) (hc : c ≤ 1080000) (P : Nat → PaneT) (d : Nat) (hd : d ≤ 1080000) (Q : Nat → LatT) (q : Nat) (hq : q < n) (v : Int) (r : RowT) (hr : r = addR (R q) v) (hm : ¬ mk < (R q).win.e) (R' : Nat → RowT) (hR' : ∀ i, i < n → R' i = if i = q then toldR r else R i) (P' : Nat → PaneT) (hP' : ∀ i, i < c + 1 → P' i = if i < c then P i else paneP j.piece r (kindT r)) : MeetsO Try.prog 140 [.c (.bp 1920 1 0), .c (.op 2664 1 q 0), .c (.d (eI v))]
    [(1920, 1, .box [.d (eI j.srcs), .d (eI j.tsks), .d (eI j.kind), .d (eI j.size), .d (eI j.step), .d (eI j.late), .d (eI j.tell), .d (eB j.piece), .d (eI j.least), .d (eI j.room), .d (eI mk), .own 2664 0 n 1, .own 2001 0 c 1, .own 2002 0 d 1]), (2664, 1, .arr 13 n fun i => eRow (R i)), (2001, 1, .arr 9 c fun i => ePane (P i)), (2002, 1, .arr 7 d fun i => eLat (Q i))] (.tup [])
    [(1920, 1, .box [.d (eI j.srcs), .d (eI j.tsks), .d (eI j.kind), .d (eI j.size), .d (eI j.step), .d (eI j.late), .d (eI j.tell), .d (eB j.piece), .d (eI j.least), .d (eI j.room), .d (eI mk), .own 2664 0 n 1, .own 2001 0 (c + 1) 2, .own 2002 0 d 1]), (2664, 1, .arr 13 n fun i => eRow (R' i)), (2001, 2, .arr 9 (c + 1) fun i => ePane (P' i)), (2002, 1, .arr 7 d fun i => eLat (Q i)), (6384, 1, .dead), (8560, 1, .dead)] := by
  have cA := c_AggAdd (R q).all v r.all (by rw [hr]; rfl)
  have cF := c_AggAdd (R q).fresh v r.fresh (by rw [hr]; rfl)
  obtain ⟨R1, hR1⟩ : ∃ R1 : Nat → RowT, R1 = fun i => if i = q then r else R i := ⟨_, rfl⟩
  have e1 : R1 q = r := (congrFun hR1 q).trans (if_pos rfl)
  have ew : (R1 q).win = (R q).win := by rw [e1, hr]; rfl
  have no : ∀ {A : Ar}, real = A → A.cmp .lss mk (R1 q).win.e = true → False := fun hA h => by
    subst hA
    have h : decide (mk < (R1 q).win.e) = true := h
    rw [ew] at h
    simp at h; omega
  refine inl_ofH [999, 1] (EX := EXAnt) ttok mixed Try.func140 rfl (by kernel_rfl) (by decide) rfl rfl rfl rfl ?_
  generalize hA : real = A
  generalize hM : MeetsB Try.prog = M
  rcases A with ⟨a1, a2, a3, a4, a5, a6, a7, a8, a9, a10, a11, a12, a13, a14, a15, a16, a17, a18, a19, a20, a21, a22, up, a24, a25, a26, a27, a28, a29⟩
  have hup : ∀ (f : Nat → List DV) (q : Nat) (l : List DV), up f q l q = l := by
    have h : real.upd = up := congrArg Ar.upd hA
    intro f q l; rw [← h]; exact if_pos rfl
  cbv
  repeat' first
    | apply And.intro
    | exact True.intro
    | with_reducible rfl
    | exact same_of hA rfl
    | refine br_of hA (fun _ => ?_) (fun _ => ?_)
    | exact imp_of hA id
    | (refine imp_of hA ?_; subst hA; simp only [real, Bool.true_and]; exact id)
    | (refine ind_of hA ?_; decide +kernel)
    | (refine call_of hA hM _ cA ?_; cbv)
    | (refine call_of hA hM _ cF ?_; cbv)
    | (simp only [hup]; cbv)
    | (intro _ _; first | rfl | trivial)
  refine stop_ofG hA ⟨[(0, .c (.bp 1920 1 0)), (1, .c (.op 2664 1 q 0))], [(1920, 1, .box [.d (eI j.srcs), .d (eI j.tsks), .d (eI j.kind), .d (eI j.size), .d (eI j.step), .d (eI j.late), .d (eI j.tell), .d (eB j.piece), .d (eI j.least), .d (eI j.room), .d (eI mk), .own 2664 0 n 1, .own 2001 0 c 1, .own 2002 0 d 1]), (2664, 1, .arr 13 n fun i => eRow (R1 i)), (2001, 1, .arr 9 c fun i => ePane (P i)), (2002, 1, .arr 7 d fun i => eLat (Q i))]⟩ (cov_ofG ?_ ?_ ?_) ?_
  · (repeat' first | exact True.intro | exact rfl | apply And.intro | (intro _ _; first | rfl | trivial))
  · skip
    repeat' first
      | exact True.intro
      | exact rfl
      | apply And.intro
      | (intro _ _; first | rfl | trivial)
      | (intro i hi
         unfold real at hA
         cases hA
         by_cases e : i = q
         · refine Eq.trans ?_ (congrArg eRow ((congrFun hR1 i).trans (if_pos e)).symm)
           dsimp only
           simp only [if_pos e]
           rw [hr]
           rfl
         · refine Eq.trans ?_ (congrArg eRow ((congrFun hR1 i).trans (if_neg e)).symm)
           dsimp only
           simp only [if_neg e])
  · (repeat' first | exact True.intro | exact rfl | apply And.intro | exact .inl rfl | exact .inr (le_of_nble rfl))
  cbv
  repeat' first
    | exact (no hA (by assumption)).elim
    | apply And.intro
    | exact True.intro
    | with_reducible rfl
    | exact same_of hA rfl
    | refine br_of hA (fun _ => ?_) (fun _ => ?_)
    | exact imp_of hA id
    | (refine imp_of hA ?_; subst hA; simp only [real, Bool.true_and]; exact id)
    | (refine ind_of hA ?_; decide +kernel)
    | (intro _ _; first | rfl | trivial)
  · rename_i ht
    have htm : r.timely = true := by rw [← e1]; exact ht
    have hkd : kindT r = 2 := if_pos htm
    (refine inl_call hA _ _ _ ⟨fun _ => (by rw [← hM]; exact k_telln j mk n R1 c hc P d hd Q 1 q hq 2 R' (fun i hi => by rw [hR' i hi, e1, hR1]; dsimp only; split <;> first | rfl | (rename_i e; simp [e])) P' (fun i hi => by rw [hP' i hi, e1, hkd])), (by cbv; repeat' first | apply And.intro | exact True.intro | rfl | exact .inr trivial | exact .inl trivial), ?_⟩; cbv)
    repeat' first
      | apply And.intro
      | exact True.intro
      | with_reducible rfl
      | exact same_of hA rfl
      | refine br_of hA (fun _ => ?_) (fun _ => ?_)
      | exact imp_of hA id
      | (refine imp_of hA ?_; subst hA; simp only [real, Bool.true_and]; exact id)
      | (refine ind_of hA ?_; decide +kernel)
      | (intro _ _; first | rfl | trivial)
  · rename_i ht
    have htm : ¬ r.timely = true := fun h => (by rw [← e1] at h; exact absurd (ht.symm.trans h) (by decide))
    have hkd : kindT r = 1 := if_neg htm
    (refine inl_call hA _ _ _ ⟨fun _ => (by rw [← hM]; exact k_telln j mk n R1 c hc P d hd Q 1 q hq 1 R' (fun i hi => by rw [hR' i hi, e1, hR1]; dsimp only; split <;> first | rfl | (rename_i e; simp [e])) P' (fun i hi => by rw [hP' i hi, e1, hkd])), (by cbv; repeat' first | apply And.intro | exact True.intro | rfl | exact .inr trivial | exact .inl trivial), ?_⟩; cbv)
    repeat' first
      | apply And.intro
      | exact True.intro
      | with_reducible rfl
      | exact same_of hA rfl
      | refine br_of hA (fun _ => ?_) (fun _ => ?_)
      | exact imp_of hA id
      | (refine imp_of hA ?_; subst hA; simp only [real, Bool.true_and]; exact id)
      | (refine ind_of hA ?_; decide +kernel)
      | (intro _ _; first | rfl | trivial)
def EXAnn : FuncId → List Nat × Bool := fun f => bif nbeq f 1 then ([3000], false) else bif nbeq f 65 then ([99], false) else ([], false)
theorem k_addnn (j : JobT) (mk : Int) (n : Nat) (R : Nat → RowT) (c : Nat) (hc : c ≤ 1080000) (P : Nat → PaneT) (d : Nat) (hd : d ≤ 1080000) (Q : Nat → LatT) (q : Nat) (hq : q < n) (v : Int) (r : RowT) (hr : r = addR (R q) v) (hm : mk < (R q).win.e) (R' : Nat → RowT) (hR' : ∀ i, i < n → R' i = if i = q then r else R i) : MeetsO Try.prog 140 [.c (.bp 1920 1 0), .c (.op 2664 1 q 0), .c (.d (eI v))]
    [(1920, 1, .box [.d (eI j.srcs), .d (eI j.tsks), .d (eI j.kind), .d (eI j.size), .d (eI j.step), .d (eI j.late), .d (eI j.tell), .d (eB j.piece), .d (eI j.least), .d (eI j.room), .d (eI mk), .own 2664 0 n 1, .own 2001 0 c 1, .own 2002 0 d 1]), (2664, 1, .arr 13 n fun i => eRow (R i)), (2001, 1, .arr 9 c fun i => ePane (P i)), (2002, 1, .arr 7 d fun i => eLat (Q i))] (.tup [])
    [(1920, 1, .box [.d (eI j.srcs), .d (eI j.tsks), .d (eI j.kind), .d (eI j.size), .d (eI j.step), .d (eI j.late), .d (eI j.tell), .d (eB j.piece), .d (eI j.least), .d (eI j.room), .d (eI mk), .own 2664 0 n 1, .own 2001 0 c 2, .own 2002 0 d 1]), (2664, 1, .arr 13 n fun i => eRow (R' i)), (2001, 2, .arr 9 c fun i => ePane (P i)), (2002, 1, .arr 7 d fun i => eLat (Q i)), (6384, 1, .dead), (8560, 1, .dead)] := by
  have cA := c_AggAdd (R q).all v r.all (by rw [hr]; rfl)
  have cF := c_AggAdd (R q).fresh v r.fresh (by rw [hr]; rfl)
  obtain ⟨R1, hR1⟩ : ∃ R1 : Nat → RowT, R1 = fun i => if i = q then r else R i := ⟨_, rfl⟩
  have e1 : R1 q = r := (congrFun hR1 q).trans (if_pos rfl)
  have ew : (R1 q).win = (R q).win := by rw [e1, hr]; rfl
  have no : ∀ {A : Ar}, real = A → A.cmp .lss mk (R1 q).win.e = false → False := fun hA h => by
    subst hA
    have h : decide (mk < (R1 q).win.e) = false := h
    rw [ew] at h
    simp at h; omega
  refine inl_ofH [999, 1] (EX := EXAnn) ttok mixed Try.func140 rfl (by kernel_rfl) (by decide) rfl rfl rfl rfl ?_
  generalize hA : real = A
  generalize hM : MeetsB Try.prog = M
  rcases A with ⟨a1, a2, a3, a4, a5, a6, a7, a8, a9, a10, a11, a12, a13, a14, a15, a16, a17, a18, a19, a20, a21, a22, up, a24, a25, a26, a27, a28, a29⟩
  have hup : ∀ (f : Nat → List DV) (q : Nat) (l : List DV), up f q l q = l := by
    have h : real.upd = up := congrArg Ar.upd hA
    intro f q l; rw [← h]; exact if_pos rfl
  cbv
  repeat' first
    | apply And.intro
    | exact True.intro
    | with_reducible rfl
    | exact same_of hA rfl
    | refine br_of hA (fun _ => ?_) (fun _ => ?_)
    | exact imp_of hA id
    | (refine imp_of hA ?_; subst hA; simp only [real, Bool.true_and]; exact id)
    | (refine ind_of hA ?_; decide +kernel)
    | (refine call_of hA hM _ cA ?_; cbv)
    | (refine call_of hA hM _ cF ?_; cbv)
    | (simp only [hup]; cbv)
    | (intro _ _; first | rfl | trivial)
  refine stop_ofG hA ⟨[(0, .c (.bp 1920 1 0)), (1, .c (.op 2664 1 q 0))], [(1920, 1, .box [.d (eI j.srcs), .d (eI j.tsks), .d (eI j.kind), .d (eI j.size), .d (eI j.step), .d (eI j.late), .d (eI j.tell), .d (eB j.piece), .d (eI j.least), .d (eI j.room), .d (eI mk), .own 2664 0 n 1, .own 2001 0 c 2, .own 2002 0 d 1]), (2664, 1, .arr 13 n fun i => eRow (R1 i)), (2001, 2, .arr 9 c fun i => ePane (P i)), (2002, 1, .arr 7 d fun i => eLat (Q i)), (6384, 1, .dead), (8560, 1, .dead)]⟩ (cov_ofG ?_ ?_ ?_) ?_
  · (repeat' first | exact True.intro | exact rfl | apply And.intro | (intro _ _; first | rfl | trivial))
  · skip
    repeat' first
      | exact True.intro
      | exact rfl
      | apply And.intro
      | (intro _ _; first | rfl | trivial)
      | (intro i hi
         unfold real at hA
         cases hA
         by_cases e : i = q
         · refine Eq.trans ?_ (congrArg eRow ((congrFun hR1 i).trans (if_pos e)).symm)
           dsimp only
           simp only [if_pos e]
           rw [hr]
           rfl
         · refine Eq.trans ?_ (congrArg eRow ((congrFun hR1 i).trans (if_neg e)).symm)
           dsimp only
           simp only [if_neg e])
  · (repeat' first | exact True.intro | exact rfl | apply And.intro | exact .inl rfl | exact .inr (le_of_nble rfl))
  cbv
  repeat' first
    | exact (no hA (by assumption)).elim
    | apply And.intro
    | exact True.intro
    | with_reducible rfl
    | exact same_of hA rfl
    | refine br_of hA (fun _ => ?_) (fun _ => ?_)
    | exact imp_of hA id
    | (refine imp_of hA ?_; subst hA; simp only [real, Bool.true_and]; exact id)
    | (refine ind_of hA ?_; decide +kernel)
    | (intro _ _; first | rfl | trivial)
  all_goals
    intro i hi
    exact congrArg eRow ((congrFun hR1 i).trans (hR' i hi).symm)
end Go.Rk
/- A worker's methods: window. -/
namespace Go.Rk
set_option linter.unusedSimpArgs false
set_option linter.unusedVariables false
open Go.Proofs
set_option maxRecDepth 100000
set_option maxHeartbeats 1000000
theorem k_addf (j : JobT) (mk : Int) (n : Nat) (R : Nat → RowT) (c : Nat) (hc : c ≤ 1080000) (P : Nat → PaneT) (d : Nat) (hd : d ≤ 1080000) (Q : Nat → LatT) (q : Nat) (hq : q < n) (v : Int) (r : RowT) (hr : r = addR (R q) v) (t : RowT × List PaneT) (ht : t = tellS j mk r) (R' : Nat → RowT) (hR' : ∀ i, i < n → R' i = if i = q then t.1 else R i) (c' : Nat) (hc' : c' = c + t.2.length) (P' : Nat → PaneT) (hP' : ∀ i, i < c' → P' i = if i < c then P i else t.2.getD (i - c) zPan) : MeetsO Try.prog 140 [.c (.bp 1920 1 0), .c (.op 1793 1 q 0), .c (.d (eI v))]
    [(1920, 1, .box [.d (eI j.srcs), .d (eI j.tsks), .d (eI j.kind), .d (eI j.size), .d (eI j.step), .d (eI j.late), .d (eI j.tell), .d (eB j.piece), .d (eI j.least), .d (eI j.room), .d (eI mk), .own 1793 0 n 1, .own 2001 0 c 1, .own 2002 0 d 1]), (1793, 1, .arr 13 n fun i => eRow (R i)), (2001, 1, .arr 9 c fun i => ePane (P i)), (2002, 1, .arr 7 d fun i => eLat (Q i))] (.tup [])
    [(1920, 1, .box [.d (eI j.srcs), .d (eI j.tsks), .d (eI j.kind), .d (eI j.size), .d (eI j.step), .d (eI j.late), .d (eI j.tell), .d (eB j.piece), .d (eI j.least), .d (eI j.room), .d (eI mk), .own 1793 0 n 1, .own 2001 0 c' 2, .own 2002 0 d 1]), (1793, 1, .arr 13 n fun i => eRow (R' i)), (2001, 2, .arr 9 c' fun i => ePane (P' i)), (2002, 1, .arr 7 d fun i => eLat (Q i)), (6384, 1, .dead), (8560, 1, .dead)] := by
  have hw : r.win = (R q).win := by rw [hr]; rfl
  unfold tellS at ht
  by_cases hm : mk < r.win.e
  · rw [if_pos hm] at ht
    subst ht
    have hcc : c' = c := hc'
    subst hcc
    have hPP : P' = fun i => if i < c' then P i else P' i := by
      funext i
      by_cases h : i < c'
      · rw [if_pos h, hP' i h, if_pos h]
      · rw [if_neg h]
    have := k_addfn j mk n R c' hc P d hd Q q hq v r hr (by rw [← hw]; exact hm) R' hR'
    have e : ∀ i, i < c' → ePane (P i) = ePane (P' i) := fun i hi => by rw [hP' i hi, if_pos hi]
    exact meetsO_up this ⟨⟨rfl, rfl, okR_refl _⟩, ⟨rfl, rfl, okR_refl _⟩, ⟨rfl, rfl, rfl, rfl, e⟩, ⟨rfl, rfl, okR_refl _⟩, ⟨rfl, rfl, okR_refl _⟩, ⟨rfl, rfl, okR_refl _⟩, trivial⟩
  · rw [if_neg hm] at ht
    subst ht
    have hcc : c' = c + 1 := hc'
    subst hcc
    refine k_addft j mk n R c hc P d hd Q q hq v r hr (by rw [← hw]; exact hm) R' hR' P' fun i hi => ?_
    rw [hP' i hi]
    by_cases h : i < c
    · rw [if_pos h, if_pos h]
    · rw [if_neg h, if_neg h, show i - c = 0 by omega]; rfl
theorem k_addn (j : JobT) (mk : Int) (n : Nat) (R : Nat → RowT) (c : Nat) (hc : c ≤ 1080000) (P : Nat → PaneT) (d : Nat) (hd : d ≤ 1080000) (Q : Nat → LatT) (q : Nat) (hq : q < n) (v : Int) (r : RowT) (hr : r = addR (R q) v) (t : RowT × List PaneT) (ht : t = tellS j mk r) (R' : Nat → RowT) (hR' : ∀ i, i < n → R' i = if i = q then t.1 else R i) (c' : Nat) (hc' : c' = c + t.2.length) (P' : Nat → PaneT) (hP' : ∀ i, i < c' → P' i = if i < c then P i else t.2.getD (i - c) zPan) : MeetsO Try.prog 140 [.c (.bp 1920 1 0), .c (.op 2664 1 q 0), .c (.d (eI v))]
    [(1920, 1, .box [.d (eI j.srcs), .d (eI j.tsks), .d (eI j.kind), .d (eI j.size), .d (eI j.step), .d (eI j.late), .d (eI j.tell), .d (eB j.piece), .d (eI j.least), .d (eI j.room), .d (eI mk), .own 2664 0 n 1, .own 2001 0 c 1, .own 2002 0 d 1]), (2664, 1, .arr 13 n fun i => eRow (R i)), (2001, 1, .arr 9 c fun i => ePane (P i)), (2002, 1, .arr 7 d fun i => eLat (Q i))] (.tup [])
    [(1920, 1, .box [.d (eI j.srcs), .d (eI j.tsks), .d (eI j.kind), .d (eI j.size), .d (eI j.step), .d (eI j.late), .d (eI j.tell), .d (eB j.piece), .d (eI j.least), .d (eI j.room), .d (eI mk), .own 2664 0 n 1, .own 2001 0 c' 2, .own 2002 0 d 1]), (2664, 1, .arr 13 n fun i => eRow (R' i)), (2001, 2, .arr 9 c' fun i => ePane (P' i)), (2002, 1, .arr 7 d fun i => eLat (Q i)), (6384, 1, .dead), (8560, 1, .dead)] := by
  have hw : r.win = (R q).win := by rw [hr]; rfl
  unfold tellS at ht
  by_cases hm : mk < r.win.e
  · rw [if_pos hm] at ht
    subst ht
    have hcc : c' = c := hc'
    subst hcc
    have hPP : P' = fun i => if i < c' then P i else P' i := by
      funext i
      by_cases h : i < c'
      · rw [if_pos h, hP' i h, if_pos h]
      · rw [if_neg h]
    have := k_addnn j mk n R c' hc P d hd Q q hq v r hr (by rw [← hw]; exact hm) R' hR'
    have e : ∀ i, i < c' → ePane (P i) = ePane (P' i) := fun i hi => by rw [hP' i hi, if_pos hi]
    exact meetsO_up this ⟨⟨rfl, rfl, okR_refl _⟩, ⟨rfl, rfl, okR_refl _⟩, ⟨rfl, rfl, rfl, rfl, e⟩, ⟨rfl, rfl, okR_refl _⟩, ⟨rfl, rfl, okR_refl _⟩, ⟨rfl, rfl, okR_refl _⟩, trivial⟩
  · rw [if_neg hm] at ht
    subst ht
    have hcc : c' = c + 1 := hc'
    subst hcc
    refine k_addnt j mk n R c hc P d hd Q q hq v r hr (by rw [← hw]; exact hm) R' hR' P' fun i hi => ?_
    rw [hP' i hi]
    by_cases h : i < c
    · rw [if_pos h, if_pos h]
    · rw [if_neg h, if_neg h, show i - c = 0 by omega]; rfl
def EXW : FuncId → List Nat × Bool := fun f => bif nbeq f 1 then ([3000], false) else bif nbeq f 140 then ([99], false) else bif nbeq f 141 then ([99], false) else bif nbeq f 139 then ([99], false) else ([], false)
theorem k_wgone (j : JobT) (mk : Int) (n : Nat) (R : Nat → RowT) (c : Nat) (hc : c ≤ 1080000) (P : Nat → PaneT) (d : Nat) (hd : d ≤ 1080000) (Q : Nat → LatT) (x : ItmT) (w : WinT) (hov : w64 (w.e + j.late) ≤ mk) (Q' : Nat → LatT) (hQ' : ∀ i, i < d + 1 → Q' i = if i < d then Q i else ⟨x, w⟩) : MeetsO Try.prog 106 [.c (.bp 1920 1 0), .agg ((eItm x).map .d), .agg ((eWin w).map .d)]
    [(1920, 1, .box [.d (eI j.srcs), .d (eI j.tsks), .d (eI j.kind), .d (eI j.size), .d (eI j.step), .d (eI j.late), .d (eI j.tell), .d (eB j.piece), .d (eI j.least), .d (eI j.room), .d (eI mk), .own 1793 0 n 1, .own 2001 0 c 1, .own 2002 0 d 1]), (1793, 1, .arr 13 n fun i => eRow (R i)), (2001, 1, .arr 9 c fun i => ePane (P i)), (2002, 1, .arr 7 d fun i => eLat (Q i))] (.tup [])
    [(1920, 1, .box [.d (eI j.srcs), .d (eI j.tsks), .d (eI j.kind), .d (eI j.size), .d (eI j.step), .d (eI j.late), .d (eI j.tell), .d (eB j.piece), .d (eI j.least), .d (eI j.room), .d (eI mk), .own 1793 0 n 1, .own 2001 0 c 1, .own 2002 0 (d + 1) 2]), (1793, 1, .arr 13 n fun i => eRow (R i)), (2001, 1, .arr 9 c fun i => ePane (P i)), (2002, 2, .arr 7 (d + 1) fun i => eLat (Q' i)), (3256, 1, .dead), (3320, 1, .dead), (4320, 1, .dead), (4384, 1, .dead), (4448, 1, .dead), (5984, 1, .dead)] := by
  have kG := k_gonet j mk n R c hc P d hd Q x w w hov Q' hQ'
  refine inl_of (EX := EXW) ttok mixed Try.func106 rfl (by kernel_rfl) (by decide) (by kernel_rfl) rfl rfl ?_
  generalize hA : real = A
  generalize hM : MeetsB Try.prog = M
  cbv
  repeat' first
    | (exfalso; rename_i h; cases h; done)
    | apply And.intro
    | exact True.intro
    | with_reducible rfl
    | exact same_of hA rfl
    | refine br_of hA (fun _ => ?_) (fun _ => ?_)
    | exact imp_of hA id
    | (refine imp_of hA ?_; subst hA; simp only [real, Bool.true_and]; exact id)
    | (refine ind_of hA ?_; decide +kernel)
    | (refine inl_call hA _ _ _ ⟨fun _ => (by rw [← hM]; exact kG), (by cbv; repeat' first | apply And.intro | exact True.intro | rfl | exact .inr trivial | exact .inl trivial), ?_⟩; cbv)
    | (intro _ _; first | rfl | trivial)
theorem k_wfound (j : JobT) (mk : Int) (n : Nat) (R : Nat → RowT) (c : Nat) (hc : c ≤ 1080000) (P : Nat → PaneT) (d : Nat) (hd : d ≤ 1080000) (Q : Nat → LatT) (x : ItmT) (w : WinT) (hn : n ≤ 1080000) (hov : mk < w64 (w.e + j.late)) (i : Nat) (hi : i < n) (he : IsR x.key w (R i)) (hb : ∀ q, q < i → ¬ IsR x.key w (R q)) (t : RowT × List PaneT) (ht : t = tellS j mk (addR (R i) x.v)) (R' : Nat → RowT) (hR' : ∀ q, q < n → R' q = if q = i then t.1 else R q) (c' : Nat) (hc' : c' = c + t.2.length) (P' : Nat → PaneT) (hP' : ∀ q, q < c' → P' q = if q < c then P q else t.2.getD (q - c) zPan) : MeetsO Try.prog 106 [.c (.bp 1920 1 0), .agg ((eItm x).map .d), .agg ((eWin w).map .d)]
    [(1920, 1, .box [.d (eI j.srcs), .d (eI j.tsks), .d (eI j.kind), .d (eI j.size), .d (eI j.step), .d (eI j.late), .d (eI j.tell), .d (eB j.piece), .d (eI j.least), .d (eI j.room), .d (eI mk), .own 1793 0 n 1, .own 2001 0 c 1, .own 2002 0 d 1]), (1793, 1, .arr 13 n fun i => eRow (R i)), (2001, 1, .arr 9 c fun i => ePane (P i)), (2002, 1, .arr 7 d fun i => eLat (Q i))] (.tup [])
    [(1920, 1, .box [.d (eI j.srcs), .d (eI j.tsks), .d (eI j.kind), .d (eI j.size), .d (eI j.step), .d (eI j.late), .d (eI j.tell), .d (eB j.piece), .d (eI j.least), .d (eI j.room), .d (eI mk), .own 1793 0 n 1, .own 2001 0 c' 2, .own 2002 0 d 1]), (1793, 1, .arr 13 n fun i => eRow (R' i)), (2001, 2, .arr 9 c' fun i => ePane (P' i)), (2002, 1, .arr 7 d fun i => eLat (Q i)), (3256, 1, .dead), (3320, 1, .dead), (4320, 1, .dead), (4384, 1, .dead), (4448, 1, .dead), (6384, 1, .dead), (8560, 1, .dead)] := by
  have kG := k_gonef j mk n R c hc P d hd Q x w w hov
  obtain ⟨z, hz, cF⟩ := c_find mk n hn R x.key w
  have hzi : z = (i : Int) := firstIx_one hz (.at i hi he hb)
  subst hzi
  have kA := fun q (e : q = i) => k_addf j mk n R c hc P d hd Q q (by omega) x.v (addR (R q) x.v) rfl t (by rw [e]; exact ht) R' (by rw [e]; exact hR') c' hc' P' hP'
  refine inl_of (EX := EXW) ttok mixed Try.func106 rfl (by kernel_rfl) (by decide) (by kernel_rfl) rfl rfl ?_
  generalize hA : real = A
  generalize hM : MeetsB Try.prog = M
  cbv
  repeat' first
    | (exfalso; rename_i h; cases h; done)
    | (exfalso; rename_i h; subst hA; exact (of_decide_eq_false h) (Int.natCast_nonneg i))
    | apply And.intro
    | exact True.intro
    | with_reducible rfl
    | exact same_of hA rfl
    | refine br_of hA (fun _ => ?_) (fun _ => ?_)
    | exact imp_of hA id
    | (refine imp_of hA ?_; subst hA; simp only [real, Bool.true_and]; exact id)
    | (refine ind_of hA ?_; decide +kernel)
    | (refine inl_call hA _ _ _ ⟨fun _ => (by rw [← hM]; exact kG), (by cbv; repeat' first | apply And.intro | exact True.intro | rfl | exact .inr trivial | exact .inl trivial), ?_⟩; cbv)
    | (refine call_of2 hA hM _ cF (by (subst hA; first | rfl | (simp only [sub0r]; try rfl))) ?_; cbv)
    | (refine inl_call hA _ _ _ ⟨fun _ => (by rw [← hM]; exact kA (A.add 0 (A.nat (i : Int))) (by subst hA; exact Nat.zero_add i)), (by cbv; repeat' first | apply And.intro | exact True.intro | rfl | exact .inr trivial | exact .inl trivial), ?_⟩; cbv)
    | (refine inb_of hA fun h => ?_; exact ⟨Int.natCast_nonneg _, Int.ofNat_lt.2 hi⟩)
    | (intro _ _; first | rfl | trivial)
theorem k_wnew (j : JobT) (mk : Int) (n : Nat) (R : Nat → RowT) (c : Nat) (hc : c ≤ 1080000) (P : Nat → PaneT) (d : Nat) (hd : d ≤ 1080000) (Q : Nat → LatT) (x : ItmT) (w : WinT) (hn : n ≤ 1070000) (hov : mk < w64 (w.e + j.late)) (hno : ∀ q, q < n → ¬ IsR x.key w (R q)) (i : Nat) (hi : i ≤ n) (h1 : ∀ q, q < i → RA (R q) (nrow x.key w)) (h2 : ∀ q, i ≤ q → q < n → ¬ RA (R q) (nrow x.key w)) (t : RowT × List PaneT) (ht : t = tellS j mk (addR (nrow x.key w) x.v)) (R' : Nat → RowT) (hR' : ∀ q, q < n + 1 → R' q = if q < i then R q else if q = i then t.1 else R (q - 1)) (c' : Nat) (hc' : c' = c + t.2.length) (P' : Nat → PaneT) (hP' : ∀ q, q < c' → P' q = if q < c then P q else t.2.getD (q - c) zPan) : MeetsO Try.prog 106 [.c (.bp 1920 1 0), .agg ((eItm x).map .d), .agg ((eWin w).map .d)]
    [(1920, 1, .box [.d (eI j.srcs), .d (eI j.tsks), .d (eI j.kind), .d (eI j.size), .d (eI j.step), .d (eI j.late), .d (eI j.tell), .d (eB j.piece), .d (eI j.least), .d (eI j.room), .d (eI mk), .own 1793 0 n 1, .own 2001 0 c 1, .own 2002 0 d 1]), (1793, 1, .arr 13 n fun i => eRow (R i)), (2001, 1, .arr 9 c fun i => ePane (P i)), (2002, 1, .arr 7 d fun i => eLat (Q i))] (.tup [])
    [(1920, 1, .box [.d (eI j.srcs), .d (eI j.tsks), .d (eI j.kind), .d (eI j.size), .d (eI j.step), .d (eI j.late), .d (eI j.tell), .d (eB j.piece), .d (eI j.least), .d (eI j.room), .d (eI mk), .own 2664 0 (n + 1) 1, .own 2001 0 c' 2, .own 2002 0 d 1]), (2664, 1, .arr 13 (n + 1) fun i => eRow (R' i)), (2001, 2, .arr 9 c' fun i => ePane (P' i)), (2002, 1, .arr 7 d fun i => eLat (Q i)), (3256, 1, .dead), (3320, 1, .dead), (4320, 1, .dead), (4384, 1, .dead), (4448, 1, .dead), (6384, 1, .dead), (8560, 1, .dead), (1793, 2, .dead), (1192, 1, .dead), (2600, 2, .dead)] := by
  have kG := k_gonef j mk n R c hc P d hd Q x w w hov
  obtain ⟨z, hz, cF⟩ := c_find mk n (by omega) R x.key w
  have hzi : z = -1 := firstIx_one hz (.none hno)
  subst hzi
  obtain ⟨R1, hR1⟩ : ∃ R1 : Nat → RowT, R1 = fun q => if q < i then R q else if q = i then nrow x.key w else R (q - 1) := ⟨_, rfl⟩
  have e1 : R1 i = nrow x.key w := by rw [hR1]; dsimp only; rw [if_neg (Nat.lt_irrefl i), if_pos rfl]
  have kP := k_putw j mk n R c hc P d hd Q 1 (by omega) (nrow x.key w) i hi h1 h2 R1 (fun q _ => by rw [hR1])
  have kA := k_addn j mk (n + 1) R1 c hc P d hd Q i (by omega) x.v (addR (R1 i) x.v) rfl t (by rw [e1]; exact ht) R' (fun q hq => by
    rw [hR' q hq, hR1]
    dsimp only
    by_cases a : q < i
    · rw [if_pos a, if_neg (by omega), if_pos a]
    · rw [if_neg a]
      by_cases b : q = i
      · rw [if_pos b, if_pos b]
      · rw [if_neg b, if_neg b, if_neg a, if_neg b]) c' hc' P' hP'
  refine inl_of (EX := EXW) ttok mixed Try.func106 rfl (by kernel_rfl) (by decide) (by kernel_rfl) rfl rfl ?_
  generalize hA : real = A
  generalize hM : MeetsB Try.prog = M
  cbv
  repeat' first
    | (exfalso; rename_i h; cases h; done)
    | (exfalso; rename_i h; subst hA; exact absurd (show (0 : Int) ≤ -1 from of_decide_eq_true h) (by omega))
    | apply And.intro
    | exact True.intro
    | with_reducible rfl
    | exact same_of hA rfl
    | refine br_of hA (fun _ => ?_) (fun _ => ?_)
    | exact imp_of hA id
    | (refine imp_of hA ?_; subst hA; simp only [real, Bool.true_and]; exact id)
    | (refine ind_of hA ?_; decide +kernel)
    | (refine inl_call hA _ _ _ ⟨fun _ => (by rw [← hM]; exact kG), (by cbv; repeat' first | apply And.intro | exact True.intro | rfl | exact .inr trivial | exact .inl trivial), ?_⟩; cbv)
    | (refine call_of2 hA hM _ cF (by (subst hA; first | rfl | (simp only [sub0r]; try rfl))) ?_; cbv)
    | (refine inl_call hA _ _ _ ⟨fun _ => (by rw [← hM]; exact kP), (by cbv; repeat' first | apply And.intro | exact True.intro | rfl | exact .inr trivial | exact .inl trivial), ?_⟩; cbv)
    | (refine inl_call hA _ _ _ ⟨fun _ => (by rw [← hM]; exact kA), (by cbv; repeat' first | apply And.intro | exact True.intro | rfl | exact .inr trivial | exact .inl trivial), ?_⟩; cbv)
    | (intro _ _; first | rfl | trivial)
end Go.Rk
/- Lists that grow at their end, by number and members. -/
namespace Go.Rk
set_option linter.unusedSimpArgs false
set_option linter.unusedVariables false
def Ext {α : Type} (z : α) (c : Nat) (P : Nat → α) (ps : List α) (c' : Nat) (P' : Nat → α) : Prop := c' = c + ps.length ∧ ∀ q, q < c' → P' q = if q < c then P q else ps.getD (q - c) z
theorem ext_nil {α : Type} (z : α) (c : Nat) (P : Nat → α) : Ext z c P [] c P := ⟨rfl, fun q hq => (if_pos hq).symm⟩
theorem ext_ex {α : Type} (z : α) (c : Nat) (P : Nat → α) (ps : List α) : ∃ c' P', Ext z c P ps c' P' := ⟨c + ps.length, fun q => if q < c then P q else ps.getD (q - c) z, rfl, fun _ _ => rfl⟩
theorem ext_snoc {α : Type} {z : α} {c c1 : Nat} {P P1 P2 : Nat → α} {ps : List α} {x : α} (h : Ext z c P ps c1 P1) (h2 : ∀ q, q < c1 + 1 → P2 q = if q < c1 then P1 q else x) : Ext z c P (ps ++ [x]) (c1 + 1) P2 := by
  obtain ⟨rfl, h1⟩ := h
  refine ⟨by simp; omega, fun q hq => ?_⟩
  rw [h2 q hq]
  by_cases a : q < c + ps.length
  · rw [if_pos a, h1 q a]
    by_cases b : q < c
    · rw [if_pos b, if_pos b]
    · rw [if_neg b, if_neg b, List.getD_eq_getElem?_getD, List.getD_eq_getElem?_getD, List.getElem?_append_left (by omega)]
  · rw [if_neg a, if_neg (by omega)]
    have e : q - c = ps.length := by omega
    rw [e]; simp
theorem ext_app {α : Type} {z : α} {c c1 c2 : Nat} {P P1 P2 : Nat → α} {ps qs : List α} (h : Ext z c P ps c1 P1) (h2 : Ext z c1 P1 qs c2 P2) : Ext z c P (ps ++ qs) c2 P2 := by
  obtain ⟨rfl, h1⟩ := h
  obtain ⟨rfl, h2⟩ := h2
  refine ⟨by simp; omega, fun q hq => ?_⟩
  rw [h2 q hq]
  by_cases a : q < c + ps.length
  · rw [if_pos a, h1 q a]
    by_cases b : q < c
    · rw [if_pos b, if_pos b]
    · rw [if_neg b, if_neg b, List.getD_eq_getElem?_getD, List.getD_eq_getElem?_getD, List.getElem?_append_left (by omega)]
  · rw [if_neg a, if_neg (by omega), List.getD_eq_getElem?_getD, List.getD_eq_getElem?_getD, List.getElem?_append_right (by omega), show q - (c + ps.length) = q - c - ps.length by omega]
theorem ext_lst {α : Type} {z : α} {c c' : Nat} {P P' : Nat → α} {l ps : List α} (h : Lst z l c P) (h2 : Ext z c P ps c' P') : Lst z (l ++ ps) c' P' := by
  obtain ⟨rfl, h1⟩ := h
  obtain ⟨rfl, h2⟩ := h2
  refine ⟨by simp, fun q hq => ?_⟩
  rw [h2 q hq]
  by_cases b : q < l.length
  · rw [if_pos b, h1 q b, List.getD_eq_getElem?_getD, List.getD_eq_getElem?_getD, List.getElem?_append_left b]
  · rw [if_neg b, List.getD_eq_getElem?_getD, List.getD_eq_getElem?_getD, List.getElem?_append_right (by omega)]
theorem oldL_snoc (k : Int) (w : WinT) (l : List RowT) (r : RowT) : oldL k w (l ++ [r]) = oldL k w l ++ if tchR k w r = true then [r] else [] := by
  unfold oldL; rw [List.filter_append]; congr 1
  cases h : tchR k w r <;> simp [h]
theorem goneL_snoc (l : List RowT) (r : RowT) : goneL (l ++ [r]) = goneL l ++ if 0 < r.told then [goneP r] else [] := by
  unfold goneL; rw [List.filter_append, List.map_append]; congr 1
  by_cases h : 0 < r.told <;> simp [h]
theorem oldL_len (k : Int) (w : WinT) (l : List RowT) : (oldL k w l).length ≤ l.length := List.length_filter_le _ _
theorem restL_len (k : Int) (w : WinT) (l : List RowT) : (restL k w l).length ≤ l.length := List.length_filter_le _ _
theorem one_iff {w : WinT} {l : List RowT} {k : Nat} {G : Nat → RowT} (h : Lst zRow l k G) : oneB w l = true ↔ k = 1 ∧ (G 0).win.s = w.s ∧ (G 0).win.e = w.e := by
  obtain ⟨rfl, h2⟩ := h
  match l, h2 with
  | [], _ => simp [oneB]
  | [o], h2 =>
    have e : G 0 = o := h2 0 (by simp)
    simp [oneB, e]
  | a :: b :: r, _ => simp [oneB]
theorem lst_eq {α : Type} {z : α} {l : List α} {n : Nat} {g : Nat → α} (h : Lst z l n g) : l = (List.range n).map g := by
  obtain ⟨rfl, h2⟩ := h
  refine List.ext_getElem (by simp) fun i h1 h3 => ?_
  have := h2 i h1
  rw [List.getD_eq_getElem?_getD, List.getElem?_eq_getElem h1] at this
  simp [this]
end Go.Rk
