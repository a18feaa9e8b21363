/- The walk over this seat's functions, part 6: what each of them answers, at all data. -/
import Derived.Test.YtbkpfnddpnccmaaM1
import Derived.Test.YtbkpfnddpnccmaaM2
import Derived.Test.YtbkpfnddpnccmaaM3
import Derived.Test.YtbkpfnddpnccmaaM4
import Derived.Test.YtbkpfnddpnccmaaM5
/- slices.Insert of one element, no room: the model's own walk. -/
namespace Go.Rk
set_option linter.unusedSimpArgs false
set_option linter.unusedVariables false
open Go Go.Proofs Go.RowKit Go.Lib
set_option maxHeartbeats 4000000 in
set_option maxRecDepth 100000 in
theorem ins_grow (b off n c i vb voff vc : Nat) (cs vs : List Value) (w : World) (hi : i < n) (hnc : n ≤ c) (hroom : c < n + 1) (hbig : (n + 1) * 56 ≤ 140737488355328)
    (hcl : cs.length = n * 7) (hvl : vs.length = 7)
    (hcs : ∀ j v, cs[j]? = some v → w.cell? ⟨b, off + j, none⟩ = some v)
    (hvs : ∀ j v, vs[j]? = some v → w.cell? ⟨vb, voff + j, none⟩ = some v) (h1c : ∀ v ∈ cs, v.oneCell' = true) (h1v : ∀ v ∈ vs, v.oneCell' = true) :
    ∃ ROW : Array Value, ROW.size = grownCap w (n + 1) c 79 * 7 ∧ (∀ j, j < i * 7 → ROW[j]? = cs[j]?) ∧ n + 1 ≤ grownCap w (n + 1) c 79 ∧
    Calls Try.prog 91 #[.slice (some ⟨b, off, none⟩) n c, .int .i64 i, .slice (some ⟨vb, voff, none⟩) 1 vc] w fun e w' =>
      e = .returned (.slice (some ⟨w.heap.size, 0, none⟩) (n + 1) (grownCap w (n + 1) c 79)) ∧
      w' = (((w.alloc (.cells ROW 79)).drew.setCells w.heap.size (i * 7) vs).drew).setCells w.heap.size ((i + 1) * 7) (cs.drop (i * 7)) := by
  have hi0 : Try.prog.info? 79 = some Try.t79 := by kernel_rfl
  have hzs : Try.t79.size = 7 := rfl
  have hzb : Try.t79.bytes = 56 := rfl
  have hz0 : Try.t79.zero = some (.agg #[.int .i64 0, .int .i64 0, .int .i64 0, .int .i64 0, .int .i64 0, .int .i64 0, .int .i64 0]) := rfl
  obtain ⟨Z, hZ⟩ : ∃ Z : Array Value, Z = #[.int .i64 0, .int .i64 0, .int .i64 0, .int .i64 0, .int .i64 0, .int .i64 0, .int .i64 0] := ⟨_, rfl⟩
  have hZ7 : Z.size = 7 := by rw [hZ]; rfl
  rw [← hZ] at hz0
  have hz2 : ¬ ((i : Int) = (n : Int)) := by omega
  have hsz : (Try.prog.info? 79).map (·.size) = some 7 := by rw [hi0]; rfl
  have hbw : b < w.heap.size := block_lt_of_cell (hcs 0 _ (List.getElem?_eq_getElem (by omega)))
  have hvw : vb < w.heap.size := block_lt_of_cell (hvs 0 _ (List.getElem?_eq_getElem (by omega)))
  have hkk : (n : Int) + 1 - (i : Int) = ((n + 1 - i : Nat) : Int) := by omega
  have hik : i + (n + 1 - i) = n + 1 := by omega
  have hold : (Builtin.firstCells Try.t79.size i (.slice (some ⟨b, off, none⟩) i c)).run Try.prog w.drew = .ok (cs.take (i * 7)).toArray w.drew := by
    rw [hzs]
    exact run_firstCells_some w.drew 7 i ⟨b, off, none⟩ i c (cs.take (i * 7)) (by rw [List.length_take]; omega) (fun j v hj => by
      rw [Addr.add_lit]
      rw [List.getElem?_take] at hj
      split at hj
      · exact hcs j v hj
      · cases hj)
  have hrz : ∀ ty, (Builtin.append_ #[75, 3] ty #[.slice (some ⟨b, off, none⟩) i c, .int .i64 ((n : Int) + 1 - (i : Int))]).run Try.prog w =
      .ok (.slice (some ⟨w.heap.size, 0, none⟩) (n + 1) (grownCap w (n + 1) c 79)) (w.drew.alloc (.cells ((cs.take (i * 7)).toArray ++ Builtin.zeroCells Z (n + 1 - i) ++ Builtin.zeroCells Z (grownCap w (n + 1) c 79 - (n + 1))) 79)) := fun ty => by
    have h := Lib.run_append_grow_zeros w 75 3 ty 79 Try.t79 _ .i64 .i64 Try.underlying75 Try.underlying3 hi0 hz0 (some ⟨b, off, none⟩) i c (cs.take (i * 7)) hold (n + 1 - i) (by omega) (by omega) (by omega) (by omega) (by rw [hzb]; omega) (by rw [hzb, hik]; exact growslice_fits hroom hbig)
    rw [hik] at h
    rw [hkk]
    exact h
  obtain ⟨G, hG⟩ : ∃ G, G = grownCap w (n + 1) c 79 := ⟨_, rfl⟩
  obtain ⟨ROW, hROW⟩ : ∃ ROW : Array Value, ROW = (cs.take (i * 7)).toArray ++ Builtin.zeroCells Z (n + 1 - i) ++ Builtin.zeroCells Z (G - (n + 1)) := ⟨_, rfl⟩
  have hGn : n + 1 ≤ G := by rw [hG]; exact grownCap_ge w _ _ _
  have hG63 : G ≤ 9223372036854775807 := by
    have := grownCap_le_maxLen w (n + 1) c 79 (by unfold maxLen; omega)
    rw [← hG] at this
    unfold maxLen at this
    omega
  rw [← hG] at hrz ⊢
  rw [← hROW] at hrz
  have htl : (cs.take (i * 7)).length = i * 7 := by rw [List.length_take, hcl]; omega
  have hRs : ROW.size = G * 7 := by
    rw [hROW]
    simp only [Array.size_append, List.size_toArray, htl, Builtin.zeroCells, Array.size_map, Array.size_range, hZ7]
    omega
  refine ⟨ROW, hRs, fun j hj => ?_, hGn, ?_⟩
  · rw [hROW, Array.append_assoc, Array.getElem?_append_left (by rw [List.size_toArray, htl]; exact hj), List.getElem?_toArray, List.getElem?_take, if_pos hj]
  obtain ⟨W1, hW1⟩ : ∃ W1, W1 = w.drew.alloc (.cells ROW 79) := ⟨_, rfl⟩
  rw [← hW1] at hrz
  have hN : ∀ j, j < (n + 1) * 7 → (W1.cell? ⟨w.heap.size, j, none⟩).isSome = true := fun j hj => by
    rw [hW1, World.cell?_alloc_at (w := w.drew) ROW _ w.heap.size j rfl, Array.getElem?_eq_getElem (by omega)]; rfl
  have hNf : ∀ j, W1.frozen? ⟨w.heap.size, j, none⟩ = false := fun j => by rw [hW1]; exact World.frozen?_alloc_at (w := w.drew) ROW _ w.heap.size j rfl
  have hOb : ∀ j v, w.cell? ⟨b, j, none⟩ = some v → W1.cell? ⟨b, j, none⟩ = some v := fun j v h => by rw [hW1, World.cell?_alloc_past (w := w.drew) _ b j hbw]; exact h
  have hOv : ∀ j v, w.cell? ⟨vb, j, none⟩ = some v → W1.cell? ⟨vb, j, none⟩ = some v := fun j v h => by rw [hW1, World.cell?_alloc_past (w := w.drew) _ vb j hvw]; exact h
  have hcpA : ∀ (W : World), (∀ x, W.cell? x = W1.cell? x) → (∀ x, W.frozen? x = W1.frozen? x) → ∀ ty dc, (Builtin.copy_ #[75, 75] ty #[.slice (some ⟨w.heap.size, i * 7, none⟩) (n + 1 - i) dc, .slice (some ⟨vb, voff, none⟩) 1 vc]).run Try.prog W = .ok (goInt 1) (W.setCells w.heap.size (i * 7) vs) := fun W hWc hWf ty dc =>
    run_copy_k W _ _ ty 79 7 w.heap.size (i * 7) (n + 1 - i) dc ⟨vb, voff, none⟩ 1 vc vs Try.underlying75 hsz 1 (by simp only [Nat.min_def]; split <;> omega) (by rw [hvl])
      (fun j v hj => by rw [Addr.add_lit, hWc]; exact hOv _ v (hvs j v hj))
      (fun j hj => by rw [hWc]; exact hN _ (by rw [hvl] at hj; omega)) (fun j hj => by rw [hWf]; exact hNf _) h1v
  have hGi : ¬ (G = i) := by omega
  have hGim : ¬ (G = i + 1) := by omega
  have hci : ¬ (c = i) := by omega
  have hbN : b ≠ w.heap.size := by omega
  have hdl : (cs.drop (i * 7)).length = (n - i) * 7 := by rw [List.length_drop, hcl, Nat.sub_mul]
  have hcpB : ∀ (W : World), (∀ x, W.cell? x = (W1.setCells w.heap.size (i * 7) vs).cell? x) → (∀ x, W.frozen? x = (W1.setCells w.heap.size (i * 7) vs).frozen? x) → ∀ ty dc sc, (Builtin.copy_ #[75, 75] ty #[.slice (some ⟨w.heap.size, (i + 1) * 7, none⟩) (n - i) dc, .slice (some ⟨b, off + i * 7, none⟩) (n - i) sc]).run Try.prog W = .ok (goInt ((n - i : Nat) : Int)) (W.setCells w.heap.size ((i + 1) * 7) (cs.drop (i * 7))) := fun W hWc hWf ty dc sc =>
    run_copy_k W _ _ ty 79 7 w.heap.size ((i + 1) * 7) (n - i) dc ⟨b, off + i * 7, none⟩ (n - i) sc (cs.drop (i * 7)) Try.underlying75 hsz (n - i) (by simp only [Nat.min_def]; split <;> omega) hdl
      (fun j v hj => by
        rw [Addr.add_lit, hWc, World.cell?_setCells_out _ _ _ _ _ (fun h _ => absurd h hbN), Nat.add_assoc]
        exact hOb _ v (hcs (i * 7 + j) v (by rwa [List.getElem?_drop] at hj)))
      (fun j hj => by rw [hWc]; exact isSome_setCells _ _ _ _ (fun t ht => hN _ (by rw [hvl] at ht; omega)) _ (hN _ (by rw [hdl] at hj; omega)))
      (fun j hj => by rw [hWf, World.frozen?_setCells]; exact hNf _) (fun v hv => h1c v (List.mem_of_mem_drop hv))
  subst hW1
  have hE1 : ∀ x, ((w.alloc (.cells ROW 79)).drew).cell? x = (w.drew.alloc (.cells ROW 79)).cell? x := fun x => rfl
  have hE2 : ∀ x, ((w.alloc (.cells ROW 79)).drew).frozen? x = (w.drew.alloc (.cells ROW 79)).frozen? x := fun x => rfl
  have hF1 : ∀ x, (((w.alloc (.cells ROW 79)).drew.setCells w.heap.size (i * 7) vs).drew).cell? x = ((w.drew.alloc (.cells ROW 79)).setCells w.heap.size (i * 7) vs).cell? x := fun x => rfl
  have hF2 : ∀ x, (((w.alloc (.cells ROW 79)).drew.setCells w.heap.size (i * 7) vs).drew).frozen? x = ((w.drew.alloc (.cells ROW 79)).setCells w.heap.size (i * 7) vs).frozen? x := fun x => rfl
  have hw1 : IntKind.i64.wrap ((i : Int) + 1) = (i : Int) + 1 := by rw [IntKind.wrap_i64]; omega
  have hw2 : IntKind.i64.wrap ((n : Int) + 1) = (n : Int) + 1 := by rw [IntKind.wrap_i64]; omega
  have hb1 : (0 : Int) ≤ (i : Int) + 1 := by omega
  have hin : i ≤ n := by omega
  have htn : ((i : Int) + 1).toNat = i + 1 := by omega
  have hb3 : (i : Int) ≤ (n : Int) := by omega
  have mixed := mixed
  clear hkk hik hold hROW hG hRs
  go_enter Try.func91, Try.ntmps91
  go_wp2_with (first
    | (at_builtin; refine Lib.wpList_append_run _ rfl _ _ _ _ rfl _ _ rfl rfl _ _ (hrz _) ?_)
    | (at_builtin; refine wpList_copy_runI _ rfl _ _ 75 75 rfl _ _ rfl rfl (hcpA _ hE1 hE2 _ _) ?_)
    | (at_builtin; refine wpList_copy_runI _ rfl _ _ 75 75 rfl _ _ rfl rfl (hcpB _ (fun _ => rfl) (fun _ => rfl) _ _ _) ?_))
  go_region_law_o (refine step_copy_runI rfl _ _ 75 75 rfl (.slice (some ⟨w.heap.size, (i + 1) * 7, none⟩) (n - i) (G - (i + 1))) (.slice (some ⟨b, off + i * 7, none⟩) (n - i) (c - i)) (by simp [Act.eval, Act.put]) (by simp [Act.eval, Act.put]) (hcpB _ hF1 hF2 3 (G - (i + 1)) (c - i)) ?_)
  go_wp2
  go_ret
  exact ⟨rfl, rfl⟩
end Go.Rk
/- slices.Insert of one element: what it answers. -/
namespace Go.Rk
set_option linter.unusedSimpArgs false
set_option linter.unusedVariables false
open Go Go.Proofs
theorem env_of {w w' : World} (h : w'.os = w.os ∧ w'.output = w.output ∧ w'.tape = w.tape) : Env w w' := h
/-- The cells that lie one behind the other. -/
def cutOf (A : Array Value) (o k : Nat) : List Value := (A.toList.drop o).take k
theorem cutOf_len {A : Array Value} {o k : Nat} (h : o + k ≤ A.size) : (cutOf A o k).length = k := by
  unfold cutOf
  rw [List.length_take, List.length_drop, Array.length_toList]
  omega
theorem cutOf_at {A : Array Value} {o k j : Nat} : (cutOf A o k)[j]? = if j < k then A[o + j]? else none := by
  unfold cutOf
  rw [List.getElem?_take]
  split
  · rw [List.getElem?_drop, Array.getElem?_toList]
  · rfl
theorem cell_of {w : World} {b : Nat} {A : Array Value} {e : TypeId} {fr : Nat × Nat} (h : w.heap[b]? = some (.cells A e fr)) (j : Nat) : w.cell? ⟨b, j, none⟩ = A[j]? := by
  simp [World.cell?, h]
theorem frozen_of {w : World} {b : Nat} {A : Array Value} {e : TypeId} (h : w.heap[b]? = some (.cells A e (0, 0))) (j : Nat) : w.frozen? ⟨b, j, none⟩ = false := by
  simp [World.frozen?, h]
/-- Rows of so many cells, one put between. -/
theorem ins_rows {w : World} {N : Nat → Prop} {n i base base' vo : Nat} {A B C : Array Value} {row row1 R : Nat → List DV}
    (hi : i ≤ n) (hl : ∀ k, k < n → (row k).length = 7) (hl1 : (row1 0).length = 7)
    (hA : ∀ k j x, k < n → (row k)[j]? = some x → ∃ u, A[base + k * 7 + j]? = some u ∧ DRep w N x u)
    (hB : ∀ j x, (row1 0)[j]? = some x → ∃ u, B[vo + j]? = some u ∧ DRep w N x u)
    (c1 : ∀ k j, k < i → j < 7 → C[base' + k * 7 + j]? = A[base + k * 7 + j]?)
    (c2 : ∀ j, j < 7 → C[base' + i * 7 + j]? = B[vo + j]?)
    (c3 : ∀ k j, i ≤ k → k < n → j < 7 → C[base' + (k + 1) * 7 + j]? = A[base + k * 7 + j]?)
    (hR : ∀ k, k < n + 1 → R k = if k < i then row k else if k = i then row1 0 else row (k - 1)) :
    (∀ k, k < n + 1 → (R k).length = 7) ∧ ∀ k j x, k < n + 1 → (R k)[j]? = some x → ∃ u, C[base' + k * 7 + j]? = some u ∧ DRep w N x u := by
  have hlen : ∀ k, k < n + 1 → (R k).length = 7 := fun k hk => by
    rw [hR k hk]
    split
    · exact hl k (by omega)
    · split
      · exact hl1
      · exact hl (k - 1) (by omega)
  refine ⟨hlen, fun k j x hk hj => ?_⟩
  have hj7 : j < 7 := by rw [← hlen k hk]; exact (List.getElem?_eq_some_iff.1 hj).1
  rw [hR k hk] at hj
  split at hj
  · rename_i h
    rw [c1 k j h hj7]
    exact hA k j x (by omega) hj
  · split at hj
    · rename_i h
      subst h
      rw [c2 j hj7]
      exact hB j x hj
    · rename_i h1 h2
      have e : k = (k - 1) + 1 := by omega
      rw [e, c3 (k - 1) j (by omega) (by omega) hj7]
      exact hA (k - 1) j x (by omega) hj
theorem c_Insert (n i : Nat) (hn : n ≤ 1100000) (hi : i ≤ n) (row row1 R : Nat → List DV) (hR : ∀ k, k < n + 1 → R k = if k < i then row k else if k = i then row1 0 else row (k - 1)) :
    Meets Try.prog 91 [.c (.own 7 n row), .c (.d (eI i)), .c (.own 7 1 row1)] ⟨.one (.c (.own 7 (n + 1) R)), [none, none, none]⟩ := by
  by_cases hin : i = n
  · subst hin
    refine ins_end i hn row (row1 0) row1 rfl R fun k hk => ?_
    rw [hR k hk]
    by_cases h : k < i
    · rw [if_pos h, if_pos h]
    · rw [if_neg h, if_neg h, if_pos (by omega)]
  have hlt : i < n := by omega
  refine ⟨by kernel_rfl, fun w vals F N hx hF hFN hN => ?_⟩
  obtain ⟨v0, vals, rfl⟩ : ∃ v0 r, vals = v0 :: r := by cases vals with | nil => exact hx.elim | cons a r => exact ⟨a, r, rfl⟩
  obtain ⟨v1, vals, rfl⟩ : ∃ v0 r, vals = v0 :: r := by cases vals with | nil => obtain ⟨_, _, _, _, h⟩ := hx; exact h.elim | cons a r => exact ⟨a, r, rfl⟩
  obtain ⟨v2, vals, rfl⟩ : ∃ v0 r, vals = v0 :: r := by cases vals with | nil => obtain ⟨_, _, _, _, _, _, _, _, h⟩ := hx; exact h.elim | cons a r => exact ⟨a, r, rfl⟩
  obtain ⟨F1, F', rfl, h0, F2, F'', rfl, h1, F3, F4, rfl, h2, h3⟩ := hx
  obtain rfl : vals = [] := by cases vals with | nil => rfl | cons a r => exact h3.elim
  have h3 : F4 = [] := h3
  subst h3
  obtain ⟨h1a, h1⟩ := h1
  subst h1a
  obtain ⟨hl, h0⟩ := h0
  rcases h0 with ⟨h0, _⟩ | ⟨b, base, cap, A, e, rfl, rfl, hcp, hnc, hb, hsz, hA⟩
  · omega
  obtain ⟨hl1, h2⟩ := h2
  rcases h2 with ⟨h2, _⟩ | ⟨vb, vo, vc, B, e2, rfl, rfl, hvp, h1c, hvb, hvsz, hB⟩
  · omega
  cases h1
  simp only [List.nil_append, List.append_nil, List.cons_append] at hF hFN ⊢
  have hne : vb ≠ b := by
    intro h
    simp only [List.nodup_cons, List.mem_cons, List.not_mem_nil, or_false] at hF
    exact hF.1 h.symm
  have hbN : ∀ x, N x → x ≠ b ∧ x ≠ vb := fun x hx => ⟨fun h => (hFN b (by simp)).2 (h ▸ hx), fun h => (hFN vb (by simp)).2 (h ▸ hx)⟩
  have hbw : b < w.heap.size := (hFN b (by simp)).1
  have hvw : vb < w.heap.size := (hFN vb (by simp)).1
  have hsA : base + n * 7 ≤ A.size := Nat.le_trans (Nat.add_le_add_left (Nat.mul_le_mul_right 7 hnc) base) hsz
  have hsB : vo + 7 ≤ B.size := by omega
  obtain ⟨cs, hcs⟩ : ∃ cs, cs = cutOf A base (n * 7) := ⟨_, rfl⟩
  obtain ⟨vs, hvs⟩ : ∃ vs, vs = cutOf B vo 7 := ⟨_, rfl⟩
  have hcl : cs.length = n * 7 := by rw [hcs]; exact cutOf_len hsA
  have hvl : vs.length = 7 := by rw [hvs]; exact cutOf_len hsB
  have hca : ∀ j v, cs[j]? = some v → w.cell? ⟨b, base + j, none⟩ = some v := fun j v h => by
    rw [hcs, cutOf_at] at h
    split at h
    · rw [cell_of hb]; exact h
    · cases h
  have hva : ∀ j v, vs[j]? = some v → w.cell? ⟨vb, vo + j, none⟩ = some v := fun j v h => by
    rw [hvs, cutOf_at] at h
    split at h
    · rw [cell_of hvb]; exact h
    · cases h
  have h1A : ∀ v ∈ cs, v.oneCell' = true := fun v hv => by
    obtain ⟨j, hj⟩ := List.mem_iff_getElem?.1 hv
    rw [hcs, cutOf_at] at hj
    split at hj
    · rename_i hjn
      have hk : j / 7 < n := Nat.div_lt_of_lt_mul (by omega)
      have hr := hl (j / 7) hk
      obtain ⟨x, hx⟩ : ∃ x, (row (j / 7))[j % 7]? = some x := ⟨_, List.getElem?_eq_getElem (by rw [hr]; exact Nat.mod_lt _ (by decide))⟩
      obtain ⟨u, hu, hd⟩ := hA (j / 7) (j % 7) x hk hx
      rw [show base + j / 7 * 7 + j % 7 = base + j by omega, hj] at hu
      cases hu
      exact hd.one
    · cases hj
  have h1B : ∀ v ∈ vs, v.oneCell' = true := fun v hv => by
    obtain ⟨j, hj⟩ := List.mem_iff_getElem?.1 hv
    rw [hvs, cutOf_at] at hj
    split at hj
    · rename_i hjn
      obtain ⟨x, hx⟩ : ∃ x, (row1 0)[j]? = some x := ⟨_, List.getElem?_eq_getElem (by rw [hl1 0 (by omega)]; exact hjn)⟩
      obtain ⟨u, hu, hd⟩ := hB 0 j x (by omega) hx
      rw [show vo + 0 * 7 + j = vo + j by omega, hj] at hu
      cases hu
      exact hd.one
    · cases hj
  have hBr : ∀ j x, (row1 0)[j]? = some x → ∃ u, B[vo + j]? = some u ∧ DRep w N x u := fun j x hj => by
    have := hB 0 j x (by omega) hj
    rw [show vo + 0 * 7 + j = vo + j by omega] at this
    exact this
  have hcsA : ∀ j, j < n * 7 → cs[j]? = A[base + j]? := fun j hj => by rw [hcs, cutOf_at, if_pos hj]
  have hvsB : ∀ j, j < 7 → vs[j]? = B[vo + j]? := fun j hj => by rw [hvs, cutOf_at, if_pos hj]
  have hdl : (cs.drop (i * 7)).length = (n - i) * 7 := by rw [List.length_drop, hcl, Nat.sub_mul]
  by_cases hroom : n + 1 ≤ cap
  · -- in place
    have hsC : base + (n + 1) * 7 ≤ A.size := Nat.le_trans (Nat.add_le_add_left (Nat.mul_le_mul_right 7 hroom) base) hsz
    refine (ins_shift b base n cap i vb vo vc cs vs w hlt hroom hn hne hcl hvl hca (fun j hj => by rw [cell_of hb, Array.getElem?_eq_getElem (by omega)]; rfl) (fun j hj => frozen_of hb _) hva h1A h1B e2 e B.size A.size (by simp [World.shape?, hvb]) (by simp [World.shape?, hb]) (by omega) (frozen_of hvb _) (frozen_of hvb _)).mono ?_
    rintro ee w' ⟨rfl, rfl⟩
    have hbd : w.drew.heap[b]? = some (.cells A e (0, 0)) := hb
    obtain ⟨C1, g1, g2, g3, g4, g5⟩ := setCells_at b (cs.drop (i * 7)) (base + (i + 1) * 7) w.drew A e (0, 0) hbd (by rw [hdl]; omega)
    obtain ⟨C, k1, k2, k3, k4, k5⟩ := setCells_at b vs (base + i * 7) _ C1 e (0, 0) g1 (by rw [hvl, g2]; omega)
    have hoth : ∀ x, x ≠ b → ((w.drew.setCells b (base + (i + 1) * 7) (cs.drop (i * 7))).setCells b (base + i * 7) vs).heap[x]? = w.heap[x]? := fun x hx => by
      rw [setCells_other b _ _ _ x hx, setCells_other b _ _ _ x hx]; rfl
    have hsize : ((w.drew.setCells b (base + (i + 1) * 7) (cs.drop (i * 7))).setCells b (base + i * 7) vs).heap.size = w.heap.size := by rw [setCells_size, setCells_size]; rfl
    obtain ⟨q1, q2⟩ := ins_rows (w := w) (N := N) (n := n) (i := i) (base := base) (base' := base) (vo := vo) (A := A) (B := B) (C := C) hi hl (hl1 0 (by omega)) hA hBr
      (fun k j hk hj => by rw [k3 _ (by omega), g3 _ (by omega)])
      (fun j hj => by rw [k4 j (by rw [hvl]; exact hj), hvsB j hj])
      (fun k j hk1 hk2 hj => by
        rw [k5 _ (by rw [hvl]; omega), show base + (k + 1) * 7 + j = base + (i + 1) * 7 + ((k - i) * 7 + j) by omega, g4 _ (by rw [hdl]; omega), List.getElem?_drop, hcsA _ (by omega)]
        congr 1
        omega) hR
    refine ⟨_, [b], [], rfl, ?_, by rw [hsize]; exact Nat.le_refl _, fun x hx hxF => hoth x fun h => hxF (by rw [h]; simp), fun x xs xe xf hx => ?_, fun x hx => ?_, by simp, ?_, ?_⟩
    · have e1 := setCells_env b vs (base + i * 7) (w.drew.setCells b (base + (i + 1) * 7) (cs.drop (i * 7)))
      have e2 := setCells_env b (cs.drop (i * 7)) (base + (i + 1) * 7) w.drew
      exact ⟨e1.1.trans e2.1, e1.2.1.trans e2.2.1, e1.2.2.trans e2.2.2⟩
    · by_cases hxb : x = b
      · subst hxb
        rw [hb] at hx
        cases hx
        exact ⟨C, k1, by rw [k2, g2]⟩
      · exact ⟨xs, by rw [hoth x hxb]; exact hx, rfl⟩
    · have hx : x = b := by simpa using hx
      subst hx
      exact ⟨by rw [hsize]; exact hbw, .inl (by simp)⟩
    · refine ⟨q1, .inr ⟨b, base, cap, C, e, rfl, rfl, hcp, hroom, k1, by rw [k2, g2]; exact hsz, fun k j x hk hj => ?_⟩⟩
      obtain ⟨u, hu, hd⟩ := q2 k j x hk hj
      exact ⟨u, hu, hd.carry fun x hx => ⟨hoth x (hbN x hx).1, by rw [hsize]; exact hN x hx, by simpa using (hbN x hx).1, .inl hx⟩⟩
    · rfl
  · -- a new row
    obtain ⟨ROW, hRs, hR1, hGn, hc⟩ := ins_grow b base n cap i vb vo vc cs vs w hlt hnc (by omega) (by omega) hcl hvl hca hva h1A h1B
    refine hc.mono ?_
    rintro ee w' ⟨rfl, rfl⟩
    obtain ⟨Gc, hGc⟩ : ∃ G, G = grownCap w (n + 1) cap 79 := ⟨_, rfl⟩
    rw [← hGc] at hRs hGn ⊢
    have hnw : (w.alloc (.cells ROW 79)).drew.heap[w.heap.size]? = some (.cells ROW 79 (0, 0)) := by
      show (w.heap.push _)[w.heap.size]? = _
      rw [Array.getElem?_push_size]
    obtain ⟨C1, g1, g2, g3, g4, g5⟩ := setCells_at w.heap.size vs (i * 7) _ ROW 79 (0, 0) hnw (by rw [hvl]; omega)
    have g1' : (((w.alloc (.cells ROW 79)).drew.setCells w.heap.size (i * 7) vs).drew).heap[w.heap.size]? = some (.cells C1 79 (0, 0)) := g1
    obtain ⟨C, k1, k2, k3, k4, k5⟩ := setCells_at w.heap.size (cs.drop (i * 7)) ((i + 1) * 7) _ C1 79 (0, 0) g1' (by rw [hdl, g2]; omega)
    obtain ⟨w', hw'⟩ : ∃ w', w' = (((w.alloc (.cells ROW 79)).drew.setCells w.heap.size (i * 7) vs).drew).setCells w.heap.size ((i + 1) * 7) (cs.drop (i * 7)) := ⟨_, rfl⟩
    have hoth : ∀ x, x < w.heap.size → w'.heap[x]? = w.heap[x]? := fun x hx => by
      rw [hw', setCells_other _ _ _ _ x (by omega)]
      show ((w.alloc (.cells ROW 79)).drew.setCells w.heap.size (i * 7) vs).heap[x]? = _
      rw [setCells_other _ _ _ _ x (by omega)]
      show (w.heap.push _)[x]? = _
      rw [Array.getElem?_push, if_neg (by omega)]
    have hsize : w'.heap.size = w.heap.size + 1 := by
      rw [hw', setCells_size]
      show ((w.alloc (.cells ROW 79)).drew.setCells w.heap.size (i * 7) vs).heap.size = _
      rw [setCells_size]
      show (w.heap.push _).size = _
      rw [Array.size_push]
    have henv : Env w w' := by
      have e1 := setCells_env w.heap.size (cs.drop (i * 7)) ((i + 1) * 7) (((w.alloc (.cells ROW 79)).drew.setCells w.heap.size (i * 7) vs).drew)
      have e2 := setCells_env w.heap.size vs (i * 7) ((w.alloc (.cells ROW 79)).drew)
      rw [hw']
      exact ⟨e1.1.trans e2.1, e1.2.1.trans e2.2.1, e1.2.2.trans e2.2.2⟩
    rw [← hw'] at k1 ⊢
    obtain ⟨q1, q2⟩ := ins_rows (w := w) (N := N) (n := n) (i := i) (base := base) (base' := 0) (vo := vo) (A := A) (B := B) (C := C) hi hl (hl1 0 (by omega)) hA hBr
      (fun k j hk hj => by rw [k3 _ (by omega), g3 _ (by omega), hR1 _ (by omega), hcsA _ (by omega)]; congr 1; omega)
      (fun j hj => by rw [k3 _ (by omega), Nat.zero_add, g4 j (by rw [hvl]; exact hj), hvsB j hj])
      (fun k j hk1 hk2 hj => by
        rw [show 0 + (k + 1) * 7 + j = (i + 1) * 7 + ((k - i) * 7 + j) by omega, k4 _ (by rw [hdl]; omega), List.getElem?_drop, hcsA _ (by omega)]
        congr 1
        omega) hR
    refine ⟨_, [w.heap.size], [], rfl, henv, by rw [hsize]; omega, fun x hx _ => hoth x hx, fun x xs xe xf hx => ⟨xs, by rw [hoth x (Array.getElem?_eq_some_iff.1 hx).1]; exact hx, rfl⟩, fun x hx => ?_, by simp, ?_, ?_⟩
    · have hx : x = w.heap.size := by simpa using hx
      subst hx
      exact ⟨by rw [hsize]; omega, .inr (Nat.le_refl _)⟩
    · refine ⟨q1, .inr ⟨w.heap.size, 0, Gc, C, 79, rfl, rfl, by omega, hGn, k1, by rw [k2, g2, hRs]; omega, fun k j x hk hj => ?_⟩⟩
      obtain ⟨u, hu, hd⟩ := q2 k j x hk hj
      exact ⟨u, hu, hd.carry fun x hx => ⟨hoth x (hN x hx), by have := hN x hx; rw [hsize]; omega, by have := hN x hx; simp; omega, .inl hx⟩⟩
    · rfl
end Go.Rk
/- Tables: put. -/
namespace Go.Rk
set_option linter.unusedSimpArgs false
set_option linter.unusedVariables false
open Go.Proofs
set_option maxRecDepth 100000
set_option maxHeartbeats 1000000
open Classical in
set_option maxRecDepth 100000 in
theorem c_Put1 (s r : TabT) : ∃ b, (b = true ↔ Ahead r s) ∧ Meets Try.prog 89 [xd (eTab s), .c (.d (.p (eTab r)))] ⟨.one (.c (.d (eB b))), [none, none]⟩ := by
  obtain ⟨b, hb⟩ : ∃ b, b = decide (Ahead r s) := ⟨_, rfl⟩
  refine ⟨b, by rw [hb, decide_eq_true_eq], ?_⟩
  refine meets_of (H := []) (EX := EXA) ttok mixed Try.func89 rfl (by kernel_rfl) (by decide) ?_
  generalize hA : real = A
  generalize hM : Meets Try.prog = M
  cbv
  repeat' first
    | apply And.intro
    | exact True.intro
    | with_reducible rfl
    | exact same_of hA rfl
    | refine br_of hA (fun _ => ?_) (fun _ => ?_)
    | exact imp_of hA id
    | (refine imp_of hA ?_; subst hA; simp only [real, Bool.true_and]; exact id)
    | (refine ind_of hA ?_; decide +kernel)
    | (refine call_ex hA hM (c_tcompare _ _) (fun _ _ => ?_); cbv)
  all_goals obtain ⟨k, ⟨s, e⟩, ag⟩ := s; obtain ⟨k2, ⟨s2, e2⟩, ag2⟩ := r
  all_goals subst hA
  all_goals refine congrArg (fun b => XA.one (.c (.d (eB b)))) (Bool.eq_iff_iff.2 ?_)
  all_goals subst_vars
  all_goals simp only [real, bifA, bifB, bifC, bifD, beqB, decide_eq_true_eq, decide_eq_false_iff_not, beqI, bneI, beqIF, bneIF, ne_eq, Bool.and_eq_true, Bool.or_eq_true, Bool.not_eq_true', Bool.not_eq_false', Bool.and_eq_false_iff, Bool.or_eq_false_iff, Bool.false_eq_true, and_false, false_and, or_false, false_or, and_true, true_and, not_true_eq_false, not_false_eq_true, true_iff, false_iff, IntKind.wrap_i64, Ahead, WinOkP, AggOkP] at *
  all_goals first | omega | exact (@decide_eq_true_iff _ _).symm | (refine Iff.trans ?_ (@decide_eq_true_iff _ _).symm; omega)
def stIxTab1 (n : Nat) (g : Nat → TabT) (F : FuncId) (c0 : DV) (i : Nat) : St := ⟨[(8, .c (.d (eI i))), (7, .c (.d (eI n))), (0, .c (.d (.sl 7 n fun i => eTab (g i)))), (1, .c (.d (.fn F [c0])))], []⟩
set_option maxRecDepth 100000 in
theorem c_IndexTab1 (n : Nat) (hn : n ≤ maxLen) (g : Nat → TabT) (F : FuncId) (c0 : DV) (Q : TabT → Prop) (hc : ∀ r, ∃ b, (b = true ↔ Q r) ∧ Meets Try.prog F [xd (eTab r), .c (.d c0)] ⟨.one (.c (.d (eB b))), [none, none]⟩) : ∃ x, FirstIx n (fun i => Q (g i)) x ∧ Meets Try.prog 88 [.c (.d (.sl 7 n fun i => eTab (g i))), .c (.d (.fn F [c0]))] ⟨.one (.c (.d (eI x))), [none, none]⟩ := by
  obtain ⟨x, hx⟩ := firstIx_ex n fun i => Q (g i)
  refine ⟨x, hx, ?_⟩
  refine meets_of (H := []) (EX := EXA) ttok mixed Try.func88 rfl (by kernel_rfl) (by decide) ?_
  generalize hA : real = A
  generalize hM : Meets Try.prog = M
  cbv
  repeat' first
    | apply And.intro
    | exact True.intro
    | with_reducible rfl
    | exact same_of hA rfl
    | refine br_of hA (fun _ => ?_) (fun _ => ?_)
    | exact imp_of hA id
    | (refine imp_of hA ?_; subst hA; simp only [real, Bool.true_and]; exact id)
    | (refine ind_of hA ?_; decide +kernel)
  refine loop_of hA (α := { i : Nat // i ≤ n ∧ ∀ j, j < i → ¬ Q (g j) }) (fun x => stIxTab1 n g F c0 x.1) (fun x => n - x.1) ⟨0, Nat.zero_le _, fun j h => absurd h (Nat.not_lt_zero _)⟩ ?_ ?_
  · refine cov_of ?_ ?_ ?_
    · cbv; subst hA; exact ⟨rfl, rfl, trivial⟩
    · cbv
    · cbv
  rintro ⟨i, hi, hb⟩
  cbv
  repeat' first
    | apply And.intro
    | exact True.intro
    | with_reducible rfl
    | exact same_of hA rfl
    | refine br_of hA (fun _ => ?_) (fun _ => ?_)
    | exact imp_of hA id
    | (refine imp_of hA ?_; subst hA; simp only [real, Bool.true_and]; exact id)
    | (refine ind_of hA ?_; decide +kernel)
    | (refine inb_of hA fun _ => ?_; subst hA; simp only [real, decide_eq_true_eq, Int.ofNat_eq_natCast] at *; omega)
  · refine call_ex hA hM (hc (g (A.nat (Int.ofNat i)))) (fun b hbb => ?_)
    cbv
    repeat' first
      | apply And.intro
      | exact True.intro
      | with_reducible rfl
      | exact same_of hA rfl
      | refine br_of hA (fun _ => ?_) (fun _ => ?_)
      | exact imp_of hA id
      | (refine imp_of hA ?_; subst hA; simp only [real, Bool.true_and]; exact id)
      | (refine ind_of hA ?_; decide +kernel)
    · rename_i hlt ht
      subst hA
      simp only [real, decide_eq_true_eq, Int.ofNat_eq_natCast, Int.toNat_natCast] at *
      obtain rfl := firstIx_one hx (.at i (by omega) (hbb.1 ht) hb)
      rfl
    · rename_i hlt ht
      have hlt' : i < n := by subst hA; simp only [real, decide_eq_true_eq, Int.ofNat_eq_natCast] at hlt; omega
      refine ⟨⟨i + 1, by omega, fun j hj => ?_⟩, by simp only; omega, cov_of ?_ ?_ ?_⟩
      · by_cases e : j = i
        · subst e
          subst hA
          intro hq
          have := hbb.2 hq
          rw [ht] at this
          cases this
        · exact hb j (by omega)
      · cbv
        subst hA
        exact ⟨congrArg (fun x => DV.v (.int .i64 x)) (up64 hlt' hn), trivial⟩
      · cbv
      · cbv
  · subst hA
    simp only [real, decide_eq_false_iff_not, Int.ofNat_eq_natCast] at *
    obtain rfl := firstIx_one hx (.none fun j hj => hb j (by omega))
    rfl
theorem flat_tab {A : Ar} (hA : real = A) (n : Nat) (G : Nat → TabT) : A.flat n (fun i => eTab (G i)) := by
  subst hA
  intro i _ x hx
  simp only [eTab, List.mem_cons, List.not_mem_nil, or_false] at hx
  rcases hx with rfl | rfl | rfl | rfl | rfl | rfl | rfl <;> exact ⟨_, rfl⟩
def EXI : FuncId → List Nat × Bool := fun f => (if f = 91 then [0, 2] else [], false)
theorem c_Put (l : List TabT) (n : Nat) (g : Nat → TabT) (hl : Lst zTab l n g) (hn : n ≤ 1090000) (r : TabT) (n1 : Nat) (G : Nat → TabT) (h1 : Lst zTab (tPut r l) n1 G) : Meets Try.prog 41 [.c (.d (.sl 7 n fun i => eTab (g i))), xd (eTab r)] ⟨.one (.c (.own 7 n1 fun i => eTab (G i))), [none, none]⟩ := by
  obtain ⟨n0, hn0⟩ : ∃ n0, n0 = (tOut r.key r.win l).length := ⟨_, rfl⟩
  obtain ⟨G0, hG0⟩ : ∃ G0 : Nat → TabT, G0 = fun k => (tOut r.key r.win l).getD k zTab := ⟨_, rfl⟩
  have h0 : Lst zTab (tOut r.key r.win l) n0 G0 := ⟨hn0, fun k _ => by rw [hG0]⟩
  have hn0n : n0 ≤ n := by rw [hn0, hl.1]; exact tOut_len _ _ _
  have hO := c_Out l n g hl (by omega) r.key r.win n0 G0 h0
  obtain ⟨x, hx, hX⟩ := c_IndexTab1 n0 (Nat.le_trans (show n0 ≤ 1090000 by omega) (by decide)) G0 89 (.p (eTab r)) (Ahead r) (fun s => c_Put1 s r)
  have hxx := firstIx_neg hx
  obtain ⟨i, hi⟩ : ∃ i : Nat, i = if 0 ≤ x then x.toNat else n0 := ⟨_, rfl⟩
  have hi2 : i ≤ n0 ∧ (∀ k, k < i → ¬ Ahead r (G0 k)) ∧ (i < n0 → Ahead r (G0 i)) ∧ (0 ≤ x → x = (i : Int)) ∧ (¬ 0 ≤ x → i = n0) := by
    by_cases h : 0 ≤ x
    · rw [if_pos h] at hi
      obtain ⟨q, hq1, hq2, hq3, hq4⟩ := hxx.2.1 h
      have e : i = q := by rw [hi, hq2]; rfl
      rw [e]
      exact ⟨by omega, hq4, fun _ => hq3, fun _ => hq2, fun hc => absurd h hc⟩
    · rw [if_neg h] at hi
      rw [hi]
      refine ⟨Nat.le_refl _, fun k hk ha => h (hxx.1.2 ⟨k, hk, ha⟩), fun hc => absurd hc (Nat.lt_irrefl _), fun hc => absurd hc h, fun _ => rfl⟩
  obtain ⟨hi0, ha, hb, hx1, hx2⟩ := hi2
  obtain ⟨e1, hG⟩ := tIns_lst h0 h1 hi0 ha hb
  have hIn : ∀ row1 : Nat → List DV, row1 0 = eTab r → Meets Try.prog 91 [.c (.own 7 n0 fun k => eTab (G0 k)), .c (.d (eI i)), .c (.own 7 1 row1)] ⟨.one (.c (.own 7 n1 fun k => eTab (G k))), [none, none, none]⟩ := fun row1 hr1 => by
    rw [e1]
    refine c_Insert n0 i (by omega) hi0 _ row1 _ fun k hk => ?_
    show eTab (G k) = _
    rw [hG k hk]
    split
    · rfl
    · split
      · exact hr1.symm
      · rfl
  refine meets_of (H := []) (EX := EXI) ttok mixed Try.func41 rfl (by kernel_rfl) (by decide) ?_
  generalize hA : real = A
  generalize hM : Meets Try.prog = M
  cbv
  repeat' first
    | apply And.intro
    | exact True.intro
    | with_reducible rfl
    | exact same_of hA rfl
    | refine br_of hA (fun _ => ?_) (fun _ => ?_)
    | exact imp_of hA id
    | (refine imp_of hA ?_; subst hA; simp only [real, Bool.true_and]; exact id)
    | (refine ind_of hA ?_; decide +kernel)
    | (refine call_of hA hM _ hO ?_; cbv)
    | exact flat_tab hA _ _
    | (refine call_of2 hA hM _ hX (congrArg (fun f => [XT.c (.d (.sl 7 n0 f)), XT.c (.d (.fn 89 [.p (eTab r)]))]) (sub0 hA fun i => eTab (G0 i))) ?_; cbv)
  · rename_i hneg
    have hin : i = n0 := hx2 (by subst hA; exact Int.not_le.2 (of_decide_eq_true (show decide (x < 0) = true from hneg)))
    refine call_of2 hA hM _ (hIn _ ?_) (congrArg (fun z => [XT.c (.own 7 n0 fun k => eTab (G0 k)), XT.c (.d (eI z)), XT.c (.own 7 1 (A.app 1 (A.rep (eTab r)) (A.rep (eTab zTab))))]) (show A.int n0 = (i : Int) by subst hA; rw [hin]; rfl)) ?_
    · subst hA; rfl
    cbv
    repeat' first
      | apply And.intro
      | exact True.intro
      | with_reducible rfl
      | exact same_of hA rfl
      | refine br_of hA (fun _ => ?_) (fun _ => ?_)
      | exact imp_of hA id
      | (refine imp_of hA ?_; subst hA; simp only [real, Bool.true_and]; exact id)
      | (refine ind_of hA ?_; decide +kernel)
  · rename_i hneg
    have hin : x = (i : Int) := hx1 (by subst hA; exact Int.not_lt.1 (of_decide_eq_false (show decide (x < 0) = false from hneg)))
    refine call_of2 hA hM _ (hIn _ ?_) (congrArg (fun z => [XT.c (.own 7 n0 fun k => eTab (G0 k)), XT.c (.d (eI z)), XT.c (.own 7 1 (A.app 1 (A.rep (eTab r)) (A.rep (eTab zTab))))]) hin) ?_
    · subst hA; rfl
    cbv
    repeat' first
      | apply And.intro
      | exact True.intro
      | with_reducible rfl
      | exact same_of hA rfl
      | refine br_of hA (fun _ => ?_) (fun _ => ?_)
      | exact imp_of hA id
      | (refine imp_of hA ?_; subst hA; simp only [real, Bool.true_and]; exact id)
      | (refine ind_of hA ?_; decide +kernel)
end Go.Rk
/- Tables: sput. -/
namespace Go.Rk
set_option linter.unusedSimpArgs false
set_option linter.unusedVariables false
open Go.Proofs
set_option maxRecDepth 100000
set_option maxHeartbeats 1000000
theorem tells_snoc2 {α : Type} {z : α} {e : α → List DV} {l : List α} {n : Nat} {row row' : Nat → List DV} {x y : α} (h : Tells z e l n row)
    (h' : ∀ k, k < n + 1 + 1 → row' k = if k < n + 1 then (if k < n then row k else e x) else e y) : Tells z e (l ++ [x, y]) (n + 1 + 1) row' := by
  have := tells_snoc (row' := row') (x := y) (tells_snoc (row' := fun k => if k < n then row k else e x) (x := x) h fun k _ => rfl) h'
  rw [List.append_assoc] at this
  exact this
def st_sPut (r : TabT) (n0 : Nat) (G0 : Nat → TabT) (i : Nat) (d : Bool) (c : Nat) (row : Nat → List DV) : St := ⟨[(8, .c (.d (eI i))), (5, .c (.own 896 0 n0 1)), (6, .c (.own 960 0 c 1)), (7, .c (.d (eB d))), (3, .c (.bp 192 1 0))], [(192, 1, .box ((eTab r).map .d)), (896, 1, .arr 7 n0 fun i => eTab (G0 i)), (960, 1, .arr 7 c row)]⟩
theorem c_sPut (l : List TabT) (n : Nat) (g : Nat → TabT) (hl : Lst zTab l n g) (hn : n ≤ 1090000) (r : TabT) (n1 : Nat) (G : Nat → TabT) (h1 : Lst zTab (tPut r l) n1 G) : Meets Try.prog 38 [.c (.d (.sl 7 n fun i => eTab (g i))), xd (eTab r)] ⟨.one (.c (.own 7 n1 fun i => eTab (G i))), [none, none]⟩ := by
  obtain ⟨o, ho⟩ : ∃ o, o = tOut r.key r.win l := ⟨_, rfl⟩
  obtain ⟨n0, hn0⟩ : ∃ n0, n0 = o.length := ⟨_, rfl⟩
  obtain ⟨G0, hG0⟩ : ∃ G0 : Nat → TabT, G0 = fun k => o.getD k zTab := ⟨_, rfl⟩
  have h0 : Lst zTab o n0 G0 := ⟨hn0, fun k _ => by rw [hG0]⟩
  have hn0n : n0 ≤ n := by rw [hn0, hl.1, ho]; exact tOut_len _ _ _
  have hnL : n0 ≤ maxLen := Nat.le_trans (show n0 ≤ 1090000 by omega) (by decide)
  have hO := c_sOut l n g hl (by omega) r.key r.win n0 G0 (by rw [← ho]; exact h0)
  unfold tPut at h1
  rw [← ho] at h1
  have h1T := lst_tells eTab h1
  refine meets_of (H := [13]) (EX := EXA) ttok mixed Try.func38 rfl (by kernel_rfl) (by decide) ?_
  generalize hA : real = A
  generalize hM : Meets Try.prog = M
  cbv
  repeat' first
    | apply And.intro
    | exact True.intro
    | with_reducible rfl
    | exact same_of hA rfl
    | refine br_of hA (fun _ => ?_) (fun _ => ?_)
    | exact imp_of hA id
    | (refine imp_of hA ?_; subst hA; simp only [real, Bool.true_and]; exact id)
    | (refine ind_of hA ?_; decide +kernel)
    | (refine call_of hA hM _ hO ?_; cbv)
  refine loop_of hA (α := { q : Nat × Bool × Nat × (Nat → List DV) × List TabT // q.1 ≤ n0 ∧ Tells zTab eTab q.2.2.2.2 q.2.2.1 q.2.2.2.1 ∧ ∀ s, tIns r (o.take q.1 ++ s) = q.2.2.2.2 ++ (if q.2.1 = true then s else tIns r s) }) (fun y => st_sPut r n0 G0 y.1.1 y.1.2.1 y.1.2.2.1 y.1.2.2.2.1) (fun y => n0 - y.1.1) ⟨(0, false, 0, fun _ => [], []), Nat.zero_le _, ⟨rfl, fun k h => absurd h (Nat.not_lt_zero k)⟩, fun s => rfl⟩ ?_ ?_
  · refine cov_of ?_ ?_ ?_
    · cbv; try (subst hA; repeat' first | apply And.intro | exact True.intro | rfl)
    · cbv; try (subst hA; repeat' first | apply And.intro | exact True.intro | rfl | (intro _ _; rfl) | (intro k hk; exact absurd hk (Nat.not_lt_zero k)))
    · cbv; try (subst hA; repeat' first | apply And.intro | exact True.intro | rfl | exact .inr trivial)
  rintro ⟨⟨i, d, c, row, lo⟩, hi, hT, hs⟩
  have hi : i ≤ n0 := hi
  have hT : Tells zTab eTab lo c row := hT
  have hs : ∀ s, tIns r (o.take i ++ s) = lo ++ (if d = true then s else tIns r s) := hs
  have hci : c ≤ i + 1 := by
    have h := congrArg List.length (hs [])
    rw [List.append_nil, tIns_len, List.length_append, List.length_take, ← hn0] at h
    have := hT.1
    omega
  cbv
  repeat' first
    | apply And.intro
    | exact True.intro
    | with_reducible rfl
    | exact same_of hA rfl
    | refine br_of hA (fun _ => ?_) (fun _ => ?_)
    | exact imp_of hA id
    | (refine imp_of hA ?_; subst hA; simp only [real, Bool.true_and]; exact id)
    | (refine ind_of hA ?_; decide +kernel)
    | (refine call_ex hA hM (c_l5Ahead _ _ _ _ _ _) (fun _ _ => ?_); cbv)
    | (rename_i hlt; refine inb_of hA fun _ => ?_; subst hA; simp only [real, decide_eq_true_eq, Int.ofNat_eq_natCast] at *; omega)
    | (refine inb_of hA fun _ => ?_; subst hA; simp only [real, Bool.and_eq_true, Bool.not_eq_true', Bool.not_eq_false', decide_eq_true_eq, Int.ofNat_eq_natCast, IntKind.wrap_i64] at *; omega)
    | exact room_add2 hA (by omega) (by decide)
    | (refine room_add2 hA ?_ (by decide); subst hA; show c + 1 + 1 ≤ _; omega)
  · rename_i hlt bq hbq hc
    have hlt' := lt_of hA hlt
    rw [ix0 hA i] at hbq
    have hbq : bq = decide (Ahead r (G0 i)) := hbq
    have hc : d = false ∧ bq = true := by subst hA; have hc : (bif (!d) then bq else false) = true := hc; cases d <;> simp_all
    obtain ⟨rfl, hb⟩ := hc
    have hq : Ahead r (G0 i) := by rw [hb] at hbq; exact of_decide_eq_true hbq.symm
    refine ⟨⟨(i + 1, true, c + 1 + 1, fun q => if q < c + 1 then (if q < c then row q else eTab r) else eTab (G0 i), lo ++ [r, G0 i]), by simp only; omega, tells_snoc2 hT (fun _ _ => rfl), fun s => ?_⟩, by simp only; omega, cov_of ?_ ?_ ?_⟩
    · simp only
      rw [lst_take h0 hlt', List.append_assoc]
      show tIns r (o.take i ++ (G0 i :: s)) = _
      rw [hs (G0 i :: s)]
      show lo ++ (if Ahead r (G0 i) then r :: G0 i :: s else G0 i :: tIns r s) = (lo ++ [r, G0 i]) ++ s
      rw [if_pos hq, List.append_assoc]
      rfl
    · cbv
      subst hA
      repeat' first | apply And.intro | exact True.intro | exact congrArg (fun x => DV.v (.int .i64 x)) (up64 hlt' hnL) | rfl
    · cbv
      rw [ix0 hA i]
      subst hA
      repeat' first | apply And.intro | exact True.intro | rfl | (intro _ _; rfl)
      all_goals
        intro q hq
        refine (push_at rfl (c + 1) _ _ _ q hq).trans ?_
        by_cases h1 : q < c + 1
        · rw [if_pos h1, if_pos h1]
          exact push_at rfl _ _ _ _ q h1
        · rw [if_neg h1, if_neg h1]
          rfl
    · cbv; try (subst hA; repeat' first | apply And.intro | exact True.intro | rfl | exact .inr trivial)
  · rename_i hlt bq hbq hc
    have hlt' := lt_of hA hlt
    rw [ix0 hA i] at hbq
    have hbq : bq = decide (Ahead r (G0 i)) := hbq
    have hc : d = true ∨ bq = false := by subst hA; have hc : (bif (!d) then bq else false) = false := hc; cases d <;> simp_all
    have hq : d = true ∨ ¬ Ahead r (G0 i) := by
      rcases hc with h | h
      · exact .inl h
      · rw [h] at hbq; exact .inr (of_decide_eq_false hbq.symm)
    refine ⟨⟨(i + 1, d, c + 1, fun q => if q < c then row q else eTab (G0 i), lo ++ [G0 i]), by simp only; omega, tells_snoc hT (fun _ _ => rfl), fun s => ?_⟩, by simp only; omega, cov_of ?_ ?_ ?_⟩
    · simp only
      rw [lst_take h0 hlt', List.append_assoc]
      show tIns r (o.take i ++ (G0 i :: s)) = _
      rw [hs (G0 i :: s)]
      by_cases hd : d = true
      · rw [if_pos hd, if_pos hd, List.append_assoc]; rfl
      · rw [if_neg hd, if_neg hd, List.append_assoc]
        show lo ++ (if Ahead r (G0 i) then r :: G0 i :: s else G0 i :: tIns r s) = lo ++ (G0 i :: tIns r s)
        rw [if_neg (hq.resolve_left hd)]
    · cbv
      subst hA
      repeat' first | apply And.intro | exact True.intro | exact congrArg (fun x => DV.v (.int .i64 x)) (up64 hlt' hnL) | rfl
    · cbv
      rw [ix0 hA i]
      subst hA
      repeat' first | apply And.intro | exact True.intro | rfl | (intro _ _; rfl) | (intro q hq; exact push_at rfl _ _ _ _ q hq)
    · cbv; try (subst hA; repeat' first | apply And.intro | exact True.intro | rfl | exact .inr trivial)
  · rename_i hge hd
    have hin : i = n0 := by have := ge_of hA hge; omega
    have hd : d = false := by subst hA; have hd : (!d) = true := hd; cases d <;> simp_all
    have hs0 := hs []
    rw [List.append_nil, hin, lst_all h0, hd] at hs0
    have hs0 : tIns r o = lo ++ [r] := hs0
    have hT2 : Tells zTab eTab (tIns r o) (c + 1) (fun q => if q < c then row q else eTab r) := by rw [hs0]; exact tells_snoc hT fun _ _ => rfl
    have hcc : c + 1 = n1 := hT2.1.trans h1T.1.symm
    subst hcc
    refine stop_of hA ⟨[(6, .c (.own 960 0 (c + 1) 1))], [(960, 1, .arr 7 (c + 1) fun i => eTab (G i))]⟩ (cov_of ?_ ?_ ?_) ?_
    · cbv; try (subst hA; repeat' first | apply And.intro | exact True.intro | rfl)
    · cbv
      subst hA
      repeat' first | apply And.intro | exact True.intro | rfl
      intro q hq
      exact (push_at rfl _ _ _ _ q hq).trans ((hT2.2 q hq).trans (h1T.2 q hq).symm)
    · cbv; try (subst hA; repeat' first | apply And.intro | exact True.intro | rfl | exact .inr trivial)
    · cbv
      repeat' first
        | apply And.intro
        | exact True.intro
        | with_reducible rfl
        | exact same_of hA rfl
        | refine br_of hA (fun _ => ?_) (fun _ => ?_)
        | exact imp_of hA id
        | (refine imp_of hA ?_; subst hA; simp only [real, Bool.true_and]; exact id)
        | (refine ind_of hA ?_; decide +kernel)
  · rename_i hge hd
    have hin : i = n0 := by have := ge_of hA hge; omega
    have hd : d = true := by subst hA; have hd : (!d) = false := hd; cases d <;> simp_all
    have hs0 := hs []
    rw [List.append_nil, hin, lst_all h0, hd] at hs0
    have hs0 : tIns r o = lo ++ [] := hs0
    rw [List.append_nil] at hs0
    rw [hs0] at h1T
    have hcc : c = n1 := hT.1.trans h1T.1.symm
    subst hcc
    refine stop_of hA ⟨[(6, .c (.own 960 0 c 1))], [(960, 1, .arr 7 c fun i => eTab (G i))]⟩ (cov_of ?_ ?_ ?_) ?_
    · cbv
    · cbv
      exact ⟨fun q hq => (hT.2 q hq).trans (h1T.2 q hq).symm, trivial⟩
    · cbv
    · cbv
      repeat' first
        | apply And.intro
        | exact True.intro
        | with_reducible rfl
        | exact same_of hA rfl
        | refine br_of hA (fun _ => ?_) (fun _ => ?_)
        | exact imp_of hA id
        | (refine imp_of hA ?_; subst hA; simp only [real, Bool.true_and]; exact id)
        | (refine ind_of hA ?_; decide +kernel)
end Go.Rk
/- Tables: find. -/
namespace Go.Rk
set_option linter.unusedSimpArgs false
set_option linter.unusedVariables false
open Go.Proofs
set_option maxRecDepth 100000
set_option maxHeartbeats 1000000
open Classical in
set_option maxRecDepth 100000 in
theorem c_Find1 (r : TabT) (key : Int) (w : WinT) : ∃ b, (b = true ↔ IsRow key w r) ∧ Meets Try.prog 96 [xd (eTab r), .c (.d (.p [eI key])), .c (.d (.p (eWin w)))] ⟨.one (.c (.d (eB b))), [none, none, none]⟩ := by
  obtain ⟨b, hb⟩ : ∃ b, b = decide (IsRow key w r) := ⟨_, rfl⟩
  refine ⟨b, by rw [hb, decide_eq_true_eq], ?_⟩
  refine meets_of (H := []) (EX := EXA) ttok mixed Try.func96 rfl (by kernel_rfl) (by decide) ?_
  generalize hA : real = A
  generalize hM : Meets Try.prog = M
  cbv
  repeat' first
    | apply And.intro
    | exact True.intro
    | with_reducible rfl
    | exact same_of hA rfl
    | refine br_of hA (fun _ => ?_) (fun _ => ?_)
    | exact imp_of hA id
    | (refine imp_of hA ?_; subst hA; simp only [real, Bool.true_and]; exact id)
    | (refine ind_of hA ?_; decide +kernel)
    | (refine call_ex hA hM (c_of _ _ _) (fun _ _ => ?_); cbv)
  all_goals obtain ⟨k, ⟨s, e⟩, ag⟩ := r; obtain ⟨s2, e2⟩ := w
  all_goals subst hA
  all_goals refine congrArg (fun b => XA.one (.c (.d (eB b)))) (Bool.eq_iff_iff.2 ?_)
  all_goals subst_vars
  all_goals simp only [real, bifA, bifB, bifC, bifD, beqB, decide_eq_true_eq, decide_eq_false_iff_not, beqI, bneI, beqIF, bneIF, ne_eq, Bool.and_eq_true, Bool.or_eq_true, Bool.not_eq_true', Bool.not_eq_false', Bool.and_eq_false_iff, Bool.or_eq_false_iff, Bool.false_eq_true, and_false, false_and, or_false, false_or, and_true, true_and, not_true_eq_false, not_false_eq_true, true_iff, false_iff, IntKind.wrap_i64, IsRow, WinOkP, AggOkP] at *
  all_goals first | omega | exact (@decide_eq_true_iff _ _).symm | (refine Iff.trans ?_ (@decide_eq_true_iff _ _).symm; omega)
theorem c_Find (l : List TabT) (n : Nat) (g : Nat → TabT) (hl : Lst zTab l n g) (hn : n ≤ 1100000) (key : Int) (w : WinT) (a : AggT) (ha : a = (tFind key w l).getD zAgg) (b : Bool) (hb : b = (tFind key w l).isSome) : Meets Try.prog 47 [.c (.d (.sl 7 n fun i => eTab (g i))), .c (.d (eI key)), xd (eWin w)] ⟨.tup [xd (eAgg a), .c (.d (eB b))], [none, none, none]⟩ := by
  have hnL : n ≤ maxLen := Nat.le_trans hn (by decide)
  obtain ⟨x, hx, hX⟩ := c_IndexTab2 n hnL g 96 (.p [eI key]) (.p (eWin w)) (IsRow key w) (fun r => c_Find1 r key w)
  have hxx := firstIx_neg hx
  have hcs : (0 ≤ x → x < (n : Int) ∧ some (g x.toNat).agg = tFind key w l) ∧ (¬ 0 ≤ x → tFind key w l = none) := by
    refine ⟨fun h => ?_, fun h => tFind_none hl fun k hk hq => h (hxx.1.2 ⟨k, hk, hq⟩)⟩
    obtain ⟨q, hq1, hq2, hq3, hq4⟩ := hxx.2.1 h
    rw [hq2]
    exact ⟨Int.ofNat_lt.2 hq1, (tFind_first hl hq1 hq3 hq4).symm⟩
  refine meets_of (H := []) (EX := EXA) ttok mixed Try.func47 rfl (by kernel_rfl) (by decide) ?_
  generalize hA : real = A
  generalize hM : Meets Try.prog = M
  cbv
  repeat' first
    | apply And.intro
    | exact True.intro
    | with_reducible rfl
    | exact same_of hA rfl
    | refine br_of hA (fun _ => ?_) (fun _ => ?_)
    | exact imp_of hA id
    | (refine imp_of hA ?_; subst hA; simp only [real, Bool.true_and]; exact id)
    | (refine ind_of hA ?_; decide +kernel)
    | (refine call_of hA hM _ hX ?_; cbv)
    | (rename_i hneg; refine inb_of hA fun _ => ?_; subst hA; have h2 := Int.not_lt.1 (of_decide_eq_false (show decide (x < 0) = false from hneg)); exact ⟨h2, (hcs.1 h2).1⟩)
  · rename_i hneg
    subst hA
    have e := hcs.2 (Int.not_le.2 (of_decide_eq_true (show decide (x < 0) = true from hneg)))
    rw [e] at ha hb; subst ha; subst hb; rfl
  · rename_i hneg
    subst hA
    have e := (hcs.1 (Int.not_lt.1 (of_decide_eq_false (show decide (x < 0) = false from hneg)))).2
    rw [← e] at ha hb; subst ha; subst hb; rfl
def st_sFind (n : Nat) (g : Nat → TabT) (key : Int) (w : WinT) (i : Nat) : St := ⟨[(8, .c (.d (eI i))), (0, .c (.d (.sl 7 n fun i => eTab (g i)))), (1, .c (.d (eI key))), (5, .c (.bp 320 1 0)), (6, .c (.bp 384 1 0)), (7, .c (.d (eB false)))], [(320, 1, .box ((eWin w).map .d)), (384, 1, .box ((eAgg zAgg).map .d))]⟩
theorem c_sFind (l : List TabT) (n : Nat) (g : Nat → TabT) (hl : Lst zTab l n g) (hn : n ≤ 1100000) (key : Int) (w : WinT) (a : AggT) (ha : a = (tFind key w l).getD zAgg) (b : Bool) (hb : b = (tFind key w l).isSome) : Meets Try.prog 99 [.c (.d (.sl 7 n fun i => eTab (g i))), .c (.d (eI key)), xd (eWin w)] ⟨.tup [xd (eAgg a), .c (.d (eB b))], [none, none, none]⟩ := by
  have hnL : n ≤ maxLen := Nat.le_trans hn (by decide)
  refine meets_of (H := []) (EX := EXA) ttok mixed Try.func99 rfl (by kernel_rfl) (by decide) ?_
  generalize hA : real = A
  generalize hM : Meets Try.prog = M
  cbv
  repeat' first
    | apply And.intro
    | exact True.intro
    | with_reducible rfl
    | exact same_of hA rfl
    | refine br_of hA (fun _ => ?_) (fun _ => ?_)
    | exact imp_of hA id
    | (refine imp_of hA ?_; subst hA; simp only [real, Bool.true_and]; exact id)
    | (refine ind_of hA ?_; decide +kernel)
  refine loop_of hA (α := { i : Nat // i ≤ n ∧ ∀ k, k < i → ¬ IsRow key w (g k) }) (fun x => st_sFind n g key w x.1) (fun x => n - x.1) ⟨0, Nat.zero_le _, fun k h => absurd h (Nat.not_lt_zero k)⟩ ?_ ?_
  · refine cov_of ?_ ?_ ?_
    · cbv; try (subst hA; repeat' first | apply And.intro | exact True.intro | rfl)
    · cbv; try (subst hA; repeat' first | apply And.intro | exact True.intro | rfl | (intro _ _; rfl) | (intro k hk; exact absurd hk (Nat.not_lt_zero k)))
    · cbv; try (subst hA; repeat' first | apply And.intro | exact True.intro | rfl | exact .inr trivial)
  rintro ⟨i, hi, hk⟩
  cbv
  repeat' first
    | apply And.intro
    | exact True.intro
    | with_reducible rfl
    | exact same_of hA rfl
    | refine br_of hA (fun _ => ?_) (fun _ => ?_)
    | exact imp_of hA id
    | (refine imp_of hA ?_; subst hA; simp only [real, Bool.true_and]; exact id)
    | (refine ind_of hA ?_; decide +kernel)
    | (refine inb_of hA fun _ => ?_; subst hA; simp only [real, Bool.and_eq_true, Bool.not_eq_true', Bool.not_eq_false', decide_eq_true_eq, Int.ofNat_eq_natCast, IntKind.wrap_i64] at *; omega)
  · rename_i hlt hc
    have hlt' := lt_of hA hlt
    have hq : IsRow key w (g i) := by
      subst hA
      have e1 : real.nat (Int.ofNat i) = i := rfl
      simp only [e1, real, bifA, bifB, bifC, bifD, beqB, decide_eq_true_eq, decide_eq_false_iff_not, beqI, bneI, beqIF, bneIF, ne_eq, Classical.not_not, Bool.and_eq_true, Bool.or_eq_true, Bool.not_eq_true', Bool.not_eq_false', Bool.and_eq_false_iff, Bool.or_eq_false_iff, Bool.false_eq_true, and_false, false_and, or_false, false_or, and_true, true_and, not_true_eq_false, not_false_eq_true, true_iff, false_iff, Int.ofNat_eq_natCast, Int.toNat_natCast] at hc
      exact ⟨hc.1, hc.2.1, hc.2.2⟩
    have e := tFind_first hl hlt' hq hk
    subst hA
    rw [e] at ha hb; subst ha; subst hb; rfl
  · rename_i hlt hc
    have hlt' := lt_of hA hlt
    have hq : ¬ IsRow key w (g i) := by
      subst hA
      have e1 : real.nat (Int.ofNat i) = i := rfl
      simp only [e1, real, bifA, bifB, bifC, bifD, beqB, decide_eq_true_eq, decide_eq_false_iff_not, beqI, bneI, beqIF, bneIF, ne_eq, Classical.not_not, Bool.and_eq_true, Bool.or_eq_true, Bool.not_eq_true', Bool.not_eq_false', Bool.and_eq_false_iff, Bool.or_eq_false_iff, Bool.false_eq_true, and_false, false_and, or_false, false_or, and_true, true_and, not_true_eq_false, not_false_eq_true, true_iff, false_iff, Int.ofNat_eq_natCast, Int.toNat_natCast] at hc
      intro hI
      rcases hc with h | h | h | h
      · exact h hI.1
      · exact h hI.2.1
      · exact h hI.2.2
      · cases h
    refine ⟨⟨i + 1, by omega, fun k hk' => ?_⟩, by simp only; omega, cov_of ?_ ?_ ?_⟩
    · by_cases e : k = i
      · rw [e]; exact hq
      · exact hk k (by omega)
    · cbv
      subst hA
      repeat' first | apply And.intro | exact True.intro | exact congrArg (fun x => DV.v (.int .i64 x)) (up64 hlt' hnL) | rfl
    · cbv; try (subst hA; repeat' first | apply And.intro | exact True.intro | rfl | (intro _ _; rfl))
    · cbv; try (subst hA; repeat' first | apply And.intro | exact True.intro | rfl | exact .inr trivial)
  · rename_i hge
    have hin : i = n := by have := ge_of hA hge; omega
    have e := tFind_none hl fun k hkn => hk k (by omega)
    rw [e] at ha hb; subst ha; subst hb; rfl
end Go.Rk
/- Tables of panes. -/
namespace Go.Rk
set_option linter.unusedSimpArgs false
set_option linter.unusedVariables false
theorem sub0r (f : Nat → List DV) : real.sub 0 f = f := sub0 rfl f
theorem args_sl {sz n : Nat} {f : Nat → List DV} {r r' : List XT} (h : r = r') : XT.c (.d (.sl sz n (real.sub 0 f))) :: r = XT.c (.d (.sl sz n f)) :: r' := by rw [sub0r, h]
theorem args_eq {x : XT} {r r' : List XT} (h : r = r') : x :: r = x :: r' := by rw [h]
def zPane : PaneT := ⟨0, ⟨0, 0⟩, 0, 0, ⟨0, 0, 0, 0⟩⟩
def ofAgg (piece : Bool) (T : List TabT) (p : PaneT) : AggT := if piece = true then aggB ((tFind p.key p.win T).getD zAgg) p.agg else p.agg
def ofStep (piece : Bool) (T : List TabT) (p : PaneT) : List TabT := if p.kind = 3 then tOut p.key p.win T else tPut ⟨p.key, p.win, ofAgg piece T p⟩ T
def ofL (piece : Bool) (l : List PaneT) : List TabT := l.foldl (ofStep piece) []
theorem ofL_snoc (piece : Bool) (l : List PaneT) (p : PaneT) : ofL piece (l ++ [p]) = ofStep piece (ofL piece l) p := by unfold ofL; rw [List.foldl_append]; rfl
theorem ofStep_len (piece : Bool) (T : List TabT) (p : PaneT) : (ofStep piece T p).length ≤ T.length + 1 := by
  unfold ofStep
  split
  · exact Nat.le_succ_of_le (tOut_len _ _ _)
  · exact tPut_len _ _
theorem ofFold_len (piece : Bool) : ∀ (l : List PaneT) (T : List TabT), (l.foldl (ofStep piece) T).length ≤ T.length + l.length
  | [], T => Nat.le_refl _
  | p :: l, T => by
    have h1 := ofFold_len piece l (ofStep piece T p)
    have h2 := ofStep_len piece T p
    rw [List.foldl_cons, List.length_cons]; omega
theorem ofL_len (piece : Bool) (l : List PaneT) : (ofL piece l).length ≤ l.length := by have := ofFold_len piece l []; simpa [ofL] using this
/-- A list, given its number and its members. -/
theorem lst_ex {α : Type} (z : α) (l : List α) : ∃ (n : Nat) (g : Nat → α), Lst z l n g := ⟨_, _, lst_self z l⟩
def mkPane (k : Int) : PaneT := ⟨k, ⟨k + 1, k + 2⟩, k + 3, k + 4, ⟨k + 5, k + 6, k + 7, k + 8⟩⟩
theorem lst_snoc {α : Type} {z : α} {l : List α} {n : Nat} {g : Nat → α} {x : α} (h : Lst z l n g) : Lst z (l ++ [x]) (n + 1) (fun q => if q < n then g q else x) := by
  obtain ⟨rfl, h2⟩ := h
  refine ⟨by simp, fun k hk => ?_⟩
  by_cases hl : k < l.length
  · simp only [if_pos hl]
    rw [h2 k hl, List.getD_eq_getElem?_getD, List.getD_eq_getElem?_getD, List.getElem?_append_left hl]
  · have : k = l.length := by omega
    subst this
    simp
/-- One row more at the end, told by its own shape. -/
theorem push_if {A : Ar} {α : Type} (e : α → List DV) (hA : real = A) (n : Nat) (G : Nat → α) (x : α) (z : Nat → List DV) (k : Nat) (hk : k < n + 1) : A.app n (fun i => e (G i)) (A.sub 0 (A.app 1 (A.rep (e x)) z)) k = e (if k < n then G k else x) := by
  subst hA
  show (if k < n then e (G k) else (if 0 + (k - n) < 1 then e x else z (0 + (k - n) - 1))) = _
  split
  · rfl
  · rw [if_pos (by omega)]
theorem flatI {A : Ar} (hA : real = A) (n : Nat) (G : Nat → ItmT) : A.flat n (fun i => eItm (G i)) := by
  subst hA
  intro i _ x hx
  simp only [eItm, List.mem_cons, List.not_mem_nil, or_false] at hx
  rcases hx with rfl | rfl | rfl | rfl | rfl <;> exact ⟨_, rfl⟩
theorem flatP {A : Ar} (hA : real = A) (n : Nat) (G : Nat → PaneT) : A.flat n (fun i => ePane (G i)) := by
  subst hA
  intro i _ x hx
  simp only [ePane, List.mem_cons, List.not_mem_nil, or_false] at hx
  rcases hx with rfl | rfl | rfl | rfl | rfl | rfl | rfl | rfl | rfl <;> exact ⟨_, rfl⟩
theorem lt2_of {A : Ar} (hA : real = A) {i n : Nat} (h : A.cmp .lss (Int.ofNat i) (Int.ofNat n) = true) : i < n := by
  subst hA
  have h : decide ((i : Int) < (n : Int)) = true := h
  rw [decide_eq_true_eq] at h
  omega
theorem ge2_of {A : Ar} (hA : real = A) {i n : Nat} (h : A.cmp .lss (Int.ofNat i) (Int.ofNat n) = false) : n ≤ i := by
  subst hA
  have h : decide ((i : Int) < (n : Int)) = false := h
  rw [decide_eq_false_iff_not] at h
  omega
theorem eq_of {A : Ar} (hA : real = A) {a b : Int} (h : A.cmp .eql a b = true) : a = b := by subst hA; exact of_decide_eq_true h
theorem ne_of {A : Ar} (hA : real = A) {a b : Int} (h : A.cmp .eql a b = false) : ¬ a = b := by subst hA; exact of_decide_eq_false h
end Go.Rk
/- Tables of panes. -/
namespace Go.Rk
set_option linter.unusedSimpArgs false
set_option linter.unusedVariables false
open Go.Proofs
set_option maxRecDepth 100000
set_option maxHeartbeats 1000000
def st_Of (n : Nat) (g : Nat → PaneT) (piece : Bool) (i c : Nat) (G : Nat → TabT) : St := ⟨[(13, .c (.d (eI i))), (12, .c (.d (eI n))), (11, .c (.d (.sl 9 n fun i => ePane (g i)))), (5, .c (.own 320 0 c 1)), (1, .c (.d (eB piece)))], [(320, 1, .arr 7 c fun k => eTab (G k))]⟩
theorem c_Of (l : List PaneT) (n : Nat) (g : Nat → PaneT) (hl : Lst zPane l n g) (hn : n ≤ 1080000) (piece : Bool) (n0 : Nat) (G0 : Nat → TabT) (h0 : Lst zTab (ofL piece l) n0 G0) : Meets Try.prog 50 [.c (.d (.sl 9 n fun i => ePane (g i))), .c (.d (eB piece))] ⟨.one (.c (.own 7 n0 fun i => eTab (G0 i))), [none, none]⟩ := by
  have hnL : n ≤ maxLen := Nat.le_trans hn (by decide)
  refine meets_of (H := [13]) (EX := EXA) ttok mixed Try.func50 rfl (by kernel_rfl) (by decide) ?_
  generalize hA : real = A
  generalize hM : Meets Try.prog = M
  cbv
  repeat' first
    | apply And.intro
    | exact True.intro
    | with_reducible rfl
    | exact same_of hA rfl
    | refine br_of hA (fun _ => ?_) (fun _ => ?_)
    | exact imp_of hA id
    | (refine imp_of hA ?_; subst hA; simp only [real, Bool.true_and]; exact id)
    | (refine ind_of hA ?_; decide +kernel)
  refine loop_of hA (α := { q : Nat × Nat × (Nat → TabT) // q.1 ≤ n ∧ Lst zTab (ofL piece (l.take q.1)) q.2.1 q.2.2 }) (fun y => st_Of n g piece y.1.1 y.1.2.1 y.1.2.2) (fun y => n - y.1.1) ⟨(0, 0, fun _ => zTab), Nat.zero_le _, rfl, fun k h => absurd h (Nat.not_lt_zero k)⟩ ?_ ?_
  · refine cov_prom 5 320 1 7 (fun _ => []) rfl rfl (cov_of ?_ ?_ ?_)
    · cbv; try (subst hA; repeat' first | apply And.intro | exact True.intro | rfl | fail)
    · cbv; try (subst hA; repeat' first | apply And.intro | exact True.intro | rfl | (intro _ _; rfl) | (intro k hk; exact absurd hk (Nat.not_lt_zero k)) | fail)
    · cbv; try (subst hA; repeat' first | apply And.intro | exact True.intro | rfl | exact .inr trivial | exact .inl trivial)
  rintro ⟨⟨i, c, G⟩, hi, hT⟩
  have hi : i ≤ n := hi
  obtain ⟨T, hTe⟩ : ∃ T, T = ofL piece (l.take i) := ⟨_, rfl⟩
  have hT : Lst zTab T c G := by rw [hTe]; exact hT
  have hci : c ≤ i := by
    rw [hT.1, hTe]
    have h1 := ofL_len piece (l.take i)
    rw [List.length_take] at h1
    omega
  obtain ⟨no, Go, hO⟩ := lst_ex zTab (tOut (g i).key (g i).win T)
  obtain ⟨np, Gp, hP⟩ := lst_ex zTab (tPut ⟨(g i).key, (g i).win, ofAgg piece T (g i)⟩ T)
  obtain ⟨a, ha⟩ : ∃ a, a = (tFind (g i).key (g i).win T).getD zAgg := ⟨_, rfl⟩
  obtain ⟨b, hb⟩ : ∃ b, b = (tFind (g i).key (g i).win T).isSome := ⟨_, rfl⟩
  obtain ⟨ag, hag⟩ : ∃ x, x = aggB a (g i).agg := ⟨_, rfl⟩
  have cO := c_Out T c G hT (by omega) (g i).key (g i).win no Go hO
  have cF := c_Find T c G hT (by omega) (g i).key (g i).win a ha b hb
  have cB := c_AggBoth a (g i).agg ag hag
  have cP := c_Put T c G hT (by omega) _ np Gp hP
  have hnext : i < n → ∀ m H, Lst zTab (ofStep piece T (g i)) m H → i + 1 ≤ n ∧ Lst zTab (ofL piece (l.take (i + 1))) m H := fun h m H hH => ⟨h, by rw [lst_take hl h, ofL_snoc, ← hTe]; exact hH⟩
  cbv
  repeat' first
    | apply And.intro
    | exact True.intro
    | with_reducible rfl
    | exact same_of hA rfl
    | refine br_of hA (fun _ => ?_) (fun _ => ?_)
    | exact imp_of hA id
    | (refine imp_of hA ?_; subst hA; simp only [real, Bool.true_and]; exact id)
    | (refine ind_of hA ?_; decide +kernel)
    | (refine inb_lt hA ?_; first | exact lt2_of hA (by assumption) | exact lt_of hA (by assumption))
    | exact flat_tab hA _ _
    | (refine call_of2 hA hM _ cO (by (subst hA; first | rfl | (simp only [sub0r]; try rfl))) ?_; cbv)
    | (refine call_of2 hA hM _ cF (by (subst hA; first | rfl | (simp only [sub0r]; try rfl))) ?_; cbv)
    | (refine call_of2 hA hM _ cB (by (subst hA; first | rfl | (simp only [sub0r]; try rfl))) ?_; cbv)
  · rename_i hlt hk
    have hlt' : i < n := by first | exact lt2_of hA hlt | exact lt_of hA hlt
    have hk : (g i).kind = 3 := by subst hA; exact of_decide_eq_true hk
    refine ⟨⟨(i + 1, no, Go), hnext hlt' _ _ ?_⟩, by simp only; omega, cov_rel 320 2 (k := 5) (l := 1600) (sz := 7) rfl rfl rfl rfl (cov_of ?_ ?_ ?_)⟩
    · unfold ofStep; rw [if_pos hk]; exact hO
    · cbv; subst hA; repeat' first | apply And.intro | exact True.intro | exact congrArg (fun x => DV.v (.int .i64 x)) (up64 hlt' hnL) | rfl
    · cbv; try (subst hA; repeat' first | apply And.intro | exact True.intro | rfl | (intro _ _; rfl))
    · cbv; try (subst hA; repeat' first | apply And.intro | exact True.intro | rfl | exact .inr trivial | exact .inl trivial)
  · rename_i hlt hk hp
    have hlt' : i < n := by first | exact lt2_of hA hlt | exact lt_of hA hlt
    have hk : ¬ (g i).kind = 3 := by subst hA; exact of_decide_eq_false hk
    have hx : ofAgg piece T (g i) = ag := by
      have hp2 : b = true ∧ piece = true := by subst hA; simpa [real] using hp
      unfold ofAgg; rw [if_pos hp2.2, hag, ha]
    rw [hx] at cP hP
    refine call_of2 hA hM _ cP (by (subst hA; first | rfl | (simp only [sub0r]; try rfl))) ?_
    cbv
    repeat' first
      | apply And.intro
      | exact True.intro
      | with_reducible rfl
      | exact same_of hA rfl
      | refine br_of hA (fun _ => ?_) (fun _ => ?_)
      | exact imp_of hA id
      | (refine imp_of hA ?_; subst hA; simp only [real, Bool.true_and]; exact id)
      | (refine ind_of hA ?_; decide +kernel)
      | exact flat_tab hA _ _
    refine ⟨⟨(i + 1, np, Gp), hnext hlt' _ _ ?_⟩, by simp only; omega, cov_rel 320 2 (k := 5) (l := 3264) (sz := 7) rfl rfl rfl rfl (cov_of ?_ ?_ ?_)⟩
    · unfold ofStep; rw [if_neg hk, hx]; exact hP
    · cbv; subst hA; repeat' first | apply And.intro | exact True.intro | exact congrArg (fun x => DV.v (.int .i64 x)) (up64 hlt' hnL) | rfl
    · cbv; try (subst hA; repeat' first | apply And.intro | exact True.intro | rfl | (intro _ _; rfl))
    · cbv; try (subst hA; repeat' first | apply And.intro | exact True.intro | rfl | exact .inr trivial | exact .inl trivial)
  · rename_i hlt hk hp
    have hlt' : i < n := by first | exact lt2_of hA hlt | exact lt_of hA hlt
    have hk : ¬ (g i).kind = 3 := by subst hA; exact of_decide_eq_false hk
    have hx : ofAgg piece T (g i) = (g i).agg := by
      have hp2 : b = true → piece = false := by subst hA; simpa [real] using hp
      unfold ofAgg
      by_cases hq : piece = true
      · have hb2 : b = false := by
          cases b with
          | false => rfl
          | true => rw [hp2 rfl] at hq; cases hq
        rw [if_pos hq]
        have hn : tFind (g i).key (g i).win T = none := by
          cases hf : tFind (g i).key (g i).win T with
          | none => rfl
          | some x => rw [hf] at hb; rw [hb2] at hb; cases hb
        rw [hn]; rfl
      · rw [if_neg hq]
    rw [hx] at cP hP
    refine call_of2 hA hM _ cP (by (subst hA; first | rfl | (simp only [sub0r]; try rfl))) ?_
    cbv
    repeat' first
      | apply And.intro
      | exact True.intro
      | with_reducible rfl
      | exact same_of hA rfl
      | refine br_of hA (fun _ => ?_) (fun _ => ?_)
      | exact imp_of hA id
      | (refine imp_of hA ?_; subst hA; simp only [real, Bool.true_and]; exact id)
      | (refine ind_of hA ?_; decide +kernel)
      | exact flat_tab hA _ _
    refine ⟨⟨(i + 1, np, Gp), hnext hlt' _ _ ?_⟩, by simp only; omega, cov_rel 320 2 (k := 5) (l := 3264) (sz := 7) rfl rfl rfl rfl (cov_of ?_ ?_ ?_)⟩
    · unfold ofStep; rw [if_neg hk, hx]; exact hP
    · cbv; subst hA; repeat' first | apply And.intro | exact True.intro | exact congrArg (fun x => DV.v (.int .i64 x)) (up64 hlt' hnL) | rfl
    · cbv; try (subst hA; repeat' first | apply And.intro | exact True.intro | rfl | (intro _ _; rfl))
    · cbv; try (subst hA; repeat' first | apply And.intro | exact True.intro | rfl | exact .inr trivial | exact .inl trivial)
  · rename_i hge
    have hin : i = n := by first | (have := ge2_of hA hge; omega) | (have := ge_of hA hge; omega)
    subst hin
    rw [lst_all hl] at hTe
    rw [hTe] at hT
    have hcc : c = n0 := hT.1.trans h0.1.symm
    subst hcc
    refine stop_of hA ⟨[(5, .c (.own 320 0 c 1))], [(320, 1, .arr 7 c fun i => eTab (G0 i))]⟩ (cov_of ?_ ?_ ?_) ?_
    · cbv
    · cbv
      exact ⟨fun q hq => congrArg eTab ((hT.2 q hq).trans (h0.2 q hq).symm), trivial⟩
    · cbv
    · cbv
      repeat' first
        | apply And.intro
        | exact True.intro
        | with_reducible rfl
        | exact same_of hA rfl
        | refine br_of hA (fun _ => ?_) (fun _ => ?_)
        | exact imp_of hA id
        | (refine imp_of hA ?_; subst hA; simp only [real, Bool.true_and]; exact id)
        | (refine ind_of hA ?_; decide +kernel)
def st_sOf (n : Nat) (g : Nat → PaneT) (piece : Bool) (i c : Nat) (G : Nat → TabT) : St := ⟨[(6, .c (.d (eI i))), (0, .c (.d (.sl 9 n fun i => ePane (g i)))), (5, .c (.own 320 0 c 1)), (1, .c (.d (eB piece)))], [(320, 1, .arr 7 c fun k => eTab (G k))]⟩
theorem c_sOf (l : List PaneT) (n : Nat) (g : Nat → PaneT) (hl : Lst zPane l n g) (hn : n ≤ 1080000) (piece : Bool) (n0 : Nat) (G0 : Nat → TabT) (h0 : Lst zTab (ofL piece l) n0 G0) : Meets Try.prog 51 [.c (.d (.sl 9 n fun i => ePane (g i))), .c (.d (eB piece))] ⟨.one (.c (.own 7 n0 fun i => eTab (G0 i))), [none, none]⟩ := by
  have hnL : n ≤ maxLen := Nat.le_trans hn (by decide)
  refine meets_of (H := [13]) (EX := EXA) ttok mixed Try.func51 rfl (by kernel_rfl) (by decide) ?_
  generalize hA : real = A
  generalize hM : Meets Try.prog = M
  cbv
  repeat' first
    | apply And.intro
    | exact True.intro
    | with_reducible rfl
    | exact same_of hA rfl
    | refine br_of hA (fun _ => ?_) (fun _ => ?_)
    | exact imp_of hA id
    | (refine imp_of hA ?_; subst hA; simp only [real, Bool.true_and]; exact id)
    | (refine ind_of hA ?_; decide +kernel)
  refine loop_of hA (α := { q : Nat × Nat × (Nat → TabT) // q.1 ≤ n ∧ Lst zTab (ofL piece (l.take q.1)) q.2.1 q.2.2 }) (fun y => st_sOf n g piece y.1.1 y.1.2.1 y.1.2.2) (fun y => n - y.1.1) ⟨(0, 0, fun _ => zTab), Nat.zero_le _, rfl, fun k h => absurd h (Nat.not_lt_zero k)⟩ ?_ ?_
  · refine cov_rel 320 1 (k := 5) (l := 704) (sz := 7) rfl rfl rfl rfl (cov_of ?_ ?_ ?_)
    · cbv; try (subst hA; repeat' first | apply And.intro | exact True.intro | rfl | fail)
    · cbv; try (subst hA; repeat' first | apply And.intro | exact True.intro | rfl | (intro _ _; rfl) | (intro k hk; exact absurd hk (Nat.not_lt_zero k)) | fail)
    · cbv; try (subst hA; repeat' first | apply And.intro | exact True.intro | rfl | exact .inr trivial | exact .inl trivial)
  rintro ⟨⟨i, c, G⟩, hi, hT⟩
  have hi : i ≤ n := hi
  obtain ⟨T, hTe⟩ : ∃ T, T = ofL piece (l.take i) := ⟨_, rfl⟩
  have hT : Lst zTab T c G := by rw [hTe]; exact hT
  have hci : c ≤ i := by
    rw [hT.1, hTe]
    have h1 := ofL_len piece (l.take i)
    rw [List.length_take] at h1
    omega
  obtain ⟨no, Go, hO⟩ := lst_ex zTab (tOut (g i).key (g i).win T)
  obtain ⟨np, Gp, hP⟩ := lst_ex zTab (tPut ⟨(g i).key, (g i).win, ofAgg piece T (g i)⟩ T)
  obtain ⟨a, ha⟩ : ∃ a, a = (tFind (g i).key (g i).win T).getD zAgg := ⟨_, rfl⟩
  obtain ⟨b, hb⟩ : ∃ b, b = (tFind (g i).key (g i).win T).isSome := ⟨_, rfl⟩
  obtain ⟨ag, hag⟩ : ∃ x, x = aggB a (g i).agg := ⟨_, rfl⟩
  have cO := c_sOut T c G hT (by omega) (g i).key (g i).win no Go hO
  have cF := c_sFind T c G hT (by omega) (g i).key (g i).win a ha b hb
  have cB := c_sAggBoth a (g i).agg ag hag
  have cP := c_sPut T c G hT (by omega) _ np Gp hP
  have hnext : i < n → ∀ m H, Lst zTab (ofStep piece T (g i)) m H → i + 1 ≤ n ∧ Lst zTab (ofL piece (l.take (i + 1))) m H := fun h m H hH => ⟨h, by rw [lst_take hl h, ofL_snoc, ← hTe]; exact hH⟩
  cbv
  repeat' first
    | apply And.intro
    | exact True.intro
    | with_reducible rfl
    | exact same_of hA rfl
    | refine br_of hA (fun _ => ?_) (fun _ => ?_)
    | exact imp_of hA id
    | (refine imp_of hA ?_; subst hA; simp only [real, Bool.true_and]; exact id)
    | (refine ind_of hA ?_; decide +kernel)
    | (refine inb_lt hA ?_; first | exact lt2_of hA (by assumption) | exact lt_of hA (by assumption))
    | exact flat_tab hA _ _
    | (refine call_of2 hA hM _ cO (by (subst hA; first | rfl | (simp only [sub0r]; try rfl))) ?_; cbv)
    | (refine call_of2 hA hM _ cF (by (subst hA; first | rfl | (simp only [sub0r]; try rfl))) ?_; cbv)
    | (refine call_of2 hA hM _ cB (by (subst hA; first | rfl | (simp only [sub0r]; try rfl))) ?_; cbv)
  · rename_i hlt hk
    have hlt' : i < n := by first | exact lt2_of hA hlt | exact lt_of hA hlt
    have hk : (g i).kind = 3 := by subst hA; exact of_decide_eq_true hk
    refine ⟨⟨(i + 1, no, Go), hnext hlt' _ _ ?_⟩, by simp only; omega, cov_rel 320 2 (k := 5) (l := 1920) (sz := 7) rfl rfl rfl rfl (cov_of ?_ ?_ ?_)⟩
    · unfold ofStep; rw [if_pos hk]; exact hO
    · cbv; subst hA; repeat' first | apply And.intro | exact True.intro | exact congrArg (fun x => DV.v (.int .i64 x)) (up64 hlt' hnL) | rfl
    · cbv; try (subst hA; repeat' first | apply And.intro | exact True.intro | rfl | (intro _ _; rfl))
    · cbv; try (subst hA; repeat' first | apply And.intro | exact True.intro | rfl | exact .inr trivial | exact .inl trivial)
  · rename_i hlt hk hp
    have hlt' : i < n := by first | exact lt2_of hA hlt | exact lt_of hA hlt
    have hk : ¬ (g i).kind = 3 := by subst hA; exact of_decide_eq_false hk
    have hx : ofAgg piece T (g i) = ag := by
      unfold ofAgg; rw [if_pos hp, hag, ha]
    rw [hx] at cP hP
    refine call_of2 hA hM _ cP (by (subst hA; first | rfl | (simp only [sub0r]; try rfl))) ?_
    cbv
    repeat' first
      | apply And.intro
      | exact True.intro
      | with_reducible rfl
      | exact same_of hA rfl
      | refine br_of hA (fun _ => ?_) (fun _ => ?_)
      | exact imp_of hA id
      | (refine imp_of hA ?_; subst hA; simp only [real, Bool.true_and]; exact id)
      | (refine ind_of hA ?_; decide +kernel)
      | exact flat_tab hA _ _
    refine ⟨⟨(i + 1, np, Gp), hnext hlt' _ _ ?_⟩, by simp only; omega, cov_rel 320 2 (k := 5) (l := 3392) (sz := 7) rfl rfl rfl rfl (cov_of ?_ ?_ ?_)⟩
    · unfold ofStep; rw [if_neg hk, hx]; exact hP
    · cbv; subst hA; repeat' first | apply And.intro | exact True.intro | exact congrArg (fun x => DV.v (.int .i64 x)) (up64 hlt' hnL) | rfl
    · cbv; try (subst hA; repeat' first | apply And.intro | exact True.intro | rfl | (intro _ _; rfl))
    · cbv; try (subst hA; repeat' first | apply And.intro | exact True.intro | rfl | exact .inr trivial | exact .inl trivial)
  · rename_i hlt hk hp
    have hlt' : i < n := by first | exact lt2_of hA hlt | exact lt_of hA hlt
    have hk : ¬ (g i).kind = 3 := by subst hA; exact of_decide_eq_false hk
    have hx : ofAgg piece T (g i) = (g i).agg := by
      unfold ofAgg; rw [if_neg (by rw [hp]; simp)]
    rw [hx] at cP hP
    refine call_of2 hA hM _ cP (by (subst hA; first | rfl | (simp only [sub0r]; try rfl))) ?_
    cbv
    repeat' first
      | apply And.intro
      | exact True.intro
      | with_reducible rfl
      | exact same_of hA rfl
      | refine br_of hA (fun _ => ?_) (fun _ => ?_)
      | exact imp_of hA id
      | (refine imp_of hA ?_; subst hA; simp only [real, Bool.true_and]; exact id)
      | (refine ind_of hA ?_; decide +kernel)
      | exact flat_tab hA _ _
    refine ⟨⟨(i + 1, np, Gp), hnext hlt' _ _ ?_⟩, by simp only; omega, cov_rel 320 2 (k := 5) (l := 3392) (sz := 7) rfl rfl rfl rfl (cov_of ?_ ?_ ?_)⟩
    · unfold ofStep; rw [if_neg hk, hx]; exact hP
    · cbv; subst hA; repeat' first | apply And.intro | exact True.intro | exact congrArg (fun x => DV.v (.int .i64 x)) (up64 hlt' hnL) | rfl
    · cbv; try (subst hA; repeat' first | apply And.intro | exact True.intro | rfl | (intro _ _; rfl))
    · cbv; try (subst hA; repeat' first | apply And.intro | exact True.intro | rfl | exact .inr trivial | exact .inl trivial)
  · rename_i hge
    have hin : i = n := by first | (have := ge2_of hA hge; omega) | (have := ge_of hA hge; omega)
    subst hin
    rw [lst_all hl] at hTe
    rw [hTe] at hT
    have hcc : c = n0 := hT.1.trans h0.1.symm
    subst hcc
    refine stop_of hA ⟨[(5, .c (.own 320 0 c 1))], [(320, 1, .arr 7 c fun i => eTab (G0 i))]⟩ (cov_of ?_ ?_ ?_) ?_
    · cbv
    · cbv
      exact ⟨fun q hq => congrArg eTab ((hT.2 q hq).trans (h0.2 q hq).symm), trivial⟩
    · cbv
    · cbv
      repeat' first
        | apply And.intro
        | exact True.intro
        | with_reducible rfl
        | exact same_of hA rfl
        | refine br_of hA (fun _ => ?_) (fun _ => ?_)
        | exact imp_of hA id
        | (refine imp_of hA ?_; subst hA; simp only [real, Bool.true_and]; exact id)
        | (refine ind_of hA ?_; decide +kernel)
end Go.Rk
/- Tables of records: what holds of them at every step. -/
namespace Go.Rk
set_option linter.unusedSimpArgs false
set_option linter.unusedVariables false
def spcT (kind : Int) (P : List LatT) : List TabT := P.foldl (stepS kind) []
theorem fine_left {P Q : List LatT} (h : Fine (P ++ Q)) : Fine P := ⟨by have := h.1; rw [List.length_append] at this; omega, fun x hx => h.2 x (List.mem_append_left _ hx)⟩
theorem foldS_inv : ∀ (P P0 : List LatT) (T : List TabT), InvS P0 T → Fine (P0 ++ P) → InvS (P0 ++ P) (P.foldl (stepS 3) T) ∧ tCnt (P.foldl (stepS 3) T) = tCnt T + P.length ∧ P.foldl (stepI 3) T = P.foldl (stepS 3) T
  | [], P0, T, h, _ => ⟨by simpa using h, by simp, rfl⟩
  | l :: P, P0, T, h, hf => by
    have e : P0 ++ l :: P = (P0 ++ [l]) ++ P := by simp
    rw [e] at hf ⊢
    obtain ⟨h1, h2, h3⟩ := invS_step h (fine_left hf)
    obtain ⟨g1, g2, g3⟩ := foldS_inv P (P0 ++ [l]) (sessS l.itm.key l.win l.itm.v T) h1 hf
    refine ⟨g1, ?_, ?_⟩
    · rw [List.length_cons, List.foldl_cons]
      show tCnt (P.foldl (stepS 3) (sessS l.itm.key l.win l.itm.v T)) = _
      omega
    · show P.foldl (stepI 3) (sessI l.itm.key l.win l.itm.v T) = P.foldl (stepS 3) (sessS l.itm.key l.win l.itm.v T)
      rw [h3]; exact g3
theorem foldW_inv {kind : Int} (hk : kind ≠ 3) : ∀ (P P0 : List LatT) (T : List TabT), InvW P0 T → Fine (P0 ++ P) → InvW (P0 ++ P) (P.foldl (stepS kind) T) ∧ tCnt (P.foldl (stepS kind) T) = tCnt T + P.length
  | [], P0, T, h, _ => ⟨by simpa using h, by simp⟩
  | l :: P, P0, T, h, hf => by
    have e : P0 ++ l :: P = (P0 ++ [l]) ++ P := by simp
    rw [e] at hf ⊢
    obtain ⟨h1, h2⟩ := invW_step h (fine_left hf)
    have es : stepS kind T l = stepW l.itm.key l.win l.itm.v T := if_neg hk
    rw [List.foldl_cons, es]
    obtain ⟨g1, g2⟩ := foldW_inv hk P (P0 ++ [l]) (stepW l.itm.key l.win l.itm.v T) h1 hf
    exact ⟨g1, by rw [List.length_cons]; omega⟩
theorem foldI_eq {kind : Int} {P : List LatT} (hf : Fine P) : P.foldl (stepI kind) [] = spcT kind P := by
  by_cases hk : kind = 3
  · subst hk
    exact (foldS_inv P [] [] ⟨List.Pairwise.nil, fun r h => (by simp at h), fun l h => (by simp at h)⟩ hf).2.2
  · have : stepI kind = stepS kind := by funext T l; unfold stepI stepS; rw [if_neg hk, if_neg hk]
    unfold spcT; rw [this]
theorem spcT_S {P : List LatT} (hf : Fine P) : InvS P (spcT 3 P) := (foldS_inv P [] [] ⟨List.Pairwise.nil, fun r h => (by simp at h), fun l h => (by simp at h)⟩ hf).1
theorem spcT_W {kind : Int} (hk : kind ≠ 3) {P : List LatT} (hf : Fine P) : InvW P (spcT kind P) := (foldW_inv hk P [] [] ⟨List.Pairwise.nil, fun r h => (by simp at h), fun l h => (by simp at h)⟩ hf).1
theorem spcT_rise {kind : Int} {P : List LatT} (hf : Fine P) : Rise (spcT kind P) := by
  by_cases hk : kind = 3
  · subst hk; exact (spcT_S hf).rise
  · exact (spcT_W hk hf).rise
theorem spcT_cnt {kind : Int} {P : List LatT} (hf : Fine P) : tCnt (spcT kind P) = P.length := by
  by_cases hk : kind = 3
  · subst hk
    have := (foldS_inv P [] [] ⟨List.Pairwise.nil, fun r h => (by simp at h), fun l h => (by simp at h)⟩ hf).2.1
    simpa [spcT, tCnt] using this
  · have := (foldW_inv hk P [] [] ⟨List.Pairwise.nil, fun r h => (by simp at h), fun l h => (by simp at h)⟩ hf).2
    simpa [spcT, tCnt] using this
theorem spcT_perm {kind : Int} {P P' : List LatT} (hf : Fine P) (hp : P.Perm P') : spcT kind P = spcT kind P' := by
  have hf' : Fine P' := ⟨by rw [← hp.length_eq]; exact hf.1, fun l hl => hf.2 l (hp.mem_iff.2 hl)⟩
  by_cases hk : kind = 3
  · subst hk; exact invS_uniq (fun l hl => (hf.2 l hl).1) (spcT_S hf) (spcT_S hf') hp
  · exact invW_uniq (spcT_W hk hf) (spcT_W hk hf') hp
theorem stepS_len (kind : Int) (T : List TabT) (l : LatT) : (stepS kind T l).length ≤ T.length + 1 := by
  unfold stepS
  split
  · exact Nat.le_trans (tPut_len _ _) (Nat.succ_le_succ (List.length_filter_le _ _))
  · exact tPut_len _ _
theorem stepI_len (kind : Int) (T : List TabT) (l : LatT) : (stepI kind T l).length ≤ T.length + 1 := by
  unfold stepI
  split
  · exact Nat.le_trans (tPut_len _ _) (Nat.succ_le_succ (List.length_filter_le _ _))
  · exact tPut_len _ _
theorem fold_len {f : List TabT → LatT → List TabT} (h : ∀ T l, (f T l).length ≤ T.length + 1) : ∀ (P : List LatT) (T : List TabT), (P.foldl f T).length ≤ T.length + P.length
  | [], T => Nat.le_refl _
  | l :: P, T => by
    have h1 := fold_len h P (f T l)
    have h2 := h T l
    rw [List.foldl_cons, List.length_cons]; omega
theorem fold_snoc (f : List TabT → LatT → List TabT) (P : List LatT) (l : LatT) (T : List TabT) : (P ++ [l]).foldl f T = f (P.foldl f T) l := by rw [List.foldl_append]; rfl
/-! ## Pairs -/
theorem mem_slideF {size step t : Int} {w : WinT} : ∀ (k : Nat) (f : Int), w ∈ slideF size step t k f → w.s ≤ t ∧ t < w.s + size ∧ w.e = w.s + size ∧ ∃ i : Nat, w.s = f + step * (i : Int)
  | 0, f, h => by simp [slideF] at h
  | k + 1, f, h => by
    unfold slideF at h
    split at h
    · rcases List.mem_append.1 h with h | h
      · split at h
        · simp at h; subst h; exact ⟨by assumption, by assumption, rfl, 0, by simp⟩
        · simp at h
      · obtain ⟨h1, h2, h3, i, h4⟩ := mem_slideF k (f + step) h
        exact ⟨h1, h2, h3, i + 1, by rw [h4]; push_cast; rw [Int.mul_add]; omega⟩
    · simp at h
theorem winsL_mem {j : JobT} {t : Int} {w : WinT} (h : w ∈ winsL j t) : w.s ≤ t ∧ t < w.s + j.size ∧ w.e = w.s + j.size ∧ ∃ i : Nat, w.s = winFrom j t + winStep j * (i : Int) := mem_slideF _ _ h
theorem mem_pairsL {j : JobT} {g : Nat → ItmT} {l : LatT} : ∀ {m : Nat}, l ∈ pairsL j g m ↔ ∃ i, i < m ∧ l.itm = g i ∧ l.win ∈ winsL j (g i).t
  | 0 => by simp [pairsL]
  | m + 1 => by
    unfold pairsL
    rw [List.mem_append, mem_pairsL (m := m), List.mem_map]
    constructor
    · rintro (⟨i, h1, h2⟩ | ⟨w, h1, rfl⟩)
      · exact ⟨i, by omega, h2⟩
      · exact ⟨m, by omega, rfl, h1⟩
    · rintro ⟨i, h1, h2, h3⟩
      rcases Nat.lt_succ_iff_lt_or_eq.1 h1 with h1 | rfl
      · exact .inl ⟨i, h1, h2, h3⟩
      · refine .inr ⟨l.win, h3, ?_⟩
        rw [← h2]
theorem recP_v {x : ItmT} (h : RecP x) : -9 ≤ x.v ∧ x.v ≤ 9 := by
  obtain ⟨h1, h2⟩ := h
  unfold ItmOkP at h2
  omega
theorem fine_pairs {j : JobT} {m : Nat} {g : Nat → ItmT} (h : SpcOkP j m g) : Fine (pairsL j g m) := by
  refine ⟨Nat.le_trans (pairsL_len j g m) (by have := h.2.1; omega), fun l hl => ?_⟩
  obtain ⟨i, hi, e, hw⟩ := mem_pairsL.1 hl
  have h1 := winsL_mem hw
  have h2 := h.1.2.2.2.1
  refine ⟨by omega, ?_⟩
  rw [e]
  exact recP_v (h.2.2 i hi)
theorem fine_spc (j : JobT) (m : Nat) (g : Nat → ItmT) : Fine (spcL j m g) := by
  unfold spcL
  split
  · exact fine_pairs (by assumption)
  · exact ⟨by simp, fun l hl => by simp at hl⟩
theorem spcL_len (j : JobT) (m : Nat) (g : Nat → ItmT) : (spcL j m g).length ≤ 12000 := by
  unfold spcL
  split
  · rename_i h
    exact Nat.le_trans (pairsL_len j g m) (by have := h.2.1; omega)
  · simp
/-! ## Rows taken out, one by one -/
theorem outs_step {T T2 : List TabT} {p : TabT → Bool} {s : TabT} (h : T2 = T.filter p) : tOut s.key s.win T2 = T.filter fun r => p r && !decide (IsRow s.key s.win r) := by
  rw [tOut_filter, h, List.filter_filter]
  refine congrArg (fun f => T.filter f) (funext fun r => ?_)
  rw [Bool.and_comm]
theorem outs_all {k : Int} {w : WinT} {T : List TabT} : (T.filter fun r => !(T.any fun s => tchD k w s && decide (IsRow s.key s.win r))) = T.filter fun r => !tchD k w r := by
  refine List.filter_congr fun r hr => ?_
  refine congrArg (!·) (Bool.eq_iff_iff.2 ?_)
  rw [List.any_eq_true]
  constructor
  · rintro ⟨s, _, h⟩
    rw [Bool.and_eq_true, decide_eq_true_eq] at h
    obtain ⟨h1, h2⟩ := h
    unfold tchD at *
    rw [decide_eq_true_eq] at *
    unfold IsRow at h2
    omega
  · intro h
    exact ⟨r, hr, by rw [h]; simp [IsRow]⟩
end Go.Rk
/- Sessions, and tables of records: sess. -/
namespace Go.Rk
set_option linter.unusedSimpArgs false
set_option linter.unusedVariables false
open Go.Proofs
set_option maxRecDepth 100000
set_option maxHeartbeats 1000000
def st_l6s (n : Nat) (g : Nat → TabT) (x : ItmT) (w : WinT) (i c : Nat) (row : Nat → TabT) (a : AggT) (sp : WinT) : St := ⟨[(10, .c (.d (eI i))), (0, .c (.d (.sl 7 n fun i => eTab (g i)))), (8, .c (.own 960 0 c 1)), (4, .c (.bp 256 1 0)), (5, .c (.bp 320 1 0)), (7, .c (.bp 448 1 0)), (9, .c (.bp 576 1 0))], [(256, 1, .box ((eItm x).map .d)), (320, 1, .box ((eWin w).map .d)), (448, 1, .box ((eAgg a).map .d)), (576, 1, .box ((eWin sp).map .d)), (960, 1, .arr 7 c fun k => eTab (row k))]⟩
theorem c_l6Sess (T : List TabT) (n : Nat) (g : Nat → TabT) (hT : Lst zTab T n g) (hn : n ≤ 1080000) (x : ItmT) (w : WinT) (n0 : Nat) (G0 : Nat → TabT) (h0 : Lst zTab (sessS x.key w x.v T) n0 G0) : Meets Try.prog 104 [.c (.d (.sl 7 n fun i => eTab (g i))), xd (eItm x), xd (eWin w)] ⟨.one (.c (.own 7 n0 fun i => eTab (G0 i))), [none, none, none]⟩ := by
  have hnL : n ≤ maxLen := Nat.le_trans hn (by decide)
  obtain ⟨a1, ha1⟩ : ∃ a, a = aggAdd zAgg x.v := ⟨_, rfl⟩
  have cA := c_sAggAdd zAgg x.v a1 ha1
  refine meets_of (H := [11]) (EX := EXA) ttok mixed Try.func104 rfl (by kernel_rfl) (by decide) ?_
  generalize hA : real = A
  generalize hM : Meets Try.prog = M
  cbv
  repeat' first
    | apply And.intro
    | exact True.intro
    | with_reducible rfl
    | exact same_of hA rfl
    | refine br_of hA (fun _ => ?_) (fun _ => ?_)
    | exact imp_of hA id
    | (refine imp_of hA ?_; subst hA; simp only [real, Bool.true_and]; exact id)
    | (refine ind_of hA ?_; decide +kernel)
    | (refine call_of hA hM _ cA ?_; cbv)
  refine loop_of hA (α := { q : Nat × Nat × (Nat → TabT) × AggT × WinT // q.1 ≤ n ∧ Lst zTab ((T.take q.1).filter fun r => !tchD x.key w r) q.2.1 q.2.2.1 ∧ q.2.2.2.1 = (((T.take q.1).filter (tchD x.key w)).map (·.agg)).foldl aggB (agg1 x.v) ∧ q.2.2.2.2 = (((T.take q.1).filter (tchD x.key w)).map (·.win)).foldl winSpan w }) (fun y => st_l6s n g x w y.1.1 y.1.2.1 y.1.2.2.1 y.1.2.2.2.1 y.1.2.2.2.2) (fun y => n - y.1.1) ⟨(0, 0, (fun _ => zTab), a1, w), Nat.zero_le _, ⟨rfl, fun k h => absurd h (Nat.not_lt_zero k)⟩, by rw [ha1]; rfl, rfl⟩ ?_ ?_
  · refine cov_of ?_ ?_ ?_
    · cbv; try (subst hA; repeat' first | apply And.intro | exact True.intro | rfl | fail)
    · cbv; try (subst hA; repeat' first | apply And.intro | exact True.intro | rfl | (intro _ _; rfl) | (intro k hk; exact absurd hk (Nat.not_lt_zero k)) | fail)
    · cbv; try (subst hA; repeat' first | apply And.intro | exact True.intro | rfl | exact .inr trivial | exact .inl trivial)
  rintro ⟨⟨i, c, G, a, sp⟩, hi, hG, ha, hsp⟩
  have hi : i ≤ n := hi
  have hG : Lst zTab ((T.take i).filter fun r => !tchD x.key w r) c G := hG
  have ha : a = (((T.take i).filter (tchD x.key w)).map (·.agg)).foldl aggB (agg1 x.v) := ha
  have hsp : sp = (((T.take i).filter (tchD x.key w)).map (·.win)).foldl winSpan w := hsp
  have hci : c ≤ i := by
    rw [hG.1]
    exact Nat.le_trans (List.length_filter_le _ _) (by rw [List.length_take]; omega)
  obtain ⟨a', ha'⟩ : ∃ z, z = aggB a (g i).agg := ⟨_, rfl⟩
  obtain ⟨sp', hsp'⟩ : ∃ z, z = winSpan sp (g i).win := ⟨_, rfl⟩
  have cB := c_sAggBoth a (g i).agg a' ha'
  have cS := c_sWinSpan sp (g i).win sp' hsp'
  cbv
  repeat' first
    | apply And.intro
    | exact True.intro
    | with_reducible rfl
    | exact same_of hA rfl
    | refine br_of hA (fun _ => ?_) (fun _ => ?_)
    | exact imp_of hA id
    | (refine imp_of hA ?_; subst hA; simp only [real, Bool.true_and]; exact id)
    | (refine ind_of hA ?_; decide +kernel)
    | (refine call_ex hA hM (c_sWinTouch _ _ _ _) (fun _ _ => ?_); cbv)
    | (refine inb_lt hA ?_; first | exact lt2_of hA (by assumption) | exact lt_of hA (by assumption))
    | exact flat_tab hA _ _
    | (refine call_of2 hA hM _ cB (by (subst hA; first | rfl | (simp only [sub0r]; try rfl))) ?_; cbv)
    | (refine call_of2 hA hM _ cS (by (subst hA; first | rfl | (simp only [sub0r]; try rfl))) ?_; cbv)
    | exact room_add2 hA (by omega) (by decide)
  · rename_i hlt b hb hc
    have hlt' : i < n := by first | exact lt2_of hA hlt | exact lt_of hA hlt
    have hb : b = decide ((g i).win.s < w.e ∧ w.s < (g i).win.e) := by subst hA; exact hb
    have ht : tchD x.key w (g i) = true := by
      subst hA
      have hc : (bif (g i).key == x.key then b else false) = true := hc
      rw [bifA, Bool.and_eq_true, hb, decide_eq_true_eq] at hc
      exact decide_eq_true ⟨eq_of_beq hc.1, hc.2⟩
    refine ⟨⟨(i + 1, c, G, a', sp'), hlt', ?_, ?_, ?_⟩, by simp only; omega, cov_of ?_ ?_ ?_⟩
    · simp only
      rw [lst_take hT hlt', List.filter_append]
      have e : ([g i].filter fun r => !tchD x.key w r) = [] := by simp [ht]
      rw [e, List.append_nil]; exact hG
    · simp only
      rw [lst_take hT hlt', List.filter_append]
      have e : [g i].filter (tchD x.key w) = [g i] := by simp [ht]
      rw [e, List.map_append, List.foldl_append, ← ha, ha']; rfl
    · simp only
      rw [lst_take hT hlt', List.filter_append]
      have e : [g i].filter (tchD x.key w) = [g i] := by simp [ht]
      rw [e, List.map_append, List.foldl_append, ← hsp, hsp']; rfl
    · cbv; subst hA; repeat' first | apply And.intro | exact True.intro | exact congrArg (fun x => DV.v (.int .i64 x)) (up64 hlt' hnL) | rfl
    · cbv; try (subst hA; repeat' first | apply And.intro | exact True.intro | rfl | (intro _ _; rfl))
    · cbv; try (subst hA; repeat' first | apply And.intro | exact True.intro | rfl | exact .inr trivial | exact .inl trivial)
  · rename_i hlt b hb hc
    have hlt' : i < n := by first | exact lt2_of hA hlt | exact lt_of hA hlt
    have hb : b = decide ((g i).win.s < w.e ∧ w.s < (g i).win.e) := by subst hA; exact hb
    have ht : tchD x.key w (g i) = false := by
      subst hA
      have hc : (bif (g i).key == x.key then b else false) = false := hc
      rw [bifA] at hc
      refine decide_eq_false fun e => ?_
      have h1 : ((g i).key == x.key) = true := beq_iff_eq.2 e.1
      have h2 : b = true := by rw [hb]; exact decide_eq_true e.2
      rw [h1, h2] at hc; cases hc
    refine ⟨⟨(i + 1, c + 1, (fun q => if q < c then G q else g i), a, sp), hlt', ?_, ?_, ?_⟩, by simp only; omega, cov_of ?_ ?_ ?_⟩
    · simp only
      rw [lst_take hT hlt', List.filter_append]
      have e : ([g i].filter fun r => !tchD x.key w r) = [g i] := by simp [ht]
      rw [e]; exact lst_snoc hG
    · simp only
      rw [lst_take hT hlt', List.filter_append]
      have e : [g i].filter (tchD x.key w) = [] := by simp [ht]
      rw [e, List.append_nil]; exact ha
    · simp only
      rw [lst_take hT hlt', List.filter_append]
      have e : [g i].filter (tchD x.key w) = [] := by simp [ht]
      rw [e, List.append_nil]; exact hsp
    · cbv; subst hA; repeat' first | apply And.intro | exact True.intro | exact congrArg (fun x => DV.v (.int .i64 x)) (up64 hlt' hnL) | rfl
    · cbv
      subst hA
      repeat' first | apply And.intro | exact True.intro | rfl | (intro _ _; rfl) | (intro q hq; exact push_if eTab rfl c G _ _ q hq)
    · cbv; try (subst hA; repeat' first | apply And.intro | exact True.intro | rfl | exact .inr trivial | exact .inl trivial)
  · rename_i hge
    have hin : i = n := by first | (have := ge2_of hA hge; omega) | (have := ge_of hA hge; omega)
    subst hin
    rw [lst_all hT] at hG ha hsp
    have cP := c_sPut _ c G hG (by omega) ⟨x.key, sp, a⟩ n0 G0 (by rw [hsp, ha]; exact h0)
    refine stop_of hA ⟨[(8, .c (.own 960 0 c 1)), (4, .c (.bp 256 1 0)), (7, .c (.bp 448 1 0)), (9, .c (.bp 576 1 0))], [(256, 1, .box ((eItm x).map .d)), (448, 1, .box ((eAgg a).map .d)), (576, 1, .box ((eWin sp).map .d)), (960, 1, .arr 7 c fun k => eTab (G k))]⟩ (cov_of ?_ ?_ ?_) ?_
    · cbv; try (subst hA; repeat' first | apply And.intro | exact True.intro | rfl | (intro _ _; rfl))
    · cbv; try (subst hA; repeat' first | apply And.intro | exact True.intro | rfl | (intro _ _; rfl) | (intro k hk; exact absurd hk (Nat.not_lt_zero k)) | (intro _ _; rfl))
    · cbv; try (subst hA; repeat' first | apply And.intro | exact True.intro | rfl | exact .inr trivial | exact .inl trivial)
    cbv
    repeat' first
      | apply And.intro
      | exact True.intro
      | with_reducible rfl
      | exact same_of hA rfl
      | refine br_of hA (fun _ => ?_) (fun _ => ?_)
      | exact imp_of hA id
      | (refine imp_of hA ?_; subst hA; simp only [real, Bool.true_and]; exact id)
      | (refine ind_of hA ?_; decide +kernel)
      | (refine call_of2 hA hM _ cP (by (subst hA; first | rfl | (simp only [sub0r]; try rfl))) ?_; cbv)
      | exact flat_tab hA _ _
theorem flat_lat {A : Ar} (hA : real = A) (n : Nat) (G : Nat → LatT) : A.flat n (fun i => eLat (G i)) := by
  subst hA
  intro i _ x hx
  simp only [eLat, List.mem_cons, List.not_mem_nil, or_false] at hx
  rcases hx with rfl | rfl | rfl | rfl | rfl | rfl | rfl <;> exact ⟨_, rfl⟩
end Go.Rk
/- Sessions, and tables of records: spec. -/
namespace Go.Rk
set_option linter.unusedSimpArgs false
set_option linter.unusedVariables false
open Go.Proofs
set_option maxRecDepth 100000
set_option maxHeartbeats 1000000
def st_sSpcT (j : JobT) (n : Nat) (gp : Nat → LatT) (i c : Nat) (G : Nat → TabT) : St := ⟨[(7, .c (.d (eI i))), (6, .c (.d (.sl 7 n fun i => eLat (gp i)))), (5, .c (.own 320 0 c 1)), (2, .c (.bp 128 1 0))], [(128, 1, .box ((eJob j).map .d)), (320, 1, .arr 7 c fun k => eTab (G k))]⟩
theorem c_sSpcT (j : JobT) (m : Nat) (hm : m ≤ maxLen) (g : Nat → ItmT) (n0 : Nat) (G0 : Nat → TabT) (h0 : Lst zTab (spcT j.kind (spcL j m g)) n0 G0) : Meets Try.prog 59 [xd (eJob j), .c (.d (.sl 5 m fun i => eItm (g i)))] ⟨.one (.c (.own 7 n0 fun i => eTab (G0 i))), [none, none]⟩ := by
  obtain ⟨P, hP⟩ : ∃ P, P = spcL j m g := ⟨_, rfl⟩
  have hfi : Fine P := by rw [hP]; exact fine_spc j m g
  have hPl : P.length ≤ 12000 := by rw [hP]; exact spcL_len j m g
  rw [← hP] at h0
  obtain ⟨n, gp, hl⟩ := lst_ex zLat P
  have hn : n ≤ 12000 := by rw [hl.1]; exact hPl
  have hnL : n ≤ maxLen := Nat.le_trans hn (by decide)
  have cPair := meets_frz (c_sSpc j m hm g n gp (by rw [← hP]; exact lst_tells eLat hl)) rfl
  refine meets_of (H := [11]) (EX := EXA) ttok mixed Try.func59 rfl (by kernel_rfl) (by decide) ?_
  generalize hA : real = A
  generalize hM : Meets Try.prog = M
  cbv
  repeat' first
    | apply And.intro
    | exact True.intro
    | with_reducible rfl
    | exact same_of hA rfl
    | refine br_of hA (fun _ => ?_) (fun _ => ?_)
    | exact imp_of hA id
    | (refine imp_of hA ?_; subst hA; simp only [real, Bool.true_and]; exact id)
    | (refine ind_of hA ?_; decide +kernel)
    | (refine call_of hA hM _ cPair ?_; cbv)
    | exact flat_lat hA _ _
  refine loop_of hA (α := { q : Nat × Nat × (Nat → TabT) // q.1 ≤ n ∧ Lst zTab ((P.take q.1).foldl (stepS j.kind) []) q.2.1 q.2.2 }) (fun y => st_sSpcT j n gp y.1.1 y.1.2.1 y.1.2.2) (fun y => n - y.1.1) ⟨(0, 0, fun _ => zTab), Nat.zero_le _, rfl, fun k h => absurd h (Nat.not_lt_zero k)⟩ ?_ ?_
  · refine cov_rel 320 1 (k := 5) (l := 704) (sz := 7) rfl rfl rfl rfl (cov_of ?_ ?_ ?_)
    · cbv; try (subst hA; repeat' first | apply And.intro | exact True.intro | rfl | fail)
    · cbv; try (subst hA; repeat' first | apply And.intro | exact True.intro | rfl | (intro _ _; rfl) | (intro k hk; exact absurd hk (Nat.not_lt_zero k)) | fail)
    · cbv; try (subst hA; repeat' first | apply And.intro | exact True.intro | rfl | exact .inr trivial | exact .inl trivial)
  rintro ⟨⟨i, c, G⟩, hi, hT⟩
  have hi : i ≤ n := hi
  obtain ⟨T, hTe⟩ : ∃ T, T = (P.take i).foldl (stepS j.kind) [] := ⟨_, rfl⟩
  have hT : Lst zTab T c G := by rw [hTe]; exact hT
  have hci : c ≤ i := by
    rw [hT.1, hTe]
    have h1 := fold_len (stepS_len j.kind) (P.take i) []
    rw [List.length_take] at h1
    simp only [List.length_nil] at h1
    omega
  have hnext : i < n → ∀ m H, Lst zTab (stepS j.kind T (gp i)) m H → i + 1 ≤ n ∧ Lst zTab ((P.take (i + 1)).foldl (stepS j.kind) []) m H := fun h m H hH => ⟨h, by rw [lst_take hl h, fold_snoc, ← hTe]; exact hH⟩
  obtain ⟨a, ha⟩ : ∃ a, a = (tFind (gp i).itm.key (gp i).win T).getD zAgg := ⟨_, rfl⟩
  obtain ⟨b, hb⟩ : ∃ b, b = (tFind (gp i).itm.key (gp i).win T).isSome := ⟨_, rfl⟩
  obtain ⟨ag, hag⟩ : ∃ x, x = aggAdd a (gp i).itm.v := ⟨_, rfl⟩
  obtain ⟨np, Gp, hPu⟩ := lst_ex zTab (tPut ⟨(gp i).itm.key, (gp i).win, ag⟩ T)
  obtain ⟨ns, Gs, hS⟩ := lst_ex zTab (sessS (gp i).itm.key (gp i).win (gp i).itm.v T)
  have cF := c_sFind T c G hT (by omega) (gp i).itm.key (gp i).win a ha b hb
  have cA := c_sAggAdd a (gp i).itm.v ag hag
  have cP := c_sPut T c G hT (by omega) _ np Gp hPu
  have cS := c_l6Sess T c G hT (by omega) (gp i).itm (gp i).win ns Gs hS
  cbv
  repeat' first
    | apply And.intro
    | exact True.intro
    | with_reducible rfl
    | exact same_of hA rfl
    | refine br_of hA (fun _ => ?_) (fun _ => ?_)
    | exact imp_of hA id
    | (refine imp_of hA ?_; subst hA; simp only [real, Bool.true_and]; exact id)
    | (refine ind_of hA ?_; decide +kernel)
    | (refine inb_lt hA ?_; first | exact lt2_of hA (by assumption) | exact lt_of hA (by assumption))
    | exact flat_tab hA _ _
    | (refine call_of2 hA hM _ cF (by (subst hA; first | rfl | (simp only [sub0r]; try rfl))) ?_; cbv)
    | (refine call_of2 hA hM _ cA (by (subst hA; first | rfl | (simp only [sub0r]; try rfl))) ?_; cbv)
    | (refine call_of2 hA hM _ cP (by (subst hA; first | rfl | (simp only [sub0r]; try rfl))) ?_; cbv)
    | (refine call_of2 hA hM _ cS (by (subst hA; first | rfl | (simp only [sub0r]; try rfl))) ?_; cbv)
  · rename_i hlt hk
    have hlt' : i < n := by first | exact lt2_of hA hlt | exact lt_of hA hlt
    have hk : j.kind = 3 := by subst hA; exact of_decide_eq_true hk
    refine ⟨⟨(i + 1, ns, Gs), hnext hlt' _ _ ?_⟩, by simp only; omega, cov_rel 320 2 (k := 5) (l := 2304) (sz := 7) rfl rfl rfl rfl (cov_of ?_ ?_ ?_)⟩
    · unfold stepS; rw [if_pos hk]; exact hS
    · cbv; subst hA; repeat' first | apply And.intro | exact True.intro | exact congrArg (fun x => DV.v (.int .i64 x)) (up64 hlt' hnL) | rfl
    · cbv; try (subst hA; repeat' first | apply And.intro | exact True.intro | rfl | (intro _ _; rfl))
    · cbv; try (subst hA; repeat' first | apply And.intro | exact True.intro | rfl | exact .inr trivial | exact .inl trivial)
  · rename_i hlt hk
    have hlt' : i < n := by first | exact lt2_of hA hlt | exact lt_of hA hlt
    have hk : ¬ j.kind = 3 := by subst hA; exact of_decide_eq_false hk
    refine ⟨⟨(i + 1, np, Gp), hnext hlt' _ _ ?_⟩, by simp only; omega, cov_rel 320 2 (k := 5) (l := 3968) (sz := 7) rfl rfl rfl rfl (cov_of ?_ ?_ ?_)⟩
    · unfold stepS stepW; rw [if_neg hk, ← ha, ← hag]; exact hPu
    · cbv; subst hA; repeat' first | apply And.intro | exact True.intro | exact congrArg (fun x => DV.v (.int .i64 x)) (up64 hlt' hnL) | rfl
    · cbv; try (subst hA; repeat' first | apply And.intro | exact True.intro | rfl | (intro _ _; rfl))
    · cbv; try (subst hA; repeat' first | apply And.intro | exact True.intro | rfl | exact .inr trivial | exact .inl trivial)
  · rename_i hge
    have hin : i = n := by first | (have := ge2_of hA hge; omega) | (have := ge_of hA hge; omega)
    subst hin
    rw [lst_all hl] at hTe
    rw [hTe] at hT
    have hcc : c = n0 := hT.1.trans h0.1.symm
    subst hcc
    refine stop_of hA ⟨[(5, .c (.own 320 0 c 1))], [(320, 1, .arr 7 c fun i => eTab (G0 i))]⟩ (cov_of ?_ ?_ ?_) ?_
    · cbv
    · cbv
      exact ⟨fun q hq => congrArg eTab ((hT.2 q hq).trans (h0.2 q hq).symm), trivial⟩
    · cbv
    · cbv
      repeat' first
        | apply And.intro
        | exact True.intro
        | with_reducible rfl
        | exact same_of hA rfl
        | refine br_of hA (fun _ => ?_) (fun _ => ?_)
        | exact imp_of hA id
        | (refine imp_of hA ?_; subst hA; simp only [real, Bool.true_and]; exact id)
        | (refine ind_of hA ?_; decide +kernel)
end Go.Rk
/- Draws. -/
namespace Go.Rk
set_option linter.unusedSimpArgs false
set_option linter.unusedVariables false
open Go.Proofs
set_option maxRecDepth 100000 in
theorem m_pick (m : Nat) (hm : m ≤ 2000) (b : Nat → Int) (hb : ∀ i, 0 ≤ b i ∧ b i ≤ 255) (p : Int) (hp : 0 ≤ p ∧ p ≤ 1000000) (n : Int) (hn : 1 ≤ n ∧ n ≤ 1000000) (x : Int) (hx : x = pickV m b p n) (q : Int) (hq : q = p + 1) : Meets Try.prog 94 [.c (.box [.d (.sl 1 m fun i => [eU (b i)]), .d (eI p)]), .c (.d (eI n))] ⟨.one (.c (.d (eI x))), [some (.box [.d (.sl 1 m fun i => [eU (b i)]), .d (eI q)]), none]⟩ := by
  have w1 : IntKind.i64.wrap (p + 1) = q := by rw [IntWalk.i64_in _ (by omega)]; omega
  have w2 : IntKind.i64.wrap (q - 1) = p := by rw [IntWalk.i64_in _ (by omega)]; omega
  have w7 : IntKind.i64.wrap (p * 7) = p * 7 := IntWalk.i64_in _ (by omega)
  have w73 : IntKind.i64.wrap (p * 7 + 3) = p * 7 + 3 := IntWalk.i64_in _ (by omega)
  have mpos : real.bite (real.cmp .lss n 1) true (real.cmp .eql (real.int m) 0) = false → 1 ≤ m := fun h => by
    have h : (bif decide (n < 1) then true else ((m : Int) == 0)) = false := h
    rw [decide_eq_false (by omega)] at h
    have h : ((m : Int) == 0) = false := h
    have h : ¬ (m : Int) = 0 := by simpa using h
    omega
  refine meets_of (H := []) (EX := EXA) ttok mixed Try.func94 rfl (by kernel_rfl) (by decide) ?_
  generalize hA : real = A
  generalize hM : Meets Try.prog = M
  cbv
  repeat' first
    | apply And.intro
    | exact True.intro
    | with_reducible rfl
    | exact same_of hA rfl
    | refine br_of hA (fun _ => ?_) (fun _ => ?_)
    | exact imp_of hA id
    | (refine imp_of hA ?_; subst hA; simp only [real, Bool.true_and]; exact id)
    | (refine ind_of hA ?_; decide +kernel)
    | (refine nz_of hA ?_; first | (show n ≠ 0; omega) | (show (64 : Int) ≠ 0; decide) | (rename_i h1 h2; subst hA; have h3 := mpos h1; show (m : Int) ≠ 0; omega))
  · rename_i hbad
    subst hA
    have h : (bif decide (n < 1) then true else ((m : Int) == 0)) = true := hbad
    rw [decide_eq_false (by omega)] at h
    have h : ((m : Int) == 0) = true := h
    have h : (m : Int) = 0 := by simpa using h
    refine congrArg (fun z => XA.one (.c (.d (eI z)))) ?_
    rw [hx]; unfold pickV; rw [if_pos (by omega)]
  · rename_i hbad
    subst hA
    exact congrArg (fun z => [some (XV.box [XC.d (DV.sl 1 m fun i => [eU (b i)]), XC.d (eI z)]), none]) w1
  · rename_i hg hlt
    refine inb_of hA fun _ => ?_
    subst hA
    have hlt : decide (IntKind.i64.wrap (IntKind.i64.wrap (p + 1) - 1) < (m : Int)) = true := hlt
    have hlt := of_decide_eq_true hlt
    show 0 ≤ IntKind.i64.wrap (IntKind.i64.wrap (p + 1) - 1) ∧ IntKind.i64.wrap (IntKind.i64.wrap (p + 1) - 1) < (m : Int)
    rw [w1, w2] at hlt ⊢
    exact ⟨hp.1, hlt⟩
  · rename_i hg hlt
    subst hA
    have hlt : decide (IntKind.i64.wrap (IntKind.i64.wrap (p + 1) - 1) < (m : Int)) = true := hlt
    have hlt := of_decide_eq_true hlt
    rw [w1, w2] at hlt
    refine congrArg (fun z => XA.one (.c (.d (eI z)))) ?_
    have h1 := mpos hg
    show (IntKind.i64.wrap (b (IntKind.i64.wrap (IntKind.i64.wrap (p + 1) - 1)).toNat)).tmod n = x
    have hbb := hb p.toNat
    rw [w1, w2, IntWalk.i64_in _ (by omega), hx]
    unfold pickV
    rw [if_neg (by omega), if_pos hlt]
  · rename_i hg hlt
    subst hA
    exact congrArg (fun z => [some (XV.box [XC.d (DV.sl 1 m fun i => [eU (b i)]), XC.d (eI z)]), none]) w1
  · rename_i hg hlt
    refine inb_of hA fun _ => ?_
    subst hA
    have h1 := mpos hg
    show 0 ≤ (IntKind.i64.wrap (IntKind.i64.wrap (p + 1) - 1)).tmod (m : Int) ∧ (IntKind.i64.wrap (IntKind.i64.wrap (p + 1) - 1)).tmod (m : Int) < (m : Int)
    rw [w1, w2]
    exact tmod_in hp.1 (Int.ofNat_le.2 h1)
  · rename_i hg hlt
    refine inb_of hA fun _ => ?_
    subst hA
    have h1 := mpos hg
    show 0 ≤ (IntKind.i64.wrap (IntKind.i64.wrap (IntKind.i64.wrap (IntKind.i64.wrap (p + 1) - 1) * 7) + 3)).tmod (m : Int) ∧ (IntKind.i64.wrap (IntKind.i64.wrap (IntKind.i64.wrap (IntKind.i64.wrap (p + 1) - 1) * 7) + 3)).tmod (m : Int) < (m : Int)
    rw [w1, w2, w7, w73]
    exact tmod_in (by omega) (Int.ofNat_le.2 h1)
  · rename_i hg hlt
    subst hA
    have hlt : decide (IntKind.i64.wrap (IntKind.i64.wrap (p + 1) - 1) < (m : Int)) = false := hlt
    have hlt := of_decide_eq_false hlt
    rw [w1, w2] at hlt
    have h1 := mpos hg
    refine congrArg (fun z => XA.one (.c (.d (eI z)))) ?_
    rw [hx]; unfold pickV
    rw [if_neg (by omega), if_neg hlt]
    have hy := pickY_in (m := m) (p := p) (b := b) h1 hb hp
    obtain ⟨W, hW⟩ : ∃ W, W = IntKind.i64.wrap (IntKind.i64.wrap (p + 1) - 1) := ⟨_, rfl⟩
    have hWp : W = p := by rw [hW, w1, w2]
    obtain ⟨Y, hY⟩ : ∃ Y, Y = IntKind.i64.wrap (IntKind.i64.wrap (IntKind.i64.wrap (IntKind.i64.wrap (IntKind.i64.wrap (b (W.tmod (m : Int)).toNat) * 131) + IntKind.i64.wrap (IntKind.i64.wrap (b ((IntKind.i64.wrap (IntKind.i64.wrap (W * 7) + 3)).tmod (m : Int)).toNat) * 1117)) + IntKind.i64.wrap (W * 29)) + IntKind.i64.wrap (IntKind.i64.wrap (W.tdiv (m : Int)) * 53)) := ⟨_, rfl⟩
    have hYp : Y = pickY m b p := by
      rw [hY, hWp, w7, w73]
      unfold pickY
      have b1 := hb (p.tmod (m : Int)).toNat
      have b2 := hb ((p * 7 + 3).tmod (m : Int)).toNat
      have d1 : 0 ≤ p.tdiv (m : Int) := Int.tdiv_nonneg hp.1 (Int.natCast_nonneg m)
      have d2 : p.tdiv (m : Int) ≤ p := Int.tdiv_le_self (m : Int) hp.1
      generalize b (p.tmod (m : Int)).toNat = c1 at b1 ⊢
      generalize b ((p * 7 + 3).tmod (m : Int)).toNat = c2 at b2 ⊢
      generalize p.tdiv (m : Int) = d at d1 d2 ⊢
      rw [IntWalk.i64_in c1 (by omega), IntWalk.i64_in c2 (by omega), IntWalk.i64_in d (by omega), IntWalk.i64_in (c1 * 131) (by omega), IntWalk.i64_in (c2 * 1117) (by omega), IntWalk.i64_in (p * 29) (by omega), IntWalk.i64_in (d * 53) (by omega), IntWalk.i64_in (c1 * 131 + c2 * 1117) (by omega), IntWalk.i64_in (c1 * 131 + c2 * 1117 + p * 29) (by omega), IntWalk.i64_in _ (by omega)]
    have q1 : 0 ≤ (pickY m b p).tdiv 64 := Int.tdiv_nonneg hy.1 (by decide)
    have q2 : (pickY m b p).tdiv 64 ≤ pickY m b p := Int.tdiv_le_self 64 hy.1
    have key : (IntKind.i64.wrap (BitVec.ofInt 64 Y ^^^ BitVec.ofInt 64 (IntKind.i64.wrap (Y.tdiv 64))).toNat).tmod n = (pickX (pickY m b p)).tmod n := by
      rw [hYp, IntWalk.i64_in ((pickY m b p).tdiv 64) (by omega)]; rfl
    rw [← key, hY, hW]
    rfl
  · rename_i hg hlt
    subst hA
    exact congrArg (fun z => [some (XV.box [XC.d (DV.sl 1 m fun i => [eU (b i)]), XC.d (eI z)]), none]) w1
end Go.Rk
/- Draws, of records and jobs. -/
namespace Go.Rk
set_option linter.unusedSimpArgs false
set_option linter.unusedVariables false
open Go.Proofs
set_option maxRecDepth 100000 in
theorem m_open (M0 : Nat) (b : Nat → Int) (m : Nat) (hm : m = if 2000 < M0 then 2000 else M0) : Meets Try.prog 71 [.c (.d (.sl 1 M0 fun i => [eU (b i)]))] ⟨.one (.c (.box [.d (.sl 1 m fun i => [eU (b i)]), .d (eI 0)])), [none]⟩ := by
  refine meets_of (H := []) (EX := EXA) ttok mixed Try.func71 rfl (by kernel_rfl) (by decide) ?_
  generalize hA : real = A
  generalize hM : Meets Try.prog = M
  cbv
  repeat' first
    | apply And.intro
    | exact True.intro
    | with_reducible rfl
    | exact same_of hA rfl
    | refine br_of hA (fun _ => ?_) (fun _ => ?_)
    | exact imp_of hA id
    | (refine imp_of hA ?_; subst hA; simp only [real, Bool.true_and]; exact id)
    | (refine ind_of hA ?_; decide +kernel)
    | (refine cut_of hA ?_; rename_i h; subst hA; have h9 : decide ((M0 : Int) > 2000) = true := h; have := of_decide_eq_true h9; exact ⟨Int.le_refl _, (by decide), (show (2000 : Int) ≤ (M0 : Int) by omega)⟩)
  · rename_i h
    subst hA
    have h9 : decide ((M0 : Int) > 2000) = true := h
    have h8 := of_decide_eq_true h9
    have e : m = 2000 := by rw [hm]; exact if_pos (by omega)
    subst e
    have e2 : (fun i => (fun i => [eU (b i)]) (0 + i)) = fun i => [eU (b i)] := by funext i; rw [Nat.zero_add]
    exact congrArg (fun f => XA.one (XT.c (.box [.d (.sl 1 2000 f), .d (eI 0)]))) e2
  · rename_i h
    subst hA
    have h9 : decide ((M0 : Int) > 2000) = false := h
    have h8 := of_decide_eq_false h9
    have e : m = M0 := by rw [hm]; exact if_neg (by omega)
    subst e
    rfl
set_option maxRecDepth 100000 in
theorem c_rec (m : Nat) (hm : m ≤ 2000) (b : Nat → Int) (hb : ∀ i, 0 ≤ b i ∧ b i ≤ 255) (p : Int) (hp : 0 ≤ p ∧ p ≤ 100000) (q : Int) (hq : q = p + 4) : ∃ it : ItmT, Meets Try.prog 110 [.c (.box [.d (.sl 1 m fun i => [eU (b i)]), .d (eI p)])] ⟨.one (xd (eItm it)), [some (.box [.d (.sl 1 m fun i => [eU (b i)]), .d (eI q)])]⟩ := by
  obtain ⟨x0, hx0⟩ : ∃ x : Int, x = pickV m b p 61 := ⟨_, rfl⟩
  obtain ⟨p1, hp1⟩ : ∃ z : Int, z = p + 1 := ⟨_, rfl⟩
  have c0 := m_pick m hm b hb p (by omega) 61 (by omega) x0 hx0 p1 hp1
  have i0 := pickV_in (m := m) (b := b) (p := p) (n := 61) hb (by omega) (by omega)
  rw [← hx0] at i0
  obtain ⟨x1, hx1⟩ : ∃ x : Int, x = pickV m b p1 6 := ⟨_, rfl⟩
  obtain ⟨p2, hp2⟩ : ∃ z : Int, z = p1 + 1 := ⟨_, rfl⟩
  have c1 := m_pick m hm b hb p1 (by omega) 6 (by omega) x1 hx1 p2 hp2
  have i1 := pickV_in (m := m) (b := b) (p := p1) (n := 6) hb (by omega) (by omega)
  rw [← hx1] at i1
  obtain ⟨x2, hx2⟩ : ∃ x : Int, x = pickV m b p2 4 := ⟨_, rfl⟩
  obtain ⟨p3, hp3⟩ : ∃ z : Int, z = p2 + 1 := ⟨_, rfl⟩
  have c2 := m_pick m hm b hb p2 (by omega) 4 (by omega) x2 hx2 p3 hp3
  have i2 := pickV_in (m := m) (b := b) (p := p2) (n := 4) hb (by omega) (by omega)
  rw [← hx2] at i2
  obtain ⟨x3, hx3⟩ : ∃ x : Int, x = pickV m b p3 19 := ⟨_, rfl⟩
  obtain ⟨p4, hp4⟩ : ∃ z : Int, z = p3 + 1 := ⟨_, rfl⟩
  have c3 := m_pick m hm b hb p3 (by omega) 19 (by omega) x3 hx3 p4 hp4
  have i3 := pickV_in (m := m) (b := b) (p := p3) (n := 19) hb (by omega) (by omega)
  rw [← hx3] at i3
  obtain ⟨it, hit⟩ : ∃ it : ItmT, it = ⟨1, real.sel [0, 1, 5, 20, 60, x0] (real.add 0 (real.nat x1)), x2, real.ar .sub .i64 x3 9, 0⟩ := ⟨_, rfl⟩
  refine ⟨it, ?_⟩
  have hqq : p4 = q := by omega
  refine meets_of (H := []) (EX := EXA) ttok mixed Try.func110 rfl (by kernel_rfl) (by decide) ?_
  generalize hA : real = A
  generalize hM : Meets Try.prog = M
  cbv
  repeat' first
    | apply And.intro
    | exact True.intro
    | with_reducible rfl
    | exact same_of hA rfl
    | refine br_of hA (fun _ => ?_) (fun _ => ?_)
    | exact imp_of hA id
    | (refine imp_of hA ?_; subst hA; simp only [real, Bool.true_and]; exact id)
    | (refine ind_of hA ?_; decide +kernel)
    | (refine call_of hA hM _ c0 ?_; cbv)
    | (refine call_of hA hM _ c1 ?_; cbv)
    | (refine call_of hA hM _ c2 ?_; cbv)
    | (refine call_of hA hM _ c3 ?_; cbv)
    | (refine inb_of hA fun _ => ?_; exact ⟨i1.1, i1.2⟩)
    | (subst hA; subst hit; rfl)
    | (rw [hqq])
end Go.Rk
/- Draws, of items. -/
namespace Go.Rk
set_option linter.unusedSimpArgs false
set_option linter.unusedVariables false
open Go.Proofs
set_option maxRecDepth 100000
set_option maxHeartbeats 1000000
theorem c_item (m : Nat) (hm : m ≤ 2000) (b : Nat → Int) (hb : ∀ i, 0 ≤ b i ∧ b i ≤ 255) (p : Int) (hp : 0 ≤ p ∧ p ≤ 50000) (n : Int) (hn : 1 ≤ n ∧ n ≤ 100) : ∃ (it : ItmT) (q : Int), (p ≤ q ∧ q ≤ p + 20) ∧ Meets Try.prog 111 [.c (.box [.d (.sl 1 m fun i => [eU (b i)]), .d (eI p)]), .c (.d (eI n))] ⟨.one (xd (eItm it)), [some (.box [.d (.sl 1 m fun i => [eU (b i)]), .d (eI q)]), none]⟩ := by
  obtain ⟨q0, hq0⟩ : ∃ q : Int, q = p + 4 := ⟨_, rfl⟩
  obtain ⟨r, hr⟩ := c_rec m hm b hb p (by omega) q0 hq0
  obtain ⟨x4, hx4⟩ : ∃ x : Int, x = pickV m b q0 4 := ⟨_, rfl⟩
  obtain ⟨p5, hp5⟩ : ∃ z : Int, z = q0 + 1 := ⟨_, rfl⟩
  have c4 := m_pick m hm b hb q0 (by omega) 4 (by omega) x4 hx4 p5 hp5
  have i4 := pickV_in (m := m) (b := b) (p := q0) (n := 4) hb (by omega) (by omega)
  rw [← hx4] at i4
  by_cases h0 : x4 = 0
  · skip
    obtain ⟨x5, hx5⟩ : ∃ x : Int, x = pickV m b p5 4 := ⟨_, rfl⟩
    obtain ⟨p6, hp6⟩ : ∃ z : Int, z = p5 + 1 := ⟨_, rfl⟩
    have c5 := m_pick m hm b hb p5 (by omega) 4 (by omega) x5 hx5 p6 hp6
    have i5 := pickV_in (m := m) (b := b) (p := p5) (n := 4) hb (by omega) (by omega)
    rw [← hx5] at i5
    obtain ⟨x6, hx6⟩ : ∃ x : Int, x = pickV m b p6 n := ⟨_, rfl⟩
    obtain ⟨p7, hp7⟩ : ∃ z : Int, z = p6 + 1 := ⟨_, rfl⟩
    have c6 := m_pick m hm b hb p6 (by omega) n (by omega) x6 hx6 p7 hp7
    have i6 := pickV_in (m := m) (b := b) (p := p6) (n := n) hb (by omega) (by omega)
    rw [← hx6] at i6
    obtain ⟨x7, hx7⟩ : ∃ x : Int, x = pickV m b p7 7 := ⟨_, rfl⟩
    obtain ⟨p8, hp8⟩ : ∃ z : Int, z = p7 + 1 := ⟨_, rfl⟩
    have c7 := m_pick m hm b hb p7 (by omega) 7 (by omega) x7 hx7 p8 hp8
    have i7 := pickV_in (m := m) (b := b) (p := p7) (n := 7) hb (by omega) (by omega)
    rw [← hx7] at i7
    obtain ⟨x8, hx8⟩ : ∃ x : Int, x = pickV m b p8 5 := ⟨_, rfl⟩
    obtain ⟨p9, hp9⟩ : ∃ z : Int, z = p8 + 1 := ⟨_, rfl⟩
    have c8 := m_pick m hm b hb p8 (by omega) 5 (by omega) x8 hx8 p9 hp9
    have i8 := pickV_in (m := m) (b := b) (p := p8) (n := 5) hb (by omega) (by omega)
    rw [← hx8] at i8
    obtain ⟨i0, hi0⟩ : ∃ it : ItmT, it = ⟨2, real.sel [1, 10, 60, 1000] (real.add 0 (real.nat x5)), 0, 0, 0⟩ := ⟨_, rfl⟩
    obtain ⟨kv, hkv⟩ : ∃ z : Int, z = real.sel [-1, 0, 61, 4, 10, 1000, 901] (real.add 0 (real.nat x7)) := ⟨_, rfl⟩
    obtain ⟨it, hit⟩ : ∃ it : ItmT, it = bif decide (x6 > 0) then i0 else bif (x8 == 0) then { i0 with kind := kv } else bif (x8 == 1) then { i0 with t := kv } else bif (x8 == 2) then { i0 with key := kv } else bif (x8 == 3) then { i0 with v := kv } else { i0 with n := kv } := ⟨_, rfl⟩
    obtain ⟨q, hq⟩ : ∃ z : Int, z = bif decide (x6 > 0) then p7 else p9 := ⟨_, rfl⟩
    refine ⟨it, q, by rw [hq]; cases decide (x6 > 0) <;> simp only [cond_true, cond_false] <;> omega, ?_⟩
    refine meets_of (H := []) (EX := EXA) ttok mixed Try.func111 rfl (by kernel_rfl) (by decide) ?_
    generalize hA : real = A
    generalize hM : Meets Try.prog = M
    cbv
    repeat' first
      | (refine br_t hA (by subst hA; exact (show (x4 == 0) = true by rw [h0]; rfl)) ?_)
      | apply And.intro
      | exact True.intro
      | with_reducible rfl
      | exact same_of hA rfl
      | refine br_of hA (fun _ => ?_) (fun _ => ?_)
      | exact imp_of hA id
      | (refine imp_of hA ?_; subst hA; simp only [real, Bool.true_and]; exact id)
      | (refine ind_of hA ?_; decide +kernel)
      | (refine call_of hA hM _ hr ?_; cbv)
      | (refine call_of hA hM _ c4 ?_; cbv)
      | (refine call_of hA hM _ c5 ?_; cbv)
      | (refine call_of hA hM _ c6 ?_; cbv)
      | (refine call_of hA hM _ c7 ?_; cbv)
      | (refine call_of hA hM _ c8 ?_; cbv)
      | (refine inb_of hA fun _ => ?_; exact ⟨i5.1, i5.2⟩)
      | (refine inb_of hA fun _ => ?_; exact ⟨i7.1, i7.2⟩)
    · rename_i hg; subst hA; have e0 : decide (x6 > 0) = true := hg; rw [hit, e0]; subst hkv; subst hi0; rfl
    · rename_i hg; subst hA; have e0 : decide (x6 > 0) = true := hg; rw [hq, e0]; rfl
    · rename_i hg s0; subst hA; have e0 : decide (x6 > 0) = false := hg; have e1 : (x8 == 0) = true := s0; rw [hit, e0, e1]; subst hkv; subst hi0; rfl
    · rename_i hg s0; subst hA; have e0 : decide (x6 > 0) = false := hg; have e1 : (x8 == 0) = true := s0; rw [hq, e0]; rfl
    · rename_i hg s0 s1; subst hA; have e0 : decide (x6 > 0) = false := hg; have e1 : (x8 == 0) = false := s0; have e2 : (x8 == 1) = true := s1; rw [hit, e0, e1, e2]; subst hkv; subst hi0; rfl
    · rename_i hg s0 s1; subst hA; have e0 : decide (x6 > 0) = false := hg; have e1 : (x8 == 0) = false := s0; have e2 : (x8 == 1) = true := s1; rw [hq, e0]; rfl
    · rename_i hg s0 s1 s2; subst hA; have e0 : decide (x6 > 0) = false := hg; have e1 : (x8 == 0) = false := s0; have e2 : (x8 == 1) = false := s1; have e3 : (x8 == 2) = true := s2; rw [hit, e0, e1, e2, e3]; subst hkv; subst hi0; rfl
    · rename_i hg s0 s1 s2; subst hA; have e0 : decide (x6 > 0) = false := hg; have e1 : (x8 == 0) = false := s0; have e2 : (x8 == 1) = false := s1; have e3 : (x8 == 2) = true := s2; rw [hq, e0]; rfl
    · rename_i hg s0 s1 s2 s3; subst hA; have e0 : decide (x6 > 0) = false := hg; have e1 : (x8 == 0) = false := s0; have e2 : (x8 == 1) = false := s1; have e3 : (x8 == 2) = false := s2; have e4 : (x8 == 3) = true := s3; rw [hit, e0, e1, e2, e3, e4]; subst hkv; subst hi0; rfl
    · rename_i hg s0 s1 s2 s3; subst hA; have e0 : decide (x6 > 0) = false := hg; have e1 : (x8 == 0) = false := s0; have e2 : (x8 == 1) = false := s1; have e3 : (x8 == 2) = false := s2; have e4 : (x8 == 3) = true := s3; rw [hq, e0]; rfl
    · rename_i hg s0 s1 s2 s3; subst hA; have e0 : decide (x6 > 0) = false := hg; have e1 : (x8 == 0) = false := s0; have e2 : (x8 == 1) = false := s1; have e3 : (x8 == 2) = false := s2; have e4 : (x8 == 3) = false := s3; rw [hit, e0, e1, e2, e3, e4]; subst hkv; subst hi0; rfl
    · rename_i hg s0 s1 s2 s3; subst hA; have e0 : decide (x6 > 0) = false := hg; have e1 : (x8 == 0) = false := s0; have e2 : (x8 == 1) = false := s1; have e3 : (x8 == 2) = false := s2; have e4 : (x8 == 3) = false := s3; rw [hq, e0]; rfl
  by_cases h1 : x4 = 1
  · skip
    obtain ⟨x5, hx5⟩ : ∃ x : Int, x = pickV m b p5 3 := ⟨_, rfl⟩
    obtain ⟨p6, hp6⟩ : ∃ z : Int, z = p5 + 1 := ⟨_, rfl⟩
    have c5 := m_pick m hm b hb p5 (by omega) 3 (by omega) x5 hx5 p6 hp6
    have i5 := pickV_in (m := m) (b := b) (p := p5) (n := 3) hb (by omega) (by omega)
    rw [← hx5] at i5
    obtain ⟨x6, hx6⟩ : ∃ x : Int, x = pickV m b p6 n := ⟨_, rfl⟩
    obtain ⟨p7, hp7⟩ : ∃ z : Int, z = p6 + 1 := ⟨_, rfl⟩
    have c6 := m_pick m hm b hb p6 (by omega) n (by omega) x6 hx6 p7 hp7
    have i6 := pickV_in (m := m) (b := b) (p := p6) (n := n) hb (by omega) (by omega)
    rw [← hx6] at i6
    obtain ⟨x7, hx7⟩ : ∃ x : Int, x = pickV m b p7 7 := ⟨_, rfl⟩
    obtain ⟨p8, hp8⟩ : ∃ z : Int, z = p7 + 1 := ⟨_, rfl⟩
    have c7 := m_pick m hm b hb p7 (by omega) 7 (by omega) x7 hx7 p8 hp8
    have i7 := pickV_in (m := m) (b := b) (p := p7) (n := 7) hb (by omega) (by omega)
    rw [← hx7] at i7
    obtain ⟨x8, hx8⟩ : ∃ x : Int, x = pickV m b p8 5 := ⟨_, rfl⟩
    obtain ⟨p9, hp9⟩ : ∃ z : Int, z = p8 + 1 := ⟨_, rfl⟩
    have c8 := m_pick m hm b hb p8 (by omega) 5 (by omega) x8 hx8 p9 hp9
    have i8 := pickV_in (m := m) (b := b) (p := p8) (n := 5) hb (by omega) (by omega)
    rw [← hx8] at i8
    obtain ⟨i0, hi0⟩ : ∃ it : ItmT, it = ⟨3, 0, 0, 0, real.sel [1, 2, 900] (real.add 0 (real.nat x5))⟩ := ⟨_, rfl⟩
    obtain ⟨kv, hkv⟩ : ∃ z : Int, z = real.sel [-1, 0, 61, 4, 10, 1000, 901] (real.add 0 (real.nat x7)) := ⟨_, rfl⟩
    obtain ⟨it, hit⟩ : ∃ it : ItmT, it = bif decide (x6 > 0) then i0 else bif (x8 == 0) then { i0 with kind := kv } else bif (x8 == 1) then { i0 with t := kv } else bif (x8 == 2) then { i0 with key := kv } else bif (x8 == 3) then { i0 with v := kv } else { i0 with n := kv } := ⟨_, rfl⟩
    obtain ⟨q, hq⟩ : ∃ z : Int, z = bif decide (x6 > 0) then p7 else p9 := ⟨_, rfl⟩
    refine ⟨it, q, by rw [hq]; cases decide (x6 > 0) <;> simp only [cond_true, cond_false] <;> omega, ?_⟩
    refine meets_of (H := []) (EX := EXA) ttok mixed Try.func111 rfl (by kernel_rfl) (by decide) ?_
    generalize hA : real = A
    generalize hM : Meets Try.prog = M
    cbv
    repeat' first
      | (refine br_f hA (by subst hA; exact (show (x4 == 0) = false by exact beq_false_of_ne h0)) ?_)
      | (refine br_t hA (by subst hA; exact (show (x4 == 1) = true by rw [h1]; rfl)) ?_)
      | apply And.intro
      | exact True.intro
      | with_reducible rfl
      | exact same_of hA rfl
      | refine br_of hA (fun _ => ?_) (fun _ => ?_)
      | exact imp_of hA id
      | (refine imp_of hA ?_; subst hA; simp only [real, Bool.true_and]; exact id)
      | (refine ind_of hA ?_; decide +kernel)
      | (refine call_of hA hM _ hr ?_; cbv)
      | (refine call_of hA hM _ c4 ?_; cbv)
      | (refine call_of hA hM _ c5 ?_; cbv)
      | (refine call_of hA hM _ c6 ?_; cbv)
      | (refine call_of hA hM _ c7 ?_; cbv)
      | (refine call_of hA hM _ c8 ?_; cbv)
      | (refine inb_of hA fun _ => ?_; exact ⟨i5.1, i5.2⟩)
      | (refine inb_of hA fun _ => ?_; exact ⟨i7.1, i7.2⟩)
    · rename_i hg; subst hA; have e0 : decide (x6 > 0) = true := hg; rw [hit, e0]; subst hkv; subst hi0; rfl
    · rename_i hg; subst hA; have e0 : decide (x6 > 0) = true := hg; rw [hq, e0]; rfl
    · rename_i hg s0; subst hA; have e0 : decide (x6 > 0) = false := hg; have e1 : (x8 == 0) = true := s0; rw [hit, e0, e1]; subst hkv; subst hi0; rfl
    · rename_i hg s0; subst hA; have e0 : decide (x6 > 0) = false := hg; have e1 : (x8 == 0) = true := s0; rw [hq, e0]; rfl
    · rename_i hg s0 s1; subst hA; have e0 : decide (x6 > 0) = false := hg; have e1 : (x8 == 0) = false := s0; have e2 : (x8 == 1) = true := s1; rw [hit, e0, e1, e2]; subst hkv; subst hi0; rfl
    · rename_i hg s0 s1; subst hA; have e0 : decide (x6 > 0) = false := hg; have e1 : (x8 == 0) = false := s0; have e2 : (x8 == 1) = true := s1; rw [hq, e0]; rfl
    · rename_i hg s0 s1 s2; subst hA; have e0 : decide (x6 > 0) = false := hg; have e1 : (x8 == 0) = false := s0; have e2 : (x8 == 1) = false := s1; have e3 : (x8 == 2) = true := s2; rw [hit, e0, e1, e2, e3]; subst hkv; subst hi0; rfl
    · rename_i hg s0 s1 s2; subst hA; have e0 : decide (x6 > 0) = false := hg; have e1 : (x8 == 0) = false := s0; have e2 : (x8 == 1) = false := s1; have e3 : (x8 == 2) = true := s2; rw [hq, e0]; rfl
    · rename_i hg s0 s1 s2 s3; subst hA; have e0 : decide (x6 > 0) = false := hg; have e1 : (x8 == 0) = false := s0; have e2 : (x8 == 1) = false := s1; have e3 : (x8 == 2) = false := s2; have e4 : (x8 == 3) = true := s3; rw [hit, e0, e1, e2, e3, e4]; subst hkv; subst hi0; rfl
    · rename_i hg s0 s1 s2 s3; subst hA; have e0 : decide (x6 > 0) = false := hg; have e1 : (x8 == 0) = false := s0; have e2 : (x8 == 1) = false := s1; have e3 : (x8 == 2) = false := s2; have e4 : (x8 == 3) = true := s3; rw [hq, e0]; rfl
    · rename_i hg s0 s1 s2 s3; subst hA; have e0 : decide (x6 > 0) = false := hg; have e1 : (x8 == 0) = false := s0; have e2 : (x8 == 1) = false := s1; have e3 : (x8 == 2) = false := s2; have e4 : (x8 == 3) = false := s3; rw [hit, e0, e1, e2, e3, e4]; subst hkv; subst hi0; rfl
    · rename_i hg s0 s1 s2 s3; subst hA; have e0 : decide (x6 > 0) = false := hg; have e1 : (x8 == 0) = false := s0; have e2 : (x8 == 1) = false := s1; have e3 : (x8 == 2) = false := s2; have e4 : (x8 == 3) = false := s3; rw [hq, e0]; rfl
  · skip
    obtain ⟨x5, hx5⟩ : ∃ x : Int, x = pickV m b p5 n := ⟨_, rfl⟩
    obtain ⟨p6, hp6⟩ : ∃ z : Int, z = p5 + 1 := ⟨_, rfl⟩
    have c5 := m_pick m hm b hb p5 (by omega) n (by omega) x5 hx5 p6 hp6
    have i5 := pickV_in (m := m) (b := b) (p := p5) (n := n) hb (by omega) (by omega)
    rw [← hx5] at i5
    obtain ⟨x6, hx6⟩ : ∃ x : Int, x = pickV m b p6 7 := ⟨_, rfl⟩
    obtain ⟨p7, hp7⟩ : ∃ z : Int, z = p6 + 1 := ⟨_, rfl⟩
    have c6 := m_pick m hm b hb p6 (by omega) 7 (by omega) x6 hx6 p7 hp7
    have i6 := pickV_in (m := m) (b := b) (p := p6) (n := 7) hb (by omega) (by omega)
    rw [← hx6] at i6
    obtain ⟨x7, hx7⟩ : ∃ x : Int, x = pickV m b p7 5 := ⟨_, rfl⟩
    obtain ⟨p8, hp8⟩ : ∃ z : Int, z = p7 + 1 := ⟨_, rfl⟩
    have c7 := m_pick m hm b hb p7 (by omega) 5 (by omega) x7 hx7 p8 hp8
    have i7 := pickV_in (m := m) (b := b) (p := p7) (n := 5) hb (by omega) (by omega)
    rw [← hx7] at i7
    obtain ⟨i0, hi0⟩ : ∃ it : ItmT, it = r := ⟨_, rfl⟩
    obtain ⟨kv, hkv⟩ : ∃ z : Int, z = real.sel [-1, 0, 61, 4, 10, 1000, 901] (real.add 0 (real.nat x6)) := ⟨_, rfl⟩
    obtain ⟨it, hit⟩ : ∃ it : ItmT, it = bif decide (x5 > 0) then i0 else bif (x7 == 0) then { i0 with kind := kv } else bif (x7 == 1) then { i0 with t := kv } else bif (x7 == 2) then { i0 with key := kv } else bif (x7 == 3) then { i0 with v := kv } else { i0 with n := kv } := ⟨_, rfl⟩
    obtain ⟨q, hq⟩ : ∃ z : Int, z = bif decide (x5 > 0) then p6 else p8 := ⟨_, rfl⟩
    refine ⟨it, q, by rw [hq]; cases decide (x5 > 0) <;> simp only [cond_true, cond_false] <;> omega, ?_⟩
    refine meets_of (H := []) (EX := EXA) ttok mixed Try.func111 rfl (by kernel_rfl) (by decide) ?_
    generalize hA : real = A
    generalize hM : Meets Try.prog = M
    cbv
    repeat' first
      | (refine br_f hA (by subst hA; exact (show (x4 == 0) = false by exact beq_false_of_ne h0)) ?_)
      | (refine br_f hA (by subst hA; exact (show (x4 == 1) = false by exact beq_false_of_ne h1)) ?_)
      | apply And.intro
      | exact True.intro
      | with_reducible rfl
      | exact same_of hA rfl
      | refine br_of hA (fun _ => ?_) (fun _ => ?_)
      | exact imp_of hA id
      | (refine imp_of hA ?_; subst hA; simp only [real, Bool.true_and]; exact id)
      | (refine ind_of hA ?_; decide +kernel)
      | (refine call_of hA hM _ hr ?_; cbv)
      | (refine call_of hA hM _ c4 ?_; cbv)
      | (refine call_of hA hM _ c5 ?_; cbv)
      | (refine call_of hA hM _ c6 ?_; cbv)
      | (refine call_of hA hM _ c7 ?_; cbv)
      | (refine inb_of hA fun _ => ?_; exact ⟨i6.1, i6.2⟩)
    · rename_i hg; subst hA; have e0 : decide (x5 > 0) = true := hg; rw [hit, e0]; subst hkv; subst hi0; rfl
    · rename_i hg; subst hA; have e0 : decide (x5 > 0) = true := hg; rw [hq, e0]; rfl
    · rename_i hg s0; subst hA; have e0 : decide (x5 > 0) = false := hg; have e1 : (x7 == 0) = true := s0; rw [hit, e0, e1]; subst hkv; subst hi0; rfl
    · rename_i hg s0; subst hA; have e0 : decide (x5 > 0) = false := hg; have e1 : (x7 == 0) = true := s0; rw [hq, e0]; rfl
    · rename_i hg s0 s1; subst hA; have e0 : decide (x5 > 0) = false := hg; have e1 : (x7 == 0) = false := s0; have e2 : (x7 == 1) = true := s1; rw [hit, e0, e1, e2]; subst hkv; subst hi0; rfl
    · rename_i hg s0 s1; subst hA; have e0 : decide (x5 > 0) = false := hg; have e1 : (x7 == 0) = false := s0; have e2 : (x7 == 1) = true := s1; rw [hq, e0]; rfl
    · rename_i hg s0 s1 s2; subst hA; have e0 : decide (x5 > 0) = false := hg; have e1 : (x7 == 0) = false := s0; have e2 : (x7 == 1) = false := s1; have e3 : (x7 == 2) = true := s2; rw [hit, e0, e1, e2, e3]; subst hkv; subst hi0; rfl
    · rename_i hg s0 s1 s2; subst hA; have e0 : decide (x5 > 0) = false := hg; have e1 : (x7 == 0) = false := s0; have e2 : (x7 == 1) = false := s1; have e3 : (x7 == 2) = true := s2; rw [hq, e0]; rfl
    · rename_i hg s0 s1 s2 s3; subst hA; have e0 : decide (x5 > 0) = false := hg; have e1 : (x7 == 0) = false := s0; have e2 : (x7 == 1) = false := s1; have e3 : (x7 == 2) = false := s2; have e4 : (x7 == 3) = true := s3; rw [hit, e0, e1, e2, e3, e4]; subst hkv; subst hi0; rfl
    · rename_i hg s0 s1 s2 s3; subst hA; have e0 : decide (x5 > 0) = false := hg; have e1 : (x7 == 0) = false := s0; have e2 : (x7 == 1) = false := s1; have e3 : (x7 == 2) = false := s2; have e4 : (x7 == 3) = true := s3; rw [hq, e0]; rfl
    · rename_i hg s0 s1 s2 s3; subst hA; have e0 : decide (x5 > 0) = false := hg; have e1 : (x7 == 0) = false := s0; have e2 : (x7 == 1) = false := s1; have e3 : (x7 == 2) = false := s2; have e4 : (x7 == 3) = false := s3; rw [hit, e0, e1, e2, e3, e4]; subst hkv; subst hi0; rfl
    · rename_i hg s0 s1 s2 s3; subst hA; have e0 : decide (x5 > 0) = false := hg; have e1 : (x7 == 0) = false := s0; have e2 : (x7 == 1) = false := s1; have e3 : (x7 == 2) = false := s2; have e4 : (x7 == 3) = false := s3; rw [hq, e0]; rfl
end Go.Rk
/- Draws: jobs. -/
namespace Go.Rk
set_option linter.unusedSimpArgs false
set_option linter.unusedVariables false
open Go.Proofs
set_option maxRecDepth 100000
set_option maxHeartbeats 1000000
theorem c_job (m : Nat) (hm : m ≤ 2000) (b : Nat → Int) (hb : ∀ i, 0 ≤ b i ∧ b i ≤ 255) (p : Int) (hp : 0 ≤ p ∧ p ≤ 50000) : ∃ (j : JobT) (q : Int), (p ≤ q ∧ q ≤ p + 20) ∧ Meets Try.prog 109 [.c (.box [.d (.sl 1 m fun i => [eU (b i)]), .d (eI p)])] ⟨.one (xd (eJob j)), [some (.box [.d (.sl 1 m fun i => [eU (b i)]), .d (eI q)])]⟩ := by
  obtain ⟨x0, hx0⟩ : ∃ x : Int, x = pickV m b p 3 := ⟨_, rfl⟩
  obtain ⟨p1, hp1⟩ : ∃ z : Int, z = p + 1 := ⟨_, rfl⟩
  have c0 := m_pick m hm b hb p (by omega) 3 (by omega) x0 hx0 p1 hp1
  have i0 := pickV_in (m := m) (b := b) (p := p) (n := 3) hb (by omega) (by omega)
  rw [← hx0] at i0
  obtain ⟨x1, hx1⟩ : ∃ x : Int, x = pickV m b p1 2 := ⟨_, rfl⟩
  obtain ⟨p2, hp2⟩ : ∃ z : Int, z = p1 + 1 := ⟨_, rfl⟩
  have c1 := m_pick m hm b hb p1 (by omega) 2 (by omega) x1 hx1 p2 hp2
  have i1 := pickV_in (m := m) (b := b) (p := p1) (n := 2) hb (by omega) (by omega)
  rw [← hx1] at i1
  obtain ⟨x2, hx2⟩ : ∃ x : Int, x = pickV m b p2 3 := ⟨_, rfl⟩
  obtain ⟨p3, hp3⟩ : ∃ z : Int, z = p2 + 1 := ⟨_, rfl⟩
  have c2 := m_pick m hm b hb p2 (by omega) 3 (by omega) x2 hx2 p3 hp3
  have i2 := pickV_in (m := m) (b := b) (p := p2) (n := 3) hb (by omega) (by omega)
  rw [← hx2] at i2
  obtain ⟨x3, hx3⟩ : ∃ x : Int, x = pickV m b p3 6 := ⟨_, rfl⟩
  obtain ⟨p4, hp4⟩ : ∃ z : Int, z = p3 + 1 := ⟨_, rfl⟩
  have c3 := m_pick m hm b hb p3 (by omega) 6 (by omega) x3 hx3 p4 hp4
  have i3 := pickV_in (m := m) (b := b) (p := p3) (n := 6) hb (by omega) (by omega)
  rw [← hx3] at i3
  obtain ⟨x4, hx4⟩ : ∃ x : Int, x = pickV m b p4 5 := ⟨_, rfl⟩
  obtain ⟨p5, hp5⟩ : ∃ z : Int, z = p4 + 1 := ⟨_, rfl⟩
  have c4 := m_pick m hm b hb p4 (by omega) 5 (by omega) x4 hx4 p5 hp5
  have i4 := pickV_in (m := m) (b := b) (p := p4) (n := 5) hb (by omega) (by omega)
  rw [← hx4] at i4
  obtain ⟨x5, hx5⟩ : ∃ x : Int, x = pickV m b p5 4 := ⟨_, rfl⟩
  obtain ⟨p6, hp6⟩ : ∃ z : Int, z = p5 + 1 := ⟨_, rfl⟩
  have c5 := m_pick m hm b hb p5 (by omega) 4 (by omega) x5 hx5 p6 hp6
  have i5 := pickV_in (m := m) (b := b) (p := p5) (n := 4) hb (by omega) (by omega)
  rw [← hx5] at i5
  obtain ⟨x6, hx6⟩ : ∃ x : Int, x = pickV m b p6 2 := ⟨_, rfl⟩
  obtain ⟨p7, hp7⟩ : ∃ z : Int, z = p6 + 1 := ⟨_, rfl⟩
  have c6 := m_pick m hm b hb p6 (by omega) 2 (by omega) x6 hx6 p7 hp7
  have i6 := pickV_in (m := m) (b := b) (p := p6) (n := 2) hb (by omega) (by omega)
  rw [← hx6] at i6
  obtain ⟨x7, hx7⟩ : ∃ x : Int, x = pickV m b p7 5 := ⟨_, rfl⟩
  obtain ⟨p8, hp8⟩ : ∃ z : Int, z = p7 + 1 := ⟨_, rfl⟩
  have c7 := m_pick m hm b hb p7 (by omega) 5 (by omega) x7 hx7 p8 hp8
  have i7 := pickV_in (m := m) (b := b) (p := p7) (n := 5) hb (by omega) (by omega)
  rw [← hx7] at i7
  obtain ⟨x8, hx8⟩ : ∃ x : Int, x = pickV m b p8 4 := ⟨_, rfl⟩
  obtain ⟨p9, hp9⟩ : ∃ z : Int, z = p8 + 1 := ⟨_, rfl⟩
  have c8 := m_pick m hm b hb p8 (by omega) 4 (by omega) x8 hx8 p9 hp9
  have i8 := pickV_in (m := m) (b := b) (p := p8) (n := 4) hb (by omega) (by omega)
  rw [← hx8] at i8
  obtain ⟨x9, hx9⟩ : ∃ x : Int, x = pickV m b p9 4 := ⟨_, rfl⟩
  obtain ⟨p10, hp10⟩ : ∃ z : Int, z = p9 + 1 := ⟨_, rfl⟩
  have c9 := m_pick m hm b hb p9 (by omega) 4 (by omega) x9 hx9 p10 hp10
  have i9 := pickV_in (m := m) (b := b) (p := p9) (n := 4) hb (by omega) (by omega)
  rw [← hx9] at i9
  obtain ⟨x10, hx10⟩ : ∃ x : Int, x = pickV m b p10 4 := ⟨_, rfl⟩
  obtain ⟨p11, hp11⟩ : ∃ z : Int, z = p10 + 1 := ⟨_, rfl⟩
  have c10 := m_pick m hm b hb p10 (by omega) 4 (by omega) x10 hx10 p11 hp11
  have i10 := pickV_in (m := m) (b := b) (p := p10) (n := 4) hb (by omega) (by omega)
  rw [← hx10] at i10
  obtain ⟨sz, hsz⟩ : ∃ z : Int, z = real.sel [1, 3, 5, 8, 10, 20] (real.add 0 (real.nat x3)) := ⟨_, rfl⟩
  obtain ⟨kd, hkd⟩ : ∃ z : Int, z = real.ar .add .i64 1 x2 := ⟨_, rfl⟩
  obtain ⟨j0, hj0⟩ : ∃ j : JobT, j = ⟨real.ar .add .i64 1 x0, real.ar .add .i64 1 x1, kd, sz, 0, real.sel [0, 2, 5, 12, 20] (real.add 0 (real.nat x4)), real.ar .add .i64 1 x5, real.cmp .eql x6 0, real.sel [-9, -9, -9, 0, 5] (real.add 0 (real.nat x7)), real.ar .add .i64 1 x8⟩ := ⟨_, rfl⟩
  obtain ⟨st, hst⟩ : ∃ z : Int, z = real.ar .quo .i64 (real.ar .add .i64 sz x9) (real.ar .add .i64 1 x10) := ⟨_, rfl⟩
  obtain ⟨big, hbig⟩ : ∃ z : Bool, z = real.bite (real.bite (real.cmp .lss st 1) true (real.cmp .lss (real.ar .mul .i64 4 st) sz)) true (real.cmp .gtr st sz) := ⟨_, rfl⟩
  obtain ⟨j, hj⟩ : ∃ j : JobT, j = bif (kd == 2) then (bif big then { j0 with step := real.ar .quo .i64 (real.ar .add .i64 sz 1) 2 } else { j0 with step := st }) else j0 := ⟨_, rfl⟩
  obtain ⟨q, hq⟩ : ∃ z : Int, z = bif (kd == 2) then p11 else p9 := ⟨_, rfl⟩
  refine ⟨j, q, by rw [hq]; cases (kd == 2) <;> simp only [cond_true, cond_false] <;> omega, ?_⟩
  have w10 : real.ar .add .i64 1 x10 ≠ 0 := by
    show IntKind.i64.wrap (1 + x10) ≠ 0
    rw [IntWalk.i64_in _ (by omega)]; omega
  refine meets_of (H := []) (EX := EXA) ttok mixed Try.func109 rfl (by kernel_rfl) (by decide) ?_
  generalize hA : real = A
  generalize hM : Meets Try.prog = M
  cbv
  repeat' first
    | apply And.intro
    | exact True.intro
    | with_reducible rfl
    | exact same_of hA rfl
    | refine br_of hA (fun _ => ?_) (fun _ => ?_)
    | exact imp_of hA id
    | (refine imp_of hA ?_; subst hA; simp only [real, Bool.true_and]; exact id)
    | (refine ind_of hA ?_; decide +kernel)
    | (refine call_of hA hM _ c0 ?_; cbv)
    | (refine call_of hA hM _ c1 ?_; cbv)
    | (refine call_of hA hM _ c2 ?_; cbv)
    | (refine call_of hA hM _ c3 ?_; cbv)
    | (refine call_of hA hM _ c4 ?_; cbv)
    | (refine call_of hA hM _ c5 ?_; cbv)
    | (refine call_of hA hM _ c6 ?_; cbv)
    | (refine call_of hA hM _ c7 ?_; cbv)
    | (refine call_of hA hM _ c8 ?_; cbv)
    | (refine call_of hA hM _ c9 ?_; cbv)
    | (refine call_of hA hM _ c10 ?_; cbv)
    | (refine inb_of hA fun _ => ?_; exact ⟨i3.1, i3.2⟩)
    | (refine inb_of hA fun _ => ?_; exact ⟨i4.1, i4.2⟩)
    | (refine inb_of hA fun _ => ?_; exact ⟨i7.1, i7.2⟩)
    | (subst hA; exact nz_of rfl w10)
    | exact nz_of hA (show (2 : Int) ≠ 0 by decide)
  · rename_i hk hb
    subst hA
    have e0 : (kd == 2) = true := by rw [hkd]; exact hk
    have e1 : big = true := by rw [hbig, hst, hsz]; exact hb
    rw [hj, e0, e1]; subst hj0; subst hst; subst hkd; subst hsz; rfl
  · rename_i hk hb
    subst hA
    have e0 : (kd == 2) = true := by rw [hkd]; exact hk
    have e1 : big = true := by rw [hbig, hst, hsz]; exact hb
    rw [hq, e0]; rfl
  · rename_i hk hb
    subst hA
    have e0 : (kd == 2) = true := by rw [hkd]; exact hk
    have e1 : big = false := by rw [hbig, hst, hsz]; exact hb
    rw [hj, e0, e1]; subst hj0; subst hst; subst hkd; subst hsz; rfl
  · rename_i hk hb
    subst hA
    have e0 : (kd == 2) = true := by rw [hkd]; exact hk
    have e1 : big = false := by rw [hbig, hst, hsz]; exact hb
    rw [hq, e0]; rfl
  · rename_i hk
    subst hA
    have e0 : (kd == 2) = false := by rw [hkd]; exact hk
    rw [hj, e0]; subst hj0; subst hst; subst hkd; subst hsz; rfl
  · rename_i hk
    subst hA
    have e0 : (kd == 2) = false := by rw [hkd]; exact hk
    rw [hq, e0]; rfl
theorem c_anyJob (m : Nat) (hm : m ≤ 2000) (b : Nat → Int) (hb : ∀ i, 0 ≤ b i ∧ b i ≤ 255) (p : Int) (hp : 0 ≤ p ∧ p ≤ 40000) (n : Int) (hn : 1 ≤ n ∧ n ≤ 100) : ∃ (j : JobT) (q : Int), (p ≤ q ∧ q ≤ p + 40) ∧ Meets Try.prog 72 [.c (.box [.d (.sl 1 m fun i => [eU (b i)]), .d (eI p)]), .c (.d (eI n))] ⟨.one (xd (eJob j)), [some (.box [.d (.sl 1 m fun i => [eU (b i)]), .d (eI q)]), none]⟩ := by
  obtain ⟨j0, q0, hq0, hj0⟩ := c_job m hm b hb p (by omega)
  obtain ⟨x0, hx0⟩ : ∃ x : Int, x = pickV m b q0 n := ⟨_, rfl⟩
  obtain ⟨p1, hp1⟩ : ∃ z : Int, z = q0 + 1 := ⟨_, rfl⟩
  have c0 := m_pick m hm b hb q0 (by omega) n (by omega) x0 hx0 p1 hp1
  have i0 := pickV_in (m := m) (b := b) (p := q0) (n := n) hb (by omega) (by omega)
  rw [← hx0] at i0
  obtain ⟨x1, hx1⟩ : ∃ x : Int, x = pickV m b p1 8 := ⟨_, rfl⟩
  obtain ⟨p2, hp2⟩ : ∃ z : Int, z = p1 + 1 := ⟨_, rfl⟩
  have c1 := m_pick m hm b hb p1 (by omega) 8 (by omega) x1 hx1 p2 hp2
  have i1 := pickV_in (m := m) (b := b) (p := p1) (n := 8) hb (by omega) (by omega)
  rw [← hx1] at i1
  obtain ⟨x2, hx2⟩ : ∃ x : Int, x = pickV m b p2 9 := ⟨_, rfl⟩
  obtain ⟨p3, hp3⟩ : ∃ z : Int, z = p2 + 1 := ⟨_, rfl⟩
  have c2 := m_pick m hm b hb p2 (by omega) 9 (by omega) x2 hx2 p3 hp3
  have i2 := pickV_in (m := m) (b := b) (p := p2) (n := 9) hb (by omega) (by omega)
  rw [← hx2] at i2
  obtain ⟨kv, hkv⟩ : ∃ z : Int, z = real.sel [-1, 0, 3, 4, 5, 21, 10, 1] (real.add 0 (real.nat x1)) := ⟨_, rfl⟩
  obtain ⟨j, hj⟩ : ∃ j : JobT, j = bif decide (x0 > 0) then j0 else bif (x2 == 0) then { j0 with srcs := kv } else bif (x2 == 1) then { j0 with tsks := kv } else bif (x2 == 2) then { j0 with kind := kv } else bif (x2 == 3) then { j0 with size := kv } else bif (x2 == 4) then { j0 with step := kv } else bif (x2 == 5) then { j0 with late := kv } else bif (x2 == 6) then { j0 with tell := kv } else bif (x2 == 7) then { j0 with least := real.ar .mul .i64 kv 2 } else { j0 with room := kv } := ⟨_, rfl⟩
  obtain ⟨q, hq⟩ : ∃ z : Int, z = bif decide (x0 > 0) then p1 else p3 := ⟨_, rfl⟩
  refine ⟨j, q, by rw [hq]; cases decide (x0 > 0) <;> simp only [cond_true, cond_false] <;> omega, ?_⟩
  refine meets_of (H := []) (EX := EXA) ttok mixed Try.func72 rfl (by kernel_rfl) (by decide) ?_
  generalize hA : real = A
  generalize hM : Meets Try.prog = M
  cbv
  repeat' first
    | apply And.intro
    | exact True.intro
    | with_reducible rfl
    | exact same_of hA rfl
    | refine br_of hA (fun _ => ?_) (fun _ => ?_)
    | exact imp_of hA id
    | (refine imp_of hA ?_; subst hA; simp only [real, Bool.true_and]; exact id)
    | (refine ind_of hA ?_; decide +kernel)
    | (refine call_of hA hM _ hj0 ?_; cbv)
    | (refine call_of hA hM _ c0 ?_; cbv)
    | (refine call_of hA hM _ c1 ?_; cbv)
    | (refine call_of hA hM _ c2 ?_; cbv)
    | (refine inb_of hA fun _ => ?_; exact ⟨i1.1, i1.2⟩)
  · rename_i hg; subst hA; have e0 : decide (x0 > 0) = true := hg; rw [hj, e0]; subst hkv; rfl
  · rename_i hg; subst hA; have e0 : decide (x0 > 0) = true := hg; rw [hq, e0]; rfl
  · rename_i hg s0; subst hA; have e0 : decide (x0 > 0) = false := hg; have e1 : (x2 == 0) = true := s0; rw [hj, e0, e1]; subst hkv; rfl
  · rename_i hg s0; subst hA; have e0 : decide (x0 > 0) = false := hg; have e1 : (x2 == 0) = true := s0; rw [hq, e0]; rfl
  · rename_i hg s0 s1; subst hA; have e0 : decide (x0 > 0) = false := hg; have e1 : (x2 == 0) = false := s0; have e2 : (x2 == 1) = true := s1; rw [hj, e0, e1, e2]; subst hkv; rfl
  · rename_i hg s0 s1; subst hA; have e0 : decide (x0 > 0) = false := hg; have e1 : (x2 == 0) = false := s0; have e2 : (x2 == 1) = true := s1; rw [hq, e0]; rfl
  · rename_i hg s0 s1 s2; subst hA; have e0 : decide (x0 > 0) = false := hg; have e1 : (x2 == 0) = false := s0; have e2 : (x2 == 1) = false := s1; have e3 : (x2 == 2) = true := s2; rw [hj, e0, e1, e2, e3]; subst hkv; rfl
  · rename_i hg s0 s1 s2; subst hA; have e0 : decide (x0 > 0) = false := hg; have e1 : (x2 == 0) = false := s0; have e2 : (x2 == 1) = false := s1; have e3 : (x2 == 2) = true := s2; rw [hq, e0]; rfl
  · rename_i hg s0 s1 s2 s3; subst hA; have e0 : decide (x0 > 0) = false := hg; have e1 : (x2 == 0) = false := s0; have e2 : (x2 == 1) = false := s1; have e3 : (x2 == 2) = false := s2; have e4 : (x2 == 3) = true := s3; rw [hj, e0, e1, e2, e3, e4]; subst hkv; rfl
  · rename_i hg s0 s1 s2 s3; subst hA; have e0 : decide (x0 > 0) = false := hg; have e1 : (x2 == 0) = false := s0; have e2 : (x2 == 1) = false := s1; have e3 : (x2 == 2) = false := s2; have e4 : (x2 == 3) = true := s3; rw [hq, e0]; rfl
  · rename_i hg s0 s1 s2 s3 s4; subst hA; have e0 : decide (x0 > 0) = false := hg; have e1 : (x2 == 0) = false := s0; have e2 : (x2 == 1) = false := s1; have e3 : (x2 == 2) = false := s2; have e4 : (x2 == 3) = false := s3; have e5 : (x2 == 4) = true := s4; rw [hj, e0, e1, e2, e3, e4, e5]; subst hkv; rfl
  · rename_i hg s0 s1 s2 s3 s4; subst hA; have e0 : decide (x0 > 0) = false := hg; have e1 : (x2 == 0) = false := s0; have e2 : (x2 == 1) = false := s1; have e3 : (x2 == 2) = false := s2; have e4 : (x2 == 3) = false := s3; have e5 : (x2 == 4) = true := s4; rw [hq, e0]; rfl
  · rename_i hg s0 s1 s2 s3 s4 s5; subst hA; have e0 : decide (x0 > 0) = false := hg; have e1 : (x2 == 0) = false := s0; have e2 : (x2 == 1) = false := s1; have e3 : (x2 == 2) = false := s2; have e4 : (x2 == 3) = false := s3; have e5 : (x2 == 4) = false := s4; have e6 : (x2 == 5) = true := s5; rw [hj, e0, e1, e2, e3, e4, e5, e6]; subst hkv; rfl
  · rename_i hg s0 s1 s2 s3 s4 s5; subst hA; have e0 : decide (x0 > 0) = false := hg; have e1 : (x2 == 0) = false := s0; have e2 : (x2 == 1) = false := s1; have e3 : (x2 == 2) = false := s2; have e4 : (x2 == 3) = false := s3; have e5 : (x2 == 4) = false := s4; have e6 : (x2 == 5) = true := s5; rw [hq, e0]; rfl
  · rename_i hg s0 s1 s2 s3 s4 s5 s6; subst hA; have e0 : decide (x0 > 0) = false := hg; have e1 : (x2 == 0) = false := s0; have e2 : (x2 == 1) = false := s1; have e3 : (x2 == 2) = false := s2; have e4 : (x2 == 3) = false := s3; have e5 : (x2 == 4) = false := s4; have e6 : (x2 == 5) = false := s5; have e7 : (x2 == 6) = true := s6; rw [hj, e0, e1, e2, e3, e4, e5, e6, e7]; subst hkv; rfl
  · rename_i hg s0 s1 s2 s3 s4 s5 s6; subst hA; have e0 : decide (x0 > 0) = false := hg; have e1 : (x2 == 0) = false := s0; have e2 : (x2 == 1) = false := s1; have e3 : (x2 == 2) = false := s2; have e4 : (x2 == 3) = false := s3; have e5 : (x2 == 4) = false := s4; have e6 : (x2 == 5) = false := s5; have e7 : (x2 == 6) = true := s6; rw [hq, e0]; rfl
  · rename_i hg s0 s1 s2 s3 s4 s5 s6 s7; subst hA; have e0 : decide (x0 > 0) = false := hg; have e1 : (x2 == 0) = false := s0; have e2 : (x2 == 1) = false := s1; have e3 : (x2 == 2) = false := s2; have e4 : (x2 == 3) = false := s3; have e5 : (x2 == 4) = false := s4; have e6 : (x2 == 5) = false := s5; have e7 : (x2 == 6) = false := s6; have e8 : (x2 == 7) = true := s7; rw [hj, e0, e1, e2, e3, e4, e5, e6, e7, e8]; subst hkv; rfl
  · rename_i hg s0 s1 s2 s3 s4 s5 s6 s7; subst hA; have e0 : decide (x0 > 0) = false := hg; have e1 : (x2 == 0) = false := s0; have e2 : (x2 == 1) = false := s1; have e3 : (x2 == 2) = false := s2; have e4 : (x2 == 3) = false := s3; have e5 : (x2 == 4) = false := s4; have e6 : (x2 == 5) = false := s5; have e7 : (x2 == 6) = false := s6; have e8 : (x2 == 7) = true := s7; rw [hq, e0]; rfl
  · rename_i hg s0 s1 s2 s3 s4 s5 s6 s7; subst hA; have e0 : decide (x0 > 0) = false := hg; have e1 : (x2 == 0) = false := s0; have e2 : (x2 == 1) = false := s1; have e3 : (x2 == 2) = false := s2; have e4 : (x2 == 3) = false := s3; have e5 : (x2 == 4) = false := s4; have e6 : (x2 == 5) = false := s5; have e7 : (x2 == 6) = false := s6; have e8 : (x2 == 7) = false := s7; rw [hj, e0, e1, e2, e3, e4, e5, e6, e7, e8]; subst hkv; rfl
  · rename_i hg s0 s1 s2 s3 s4 s5 s6 s7; subst hA; have e0 : decide (x0 > 0) = false := hg; have e1 : (x2 == 0) = false := s0; have e2 : (x2 == 1) = false := s1; have e3 : (x2 == 2) = false := s2; have e4 : (x2 == 3) = false := s3; have e5 : (x2 == 4) = false := s4; have e6 : (x2 == 5) = false := s5; have e7 : (x2 == 6) = false := s6; have e8 : (x2 == 7) = false := s7; rw [hq, e0]; rfl
end Go.Rk
