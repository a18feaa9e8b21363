/- Sizes: what is left when the rows of something are taken off. -/
import Derived.Test.YtbkpfnddpnccmaaDFn
import Derived.IntWalk
namespace Go.Rk
set_option linter.unusedSimpArgs false
set_option linter.unusedVariables false
theorem up64 {i n : Nat} (h : i < n) (hn : n ≤ maxLen) : IntKind.i64.wrap ((i : Int) + 1) = ((i + 1 : Nat) : Int) := by
  have hm : maxLen = 9223372036854775807 := by decide
  rw [hm] at hn
  rw [IntWalk.i64_in _ (by omega)]
  simp
def szN (n : Nat) (l : Int) : Int := if l - (n : Int) < 0 then -1 else l - n
def szLoop (f : Nat → Int → Int) (l : Int) : Nat → Int
  | 0 => l
  | i + 1 => if szLoop f l i < 0 then -1 else f i (szLoop f l i)
theorem szN_spec {n : Nat} {l : Int} (h0 : 0 ≤ l) (h1 : l ≤ 1048576) : -1 ≤ szN n l ∧ szN n l ≤ 1048576 ∧ (0 ≤ szN n l → n ≤ 1048576) := by
  unfold szN; split <;> omega
theorem szLoop_spec {f : Nat → Int → Int} {B : Nat → Prop} {n : Nat} (hf : ∀ i, i < n → ∀ l, 0 ≤ l → l ≤ 1048576 → -1 ≤ f i l ∧ f i l ≤ 1048576 ∧ (0 ≤ f i l → B i)) {l : Int} (h0 : 0 ≤ l) (h1 : l ≤ 1048576) :
    ∀ k, k ≤ n → -1 ≤ szLoop f l k ∧ szLoop f l k ≤ 1048576 ∧ (0 ≤ szLoop f l k → ∀ i, i < k → B i)
  | 0, _ => ⟨by unfold szLoop; omega, h1, fun _ i h => absurd h (Nat.not_lt_zero i)⟩
  | k + 1, hk => by
    have ih := szLoop_spec hf h0 h1 k (by omega)
    unfold szLoop
    split
    · exact ⟨by omega, by omega, fun h => by omega⟩
    · rename_i hge
      have := hf k (by omega) _ (by omega) ih.2.1
      refine ⟨this.1, this.2.1, fun h i hi => ?_⟩
      rcases Nat.lt_succ_iff_lt_or_eq.1 hi with hi | rfl
      · exact ih.2.2 (by omega) i hi
      · exact this.2.2 h
theorem szLoop_neg {f : Nat → Int → Int} {l : Int} {n : Nat} (hf : ∀ k, k ≤ n → -1 ≤ szLoop f l k) {k : Nat} (h : szLoop f l k < 0) : ∀ m, k + m ≤ n → szLoop f l (k + m) = -1
  | 0, hm => by have := hf k hm; simp only [Nat.add_zero]; omega
  | m + 1, hm => by
    have ih := szLoop_neg hf h m (by omega)
    show szLoop f l (k + m + 1) = -1
    unfold szLoop
    rw [ih]; rfl
def szS (f : Nat → Int → Int) (n : Nat) (l : Int) : Int := if szN n l < 0 then -1 else szLoop f (szN n l) n
theorem szS_spec {f : Nat → Int → Int} {B : Nat → Prop} {n : Nat} (hf : ∀ i, i < n → ∀ l, 0 ≤ l → l ≤ 1048576 → -1 ≤ f i l ∧ f i l ≤ 1048576 ∧ (0 ≤ f i l → B i)) {l : Int} (h0 : 0 ≤ l) (h1 : l ≤ 1048576) :
    -1 ≤ szS f n l ∧ szS f n l ≤ 1048576 ∧ (0 ≤ szS f n l → n ≤ 1048576 ∧ ∀ i, i < n → B i) := by
  unfold szS
  have s := szN_spec (n := n) h0 h1
  split
  · omega
  · have t := szLoop_spec hf (l := szN n l) (by omega) s.2.1 n (Nat.le_refl n)
    exact ⟨t.1, t.2.1, fun h => ⟨s.2.2 (by omega), t.2.2 h⟩⟩
def szOpSt (x : OpStT) (l0 : Int) : Int := szN x.rows.n l0
theorem szOpSt_spec (x : OpStT) {l0 : Int} (h0 : 0 ≤ l0) (h1 : l0 ≤ 1048576) : -1 ≤ szOpSt x l0 ∧ szOpSt x l0 ≤ 1048576 ∧ (0 ≤ szOpSt x l0 → bdOpSt x) := by
  unfold szOpSt bdOpSt
  have s1 := szN_spec (n := x.rows.n) h0 h1
  refine ⟨s1.1, s1.2.1, fun h => ?_⟩
  have t1 := s1.2.2 h
  simp_all
def szTskIn (x : TskInT) (l0 : Int) : Int := szN x.queue.n l0
theorem szTskIn_spec (x : TskInT) {l0 : Int} (h0 : 0 ≤ l0) (h1 : l0 ≤ 1048576) : -1 ≤ szTskIn x l0 ∧ szTskIn x l0 ≤ 1048576 ∧ (0 ≤ szTskIn x l0 → bdTskIn x) := by
  unfold szTskIn bdTskIn
  have s1 := szN_spec (n := x.queue.n) h0 h1
  refine ⟨s1.1, s1.2.1, fun h => ?_⟩
  have t1 := s1.2.2 h
  simp_all
def szTxn (x : TxnT) (l0 : Int) : Int := let l1 := szN x.panes.n l0; if l1 < 0 then -1 else szN x.lates.n l1
theorem szTxn_spec (x : TxnT) {l0 : Int} (h0 : 0 ≤ l0) (h1 : l0 ≤ 1048576) : -1 ≤ szTxn x l0 ∧ szTxn x l0 ≤ 1048576 ∧ (0 ≤ szTxn x l0 → bdTxn x) := by
  unfold szTxn bdTxn
  have s1 := szN_spec (n := x.panes.n) h0 h1
  generalize szN x.panes.n l0 = l1 at s1 ⊢
  try dsimp only
  by_cases c1 : l1 < 0
  · rw [if_pos c1]; exact ⟨by omega, by omega, fun h => absurd h (by omega)⟩
  rw [if_neg c1]
  have s2 := szN_spec (n := x.lates.n) (by omega : 0 ≤ l1) s1.2.1
  refine ⟨s2.1, s2.2.1, fun h => ?_⟩
  have t1 := s1.2.2 (by omega)
  have t2 := s2.2.2 h
  simp_all
def szTsk (x : TskT) (l0 : Int) : Int := let l1 := szS (fun i l => szTskIn (x.ins.g i) l) x.ins.n l0; if l1 < 0 then -1 else let l2 := szOpSt x.op l1; if l2 < 0 then -1 else szTxn x.pend l2
theorem szTsk_spec (x : TskT) {l0 : Int} (h0 : 0 ≤ l0) (h1 : l0 ≤ 1048576) : -1 ≤ szTsk x l0 ∧ szTsk x l0 ≤ 1048576 ∧ (0 ≤ szTsk x l0 → bdTsk x) := by
  unfold szTsk bdTsk
  have s1 := (szS_spec (n := x.ins.n) (B := fun i => bdTskIn (x.ins.g i)) (fun i _ l h0 h1 => by simpa using szTskIn_spec (x.ins.g i) h0 h1) h0 h1)
  generalize szS (fun i l => szTskIn (x.ins.g i) l) x.ins.n l0 = l1 at s1 ⊢
  try dsimp only
  by_cases c1 : l1 < 0
  · rw [if_pos c1]; exact ⟨by omega, by omega, fun h => absurd h (by omega)⟩
  rw [if_neg c1]
  have s2 := szOpSt_spec x.op (by omega : 0 ≤ l1) s1.2.1
  generalize szOpSt x.op l1 = l2 at s2 ⊢
  try dsimp only
  by_cases c2 : l2 < 0
  · rw [if_pos c2]; exact ⟨by omega, by omega, fun h => absurd h (by omega)⟩
  rw [if_neg c2]
  have s3 := szTxn_spec x.pend (by omega : 0 ≤ l2) s2.2.1
  refine ⟨s3.1, s3.2.1, fun h => ?_⟩
  have t1 := s1.2.2 (by omega)
  have t2 := s2.2.2 (by omega)
  have t3 := s3.2.2 h
  simp_all
def szSnap (x : SnapT) (l0 : Int) : Int := let l1 := szOpSt x.op l0; if l1 < 0 then -1 else szN x.marks.n l1
theorem szSnap_spec (x : SnapT) {l0 : Int} (h0 : 0 ≤ l0) (h1 : l0 ≤ 1048576) : -1 ≤ szSnap x l0 ∧ szSnap x l0 ≤ 1048576 ∧ (0 ≤ szSnap x l0 → bdSnap x) := by
  unfold szSnap bdSnap
  have s1 := szOpSt_spec x.op h0 h1
  generalize szOpSt x.op l0 = l1 at s1 ⊢
  try dsimp only
  by_cases c1 : l1 < 0
  · rw [if_pos c1]; exact ⟨by omega, by omega, fun h => absurd h (by omega)⟩
  rw [if_neg c1]
  have s2 := szN_spec (n := x.marks.n) (by omega : 0 ≤ l1) s1.2.1
  refine ⟨s2.1, s2.2.1, fun h => ?_⟩
  have t1 := s1.2.2 (by omega)
  have t2 := s2.2.2 h
  simp_all
def szSafe (x : SafeT) (l0 : Int) : Int := let l1 := szN x.at_.n l0; if l1 < 0 then -1 else szS (fun i l => szSnap (x.snaps.g i) l) x.snaps.n l1
theorem szSafe_spec (x : SafeT) {l0 : Int} (h0 : 0 ≤ l0) (h1 : l0 ≤ 1048576) : -1 ≤ szSafe x l0 ∧ szSafe x l0 ≤ 1048576 ∧ (0 ≤ szSafe x l0 → bdSafe x) := by
  unfold szSafe bdSafe
  have s1 := szN_spec (n := x.at_.n) h0 h1
  generalize szN x.at_.n l0 = l1 at s1 ⊢
  try dsimp only
  by_cases c1 : l1 < 0
  · rw [if_pos c1]; exact ⟨by omega, by omega, fun h => absurd h (by omega)⟩
  rw [if_neg c1]
  have s2 := (szS_spec (n := x.snaps.n) (B := fun i => bdSnap (x.snaps.g i)) (fun i _ l h0 h1 => by simpa using szSnap_spec (x.snaps.g i) h0 h1) (by omega : 0 ≤ l1) s1.2.1)
  refine ⟨s2.1, s2.2.1, fun h => ?_⟩
  have t1 := s1.2.2 (by omega)
  have t2 := s2.2.2 h
  simp_all
def szCkp (x : CkpT) (l0 : Int) : Int := let l1 := szN x.src.n l0; if l1 < 0 then -1 else let l2 := szN x.tsk.n l1; if l2 < 0 then -1 else let l3 := szS (fun i l => szSnap (x.snaps.g i) l) x.snaps.n l2; if l3 < 0 then -1 else szSafe x.safe l3
theorem szCkp_spec (x : CkpT) {l0 : Int} (h0 : 0 ≤ l0) (h1 : l0 ≤ 1048576) : -1 ≤ szCkp x l0 ∧ szCkp x l0 ≤ 1048576 ∧ (0 ≤ szCkp x l0 → bdCkp x) := by
  unfold szCkp bdCkp
  have s1 := szN_spec (n := x.src.n) h0 h1
  generalize szN x.src.n l0 = l1 at s1 ⊢
  try dsimp only
  by_cases c1 : l1 < 0
  · rw [if_pos c1]; exact ⟨by omega, by omega, fun h => absurd h (by omega)⟩
  rw [if_neg c1]
  have s2 := szN_spec (n := x.tsk.n) (by omega : 0 ≤ l1) s1.2.1
  generalize szN x.tsk.n l1 = l2 at s2 ⊢
  try dsimp only
  by_cases c2 : l2 < 0
  · rw [if_pos c2]; exact ⟨by omega, by omega, fun h => absurd h (by omega)⟩
  rw [if_neg c2]
  have s3 := (szS_spec (n := x.snaps.n) (B := fun i => bdSnap (x.snaps.g i)) (fun i _ l h0 h1 => by simpa using szSnap_spec (x.snaps.g i) h0 h1) (by omega : 0 ≤ l2) s2.2.1)
  generalize szS (fun i l => szSnap (x.snaps.g i) l) x.snaps.n l2 = l3 at s3 ⊢
  try dsimp only
  by_cases c3 : l3 < 0
  · rw [if_pos c3]; exact ⟨by omega, by omega, fun h => absurd h (by omega)⟩
  rw [if_neg c3]
  have s4 := szSafe_spec x.safe (by omega : 0 ≤ l3) s3.2.1
  refine ⟨s4.1, s4.2.1, fun h => ?_⟩
  have t1 := s1.2.2 (by omega)
  have t2 := s2.2.2 (by omega)
  have t3 := s3.2.2 (by omega)
  have t4 := s4.2.2 h
  simp_all
def szSink (x : SinkT) (l0 : Int) : Int := let l1 := szS (fun i l => szTxn (x.ready.g i) l) x.ready.n l0; if l1 < 0 then -1 else let l2 := szN x.panes.n l1; if l2 < 0 then -1 else szN x.lates.n l2
theorem szSink_spec (x : SinkT) {l0 : Int} (h0 : 0 ≤ l0) (h1 : l0 ≤ 1048576) : -1 ≤ szSink x l0 ∧ szSink x l0 ≤ 1048576 ∧ (0 ≤ szSink x l0 → bdSink x) := by
  unfold szSink bdSink
  have s1 := (szS_spec (n := x.ready.n) (B := fun i => bdTxn (x.ready.g i)) (fun i _ l h0 h1 => by simpa using szTxn_spec (x.ready.g i) h0 h1) h0 h1)
  generalize szS (fun i l => szTxn (x.ready.g i) l) x.ready.n l0 = l1 at s1 ⊢
  try dsimp only
  by_cases c1 : l1 < 0
  · rw [if_pos c1]; exact ⟨by omega, by omega, fun h => absurd h (by omega)⟩
  rw [if_neg c1]
  have s2 := szN_spec (n := x.panes.n) (by omega : 0 ≤ l1) s1.2.1
  generalize szN x.panes.n l1 = l2 at s2 ⊢
  try dsimp only
  by_cases c2 : l2 < 0
  · rw [if_pos c2]; exact ⟨by omega, by omega, fun h => absurd h (by omega)⟩
  rw [if_neg c2]
  have s3 := szN_spec (n := x.lates.n) (by omega : 0 ≤ l2) s2.2.1
  refine ⟨s3.1, s3.2.1, fun h => ?_⟩
  have t1 := s1.2.2 (by omega)
  have t2 := s2.2.2 (by omega)
  have t3 := s3.2.2 h
  simp_all
def szFlo (x : FloT) (l0 : Int) : Int := let l1 := szS (fun i l => szN (x.logs.g i).n l) x.logs.n l0; if l1 < 0 then -1 else let l2 := szN x.srcs.n l1; if l2 < 0 then -1 else let l3 := szS (fun i l => szTsk (x.tasks.g i) l) x.tasks.n l2; if l3 < 0 then -1 else let l4 := szS (fun i l => szSink (x.sinks.g i) l) x.sinks.n l3; if l4 < 0 then -1 else szCkp x.ckp l4
theorem szFlo_spec (x : FloT) {l0 : Int} (h0 : 0 ≤ l0) (h1 : l0 ≤ 1048576) : -1 ≤ szFlo x l0 ∧ szFlo x l0 ≤ 1048576 ∧ (0 ≤ szFlo x l0 → bdFlo x) := by
  unfold szFlo bdFlo
  have s1 := (szS_spec (n := x.logs.n) (B := fun i => (x.logs.g i).n ≤ 1048576) (fun i _ l h0 h1 => by simpa using szN_spec (n := (x.logs.g i).n) h0 h1) h0 h1)
  generalize szS (fun i l => szN (x.logs.g i).n l) x.logs.n l0 = l1 at s1 ⊢
  try dsimp only
  by_cases c1 : l1 < 0
  · rw [if_pos c1]; exact ⟨by omega, by omega, fun h => absurd h (by omega)⟩
  rw [if_neg c1]
  have s2 := szN_spec (n := x.srcs.n) (by omega : 0 ≤ l1) s1.2.1
  generalize szN x.srcs.n l1 = l2 at s2 ⊢
  try dsimp only
  by_cases c2 : l2 < 0
  · rw [if_pos c2]; exact ⟨by omega, by omega, fun h => absurd h (by omega)⟩
  rw [if_neg c2]
  have s3 := (szS_spec (n := x.tasks.n) (B := fun i => bdTsk (x.tasks.g i)) (fun i _ l h0 h1 => by simpa using szTsk_spec (x.tasks.g i) h0 h1) (by omega : 0 ≤ l2) s2.2.1)
  generalize szS (fun i l => szTsk (x.tasks.g i) l) x.tasks.n l2 = l3 at s3 ⊢
  try dsimp only
  by_cases c3 : l3 < 0
  · rw [if_pos c3]; exact ⟨by omega, by omega, fun h => absurd h (by omega)⟩
  rw [if_neg c3]
  have s4 := (szS_spec (n := x.sinks.n) (B := fun i => bdSink (x.sinks.g i)) (fun i _ l h0 h1 => by simpa using szSink_spec (x.sinks.g i) h0 h1) (by omega : 0 ≤ l3) s3.2.1)
  generalize szS (fun i l => szSink (x.sinks.g i) l) x.sinks.n l3 = l4 at s4 ⊢
  try dsimp only
  by_cases c4 : l4 < 0
  · rw [if_pos c4]; exact ⟨by omega, by omega, fun h => absurd h (by omega)⟩
  rw [if_neg c4]
  have s5 := szCkp_spec x.ckp (by omega : 0 ≤ l4) s4.2.1
  refine ⟨s5.1, s5.2.1, fun h => ?_⟩
  have t1 := s1.2.2 (by omega)
  have t2 := s2.2.2 (by omega)
  have t3 := s3.2.2 (by omega)
  have t4 := s4.2.2 (by omega)
  have t5 := s5.2.2 h
  simp_all
end Go.Rk
