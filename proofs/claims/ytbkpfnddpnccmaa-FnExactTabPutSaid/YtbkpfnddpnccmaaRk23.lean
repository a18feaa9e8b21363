/- A law: true for all data that may come in; then its row's contract stands. -/
import Derived.Test.YtbkpfnddpnccmaaRk22
import Derived.Carry
import Derived.SizedLaws
import Derived.OpenShut
import Derived.Below
namespace Go.Rk
open Go.RowKit
def xtIn (T : TypeId → Option TI) (t : TypeId) (l : List DV) : XT :=
  match T t with
  | some i => if isAggT i.desc then .agg (l.map .d) else match l with
    | [x] => .c (.d x)
    | _ => .agg []
  | none => .agg []
/-- Data of these types. -/
def ShowsL (T : TypeId → Option TI) (n : Nat) : List TypeId → List (List DV) → Prop
  | [], [] => True
  | t :: ts, l :: ls => Shows T n t l ∧ ShowsL T n ts ls
  | _, _ => False
def xtsIn (T : TypeId → Option TI) : List TypeId → List (List DV) → List XT
  | t :: ts, l :: ls => xtIn T t l :: xtsIn T ts ls
  | _, _ => []
def noneL {α : Type} : List α → List (Option XV)
  | [] => []
  | _ :: r => none :: noneL r
section
variable {P : Program} {T : TypeId → Option TI} {w : World} {N : Nat → Prop}

theorem XVsRep.ofD : ∀ {l : List DV} {cs : List Value}, Cells w N l cs → XVsRep w N (l.map .d) cs []
  | [], [], _ => rfl
  | [], _ :: _, h => by have := h.1; simp at this
  | _ :: _, [], h => by have := h.1; simp at this
  | x :: r, v :: s, h => by
    obtain ⟨u, hu, hd⟩ := h.2 0 x rfl
    simp at hu; subst hu
    exact ⟨[], [], rfl, ⟨rfl, hd⟩, XVsRep.ofD ⟨by have := h.1; simpa using this, fun j y hj => by simpa using h.2 (j + 1) y (by simpa using hj)⟩⟩

theorem reads_in {H : Type} {enc : TypeId × Value → H} (hT : TTok P T) {n : Nat} {r : Reach} {base : Nat} : ∀ {ts : List TypeId} {vs : List Value} {ds : List (DataW H)} {ps : List MemPlace},
    (∀ t ∈ ts, shOk T n t = true) → (∀ (j : Nat) t v, ts[j]? = some t → vs[j]? = some v → Value.okWide P w r base t v) → DataW.TrodAll enc P w 0 (fun _ => true) true ts vs ds ps →
    ∃ ls, ShowsL T n ts ls ∧ XTsRep w (fun b => b < w.heap.size) (xtsIn T ts ls) vs []
  | [], [], [], _, _, _, _ => ⟨[], trivial, rfl⟩
  | t :: ts, v :: vs, d :: ds, ps, hsh, hok, h => by
    obtain ⟨p, q, ⟨fuel, h1⟩, h2, _⟩ := h
    obtain ⟨ls, e1, e2⟩ := reads_in hT (fun t ht => hsh t (by simp [ht])) (fun j t v ht hv => hok (j + 1) t v (by simpa using ht) (by simpa using hv)) h2
    obtain ⟨l, f1, f2⟩ := trod_fits hT n t fuel v.cells.toList _ (hsh t (by simp)) h1
    refine ⟨l :: ls, ⟨f1, e1⟩, [], [], rfl, ?_, e2⟩
    have hsh0 := hsh t (by simp)
    have ok := hok 0 t v rfl rfl
    cases n with
    | zero => cases hsh0
    | succ n =>
      unfold shOk at hsh0
      cases ht : T t with
      | none => rw [ht] at hsh0; cases hsh0
      | some i =>
        rw [ht] at hsh0
        have hd := hT.desc t i ht
        have hl := fits_len (hsh t (by simp)) ht f1
        have one : i.size = 1 → isAggT i.desc = false → (∀ cs, v ≠ .agg cs) → XTRep w (fun b => b < w.heap.size) (xtIn T t l) v [] := by
          intro hs ha hv
          unfold xtIn
          rw [ht]
          simp only [ha]
          rw [hs] at hl
          match l, hl with
          | [x], _ =>
            refine ⟨rfl, ?_⟩
            have hcs : v.cells = #[v] := by cases v <;> first | rfl | exact absurd rfl (hv _)
            rw [hcs] at f2
            obtain ⟨u, hu, hdd⟩ := f2.2 0 x rfl
            simp at hu; subst hu
            exact hdd
        obtain ⟨desc, s, b, z, q⟩ := i
        cases desc with
        | int k =>
          refine one (Nat.eq_of_beq_eq_true hsh0) rfl fun cs e => ?_
          subst e
          simp [Value.okWide, hd, Cell.okWide, Cell.ok] at ok
        | bool =>
          refine one (Nat.eq_of_beq_eq_true hsh0) rfl fun cs e => ?_
          subst e
          simp [Value.okWide, hd, Cell.okWide, Cell.ok] at ok
        | slice e =>
          simp only [Bool.and_eq_true] at hsh0
          refine one (Nat.eq_of_beq_eq_true hsh0.1) rfl fun cs e => ?_
          subst e
          simp [Value.okWide, hd, Cell.okWide, Cell.ok] at ok
        | struct fs =>
          simp only [Value.okWide, hd] at ok
          obtain ⟨cs, rfl, _⟩ := ok
          unfold xtIn
          rw [ht]
          exact ⟨cs, rfl, XVsRep.ofD f2⟩
        | _ => cases hsh0
  | [], _ :: _, _, _, _, _, h => by cases h
  | _ :: _, [], _, _, _, _, h => by cases h
  | [], [], _ :: _, _, _, _, h => by cases h
  | _ :: _, _ :: _, [], _, _, _, h => by cases h

theorem carryAll {H : Type} {enc : TypeId × Value → H} (hl : laidOutB P = true) {w' : World} (hb : Below w.heap.size w w') : ∀ {ts : List TypeId} {vs : List Value} {ds : List (DataW H)} {ps : List MemPlace},
    (∀ t ∈ ts, P.readableRec t = true ∧ t < P.types.size) → DataW.TrodAll enc P w 0 (fun _ => true) true ts vs ds ps →
    DataW.TrodAll enc P w' 0 (fun b => decide (b < w.heap.size)) true ts vs ds ps
  | [], [], [], _, _, h => h
  | t :: ts, v :: vs, d :: ds, ps, hr, h => by
    obtain ⟨p, q, h1, h2, e⟩ := h
    have hlt : ∀ x ∈ p, x.block < w.heap.size := by obtain ⟨m, hm⟩ := h1; exact DataW.trod_lt m _ _ _ hm
    exact ⟨p, q, Below.trod hl (hr t (by simp)).1 (hr t (by simp)).2 h1 hb hlt, carryAll hl hb (fun t ht => hr t (by simp [ht])) h2, e⟩
  | [], _ :: _, _, _, _, h => by cases h
  | _ :: _, [], _, _, _, h => by cases h
  | [], [], _ :: _, _, _, h => by cases h
  | _ :: _, _ :: _, [], _, _, h => by cases h

/-- The contract of a law's row. -/
theorem law_contract (hT : TTok P T) {n : Nat} {f : FuncId} {fn : Func} {s : ChangeSpec} {tb : TypeId} (hl : laidOutB P = true)
    (hsh : fn.params.toList.all (shOk T n) = true) (hread : (fn.params.toList.all fun t => P.readableRec t && decide (t < P.types.size)) = true)
    (hres : fn.resultTypes = #[tb]) (htb : P.underlying tb = some .bool) (hv : s.vars = [])
    (hs : ∀ (H : Type) (ds : List (DataW H)), ds.length = fn.params.size → (s.fn H ds).results = [.lit (.bool true)] ∧ (s.fn H ds).args = ds ∧ (s.fn H ds).vars = [])
    (hm : ∀ ls, ShowsL T n fn.params.toList ls → Meets P f (xtsIn T fn.params.toList ls) ⟨.one (.c (.d (.v (.bool true)))), noneL fn.params.toList⟩)
    {H : Type} {enc : TypeId × Value → H} (W : World) (base : Nat) (args : Array Value) (ds gs : List (DataW H)) (before : List MemPlace)
    (hval : ∀ (j : Nat) t v, fn.params[j]? = some t → args[j]? = some v → Value.okWide P W .any base t v)
    (hW : DataW.Whole enc P fn.params.toList s.vars false W args.toList ds gs before) :
    Calls P f args W fun e W' => ∃ v, e = .returned v ∧ s.post enc P fn false true false false W args v W' := by
  have hW' := hW
  obtain ⟨p, q, hA, hV, rfl, hfz, hnd⟩ := hW
  rw [hv] at hV
  have hgs : gs = [] ∧ q = [] := by
    cases gs with
    | nil => exact ⟨rfl, hV⟩
    | cons _ _ => cases hV
  obtain ⟨rfl, rfl⟩ := hgs
  simp only [List.all_eq_true] at hsh
  simp only [List.all_eq_true, Bool.and_eq_true, decide_eq_true_eq] at hread
  obtain ⟨ls, h1, h2⟩ := reads_in hT hsh (fun j t v ht hv => hval j t v (by simpa using ht) (by simpa using hv)) hA
  obtain ⟨_, hcalls⟩ := hm ls h1
  have := hcalls W args.toList [] (fun b => b < W.heap.size) h2 (by simp) (fun b hb => by simp at hb) (fun b hb => hb)
  refine (show Calls P f args.toList.toArray W _ from this).mono fun e W' hp => ?_
  obtain ⟨v, F1, F2, rfl, env, hsize, hframe, hshape, hFs, hFn, hres', hback⟩ := hp
  have hvb : v = .bool true := by
    obtain ⟨_, hd⟩ := hres'
    cases hd
    rfl
  subst hvb
  have hbel : Below W.heap.size W W' := ⟨env.1, env.2.2, env.2.1, hsize, fun k hk => hframe k hk (by simp)⟩
  have hdl : ∀ {ts : List TypeId} {vs : List Value} {ds : List (DataW H)} {ps : List MemPlace}, DataW.TrodAll enc P W 0 (fun _ => true) true ts vs ds ps → ds.length = ts.length := by
    intro ts
    induction ts with
    | nil => intro vs ds ps h; cases vs <;> cases ds <;> first | rfl | cases h
    | cons t ts ih =>
      intro vs ds ps h
      cases vs <;> cases ds <;> first | (obtain ⟨_, _, _, h2, _⟩ := h; simp [ih h2]) | cases h
  obtain ⟨s1, s2, s3⟩ := hs H ds (by rw [hdl hA]; simp)
  refine ⟨_, rfl, ds, [], _, [], p, [], hW', ?_, ?_, ?_, hbel.frame _, fun h => by cases h⟩
  · rw [List.append_nil, s1, hres]
    refine ⟨[], [], ⟨1, ?_⟩, rfl, rfl⟩
    simp [DataW.trod, Value.cells, htb]
  · rw [List.append_nil, s2]
    exact carryAll hl hbel hread hA
  · rw [List.append_nil, s3, hv]
    rfl
end
end Go.Rk
