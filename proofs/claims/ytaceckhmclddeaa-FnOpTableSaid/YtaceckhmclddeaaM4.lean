/- The walk over this seat's functions, part 4: what each of them answers, at all data. -/
import Derived.Test.YtaceckhmclddeaaM1
import Derived.Test.YtaceckhmclddeaaM2
import Derived.Test.YtaceckhmclddeaaM3
import Derived.Laws.StructEq
import Derived.ChangeKeysEq
import Derived.Test.YtaceckhmclddeaaProg
import Derived.KernelRfl
import Derived.IntWalk
/- The table of types, row by row. -/
namespace Go.Rk
set_option linter.unusedSimpArgs false
set_option linter.unusedVariables false
def tabT : List (Nat × TI) → TypeId → Option TI
  | [], _ => none
  | (j, i) :: r, t => bif nbeq j t then some i else tabT r t
def flatOk (T : TypeId → Option TI) : Nat → List Field → List Value → Bool
  | _, [], [] => true
  | o, f :: r, z :: s => !(f.name == "_") && (nbeq f.offset o && ((match T f.type, z with
    | some ⟨.int _, _, _, _, _⟩, .int _ _ => true
    | some ⟨.bool, _, _, _, _⟩, .bool _ => true
    | _, _ => false) && flatOk T (o + 1) r s))
  | _, _, _ => false
def kEq : List Value → List Value → Bool
  | [], [] => true
  | .int k _ :: r, .int k' _ :: s => decide (k = k') && kEq r s
  | .bool _ :: r, .bool _ :: s => kEq r s
  | _, _ => false
def leafOk : TypeDesc → List Value → Bool
  | .int _, .int _ _ :: _ => true
  | .bool, .bool _ :: _ => true
  | _, _ => false
def nestOk (T : TypeId → Option TI) (i : TI) (zs : List Value) : Bool := match i.desc with
  | .struct gs => i.eqk && (flatOk T 0 gs.toList i.zero && (kEq i.zero (zs.take i.size) && nbeq i.zero.length i.size))
  | _ => false
/-- Structs of numbers, bools and of flat structs. -/
def flat2Ok (T : TypeId → Option TI) : Nat → List Field → List Value → Bool
  | _, [], [] => true
  | _, [], _ :: _ => false
  | o, f :: r, zs => !(f.name == "_") && (nbeq f.offset o && (match T f.type with
    | some i => bif leafOk i.desc zs then flat2Ok T (o + 1) r (zs.drop 1) else nestOk T i zs && flat2Ok T (o + i.size) r (zs.drop i.size)
    | none => false))
def eqOk (T : TypeId → Option TI) (i : TI) : Bool := match i.desc with
  | .struct fs => flat2Ok T 0 fs.toList i.zero
  | _ => false
structure TRow (P : Program) (t : TypeId) (i : TI) : Prop where
  desc : P.underlying t = some i.desc
  info : ∃ inf z, P.info? t = some inf ∧ inf.size = i.size ∧ inf.bytes = i.bytes ∧ inf.zero = some z ∧ z.cells.toList = i.zero ∧ i.zero.length = i.size ∧ (i.zero.all (·.oneCell')) = true
  held : i.eqk = true → P.stoodInHeld t = false ∧ P.eqGuardType P.depth t = false
def TRows (P : Program) : List (Nat × TI) → Prop
  | [] => True
  | p :: r => TRow P p.1 p.2 ∧ TRows P r
section
variable {P : Program} {tab : List (Nat × TI)}
theorem TRows.at : ∀ {tab : List (Nat × TI)}, TRows P tab → ∀ t i, tabT tab t = some i → TRow P t i ∧ (t, i) ∈ tab
  | [], _, _, _, h => by cases h
  | (j, i0) :: r, hr, t, i, h => by
    unfold tabT at h
    cases hb : nbeq j t with
    | true =>
      rw [hb] at h
      cases h
      have := eq_of_nbeq hb
      subst this
      exact ⟨hr.1, by simp⟩
    | false =>
      rw [hb] at h
      obtain ⟨h1, h2⟩ := TRows.at hr.2 t i h
      exact ⟨h1, by simp [h2]⟩

theorem flat_eq {T : TypeId → Option TI} (hd : ∀ t i, T t = some i → P.underlying t = some i.desc) (w : World) (d : Nat) (us vs : Array Value) : ∀ (fs : List Field) (o : Nat) (zs : List Value) (xs ys : List CV) (r : Bool),
    flatOk T o fs zs = true → kindsB xs zs = true → eqCells real xs ys = some r → (∀ (j : Nat) x, xs[j]? = some (CV.d (.v x)) → us[o + j]? = some x) → (∀ (j : Nat) y, ys[j]? = some (CV.d (.v y)) → vs[o + j]? = some y) →
    (Op.eqFields (d + 1) us vs fs).run P w = .ok r w
  | [], o, z :: zs, xs, ys, r, hf, _, _, _, _ => by cases hf
  | [], o, [], x :: xs, ys, r, _, hl, _, _, _ => by unfold kindsB at hl; split at hl <;> simp_all
  | [], o, [], [], ys, r, _, _, he, _, _ => by
    cases ys with
    | nil => cases he; simp [Op.eqFields]
    | cons _ _ => cases he
  | f :: fs, o, [], xs, ys, r, hf, _, _, _, _ => by cases hf
  | f :: fs, o, z :: zs, [], ys, r, _, hl, _, _, _ => by cases hl
  | f :: fs, o, z :: zs, x :: xs, ys, r, hf, hl, he, hx, hy => by
    simp only [flatOk, Bool.and_eq_true, Bool.not_eq_true'] at hf
    obtain ⟨hn, ho, ht, hf⟩ := hf
    have hn' : f.name ≠ "_" := by simpa using hn
    have ho : f.offset = o := eq_of_nbeq ho
    have step : ∀ (a b : Value) (q s : Bool), us[o]? = some a → vs[o]? = some b → P.plainKey f.type = true → (Op.equalIn (d + 1) f.type a b).run P w = .ok q w →
        (Op.eqFields (d + 1) us vs fs).run P w = .ok s w → (Op.eqFields (d + 1) us vs (f :: fs)).run P w = .ok (q && s) w := by
      intro a b q s ha hb hp hq hs
      rw [Op.eqFields]
      simp only [if_pos hn', Sem.run_bind, ho, run_part_plain w hp ha, run_part_plain w hp hb, hq, Result.andThen_ok]
      cases q
      · simp
      · simpa using hs
    have hpk : ∀ desc, P.underlying f.type = some desc → ((∃ k, desc = .int k) ∨ desc = .bool) → P.plainKey f.type = true := by
      intro desc hu hdd
      unfold Program.plainKey
      rw [hu]
      rcases hdd with ⟨k, rfl⟩ | rfl <;> simp
    unfold eqCells at he
    split at he
    · simp_all
    · rename_i k a xs' k' b ys' e1
      simp only [List.cons.injEq] at e1
      obtain ⟨rfl, rfl⟩ := e1
      split at he
      · rename_i hk
        subst hk
        simp only [Option.map_eq_some_iff] at he
        obtain ⟨s, he, rfl⟩ := he
        cases z with
        | int k2 _ =>
          simp only [kindsB, Bool.and_eq_true] at hl
          have ih := flat_eq hd w d us vs fs (o + 1) zs xs ys' s hf hl.2 he (fun j x hj => by have := hx (j + 1) x (by simpa using hj); rw [show o + 1 + j = o + (j + 1) by omega]; exact this)
            (fun j y hj => by have := hy (j + 1) y (by simpa using hj); rw [show o + 1 + j = o + (j + 1) by omega]; exact this)
          have ha := hx 0 _ rfl
          have hb := hy 0 _ rfl
          cases hT : T f.type with
          | none => rw [hT] at ht; cases ht
          | some i =>
            rw [hT] at ht
            have hu := hd f.type i hT
            obtain ⟨desc, s1, s2, s3, s4⟩ := i
            cases desc with
            | int k' => exact step _ _ (a == b) s ha hb (hpk _ hu (.inl ⟨_, rfl⟩)) (run_equalIn_int w d f.type k k' a b hu) ih
            | _ => cases ht
        | _ => cases hl
      · cases he
    · rename_i a xs' b ys' e1
      simp only [List.cons.injEq] at e1
      obtain ⟨rfl, rfl⟩ := e1
      simp only [Option.map_eq_some_iff] at he
      obtain ⟨s, he, rfl⟩ := he
      cases z with
      | bool _ =>
        simp only [kindsB] at hl
        have ih := flat_eq hd w d us vs fs (o + 1) zs xs ys' s hf hl he (fun j x hj => by have := hx (j + 1) x (by simpa using hj); rw [show o + 1 + j = o + (j + 1) by omega]; exact this)
          (fun j y hj => by have := hy (j + 1) y (by simpa using hj); rw [show o + 1 + j = o + (j + 1) by omega]; exact this)
        have ha := hx 0 _ rfl
        have hb := hy 0 _ rfl
        cases hT : T f.type with
        | none => rw [hT] at ht; cases ht
        | some i =>
          rw [hT] at ht
          have hu := hd f.type i hT
          obtain ⟨desc, s1, s2, s3, s4⟩ := i
          cases desc with
          | bool => exact step _ _ (a == b) s ha hb (hpk _ hu (.inr rfl)) (run_equalIn_bool' w d f.type a b hu) ih
          | _ => cases ht
      | _ => cases hl
    · cases he

theorem eqCells_split : ∀ (s : Nat) (xs ys : List CV) (r : Bool), eqCells real xs ys = some r → ∃ r1 r2, eqCells real (xs.take s) (ys.take s) = some r1 ∧ eqCells real (xs.drop s) (ys.drop s) = some r2 ∧ r = (r1 && r2)
  | 0, xs, ys, r, h => ⟨true, r, rfl, h, by simp⟩
  | s + 1, [], ys, r, h => by
    cases ys with
    | nil => exact ⟨true, r, rfl, h, by simp⟩
    | cons _ _ => cases h
  | s + 1, x :: xs, [], r, h => by unfold eqCells at h; split at h <;> simp_all
  | s + 1, x :: xs, y :: ys, r, h => by
    simp only [List.take_succ_cons, List.drop_succ_cons]
    unfold eqCells at h
    split at h
    · simp_all
    · rename_i k a xs' k' b ys' e1 e2
      simp only [List.cons.injEq] at e1 e2
      obtain ⟨rfl, rfl⟩ := e1
      obtain ⟨rfl, rfl⟩ := e2
      split at h
      · rename_i hk
        simp only [Option.map_eq_some_iff] at h
        obtain ⟨q, h, rfl⟩ := h
        obtain ⟨r1, r2, h1, h2, rfl⟩ := eqCells_split s _ _ _ h
        refine ⟨real.band (real.cmp .eql a b) r1, r2, ?_, h2, ?_⟩
        · unfold eqCells; rw [if_pos hk, h1]; rfl
        · show ((a == b) && (r1 && r2)) = (((a == b) && r1) && r2)
          rw [Bool.and_assoc]
      · cases h
    · rename_i a xs' b ys' e1 e2
      simp only [List.cons.injEq] at e1 e2
      obtain ⟨rfl, rfl⟩ := e1
      obtain ⟨rfl, rfl⟩ := e2
      simp only [Option.map_eq_some_iff] at h
      obtain ⟨q, h, rfl⟩ := h
      obtain ⟨r1, r2, h1, h2, rfl⟩ := eqCells_split s _ _ _ h
      refine ⟨real.band (real.beq a b) r1, r2, ?_, h2, ?_⟩
      · unfold eqCells; rw [h1]; rfl
      · show ((a == b) && (r1 && r2)) = (((a == b) && r1) && r2)
        rw [Bool.and_assoc]
    · cases h
theorem kinds_take : ∀ (s : Nat) (xs : List CV) (z zs : List Value), kindsB xs zs = true → kEq z (zs.take s) = true → kindsB (xs.take s) z = true
  | 0, xs, z, zs, _, h => by
    rw [List.take_zero] at h
    rw [List.take_zero]
    cases z with
    | nil => rfl
    | cons a _ => cases a <;> cases h
  | s + 1, [], z, [], _, h => by
    cases z with
    | nil => rfl
    | cons a _ => cases a <;> cases h
  | s + 1, [], z, y :: zs, h0, _ => by cases h0
  | s + 1, x :: xs, z, [], h0, _ => by unfold kindsB at h0; split at h0 <;> simp_all
  | s + 1, x :: xs, z, y :: zs, h0, h => by
    rw [List.take_succ_cons] at h ⊢
    unfold kindsB at h0
    split at h0
    · simp_all
    · rename_i e1 e2
      simp only [List.cons.injEq] at e1 e2
      obtain ⟨rfl, rfl⟩ := e1
      obtain ⟨rfl, rfl⟩ := e2
      simp only [Bool.and_eq_true, decide_eq_true_eq] at h0
      cases z with
      | nil => cases h
      | cons a z =>
        cases a with
        | int k3 _ =>
          simp only [kEq, Bool.and_eq_true, decide_eq_true_eq] at h
          unfold kindsB
          simp only [Bool.and_eq_true, decide_eq_true_eq]
          exact ⟨h0.1.trans h.1.symm, kinds_take s _ _ _ h0.2 h.2⟩
        | _ => cases h
    · rename_i e1 e2
      simp only [List.cons.injEq] at e1 e2
      obtain ⟨rfl, rfl⟩ := e1
      obtain ⟨rfl, rfl⟩ := e2
      cases z with
      | nil => cases h
      | cons a z =>
        cases a with
        | bool _ =>
          simp only [kEq] at h
          unfold kindsB
          exact kinds_take s _ _ _ h0 h
        | _ => cases h
    · cases h0
theorem kinds_drop : ∀ (s : Nat) (xs : List CV) (zs : List Value), kindsB xs zs = true → kindsB (xs.drop s) (zs.drop s) = true
  | 0, xs, zs, h => h
  | s + 1, [], [], h => h
  | s + 1, [], y :: zs, h0 => by cases h0
  | s + 1, x :: xs, [], h0 => by unfold kindsB at h0; split at h0 <;> simp_all
  | s + 1, x :: xs, y :: zs, h0 => by
    rw [List.drop_succ_cons, List.drop_succ_cons]
    unfold kindsB at h0
    split at h0
    · simp_all
    · rename_i e1 e2
      simp only [List.cons.injEq] at e1 e2
      obtain ⟨rfl, rfl⟩ := e1
      obtain ⟨rfl, rfl⟩ := e2
      simp only [Bool.and_eq_true] at h0
      exact kinds_drop s _ _ h0.2
    · rename_i e1 e2
      simp only [List.cons.injEq] at e1 e2
      obtain ⟨rfl, rfl⟩ := e1
      obtain ⟨rfl, rfl⟩ := e2
      exact kinds_drop s _ _ h0
    · cases h0
theorem take_at {xs : List CV} {us : Array Value} {o s : Nat} (hx : ∀ (j : Nat) x, xs[j]? = some (CV.d (.v x)) → us[o + j]? = some x) : ∀ (j : Nat) x, (xs.take s)[j]? = some (CV.d (.v x)) → (us.extract o (o + s))[0 + j]? = some x := by
  intro j x h
  rw [Nat.zero_add]
  rw [List.getElem?_take] at h
  split at h
  · rename_i hj
    have h1 := hx j x h
    rw [Array.getElem?_extract]
    have h2 : o + j < us.size := (Array.getElem?_eq_some_iff.1 h1).1
    rw [if_pos (by omega)]
    exact h1
  · cases h
theorem drop_at {xs : List CV} {us : Array Value} {o s : Nat} (hx : ∀ (j : Nat) x, xs[j]? = some (CV.d (.v x)) → us[o + j]? = some x) : ∀ (j : Nat) x, (xs.drop s)[j]? = some (CV.d (.v x)) → us[(o + s) + j]? = some x := by
  intro j x h
  rw [List.getElem?_drop] at h
  have := hx (s + j) x h
  rw [show o + s + j = o + (s + j) by omega]
  exact this
theorem flat2_eq {T : TypeId → Option TI} (hd : ∀ t i, T t = some i → P.underlying t = some i.desc) (hsz : ∀ t i, T t = some i → ∃ inf, P.info? t = some inf ∧ inf.size = i.size)
    (hh : ∀ t i, T t = some i → i.eqk = true → P.stoodInHeld t = false) (w : World) (d : Nat) (us vs : Array Value) : ∀ (fs : List Field) (o : Nat) (zs : List Value) (xs ys : List CV) (r : Bool),
    flat2Ok T o fs zs = true → kindsB xs zs = true → eqCells real xs ys = some r → (∀ (j : Nat) x, xs[j]? = some (CV.d (.v x)) → us[o + j]? = some x) → (∀ (j : Nat) y, ys[j]? = some (CV.d (.v y)) → vs[o + j]? = some y) →
    (Op.eqFields (d + 2) us vs fs).run P w = .ok r w
  | [], o, z :: zs, xs, ys, r, hf, _, _, _, _ => by cases hf
  | [], o, [], x :: xs, ys, r, _, hl, _, _, _ => by unfold kindsB at hl; split at hl <;> simp_all
  | [], o, [], [], ys, r, _, _, he, _, _ => by
    cases ys with
    | nil => cases he; simp [Op.eqFields]
    | cons _ _ => cases he
  | f :: fs, o, zs, xs, ys, r, hf, hl, he, hx, hy => by
    simp only [flat2Ok, Bool.and_eq_true, Bool.not_eq_true'] at hf
    obtain ⟨hn, ho, hf⟩ := hf
    have hn' : f.name ≠ "_" := by simpa using hn
    have ho : f.offset = o := eq_of_nbeq ho
    cases hT : T f.type with
    | none => rw [hT] at hf; cases hf
    | some i =>
      rw [hT] at hf
      have hu := hd f.type i hT
      have step : ∀ (a b : Value) (q s : Bool), (part f.type us o).run P w = .ok a w → (part f.type vs o).run P w = .ok b w → (Op.equalIn (d + 2) f.type a b).run P w = .ok q w →
          (Op.eqFields (d + 2) us vs fs).run P w = .ok s w → (Op.eqFields (d + 2) us vs (f :: fs)).run P w = .ok (q && s) w := by
        intro a b q s ha hb hq hs
        rw [Op.eqFields]
        simp only [if_pos hn', Sem.run_bind, ho, ha, hb, hq, Result.andThen_ok]
        cases q
        · simp
        · simpa using hs
      have hpk : ∀ desc, P.underlying f.type = some desc → ((∃ k, desc = .int k) ∨ desc = .bool) → P.plainKey f.type = true := by
        intro desc hu hdd
        unfold Program.plainKey
        rw [hu]
        rcases hdd with ⟨k, rfl⟩ | rfl <;> simp
      cases hlf : leafOk i.desc zs with
      | true =>
        simp only [hlf, cond_true] at hf
        obtain ⟨r1, r2, e1, e2, rfl⟩ := eqCells_split 1 xs ys r he
        have ih := flat2_eq hd hsz hh w d us vs fs (o + 1) (zs.drop 1) (xs.drop 1) (ys.drop 1) r2 hf (kinds_drop 1 _ _ hl) e2 (drop_at hx) (drop_at hy)
        cases zs with
        | nil => unfold leafOk at hlf; split at hlf <;> simp_all
        | cons z zs =>
          cases xs with
          | nil => cases hl
          | cons x xs =>
            unfold eqCells at he
            split at he
            · simp_all
            · rename_i k a xs' k' b ys' q1
              simp only [List.cons.injEq] at q1
              obtain ⟨rfl, rfl⟩ := q1
              split at he
              · rename_i hk
                subst hk
                have hr1 : r1 = (a == b) := by
                  simp only [List.take_succ_cons, List.take_zero] at e1
                  unfold eqCells at e1
                  rw [if_pos rfl] at e1
                  have e1 := Option.some.inj e1
                  rw [← e1]
                  show ((a == b) && true) = _
                  rw [Bool.and_true]
                have ha := hx 0 _ rfl
                have hb := hy 0 _ rfl
                obtain ⟨desc, s1, s2, s3, s4⟩ := i
                cases desc with
                | int k' =>
                  rw [hr1]
                  exact step _ _ _ _ (run_part_plain w (hpk _ hu (.inl ⟨_, rfl⟩)) ha) (run_part_plain w (hpk _ hu (.inl ⟨_, rfl⟩)) hb) (run_equalIn_int w (d + 1) f.type k k' a b hu) ih
                | bool =>
                  cases z with
                  | bool _ => cases hl
                  | _ => cases hlf
                | _ => cases hlf
              · cases he
            · rename_i a xs' b ys' q1
              simp only [List.cons.injEq] at q1
              obtain ⟨rfl, rfl⟩ := q1
              have hr1 : r1 = (a == b) := by
                simp only [List.take_succ_cons, List.take_zero] at e1
                unfold eqCells at e1
                have e1 := Option.some.inj e1
                rw [← e1]
                show ((a == b) && true) = _
                rw [Bool.and_true]
              have ha := hx 0 _ rfl
              have hb := hy 0 _ rfl
              obtain ⟨desc, s1, s2, s3, s4⟩ := i
              cases desc with
              | bool =>
                rw [hr1]
                exact step _ _ _ _ (run_part_plain w (hpk _ hu (.inr rfl)) ha) (run_part_plain w (hpk _ hu (.inr rfl)) hb) (run_equalIn_bool' w (d + 1) f.type a b hu) ih
              | int k' =>
                cases z with
                | int _ _ => cases hl
                | _ => cases hlf
              | _ => cases hlf
            · cases he
      | false =>
        simp only [hlf, cond_false, Bool.and_eq_true] at hf
        obtain ⟨hne, hf⟩ := hf
        obtain ⟨r1, r2, e1, e2, rfl⟩ := eqCells_split i.size xs ys r he
        have ih := flat2_eq hd hsz hh w d us vs fs (o + i.size) (zs.drop i.size) (xs.drop i.size) (ys.drop i.size) r2 hf (kinds_drop _ _ _ hl) e2 (drop_at hx) (drop_at hy)
        obtain ⟨inf, hi, hsi⟩ := hsz f.type i hT
        unfold nestOk at hne
        split at hne
        · rename_i gs hgs
          simp only [Bool.and_eq_true] at hne
          obtain ⟨hq, hfl, hke, _⟩ := hne
          have hu2 : P.underlying f.type = some (.struct gs) := by rw [hu, hgs]
          have hff : P.fieldsOf f.type = gs := by simp [Program.fieldsOf, hu2]
          have hco : P.cellsOf f.type = i.size := by simp [Program.cellsOf, hi, hsi]
          have hpart : ∀ zz : Array Value, (part f.type zz o).run P w = .ok (.agg (zz.extract o (o + i.size))) w := by
            intro zz
            simp [part, isAgg, run_underlying hu2, run_sizeOf w hi, hco]
          refine step _ _ _ _ (hpart us) (hpart vs) ?_ ih
          rw [run_equalIn_struct w (d + 1) f.type _ _ (by rw [hff]; exact hu2) (hh f.type i hT hq), hff]
          exact flat_eq hd w d _ _ gs.toList 0 i.zero _ _ r1 hfl (kinds_take _ _ _ _ hl hke) e1 (take_at hx) (take_at hy)
        · cases hne

/-- A table whose rows stand. -/
theorem ttok_of (hr : TRows P tab) (hq : (tab.all fun p => !p.2.eqk || eqOk (tabT tab) p.2) = true) : TTok P (tabT tab) where
  desc := fun t i h => (hr.at t i h).1.desc
  info := fun t i h => by
    obtain ⟨inf, z, h1, h2, h3, h4, h5, h6, h7⟩ := (hr.at t i h).1.info
    exact ⟨inf, z, h1, h2, h3, h4, h5, h6, by simpa using h7⟩
  eq := fun t i h he xs ys r hk hc us vs _ _ hx hy w => by
    obtain ⟨hrow, hmem⟩ := hr.at t i h
    simp only [List.all_eq_true, Bool.or_eq_true, Bool.not_eq_true'] at hq
    have hok : eqOk (tabT tab) i = true := by
      rcases hq _ hmem with h | h
      · rw [he] at h; cases h
      · exact h
    unfold eqOk at hok
    split at hok
    · rename_i fs hfs
      obtain ⟨hheld, hguard⟩ := hrow.held he
      have hu : P.underlying t = some (.struct fs) := by rw [← hfs]; exact hrow.desc
      have hf : P.fieldsOf t = fs := by simp [Program.fieldsOf, hu]
      refine ⟨run_eqGuard_agg w _ _ _ _ _ _ hguard, run_eqGuard_agg w _ _ _ _ _ _ hguard, ?_⟩
      show (Op.equalIn (9999 + 1) t (.agg us) (.agg vs)).run P w = .ok r w
      rw [run_equalIn_struct w 9999 t us vs (by rw [hf]; exact hu) hheld, hf]
      exact flat2_eq (fun t i h => (hr.at t i h).1.desc) (fun t i h => by obtain ⟨inf, _, h1, h2, _⟩ := (hr.at t i h).1.info; exact ⟨inf, h1, h2⟩) (fun t i h he => ((hr.at t i h).1.held he).1) w 9997 us vs fs.toList 0 i.zero xs ys r hok hk hc (fun j x hj => by rw [Nat.zero_add]; exact hx j x hj) (fun j x hj => by rw [Nat.zero_add]; exact hy j x hj)
    · cases hok
end
end Go.Rk
/- From one state to another that says no more: slots and own things left out, versions named anew. -/
namespace Go.Rk
set_option linter.unusedSimpArgs false
set_option linter.unusedVariables false
def okL (so to : Nat → Nat × HO) : List (Nat × Nat) → List (Nat × Nat) → Prop
  | [], [] => True
  | (l, ver) :: r, (l', ver') :: s => l = l' ∧ ver = (so l).1 ∧ ver' = (to l).1 ∧ okL so to r s
  | _, _ => False
def okC (so to : Nat → Nat × HO) : CV → CV → Prop
  | _, .junk => True
  | .d x, .d y => x = y
  | .own l off len ver, .own l' off' len' ver' => l = l' ∧ off = off' ∧ len = len' ∧ ver = (so l).1 ∧ ver' = (to l).1
  | .bp l ver off, .bp l' ver' off' => l = l' ∧ off = off' ∧ ver = (so l).1 ∧ ver' = (to l).1
  | .op l ver row off, .op l' ver' row' off' => l = l' ∧ row = row' ∧ off = off' ∧ ver = (so l).1 ∧ ver' = (to l).1
  | .clo f caps, .clo f' caps' => f = f' ∧ okL so to caps caps'
  | .zc, .zc => True
  | _, _ => False
def okCs (so to : Nat → Nat × HO) : List CV → List CV → Prop
  | [], [] => True
  | x :: r, y :: s => okC so to x y ∧ okCs so to r s
  | _, _ => False
def okA (so to : Nat → Nat × HO) : AV → AV → Prop
  | _, .c .junk => True
  | .c x, .c y => okC so to x y
  | .agg x, .agg y => okCs so to x y
  | _, _ => False
def okO (so to : Nat → Nat × HO) : HO → HO → Prop
  | _, .dead => True
  | .box x, .box y => okCs so to x y
  | .arr sz n row, .arr sz' n' row' => sz = sz' ∧ n = n' ∧ ∀ i, i < n → row i = row' i
  | _, _ => False
def okSlots (σ τ : St) : List (Nat × AV) → Prop
  | [] => True
  | (k, x) :: r => okA σ.o τ.o (lookS σ.slots k) x ∧ okSlots σ τ r
def okObjs (σ τ : St) : List (Nat × Nat × HO) → Prop
  | [] => True
  | (l, _, o) :: r => okO σ.o τ.o (σ.o l).2 o ∧ okObjs σ τ r

section
variable {w0 : World} {S : Sets} {nt : Nat} {σ τ : Objs} {μ : Place} {w : World}
theorem okL_len : ∀ {xs ys : List (Nat × Nat)}, okL σ τ xs ys → xs.length = ys.length
  | [], [], _ => rfl
  | (_, _) :: _, (_, _) :: _, h => by simp [okL_len h.2.2.2]
  | [], _ :: _, h => h.elim
  | _ :: _, [], h => h.elim
theorem okL_at : ∀ {xs ys : List (Nat × Nat)}, okL σ τ xs ys → ∀ {j l' ver' : Nat}, ys[j]? = some (l', ver') → ∃ ver, xs[j]? = some (l', ver) ∧ ver = (σ l').1 ∧ ver' = (τ l').1
  | [], [], _, _, _, _, hj => by simp at hj
  | (l, ver) :: r, (l2, ver2) :: s, h, j, l', ver', hj => by
    obtain ⟨rfl, h1, h2, h3⟩ := h
    cases j with
    | zero => simp at hj; obtain ⟨rfl, rfl⟩ := hj; exact ⟨ver, rfl, h1, h2⟩
    | succ j => simpa using okL_at h3 (by simpa using hj)
  | [], _ :: _, h, _, _, _, _ => h.elim
  | _ :: _, [], h, _, _, _, _ => h.elim
/-- What is live there is live here; versions of what is dead do not matter. -/
theorem okC_rep (ho : ∀ l, okO σ τ (σ l).2 (τ l).2) {N : Nat → Prop} {x y : CV} {v : Value} (h : okC σ τ x y) (hx : CRep σ μ w N x v) : CRep τ μ w N y v := by
  cases y with
  | junk => trivial
  | d y => cases x <;> first | exact h.elim | (have h : _ = y := h; subst h; exact hx)
  | zc => cases x <;> first | exact h.elim | exact hx
  | own l' off' len' ver' =>
    cases x with
    | own l off len ver =>
      obtain ⟨rfl, rfl, rfl, hv, hv'⟩ := h
      obtain ⟨h1, h2, h3⟩ := hx
      refine ⟨h1, by omega, fun sz n row e => ?_⟩
      have hoo := ho l
      rw [e] at hoo
      cases hσ : (σ l).2 with
      | arr sz1 n1 row1 =>
        rw [hσ] at hoo
        obtain ⟨rfl, rfl, _⟩ := hoo
        exact h3 sz1 n1 row1 (by rw [hv, ← hσ])
      | box _ => rw [hσ] at hoo; exact hoo.elim
      | dead => rw [hσ] at hoo; exact hoo.elim
    | _ => exact h.elim
  | bp l' ver' off' =>
    cases x with
    | bp l ver off =>
      obtain ⟨rfl, rfl, hv, hv'⟩ := h
      obtain ⟨h1, h2, h3⟩ := hx
      refine ⟨h1, by omega, fun cells e => ?_⟩
      have hoo := ho l
      rw [e] at hoo
      cases hσ : (σ l).2 with
      | box cells1 => exact h3 cells1 (by rw [hv, ← hσ])
      | arr _ _ _ => rw [hσ] at hoo; exact hoo.elim
      | dead => rw [hσ] at hoo; exact hoo.elim
    | _ => exact h.elim
  | op l' ver' row' off' =>
    cases x with
    | op l ver row off =>
      obtain ⟨rfl, rfl, rfl, hv, hv'⟩ := h
      obtain ⟨h1, h2, h3⟩ := hx
      refine ⟨h1, by omega, fun sz n rw' e => ?_⟩
      have hoo := ho l
      rw [e] at hoo
      cases hσ : (σ l).2 with
      | arr sz1 n1 row1 =>
        rw [hσ] at hoo
        obtain ⟨rfl, rfl, _⟩ := hoo
        exact h3 sz1 n1 row1 (by rw [hv, ← hσ])
      | box _ => rw [hσ] at hoo; exact hoo.elim
      | dead => rw [hσ] at hoo; exact hoo.elim
    | _ => exact h.elim
  | clo f caps =>
    cases x with
    | clo f1 caps1 =>
      obtain ⟨rfl, hl⟩ := h
      obtain ⟨cs, e1, e2, h3⟩ := hx
      refine ⟨cs, e1, e2.trans (okL_len hl), fun j l ver' hj => ?_⟩
      obtain ⟨ver, hj1, hv, hv'⟩ := okL_at hl hj
      obtain ⟨q1, q2⟩ := h3 j l ver hj1
      refine ⟨by omega, fun cells e => ?_⟩
      have hoo := ho l
      rw [e] at hoo
      cases hσ : (σ l).2 with
      | box cells1 => exact q2 cells1 (by rw [hv, ← hσ])
      | arr _ _ _ => rw [hσ] at hoo; exact hoo.elim
      | dead => rw [hσ] at hoo; exact hoo.elim
    | _ => exact h.elim
theorem okCs_rep (ho : ∀ l, okO σ τ (σ l).2 (τ l).2) {N : Nat → Prop} : ∀ {xs ys : List CV} {vs : List Value}, okCs σ τ xs ys → CsRep σ μ w N xs vs → CsRep τ μ w N ys vs
  | [], [], [], _, _ => trivial
  | [], [], _ :: _, _, h => h.elim
  | _ :: _, [], _, h, _ => h.elim
  | [], _ :: _, _, h, _ => h.elim
  | _ :: _, _ :: _, [], _, h => h.elim
  | _ :: _, _ :: _, _ :: _, h, hx => ⟨okC_rep ho h.1 hx.1, okCs_rep ho h.2 hx.2⟩
end
theorem CRep.mono {σ : Objs} {μ : Place} {w : World} {N N' : Nat → Prop} (h : ∀ b, N b → N' b) {x : CV} {v : Value} (hx : CRep σ μ w N x v) : CRep σ μ w N' x v := by
  cases x with
  | d x => exact DRep.mono h hx
  | _ => exact hx
theorem CsRep.mono {σ : Objs} {μ : Place} {w : World} {N N' : Nat → Prop} (h : ∀ b, N b → N' b) : ∀ {xs : List CV} {vs : List Value}, CsRep σ μ w N xs vs → CsRep σ μ w N' xs vs
  | [], [], _ => trivial
  | [], _ :: _, h => h.elim
  | _ :: _, [], h => h.elim
  | _ :: _, _ :: _, hx => ⟨hx.1.mono h, CsRep.mono h hx.2⟩

theorem lookO_mem : ∀ {objs : List (Nat × Nat × HO)} {l : Nat}, (∃ v, (l, v) ∈ objs ∧ lookO objs l = v) ∨ (lookO objs l = (0, .dead))
  | [], _ => .inr rfl
  | (j, v) :: r, l => by
    unfold lookO
    cases hb : nbeq j l with
    | true => left; have := eq_of_nbeq hb; subst this; exact ⟨v, by simp, rfl⟩
    | false =>
      rcases lookO_mem (objs := r) (l := l) with ⟨u, h1, h2⟩ | h
      · left; exact ⟨u, by simp [h1], by simpa using h2⟩
      · right; simpa using h
theorem lookS_mem : ∀ {sl : List (Nat × AV)} {l : Nat}, (∃ v, (l, v) ∈ sl ∧ lookS sl l = v) ∨ (lookS sl l = .c .junk)
  | [], _ => .inr rfl
  | (j, v) :: r, l => by
    unfold lookS
    cases hb : nbeq j l with
    | true => left; have := eq_of_nbeq hb; subst this; exact ⟨v, by simp, rfl⟩
    | false =>
      rcases lookS_mem (sl := r) (l := l) with ⟨u, h1, h2⟩ | h
      · left; exact ⟨u, by simp [h1], by simpa using h2⟩
      · right; simpa using h
theorem okSlots_mem {σ τ : St} : ∀ {l : List (Nat × AV)}, okSlots σ τ l → ∀ p ∈ l, okA σ.o τ.o (lookS σ.slots p.1) p.2
  | [], _, p, hp => by simp at hp
  | (k, x) :: r, h, p, hp => by
    rcases List.mem_cons.1 hp with rfl | hp
    · exact h.1
    · exact okSlots_mem h.2 p hp
theorem okObjs_mem {σ τ : St} : ∀ {l : List (Nat × Nat × HO)}, okObjs σ τ l → ∀ p ∈ l, okO σ.o τ.o (σ.o p.1).2 p.2.2
  | [], _, p, hp => by simp at hp
  | (k, x) :: r, h, p, hp => by
    rcases List.mem_cons.1 hp with rfl | hp
    · exact h.1
    · exact okObjs_mem h.2 p hp
def ghOk (τ : St) : List (Nat × Nat × HO) → Prop
  | [] => True
  | (l, v, _) :: r => (nble 64 l = true ∨ v ≤ (τ.o l).1) ∧ ghOk τ r
theorem ghOk_mem {τ : St} : ∀ {l : List (Nat × Nat × HO)}, ghOk τ l → ∀ p ∈ l, p.1 < 64 → p.2.1 ≤ (τ.o p.1).1
  | [], _, p, hp, _ => by simp at hp
  | (k, x) :: r, h, p, hp, hlt => by
    rcases List.mem_cons.1 hp with rfl | hp
    · rcases h.1 with h | h
      · have := le_of_nble h; simp at hlt; omega
      · exact h
    · exact ghOk_mem h.2 p hp hlt

section
variable {σ τ : Objs} {μ : Place} {w : World} {N : Nat → Prop}
theorem stale_rep (hv : ∀ l, l < 64 → (σ l).1 ≤ (τ l).1) (ho : ∀ l, okO σ τ (σ l).2 (τ l).2) {x : CV} {v : Value} (h : labC x = true) (hx : CRep σ μ w N x v) : CRep τ μ w N x v := by
  cases x with
  | own l off len ver =>
    have hl : l < 64 := by simpa [labC, nblt_eq] using h
    obtain ⟨h1, h2, h3⟩ := hx
    have := hv l hl
    refine ⟨h1, by omega, fun sz n row e => ?_⟩
    have hoo := ho l
    have ev : (τ l).1 = ver := by rw [e]
    have es : (σ l).1 = ver := by omega
    rw [e] at hoo
    cases hσ : (σ l).2 with
    | arr sz1 n1 row1 =>
      rw [hσ] at hoo
      obtain ⟨rfl, rfl, _⟩ := hoo
      exact h3 sz1 n1 row1 (by rw [← es, ← hσ])
    | box _ => rw [hσ] at hoo; exact hoo.elim
    | dead => rw [hσ] at hoo; exact hoo.elim
  | bp l ver off =>
    have hl : l < 64 := by simpa [labC, nblt_eq] using h
    obtain ⟨h1, h2, h3⟩ := hx
    have := hv l hl
    refine ⟨h1, by omega, fun cells e => ?_⟩
    have hoo := ho l
    have ev : (τ l).1 = ver := by rw [e]
    have es : (σ l).1 = ver := by omega
    rw [e] at hoo
    cases hσ : (σ l).2 with
    | box cells1 => exact h3 cells1 (by rw [← es, ← hσ])
    | arr _ _ _ => rw [hσ] at hoo; exact hoo.elim
    | dead => rw [hσ] at hoo; exact hoo.elim
  | op l ver row off => cases h
  | clo f caps => cases h
  | junk => trivial
  | d x => exact hx
  | zc => exact hx
end

theorem stales_rep {σ τ : Objs} {μ : Place} {w : World} {N : Nat → Prop} (hv : ∀ l, l < 64 → (σ l).1 ≤ (τ l).1) (ho : ∀ l, okO σ τ (σ l).2 (τ l).2) : ∀ {xs : List CV} {vs : List Value}, (∀ x ∈ xs, labC x = true) →
    CsRep σ μ w N xs vs → CsRep τ μ w N xs vs
  | [], [], _, _ => trivial
  | [], _ :: _, _, h => h.elim
  | _ :: _, [], _, h => h.elim
  | x :: _, _ :: _, hb, h => ⟨stale_rep hv ho (hb x (by simp)) h.1, stales_rep hv ho (fun y hy => hb y (by simp [hy])) h.2⟩

/-- As 'ghOk', where the caller's own things may be worked on: versions of small labels never go back. -/
def verOk (τ : St) : List (Nat × Nat × HO) → Prop
  | [] => True
  | (l, v, _) :: r => (smallL l = false ∨ v ≤ (τ.o l).1) ∧ verOk τ r
theorem verOk_mem {τ : St} : ∀ {l : List (Nat × Nat × HO)}, verOk τ l → ∀ p ∈ l, smallL p.1 = true → p.2.1 ≤ (τ.o p.1).1
  | [], _, p, hp, _ => by simp at hp
  | (k, x) :: r, h, p, hp, hlt => by
    rcases List.mem_cons.1 hp with rfl | hp
    · rcases h.1 with h | h
      · rw [show smallL k = true from hlt] at h; cases h
      · exact h
    · exact verOk_mem h.2 p hp hlt
theorem gh_of_ver {τ : St} : ∀ {l : List (Nat × Nat × HO)}, verOk τ l → ghOk τ l
  | [], _ => trivial
  | (k, x) :: r, h => ⟨h.1.imp (fun h => by
    unfold smallL at h
    cases hb : nblt k 3000 with
    | true => rw [hb] at h; cases h
    | false =>
      have : ¬ k < 3000 := fun hc => by
        have h9 : nblt k 3000 = true := nble_of_le hc
        rw [hb] at h9; cases h9
      exact nble_of_le (by omega)) id, gh_of_ver h.2⟩
theorem cov_core {nt : Nat} {σ τ : St} (h1 : okSlots σ τ τ.slots) (h2 : okObjs σ τ τ.objs) (h3 : ghOk τ σ.objs) {w0 : World} {S : Sets} {a : Act} {w : World} (hk : S.free = true → (∀ p, p ∈ S.kp → smallL p.1 = true) ∧ verOk τ σ.objs) (R0 : Rel w0 S nt (lookS σ.slots) σ.o a w) : Rel w0 S nt (lookS τ.slots) τ.o a w := by
  obtain ⟨μ, R⟩ := R0
  have ho : ∀ l, okO σ.o τ.o (σ.o l).2 (τ.o l).2 := fun l => by
    rcases lookO_mem (objs := τ.objs) (l := l) with ⟨v, hm, e⟩ | e
    · have := okObjs_mem h2 _ hm
      show okO σ.o τ.o (σ.o l).2 (lookO τ.objs l).2
      rw [e]; exact this
    · show okO σ.o τ.o (σ.o l).2 (lookO τ.objs l).2
      rw [e]
      cases (σ.o l).2 <;> trivial
  have hl : ∀ l, live τ.o l → live σ.o l := fun l hl => by
    have := ho l
    intro e
    rw [e] at this
    apply hl
    cases ht : (τ.o l).2 with
    | dead => rfl
    | box _ => rw [ht] at this; exact this.elim
    | arr _ _ _ => rw [ht] at this; exact this.elim
  have hv : ∀ l, l < 64 → (σ.o l).1 ≤ (τ.o l).1 := fun l hlt => by
    rcases lookO_mem (objs := σ.objs) (l := l) with ⟨v, hm, e⟩ | e
    · have := ghOk_mem h3 _ hm hlt
      show (lookO σ.objs l).1 ≤ _
      rw [e]; exact this
    · show (lookO σ.objs l).1 ≤ _
      rw [e]; exact Nat.zero_le _
  have hN : ∀ b, Nof S σ.o μ w b → Nof S τ.o μ w b := fun b hb => ⟨hb.1, hb.2.1, fun l base h => hb.2.2 l base (hl l h)⟩
  refine ⟨μ, R.size, R.defs, R.env, R.grow, R.reach, R.frame, R.shape, fun l b base h => R.own l b base (hl l h), fun l l' b base base' h h' => R.inj l l' b base base' (hl l h) (hl l' h'), fun p hp => ?_, R.ghl, fun h p hp => ?_, fun l => ?_, fun k => ?_⟩
  · have hg := R.ghost p hp
    have hb := R.ghl p hp
    obtain ⟨x, v⟩ := p
    cases x with
    | c x => exact (stale_rep hv ho hb hg).mono hN
    | agg xs =>
      obtain ⟨cs, h1, h2⟩ := hg
      exact ⟨cs, h1, (stales_rep hv ho (by simpa [labA] using hb) h2).mono hN⟩
    | tup _ => cases hb
    | gd _ _ => cases hb
  · obtain ⟨q1, q2⟩ := hk h
    obtain ⟨g1, g2⟩ := R.keep h p hp
    have hvl : (σ.o p.1).1 ≤ (τ.o p.1).1 := by
      rcases lookO_mem (objs := σ.objs) (l := p.1) with ⟨v, hm, e⟩ | e
      · have := verOk_mem q2 _ hm (q1 p hp)
        show (lookO σ.objs p.1).1 ≤ _
        rw [e]; exact this
      · show (lookO σ.objs p.1).1 ≤ _
        rw [e]; exact Nat.zero_le _
    exact ⟨Nat.le_trans g1 hvl, fun e hlv => g2 (by omega) (hl p.1 hlv)⟩
  · have hr := R.objs l
    have := ho l
    revert hr this
    generalize (σ.o l).2 = o1
    generalize (τ.o l).2 = o2
    intro hr this
    cases o2 with
    | dead => trivial
    | box y =>
      cases o1 with
      | box x =>
        obtain ⟨b, cs, e, q1, q2, q3⟩ := hr
        exact ⟨b, cs, e, q1, q2, (okCs_rep ho this q3).mono hN⟩
      | _ => exact this.elim
    | arr sz n row =>
      cases o1 with
      | arr sz1 n1 row1 =>
        obtain ⟨rfl, rfl, hrow⟩ := this
        refine ⟨fun i hi => by rw [← hrow i hi]; exact hr.1 i hi, hr.2.imp id ?_⟩
        rintro ⟨b, base, cs, e, q1, q2, q3, q4⟩
        refine ⟨b, base, cs, e, q1, q2, q3, fun i j x hi hj => ?_⟩
        rw [← hrow i hi] at hj
        obtain ⟨u, hu, hd⟩ := q4 i j x hi hj
        exact ⟨u, hu, hd.mono hN⟩
      | _ => exact this.elim
  · have hr := R.slots k
    have hs : okA σ.o τ.o (lookS σ.slots k) (lookS τ.slots k) := by
      rcases lookS_mem (sl := τ.slots) (l := k) with ⟨v, hm, e⟩ | e
      · have := okSlots_mem h1 _ hm
        rw [e]; exact this
      · rw [e]; cases lookS σ.slots k <;> first | trivial | (rename_i x; cases x <;> trivial)
    revert hr hs
    generalize lookS σ.slots k = x
    generalize lookS τ.slots k = y
    intro hr hs
    cases y with
    | c y =>
      cases x with
      | c x =>
        have hs' : okC σ.o τ.o x y := by cases y <;> first | trivial | exact hs
        exact (okC_rep ho hs' hr).mono hN
      | _ => cases y <;> first | trivial | exact hs.elim
    | agg y =>
      cases x with
      | agg x => obtain ⟨cs, q1, q2⟩ := hr; exact ⟨cs, q1, (okCs_rep ho hs q2).mono hN⟩
      | _ => exact hs.elim
    | _ => cases x <;> exact hs.elim
theorem cov_of {nt : Nat} {σ τ : St} (h1 : okSlots σ τ τ.slots) (h2 : okObjs σ τ τ.objs) (h3 : ghOk τ σ.objs) : Cov nt σ τ :=
  fun _ _ _ _ hfo R => cov_core h1 h2 h3 (fun h => by rw [hfo.1 rfl] at h; cases h) R
theorem cov_ofG {fr : Bool} {nt : Nat} {σ τ : St} (h1 : okSlots σ τ τ.slots) (h2 : okObjs σ τ τ.objs) (h3 : verOk τ σ.objs) : CovG fr nt σ τ :=
  fun _ _ _ _ hfo R => cov_core h1 h2 (gh_of_ver h3) (fun h => ⟨hfo.2 h, h3⟩) R
end Go.Rk
/- What the walk leaves is taken up here. -/
namespace Go.Rk
set_option linter.unusedSimpArgs false
set_option linter.unusedVariables false
section
variable {A : Ar}
theorem call_of {P : Program} {M : Ms} (hA : real = A) (hM : MeetsB P = M) {g : Bool} {f : FuncId} {args : List XT} {K : Out → Prop} (out : Out)
    (h : Meets P f args out) (k : K out) : A.hold fun _ => ∃ out, (g = true → M.m f args out) ∧ K out := by
  subst hA hM
  exact ⟨out, fun _ => h, k⟩
theorem call_of2 {P : Program} {M : Ms} (hA : real = A) (hM : MeetsB P = M) {g : Bool} {f : FuncId} {args args' : List XT} {K : Out → Prop} (out : Out)
    (h : Meets P f args' out) (ha : args = args') (k : K out) : A.hold fun _ => ∃ out, (g = true → M.m f args out) ∧ K out := by
  subst ha
  exact call_of hA hM out h k
theorem sub0 (hA : real = A) (f : Nat → List DV) : A.sub 0 f = f := by subst hA; funext i; simp [real]
theorem same_of (hA : real = A) {a b : Nat} (h : a = b) : A.same a b := by subst hA; exact h
theorem ind_of (hA : real = A) {rs : List Rec} (h : indep rs = true) : A.ind rs := by subst hA; exact h
theorem br_of (hA : real = A) {t : Bool} {p q : Prop} (h1 : t = true → p) (h2 : t = false → q) : A.br t p q := by subst hA; exact ⟨h1, h2⟩
theorem imp_of (hA : real = A) {g t : Bool} (h : g = true → t = true) : A.imp g t := by subst hA; exact h
theorem inb_of (hA : real = A) {g : Bool} {i : Int} {n : Nat} (h : g = true → 0 ≤ i ∧ i < n) : A.inb g i n := by subst hA; exact h
theorem loop_of (hA : real = A) {nt : Nat} {body : (AE → St → Prop) → St → Prop} {Q : AE → St → Prop} {σ : St} {α : Type} (st : α → St) (m : α → Nat) (x0 : α) (h0 : Cov nt σ (st x0))
    (h : ∀ x, body (fun e τ => match e with
      | .normal => ∃ y, m y < m x ∧ Cov nt τ (st y)
      | e => Q e τ) (st x)) : A.hold fun _ => LoopA nt body Q σ := by
  subst hA
  exact ⟨α, st, m, ⟨x0, h0⟩, h⟩
theorem stop_of (hA : real = A) {nt : Nat} {σ : St} {p : St → Prop} (τ : St) (h0 : Cov nt σ τ) (h : p τ) : A.hold fun _ => ∃ τ, Cov nt σ τ ∧ p τ := by
  subst hA
  exact ⟨τ, h0, h⟩
theorem loop_ofG (hA : real = A) {fr : Bool} {nt : Nat} {body : (AE → St → Prop) → St → Prop} {Q : AE → St → Prop} {σ : St} {α : Type} (st : α → St) (m : α → Nat) (x0 : α) (h0 : CovG fr nt σ (st x0))
    (h : ∀ x, body (fun e τ => match e with
      | .normal => ∃ y, m y < m x ∧ CovG fr nt τ (st y)
      | e => Q e τ) (st x)) : A.hold fun _ => LoopG fr nt body Q σ := by
  subst hA
  exact ⟨α, st, m, ⟨x0, h0⟩, h⟩
theorem stop_ofG (hA : real = A) {fr : Bool} {nt : Nat} {σ : St} {p : St → Prop} (τ : St) (h0 : CovG fr nt σ τ) (h : p τ) : A.hold fun _ => ∃ τ, CovG fr nt σ τ ∧ p τ := by
  subst hA
  exact ⟨τ, h0, h⟩
end
end Go.Rk
/- What a call hands back may be taken as data that nobody writes. -/
namespace Go.Rk
set_option linter.unusedSimpArgs false
set_option linter.unusedVariables false
def frzV : XV → XV
  | .own sz n row => .d (.sl sz n row)
  | x => x
def frzT : XT → XT
  | .c x => .c (frzV x)
  | .agg xs => .agg (xs.map frzV)
def frzA : XA → XA
  | .one x => .one (frzT x)
  | .tup xs => .tup (xs.map frzT)
def nbV : XV → Bool
  | .box _ => false
  | _ => true
def nbT : XT → Bool
  | .c x => nbV x
  | .agg xs => xs.all nbV
def nbA : XA → Bool
  | .one x => nbT x
  | .tup xs => xs.all nbT
section
variable {w : World} {N N' : Nat → Prop}
theorem OwnRep.frz {sz n : Nat} {row : Nat → List DV} {v : Value} {F : List Nat} (h : OwnRep w N sz n row v F) (hN : ∀ b, N b → N' b) (hF : ∀ b, b ∈ F → N' b) : DRep w N' (.sl sz n row) v := by
  obtain ⟨hl, ⟨rfl, rfl, ad, rfl⟩ | ⟨b, base, cap, cs, e, rfl, rfl, h0, hc, hb, hs, hr⟩⟩ := h
  · cases ad with
    | none => exact .nil _ _
    | some ad => exact .empty _ _ _
  · refine .sl sz n row b base cap cs e (0, 0) (fun i j => cs.getD (base + i * sz + j) undef) (hF b (by simp)) hb hc hs hl (fun i j x hi hj => ?_) (fun i j x hi hj => ?_)
    · obtain ⟨u, hu, _⟩ := hr i j x hi hj
      simp only [Array.getD_eq_getD_getElem?, hu, Option.getD_some]
    · obtain ⟨u, hu, hd⟩ := hr i j x hi hj
      simp only [Array.getD_eq_getD_getElem?, hu, Option.getD_some]
      exact hd.mono hN
theorem XVRep.frz {x : XV} {v : Value} {F : List Nat} (hb : nbV x = true) (h : XVRep w N x v F) (hN : ∀ b, N b → N' b) (hF : ∀ b, b ∈ F → N' b) : XVRep w N' (frzV x) v [] := by
  cases x with
  | d x => exact ⟨rfl, h.2.mono hN⟩
  | own sz n row => exact ⟨rfl, OwnRep.frz h hN hF⟩
  | box c => cases hb
theorem XVsRep.frz : ∀ {xs : List XV} {vs : List Value} {F : List Nat}, xs.all nbV = true → XVsRep w N xs vs F → (∀ b, N b → N' b) → (∀ b, b ∈ F → N' b) → XVsRep w N' (xs.map frzV) vs []
  | [], [], _, _, _, _, _ => rfl
  | [], _ :: _, _, _, h, _, _ => h.elim
  | _ :: _, [], _, _, h, _, _ => h.elim
  | x :: r, v :: s, F, hb, ⟨F1, F2, e, h1, h2⟩, hN, hF => by
    subst e
    simp only [List.all_cons, Bool.and_eq_true] at hb
    exact ⟨[], [], rfl, h1.frz hb.1 hN fun b h => hF b (by simp [h]), XVsRep.frz hb.2 h2 hN fun b h => hF b (by simp [h])⟩
theorem XTRep.frz {x : XT} {v : Value} {F : List Nat} (hb : nbT x = true) (h : XTRep w N x v F) (hN : ∀ b, N b → N' b) (hF : ∀ b, b ∈ F → N' b) : XTRep w N' (frzT x) v [] := by
  cases x with
  | c x => exact XVRep.frz hb h hN hF
  | agg xs =>
    obtain ⟨cs, e, h⟩ := h
    exact ⟨cs, e, XVsRep.frz hb h hN hF⟩
theorem XTsRep.frz : ∀ {xs : List XT} {vs : List Value} {F : List Nat}, xs.all nbT = true → XTsRep w N xs vs F → (∀ b, N b → N' b) → (∀ b, b ∈ F → N' b) → XTsRep w N' (xs.map frzT) vs []
  | [], [], _, _, _, _, _ => rfl
  | [], _ :: _, _, _, h, _, _ => h.elim
  | _ :: _, [], _, _, h, _, _ => h.elim
  | x :: r, v :: s, F, hb, ⟨F1, F2, e, h1, h2⟩, hN, hF => by
    subst e
    simp only [List.all_cons, Bool.and_eq_true] at hb
    exact ⟨[], [], rfl, h1.frz hb.1 hN fun b h => hF b (by simp [h]), XTsRep.frz hb.2 h2 hN fun b h => hF b (by simp [h])⟩
theorem XARep.frz {x : XA} {v : Value} {F : List Nat} (hb : nbA x = true) (h : XARep w N x v F) (hN : ∀ b, N b → N' b) (hF : ∀ b, b ∈ F → N' b) : XARep w N' (frzA x) v [] := by
  cases x with
  | one x => exact XTRep.frz hb h hN hF
  | tup xs =>
    obtain ⟨cs, e, h⟩ := h
    exact ⟨cs, e, XTsRep.frz hb h hN hF⟩
end
theorem back_mono {w : World} {N N' : Nat → Prop} (hN : ∀ b, N b → N' b) : ∀ {bs : List (Option XV)} {vs : List Value} {F : List Nat}, BackRep w N bs vs F → BackRep w N' bs vs F
  | [], [], _, h => h
  | [], _ :: _, _, h => h.elim
  | none :: _, [], _, h => h.elim
  | some _ :: _, [], _, h => h.elim
  | none :: r, _ :: s, F, h => back_mono (bs := r) (vs := s) hN (show BackRep w N r s F from h)
  | some x :: r, v :: s, F, ⟨F1, F2, e, h1, h2⟩ => by
    refine ⟨F1, F2, e, ?_, back_mono hN h2⟩
    clear h2
    cases x with
    | d x => exact ⟨h1.1, h1.2.mono hN⟩
    | own sz n row => exact OwnRep.tr (.inl hN) h1
    | box c =>
      obtain ⟨b, cs, e, F', g1, g2, g3, g4⟩ := h1
      refine ⟨b, cs, e, F', g1, g2, g3, ?_⟩
      clear g1 g2 g3
      generalize cs.toList = l at g4
      induction c generalizing l F' with
      | nil => cases l with
        | nil => exact g4
        | cons _ _ => exact g4.elim
      | cons y r ih => cases l with
        | nil => exact g4.elim
        | cons u s =>
          obtain ⟨G1, G2, e1, e2, e3⟩ := g4
          refine ⟨G1, G2, e1, ?_, ih _ _ e3⟩
          cases y with
          | d y => exact ⟨e2.1, e2.2.mono hN⟩
          | own sz n row => exact OwnRep.tr (.inl hN) e2
theorem meets_frz {P : Program} {f : FuncId} {args : List XT} {r : XA} {back : List (Option XV)} (h : Meets P f args ⟨r, back⟩) (hb : nbA r = true) : Meets P f args ⟨frzA r, back⟩ := by
  refine ⟨h.1, fun w vals F N h1 h2 h3 h4 => ?_⟩
  refine (h.2 w vals F N h1 h2 h3 h4).mono ?_
  rintro e w' ⟨v, F1, F2, g1, g2, g3, g4, g5, g6, g7, g8, g9⟩
  have hsub : ∀ b, Nout w w' N F (F1 ++ F2) b → Nout w w' N F ([] ++ F2) b := fun b hb => ⟨hb.1, fun hm => hb.2.1 (by simp at hm; simp [hm]), hb.2.2⟩
  refine ⟨v, [], F2, g1, g2, g3, g4, g5, fun b hb => g6 b (by simp at hb; simp [hb]), by simpa using (List.nodup_append.1 g7).2.1, ?_, back_mono hsub g9⟩
  refine XARep.frz hb g8 hsub fun b hb => ?_
  have h6 := g6 b (by simp [hb])
  refine ⟨h6.1, fun hm => ?_, ?_⟩
  · have := (List.nodup_append.1 g7).2.2 b hb b (by simpa using hm)
    exact this rfl
  · rcases h6.2 with h | h
    · exact .inr (.inl h)
    · exact .inr (.inr h)
section
variable {A : Ar}
/-- A call of which only this is known: it answers 'out b', and 'S b' holds. -/
theorem call_ex {P : Program} {M : Ms} (hA : real = A) (hM : MeetsB P = M) {g : Bool} {f : FuncId} {args : List XT} {K : Out → Prop} {β : Type} {S : β → Prop} {out : β → Out}
    (h : ∃ b, S b ∧ Meets P f args (out b)) (k : ∀ b, S b → K (out b)) : A.hold fun _ => ∃ out, (g = true → M.m f args out) ∧ K out := by
  obtain ⟨b, hb, h⟩ := h
  exact call_of hA hM _ h (k b hb)
theorem call_ex2 {P : Program} {M : Ms} (hA : real = A) (hM : MeetsB P = M) {g : Bool} {f : FuncId} {args args' : List XT} {K : Out → Prop} {β : Type} {S : β → Prop} {out : β → Out}
    (h : ∃ b, S b ∧ Meets P f args' (out b)) (ha : args = args') (k : ∀ b, S b → K (out b)) : A.hold fun _ => ∃ out, (g = true → M.m f args out) ∧ K out := by
  subst ha
  exact call_ex hA hM h k
end
end Go.Rk
/- A slice with no room, taken as an own row from here on; and what is covered step by step. -/
namespace Go.Rk
set_option linter.unusedSimpArgs false
set_option linter.unusedVariables false
theorem cov_trans {fr : Bool} {nt : Nat} {σ τ ρ : St} (h1 : CovG fr nt σ τ) (h2 : CovG fr nt τ ρ) : CovG fr nt σ ρ := fun w0 S a w hf h => h2 w0 S a w hf (h1 w0 S a w hf h)
def bareB : AV → Bool
  | .c .zc => true
  | .c (.d (.v (.slice none 0 0))) => true
  | _ => false
theorem cov_prom {fr : Bool} {nt : Nat} {σ τ : St} (k L ver sz : Nat) (row : Nat → List DV) (hx : bareB (lookS σ.slots k) = true) (hv : nblt (σ.o L).1 ver = true)
    (h : CovG fr nt ⟨(k, .c (.own L 0 0 ver)) :: σ.slots, (L, ver, .arr sz 0 row) :: σ.objs⟩ τ) : CovG fr nt σ τ := by
  refine cov_trans ?_ h
  rintro w0 S a w hfo ⟨μ, R⟩
  obtain ⟨st, R'⟩ := R.bare L ver (by simpa [nblt_eq] using hv) (.arr sz 0 row) (.inr ⟨_, _, rfl⟩)
  have eo : St.o ⟨(k, .c (.own L 0 0 ver)) :: σ.slots, (L, ver, .arr sz 0 row) :: σ.objs⟩ = updO σ.o L (ver, .arr sz 0 row) := by
    funext l
    show lookO ((L, ver, .arr sz 0 row) :: σ.objs) l = _
    unfold lookO updO
    cases hb : nbeq L l with
    | true => have := eq_of_nbeq hb; subst this; simp
    | false =>
      have : l ≠ L := fun e => by subst e; simp at hb
      simp [this]; rfl
  refine ⟨updP μ L none, ?_⟩
  rw [eo]
  refine { R' with slots := fun k' => ?_ }
  show ARep _ _ _ _ (lookS ((k, .c (.own L 0 0 ver)) :: σ.slots) k') _
  unfold lookS
  cases hb : nbeq k k' with
  | false => exact R'.slots k'
  | true =>
    have := eq_of_nbeq hb; subst this
    have hs : ∃ ad, a.tmps.getD k undef = .slice ad 0 0 := by
      have r := R.slots k
      revert hx r
      generalize lookS σ.slots k = x
      generalize a.tmps.getD k undef = u
      intro hx r
      unfold bareB at hx
      split at hx
      · exact r
      · cases r with
        | v _ _ => exact ⟨none, rfl⟩
      · cases hx
    obtain ⟨ad, hs⟩ := hs
    refine ⟨by rw [hs]; rfl, by simp, fun sz' n row' e => ?_⟩
    simp at e
    obtain ⟨rfl, rfl, rfl⟩ := e
    exact ⟨Nat.le_refl _, .inl ⟨by simp, rfl, ad, hs⟩⟩
end Go.Rk
/- Rows that a call hands back may be named anew within their number. -/
namespace Go.Rk
set_option linter.unusedSimpArgs false
set_option linter.unusedVariables false
theorem OwnRep.rows {w : World} {N : Nat → Prop} {sz n : Nat} {row row' : Nat → List DV} {v : Value} {F : List Nat} (h : ∀ i, i < n → row i = row' i) (hx : OwnRep w N sz n row v F) : OwnRep w N sz n row' v F := by
  refine ⟨fun i hi => by rw [← h i hi]; exact hx.1 i hi, hx.2.imp id fun ⟨b, base, cap, cs, e, h1, h2, h3, h4, h5, h6, h7⟩ => ⟨b, base, cap, cs, e, h1, h2, h3, h4, h5, h6, fun i j x hi hj => ?_⟩⟩
  rw [← h i hi] at hj
  exact h7 i j x hi hj
theorem meets_rows {P : Program} {f : FuncId} {args : List XT} {sz n : Nat} {row row' : Nat → List DV} {back : List (Option XV)} (h : ∀ i, i < n → row i = row' i)
    (hm : Meets P f args ⟨.one (.c (.own sz n row)), back⟩) : Meets P f args ⟨.one (.c (.own sz n row')), back⟩ := by
  refine ⟨hm.1, fun w vals F N h1 h2 h3 h4 => ?_⟩
  refine (hm.2 w vals F N h1 h2 h3 h4).mono ?_
  rintro e w' ⟨v, F1, F2, g1, g2, g3, g4, g5, g6, g7, g8, g9⟩
  exact ⟨v, F1, F2, g1, g2, g3, g4, g5, g6, g7, OwnRep.rows h g8, g9⟩
/-- A slice that is none, taken as no rows. -/
theorem meets_nil {P : Program} {f : FuncId} {args : List XT} {sz : Nat} {row : Nat → List DV} {back : List (Option XV)}
    (hm : Meets P f args ⟨.one (.c (.d (.v nilS))), back⟩) : Meets P f args ⟨.one (.c (.own sz 0 row)), back⟩ := by
  refine ⟨hm.1, fun w vals F N h1 h2 h3 h4 => ?_⟩
  refine (hm.2 w vals F N h1 h2 h3 h4).mono ?_
  rintro e w' ⟨v, F1, F2, g1, g2, g3, g4, g5, g6, g7, g8, g9⟩
  refine ⟨v, F1, F2, g1, g2, g3, g4, g5, g6, g7, ?_, g9⟩
  obtain ⟨e, hd⟩ := g8
  refine ⟨fun i hi => absurd hi (Nat.not_lt_zero i), .inl ⟨rfl, e, none, ?_⟩⟩
  cases hd with
  | v _ _ => rfl
end Go.Rk
/- An own row under another label, and an own row that is data from here on. -/
namespace Go.Rk
set_option linter.unusedSimpArgs false
set_option linter.unusedVariables false
section
variable {w0 : World} {S : Sets} {nt : Nat} {sl : Nat → AV} {σ : Objs} {a : Act} {w : World} {μ : Place}
theorem RelM.relab (R : RelM w0 S nt sl σ a w μ) {l l' v v' : Nat} {o : HO} (hne : l ≠ l') (ho : σ l = (v, o)) (hd : o ≠ .dead) (hv : (σ l').1 < v') :
    RelM w0 S nt sl (updO (updO σ l (v, .dead)) l' (v', o)) a w (updP μ l' (μ l)) := by
  have hll : live σ l := by unfold live; rw [ho]; exact hd
  have hlv : ∀ x, x ≠ l' → live (updO (updO σ l (v, .dead)) l' (v', o)) x → x ≠ l ∧ live σ x := fun x hx h => by
    unfold live at h ⊢
    rw [updO_ne _ _ hx] at h
    by_cases e : x = l
    · subst e; simp at h
    · rw [updO_ne _ _ e] at h; exact ⟨e, h⟩
  have hst : Step S σ (updO (updO σ l (v, .dead)) l' (v', o)) μ (updP μ l' (μ l)) w w := by
    refine ⟨Nat.le_refl _, fun b hb => ⟨rfl, hb.1, hb.2.1, fun x base hx => ?_⟩, fun x => ?_⟩
    · by_cases e : x = l'
      · subst e; rw [updP_same]; exact hb.2.2 l base hll
      · rw [updP_ne _ _ e]; exact hb.2.2 x base (hlv x e hx).2
    · by_cases e : x = l'
      · subst e; left; simpa using hv
      · right
        rw [updO_ne _ _ e, updP_ne _ _ e]
        by_cases e2 : x = l
        · subst e2
          rw [updO_same]
          exact ⟨by rw [ho], rfl, fun c hc => (nomatch hc), fun sz n row hr => (nomatch hr), fun b base cs e' hm hex _ => by obtain ⟨_, _, _, h⟩ := hex; cases h⟩
        · rw [updO_ne _ _ e2]
          exact ⟨rfl, rfl, fun c hc => ⟨c, hc⟩, fun sz n row hr => ⟨n, row, hr, Nat.le_refl _⟩, fun b base cs' e' hm _ hb => ⟨cs', hb, rfl⟩⟩
  refine R.carry hst ⟨rfl, rfl, rfl⟩ (fun _ _ _ => rfl) (fun b cs e fr hb => ⟨cs, hb, rfl⟩) (fun x b base hx hm => ?_) (fun x y b base base' hx hy hm hm' => ?_) (fun x => ?_)
  · by_cases e : x = l'
    · subst e; rw [updP_same] at hm; exact R.own l b base hll hm
    · rw [updP_ne _ _ e] at hm; exact R.own x b base (hlv x e hx).2 hm
  · by_cases e : x = l'
    · by_cases f : y = l'
      · rw [e, f]
      · exfalso
        subst e; rw [updP_same] at hm; rw [updP_ne _ _ f] at hm'
        have := hlv y f hy
        exact this.1 (R.inj l y b base base' hll this.2 hm hm').symm
    · by_cases f : y = l'
      · exfalso
        subst f; rw [updP_same] at hm'; rw [updP_ne _ _ e] at hm
        have := hlv x e hx
        exact this.1 (R.inj x l b base base' this.2 hll hm hm')
      · rw [updP_ne _ _ e] at hm; rw [updP_ne _ _ f] at hm'
        exact R.inj x y b base base' (hlv x e hx).2 (hlv y f hy).2 hm hm'
  · by_cases e : x = l'
    · right
      subst e
      rw [updO_same]
      have hr := R.objs l
      rw [ho] at hr
      revert hr
      cases o with
      | dead => intro _; trivial
      | box cells =>
        rintro ⟨b, cs, e, h1, h2, h3⟩
        exact ⟨b, cs, e, by rw [updP_same]; exact h1, h2, h3.step hst⟩
      | arr sz n row =>
        rintro ⟨h0, h⟩
        refine ⟨h0, ?_⟩
        rcases h with ⟨h1, h2⟩ | ⟨b, base, cs, e, h1, h2, h3, h4⟩
        · exact .inl ⟨by rw [updP_same]; exact h1, h2⟩
        · refine .inr ⟨b, base, cs, e, by rw [updP_same]; exact h1, h2, h3, fun i j x hi hj => ?_⟩
          obtain ⟨u, hu, hd⟩ := h4 i j x hi hj
          exact ⟨u, hu, DRep.carry hst.old hd⟩
    · by_cases e2 : x = l
      · right; subst e2; rw [updO_ne _ _ e, updO_same]; trivial
      · left
        exact ⟨by rw [updO_ne _ _ e, updO_ne _ _ e2], updP_ne _ _ e, fun _ _ _ _ => rfl⟩
theorem RelM.freeze (R : RelM w0 S nt sl σ a w μ) {l v sz n : Nat} {row : Nat → List DV} (ho : σ l = (v, .arr sz n row)) :
    RelM w0 S nt sl (updO σ l (v, .dead)) a w μ ∧ ∀ (len : Nat) (u : Value), CRep σ μ w (Nof S σ μ w) (.own l 0 len v) u → DRep w (Nof S (updO σ l (v, .dead)) μ w) (.sl sz len row) u := by
  have hll : live σ l := by unfold live; rw [ho]; exact HO.noConfusion
  have hlv : ∀ x, live (updO σ l (v, .dead)) x → x ≠ l ∧ live σ x := fun x h => by
    unfold live at h ⊢
    by_cases e : x = l
    · subst e; simp at h
    · rw [updO_ne _ _ e] at h; exact ⟨e, h⟩
  have hst : Step S σ (updO σ l (v, .dead)) μ μ w w := by
    refine ⟨Nat.le_refl _, fun b hb => ⟨rfl, hb.1, hb.2.1, fun x base hx => hb.2.2 x base (hlv x hx).2⟩, fun x => ?_⟩
    right
    by_cases e2 : x = l
    · subst e2
      rw [updO_same]
      exact ⟨by rw [ho], rfl, fun c hc => (nomatch hc), fun sz n row hr => (nomatch hr), fun b base cs e' hm hex _ => by obtain ⟨_, _, _, h⟩ := hex; cases h⟩
    · rw [updO_ne _ _ e2]
      exact ⟨rfl, rfl, fun c hc => ⟨c, hc⟩, fun sz n row hr => ⟨n, row, hr, Nat.le_refl _⟩, fun b base cs' e' hm _ hb => ⟨cs', hb, rfl⟩⟩
  refine ⟨R.carry hst ⟨rfl, rfl, rfl⟩ (fun _ _ _ => rfl) (fun b cs e fr hb => ⟨cs, hb, rfl⟩) (fun x b base hx hm => R.own x b base (hlv x hx).2 hm) (fun x y b base base' hx hy hm hm' => R.inj x y b base base' (hlv x hx).2 (hlv y hy).2 hm hm') (fun x => ?_), fun len u hu => ?_⟩
  · by_cases e2 : x = l
    · right; subst e2; rw [updO_same]; trivial
    · left; exact ⟨updO_ne _ _ e2, rfl, fun _ _ _ _ => rfl⟩
  · obtain ⟨_, _, h⟩ := hu
    obtain ⟨hle, h⟩ := h sz n row ho
    have hr := R.objs l
    rw [ho] at hr
    obtain ⟨hl, hr⟩ := hr
    rcases h with ⟨h1, rfl, ad, rfl⟩ | ⟨b, base, o, cap, cs, e, h1, rfl, h3, h4, h5, h6, h7⟩
    · cases ad with
      | none => exact .nil _ _
      | some ad => exact .empty _ _ _
    · have hob := R.own l b base hll h1
      have hN : Nof S (updO σ l (v, .dead)) μ w b := ⟨hob.1, R.reach b hob.2, fun x base' hx hm => (hlv x hx).1 (R.inj x l b base' base (hlv x hx).2 hll hm h1)⟩
      have ho0 : 0 < len → o = base := fun h => by have := h4 (.inr rfl); omega
      rcases hr with ⟨h8, h9⟩ | ⟨b', base', cs', e', h8, h9, h10, h11⟩
      · rw [h1] at h8; cases h8
      · rw [h1] at h8; cases h8
        rw [h5] at h9; cases h9
        refine .sl sz len row b o cap cs e (0, 0) (fun i j => cs.getD (o + i * sz + j) undef) hN h5 h3 h6 (fun i hi => hl i (by omega)) (fun i j x hi hj => ?_) (fun i j x hi hj => ?_)
        · obtain ⟨u, hu, _⟩ := h11 i j x (by omega) hj
          rw [ho0 (by omega)]
          simp only [Array.getD_eq_getD_getElem?, hu, Option.getD_some]
        · obtain ⟨u, hu, hd⟩ := h11 i j x (by omega) hj
          rw [ho0 (by omega)]
          simp only [Array.getD_eq_getD_getElem?, hu, Option.getD_some]
          exact DRep.carry hst.old hd
end
theorem lookO_upd {objs : List (Nat × Nat × HO)} {l : Nat} {x : Nat × HO} : lookO ((l, x) :: objs) = updO (lookO objs) l x := by
  funext k
  unfold updO
  show (bif nbeq l k then x else lookO objs k) = _
  cases hb : nbeq l k with
  | true => have := eq_of_nbeq hb; subst this; simp
  | false =>
    have : k ≠ l := fun e => by subst e; simp at hb
    simp [this]
theorem slot_cons {N : Nat → Prop} {σ : Objs} {μ : Place} {w : World} {slots : List (Nat × AV)} {k : Nat} {x : AV} {tm : Nat → Value} (hx : ARep σ μ w N x (tm k)) (h : ∀ j, ARep σ μ w N (lookS slots j) (tm j)) (j : Nat) :
    ARep σ μ w N (lookS ((k, x) :: slots) j) (tm j) := by
  show ARep σ μ w N (bif nbeq k j then x else lookS slots j) (tm j)
  cases hb : nbeq k j with
  | true => have := eq_of_nbeq hb; subst this; exact hx
  | false => exact h j
/-- A row takes another label. -/
theorem cov_rel {fr : Bool} {nt : Nat} {σ τ : St} {k l v len sz n : Nat} {row : Nat → List DV} (l' v' : Nat) (hk : lookS σ.slots k = .c (.own l 0 len v)) (ho : lookO σ.objs l = (v, .arr sz n row)) (hne : nbeq l l' = false) (hv : nblt (lookO σ.objs l').1 v' = true)
    (h : CovG fr nt ⟨(k, .c (.own l' 0 len v')) :: σ.slots, (l', v', .arr sz n row) :: (l, v, .dead) :: σ.objs⟩ τ) : CovG fr nt σ τ := by
  refine cov_trans ?_ h
  rintro w0 S a w hfo ⟨μ, R⟩
  have hne : l ≠ l' := fun e => by subst e; simp at hne
  have hv : (σ.o l').1 < v' := by
    have hv : nblt (σ.o l').1 v' = true := hv
    simpa [nblt_eq] using hv
  have R' := R.relab (l' := l') (v' := v') hne ho HO.noConfusion hv
  refine ⟨updP μ l' (μ l), ?_⟩
  have eo : St.o ⟨(k, .c (.own l' 0 len v')) :: σ.slots, (l', v', .arr sz n row) :: (l, v, .dead) :: σ.objs⟩ = updO (updO σ.o l (v, .dead)) l' (v', .arr sz n row) := by
    show lookO ((l', v', .arr sz n row) :: (l, v, .dead) :: σ.objs) = _
    rw [lookO_upd, lookO_upd]; rfl
  rw [eo]
  have hs := R.slots k
  rw [hk] at hs
  refine { R' with slots := slot_cons (tm := fun k => a.tmps.getD k undef) ?_ R'.slots }
  obtain ⟨h1, h2, h3⟩ := hs
  obtain ⟨h4, h5⟩ := h3 sz n row ho
  refine ⟨h1, by rw [updO_same]; exact Nat.le_refl _, fun sz' n' row' e => ?_⟩
  rw [updO_same] at e
  cases e
  refine ⟨h4, h5.imp (fun ⟨a1, a2⟩ => ⟨by rw [updP_same]; exact a1, a2⟩) ?_⟩
  rintro ⟨b, base, o, cap, cs, e, a1, a2⟩
  exact ⟨b, base, o, cap, cs, e, by rw [updP_same]; exact a1, a2⟩
/-- The same, known by two. -/
theorem cov_frz2 {fr : Bool} {nt : Nat} {σ τ : St} {k k2 l v len len2 sz n : Nat} {row : Nat → List DV} (hk : lookS σ.slots k = .c (.own l 0 len v)) (hk2 : lookS σ.slots k2 = .c (.own l 0 len2 v)) (ho : lookO σ.objs l = (v, .arr sz n row))
    (h : CovG fr nt ⟨(k, .c (.d (.sl sz len row))) :: (k2, .c (.d (.sl sz len2 row))) :: σ.slots, (l, v, .dead) :: σ.objs⟩ τ) : CovG fr nt σ τ := by
  refine cov_trans ?_ h
  rintro w0 S a w hfo ⟨μ, R⟩
  obtain ⟨R', hd⟩ := R.freeze ho
  refine ⟨μ, ?_⟩
  have eo : St.o ⟨(k, .c (.d (.sl sz len row))) :: (k2, .c (.d (.sl sz len2 row))) :: σ.slots, (l, v, .dead) :: σ.objs⟩ = updO σ.o l (v, .dead) := lookO_upd
  rw [eo]
  have hs := R.slots k
  rw [hk] at hs
  have hs2 := R.slots k2
  rw [hk2] at hs2
  exact { R' with slots := slot_cons (tm := fun k => a.tmps.getD k undef) (hd len _ hs) (slot_cons (tm := fun k => a.tmps.getD k undef) (hd len2 _ hs2) R'.slots) }
end Go.Rk
/- The walk goes one way: what holds wherever it ends holds at one end, that is named beforehand. -/
namespace Go.Rk
set_option linter.unusedSimpArgs false
set_option linter.unusedVariables false
theorem G.wp_pick {α : Type} {m : G α} {σ : Nat → Nat × HO} {Q : α → List Nat → Prop} (h : m.wp σ Q) : ∃ a r, Q a r ∧ ∀ Q' : α → List Nat → Prop, Q' a r → m.wp σ Q' := by
  induction m generalizing Q with
  | ret a => exact ⟨a, [], h, fun _ q => q⟩
  | get l k ih =>
    obtain ⟨a, r, h1, h2⟩ := ih _ h
    exact ⟨a, l :: r, h1, fun Q' q => h2 _ q⟩
  | vc p k ih =>
    obtain ⟨a, r, h1, h2⟩ := ih h.2
    exact ⟨a, r, h1, fun Q' q => ⟨h.1, h2 Q' q⟩⟩
  | fail => exact h.elim
section
variable {T : TypeId → Option TI} {EX : FuncId → List Nat × Bool} {M : Ms} {nt : Nat} {H : List Nat}
theorem ops_pick {draw : Bool} {ops : Array Oper} : ∀ (l : List Oper) (rs : List Rec) (σ : St) (Q : St → Prop), awpOps real T EX M nt draw ops Q l rs σ → ∃ τ, Q τ ∧ ∀ Q' : St → Prop, Q' τ → awpOps real T EX M nt draw ops Q' l rs σ
  | [], rs, σ, Q, h => by
    unfold awpOps at h
    cases draw with
    | false => exact ⟨σ, h, fun Q' q => by unfold awpOps; exact q⟩
    | true => exact ⟨σ, h.2, fun Q' q => by unfold awpOps; exact ⟨h.1, q⟩⟩
  | o :: rest, rs, σ, Q, h => by
    unfold awpOps at h
    obtain ⟨g, r1, h1, k1⟩ := G.wp_pick h
    obtain ⟨out, lk, h2, k2⟩ := G.wp_pick h1
    have key : ∃ τ, Q τ ∧ ∀ Q' : St → Prop, Q' τ → out.wp real M g σ.o fun x us lk' => dstOk nt o.dst = true ∧ nodupL us = true ∧
        gsp real o g us fun us => awpOps real T EX M nt draw ops Q' rest (⟨o.dst, Oper.pre o, o.looksAt ops, lk ++ lk', us.map (·.1)⟩ :: rs) (σ.put o.dst (wrapG o g x) us) := by
      cases out with
      | val x us =>
        obtain ⟨a1, a3, a4⟩ := h2
        obtain ⟨us', -, -, -, a5, a6⟩ := gsp_real a3 a4
        obtain ⟨τ, b1, b2⟩ := ops_pick rest _ _ _ a5
        exact ⟨τ, b1, fun Q' q => ⟨a1, a3, a6 _ (b2 Q' q)⟩⟩
      | inl f avs =>
        obtain ⟨x, kn, us, c1, c2, a1, a3, a4⟩ : ∃ x kn us, (g = true → M.i f avs kn x us) ∧ okI σ.o avs kn x us ∧ dstOk nt o.dst = true ∧ nodupL us = true ∧ _ := h2
        obtain ⟨us', -, -, -, a5, a6⟩ := gsp_real a3 a4
        obtain ⟨τ, b1, b2⟩ := ops_pick rest _ _ _ a5
        exact ⟨τ, b1, fun Q' q => ⟨x, kn, us, c1, c2, a1, a3, a6 _ (b2 Q' q)⟩⟩
      | call f args ret =>
        obtain ⟨out, c1, c2⟩ : ∃ out, (g = true → M.m f args out) ∧ (ret out).wp σ.o fun r lk => dstOk nt o.dst = true ∧ nodupL r.2 = true ∧ _ := h2
        obtain ⟨r, lk', d1, d2⟩ := G.wp_pick c2
        obtain ⟨a1, a3, a4⟩ := d1
        obtain ⟨us', -, -, -, a5, a6⟩ := gsp_real a3 a4
        obtain ⟨τ, b1, b2⟩ := ops_pick rest _ _ _ a5
        exact ⟨τ, b1, fun Q' q => ⟨out, c1, d2 _ ⟨a1, a3, a6 _ (b2 Q' q)⟩⟩⟩
    obtain ⟨τ, b1, b2⟩ := key
    exact ⟨τ, b1, fun Q' q => by unfold awpOps; exact k1 _ (k2 _ (b2 Q' q))⟩
theorem awp_pick : ∀ (c : Code) (σ : St) (Q : AE → St → Prop), awp real T EX M nt H c Q σ → ∃ e τ, Q e τ ∧ ∀ Q' : AE → St → Prop, Q' e τ → awp real T EX M nt H c Q' σ := by
  intro c
  induction c with
  | skip => intro σ Q h; exact ⟨.normal, σ, h, fun _ q => q⟩
  | region id ops draw =>
    intro σ Q h
    unfold awp at h
    cases hh : memN H id with
    | false =>
      rw [hh] at h
      obtain ⟨τ, h1, h2⟩ := ops_pick _ _ _ _ h
      exact ⟨.normal, τ, h1, fun Q' q => by unfold awp; rw [hh]; exact h2 _ q⟩
    | true =>
      rw [hh] at h
      obtain ⟨ρ, hc, h⟩ : ∃ τ, CovG (memN H 999) nt σ τ ∧ awpOps real T EX M nt draw ops (Q .normal) ops.toList [] τ := h
      obtain ⟨τ, h1, h2⟩ := ops_pick _ _ _ _ h
      exact ⟨.normal, τ, h1, fun Q' q => by unfold awp; rw [hh]; exact ⟨ρ, hc, h2 _ q⟩⟩
  | seq a b iha ihb =>
    intro σ Q h
    unfold awp at h
    obtain ⟨e, τ, h1, h2⟩ := iha σ _ h
    cases e with
    | normal =>
      obtain ⟨e', τ', g1, g2⟩ := ihb τ _ h1
      exact ⟨e', τ', g1, fun Q' q => by unfold awp; exact h2 _ (g2 _ q)⟩
    | exit id => exact ⟨.exit id, τ, h1, fun Q' q => by unfold awp; exact h2 _ q⟩
    | ret => exact ⟨.ret, τ, h1, fun Q' q => by unfold awp; exact h2 _ q⟩
  | cond t x y ihx ihy =>
    intro σ Q h
    unfold awp at h
    obtain ⟨b, r, h1, h2⟩ := G.wp_pick h
    have h1 : (b = true → awp real T EX M nt H x Q σ) ∧ (b = false → awp real T EX M nt H y Q σ) := h1
    cases b with
    | true =>
      obtain ⟨e, τ, g1, g2⟩ := ihx σ Q (h1.1 rfl)
      exact ⟨e, τ, g1, fun Q' q => by unfold awp; exact h2 _ ⟨fun _ => g2 Q' q, fun h => (nomatch h)⟩⟩
    | false =>
      obtain ⟨e, τ, g1, g2⟩ := ihy σ Q (h1.2 rfl)
      exact ⟨e, τ, g1, fun Q' q => by unfold awp; exact h2 _ ⟨fun h => (nomatch h), fun _ => g2 Q' q⟩⟩
  | block id x ih =>
    intro σ Q h
    unfold awp at h
    obtain ⟨e, τ, h1, h2⟩ := ih σ _ h
    cases e with
    | normal => exact ⟨.normal, τ, h1, fun Q' q => by unfold awp; exact h2 _ q⟩
    | ret => exact ⟨.ret, τ, h1, fun Q' q => by unfold awp; exact h2 _ q⟩
    | exit j =>
      have h1 : bif nbeq j id then Q .normal τ else Q (.exit j) τ := h1
      cases hb : nbeq j id with
      | true =>
        rw [hb] at h1
        refine ⟨.normal, τ, h1, fun Q' q => ?_⟩
        unfold awp
        refine h2 _ ?_
        show bif nbeq j id then Q' .normal τ else Q' (.exit j) τ
        rw [hb]; exact q
      | false =>
        rw [hb] at h1
        refine ⟨.exit j, τ, h1, fun Q' q => ?_⟩
        unfold awp
        refine h2 _ ?_
        show bif nbeq j id then Q' .normal τ else Q' (.exit j) τ
        rw [hb]; exact q
  | loop x ih =>
    intro σ Q h
    have h : LoopG (memN H 999) nt (fun Q' τ => awp real T EX M nt H x Q' τ) Q σ := h
    obtain ⟨α, st, m, ⟨x0, h0⟩, hb⟩ := h
    have key : ∀ (n : Nat) (y : α), m y = n → ∃ e τ, (match e with | .normal => False | e => Q e τ) ∧ ∀ Q' : AE → St → Prop, Q' e τ →
        ∃ (β : Type) (st' : β → St) (m' : β → Nat) (y0 : β), st' y0 = st y ∧ ∀ z, awp real T EX M nt H x (fun e τ => match e with | .normal => ∃ u, m' u < m' z ∧ CovG (memN H 999) nt τ (st' u) | e => Q' e τ) (st' z) := by
      intro n
      induction n using Nat.strongRecOn with
      | _ n ihn =>
        intro y hy
        obtain ⟨e, τ, g1, g2⟩ := ih (st y) _ (hb y)
        cases e with
        | exit id => exact ⟨.exit id, τ, g1, fun Q' q => ⟨Unit, fun _ => st y, fun _ => 0, (), rfl, fun _ => g2 _ q⟩⟩
        | ret => exact ⟨.ret, τ, g1, fun Q' q => ⟨Unit, fun _ => st y, fun _ => 0, (), rfl, fun _ => g2 _ q⟩⟩
        | normal =>
          obtain ⟨z, hz, hc⟩ := g1
          obtain ⟨e', τ', k1, k2⟩ := ihn (m z) (hy ▸ hz) z rfl
          refine ⟨e', τ', k1, fun Q' q => ?_⟩
          obtain ⟨β, st', m', y0, e0, hall⟩ := k2 Q' q
          refine ⟨Option β, fun o => match o with | none => st y | some u => st' u, fun o => match o with | none => m' y0 + 1 | some u => m' u, none, rfl, fun o => ?_⟩
          cases o with
          | none => exact g2 _ ⟨some y0, Nat.lt_succ_self _, by show CovG (memN H 999) nt τ (st' y0); rw [e0]; exact hc⟩
          | some u =>
            obtain ⟨e2, τ2, w1, w2⟩ := ih (st' u) _ (hall u)
            refine w2 _ ?_
            cases e2 with
            | normal => obtain ⟨u', hu, hc'⟩ := w1; exact ⟨some u', hu, hc'⟩
            | exit id => exact w1
            | ret => exact w1
    obtain ⟨e, τ, k1, k2⟩ := key _ x0 rfl
    refine ⟨e, τ, ?_, fun Q' q => ?_⟩
    · cases e with
      | normal => exact k1.elim
      | exit id => exact k1
      | ret => exact k1
    · obtain ⟨β, st', m', y0, e0, hall⟩ := k2 Q' q
      show LoopG (memN H 999) nt (fun Q' τ => awp real T EX M nt H x Q' τ) Q' σ
      exact ⟨β, st', m', ⟨y0, by rw [e0]; exact h0⟩, hall⟩
  | exit id => intro σ Q h; exact ⟨.exit id, σ, h, fun _ q => q⟩
  | ret => intro σ Q h; exact ⟨.ret, σ, h, fun _ q => q⟩
  | _ => intro σ Q h; exact h.elim
end
def shapeB : List (Option XV) → List Bool
  | [] => []
  | none :: r => false :: shapeB r
  | some _ :: r => true :: shapeB r
theorem backG_shape (A : Ar) : ∀ {tvs : List TV} {s s' : List (Option XV)}, shapeB s = shapeB s' → backG A tvs s = backG A tvs s'
  | [], [], [], _ => rfl
  | [], [], none :: _, h => by simp [shapeB] at h
  | [], [], some _ :: _, h => by simp [shapeB] at h
  | [], _ :: _, [], h => by rename_i y _; cases y <;> simp [shapeB] at h
  | [], _ :: _, _ :: _, _ => rfl
  | _ :: _, [], [], _ => rfl
  | _ :: _, [], y :: _, h => by cases y <;> simp [shapeB] at h
  | _ :: _, y :: _, [], h => by cases y <;> simp [shapeB] at h
  | x :: r, y :: s, z :: s', h => by
    have hs : shapeB s = shapeB s' := by cases y <;> cases z <;> simp [shapeB] at h <;> exact h
    have ih := backG_shape A (tvs := r) hs
    cases y with
    | none =>
      cases z with
      | none => cases x <;> simp only [backG, ih]
      | some _ => simp [shapeB] at h
    | some _ =>
      cases z with
      | none => simp [shapeB] at h
      | some _ => cases x <;> simp only [backG, ih]
/-- The end of a walk, of whose answer only this is told. -/
def FinalX (A : Ar) (T : TypeId → Option TI) (rs : List ResultVar) (tvs : List TV) (sh : List (Option XV)) (K : XA → List (Option XV) → Prop) (σ : St) : Prop :=
  (resG A T σ rs).wp σ.o fun r _ => (backG A tvs sh).wp σ.o fun b _ =>
    exOk (r.2.ex ++ b.2.ex) [] = true ∧ r.2.bo.isEmpty = true ∧ b.2.bo.isEmpty = true ∧ A.hold fun _ => K (XAof r.1) b.1
theorem finalX_ex {T : TypeId → Option TI} {rs : List ResultVar} {tvs : List TV} {sh : List (Option XV)} {β : Type} {R : β → Prop} {out : β → Out} {σ : St} (hs : ∀ y, shapeB (out y).back = shapeB sh)
    (h : FinalX real T rs tvs sh (fun r b => ∃ y, R y ∧ r = (out y).res ∧ b = (out y).back) σ) : ∃ y, R y ∧ Final real T rs tvs (out y) σ := by
  obtain ⟨r, l1, h1, k1⟩ := G.wp_pick h
  obtain ⟨b, l2, ⟨h2, h3, h4, h5⟩, k2⟩ := G.wp_pick h1
  obtain ⟨y, hy, e1, e2⟩ : ∃ y, R y ∧ XAof r.1 = (out y).res ∧ b.1 = (out y).back := h5
  refine ⟨y, hy, k1 _ ?_⟩
  show (backG real tvs (out y).back).wp σ.o _
  rw [backG_shape real (hs y)]
  exact k2 _ ⟨h2, h3, h4, e1, e2⟩
def awpFnX (A : Ar) (T : TypeId → Option TI) (EX : FuncId → List Nat × Bool) (M : Ms) (sh : List (Option XV)) (K : XA → List (Option XV) → Prop) (nt : Nat) (H : List Nat) (c : Code) (rs : List ResultVar) (args : List XT) : Prop :=
  (takenTup 0 0 args).wp (lookO []) fun r _ => nodupL r.2 = true ∧ nble r.1.length nt = true ∧ (r.1.all fun x => labA x.av) = true ∧
    awp A T EX M nt H c (fun e τ => match e with | .exit _ => False | _ => FinalX A T rs r.1 sh K τ) ⟨slotsOf 0 r.1, r.2⟩
/-- A function's contract, of whose answer only this is told. 'sh': which arguments come back. -/
theorem meets_ex {P : Program} {T : TypeId → Option TI} {EX : FuncId → List Nat × Bool} (hT : TTok P T) (hm : P.follows .mixedOrders = true) (sh : List (Option XV)) {f : FuncId} {fn : Func} {c : Code} {H : List Nat} {args : List XT} {β : Type} {R : β → Prop} {out : β → Out}
    (hf : P.funcs[f]? = some fn) (hb : fn.body = some c) (hcall : callable P f = true) (hrl : fn.results.toList.length ≤ 3) (hs : ∀ y, shapeB (out y).back = shapeB sh)
    (h : awpFnX real T EX (MeetsB P) sh (fun r b => ∃ y, R y ∧ r = (out y).res ∧ b = (out y).back) fn.ntmps H c fn.results.toList args) : ∃ y, R y ∧ Meets P f args (out y) := by
  obtain ⟨r, lk, ⟨h1, h2, h3, h4⟩, k⟩ := G.wp_pick h
  obtain ⟨e, τ, g1, g2⟩ := awp_pick _ _ _ h4
  have key : ∃ y, R y ∧ (match e with | .exit _ => False | _ => Final real T fn.results.toList r.1 (out y) τ) := by
    cases e with
    | exit id => exact g1.elim
    | normal => exact finalX_ex hs g1
    | ret => exact finalX_ex hs g1
  obtain ⟨y, hy, hF⟩ := key
  refine ⟨y, hy, meets_of (EX := EX) (H := H) hT hm hf hb hcall hrl ?_⟩
  refine k _ ⟨h1, h2, h3, g2 _ ?_⟩
  cases e with
  | exit id => exact hF.elim
  | normal => exact hF
  | ret => exact hF
theorem fin_of {A : Ar} (hA : real = A) {p : Prop} (h : p) : A.hold fun _ => p := by subst hA; exact h
end Go.Rk
/- A function that works on the caller's own things: its contract, from its walk. -/
namespace Go.Rk
set_option linter.unusedSimpArgs false
set_option linter.unusedVariables false
def okR : HO → HO → Prop
  | _, .dead => True
  | .box c, .box c' => c = c'
  | .arr sz n row, .arr sz' n' row' => sz = sz' ∧ n = n' ∧ ∀ i, i < n → row i = row' i
  | _, _ => False
def eqR (a b : Nat × HO) : Prop := a.1 = b.1 ∧ okR a.2 b.2
def endL (a us : List (Nat × Nat × HO)) : List (Nat × Nat × HO) → Prop
  | [] => True
  | (l, _) :: r => eqR (lookO a l) (lookO us l) ∧ endL a us r
def resA (rs : List ResultVar) (x : AV) (τ : St) : Prop :=
  match rs with
  | [] => x = .tup []
  | [.tmp t] => x = lookS τ.slots t
  | _ => False
def FinI (rs : List ResultVar) (x : AV) (us : List (Nat × Nat × HO)) (τ : St) : Prop :=
  resA rs x τ ∧ (us.all fun p => hasLab τ.objs p.1) = true ∧ endL τ.objs us τ.objs
def slotsA : Nat → List AV → List (Nat × AV)
  | _, [] => []
  | i, x :: r => (i, x) :: slotsA (i + 1) r
section
variable {P : Program} {T : TypeId → Option TI} {EX : FuncId → List Nat × Bool}
variable {w0 : World} {S : Sets} {nt : Nat} {sl : Nat → AV} {σ τ : Objs} {a : Act} {w : World} {μ : Place}
theorem RelM.less (R : RelM w0 S nt sl σ a w μ) (h : ∀ l, eqR (σ l) (τ l)) : Step S σ τ μ μ w w ∧ RelM w0 S nt sl τ a w μ := by
  have hlv : ∀ l, live τ l → live σ l := fun l hl => by
    have := (h l).2
    unfold live at hl ⊢
    revert hl this
    generalize (σ l).2 = o
    generalize (τ l).2 = o'
    intro hl this
    cases o' with
    | dead => exact absurd rfl hl
    | box _ => cases o with
      | box _ => exact HO.noConfusion
      | _ => exact this.elim
    | arr _ _ _ => cases o with
      | arr _ _ _ => exact HO.noConfusion
      | _ => exact this.elim
  have hst : Step S σ τ μ μ w w := by
    refine ⟨Nat.le_refl _, fun b hb => ⟨rfl, hb.1, hb.2.1, fun l base hl => hb.2.2 l base (hlv l hl)⟩, fun l => ?_⟩
    right
    have h2 := (h l).2
    refine ⟨(h l).1, rfl, fun cells hc => ?_, fun sz n row hc => ?_, fun b base cs e hm _ hb => ⟨cs, hb, rfl⟩⟩
    · rw [hc] at h2
      cases ho : (σ l).2 with
      | box c => exact ⟨c, rfl⟩
      | _ => rw [ho] at h2; exact h2.elim
    · rw [hc] at h2
      cases ho : (σ l).2 with
      | arr sz' n' row' => rw [ho] at h2; obtain ⟨rfl, rfl, _⟩ := h2; exact ⟨_, row', rfl, Nat.le_refl _⟩
      | _ => rw [ho] at h2; exact h2.elim
  refine ⟨hst, R.carry hst ⟨rfl, rfl, rfl⟩ (fun _ _ _ => rfl) (fun b cs e fr hb => ⟨cs, hb, rfl⟩) (fun l b base hl hm => R.own l b base (hlv l hl) hm) (fun l l' b base base' hl hl' hm hm' => R.inj l l' b base base' (hlv l hl) (hlv l' hl') hm hm') (fun l => .inr ?_)⟩
  have ho := R.objs l
  have h2 := (h l).2
  revert ho h2
  generalize (σ l).2 = o
  generalize (τ l).2 = o'
  intro ho h2
  cases o' with
  | dead => trivial
  | box c =>
    cases o with
    | box c' =>
      have h2 : c' = c := h2
      subst h2
      obtain ⟨b, cs, e, q1, q2, q3⟩ := ho
      exact ⟨b, cs, e, q1, q2, q3.step hst⟩
    | _ => exact h2.elim
  | arr sz n row =>
    cases o with
    | arr sz1 n1 row1 =>
      obtain ⟨rfl, rfl, hrow⟩ := h2
      refine ⟨fun i hi => by rw [← hrow i hi]; exact ho.1 i hi, ho.2.imp id ?_⟩
      rintro ⟨b, base, cs, e, q1, q2, q3, q4⟩
      refine ⟨b, base, cs, e, q1, q2, q3, fun i j x hi hj => ?_⟩
      rw [← hrow i hi] at hj
      obtain ⟨u, hu, hd⟩ := q4 i j x hi hj
      exact ⟨u, hu, DRep.carry hst.old hd⟩
    | _ => exact h2.elim
theorem look_nodup : ∀ {kn : List (Nat × Nat × HO)}, nodupL kn = true → ∀ {p : Nat × Nat × HO}, p ∈ kn → lookO kn p.1 = p.2
  | [], _, p, h => by simp at h
  | (j, x) :: r, hn, p, h => by
    unfold nodupL at hn
    cases hl : hasLab r j with
    | true => rw [hl] at hn; cases hn
    | false =>
      rw [hl] at hn
      unfold lookO
      rcases List.mem_cons.1 h with rfl | h
      · rw [show nbeq j j = true from nbeq_refl j]; rfl
      · cases hb : nbeq j p.1 with
        | true =>
          have := eq_of_nbeq hb
          have h2 := hasLab_mem h
          rw [← this] at h2; rw [h2] at hl; cases hl
        | false => exact look_nodup hn h
theorem endL_at {a us : List (Nat × Nat × HO)} : ∀ {r : List (Nat × Nat × HO)}, endL a us r → ∀ {l : Nat}, hasLab r l = true → eqR (lookO a l) (lookO us l)
  | [], _, _, h => by cases h
  | (j, _) :: r, h, l, hl => by
    unfold hasLab at hl
    cases hb : nbeq j l with
    | true => have := eq_of_nbeq hb; subst this; exact h.1
    | false => rw [hb] at hl; exact endL_at h.2 hl
theorem AvsRep.len {σ : Objs} {μ : Place} {w : World} {N : Nat → Prop} : ∀ {xs : List AV} {vs : List Value}, AvsRep σ μ w N xs vs → xs.length = vs.length
  | [], [], _ => rfl
  | _ :: _, _ :: _, h => by simp [AvsRep.len h.2]
  | [], _ :: _, h => h.elim
  | _ :: _, [], h => h.elim
theorem AvsRep.slots {σ : Objs} {μ : Place} {w : World} {N : Nat → Prop} : ∀ {xs : List AV} {vs : List Value} (i : Nat), AvsRep σ μ w N xs vs → ∀ k, (k < i ∨ i + xs.length ≤ k → lookS (slotsA i xs) k = .c .junk) ∧ (∀ q v, k = i + q → vs[q]? = some v → ARep σ μ w N (lookS (slotsA i xs) k) v)
  | [], [], i, _, k => ⟨fun _ => rfl, fun q v _ h => by simp at h⟩
  | x :: r, v :: s, i, h, k => by
    obtain ⟨h1, h2⟩ := AvsRep.slots (i + 1) h.2 k
    refine ⟨fun hk => ?_, fun q u hq hu => ?_⟩
    · show (bif nbeq i k then x else lookS (slotsA (i + 1) r) k) = _
      have : nbeq i k = false := by
        cases hb : nbeq i k with
        | false => rfl
        | true => have := eq_of_nbeq hb; simp at hk; omega
      rw [this]
      exact h1 (by simp at hk; omega)
    · show ARep σ μ w N (bif nbeq i k then x else lookS (slotsA (i + 1) r) k) u
      cases q with
      | zero =>
        have : k = i := by omega
        subst this
        simp at hu; subst hu
        have : nbeq k k = true := nbeq_refl k
        rw [this]
        exact h.1
      | succ q =>
        have : nbeq i k = false := by
          cases hb : nbeq i k with
          | false => rfl
          | true => have := eq_of_nbeq hb; omega
        rw [this]
        exact h2 q u (by omega) (by simpa using hu)
  | [], _ :: _, _, h, _ => h.elim
  | _ :: _, [], _, h, _ => h.elim
theorem inl_core (hT : TTok P T) (hm : P.follows .mixedOrders = true) {H : List Nat} {f : FuncId} {fn : Func} {c : Code} {avs : List AV} {kn us : List (Nat × Nat × HO)} {x : AV}
    (hf : P.funcs[f]? = some fn) (hb : fn.body = some c) (hcall : callable P f = true) (hrl : fn.results.toList.length ≤ 3) (hpl : memN H 999 = true ∨ loopless H c = true) (hkn : memN H 999 = true → (kn.all fun p => smallL p.1) = true) (hnl : nodupL kn = true) (hlen : nble avs.length fn.ntmps = true)
    (h : awp real T EX (MeetsB P) fn.ntmps H c (fun e τ => match e with | .exit _ => False | _ => FinI fn.results.toList x us τ) ⟨slotsA 0 avs, kn⟩) : MeetsO P f avs kn x us := by
  refine ⟨hcall, fun w vals N μ hN hK hinj hobj hav => ?_⟩
  obtain ⟨S, hS⟩ : ∃ S, S = setsK w N kn μ := ⟨_, rfl⟩
  have hlen2 : avs.length ≤ fn.ntmps := le_of_nble hlen
  have hvl := hav.len
  let a0 : Act := { tmps := vals.toArray ++ Array.replicate (fn.ntmps - vals.toArray.size) undef, defers := [] }
  have hNN : ∀ b, N b → Nof S (lookO kn) μ w b := fun b hb => by
    rw [hS]
    exact ⟨(hN b hb).1, .inl hb, fun l base hl hmm => (hN b hb).2 ⟨l, base, hl, hmm⟩⟩
  have harep : ∀ {σ : Objs} {x : AV} {v : Value} {N N' : Nat → Prop}, (∀ b, N b → N' b) → ARep σ μ w N x v → ARep σ μ w N' x v := by
    intro σ x
    have hcs : ∀ {N N' : Nat → Prop} {xs : List CV} {vs : List Value}, (∀ b, N b → N' b) → CsRep σ μ w N xs vs → CsRep σ μ w N' xs vs := fun h hx => hx.mono h
    have ht : ∀ {N N' : Nat → Prop} {xs : List TV} {vs : List Value}, (∀ b, N b → N' b) → TsRep σ μ w N xs vs → TsRep σ μ w N' xs vs := by
      intro N N' xs
      induction xs with
      | nil => intro vs _ h; cases vs with
        | nil => trivial
        | cons _ _ => exact h.elim
      | cons y r ih => intro vs hN h; cases vs with
        | nil => exact h.elim
        | cons v s =>
          refine ⟨?_, ih hN h.2⟩
          have := h.1
          cases y with
          | c y => exact CRep.mono hN this
          | agg ys => obtain ⟨cs, h1, h2⟩ := this; exact ⟨cs, h1, hcs hN h2⟩
    induction x with
    | c x => intro v N N' hN h; exact CRep.mono hN h
    | agg xs => intro v N N' hN h; obtain ⟨cs, h1, h2⟩ := h; exact ⟨cs, h1, hcs hN h2⟩
    | tup xs => intro v N N' hN h; obtain ⟨cs, h1, h2⟩ := h; exact ⟨cs, h1, ht hN h2⟩
    | gd t x ih => intro v N N' hN h; exact ⟨fun e => ih hN (h.1 e), h.2⟩
  have hslots : ∀ k, ARep (lookO kn) μ w (Nof S (lookO kn) μ w) (lookS (slotsA 0 avs) k) (a0.tmps.getD k undef) := fun k => by
    obtain ⟨h1, h2⟩ := hav.slots 0 k
    by_cases hk : k < vals.length
    · have hv : vals[k]? = some vals[k] := List.getElem?_eq_getElem hk
      have := h2 k _ (by omega) hv
      have e : a0.tmps.getD k undef = vals[k] := by
        have h1 : a0.tmps[k]? = some vals[k] := by
          simp only [a0]
          rw [Array.getElem?_append_left (by simpa using hk)]
          simp [hk]
        simp [Array.getD_eq_getD_getElem?, h1]
      rw [e]
      exact harep hNN this
    · rw [h1 (by omega)]; trivial
  have R0 : RelM w S fn.ntmps (lookS (slotsA 0 avs)) (lookO kn) a0 w μ := by
    rw [hS] at hslots hNN ⊢
    refine ⟨by simp [a0]; omega, rfl, ⟨rfl, rfl, rfl⟩, Nat.le_refl _, fun b hb => ?_, fun _ _ _ => rfl, fun b cs e fr hb => ⟨cs, hb, rfl⟩, fun l b base hl hmm => ?_, hinj, fun p hp => (by simp [setsK] at hp), fun p hp => (by simp [setsK] at hp), fun _ p hp => ?_, fun l => ?_, hslots⟩
    · rcases hb with hb | hb
      · exact .inr (.inr hb)
      · exact .inr (.inl hb)
    · exact ⟨hK b ⟨l, base, hl, hmm⟩, .inr ⟨l, base, hl, hmm⟩⟩
    · have hp : p ∈ kn.map (fun p => (p.1, p.2.1, μ p.1)) := hp
      obtain ⟨q, hq, rfl⟩ := List.mem_map.1 hp
      have e : lookO kn q.1 = q.2 := look_nodup hnl hq
      exact ⟨by show q.2.1 ≤ _; rw [e]; exact Nat.le_refl _, fun _ _ => rfl⟩
    · have ho := hobj l
      revert ho
      generalize (lookO kn l).2 = o
      intro ho
      cases o with
      | dead => trivial
      | box cells => obtain ⟨b, cs, e, q1, q2, q3⟩ := ho; exact ⟨b, cs, e, q1, q2, q3.mono hNN⟩
      | arr sz n row =>
        refine ⟨ho.1, ho.2.imp id ?_⟩
        rintro ⟨b, base, cs, e, q1, q2, q3, q4⟩
        refine ⟨b, base, cs, e, q1, q2, q3, fun i j x hi hj => ?_⟩
        obtain ⟨u, hu, hd⟩ := q4 i j x hi hj
        exact ⟨u, hu, hd.mono hNN⟩
  refine calls_of_wp hf hb ?_
  refine awp_sound hT hm c (fun _ => hpl) (fun _ p hp hm9 => by
      rw [hS] at hp
      have hp : p ∈ kn.map (fun p => (p.1, p.2.1, μ p.1)) := hp
      obtain ⟨q, hq, rfl⟩ := List.mem_map.1 hp
      have := List.all_eq_true.1 (hkn hm9) q hq
      simpa using this) _ _ ⟨slotsA 0 avs, kn⟩ a0 w h ⟨μ, R0⟩ ?_
  intro e τ' a' w' hfin R'
  have hfin' : FinI fn.results.toList x us τ' ∧ (e.ex = .normal ∨ e.ex = .ret) := by
    cases e with
    | normal => exact ⟨hfin, .inl rfl⟩
    | ret => exact ⟨hfin, .inr rfl⟩
    | exit id => exact hfin.elim
  obtain ⟨⟨hres, hus, hend⟩, hex⟩ := hfin'
  obtain ⟨μ', R'⟩ := R'
  have heq : ∀ l, eqR (τ'.o l) (lookO us l) := fun l => by
    cases hb : hasLab τ'.objs l with
    | true => exact endL_at hend hb
    | false =>
      have h1 : τ'.o l = (0, .dead) := hasLab_look hb
      have h2 : hasLab us l = false := by
        cases hu : hasLab us l with
        | false => rfl
        | true =>
          have := List.all_eq_true.1 hus _ (look_mem hu)
          simp only at this
          rw [hb] at this; cases this
      rw [h1, hasLab_look h2]
      exact ⟨rfl, trivial⟩
  obtain ⟨st, R2⟩ := R'.less heq
  have hpost : a'.defers = [] ∧ ∃ v, (results fn a'.tmps).run P w' = .ok v w' ∧ ∃ v', ∃ nt sl a μ', Ending.returned v = Ending.returned v' ∧ RelM w (setsK w N kn μ) nt sl (lookO us) a w' μ' ∧ ARep (lookO us) μ' w' (Nof (setsK w N kn μ) (lookO us) μ' w') x v' := by
    refine ⟨R'.defs, ?_⟩
    unfold resA at hres
    split at hres
    · rename_i hr
      refine ⟨_, results_run hrl (vs := []) (by rw [hr]; trivial), _, _, _, _, μ', rfl, by rw [← hS]; exact R2, ?_⟩
      rw [hres]
      exact ⟨#[], rfl, trivial⟩
    · rename_i t hr
      refine ⟨_, results_run hrl (vs := [a'.tmps.getD t undef]) (by rw [hr]; exact ⟨rfl, trivial⟩), _, _, _, _, μ', rfl, by rw [← hS]; exact R2, ?_⟩
      rw [hres, ← hS]
      exact (R'.slots t).step st
    · exact hres.elim
  rcases hex with h | h <;> rw [h] <;> exact hpost
theorem inl_of (hT : TTok P T) (hm : P.follows .mixedOrders = true) {f : FuncId} {fn : Func} {c : Code} {avs : List AV} {kn us : List (Nat × Nat × HO)} {x : AV}
    (hf : P.funcs[f]? = some fn) (hb : fn.body = some c) (hcall : callable P f = true) (hrl : fn.results.toList.length ≤ 3) (hpl : loopless [] c = true) (hnl : nodupL kn = true) (hlen : nble avs.length fn.ntmps = true)
    (h : awp real T EX (MeetsB P) fn.ntmps [] c (fun e τ => match e with | .exit _ => False | _ => FinI fn.results.toList x us τ) ⟨slotsA 0 avs, kn⟩) : MeetsO P f avs kn x us :=
  inl_core hT hm hf hb hcall hrl (.inr hpl) (fun h => by cases h) hnl hlen h
/-- The same with stops and loops: 'H' holds 999, and the caller's labels are small. -/
theorem inl_ofH (H : List Nat) (hT : TTok P T) (hm : P.follows .mixedOrders = true) {f : FuncId} {fn : Func} {c : Code} {avs : List AV} {kn us : List (Nat × Nat × HO)} {x : AV}
    (hf : P.funcs[f]? = some fn) (hb : fn.body = some c) (hcall : callable P f = true) (hrl : fn.results.toList.length ≤ 3) (hpl : memN H 999 = true) (hkn : (kn.all fun p => smallL p.1) = true) (hnl : nodupL kn = true) (hlen : nble avs.length fn.ntmps = true)
    (h : awp real T EX (MeetsB P) fn.ntmps H c (fun e τ => match e with | .exit _ => False | _ => FinI fn.results.toList x us τ) ⟨slotsA 0 avs, kn⟩) : MeetsO P f avs kn x us :=
  inl_core hT hm hf hb hcall hrl (.inl hpl) (fun _ => hkn) hnl hlen h
end
end Go.Rk
/- Small things: a call on the caller's own things, taken up; slices that may be nil; own rows in the place of nil. -/
namespace Go.Rk
set_option linter.unusedSimpArgs false
set_option linter.unusedVariables false
theorem inl_call {A : Ar} (hA : real = A) {Q : AV → List (Nat × Nat × HO) → List (Nat × Nat × HO) → Prop} (x : AV) (kn us : List (Nat × Nat × HO)) (h : Q x kn us) : A.hold fun _ => ∃ x kn us, Q x kn us := by
  subst hA; exact ⟨x, kn, us, h⟩
/-- One slice is handed over: nil, or empty, or not. -/
theorem meets_slice {P : Program} {f : FuncId} {sz n : Nat} {row : Nat → List DV} {out : Out}
    (h0 : n = 0 → ∀ (ad : Option Addr) (cap : Nat), Meets P f [.c (.d (.v (.slice ad 0 cap)))] out) (h1 : 0 < n → Meets P f [.c (.d (.sl sz n row))] out) : Meets P f [.c (.d (.sl sz n row))] out := by
  refine ⟨?_, fun w vals F N hx hF hb hN => ?_⟩
  · by_cases hn : n = 0
    · exact (h0 hn none 0).1
    · exact (h1 (by omega)).1
  · by_cases hn : n = 0
    · match vals, hx with
      | [], hx => exact hx.elim
      | v :: s, hx =>
        obtain ⟨F1, F2, e, ⟨rfl, hd⟩, h2⟩ := hx
        have hd : DRep w N (.sl sz n row) v := hd
        obtain ⟨ad, cap, rfl⟩ : ∃ ad cap, v = .slice ad 0 cap := by
          subst hn
          cases hd with
          | nil => exact ⟨_, _, rfl⟩
          | empty => exact ⟨_, _, rfl⟩
          | sl _ _ _ b off cap => exact ⟨_, _, rfl⟩
        exact (h0 hn ad cap).2 w _ F N ⟨[], F2, e, ⟨rfl, DRep.v _ rfl⟩, h2⟩ hF hb hN
    · exact (h1 (by omega)).2 w vals F N hx hF hb hN
def UpV (x y : XV) : Prop := x = y ∨ (∃ sz row, x = .d (.v nilS) ∧ y = .own sz 0 row) ∨ ∃ sz n row row', (∀ i, i < n → row i = row' i) ∧ x = .own sz n row ∧ y = .own sz n row'
def UpVs : List XV → List XV → Prop
  | [], [] => True
  | x :: r, y :: s => UpV x y ∧ UpVs r s
  | _, _ => False
def UpT : XT → XT → Prop
  | .c x, .c y => UpV x y
  | .agg xs, .agg ys => UpVs xs ys
  | _, _ => False
def UpTs : List XT → List XT → Prop
  | [], [] => True
  | x :: r, y :: s => UpT x y ∧ UpTs r s
  | _, _ => False
def UpA : XA → XA → Prop
  | .one x, .one y => UpT x y
  | .tup xs, .tup ys => UpTs xs ys
  | _, _ => False
section
variable {w : World} {N : Nat → Prop}
theorem UpV.rep {x y : XV} {v : Value} {F : List Nat} (h : UpV x y) (hx : XVRep w N x v F) : XVRep w N y v F := by
  rcases h with rfl | ⟨sz, row, rfl, rfl⟩ | ⟨sz, n, row, row', he, rfl, rfl⟩
  · exact hx
  · obtain ⟨rfl, hd⟩ := hx
    cases hd
    exact ⟨fun i hi => absurd hi (Nat.not_lt_zero i), .inl ⟨rfl, rfl, _, rfl⟩⟩
  · obtain ⟨h1, h2⟩ := hx
    refine ⟨fun i hi => by rw [← he i hi]; exact h1 i hi, h2.imp id ?_⟩
    rintro ⟨b, base, cap, cs, e, g1, g2, g3, g4, g5, g6, g7⟩
    exact ⟨b, base, cap, cs, e, g1, g2, g3, g4, g5, g6, fun i j x hi hj => g7 i j x hi (by rw [he i hi]; exact hj)⟩
theorem UpVs.rep : ∀ {xs ys : List XV} {vs : List Value} {F : List Nat}, UpVs xs ys → XVsRep w N xs vs F → XVsRep w N ys vs F
  | [], [], _, _, _, h => h
  | _ :: _, _ :: _, _ :: _, _, hu, ⟨F1, F2, e, h1, h2⟩ => ⟨F1, F2, e, hu.1.rep h1, UpVs.rep hu.2 h2⟩
  | _ :: _, _ :: _, [], _, _, h => h.elim
  | [], _ :: _, _, _, hu, _ => hu.elim
  | _ :: _, [], _, _, hu, _ => hu.elim
theorem UpT.rep {x y : XT} {v : Value} {F : List Nat} (hu : UpT x y) (hx : XTRep w N x v F) : XTRep w N y v F := by
  cases x with
  | c x => cases y with
    | c y => exact UpV.rep hu hx
    | agg _ => exact hu.elim
  | agg xs => cases y with
    | c y => exact hu.elim
    | agg ys => obtain ⟨cs, e, h⟩ := hx; exact ⟨cs, e, UpVs.rep hu h⟩
theorem UpTs.rep : ∀ {xs ys : List XT} {vs : List Value} {F : List Nat}, UpTs xs ys → XTsRep w N xs vs F → XTsRep w N ys vs F
  | [], [], _, _, _, h => h
  | _ :: _, _ :: _, _ :: _, _, hu, ⟨F1, F2, e, h1, h2⟩ => ⟨F1, F2, e, hu.1.rep h1, UpTs.rep hu.2 h2⟩
  | _ :: _, _ :: _, [], _, _, h => h.elim
  | [], _ :: _, _, _, hu, _ => hu.elim
  | _ :: _, [], _, _, hu, _ => hu.elim
theorem UpA.rep {x y : XA} {v : Value} {F : List Nat} (hu : UpA x y) (hx : XARep w N x v F) : XARep w N y v F := by
  cases x with
  | one x => cases y with
    | one y => exact UpT.rep hu hx
    | tup _ => exact hu.elim
  | tup xs => cases y with
    | one y => exact hu.elim
    | tup ys => obtain ⟨cs, e, h⟩ := hx; exact ⟨cs, e, UpTs.rep hu h⟩
end
theorem UpV.refl (x : XV) : UpV x x := .inl rfl
theorem UpV.nil (sz : Nat) (row : Nat → List DV) : UpV (.d (.v nilS)) (.own sz 0 row) := .inr (.inl ⟨sz, row, rfl, rfl⟩)
theorem UpV.row {sz n : Nat} {row row' : Nat → List DV} (h : ∀ i, i < n → row i = row' i) : UpV (.own sz n row) (.own sz n row') := .inr (.inr ⟨sz, n, row, row', h, rfl, rfl⟩)
theorem add0 {A : Ar} (hA : real = A) (n : Nat) : A.add 0 n = n := by subst hA; exact Nat.zero_add n
theorem cp_row2 {A : Ar} (hA : real = A) (z row : Nat → List DV) : A.app 0 z row = row := by
  subst hA; funext i
  show (if i < 0 then z i else row (i - 0)) = row i
  rw [if_neg (Nat.not_lt_zero _)]; rfl
theorem own_cp {A : Ar} (hA : real = A) {sz n : Nat} {z row row' : Nat → List DV} (h : row = row') : XA.one (.c (.own sz (A.add 0 n) (A.app 0 z row))) = XA.one (.c (.own sz n row')) := by
  rw [add0 hA, cp_row2 hA, h]
theorem room_of2 {A : Ar} (hA : real = A) {n b : Nat} (hn : n ≤ 2000000) (hb : b ≤ 100000) : A.room n b := by
  subst hA
  refine ⟨Nat.le_trans (Nat.mul_le_mul hn hb) (by decide), by omega⟩
/-- Nil handed back is an own slice of no rows. -/
theorem meets_up {P : Program} {f : FuncId} {args : List XT} {res res' : XA} {back : List (Option XV)} (hu : UpA res res') (h : Meets P f args ⟨res, back⟩) : Meets P f args ⟨res', back⟩ := by
  refine ⟨h.1, fun w vals F N hx hF hb hN => ?_⟩
  refine (h.2 w vals F N hx hF hb hN).mono ?_
  rintro e w' ⟨v, F1, F2, h1, h2, h3, h4, h5, h6, h7, h8, h9⟩
  exact ⟨v, F1, F2, h1, h2, h3, h4, h5, h6, h7, hu.rep h8, h9⟩
theorem bnot_t {A : Ar} (hA : real = A) {b : Bool} (h : A.bnot b = true) : b = false := by
  subst hA
  cases b with
  | false => rfl
  | true => exact absurd h (by decide)
theorem bnot_f {A : Ar} (hA : real = A) {b : Bool} (h : A.bnot b = false) : b = true := by
  subst hA
  cases b with
  | true => rfl
  | false => exact absurd h (by decide)
theorem room_z {A : Ar} (hA : real = A) {n b : Nat} (hn : n ≤ 2000000) (hb : b ≤ 100000) : A.room (A.add 0 n) b := by
  rw [add0 hA]; exact room_of2 hA hn hb
end Go.Rk
/- A nil in an own box, taken as an own row from here on. -/
namespace Go.Rk
set_option linter.unusedSimpArgs false
set_option linter.unusedVariables false
theorem CsRep.mid {σ : Objs} {μ : Place} {w : World} {N : Nat → Prop} {x y : CV} (h : ∀ v, CRep σ μ w N x v → CRep σ μ w N y v) : ∀ {xs ys : List CV} {vs : List Value}, CsRep σ μ w N (xs ++ x :: ys) vs → CsRep σ μ w N (xs ++ y :: ys) vs
  | [], _, [], hx => hx.elim
  | [], _, _ :: _, hx => ⟨h _ hx.1, hx.2⟩
  | _ :: _, _, [], hx => hx.elim
  | _ :: xs, _, _ :: _, hx => ⟨hx.1, CsRep.mid h hx.2⟩
theorem cov_promC {fr : Bool} {nt : Nat} {σ τ : St} (l L ver sz : Nat) (row : Nat → List DV) {v : Nat} (xs ys : List CV) (ho : lookO σ.objs l = (v, .box (xs ++ .d (.v nilS) :: ys))) (hne : nbeq L l = false) (hv : nblt (σ.o L).1 ver = true)
    (h : CovG fr nt ⟨σ.slots, (l, v, .box (xs ++ .own L 0 0 ver :: ys)) :: (L, ver, .arr sz 0 row) :: σ.objs⟩ τ) : CovG fr nt σ τ := by
  refine cov_trans ?_ h
  rintro w0 S a w hfo ⟨μ, R⟩
  have hne : L ≠ l := fun e => by subst e; simp at hne
  obtain ⟨st, R'⟩ := R.bare L ver (by simpa [nblt_eq] using hv) (.arr sz 0 row) (.inr ⟨_, _, rfl⟩)
  have eo : St.o ⟨σ.slots, (l, v, .box (xs ++ .own L 0 0 ver :: ys)) :: (L, ver, .arr sz 0 row) :: σ.objs⟩ = updO (updO σ.o L (ver, .arr sz 0 row)) l (v, .box (xs ++ .own L 0 0 ver :: ys)) := by
    show lookO ((l, v, .box (xs ++ .own L 0 0 ver :: ys)) :: (L, ver, .arr sz 0 row) :: σ.objs) = _
    rw [lookO_upd, lookO_upd]; rfl
  refine ⟨updP μ L none, ?_⟩
  rw [eo]
  generalize hσ' : updO σ.o L (ver, .arr sz 0 row) = σ' at R' st ⊢
  generalize hμ' : updP μ L none = μ' at R' st ⊢
  have hl : σ' l = (v, .box (xs ++ .d (.v nilS) :: ys)) := by rw [← hσ', updO_ne _ _ hne.symm]; exact ho
  have hL : σ' L = (ver, .arr sz 0 row) := by rw [← hσ']; exact updO_same _ _ _
  have hlive : ∀ k, live (updO σ' l (v, .box (xs ++ .own L 0 0 ver :: ys))) k → live σ' k := fun k hk => by
    by_cases e : k = l
    · subst e; unfold live; rw [hl]; exact HO.noConfusion
    · unfold live at hk ⊢; rwa [updO_ne _ _ e] at hk
  have hst : Step S σ' (updO σ' l (v, .box (xs ++ .own L 0 0 ver :: ys))) μ' μ' w w := by
    refine ⟨Nat.le_refl _, fun b hb => ⟨rfl, hb.1, hb.2.1, fun k base hk => hb.2.2 k base (hlive k hk)⟩, fun k => ?_⟩
    right
    by_cases e : k = l
    · subst e
      rw [updO_same]
      exact ⟨by rw [hl], rfl, fun c _ => ⟨_, by rw [hl]⟩, fun sz n row hr => (nomatch hr), fun b base cs e' hm hex hb => ⟨cs, hb, rfl⟩⟩
    · rw [updO_ne _ _ e]
      exact ⟨rfl, rfl, fun c hc => ⟨c, hc⟩, fun sz n row hr => ⟨n, row, hr, Nat.le_refl _⟩, fun b base cs' e' hm _ hb => ⟨cs', hb, rfl⟩⟩
  refine R'.carry hst ⟨rfl, rfl, rfl⟩ (fun _ _ _ => rfl) (fun b cs e fr hb => ⟨cs, hb, rfl⟩) (fun k b base hk hm => R'.own k b base (hlive k hk) hm) (fun k k' b base base' hk hk' hm hm' => R'.inj k k' b base base' (hlive k hk) (hlive k' hk') hm hm') (fun k => ?_)
  by_cases e : k = l
  · right
    subst e
    rw [updO_same]
    have hr := R'.objs k
    rw [hl] at hr
    obtain ⟨b, cs, e, h1, h2, h3⟩ := hr
    refine ⟨b, cs, e, h1, h2, CsRep.mid (fun u hu => ?_) (h3.step hst)⟩
    have hu : DRep w _ (.v nilS) u := hu
    cases hu
    refine ⟨rfl, by rw [updO_ne _ _ hne, hL]; exact Nat.le_refl _, fun sz' n row' e => ?_⟩
    rw [updO_ne _ _ hne, hL] at e
    cases e
    exact ⟨Nat.le_refl _, .inl ⟨by rw [← hμ']; exact updP_same _ _ _, rfl, _, rfl⟩⟩
  · left
    exact ⟨updO_ne _ _ e, rfl, fun _ _ _ _ => rfl⟩
end Go.Rk
/- What a call on the caller's own things leaves may be said in other words: rows named anew within their number. -/
namespace Go.Rk
set_option linter.unusedSimpArgs false
set_option linter.unusedVariables false
theorem okR_refl (x : HO) : okR x x := by cases x <;> first | exact trivial | exact rfl | exact ⟨rfl, rfl, fun _ _ => rfl⟩
def usUp : List (Nat × Nat × HO) → List (Nat × Nat × HO) → Prop
  | [], [] => True
  | (l, v, o) :: r, (l', v', o') :: s => (l = l' ∧ v = v' ∧ okR o o') ∧ usUp r s
  | _, _ => False
theorem usUp_look : ∀ {us us' : List (Nat × Nat × HO)}, usUp us us' → ∀ l, eqR (lookO us l) (lookO us' l)
  | [], [], _, l => ⟨rfl, trivial⟩
  | (j, v, o) :: r, (j', v', o') :: s, h, l => by
    obtain ⟨⟨rfl, rfl, ho⟩, h2⟩ := h
    unfold lookO
    cases nbeq j l with
    | true => exact ⟨rfl, ho⟩
    | false => exact usUp_look h2 l
  | [], _ :: _, h, _ => h.elim
  | _ :: _, [], h, _ => h.elim
theorem meetsO_up {P : Program} {f : FuncId} {avs : List AV} {kn us us' : List (Nat × Nat × HO)} {x : AV} (h : MeetsO P f avs kn x us) (hu : usUp us us') : MeetsO P f avs kn x us' := by
  refine ⟨h.1, fun w vals N μ h1 h2 h3 h4 h5 => (h.2 w vals N μ h1 h2 h3 h4 h5).mono ?_⟩
  rintro e w' ⟨v, nt, sl, a, μ', rfl, R, hx⟩
  obtain ⟨st, R2⟩ := R.less (usUp_look hu)
  exact ⟨v, nt, sl, a, μ', rfl, R2, hx.step st⟩
end Go.Rk
/- An own row under another label, known by a cell of an own box. -/
namespace Go.Rk
set_option linter.unusedSimpArgs false
set_option linter.unusedVariables false
section
variable {w0 : World} {S : Sets} {nt : Nat} {sl : Nat → AV} {σ : Objs} {a : Act} {w : World} {μ : Place}
theorem relab_step {l l' v v' : Nat} {o : HO} (hne : l ≠ l') (ho : σ l = (v, o)) (hd : o ≠ .dead) (hv : (σ l').1 < v') : Step S σ (updO (updO σ l (v, .dead)) l' (v', o)) μ (updP μ l' (μ l)) w w := by
  have hll : live σ l := by unfold live; rw [ho]; exact hd
  have hlv : ∀ x, x ≠ l' → live (updO (updO σ l (v, .dead)) l' (v', o)) x → x ≠ l ∧ live σ x := fun x hx h => by
    unfold live at h ⊢
    rw [updO_ne _ _ hx] at h
    by_cases e : x = l
    · subst e; simp at h
    · rw [updO_ne _ _ e] at h; exact ⟨e, h⟩
  refine ⟨Nat.le_refl _, fun b hb => ⟨rfl, hb.1, hb.2.1, fun x base hx => ?_⟩, fun x => ?_⟩
  · by_cases e : x = l'
    · subst e; rw [updP_same]; exact hb.2.2 l base hll
    · rw [updP_ne _ _ e]; exact hb.2.2 x base (hlv x e hx).2
  · by_cases e : x = l'
    · subst e; left; simpa using hv
    · right
      rw [updO_ne _ _ e, updP_ne _ _ e]
      by_cases e2 : x = l
      · subst e2
        rw [updO_same]
        exact ⟨by rw [ho], rfl, fun c hc => (nomatch hc), fun sz n row hr => (nomatch hr), fun b base cs e' hm hex _ => by obtain ⟨_, _, _, h⟩ := hex; cases h⟩
      · rw [updO_ne _ _ e2]
        exact ⟨rfl, rfl, fun c hc => ⟨c, hc⟩, fun sz n row hr => ⟨n, row, hr, Nat.le_refl _⟩, fun b base cs' e' hm _ hb => ⟨cs', hb, rfl⟩⟩
theorem CsRep.mid2 {σ σ' : Objs} {μ μ' : Place} {w w' : World} {N N' : Nat → Prop} {x y : CV} (hs : ∀ z v, CRep σ μ w N z v → CRep σ' μ' w' N' z v) (h : ∀ v, CRep σ μ w N x v → CRep σ' μ' w' N' y v) : ∀ {xs ys : List CV} {vs : List Value}, CsRep σ μ w N (xs ++ x :: ys) vs → CsRep σ' μ' w' N' (xs ++ y :: ys) vs
  | [], _, [], hx => hx.elim
  | [], ys, _ :: vs, hx => ⟨h _ hx.1, by
      have h2 := hx.2
      clear hx
      induction ys generalizing vs with
      | nil => cases vs with
        | nil => trivial
        | cons _ _ => exact h2.elim
      | cons z r ih => cases vs with
        | nil => exact h2.elim
        | cons v s => exact ⟨hs _ _ h2.1, ih _ h2.2⟩⟩
  | _ :: _, _, [], hx => hx.elim
  | _ :: xs, _, _ :: _, hx => ⟨hs _ _ hx.1, CsRep.mid2 hs h hx.2⟩
end
theorem cov_relB {fr : Bool} {nt : Nat} {σ τ : St} (B l l' v' sz : Nat) (row : Nat → List DV) {vb v n len : Nat} (xs ys : List CV) (hb : lookO σ.objs B = (vb, .box (xs ++ .own l 0 len v :: ys))) (ho : lookO σ.objs l = (v, .arr sz n row)) (h1 : nbeq B l = false) (h2 : nbeq B l' = false) (hne : nbeq l l' = false) (hv : nblt (lookO σ.objs l').1 v' = true)
    (h : CovG fr nt ⟨σ.slots, (B, vb, .box (xs ++ .own l' 0 len v' :: ys)) :: (l', v', .arr sz n row) :: (l, v, .dead) :: σ.objs⟩ τ) : CovG fr nt σ τ := by
  refine cov_trans ?_ h
  rintro w0 S a w hfo ⟨μ, R⟩
  have hne : l ≠ l' := fun e => by subst e; simp at hne
  have hBl : B ≠ l := fun e => by subst e; simp at h1
  have hBl' : B ≠ l' := fun e => by subst e; simp at h2
  have hv : (σ.o l').1 < v' := by
    have hv : nblt (σ.o l').1 v' = true := hv
    simpa [nblt_eq] using hv
  have st1 : Step S σ.o (updO (updO σ.o l (v, .dead)) l' (v', .arr sz n row)) μ (updP μ l' (μ l)) w w := relab_step hne ho HO.noConfusion hv
  have R' := R.relab (l' := l') (v' := v') hne ho HO.noConfusion hv
  have eo : St.o ⟨σ.slots, (B, vb, .box (xs ++ .own l' 0 len v' :: ys)) :: (l', v', .arr sz n row) :: (l, v, .dead) :: σ.objs⟩ = updO (updO (updO σ.o l (v, .dead)) l' (v', .arr sz n row)) B (vb, .box (xs ++ .own l' 0 len v' :: ys)) := by
    show lookO ((B, vb, .box (xs ++ .own l' 0 len v' :: ys)) :: (l', v', .arr sz n row) :: (l, v, .dead) :: σ.objs) = _
    rw [lookO_upd, lookO_upd, lookO_upd]; rfl
  refine ⟨updP μ l' (μ l), ?_⟩
  rw [eo]
  have hbσ : σ.o B = (vb, .box (xs ++ .own l 0 len v :: ys)) := hb
  have hB1 : updO (updO σ.o l (v, .dead)) l' (v', .arr sz n row) B = (vb, .box (xs ++ .own l 0 len v :: ys)) := by rw [updO_ne _ _ hBl', updO_ne _ _ hBl]; exact hbσ
  have hl'1 : updO (updO σ.o l (v, .dead)) l' (v', .arr sz n row) l' = (v', .arr sz n row) := updO_same _ _ _
  have hrB := R.objs B
  rw [hbσ] at hrB
  have hμB : updP μ l' (μ l) B = μ B := updP_ne _ _ hBl'
  have hμl' : updP μ l' (μ l) l' = μ l := updP_same _ _ _
  generalize hσ' : updO (updO σ.o l (v, .dead)) l' (v', .arr sz n row) = σ' at R' st1 hB1 hl'1 ⊢
  generalize hμ' : updP μ l' (μ l) = μ' at R' st1 hμB hμl' ⊢
  have hlive : ∀ k, live (updO σ' B (vb, .box (xs ++ .own l' 0 len v' :: ys))) k → live σ' k := fun k hk => by
    by_cases e : k = B
    · subst e; unfold live; rw [hB1]; exact HO.noConfusion
    · unfold live at hk ⊢; rwa [updO_ne _ _ e] at hk
  have hst : Step S σ' (updO σ' B (vb, .box (xs ++ .own l' 0 len v' :: ys))) μ' μ' w w := by
    refine ⟨Nat.le_refl _, fun b hb => ⟨rfl, hb.1, hb.2.1, fun k base hk => hb.2.2 k base (hlive k hk)⟩, fun k => ?_⟩
    right
    by_cases e : k = B
    · subst e
      rw [updO_same]
      exact ⟨by rw [hB1], rfl, fun c _ => ⟨_, by rw [hB1]⟩, fun sz n row hr => (nomatch hr), fun b base cs e' hm hex hb => ⟨cs, hb, rfl⟩⟩
    · rw [updO_ne _ _ e]
      exact ⟨rfl, rfl, fun c hc => ⟨c, hc⟩, fun sz n row hr => ⟨n, row, hr, Nat.le_refl _⟩, fun b base cs' e' hm _ hb => ⟨cs', hb, rfl⟩⟩
  refine R'.carry hst ⟨rfl, rfl, rfl⟩ (fun _ _ _ => rfl) (fun b cs e fr hb => ⟨cs, hb, rfl⟩) (fun k b base hk hm => R'.own k b base (hlive k hk) hm) (fun k k' b base base' hk hk' hm hm' => R'.inj k k' b base base' (hlive k hk) (hlive k' hk') hm hm') (fun k => ?_)
  by_cases e : k = B
  · right
    subst e
    rw [updO_same]
    obtain ⟨b, cs, e, q1, q2, q3⟩ := hrB
    refine ⟨b, cs, e, by rw [hμB]; exact q1, q2, CsRep.mid2 (fun z u hz => (hz.step st1).step hst) (fun u hu => ?_) q3⟩
    obtain ⟨g1, g2, g3⟩ := hu
    obtain ⟨g4, g5⟩ := g3 sz n row ho
    refine ⟨g1, by rw [updO_ne _ _ hBl'.symm, hl'1]; exact Nat.le_refl _, fun sz' n' row' e => ?_⟩
    rw [updO_ne _ _ hBl'.symm, hl'1] at e
    cases e
    refine ⟨g4, g5.imp (fun ⟨a1, a2⟩ => ⟨by rw [hμl']; exact a1, a2⟩) ?_⟩
    rintro ⟨b, base, o, cap, cs, e, a1, a2⟩
    exact ⟨b, base, o, cap, cs, e, by rw [hμl']; exact a1, a2⟩
  · left
    exact ⟨updO_ne _ _ e, rfl, fun _ _ _ _ => rfl⟩
theorem DRep.rows {w : World} {N : Nat → Prop} {sz n : Nat} {row row' : Nat → List DV} {v : Value} (h : ∀ i, i < n → row i = row' i) (hx : DRep w N (.sl sz n row) v) : DRep w N (.sl sz n row') v := by
  cases hx with
  | nil => exact .nil _ _
  | empty => exact .empty _ _ _
  | sl _ _ _ b off cap cs e fr val hN hb hcap hcs hl hval hrow =>
    exact .sl _ _ _ b off cap cs e fr val hN hb hcap hcs (fun i hi => by rw [← h i hi]; exact hl i hi) (fun i j x hi hj => hval i j x hi (by rw [h i hi]; exact hj)) (fun i j x hi hj => hrow i j x hi (by rw [h i hi]; exact hj))
end Go.Rk
/- A data cell of an own box, seen as another. -/
namespace Go.Rk
set_option linter.unusedSimpArgs false
set_option linter.unusedVariables false
theorem cov_dvB {fr : Bool} {nt : Nat} {σ τ : St} (l : Nat) (d d' : DV) {v : Nat} (xs ys : List CV) (hb : lookO σ.objs l = (v, .box (xs ++ .d d :: ys))) (hr : ∀ (w : World) (N : Nat → Prop) (u : Value), DRep w N d u → DRep w N d' u)
    (h : CovG fr nt ⟨σ.slots, (l, v, .box (xs ++ .d d' :: ys)) :: σ.objs⟩ τ) : CovG fr nt σ τ := by
  refine cov_trans ?_ h
  rintro w0 S a w hfo ⟨μ, R⟩
  have eo : St.o ⟨σ.slots, (l, v, .box (xs ++ .d d' :: ys)) :: σ.objs⟩ = updO σ.o l (v, .box (xs ++ .d d' :: ys)) := by
    show lookO ((l, v, .box (xs ++ .d d' :: ys)) :: σ.objs) = _
    rw [lookO_upd]; rfl
  refine ⟨μ, ?_⟩
  rw [eo]
  have hl : σ.o l = (v, .box (xs ++ .d d :: ys)) := hb
  have hlive : ∀ k, live (updO σ.o l (v, .box (xs ++ .d d' :: ys))) k → live σ.o k := fun k hk => by
    by_cases e : k = l
    · subst e; unfold live; rw [hl]; exact HO.noConfusion
    · unfold live at hk ⊢; rwa [updO_ne _ _ e] at hk
  have hst : Step S σ.o (updO σ.o l (v, .box (xs ++ .d d' :: ys))) μ μ w w := by
    refine ⟨Nat.le_refl _, fun b hb => ⟨rfl, hb.1, hb.2.1, fun k base hk => hb.2.2 k base (hlive k hk)⟩, fun k => ?_⟩
    right
    by_cases e : k = l
    · subst e
      rw [updO_same]
      exact ⟨by rw [hl], rfl, fun c _ => ⟨_, by rw [hl]⟩, fun sz n row hr => (nomatch hr), fun b base cs e' hm hex hb => ⟨cs, hb, rfl⟩⟩
    · rw [updO_ne _ _ e]
      exact ⟨rfl, rfl, fun c hc => ⟨c, hc⟩, fun sz n row hr => ⟨n, row, hr, Nat.le_refl _⟩, fun b base cs' e' hm _ hb => ⟨cs', hb, rfl⟩⟩
  refine R.carry hst ⟨rfl, rfl, rfl⟩ (fun _ _ _ => rfl) (fun b cs e fr hb => ⟨cs, hb, rfl⟩) (fun k b base hk hm => R.own k b base (hlive k hk) hm) (fun k k' b base base' hk hk' hm hm' => R.inj k k' b base base' (hlive k hk) (hlive k' hk') hm hm') (fun k => ?_)
  by_cases e : k = l
  · right
    subst e
    rw [updO_same]
    have hrB := R.objs k
    rw [hl] at hrB
    obtain ⟨b, cs, e, q1, q2, q3⟩ := hrB
    exact ⟨b, cs, e, q1, q2, CsRep.mid2 (x := .d d) (fun z u hz => hz.step hst) (fun u hu => CRep.step hst (x := .d d') (hr _ _ _ hu)) q3⟩
  · left
    exact ⟨updO_ne _ _ e, rfl, fun _ _ _ _ => rfl⟩
theorem cov_nB {fr : Bool} {nt : Nat} {σ τ : St} (l sz : Nat) (row : Nat → List DV) {v : Nat} (xs ys : List CV) (hb : lookO σ.objs l = (v, .box (xs ++ .d (.v nilS) :: ys)))
    (h : CovG fr nt ⟨σ.slots, (l, v, .box (xs ++ .d (.sl sz 0 row) :: ys)) :: σ.objs⟩ τ) : CovG fr nt σ τ :=
  cov_dvB l _ _ xs ys hb (fun w N u hu => by cases hu; exact .nil _ _) h
end Go.Rk
/- What a call answers, said with less: a nil is no rows. -/
namespace Go.Rk
set_option linter.unusedSimpArgs false
set_option linter.unusedVariables false
/-- The second says less than the first. -/
def DLe (d d' : DV) : Prop := ∀ (w : World) (N : Nat → Prop) (v : Value), DRep w N d v → DRep w N d' v
theorem DLe.rfl {d : DV} : DLe d d := fun _ _ _ h => h
def LsLe : List DV → List DV → Prop
  | [], [] => True
  | x :: r, y :: s => DLe x y ∧ LsLe r s
  | _, _ => False
theorem LsLe.rfl : ∀ {l : List DV}, LsLe l l
  | [] => trivial
  | _ :: _ => ⟨DLe.rfl, LsLe.rfl⟩
theorem LsLe.len : ∀ {l m : List DV}, LsLe l m → l.length = m.length
  | [], [], _ => by rfl
  | [], _ :: _, h => h.elim
  | _ :: _, [], h => h.elim
  | _ :: r, _ :: s, h => by rw [List.length_cons, List.length_cons, LsLe.len h.2]
theorem LsLe.at : ∀ {l m : List DV} {j : Nat} {y : DV}, LsLe l m → m[j]? = some y → ∃ x, l[j]? = some x ∧ DLe x y
  | [], [], j, y, _, h => by simp at h
  | [], _ :: _, _, _, h, _ => h.elim
  | _ :: _, [], _, _, h, _ => h.elim
  | x :: r, z :: s, 0, y, h, hy => by simp at hy; subst hy; exact ⟨x, by simp, h.1⟩
  | x :: r, z :: s, j + 1, y, h, hy => by
    obtain ⟨q, h1, h2⟩ := LsLe.at (j := j) h.2 (by simpa using hy)
    exact ⟨q, by simpa using h1, h2⟩
theorem dle_sl {sz n : Nat} {row row' : Nat → List DV} (h : ∀ i, i < n → LsLe (row i) (row' i)) : DLe (.sl sz n row) (.sl sz n row') := fun w N v hv => by
  cases hv with
  | nil _ _ => exact .nil _ _
  | empty _ _ ad => exact .empty _ _ ad
  | sl _ _ _ b off cap cs e fr u hN hb hc hs hr hu hd =>
    refine .sl sz n row' b off cap cs e fr u hN hb hc hs (fun i hi => by rw [← (h i hi).len]; exact hr i hi) (fun i j y hi hj => ?_) (fun i j y hi hj => ?_)
    · obtain ⟨x, h1, _⟩ := (h i hi).at hj
      exact hu i j x hi h1
    · obtain ⟨x, h1, h2⟩ := (h i hi).at hj
      exact h2 _ _ _ (hd i j x hi h1)
def VLe : XV → XV → Prop
  | .d x, .d y => DLe x y
  | .own sz n row, .own sz' n' row' => sz = sz' ∧ n = n' ∧ ∀ i, i < n → LsLe (row i) (row' i)
  | .d x, .own _ n _ => n = 0 ∧ x = .v nilS
  | _, _ => False
def VsLe : List XV → List XV → Prop
  | [], [] => True
  | x :: r, y :: s => VLe x y ∧ VsLe r s
  | _, _ => False
def TLe : XT → XT → Prop
  | .c x, .c y => VLe x y
  | .agg xs, .agg ys => VsLe xs ys
  | _, _ => False
def TsLe : List XT → List XT → Prop
  | [], [] => True
  | x :: r, y :: s => TLe x y ∧ TsLe r s
  | _, _ => False
def ALe : XA → XA → Prop
  | .one x, .one y => TLe x y
  | .tup xs, .tup ys => TsLe xs ys
  | _, _ => False
theorem VLe.rep {w : World} {N : Nat → Prop} {x y : XV} {v : Value} {F : List Nat} (h : VLe x y) (hx : XVRep w N x v F) : XVRep w N y v F := by
  cases x with
  | d x =>
    cases y with
    | d y => exact ⟨hx.1, h _ _ _ hx.2⟩
    | own sz n row =>
      obtain ⟨e1, rfl⟩ := h
      subst e1
      obtain ⟨e, hd⟩ := hx
      refine ⟨fun i hi => absurd hi (Nat.not_lt_zero i), .inl ⟨rfl, e, none, ?_⟩⟩
      cases hd with
      | v _ _ => rfl
    | box _ => exact h.elim
  | own sz n row =>
    cases y with
    | d _ => exact h.elim
    | box _ => exact h.elim
    | own sz' n' row' =>
      obtain ⟨e1, e2, h⟩ := h
      subst e1; subst e2
      refine ⟨fun i hi => by rw [← (h i hi).len]; exact hx.1 i hi, hx.2.imp id fun ⟨b, base, cap, cs, e, h1, h2, h3, h4, h5, h6, h7⟩ => ⟨b, base, cap, cs, e, h1, h2, h3, h4, h5, h6, fun i j y hi hj => ?_⟩⟩
      obtain ⟨q, g1, g2⟩ := (h i hi).at hj
      obtain ⟨u, hu, hd⟩ := h7 i j q hi g1
      exact ⟨u, hu, g2 _ _ _ hd⟩
  | box _ => cases y <;> exact h.elim
theorem VsLe.rep {w : World} {N : Nat → Prop} : ∀ {xs ys : List XV} {vs : List Value} {F : List Nat}, VsLe xs ys → XVsRep w N xs vs F → XVsRep w N ys vs F
  | [], [], _, _, _, h => h
  | [], _ :: _, _, _, h, _ => h.elim
  | _ :: _, [], _, _, h, _ => h.elim
  | _ :: _, _ :: _, [], _, _, h => h.elim
  | x :: r, y :: s, v :: vs, F, h, ⟨F1, F2, e, h1, h2⟩ => ⟨F1, F2, e, h.1.rep h1, VsLe.rep h.2 h2⟩
theorem TLe.rep {w : World} {N : Nat → Prop} {x y : XT} {v : Value} {F : List Nat} (h : TLe x y) (hx : XTRep w N x v F) : XTRep w N y v F := by
  cases x with
  | c x => cases y with
    | c y => exact VLe.rep h hx
    | agg _ => exact h.elim
  | agg xs => cases y with
    | c _ => exact h.elim
    | agg ys =>
      obtain ⟨cs, e, hx⟩ := hx
      exact ⟨cs, e, VsLe.rep h hx⟩
theorem TsLe.rep {w : World} {N : Nat → Prop} : ∀ {xs ys : List XT} {vs : List Value} {F : List Nat}, TsLe xs ys → XTsRep w N xs vs F → XTsRep w N ys vs F
  | [], [], _, _, _, h => h
  | [], _ :: _, _, _, h, _ => h.elim
  | _ :: _, [], _, _, h, _ => h.elim
  | _ :: _, _ :: _, [], _, _, h => h.elim
  | x :: r, y :: s, v :: vs, F, h, ⟨F1, F2, e, h1, h2⟩ => ⟨F1, F2, e, h.1.rep h1, TsLe.rep h.2 h2⟩
theorem ALe.rep {w : World} {N : Nat → Prop} {x y : XA} {v : Value} {F : List Nat} (h : ALe x y) (hx : XARep w N x v F) : XARep w N y v F := by
  cases x with
  | one x => cases y with
    | one y => exact TLe.rep h hx
    | tup _ => exact h.elim
  | tup xs => cases y with
    | one _ => exact h.elim
    | tup ys =>
      obtain ⟨cs, e, hx⟩ := hx
      exact ⟨cs, e, TsLe.rep h hx⟩
/-- Arguments that say more. -/
theorem meets_args {P : Program} {f : FuncId} {args args' : List XT} {out : Out} (hm : Meets P f args' out) (h : TsLe args args') : Meets P f args out := by
  refine ⟨hm.1, fun w vals F N h1 h2 h3 h4 => ?_⟩
  exact hm.2 w vals F N (h.rep h1) h2 h3 h4
end Go.Rk
/- The types of this program, as the walk asks them. -/
namespace Go.Rk
set_option linter.unusedSimpArgs false
set_option linter.unusedVariables false
open Go.Proofs
def ti3 : TI := { desc := TypeDesc.int IntKind.i64, size := 1, bytes := 8, zero := [Value.int IntKind.i64 0], eqk := false }
def ti4 : TI := { desc := TypeDesc.bool, size := 1, bytes := 1, zero := [Value.bool false], eqk := false }
def ti5 : TI := { desc := TypeDesc.int IntKind.u8, size := 1, bytes := 1, zero := [Value.int IntKind.u8 0], eqk := false }
def ti22 : TI := { desc := TypeDesc.slice 5, size := 1, bytes := 24, zero := [Value.slice none 0 0], eqk := false }
def ti24 : TI := { desc := TypeDesc.struct #[{ name := "Sources", type := 3, offset := 0, embedded := false, tag := "", pkgPath := "", byteOffset := 0 }, { name := "Tasks", type := 3, offset := 1, embedded := false, tag := "", pkgPath := "", byteOffset := 8 }, { name := "Kind", type := 3, offset := 2, embedded := false, tag := "", pkgPath := "", byteOffset := 16 }, { name := "Size", type := 3, offset := 3, embedded := false, tag := "", pkgPath := "", byteOffset := 24 }, { name := "Step", type := 3, offset := 4, embedded := false, tag := "", pkgPath := "", byteOffset := 32 }, { name := "Late", type := 3, offset := 5, embedded := false, tag := "", pkgPath := "", byteOffset := 40 }, { name := "Tell", type := 3, offset := 6, embedded := false, tag := "", pkgPath := "", byteOffset := 48 }, { name := "Piece", type := 4, offset := 7, embedded := false, tag := "", pkgPath := "", byteOffset := 56 }, { name := "Least", type := 3, offset := 8, embedded := false, tag := "", pkgPath := "", byteOffset := 64 }, { name := "Room", type := 3, offset := 9, embedded := false, tag := "", pkgPath := "", byteOffset := 72 }], size := 10, bytes := 80, zero := [Value.int IntKind.i64 0, Value.int IntKind.i64 0, Value.int IntKind.i64 0, Value.int IntKind.i64 0, Value.int IntKind.i64 0, Value.int IntKind.i64 0, Value.int IntKind.i64 0, Value.bool false, Value.int IntKind.i64 0, Value.int IntKind.i64 0], eqk := true }
def ti25 : TI := { desc := TypeDesc.slice 62, size := 1, bytes := 24, zero := [Value.slice none 0 0], eqk := false }
def ti28 : TI := { desc := TypeDesc.slice 55, size := 1, bytes := 24, zero := [Value.slice none 0 0], eqk := false }
def ti30 : TI := { desc := TypeDesc.struct #[{ name := "Mark", type := 3, offset := 0, embedded := false, tag := "", pkgPath := "", byteOffset := 0 }, { name := "Rows", type := 28, offset := 1, embedded := false, tag := "", pkgPath := "", byteOffset := 8 }], size := 2, bytes := 32, zero := [Value.int IntKind.i64 0, Value.slice none 0 0], eqk := false }
def ti31 : TI := { desc := TypeDesc.slice 44, size := 1, bytes := 24, zero := [Value.slice none 0 0], eqk := false }
def ti32 : TI := { desc := TypeDesc.slice 71, size := 1, bytes := 24, zero := [Value.slice none 0 0], eqk := false }
def ti37 : TI := { desc := TypeDesc.slice 69, size := 1, bytes := 24, zero := [Value.slice none 0 0], eqk := false }
def ti40 : TI := { desc := TypeDesc.struct #[{ name := "Start", type := 3, offset := 0, embedded := false, tag := "", pkgPath := "", byteOffset := 0 }, { name := "End", type := 3, offset := 1, embedded := false, tag := "", pkgPath := "", byteOffset := 8 }], size := 2, bytes := 16, zero := [Value.int IntKind.i64 0, Value.int IntKind.i64 0], eqk := true }
def ti42 : TI := { desc := TypeDesc.struct #[{ name := "N", type := 3, offset := 0, embedded := false, tag := "", pkgPath := "", byteOffset := 0 }, { name := "Sum", type := 3, offset := 1, embedded := false, tag := "", pkgPath := "", byteOffset := 8 }, { name := "Least", type := 3, offset := 2, embedded := false, tag := "", pkgPath := "", byteOffset := 16 }, { name := "Most", type := 3, offset := 3, embedded := false, tag := "", pkgPath := "", byteOffset := 24 }], size := 4, bytes := 32, zero := [Value.int IntKind.i64 0, Value.int IntKind.i64 0, Value.int IntKind.i64 0, Value.int IntKind.i64 0], eqk := true }
def ti44 : TI := { desc := TypeDesc.struct #[{ name := "Key", type := 3, offset := 0, embedded := false, tag := "", pkgPath := "", byteOffset := 0 }, { name := "Win", type := 40, offset := 1, embedded := false, tag := "", pkgPath := "", byteOffset := 8 }, { name := "No", type := 3, offset := 3, embedded := false, tag := "", pkgPath := "", byteOffset := 24 }, { name := "Kind", type := 3, offset := 4, embedded := false, tag := "", pkgPath := "", byteOffset := 32 }, { name := "Agg", type := 42, offset := 5, embedded := false, tag := "", pkgPath := "", byteOffset := 40 }], size := 9, bytes := 72, zero := [Value.int IntKind.i64 0, Value.int IntKind.i64 0, Value.int IntKind.i64 0, Value.int IntKind.i64 0, Value.int IntKind.i64 0, Value.int IntKind.i64 0, Value.int IntKind.i64 0, Value.int IntKind.i64 0, Value.int IntKind.i64 0], eqk := true }
def ti55 : TI := { desc := TypeDesc.struct #[{ name := "Key", type := 3, offset := 0, embedded := false, tag := "", pkgPath := "", byteOffset := 0 }, { name := "Win", type := 40, offset := 1, embedded := false, tag := "", pkgPath := "", byteOffset := 8 }, { name := "All", type := 42, offset := 3, embedded := false, tag := "", pkgPath := "", byteOffset := 24 }, { name := "Fresh", type := 42, offset := 7, embedded := false, tag := "", pkgPath := "", byteOffset := 56 }, { name := "Told", type := 3, offset := 11, embedded := false, tag := "", pkgPath := "", byteOffset := 88 }, { name := "Timely", type := 4, offset := 12, embedded := false, tag := "", pkgPath := "", byteOffset := 96 }], size := 13, bytes := 104, zero := [Value.int IntKind.i64 0, Value.int IntKind.i64 0, Value.int IntKind.i64 0, Value.int IntKind.i64 0, Value.int IntKind.i64 0, Value.int IntKind.i64 0, Value.int IntKind.i64 0, Value.int IntKind.i64 0, Value.int IntKind.i64 0, Value.int IntKind.i64 0, Value.int IntKind.i64 0, Value.int IntKind.i64 0, Value.bool false], eqk := true }
def ti62 : TI := { desc := TypeDesc.struct #[{ name := "Kind", type := 3, offset := 0, embedded := false, tag := "", pkgPath := "", byteOffset := 0 }, { name := "T", type := 3, offset := 1, embedded := false, tag := "", pkgPath := "", byteOffset := 8 }, { name := "Key", type := 3, offset := 2, embedded := false, tag := "", pkgPath := "", byteOffset := 16 }, { name := "V", type := 3, offset := 3, embedded := false, tag := "", pkgPath := "", byteOffset := 24 }, { name := "N", type := 3, offset := 4, embedded := false, tag := "", pkgPath := "", byteOffset := 32 }], size := 5, bytes := 40, zero := [Value.int IntKind.i64 0, Value.int IntKind.i64 0, Value.int IntKind.i64 0, Value.int IntKind.i64 0, Value.int IntKind.i64 0], eqk := true }
def ti69 : TI := { desc := TypeDesc.struct #[{ name := "Key", type := 3, offset := 0, embedded := false, tag := "", pkgPath := "", byteOffset := 0 }, { name := "Win", type := 40, offset := 1, embedded := false, tag := "", pkgPath := "", byteOffset := 8 }, { name := "Agg", type := 42, offset := 3, embedded := false, tag := "", pkgPath := "", byteOffset := 24 }], size := 7, bytes := 56, zero := [Value.int IntKind.i64 0, Value.int IntKind.i64 0, Value.int IntKind.i64 0, Value.int IntKind.i64 0, Value.int IntKind.i64 0, Value.int IntKind.i64 0, Value.int IntKind.i64 0], eqk := true }
def ti71 : TI := { desc := TypeDesc.struct #[{ name := "Rec", type := 62, offset := 0, embedded := false, tag := "", pkgPath := "", byteOffset := 0 }, { name := "Win", type := 40, offset := 5, embedded := false, tag := "", pkgPath := "", byteOffset := 40 }], size := 7, bytes := 56, zero := [Value.int IntKind.i64 0, Value.int IntKind.i64 0, Value.int IntKind.i64 0, Value.int IntKind.i64 0, Value.int IntKind.i64 0, Value.int IntKind.i64 0, Value.int IntKind.i64 0], eqk := true }
def ti73 : TI := { desc := TypeDesc.slice 3, size := 1, bytes := 24, zero := [Value.slice none 0 0], eqk := false }
def ti76 : TI := { desc := TypeDesc.slice 85, size := 1, bytes := 24, zero := [Value.slice none 0 0], eqk := false }
def ti78 : TI := { desc := TypeDesc.struct #[{ name := "N", type := 3, offset := 0, embedded := false, tag := "", pkgPath := "", byteOffset := 0 }, { name := "Panes", type := 31, offset := 1, embedded := false, tag := "", pkgPath := "", byteOffset := 8 }, { name := "Lates", type := 32, offset := 2, embedded := false, tag := "", pkgPath := "", byteOffset := 32 }], size := 3, bytes := 56, zero := [Value.int IntKind.i64 0, Value.slice none 0 0, Value.slice none 0 0], eqk := false }
def ti80 : TI := { desc := TypeDesc.struct #[{ name := "Ins", type := 76, offset := 0, embedded := false, tag := "", pkgPath := "", byteOffset := 0 }, { name := "Op", type := 30, offset := 1, embedded := false, tag := "", pkgPath := "", byteOffset := 24 }, { name := "Wall", type := 3, offset := 3, embedded := false, tag := "", pkgPath := "", byteOffset := 56 }, { name := "Pend", type := 78, offset := 4, embedded := false, tag := "", pkgPath := "", byteOffset := 64 }], size := 7, bytes := 120, zero := [Value.slice none 0 0, Value.int IntKind.i64 0, Value.slice none 0 0, Value.int IntKind.i64 0, Value.int IntKind.i64 0, Value.slice none 0 0, Value.slice none 0 0], eqk := false }
def ti85 : TI := { desc := TypeDesc.struct #[{ name := "Queue", type := 25, offset := 0, embedded := false, tag := "", pkgPath := "", byteOffset := 0 }, { name := "Mark", type := 3, offset := 1, embedded := false, tag := "", pkgPath := "", byteOffset := 24 }, { name := "Held", type := 4, offset := 2, embedded := false, tag := "", pkgPath := "", byteOffset := 32 }], size := 3, bytes := 40, zero := [Value.slice none 0 0, Value.int IntKind.i64 0, Value.bool false], eqk := false }
def ti91 : TI := { desc := TypeDesc.slice 40, size := 1, bytes := 24, zero := [Value.slice none 0 0], eqk := false }
def ti112 : TI := { desc := TypeDesc.struct #[{ name := "job", type := 24, offset := 0, embedded := false, tag := "", pkgPath := "loop.example/freshet/impl", byteOffset := 0 }, { name := "state", type := 30, offset := 10, embedded := false, tag := "", pkgPath := "loop.example/freshet/impl", byteOffset := 80 }, { name := "panes", type := 31, offset := 12, embedded := false, tag := "", pkgPath := "loop.example/freshet/impl", byteOffset := 112 }, { name := "lates", type := 32, offset := 13, embedded := false, tag := "", pkgPath := "loop.example/freshet/impl", byteOffset := 136 }], size := 14, bytes := 160, zero := [Value.int IntKind.i64 0, Value.int IntKind.i64 0, Value.int IntKind.i64 0, Value.int IntKind.i64 0, Value.int IntKind.i64 0, Value.int IntKind.i64 0, Value.int IntKind.i64 0, Value.bool false, Value.int IntKind.i64 0, Value.int IntKind.i64 0, Value.int IntKind.i64 0, Value.slice none 0 0, Value.slice none 0 0, Value.slice none 0 0], eqk := false }
def ti146 : TI := { desc := TypeDesc.struct #[{ name := "b", type := 22, offset := 0, embedded := false, tag := "", pkgPath := "loop.example/freshet/spec", byteOffset := 0 }, { name := "p", type := 3, offset := 1, embedded := false, tag := "", pkgPath := "loop.example/freshet/spec", byteOffset := 24 }], size := 2, bytes := 32, zero := [Value.slice none 0 0, Value.int IntKind.i64 0], eqk := false }
def ti182 : TI := { desc := TypeDesc.int IntKind.u64, size := 1, bytes := 8, zero := [Value.int IntKind.u64 0], eqk := false }
def tab : List (Nat × TI) := [(3, ti3), (4, ti4), (5, ti5), (22, ti22), (24, ti24), (25, ti25), (28, ti28), (30, ti30), (31, ti31), (32, ti32), (37, ti37), (40, ti40), (42, ti42), (44, ti44), (55, ti55), (62, ti62), (69, ti69), (71, ti71), (73, ti73), (76, ti76), (78, ti78), (80, ti80), (85, ti85), (91, ti91), (112, ti112), (146, ti146), (182, ti182)]
theorem row3 : TRow Try.prog 3 ti3 := ⟨Try.underlying3, ⟨Try.t3, Value.int IntKind.i64 0, by kernel_rfl, rfl, rfl, rfl, rfl, rfl, rfl⟩, fun h => by cases h⟩
theorem row4 : TRow Try.prog 4 ti4 := ⟨Try.underlying4, ⟨Try.t4, Value.bool false, by kernel_rfl, rfl, rfl, rfl, rfl, rfl, rfl⟩, fun h => by cases h⟩
theorem row5 : TRow Try.prog 5 ti5 := ⟨Try.underlying5, ⟨Try.t5, Value.int IntKind.u8 0, by kernel_rfl, rfl, rfl, rfl, rfl, rfl, rfl⟩, fun h => by cases h⟩
theorem row22 : TRow Try.prog 22 ti22 := ⟨Try.underlying22, ⟨Try.t22, Value.slice none 0 0, by kernel_rfl, rfl, rfl, rfl, rfl, rfl, rfl⟩, fun h => by cases h⟩
theorem row24 : TRow Try.prog 24 ti24 := ⟨Try.underlying24, ⟨Try.t24, Value.agg #[Value.int IntKind.i64 0, Value.int IntKind.i64 0, Value.int IntKind.i64 0, Value.int IntKind.i64 0, Value.int IntKind.i64 0, Value.int IntKind.i64 0, Value.int IntKind.i64 0, Value.bool false, Value.int IntKind.i64 0, Value.int IntKind.i64 0], by kernel_rfl, rfl, rfl, rfl, rfl, rfl, rfl⟩, fun _ => ⟨Try.stoodInHeld24, Try.eqGuardType24⟩⟩
theorem row25 : TRow Try.prog 25 ti25 := ⟨Try.underlying25, ⟨Try.t25, Value.slice none 0 0, by kernel_rfl, rfl, rfl, rfl, rfl, rfl, rfl⟩, fun h => by cases h⟩
theorem row28 : TRow Try.prog 28 ti28 := ⟨Try.underlying28, ⟨Try.t28, Value.slice none 0 0, by kernel_rfl, rfl, rfl, rfl, rfl, rfl, rfl⟩, fun h => by cases h⟩
theorem row30 : TRow Try.prog 30 ti30 := ⟨Try.underlying30, ⟨Try.t30, Value.agg #[Value.int IntKind.i64 0, Value.slice none 0 0], by kernel_rfl, rfl, rfl, rfl, rfl, rfl, rfl⟩, fun h => by cases h⟩
theorem row31 : TRow Try.prog 31 ti31 := ⟨Try.underlying31, ⟨Try.t31, Value.slice none 0 0, by kernel_rfl, rfl, rfl, rfl, rfl, rfl, rfl⟩, fun h => by cases h⟩
theorem row32 : TRow Try.prog 32 ti32 := ⟨Try.underlying32, ⟨Try.t32, Value.slice none 0 0, by kernel_rfl, rfl, rfl, rfl, rfl, rfl, rfl⟩, fun h => by cases h⟩
theorem row37 : TRow Try.prog 37 ti37 := ⟨Try.underlying37, ⟨Try.t37, Value.slice none 0 0, by kernel_rfl, rfl, rfl, rfl, rfl, rfl, rfl⟩, fun h => by cases h⟩
theorem row40 : TRow Try.prog 40 ti40 := ⟨Try.underlying40, ⟨Try.t40, Value.agg #[Value.int IntKind.i64 0, Value.int IntKind.i64 0], by kernel_rfl, rfl, rfl, rfl, rfl, rfl, rfl⟩, fun _ => ⟨Try.stoodInHeld40, Try.eqGuardType40⟩⟩
theorem row42 : TRow Try.prog 42 ti42 := ⟨Try.underlying42, ⟨Try.t42, Value.agg #[Value.int IntKind.i64 0, Value.int IntKind.i64 0, Value.int IntKind.i64 0, Value.int IntKind.i64 0], by kernel_rfl, rfl, rfl, rfl, rfl, rfl, rfl⟩, fun _ => ⟨Try.stoodInHeld42, Try.eqGuardType42⟩⟩
theorem row44 : TRow Try.prog 44 ti44 := ⟨Try.underlying44, ⟨Try.t44, Value.agg #[Value.int IntKind.i64 0, Value.int IntKind.i64 0, Value.int IntKind.i64 0, Value.int IntKind.i64 0, Value.int IntKind.i64 0, Value.int IntKind.i64 0, Value.int IntKind.i64 0, Value.int IntKind.i64 0, Value.int IntKind.i64 0], by kernel_rfl, rfl, rfl, rfl, rfl, rfl, rfl⟩, fun _ => ⟨Try.stoodInHeld44, Try.eqGuardType44⟩⟩
theorem row55 : TRow Try.prog 55 ti55 := ⟨Try.underlying55, ⟨Try.t55, Value.agg #[Value.int IntKind.i64 0, Value.int IntKind.i64 0, Value.int IntKind.i64 0, Value.int IntKind.i64 0, Value.int IntKind.i64 0, Value.int IntKind.i64 0, Value.int IntKind.i64 0, Value.int IntKind.i64 0, Value.int IntKind.i64 0, Value.int IntKind.i64 0, Value.int IntKind.i64 0, Value.int IntKind.i64 0, Value.bool false], by kernel_rfl, rfl, rfl, rfl, rfl, rfl, rfl⟩, fun _ => ⟨Try.stoodInHeld55, Try.eqGuardType55⟩⟩
theorem row62 : TRow Try.prog 62 ti62 := ⟨Try.underlying62, ⟨Try.t62, Value.agg #[Value.int IntKind.i64 0, Value.int IntKind.i64 0, Value.int IntKind.i64 0, Value.int IntKind.i64 0, Value.int IntKind.i64 0], by kernel_rfl, rfl, rfl, rfl, rfl, rfl, rfl⟩, fun _ => ⟨Try.stoodInHeld62, Try.eqGuardType62⟩⟩
theorem row69 : TRow Try.prog 69 ti69 := ⟨Try.underlying69, ⟨Try.t69, Value.agg #[Value.int IntKind.i64 0, Value.int IntKind.i64 0, Value.int IntKind.i64 0, Value.int IntKind.i64 0, Value.int IntKind.i64 0, Value.int IntKind.i64 0, Value.int IntKind.i64 0], by kernel_rfl, rfl, rfl, rfl, rfl, rfl, rfl⟩, fun _ => ⟨Try.stoodInHeld69, Try.eqGuardType69⟩⟩
theorem row71 : TRow Try.prog 71 ti71 := ⟨Try.underlying71, ⟨Try.t71, Value.agg #[Value.int IntKind.i64 0, Value.int IntKind.i64 0, Value.int IntKind.i64 0, Value.int IntKind.i64 0, Value.int IntKind.i64 0, Value.int IntKind.i64 0, Value.int IntKind.i64 0], by kernel_rfl, rfl, rfl, rfl, rfl, rfl, rfl⟩, fun _ => ⟨Try.stoodInHeld71, Try.eqGuardType71⟩⟩
theorem row73 : TRow Try.prog 73 ti73 := ⟨Try.underlying73, ⟨Try.t73, Value.slice none 0 0, by kernel_rfl, rfl, rfl, rfl, rfl, rfl, rfl⟩, fun h => by cases h⟩
theorem row76 : TRow Try.prog 76 ti76 := ⟨Try.underlying76, ⟨Try.t76, Value.slice none 0 0, by kernel_rfl, rfl, rfl, rfl, rfl, rfl, rfl⟩, fun h => by cases h⟩
theorem row78 : TRow Try.prog 78 ti78 := ⟨Try.underlying78, ⟨Try.t78, Value.agg #[Value.int IntKind.i64 0, Value.slice none 0 0, Value.slice none 0 0], by kernel_rfl, rfl, rfl, rfl, rfl, rfl, rfl⟩, fun h => by cases h⟩
theorem row80 : TRow Try.prog 80 ti80 := ⟨Try.underlying80, ⟨Try.t80, Value.agg #[Value.slice none 0 0, Value.int IntKind.i64 0, Value.slice none 0 0, Value.int IntKind.i64 0, Value.int IntKind.i64 0, Value.slice none 0 0, Value.slice none 0 0], by kernel_rfl, rfl, rfl, rfl, rfl, rfl, rfl⟩, fun h => by cases h⟩
theorem row85 : TRow Try.prog 85 ti85 := ⟨Try.underlying85, ⟨Try.t85, Value.agg #[Value.slice none 0 0, Value.int IntKind.i64 0, Value.bool false], by kernel_rfl, rfl, rfl, rfl, rfl, rfl, rfl⟩, fun h => by cases h⟩
theorem row91 : TRow Try.prog 91 ti91 := ⟨Try.underlying91, ⟨Try.t91, Value.slice none 0 0, by kernel_rfl, rfl, rfl, rfl, rfl, rfl, rfl⟩, fun h => by cases h⟩
theorem row112 : TRow Try.prog 112 ti112 := ⟨Try.underlying112, ⟨Try.t112, Value.agg #[Value.int IntKind.i64 0, Value.int IntKind.i64 0, Value.int IntKind.i64 0, Value.int IntKind.i64 0, Value.int IntKind.i64 0, Value.int IntKind.i64 0, Value.int IntKind.i64 0, Value.bool false, Value.int IntKind.i64 0, Value.int IntKind.i64 0, Value.int IntKind.i64 0, Value.slice none 0 0, Value.slice none 0 0, Value.slice none 0 0], by kernel_rfl, rfl, rfl, rfl, rfl, rfl, rfl⟩, fun h => by cases h⟩
theorem row146 : TRow Try.prog 146 ti146 := ⟨Try.underlying146, ⟨Try.t146, Value.agg #[Value.slice none 0 0, Value.int IntKind.i64 0], by kernel_rfl, rfl, rfl, rfl, rfl, rfl, rfl⟩, fun h => by cases h⟩
theorem row182 : TRow Try.prog 182 ti182 := ⟨Try.underlying182, ⟨Try.t182, Value.int IntKind.u64 0, by kernel_rfl, rfl, rfl, rfl, rfl, rfl, rfl⟩, fun h => by cases h⟩
theorem rows : TRows Try.prog tab := ⟨row3, row4, row5, row22, row24, row25, row28, row30, row31, row32, row37, row40, row42, row44, row55, row62, row69, row71, row73, row76, row78, row80, row85, row91, row112, row146, row182, trivial⟩
abbrev TT : TypeId → Option TI := tabT tab
theorem ttok : TTok Try.prog TT := ttok_of rows (by decide +kernel)
end Go.Rk
/- The data of this program, by shapes. -/
namespace Go.Rk
set_option linter.unusedSimpArgs false
set_option linter.unusedVariables false
abbrev eI (n : Int) : DV := .v (.int .i64 n)
abbrev eB (n : Bool) : DV := .v (.bool n)
def xd (l : List DV) : XT := .agg (l.map .d)
/-- Rows. -/
structure Sl (α : Type) where
  n : Nat
  g : Nat → α
  hn : n ≤ maxLen
structure JobT where
  srcs : Int
  tsks : Int
  kind : Int
  size : Int
  step : Int
  late : Int
  tell : Int
  piece : Bool
  least : Int
  room : Int
structure ItmT where
  kind : Int
  t : Int
  key : Int
  v : Int
  n : Int
structure WinT where
  s : Int
  e : Int
structure AggT where
  n : Int
  sum : Int
  least : Int
  most : Int
structure RowT where
  key : Int
  win : WinT
  all : AggT
  fresh : AggT
  told : Int
  timely : Bool
structure OpStT where
  mark : Int
  rows : Sl RowT
structure PaneT where
  key : Int
  win : WinT
  no : Int
  kind : Int
  agg : AggT
structure LatT where
  itm : ItmT
  win : WinT
structure TabT where
  key : Int
  win : WinT
  agg : AggT
structure TskInT where
  queue : Sl ItmT
  mark : Int
  held : Bool
structure TxnT where
  n : Int
  panes : Sl PaneT
  lates : Sl LatT
structure TskT where
  ins : Sl TskInT
  op : OpStT
  wall : Int
  pend : TxnT
structure SnapT where
  op : OpStT
  marks : Sl Int
structure SafeT where
  n : Int
  at_ : Sl Int
  snaps : Sl SnapT
structure CkpT where
  n : Int
  opn : Bool
  src : Sl Int
  tsk : Sl Bool
  snaps : Sl SnapT
  safe : SafeT
structure SrcT where
  at_ : Int
  wall : Int
structure SinkT where
  ready : Sl TxnT
  n : Int
  panes : Sl PaneT
  lates : Sl LatT
structure FloT where
  job : JobT
  logs : Sl (Sl ItmT)
  srcs : Sl SrcT
  tasks : Sl TskT
  sinks : Sl SinkT
  ckp : CkpT
def eJob (x : JobT) : List DV := [eI x.srcs, eI x.tsks, eI x.kind, eI x.size, eI x.step, eI x.late, eI x.tell, eB x.piece, eI x.least, eI x.room]
def eItm (x : ItmT) : List DV := [eI x.kind, eI x.t, eI x.key, eI x.v, eI x.n]
def eWin (x : WinT) : List DV := [eI x.s, eI x.e]
def eAgg (x : AggT) : List DV := [eI x.n, eI x.sum, eI x.least, eI x.most]
def eRow (x : RowT) : List DV := [eI x.key, eI x.win.s, eI x.win.e, eI x.all.n, eI x.all.sum, eI x.all.least, eI x.all.most, eI x.fresh.n, eI x.fresh.sum, eI x.fresh.least, eI x.fresh.most, eI x.told, eB x.timely]
def eOpSt (x : OpStT) : List DV := [eI x.mark, (.sl 13 x.rows.n fun i => eRow (x.rows.g i))]
def ePane (x : PaneT) : List DV := [eI x.key, eI x.win.s, eI x.win.e, eI x.no, eI x.kind, eI x.agg.n, eI x.agg.sum, eI x.agg.least, eI x.agg.most]
def eLat (x : LatT) : List DV := [eI x.itm.kind, eI x.itm.t, eI x.itm.key, eI x.itm.v, eI x.itm.n, eI x.win.s, eI x.win.e]
def eTab (x : TabT) : List DV := [eI x.key, eI x.win.s, eI x.win.e, eI x.agg.n, eI x.agg.sum, eI x.agg.least, eI x.agg.most]
end Go.Rk
/- What the program's small functions say, in words of numbers; sizes. -/
namespace Go.Rk
set_option linter.unusedSimpArgs false
set_option linter.unusedVariables false
theorem cut_of {A : Ar} (hA : real = A) {a b : Int} {n : Nat} (h : 0 ≤ a ∧ a ≤ b ∧ b ≤ n) : A.cut a b n := by subst hA; exact h
/-- The first rows of a slice. -/
theorem sl0 {A : Ar} (hA : real = A) (sz i : Nat) (f : Nat → List DV) : DV.sl sz (A.dif (Int.ofNat i) 0) (A.sub (A.nat 0) f) = .sl sz i f := by
  subst hA
  have e : (fun j => f (0 + j)) = f := by funext j; rw [Nat.zero_add]
  show DV.sl sz ((Int.ofNat i - 0).toNat) (fun j => f ((0 : Int).toNat + j)) = _
  simp only [Int.sub_zero]
  exact congrArg (DV.sl sz i) e
theorem bifA (b x : Bool) : (bif b then x else false) = (b && x) := by cases b <;> rfl
theorem bifB (b x : Bool) : (bif b then true else x) = (b || x) := by cases b <;> rfl
theorem bifC (b x : Bool) : (bif b then false else x) = (!b && x) := by cases b <;> rfl
theorem bifD (b x : Bool) : (bif b then x else true) = (!b || x) := by cases b <;> rfl
def w64 (n : Int) : Int := IntKind.i64.wrap n
/-- The first place, or -1. -/
inductive FirstIx (n : Nat) (p : Nat → Prop) : Int → Prop
  | at (i : Nat) (h : i < n) (hi : p i) (hb : ∀ j, j < i → ¬ p j) : FirstIx n p i
  | none (hb : ∀ j, j < n → ¬ p j) : FirstIx n p (-1)
theorem firstIx_ex (n : Nat) (p : Nat → Prop) : ∃ x, FirstIx n p x := by
  by_cases h : ∃ i, i < n ∧ p i
  · obtain ⟨i, hi⟩ := h
    induction i using Nat.strongRecOn with
    | _ i ih =>
      by_cases hm : ∃ j, j < i ∧ p j
      · obtain ⟨j, hj1, hj2⟩ := hm
        exact ih j hj1 ⟨by omega, hj2⟩
      · exact ⟨_, .at i hi.1 hi.2 fun j hj e => hm ⟨j, hj, e⟩⟩
  · exact ⟨-1, .none fun j hj e => h ⟨j, hj, e⟩⟩
theorem firstIx_one {n : Nat} {p : Nat → Prop} {x y : Int} (h : FirstIx n p x) (h' : FirstIx n p y) : x = y := by
  cases h with
  | «at» i hi hh hb =>
    cases h' with
    | «at» j hj hh' hb' =>
      have : i = j := by
        rcases Nat.lt_trichotomy i j with h | h | h
        · exact absurd hh (hb' i h)
        · exact h
        · exact absurd hh' (hb j h)
      rw [this]
    | none hb' => exact absurd hh (hb' i hi)
  | none hb =>
    cases h' with
    | «at» j hj hh' hb' => exact absurd hh' (hb j hj)
    | none hb' => rfl
theorem firstIx_neg {n : Nat} {p : Nat → Prop} {x : Int} (h : FirstIx n p x) : (0 ≤ x ↔ ∃ i, i < n ∧ p i) ∧ (0 ≤ x → ∃ i, i < n ∧ x = (i : Int) ∧ p i ∧ ∀ j, j < i → ¬ p j) ∧ (¬ 0 ≤ x → x = -1) := by
  cases h with
  | «at» i hi hh hb => exact ⟨⟨fun _ => ⟨i, hi, hh⟩, fun _ => by omega⟩, fun _ => ⟨i, hi, rfl, hh, hb⟩, fun h => absurd (by omega) h⟩
  | none hb => exact ⟨⟨fun h => by omega, fun ⟨i, hi, hp⟩ => absurd hp (hb i hi)⟩, fun h => by omega, fun _ => rfl⟩
def WinOkP (w : WinT) : Prop := (0 ≤ w.s ∧ w.s ≤ 60) ∧ IntKind.i64.wrap (w.s + 1) ≤ w.e ∧ w.e ≤ 120
def AggOkP (a : AggT) : Prop := (a.n = 0 ∧ a.sum = 0 ∧ a.least = 0 ∧ a.most = 0) ∨
  (a.n ≠ 0 ∧ (1 ≤ a.n ∧ a.n ≤ 1000) ∧ (-9 ≤ a.least ∧ a.least ≤ 9) ∧ (a.least ≤ a.most ∧ a.most ≤ 9) ∧ (IntKind.i64.wrap (a.n * a.least) ≤ a.sum ∧ a.sum ≤ IntKind.i64.wrap (a.n * a.most)))
def ItmOkP (x : ItmT) : Prop :=
  (x.kind = 1 ∧ (0 ≤ x.t ∧ x.t ≤ 60) ∧ (0 ≤ x.key ∧ x.key ≤ 3) ∧ (-9 ≤ x.v ∧ x.v ≤ 9) ∧ x.n = 0) ∨
  (x.kind = 2 ∧ ((1 ≤ x.t ∧ x.t ≤ 60) ∨ x.t = 1000) ∧ x.key = 0 ∧ x.v = 0 ∧ x.n = 0) ∨
  (x.kind = 3 ∧ x.t = 0 ∧ x.key = 0 ∧ x.v = 0 ∧ (1 ≤ x.n ∧ x.n ≤ 900))
def JobOkP (j : JobT) : Prop := (1 ≤ j.srcs ∧ j.srcs ≤ 3) ∧ (1 ≤ j.tsks ∧ j.tsks ≤ 2) ∧ (1 ≤ j.kind ∧ j.kind ≤ 3) ∧ (1 ≤ j.size ∧ j.size ≤ 20) ∧
  ((j.kind = 2 ∧ (1 ≤ j.step ∧ j.step ≤ j.size) ∧ j.size ≤ 4 * j.step) ∨ (j.kind ≠ 2 ∧ j.step = 0)) ∧
  (0 ≤ j.late ∧ j.late ≤ 20) ∧ (1 ≤ j.tell ∧ j.tell ≤ 4) ∧ (-9 ≤ j.least ∧ j.least ≤ 9) ∧ (1 ≤ j.room ∧ j.room ≤ 4)
def TouchP (a b : WinT) : Prop := a.s < b.e ∧ b.s < a.e
def WinLt (a b : WinT) : Prop := a.s < b.s ∨ (a.s = b.s ∧ a.e < b.e)
def AheadP (ak : Int) (aw : WinT) (bk : Int) (bw : WinT) : Prop := ak < bk ∨ (ak = bk ∧ WinLt aw bw)
def RowOkP (j : JobT) (r : RowT) (mark : Int) : Prop := (0 ≤ r.key ∧ r.key ≤ 3) ∧ WinOkP r.win ∧ AggOkP r.all ∧ AggOkP r.fresh ∧ r.all.n ≠ 0 ∧ r.fresh.n ≤ r.all.n ∧ (0 ≤ r.told ∧ r.told ≤ 1500) ∧
  mark < IntKind.i64.wrap (r.win.e + j.late) ∧ (r.timely = true ↔ r.win.e ≤ mark) ∧ (0 < r.told ↔ r.win.e ≤ mark) ∧ (r.fresh.n = 0 ↔ r.win.e ≤ mark)
def PaneOkP (p : PaneT) : Prop := (0 ≤ p.key ∧ p.key ≤ 3) ∧ WinOkP p.win ∧ (0 ≤ p.no ∧ p.no ≤ 1500) ∧ AggOkP p.agg ∧
  ((p.kind = 1 ∧ p.no = 0 ∧ 0 < p.agg.n) ∨ (p.kind = 2 ∧ 0 < p.no ∧ 0 < p.agg.n) ∨ (p.kind = 3 ∧ 0 < p.no ∧ p.agg.n = 0))
def OpOkP (j : JobT) (s : OpStT) : Prop := JobOkP j ∧ (0 ≤ s.mark ∧ s.mark ≤ 1000) ∧ s.rows.n ≤ 300 ∧
  ∀ i, i < s.rows.n → RowOkP j (s.rows.g i) s.mark ∧ (0 < i → AheadP (s.rows.g (i - 1)).key (s.rows.g (i - 1)).win (s.rows.g i).key (s.rows.g i).win) ∧
    (j.kind = 3 → ∀ k, k < i → ¬ ((s.rows.g k).key = (s.rows.g i).key ∧ TouchP (s.rows.g k).win (s.rows.g i).win))
end Go.Rk
/- Sizes: what is left when the rows of something are taken off. -/
namespace Go.Rk
set_option linter.unusedSimpArgs false
set_option linter.unusedVariables false
theorem up64 {i n : Nat} (h : i < n) (hn : n ≤ maxLen) : IntKind.i64.wrap ((i : Int) + 1) = ((i + 1 : Nat) : Int) := by
  have hm : maxLen = 9223372036854775807 := by decide
  rw [hm] at hn
  rw [IntWalk.i64_in _ (by omega)]
  simp
end Go.Rk
