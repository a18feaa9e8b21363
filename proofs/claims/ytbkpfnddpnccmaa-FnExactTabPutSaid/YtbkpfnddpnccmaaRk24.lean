/- The table of types, row by row. -/
import Derived.Test.YtbkpfnddpnccmaaRk23
import Derived.Laws.StructEq
import Derived.ChangeKeysEq
namespace Go.Rk
def tabT : List (Nat × TI) → TypeId → Option TI
  | [], _ => none
  | (j, i) :: r, t => bif Nat.beq j t then some i else tabT r t
def flatOk (T : TypeId → Option TI) : Nat → List Field → List Value → Bool
  | _, [], [] => true
  | o, f :: r, z :: s => !(f.name == "_") && (Nat.beq f.offset o && ((match T f.type, z with
    | some ⟨.int _, _, _, _, _⟩, .int _ _ => true
    | some ⟨.bool, _, _, _, _⟩, .bool _ => true
    | _, _ => false) && flatOk T (o + 1) r s))
  | _, _, _ => false
def kEq : List Value → List Value → Bool
  | [], [] => true
  | .int k _ :: r, .int k' _ :: s => decide (k = k') && kEq r s
  | .bool _ :: r, .bool _ :: s => kEq r s
  | _, _ => false
def leafOk : TypeDesc → List Value → Bool
  | .int _, .int _ _ :: _ => true
  | .bool, .bool _ :: _ => true
  | _, _ => false
def nestOk (T : TypeId → Option TI) (i : TI) (zs : List Value) : Bool := match i.desc with
  | .struct gs => i.eqk && (flatOk T 0 gs.toList i.zero && (kEq i.zero (zs.take i.size) && Nat.beq i.zero.length i.size))
  | _ => false
/-- Structs of numbers, bools and of flat structs. -/
def flat2Ok (T : TypeId → Option TI) : Nat → List Field → List Value → Bool
  | _, [], [] => true
  | _, [], _ :: _ => false
  | o, f :: r, zs => !(f.name == "_") && (Nat.beq f.offset o && (match T f.type with
    | some i => bif leafOk i.desc zs then flat2Ok T (o + 1) r (zs.drop 1) else nestOk T i zs && flat2Ok T (o + i.size) r (zs.drop i.size)
    | none => false))
def eqOk (T : TypeId → Option TI) (i : TI) : Bool := match i.desc with
  | .struct fs => flat2Ok T 0 fs.toList i.zero
  | _ => false
structure TRow (P : Program) (t : TypeId) (i : TI) : Prop where
  desc : P.underlying t = some i.desc
  info : ∃ inf z, P.info? t = some inf ∧ inf.size = i.size ∧ inf.bytes = i.bytes ∧ inf.zero = some z ∧ z.cells.toList = i.zero ∧ i.zero.length = i.size ∧ (i.zero.all (·.oneCell')) = true
  held : i.eqk = true → P.stoodInHeld t = false ∧ P.eqGuardType P.depth t = false
def TRows (P : Program) : List (Nat × TI) → Prop
  | [] => True
  | p :: r => TRow P p.1 p.2 ∧ TRows P r
section
variable {P : Program} {tab : List (Nat × TI)}
theorem TRows.at : ∀ {tab : List (Nat × TI)}, TRows P tab → ∀ t i, tabT tab t = some i → TRow P t i ∧ (t, i) ∈ tab
  | [], _, _, _, h => by cases h
  | (j, i0) :: r, hr, t, i, h => by
    unfold tabT at h
    cases hb : Nat.beq j t with
    | true =>
      rw [hb] at h
      cases h
      have := Nat.eq_of_beq_eq_true hb
      subst this
      exact ⟨hr.1, by simp⟩
    | false =>
      rw [hb] at h
      obtain ⟨h1, h2⟩ := TRows.at hr.2 t i h
      exact ⟨h1, by simp [h2]⟩

theorem flat_eq {T : TypeId → Option TI} (hd : ∀ t i, T t = some i → P.underlying t = some i.desc) (w : World) (d : Nat) (us vs : Array Value) : ∀ (fs : List Field) (o : Nat) (zs : List Value) (xs ys : List CV) (r : Bool),
    flatOk T o fs zs = true → kindsB xs zs = true → eqCells real xs ys = some r → (∀ (j : Nat) x, xs[j]? = some (CV.d (.v x)) → us[o + j]? = some x) → (∀ (j : Nat) y, ys[j]? = some (CV.d (.v y)) → vs[o + j]? = some y) →
    (Op.eqFields (d + 1) us vs fs).run P w = .ok r w
  | [], o, z :: zs, xs, ys, r, hf, _, _, _, _ => by cases hf
  | [], o, [], x :: xs, ys, r, _, hl, _, _, _ => by unfold kindsB at hl; split at hl <;> simp_all
  | [], o, [], [], ys, r, _, _, he, _, _ => by
    cases ys with
    | nil => cases he; simp [Op.eqFields]
    | cons _ _ => cases he
  | f :: fs, o, [], xs, ys, r, hf, _, _, _, _ => by cases hf
  | f :: fs, o, z :: zs, [], ys, r, _, hl, _, _, _ => by cases hl
  | f :: fs, o, z :: zs, x :: xs, ys, r, hf, hl, he, hx, hy => by
    simp only [flatOk, Bool.and_eq_true, Bool.not_eq_true'] at hf
    obtain ⟨hn, ho, ht, hf⟩ := hf
    have hn' : f.name ≠ "_" := by simpa using hn
    have ho : f.offset = o := Nat.eq_of_beq_eq_true ho
    have step : ∀ (a b : Value) (q s : Bool), us[o]? = some a → vs[o]? = some b → P.plainKey f.type = true → (Op.equalIn (d + 1) f.type a b).run P w = .ok q w →
        (Op.eqFields (d + 1) us vs fs).run P w = .ok s w → (Op.eqFields (d + 1) us vs (f :: fs)).run P w = .ok (q && s) w := by
      intro a b q s ha hb hp hq hs
      rw [Op.eqFields]
      simp only [if_pos hn', Sem.run_bind, ho, run_part_plain w hp ha, run_part_plain w hp hb, hq, Result.andThen_ok]
      cases q
      · simp
      · simpa using hs
    have hpk : ∀ desc, P.underlying f.type = some desc → ((∃ k, desc = .int k) ∨ desc = .bool) → P.plainKey f.type = true := by
      intro desc hu hdd
      unfold Program.plainKey
      rw [hu]
      rcases hdd with ⟨k, rfl⟩ | rfl <;> simp
    unfold eqCells at he
    split at he
    · simp_all
    · rename_i k a xs' k' b ys' e1
      simp only [List.cons.injEq] at e1
      obtain ⟨rfl, rfl⟩ := e1
      split at he
      · rename_i hk
        subst hk
        simp only [Option.map_eq_some_iff] at he
        obtain ⟨s, he, rfl⟩ := he
        cases z with
        | int k2 _ =>
          simp only [kindsB, Bool.and_eq_true] at hl
          have ih := flat_eq hd w d us vs fs (o + 1) zs xs ys' s hf hl.2 he (fun j x hj => by have := hx (j + 1) x (by simpa using hj); rw [show o + 1 + j = o + (j + 1) by omega]; exact this)
            (fun j y hj => by have := hy (j + 1) y (by simpa using hj); rw [show o + 1 + j = o + (j + 1) by omega]; exact this)
          have ha := hx 0 _ rfl
          have hb := hy 0 _ rfl
          cases hT : T f.type with
          | none => rw [hT] at ht; cases ht
          | some i =>
            rw [hT] at ht
            have hu := hd f.type i hT
            obtain ⟨desc, s1, s2, s3, s4⟩ := i
            cases desc with
            | int k' => exact step _ _ (a == b) s ha hb (hpk _ hu (.inl ⟨_, rfl⟩)) (run_equalIn_int w d f.type k k' a b hu) ih
            | _ => cases ht
        | _ => cases hl
      · cases he
    · rename_i a xs' b ys' e1
      simp only [List.cons.injEq] at e1
      obtain ⟨rfl, rfl⟩ := e1
      simp only [Option.map_eq_some_iff] at he
      obtain ⟨s, he, rfl⟩ := he
      cases z with
      | bool _ =>
        simp only [kindsB] at hl
        have ih := flat_eq hd w d us vs fs (o + 1) zs xs ys' s hf hl he (fun j x hj => by have := hx (j + 1) x (by simpa using hj); rw [show o + 1 + j = o + (j + 1) by omega]; exact this)
          (fun j y hj => by have := hy (j + 1) y (by simpa using hj); rw [show o + 1 + j = o + (j + 1) by omega]; exact this)
        have ha := hx 0 _ rfl
        have hb := hy 0 _ rfl
        cases hT : T f.type with
        | none => rw [hT] at ht; cases ht
        | some i =>
          rw [hT] at ht
          have hu := hd f.type i hT
          obtain ⟨desc, s1, s2, s3, s4⟩ := i
          cases desc with
          | bool => exact step _ _ (a == b) s ha hb (hpk _ hu (.inr rfl)) (run_equalIn_bool' w d f.type a b hu) ih
          | _ => cases ht
      | _ => cases hl
    · cases he

theorem eqCells_split : ∀ (s : Nat) (xs ys : List CV) (r : Bool), eqCells real xs ys = some r → ∃ r1 r2, eqCells real (xs.take s) (ys.take s) = some r1 ∧ eqCells real (xs.drop s) (ys.drop s) = some r2 ∧ r = (r1 && r2)
  | 0, xs, ys, r, h => ⟨true, r, rfl, h, by simp⟩
  | s + 1, [], ys, r, h => by
    cases ys with
    | nil => exact ⟨true, r, rfl, h, by simp⟩
    | cons _ _ => cases h
  | s + 1, x :: xs, [], r, h => by unfold eqCells at h; split at h <;> simp_all
  | s + 1, x :: xs, y :: ys, r, h => by
    simp only [List.take_succ_cons, List.drop_succ_cons]
    unfold eqCells at h
    split at h
    · simp_all
    · rename_i k a xs' k' b ys' e1 e2
      simp only [List.cons.injEq] at e1 e2
      obtain ⟨rfl, rfl⟩ := e1
      obtain ⟨rfl, rfl⟩ := e2
      split at h
      · rename_i hk
        simp only [Option.map_eq_some_iff] at h
        obtain ⟨q, h, rfl⟩ := h
        obtain ⟨r1, r2, h1, h2, rfl⟩ := eqCells_split s _ _ _ h
        refine ⟨real.band (real.cmp .eql a b) r1, r2, ?_, h2, ?_⟩
        · unfold eqCells; rw [if_pos hk, h1]; rfl
        · show ((a == b) && (r1 && r2)) = (((a == b) && r1) && r2)
          rw [Bool.and_assoc]
      · cases h
    · rename_i a xs' b ys' e1 e2
      simp only [List.cons.injEq] at e1 e2
      obtain ⟨rfl, rfl⟩ := e1
      obtain ⟨rfl, rfl⟩ := e2
      simp only [Option.map_eq_some_iff] at h
      obtain ⟨q, h, rfl⟩ := h
      obtain ⟨r1, r2, h1, h2, rfl⟩ := eqCells_split s _ _ _ h
      refine ⟨real.band (real.beq a b) r1, r2, ?_, h2, ?_⟩
      · unfold eqCells; rw [h1]; rfl
      · show ((a == b) && (r1 && r2)) = (((a == b) && r1) && r2)
        rw [Bool.and_assoc]
    · cases h
theorem kinds_take : ∀ (s : Nat) (xs : List CV) (z zs : List Value), kindsB xs zs = true → kEq z (zs.take s) = true → kindsB (xs.take s) z = true
  | 0, xs, z, zs, _, h => by
    rw [List.take_zero] at h
    rw [List.take_zero]
    cases z with
    | nil => rfl
    | cons a _ => cases a <;> cases h
  | s + 1, [], z, [], _, h => by
    cases z with
    | nil => rfl
    | cons a _ => cases a <;> cases h
  | s + 1, [], z, y :: zs, h0, _ => by cases h0
  | s + 1, x :: xs, z, [], h0, _ => by unfold kindsB at h0; split at h0 <;> simp_all
  | s + 1, x :: xs, z, y :: zs, h0, h => by
    rw [List.take_succ_cons] at h ⊢
    unfold kindsB at h0
    split at h0
    · simp_all
    · rename_i e1 e2
      simp only [List.cons.injEq] at e1 e2
      obtain ⟨rfl, rfl⟩ := e1
      obtain ⟨rfl, rfl⟩ := e2
      simp only [Bool.and_eq_true, decide_eq_true_eq] at h0
      cases z with
      | nil => cases h
      | cons a z =>
        cases a with
        | int k3 _ =>
          simp only [kEq, Bool.and_eq_true, decide_eq_true_eq] at h
          unfold kindsB
          simp only [Bool.and_eq_true, decide_eq_true_eq]
          exact ⟨h0.1.trans h.1.symm, kinds_take s _ _ _ h0.2 h.2⟩
        | _ => cases h
    · rename_i e1 e2
      simp only [List.cons.injEq] at e1 e2
      obtain ⟨rfl, rfl⟩ := e1
      obtain ⟨rfl, rfl⟩ := e2
      cases z with
      | nil => cases h
      | cons a z =>
        cases a with
        | bool _ =>
          simp only [kEq] at h
          unfold kindsB
          exact kinds_take s _ _ _ h0 h
        | _ => cases h
    · cases h0
theorem kinds_drop : ∀ (s : Nat) (xs : List CV) (zs : List Value), kindsB xs zs = true → kindsB (xs.drop s) (zs.drop s) = true
  | 0, xs, zs, h => h
  | s + 1, [], [], h => h
  | s + 1, [], y :: zs, h0 => by cases h0
  | s + 1, x :: xs, [], h0 => by unfold kindsB at h0; split at h0 <;> simp_all
  | s + 1, x :: xs, y :: zs, h0 => by
    rw [List.drop_succ_cons, List.drop_succ_cons]
    unfold kindsB at h0
    split at h0
    · simp_all
    · rename_i e1 e2
      simp only [List.cons.injEq] at e1 e2
      obtain ⟨rfl, rfl⟩ := e1
      obtain ⟨rfl, rfl⟩ := e2
      simp only [Bool.and_eq_true] at h0
      exact kinds_drop s _ _ h0.2
    · rename_i e1 e2
      simp only [List.cons.injEq] at e1 e2
      obtain ⟨rfl, rfl⟩ := e1
      obtain ⟨rfl, rfl⟩ := e2
      exact kinds_drop s _ _ h0
    · cases h0
theorem take_at {xs : List CV} {us : Array Value} {o s : Nat} (hx : ∀ (j : Nat) x, xs[j]? = some (CV.d (.v x)) → us[o + j]? = some x) : ∀ (j : Nat) x, (xs.take s)[j]? = some (CV.d (.v x)) → (us.extract o (o + s))[0 + j]? = some x := by
  intro j x h
  rw [Nat.zero_add]
  rw [List.getElem?_take] at h
  split at h
  · rename_i hj
    have h1 := hx j x h
    rw [Array.getElem?_extract]
    have h2 : o + j < us.size := (Array.getElem?_eq_some_iff.1 h1).1
    rw [if_pos (by omega)]
    exact h1
  · cases h
theorem drop_at {xs : List CV} {us : Array Value} {o s : Nat} (hx : ∀ (j : Nat) x, xs[j]? = some (CV.d (.v x)) → us[o + j]? = some x) : ∀ (j : Nat) x, (xs.drop s)[j]? = some (CV.d (.v x)) → us[(o + s) + j]? = some x := by
  intro j x h
  rw [List.getElem?_drop] at h
  have := hx (s + j) x h
  rw [show o + s + j = o + (s + j) by omega]
  exact this
theorem flat2_eq {T : TypeId → Option TI} (hd : ∀ t i, T t = some i → P.underlying t = some i.desc) (hsz : ∀ t i, T t = some i → ∃ inf, P.info? t = some inf ∧ inf.size = i.size)
    (hh : ∀ t i, T t = some i → i.eqk = true → P.stoodInHeld t = false) (w : World) (d : Nat) (us vs : Array Value) : ∀ (fs : List Field) (o : Nat) (zs : List Value) (xs ys : List CV) (r : Bool),
    flat2Ok T o fs zs = true → kindsB xs zs = true → eqCells real xs ys = some r → (∀ (j : Nat) x, xs[j]? = some (CV.d (.v x)) → us[o + j]? = some x) → (∀ (j : Nat) y, ys[j]? = some (CV.d (.v y)) → vs[o + j]? = some y) →
    (Op.eqFields (d + 2) us vs fs).run P w = .ok r w
  | [], o, z :: zs, xs, ys, r, hf, _, _, _, _ => by cases hf
  | [], o, [], x :: xs, ys, r, _, hl, _, _, _ => by unfold kindsB at hl; split at hl <;> simp_all
  | [], o, [], [], ys, r, _, _, he, _, _ => by
    cases ys with
    | nil => cases he; simp [Op.eqFields]
    | cons _ _ => cases he
  | f :: fs, o, zs, xs, ys, r, hf, hl, he, hx, hy => by
    simp only [flat2Ok, Bool.and_eq_true, Bool.not_eq_true'] at hf
    obtain ⟨hn, ho, hf⟩ := hf
    have hn' : f.name ≠ "_" := by simpa using hn
    have ho : f.offset = o := Nat.eq_of_beq_eq_true ho
    cases hT : T f.type with
    | none => rw [hT] at hf; cases hf
    | some i =>
      rw [hT] at hf
      have hu := hd f.type i hT
      have step : ∀ (a b : Value) (q s : Bool), (part f.type us o).run P w = .ok a w → (part f.type vs o).run P w = .ok b w → (Op.equalIn (d + 2) f.type a b).run P w = .ok q w →
          (Op.eqFields (d + 2) us vs fs).run P w = .ok s w → (Op.eqFields (d + 2) us vs (f :: fs)).run P w = .ok (q && s) w := by
        intro a b q s ha hb hq hs
        rw [Op.eqFields]
        simp only [if_pos hn', Sem.run_bind, ho, ha, hb, hq, Result.andThen_ok]
        cases q
        · simp
        · simpa using hs
      have hpk : ∀ desc, P.underlying f.type = some desc → ((∃ k, desc = .int k) ∨ desc = .bool) → P.plainKey f.type = true := by
        intro desc hu hdd
        unfold Program.plainKey
        rw [hu]
        rcases hdd with ⟨k, rfl⟩ | rfl <;> simp
      cases hlf : leafOk i.desc zs with
      | true =>
        simp only [hlf, cond_true] at hf
        obtain ⟨r1, r2, e1, e2, rfl⟩ := eqCells_split 1 xs ys r he
        have ih := flat2_eq hd hsz hh w d us vs fs (o + 1) (zs.drop 1) (xs.drop 1) (ys.drop 1) r2 hf (kinds_drop 1 _ _ hl) e2 (drop_at hx) (drop_at hy)
        cases zs with
        | nil => unfold leafOk at hlf; split at hlf <;> simp_all
        | cons z zs =>
          cases xs with
          | nil => cases hl
          | cons x xs =>
            unfold eqCells at he
            split at he
            · simp_all
            · rename_i k a xs' k' b ys' q1
              simp only [List.cons.injEq] at q1
              obtain ⟨rfl, rfl⟩ := q1
              split at he
              · rename_i hk
                subst hk
                have hr1 : r1 = (a == b) := by
                  simp only [List.take_succ_cons, List.take_zero] at e1
                  unfold eqCells at e1
                  rw [if_pos rfl] at e1
                  have e1 := Option.some.inj e1
                  rw [← e1]
                  show ((a == b) && true) = _
                  rw [Bool.and_true]
                have ha := hx 0 _ rfl
                have hb := hy 0 _ rfl
                obtain ⟨desc, s1, s2, s3, s4⟩ := i
                cases desc with
                | int k' =>
                  rw [hr1]
                  exact step _ _ _ _ (run_part_plain w (hpk _ hu (.inl ⟨_, rfl⟩)) ha) (run_part_plain w (hpk _ hu (.inl ⟨_, rfl⟩)) hb) (run_equalIn_int w (d + 1) f.type k k' a b hu) ih
                | bool =>
                  cases z with
                  | bool _ => cases hl
                  | _ => cases hlf
                | _ => cases hlf
              · cases he
            · rename_i a xs' b ys' q1
              simp only [List.cons.injEq] at q1
              obtain ⟨rfl, rfl⟩ := q1
              have hr1 : r1 = (a == b) := by
                simp only [List.take_succ_cons, List.take_zero] at e1
                unfold eqCells at e1
                have e1 := Option.some.inj e1
                rw [← e1]
                show ((a == b) && true) = _
                rw [Bool.and_true]
              have ha := hx 0 _ rfl
              have hb := hy 0 _ rfl
              obtain ⟨desc, s1, s2, s3, s4⟩ := i
              cases desc with
              | bool =>
                rw [hr1]
                exact step _ _ _ _ (run_part_plain w (hpk _ hu (.inr rfl)) ha) (run_part_plain w (hpk _ hu (.inr rfl)) hb) (run_equalIn_bool' w (d + 1) f.type a b hu) ih
              | int k' =>
                cases z with
                | int _ _ => cases hl
                | _ => cases hlf
              | _ => cases hlf
            · cases he
      | false =>
        simp only [hlf, cond_false, Bool.and_eq_true] at hf
        obtain ⟨hne, hf⟩ := hf
        obtain ⟨r1, r2, e1, e2, rfl⟩ := eqCells_split i.size xs ys r he
        have ih := flat2_eq hd hsz hh w d us vs fs (o + i.size) (zs.drop i.size) (xs.drop i.size) (ys.drop i.size) r2 hf (kinds_drop _ _ _ hl) e2 (drop_at hx) (drop_at hy)
        obtain ⟨inf, hi, hsi⟩ := hsz f.type i hT
        unfold nestOk at hne
        split at hne
        · rename_i gs hgs
          simp only [Bool.and_eq_true] at hne
          obtain ⟨hq, hfl, hke, _⟩ := hne
          have hu2 : P.underlying f.type = some (.struct gs) := by rw [hu, hgs]
          have hff : P.fieldsOf f.type = gs := by simp [Program.fieldsOf, hu2]
          have hco : P.cellsOf f.type = i.size := by simp [Program.cellsOf, hi, hsi]
          have hpart : ∀ zz : Array Value, (part f.type zz o).run P w = .ok (.agg (zz.extract o (o + i.size))) w := by
            intro zz
            simp [part, isAgg, run_underlying hu2, run_sizeOf w hi, hco]
          refine step _ _ _ _ (hpart us) (hpart vs) ?_ ih
          rw [run_equalIn_struct w (d + 1) f.type _ _ (by rw [hff]; exact hu2) (hh f.type i hT hq), hff]
          exact flat_eq hd w d _ _ gs.toList 0 i.zero _ _ r1 hfl (kinds_take _ _ _ _ hl hke) e1 (take_at hx) (take_at hy)
        · cases hne

/-- A table whose rows stand. -/
theorem ttok_of (hr : TRows P tab) (hq : (tab.all fun p => !p.2.eqk || eqOk (tabT tab) p.2) = true) : TTok P (tabT tab) where
  desc := fun t i h => (hr.at t i h).1.desc
  info := fun t i h => by
    obtain ⟨inf, z, h1, h2, h3, h4, h5, h6, h7⟩ := (hr.at t i h).1.info
    exact ⟨inf, z, h1, h2, h3, h4, h5, h6, by simpa using h7⟩
  eq := fun t i h he xs ys r hk hc us vs _ _ hx hy w => by
    obtain ⟨hrow, hmem⟩ := hr.at t i h
    simp only [List.all_eq_true, Bool.or_eq_true, Bool.not_eq_true'] at hq
    have hok : eqOk (tabT tab) i = true := by
      rcases hq _ hmem with h | h
      · rw [he] at h; cases h
      · exact h
    unfold eqOk at hok
    split at hok
    · rename_i fs hfs
      obtain ⟨hheld, hguard⟩ := hrow.held he
      have hu : P.underlying t = some (.struct fs) := by rw [← hfs]; exact hrow.desc
      have hf : P.fieldsOf t = fs := by simp [Program.fieldsOf, hu]
      refine ⟨run_eqGuard_agg w _ _ _ _ _ _ hguard, run_eqGuard_agg w _ _ _ _ _ _ hguard, ?_⟩
      show (Op.equalIn (9999 + 1) t (.agg us) (.agg vs)).run P w = .ok r w
      rw [run_equalIn_struct w 9999 t us vs (by rw [hf]; exact hu) hheld, hf]
      exact flat2_eq (fun t i h => (hr.at t i h).1.desc) (fun t i h => by obtain ⟨inf, _, h1, h2, _⟩ := (hr.at t i h).1.info; exact ⟨inf, h1, h2⟩) (fun t i h he => ((hr.at t i h).1.held he).1) w 9997 us vs fs.toList 0 i.zero xs ys r hok hk hc (fun j x hj => by rw [Nat.zero_add]; exact hx j x hj) (fun j x hj => by rw [Nat.zero_add]; exact hy j x hj)
    · cases hok
end
end Go.Rk
