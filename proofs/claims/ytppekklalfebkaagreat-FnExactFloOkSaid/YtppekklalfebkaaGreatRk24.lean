/- The table of types, row by row. -/
import Derived.Test.YtppekklalfebkaaGreatRk23
import Derived.Laws.StructEq
import Derived.ChangeKeysEq
namespace Go.Rk
def tabT : List (Nat × TI) → TypeId → Option TI
  | [], _ => none
  | (j, i) :: r, t => bif Nat.beq j t then some i else tabT r t
def flatOk (T : TypeId → Option TI) : Nat → List Field → List Value → Bool
  | _, [], [] => true
  | o, f :: r, z :: s => !(f.name == "_") && (Nat.beq f.offset o && ((match T f.type, z with
    | some ⟨.int _, _, _, _, _⟩, .int _ _ => true
    | some ⟨.bool, _, _, _, _⟩, .bool _ => true
    | _, _ => false) && flatOk T (o + 1) r s))
  | _, _, _ => false
def eqOk (T : TypeId → Option TI) (i : TI) : Bool := match i.desc with
  | .struct fs => flatOk T 0 fs.toList i.zero
  | _ => false
structure TRow (P : Program) (t : TypeId) (i : TI) : Prop where
  desc : P.underlying t = some i.desc
  info : ∃ inf z, P.info? t = some inf ∧ inf.size = i.size ∧ inf.bytes = i.bytes ∧ inf.zero = some z ∧ z.cells.toList = i.zero ∧ i.zero.length = i.size ∧ (i.zero.all (·.oneCell')) = true
  held : i.eqk = true → P.stoodInHeld t = false ∧ P.eqGuardType P.depth t = false
def TRows (P : Program) : List (Nat × TI) → Prop
  | [] => True
  | p :: r => TRow P p.1 p.2 ∧ TRows P r
section
variable {P : Program} {tab : List (Nat × TI)}
theorem TRows.at : ∀ {tab : List (Nat × TI)}, TRows P tab → ∀ t i, tabT tab t = some i → TRow P t i ∧ (t, i) ∈ tab
  | [], _, _, _, h => by cases h
  | (j, i0) :: r, hr, t, i, h => by
    unfold tabT at h
    cases hb : Nat.beq j t with
    | true =>
      rw [hb] at h
      cases h
      have := Nat.eq_of_beq_eq_true hb
      subst this
      exact ⟨hr.1, by simp⟩
    | false =>
      rw [hb] at h
      obtain ⟨h1, h2⟩ := TRows.at hr.2 t i h
      exact ⟨h1, by simp [h2]⟩

theorem flat_eq {T : TypeId → Option TI} (hd : ∀ t i, T t = some i → P.underlying t = some i.desc) (w : World) (d : Nat) (us vs : Array Value) : ∀ (fs : List Field) (o : Nat) (zs : List Value) (xs ys : List CV) (r : Bool),
    flatOk T o fs zs = true → kindsB xs zs = true → eqCells real xs ys = some r → (∀ (j : Nat) x, xs[j]? = some (CV.d (.v x)) → us[o + j]? = some x) → (∀ (j : Nat) y, ys[j]? = some (CV.d (.v y)) → vs[o + j]? = some y) →
    (Op.eqFields (d + 1) us vs fs).run P w = .ok r w
  | [], o, z :: zs, xs, ys, r, hf, _, _, _, _ => by cases hf
  | [], o, [], x :: xs, ys, r, _, hl, _, _, _ => by unfold kindsB at hl; split at hl <;> simp_all
  | [], o, [], [], ys, r, _, _, he, _, _ => by
    cases ys with
    | nil => cases he; simp [Op.eqFields]
    | cons _ _ => cases he
  | f :: fs, o, [], xs, ys, r, hf, _, _, _, _ => by cases hf
  | f :: fs, o, z :: zs, [], ys, r, _, hl, _, _, _ => by cases hl
  | f :: fs, o, z :: zs, x :: xs, ys, r, hf, hl, he, hx, hy => by
    simp only [flatOk, Bool.and_eq_true, Bool.not_eq_true'] at hf
    obtain ⟨hn, ho, ht, hf⟩ := hf
    have hn' : f.name ≠ "_" := by simpa using hn
    have ho : f.offset = o := Nat.eq_of_beq_eq_true ho
    have step : ∀ (a b : Value) (q s : Bool), us[o]? = some a → vs[o]? = some b → P.plainKey f.type = true → (Op.equalIn (d + 1) f.type a b).run P w = .ok q w →
        (Op.eqFields (d + 1) us vs fs).run P w = .ok s w → (Op.eqFields (d + 1) us vs (f :: fs)).run P w = .ok (q && s) w := by
      intro a b q s ha hb hp hq hs
      rw [Op.eqFields]
      simp only [if_pos hn', Sem.run_bind, ho, run_part_plain w hp ha, run_part_plain w hp hb, hq, Result.andThen_ok]
      cases q
      · simp
      · simpa using hs
    have hpk : ∀ desc, P.underlying f.type = some desc → ((∃ k, desc = .int k) ∨ desc = .bool) → P.plainKey f.type = true := by
      intro desc hu hdd
      unfold Program.plainKey
      rw [hu]
      rcases hdd with ⟨k, rfl⟩ | rfl <;> simp
    unfold eqCells at he
    split at he
    · simp_all
    · rename_i k a xs' k' b ys' e1
      simp only [List.cons.injEq] at e1
      obtain ⟨rfl, rfl⟩ := e1
      split at he
      · rename_i hk
        subst hk
        simp only [Option.map_eq_some_iff] at he
        obtain ⟨s, he, rfl⟩ := he
        cases z with
        | int k2 _ =>
          simp only [kindsB, Bool.and_eq_true] at hl
          have ih := flat_eq hd w d us vs fs (o + 1) zs xs ys' s hf hl.2 he (fun j x hj => by have := hx (j + 1) x (by simpa using hj); rw [show o + 1 + j = o + (j + 1) by omega]; exact this)
            (fun j y hj => by have := hy (j + 1) y (by simpa using hj); rw [show o + 1 + j = o + (j + 1) by omega]; exact this)
          have ha := hx 0 _ rfl
          have hb := hy 0 _ rfl
          cases hT : T f.type with
          | none => rw [hT] at ht; cases ht
          | some i =>
            rw [hT] at ht
            have hu := hd f.type i hT
            obtain ⟨desc, s1, s2, s3, s4⟩ := i
            cases desc with
            | int k' => exact step _ _ (a == b) s ha hb (hpk _ hu (.inl ⟨_, rfl⟩)) (run_equalIn_int w d f.type k k' a b hu) ih
            | _ => cases ht
        | _ => cases hl
      · cases he
    · rename_i a xs' b ys' e1
      simp only [List.cons.injEq] at e1
      obtain ⟨rfl, rfl⟩ := e1
      simp only [Option.map_eq_some_iff] at he
      obtain ⟨s, he, rfl⟩ := he
      cases z with
      | bool _ =>
        simp only [kindsB] at hl
        have ih := flat_eq hd w d us vs fs (o + 1) zs xs ys' s hf hl he (fun j x hj => by have := hx (j + 1) x (by simpa using hj); rw [show o + 1 + j = o + (j + 1) by omega]; exact this)
          (fun j y hj => by have := hy (j + 1) y (by simpa using hj); rw [show o + 1 + j = o + (j + 1) by omega]; exact this)
        have ha := hx 0 _ rfl
        have hb := hy 0 _ rfl
        cases hT : T f.type with
        | none => rw [hT] at ht; cases ht
        | some i =>
          rw [hT] at ht
          have hu := hd f.type i hT
          obtain ⟨desc, s1, s2, s3, s4⟩ := i
          cases desc with
          | bool => exact step _ _ (a == b) s ha hb (hpk _ hu (.inr rfl)) (run_equalIn_bool' w d f.type a b hu) ih
          | _ => cases ht
      | _ => cases hl
    · cases he

/-- A table whose rows stand. -/
theorem ttok_of (hr : TRows P tab) (hq : (tab.all fun p => !p.2.eqk || eqOk (tabT tab) p.2) = true) : TTok P (tabT tab) where
  desc := fun t i h => (hr.at t i h).1.desc
  info := fun t i h => by
    obtain ⟨inf, z, h1, h2, h3, h4, h5, h6, h7⟩ := (hr.at t i h).1.info
    exact ⟨inf, z, h1, h2, h3, h4, h5, h6, by simpa using h7⟩
  eq := fun t i h he xs ys r hk hc us vs _ _ hx hy w => by
    obtain ⟨hrow, hmem⟩ := hr.at t i h
    simp only [List.all_eq_true, Bool.or_eq_true, Bool.not_eq_true'] at hq
    have hok : eqOk (tabT tab) i = true := by
      rcases hq _ hmem with h | h
      · rw [he] at h; cases h
      · exact h
    unfold eqOk at hok
    split at hok
    · rename_i fs hfs
      obtain ⟨hheld, hguard⟩ := hrow.held he
      have hu : P.underlying t = some (.struct fs) := by rw [← hfs]; exact hrow.desc
      have hf : P.fieldsOf t = fs := by simp [Program.fieldsOf, hu]
      refine ⟨run_eqGuard_agg w _ _ _ _ _ _ hguard, run_eqGuard_agg w _ _ _ _ _ _ hguard, ?_⟩
      show (Op.equalIn (9999 + 1) t (.agg us) (.agg vs)).run P w = .ok r w
      rw [run_equalIn_struct w 9999 t us vs (by rw [hf]; exact hu) hheld, hf]
      exact flat_eq (fun t i h => (hr.at t i h).1.desc) w 9998 us vs fs.toList 0 i.zero xs ys r hok hk hc (fun j x hj => by rw [Nat.zero_add]; exact hx j x hj) (fun j x hj => by rw [Nat.zero_add]; exact hy j x hj)
    · cases hok
end
end Go.Rk
