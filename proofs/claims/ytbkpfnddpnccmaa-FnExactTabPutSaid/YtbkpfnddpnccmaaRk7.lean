/- Operations, more: addresses, arithmetic, aggregates. -/
import Derived.Test.YtbkpfnddpnccmaaRk6
namespace Go.Rk
section
variable {P : Program} {T : TypeId → Option TI} {EX : FuncId → List Nat × Bool} {M : FuncId → List XT → Out → Prop}
variable {w0 : World} {S : Sets} {nt : Nat} {slots : List (Nat × AV)} {σ : Objs} {a : Act} {w : World} {μ : Place}
variable {o : Oper} {K : AV → List (Nat × Nat × HO) → Prop} {next : Act → World → Prop} {Q : Exit → Act → World → Prop}

theorem sound_nilCheck (R : RelM w0 S nt (lookS slots) σ a w μ) (hd : ∀ d, o.dst = some d → d < nt) {x : Operand} (ho : o.op = .nilCheck x)
    (h : (semOp real T EX o true (rho slots)).run σ (OpOut.run M σ K)) : Sound P w0 S nt slots σ a w o K := by
  simp only [semOp, ho, G.run_bind] at h
  obtain ⟨c, hc, h⟩ := cellv_run h (rho_rep R x)
  cases c with
  | d x' =>
    cases x' with
    | p cells =>
      generalize he : a.eval x = pv at hc
      have hc' := hc
      cases hc with
      | p _ b off cs e fr u hN hb hu hdd => exact sound_val R hd (v := .pointer (some ⟨b, off, none⟩)) (by simp [execOp, ho, he]) (x := .c (.d (.p cells))) hc' h
    | _ => exact h.elim
  | bp l ver off =>
    simp only [G.run] at h
    split at h
    · rename_i ver' cells hσ
      obtain ⟨hv, h⟩ := h
      have hv : ver = ver' := hv
      subst hv
      obtain ⟨b, hμ, he⟩ := hc.2.2 cells hσ
      exact sound_val R hd (v := .pointer (some ⟨b, off, none⟩)) (by simp [execOp, ho, he]) (x := .c (.bp l ver off)) (he ▸ hc) h
    · exact h.elim
  | op l ver row off =>
    simp only [G.run] at h
    split at h
    · rename_i ver' sz n rows hσ
      obtain ⟨hv, h⟩ := h
      have hv : ver = ver' := hv
      subst hv
      obtain ⟨_, b, base, hμ, he⟩ := hc.2.2 sz n rows hσ
      exact sound_val R hd (v := .pointer (some ⟨b, base + row * sz + off, none⟩)) (by simp [execOp, ho, he]) (x := .c (.op l ver row off)) (he ▸ hc) h
    · exact h.elim
  | _ => exact h.elim

theorem sound_unOp (R : RelM w0 S nt (lookS slots) σ a w μ) (hd : ∀ d, o.dst = some d → d < nt) {u : UnOp} {t : TypeId} {x : Operand} (ho : o.op = .unOp u t x)
    (h : (semOp real T EX o true (rho slots)).run σ (OpOut.run M σ K)) : Sound P w0 S nt slots σ a w o K := by
  cases u with
  | neg =>
    simp only [semOp, ho, G.run_bind] at h
    obtain ⟨k, n, he, h⟩ := intv_run h (rho_rep R x)
    exact sound_val R hd (v := .int k (k.wrap (0 - n))) (by simp [execOp, ho, he, Op.unary, Op.intArith]) (x := .c (.d (.v (.int k (k.wrap (0 - n)))))) (DRep.v _ rfl) h
  | not =>
    simp only [semOp, ho, G.run_bind] at h
    obtain ⟨b, he, h⟩ := boolv_run h (fun _ => rho_rep R x)
    have he := he rfl
    exact sound_val R hd (v := .bool (!b)) (by simp [execOp, ho, he, Op.unary]) (x := .c (.d (.v (.bool (!b))))) (DRep.v _ rfl) h
  | _ => simp only [semOp, ho] at h; exact h.elim

theorem sound_convert (hT : TTok P T) (R : RelM w0 S nt (lookS slots) σ a w μ) (hd : ∀ d, o.dst = some d → d < nt) {s t : TypeId} {x : Operand} (ho : o.op = .convert s t x)
    (h : (semOp real T EX o true (rho slots)).run σ (OpOut.run M σ K)) : Sound P w0 S nt slots σ a w o K := by
  simp only [semOp, ho, G.run_bind] at h
  obtain ⟨j, hj, h⟩ := tiv_run h
  obtain ⟨i, hi, h⟩ := tiv_run h
  split at h
  · rename_i k hdst
    rw [G.run_bind] at h
    obtain ⟨q, n, he, h⟩ := intv_run h (rho_rep R x)
    have h1 : P.underlying t = some (.int k) := by rw [hT.desc t i hi, hdst]
    have h0 := hT.desc s j hj
    exact sound_val R hd (v := .int k (k.wrap n)) (by simp [execOp, ho, he, convert, underlying, h1, h0, Conv.intToInt]) (x := .c (.d (.v (.int k (k.wrap n))))) (DRep.v _ rfl) h
  · exact h.elim

theorem sound_fieldAddr (hT : TTok P T) (R : RelM w0 S nt (lookS slots) σ a w μ) (hd : ∀ d, o.dst = some d → d < nt) {t : TypeId} {p : Operand} {f : Nat} (ho : o.op = .fieldAddr t p f)
    (h : (semOp real T EX o true (rho slots)).run σ (OpOut.run M σ K)) : Sound P w0 S nt slots σ a w o K := by
  simp only [semOp, ho, G.run_bind] at h
  obtain ⟨it, fs, fx, i, hit, hdesc, hf, hi, hz, h⟩ := fieldv_run h
  have hu : P.underlying t = some (.struct fs) := by rw [hT.desc t it hit, hdesc]
  obtain ⟨c, hc, h⟩ := cellv_run h (rho_rep R p)
  have hrun : ∀ b off, a.eval p = .pointer (some ⟨b, off, none⟩) → (execOp a.eval o).run P w = .ok (.value (.pointer (some ⟨b, off + fx.offset, none⟩))) w := by
    intro b off he
    simp [execOp, ho, he, Instr.fieldAt, underlying, hu, hf, Instr.sureAddr, fieldPlace, sizeOf_run hT hi, hz, add_off]
  cases c with
  | d x' =>
    cases x' with
    | p cells =>
      generalize he : a.eval p = pv at hc
      cases hc with
      | p _ b off cs e fr u hN hb hu' hdd =>
        refine sound_val R hd (hrun b off he) (x := .c (.d (.p (dropN fx.offset cells)))) ?_ h
        refine DRep.p _ b (off + fx.offset) cs e fr (fun j => u (fx.offset + j)) hN hb (fun j x hj => ?_) fun j x hj => ?_
        · rw [dropN_get] at hj; rw [Nat.add_assoc]; exact hu' _ x hj
        · rw [dropN_get] at hj; exact hdd _ x hj
    | _ => exact h.elim
  | bp l ver off =>
    simp only [G.run] at h
    split at h
    · rename_i ver' cells hσ
      obtain ⟨hv, h⟩ := h
      have hv : ver = ver' := hv
      subst hv
      obtain ⟨h1, h2, h3⟩ := hc
      obtain ⟨b, hμ, he⟩ := h3 cells hσ
      exact sound_val R hd (hrun b off he) (x := .c (.bp l ver (off + fx.offset))) ⟨rfl, h2, fun cells' hσ' => ⟨b, hμ, rfl⟩⟩ h
    · exact h.elim
  | op l ver row off =>
    simp only [G.run] at h
    split at h
    · rename_i ver' sz n rows hσ
      obtain ⟨hv, h⟩ := h
      have hv : ver = ver' := hv
      subst hv
      obtain ⟨h1, h2, h3⟩ := hc
      obtain ⟨hrow, b, base, hμ, he⟩ := h3 sz n rows hσ
      refine sound_val R hd (hrun b _ he) (x := .c (.op l ver row (off + fx.offset))) ⟨rfl, h2, fun sz' n' rw' hσ' => ?_⟩ h
      rw [hσ] at hσ'; simp at hσ'; obtain ⟨rfl, rfl, rfl⟩ := hσ'
      exact ⟨hrow, b, base, hμ, by rw [Nat.add_assoc]⟩
    · exact h.elim
  | _ => exact h.elim

theorem sound_extract (R : RelM w0 S nt (lookS slots) σ a w μ) (hd : ∀ d, o.dst = some d → d < nt) {x : Operand} {i : Nat} (ho : o.op = .extract x i)
    (h : (semOp real T EX o true (rho slots)).run σ (OpOut.run M σ K)) : Sound P w0 S nt slots σ a w o K := by
  simp only [semOp, ho, G.run_bind] at h
  obtain ⟨y, hy, h⟩ := opv_run h (rho_rep R x)
  cases y with
  | tup xs =>
    rw [G.run_bind] at h
    obtain ⟨z, hz, h⟩ := optv_run h
    obtain ⟨cs, he, hcs⟩ := hy
    have : ∀ {xs : List TV} {vs : List Value} {i : Nat} {z : TV}, TsRep σ μ w (Nof S σ μ w) xs vs → xs[i]? = some z → ∃ v, vs[i]? = some v ∧ TRep σ μ w (Nof S σ μ w) z v := by
      intro xs
      induction xs with
      | nil => intro vs i z _ e; simp at e
      | cons x r ih =>
        intro vs i z h e
        cases vs with
        | nil => exact h.elim
        | cons v s =>
          cases i with
          | zero => simp at e; subst e; exact ⟨v, rfl, h.1⟩
          | succ i => simp at e; obtain ⟨v', h1, h2⟩ := ih h.2 e; exact ⟨v', by simpa using h1, h2⟩
    obtain ⟨v, hv, ht⟩ := this hcs hz
    refine sound_val R hd (v := v) (by simp at hv; simp [execOp, ho, he, Instr.extract, hv]) (x := z.av) ?_ h
    cases z with
    | c x => exact ht
    | agg xs => exact ht
  | _ => exact h.elim

theorem sound_field (hT : TTok P T) (R : RelM w0 S nt (lookS slots) σ a w μ) (hd : ∀ d, o.dst = some d → d < nt) {t : TypeId} {x : Operand} {f : Nat} (ho : o.op = .field t x f)
    (h : (semOp real T EX o true (rho slots)).run σ (OpOut.run M σ K)) : Sound P w0 S nt slots σ a w o K := by
  simp only [semOp, ho, G.run_bind] at h
  obtain ⟨it, fs, fx, i, hit, hdesc, hf, hi, hz, h⟩ := fieldv_run h
  have hu : P.underlying t = some (.struct fs) := by rw [hT.desc t it hit, hdesc]
  obtain ⟨y, hy, h⟩ := opv_run h (rho_rep R x)
  cases y with
  | agg xs =>
    rw [G.run_bind] at h
    obtain ⟨ys, hys, h⟩ := optv_run h
    rw [G.run_bind] at h
    obtain ⟨cs, he, hcs⟩ := hy
    obtain ⟨hl, hg⟩ := takeN_spec hys
    have hl : ys.length = i.size := hl
    have hget : ∀ (j : Nat) z, ys[j]? = some z → ∃ u, cs[fx.offset + j]? = some u ∧ CRep σ μ w (Nof S σ μ w) z u := fun j z hj => by
      have := hg j z hj
      rw [dropN_get] at this
      obtain ⟨u, hu, hc⟩ := hcs.get this
      exact ⟨u, by simpa using hu, hc⟩
    have hlen : ∀ j, j < ys.length → fx.offset + j < cs.size := fun j hj => by
      obtain ⟨u, hu, _⟩ := hget j ys[j] (List.getElem?_eq_getElem hj)
      exact (Array.getElem?_eq_some_iff.1 hu).1
    unfold mkAV at h
    cases hag : isAggT i.desc with
    | true =>
      simp only [hag, if_true] at h
      have hsz : fx.offset + i.size ≤ cs.size := by
        have := hlen (i.size - 1) (by rw [hl]; omega)
        omega
      refine sound_val R hd (v := .agg (cs.extract fx.offset (fx.offset + i.size))) ?_ (x := .agg ys) ⟨_, rfl, ?_⟩ h
      · simp [execOp, ho, he, Instr.field, underlying, hu, hf, asAgg, part, isAgg_run hT hi, hag, sizeOf_run hT hi]
      · refine CsRep.of_get (by simp [hl]; omega) fun j z hj => ?_
        obtain ⟨u, hu', hc⟩ := hget j z hj
        have hj' : j < ys.length := (List.getElem?_eq_some_iff.1 hj).1
        refine ⟨u, ?_, hc⟩
        rw [Array.getElem?_toList, Array.getElem?_extract, if_pos (by omega)]
        exact hu'
    | false =>
      simp only [hag] at h
      match ys, h with
      | [z], h =>
        obtain ⟨u, hu', hc⟩ := hget 0 z rfl
        refine sound_val R hd (v := u) ?_ (x := .c z) hc h
        have hu'' : cs[fx.offset]? = some u := by simpa using hu'
        simp [execOp, ho, he, Instr.field, underlying, hu, hf, asAgg, part, isAgg_run hT hi, hag, hu'']
  | _ => exact h.elim

theorem sound_indexAddr (hT : TTok P T) (R : RelM w0 S nt (lookS slots) σ a w μ) (hd : ∀ d, o.dst = some d → d < nt) {t : TypeId} {x ix : Operand} (ho : o.op = .indexAddr t x ix)
    (h : (semOp real T EX o true (rho slots)).run σ (OpOut.run M σ K)) : Sound P w0 S nt slots σ a w o K := by
  simp only [semOp, ho, G.run_bind] at h
  obtain ⟨it, e, i, hit, hdesc, hi, h⟩ := elemv_run h
  have hu : P.underlying t = some (.slice e) := by rw [hT.desc t it hit, hdesc]
  obtain ⟨c, hc, h⟩ := cellv_run h (rho_rep R x)
  obtain ⟨k, n, hn, h⟩ := intv_run h (rho_rep R ix)
  have hrun : ∀ b off len cap, a.eval x = .slice (some ⟨b, off, none⟩) len cap → 0 ≤ n → n < len →
      (execOp a.eval o).run P w = .ok (.value (.pointer (some ⟨b, off + n.toNat * i.size, none⟩))) w := by
    intro b off len cap he h0 h1
    simp [execOp, ho, he, hn, Instr.indexAt, underlying, hu, asIntOf, sizeOf_run hT hi, h0, h1, add_off]
  cases c with
  | d x' =>
    cases x' with
    | sl sz m row =>
      simp only at h
      cases hsz : Nat.beq sz i.size with
      | false => rw [hsz] at h; exact h.elim
      | true =>
        rw [hsz] at h
        obtain ⟨hb, h⟩ := h
        have hsz := Nat.eq_of_beq_eq_true hsz
        obtain ⟨h0, h1⟩ := hb rfl
        generalize he : a.eval x = pv at hc
        cases hc with
        | nil => omega
        | empty => omega
        | sl _ _ _ b off cap cs e' fr u hN hb' hcap hsz' hr hu' hdd =>
          refine sound_val R hd (hrun b off m cap he h0 h1) (x := .c (.d (.p (row n.toNat)))) ?_ h
          have hlt : n.toNat < m := by omega
          refine DRep.p _ b _ cs e' fr (fun j => u n.toNat j) hN hb' (fun j z hj => ?_) fun j z hj => hdd _ _ z hlt hj
          rw [← hsz]; exact hu' _ _ z hlt hj
    | _ => exact h.elim
  | own l off len ver =>
    simp only [G.run] at h
    split at h
    · rename_i ver' sz m rows hσ
      cases hsz : Nat.beq sz i.size with
      | false => rw [hsz] at h; exact h.elim
      | true =>
        rw [hsz] at h
        obtain ⟨hv, hb, h⟩ := h
        have hv : ver = ver' := hv
        subst hv
        have hsz := Nat.eq_of_beq_eq_true hsz
        obtain ⟨h0, h1⟩ := hb rfl
        obtain ⟨_, h2, h3⟩ := hc
        obtain ⟨h4, h5⟩ := h3 sz m rows hσ
        rcases h5 with ⟨_, h5, _⟩ | ⟨b, base, o', cap, cs, e', hμ, he, hcap, ho', _⟩
        · omega
        · have hlt : n.toNat < len := by omega
          have ho'' := ho' (.inl (by omega))
          refine sound_val R hd (hrun b o' len cap he h0 h1) (x := .c (.op l ver (off + n.toNat) 0)) ⟨rfl, h2, fun sz' n' rw' hσ' => ?_⟩ h
          rw [hσ] at hσ'; simp at hσ'; obtain ⟨rfl, rfl, rfl⟩ := hσ'
          exact ⟨by omega, b, base, hμ, by rw [ho'', ← hsz, Nat.add_mul, Nat.add_zero, Nat.add_assoc]⟩
    · exact h.elim
  | _ => exact h.elim

theorem sound_makeFunc (R : RelM w0 S nt (lookS slots) σ a w μ) (hd : ∀ d, o.dst = some d → d < nt) {fn : Fn} {first caps : Array Operand} (ho : o.op = .makeFunc fn first caps)
    (h : (semOp real T EX o true (rho slots)).run σ (OpOut.run M σ K)) : Sound P w0 S nt slots σ a w o K := by
  cases fn with
  | func f =>
    simp only [semOp, ho] at h
    split at h
    · rename_i hf
      rw [G.run_bind] at h
      have hcap : ∀ (l : List Operand) (Q : List (Nat × Nat) → Prop), (capvs real true (rho slots) l).run σ Q → ∃ cs, Q cs ∧ cs.length = l.length ∧
          ∀ (j : Nat) l' ver, cs[j]? = some (l', ver) → ver ≤ (σ l').1 ∧ ∀ cells, σ l' = (ver, .box cells) → ∃ b, μ l' = some (b, 0) ∧ (l.map a.eval)[j]? = some (Value.pointer (some ⟨b, 0, none⟩)) := by
        intro l
        induction l with
        | nil => intro Q h; exact ⟨[], h, rfl, fun j l' ver hj => by simp at hj⟩
        | cons x r ih =>
          intro Q h
          simp only [capvs, G.run_bind] at h
          obtain ⟨c, hc, h⟩ := cellv_run h (rho_rep R x)
          split at h
          · rename_i l1 ver1
            rw [G.run_bind] at h
            obtain ⟨cs, hq, hl, hcs⟩ := ih _ h
            refine ⟨_, hq, by simp [hl], fun j l' ver hj => ?_⟩
            cases j with
            | zero =>
              simp at hj; obtain ⟨rfl, rfl⟩ := hj
              refine ⟨hc.2.1, fun cells hσ => ?_⟩
              obtain ⟨b, hμ, he⟩ := hc.2.2 cells hσ
              exact ⟨b, hμ, by simp [he]⟩
            | succ j =>
              simp at hj
              simpa using hcs j l' ver hj
          · exact h.elim
      obtain ⟨cs, hq, hl, hcs⟩ := hcap _ _ h
      have hf' : first = #[] := by simpa using hf
      refine sound_val R hd (v := .func (.func f) #[] (caps.map a.eval)) (by simp [execOp, ho, Instr.makeFunc, hf']) ?_ hq
      cases cs with
      | nil =>
        have hc0 : caps = #[] := Array.eq_empty_of_size_eq_zero (by simpa using hl.symm)
        subst hc0
        exact DRep.fn f [] _ (fun _ => undef) (by simp) (fun j x h => by simp at h) (fun j x h => by simp at h)
      | cons c r =>
        refine ⟨caps.map a.eval, rfl, by simpa using hl.symm, fun j l' ver hj => ?_⟩
        obtain ⟨h1, h2⟩ := hcs j l' ver hj
        refine ⟨h1, fun cells hσ => ?_⟩
        obtain ⟨b, hμ, he⟩ := h2 cells hσ
        exact ⟨b, hμ, by simpa using he⟩
    · exact h.elim
  | _ => simp only [semOp, ho] at h; exact h.elim
end
end Go.Rk
