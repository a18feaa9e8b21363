/- What an operation's answer hangs on: its operands alone. -/
import Derived.Test.YtbkpfnddpnccmaaRk16
namespace Go.Rk
section
variable {A : Ar} {T : TypeId → Option TI} {EX : FuncId → List Nat × Bool} {ρ ρ' : Operand → AV} {g : Bool}

theorem partsv_congr : ∀ ps : List (Nat × Operand), (∀ p, p ∈ ps → ρ p.2 = ρ' p.2) → partsv A g ρ ps = partsv A g ρ' ps
  | [], _ => rfl
  | (i, x) :: r, h => by
    have h1 : ρ x = ρ' x := h (i, x) (by simp)
    have h2 := partsv_congr r fun p hp => h p (by simp [hp])
    simp only [partsv, h1, h2]
theorem capvs_congr : ∀ ps : List Operand, (∀ p, p ∈ ps → ρ p = ρ' p) → capvs A g ρ ps = capvs A g ρ' ps
  | [], _ => rfl
  | x :: r, h => by
    have h1 : ρ x = ρ' x := h x (by simp)
    have h2 := capvs_congr r fun p hp => h p (by simp [hp])
    simp only [capvs, h1, h2]
theorem givenArgs_congr {ex : Nat → Bool} : ∀ (i : Nat) (ps : List Operand), (∀ p, p ∈ ps → ρ p = ρ' p) → givenArgs A g ex ρ i ps = givenArgs A g ex ρ' i ps
  | _, [], _ => rfl
  | i, x :: r, h => by
    have h1 : ρ x = ρ' x := h x (by simp)
    have h2 := givenArgs_congr (ex := ex) (i + 1) r fun p hp => h p (by simp [hp])
    simp only [givenArgs, h1, h2]
theorem backArgs_congr : ∀ (ps : List Operand) (bs : List (Option XV)), (∀ p, p ∈ ps → ρ p = ρ' p) → backArgs A ρ ps bs = backArgs A ρ' ps bs
  | [], bs, _ => by cases bs <;> rfl
  | x :: r, [], _ => rfl
  | x :: r, b :: s, h => by
    have h1 : ρ x = ρ' x := h x (by simp)
    have h2 := backArgs_congr r s fun p hp => h p (by simp [hp])
    simp only [backArgs, h1, h2]
theorem callRet_congr {L : Nat} {keeps : Bool} {args : List Operand} {le : Lent} (h : ∀ p, p ∈ args → ρ p = ρ' p) : callRet A ρ L keeps args le = callRet A ρ' L keeps args le := by
  funext out
  simp only [callRet, backArgs_congr args _ h]
theorem callSem_congr {L : Nat} {f : FuncId} {args : List Operand} {caps : List DV} {bo : List (Nat × Nat)} (h : ∀ p, p ∈ args → ρ p = ρ' p) :
    callSem A EX g ρ L f args caps bo = callSem A EX g ρ' L f args caps bo := by
  simp only [callSem, givenArgs_congr 0 args h, callRet_congr h]
theorem loSem_congr : ∀ lo : Option Operand, (∀ p, lo = some p → ρ p = ρ' p) → loSem A g ρ lo = loSem A g ρ' lo
  | none, _ => rfl
  | some p, h => by simp only [loSem, h p rfl]
theorem hiSem_congr {s : CV} : ∀ hi : Option Operand, (∀ p, hi = some p → ρ p = ρ' p) → hiSem A g ρ s hi = hiSem A g ρ' s hi
  | none, _ => rfl
  | some p, h => by simp only [hiSem, h p rfl]

theorem semOp_congr (o : Oper) (h : ∀ x, x ∈ o.op.operands → ρ x = ρ' x) : semOp A T EX o g ρ = semOp A T EX o g ρ' := by
  unfold semOp
  generalize o.dst.getD 0 * 64 = L
  cases ho : o.op with
  | build t ps =>
    simp only [ho, Op.operands] at h ⊢
    have := partsv_congr (A := A) (g := g) ps.toList fun p hp => h p.2 (by simp; exact ⟨p.1, by simpa using hp⟩)
    rw [this]
  | buildSlice t n ps =>
    simp only [ho, Op.operands] at h ⊢
    have := partsv_congr (A := A) (g := g) ps.toList fun p hp => h p.2 (by simp; exact ⟨p.1, by simpa using hp⟩)
    rw [this]
  | makeFunc f first caps =>
    simp only [ho, Op.operands] at h ⊢
    cases f <;> try rfl
    have := capvs_congr (A := A) (g := g) caps.toList fun p hp => h p (by simp; exact .inr (by simpa using hp))
    simp only [this]
  | slice t x lo hi mx =>
    simp only [ho, Op.operands] at h ⊢
    have hx := h x (by simp)
    have hl := loSem_congr (A := A) (g := g) lo fun p hp => h p (by simp [hp])
    have hh := fun s => hiSem_congr (A := A) (g := g) (s := s) hi fun p hp => h p (by simp [hp])
    simp only [hx, hl, hh]
  | call c =>
    obtain ⟨callee, args, ts⟩ := c
    simp only [ho, Op.operands, Call.operands] at h ⊢
    cases callee with
    | value f =>
      have hf := h f (by simp)
      have ha := fun (caps : List DV) (bo : List (Nat × Nat)) (f : FuncId) => callSem_congr (A := A) (EX := EX) (g := g) (L := L) (f := f) (args := args.toList) (caps := caps) (bo := bo) fun p hp => h p (by simp; exact .inr (by simpa using hp))
      simp only [hf, ha]
    | builtin b =>
      obtain ⟨l⟩ := args
      have ha : ∀ x, x ∈ l → ρ x = ρ' x := fun p hp => h p (by simpa using hp)
      clear h ho
      cases b with
      | len => rcases l with _ | ⟨x, _ | ⟨y, l⟩⟩ <;> first | rfl | skip
               have hx := ha x (by simp)
               split
               all_goals rename_i e
               all_goals first | (cases e; generalize ts[0]? = q; cases q <;> first | rfl | (simp only [hx]; done)) | (exfalso; simp_all; done) | simp_all
      | append => rcases l with _ | ⟨x, _ | ⟨y, _ | ⟨z, l⟩⟩⟩ <;> first | rfl | skip
                  have hx := ha x (by simp)
                  have hy := ha y (by simp)
                  split
                  all_goals rename_i e
                  all_goals first | (cases e; generalize ts[0]? = q; generalize ts[1]? = q'; cases q <;> cases q' <;> first | rfl | (simp only [hx, hy]; done)) | (exfalso; simp_all; done) | simp_all
      | min => rcases l with _ | ⟨x, _ | ⟨y, _ | ⟨z, l⟩⟩⟩ <;> first | rfl | skip
               have hx := ha x (by simp)
               have hy := ha y (by simp)
               simp only [hx, hy]
      | max => rcases l with _ | ⟨x, _ | ⟨y, _ | ⟨z, l⟩⟩⟩ <;> first | rfl | skip
               have hx := ha x (by simp)
               have hy := ha y (by simp)
               simp only [hx, hy]
      | _ => rfl
    | invoke r m => rfl
  | pick c x y =>
    simp only [ho, Op.operands] at h ⊢
    have h1 := h c (by simp)
    have h2 := h x (by simp)
    have h3 := h y (by simp)
    simp only [h1, h2, h3]
  | unOp u t x =>
    simp only [ho, Op.operands] at h ⊢
    have h1 := h x (by simp)
    cases u <;> simp only [h1]
  | move x | assign x | box t x | load t x | nilCheck x | convert s t x | fieldAddr t x f | field t x f | extract x i =>
    simp only [ho, Op.operands] at h ⊢
    have h1 := h x (by simp)
    simp only [h1]
  | store t x y | binOp b t x y u | makeSlice t x y | indexAddr t x y =>
    simp only [ho, Op.operands] at h ⊢
    have h1 := h x (by simp)
    have h2 := h y (by simp)
    simp only [h1, h2]
  | _ => rfl
end
end Go.Rk
