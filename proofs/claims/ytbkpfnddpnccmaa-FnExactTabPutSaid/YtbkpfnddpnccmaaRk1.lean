/- A part of the walk over this seat's functions: what each answers, at all data. -/
import Derived.Test.YtbkpfnddpnccmaaRk2
namespace Go.Rk
section
variable (A : Ar) (T : TypeId → Option TI) (EX : FuncId → List Nat × Bool) (M : FuncId → List XT → Out → Prop)

/-- What is to be shown of one operation's answer. -/
def OpOut.wp (o : OpOut) (g : Bool) (σ : Nat → Nat × HO) (K : AV → List (Nat × Nat × HO) → List Nat → Prop) : Prop :=
  match o with
  | .val x us => K x us []
  | .call f args ret => A.hold fun _ => ∃ out, (g = true → M f args out) ∧ (ret out).wp σ fun r lk => K r.1 r.2 lk

/-- The guard of an operation: whether it runs. -/
def guardv (ops : Array Oper) (sl : List (Nat × AV)) (o : Oper) : G Bool :=
  match o.guard with
  | none => .ret true
  | some (j, want) => match (ops[j]?).bind (·.dst) with
    | some d => match lookS sl d with
      | .gd t (.c (.d (.v (.bool b)))) => .ret (A.band t (bif want then b else A.bnot b))
      | .c (.d (.v (.bool b))) => .ret (bif want then b else A.bnot b)
      | _ => .fail
    | none => .fail
def wrapG (o : Oper) (g : Bool) (x : AV) : AV := match o.guard with | none => x | some _ => .gd g x
def usOk (o : Oper) (us : List (Nat × Nat × HO)) : Bool := match o.guard with | none => true | some _ => us.isEmpty
def Oper.pre (o : Oper) : List Nat := (o.after.toList.filter fun e => Region.binds .any e).map (·.on)
def dstOk (nt : Nat) (d : Option Nat) : Bool := match d with | some k => Nat.blt k nt | none => true

def awpOps (nt : Nat) (draw : Bool) (ops : Array Oper) (Q : St → Prop) : List Oper → List Rec → St → Prop
  | [], rs, σ => bif draw then A.ind rs.reverse ∧ Q σ else Q σ
  | o :: rest, rs, σ => (guardv A ops σ.slots o).wp σ.o fun g _ =>
      (semOp A T EX o g (rho σ.slots)).wp σ.o fun out lk =>
        out.wp A M g σ.o fun x us lk' => dstOk nt o.dst = true ∧ usOk o us = true ∧ nodupL us = true ∧
          awpOps nt draw ops Q rest (⟨o.dst, Oper.pre o, o.looksAt ops, lk ++ lk', us.map (·.1)⟩ :: rs) (σ.put o.dst (wrapG o g x) us)

/-! ## Code -/
inductive AE where
  | normal
  | exit (id : Nat)
  | ret

/-- Whatever is there by the one is there by the other. -/
def Cov (nt : Nat) (σ τ : St) : Prop := ∀ (w0 : World) (S : Sets) (a : Act) (w : World), Rel w0 S nt (lookS σ.slots) σ.o a w → Rel w0 S nt (lookS τ.slots) τ.o a w
/-- A loop: states of a kind, one for each 'x', of which each round leads to a lesser one. -/
def LoopA (nt : Nat) (body : (AE → St → Prop) → St → Prop) (Q : AE → St → Prop) (σ : St) : Prop :=
  ∃ (α : Type) (st : α → St) (m : α → Nat), (∃ x, Cov nt σ (st x)) ∧ ∀ x, body (fun e τ => match e with
    | .normal => ∃ y, m y < m x ∧ Cov nt τ (st y)
    | e => Q e τ) (st x)

def awp (nt : Nat) (H : List Nat) : Code → (AE → St → Prop) → St → Prop
  | .skip, Q, σ => Q .normal σ
  | .region id ops draw, Q, σ => bif memN H id then A.hold fun _ => ∃ τ, Cov nt σ τ ∧ awpOps A T EX M nt draw ops (Q .normal) ops.toList [] τ
      else awpOps A T EX M nt draw ops (Q .normal) ops.toList [] σ
  | .seq a b, Q, σ => awp nt H a (fun e τ => match e with | .normal => awp nt H b Q τ | e => Q e τ) σ
  | .cond c t f, Q, σ => (boolv A true (rho σ.slots c)).wp σ.o fun b _ => A.br b (awp nt H t Q σ) (awp nt H f Q σ)
  | .block id c, Q, σ => awp nt H c (fun e τ => match e with | .exit j => bif Nat.beq j id then Q .normal τ else Q (.exit j) τ | e => Q e τ) σ
  | .loop c, Q, σ => A.hold fun _ => LoopA nt (fun Q' τ => awp nt H c Q' τ) Q σ
  | .exit id, Q, σ => Q (.exit id) σ
  | .ret, Q, σ => Q .ret σ
  | _, _, _ => False
end
end Go.Rk
