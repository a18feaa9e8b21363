/- The law answers true at every input, and its input reads as before: no condition. -/
import Derived.Test.YtaddofloloopjaaGreatM16
import Derived.Test.YtaddofloloopjaaGreatRows
import Derived.WalkKit
import Derived.ProofKit
import Derived.OpenShut
import Derived.ShutString
import Derived.ChangeOld
import Derived.SizedLaws
import Derived.DataShut
namespace Go.Rk
set_option linter.unusedSimpArgs false
set_option linter.unusedVariables false
open Go.Proofs Go.ChangeShapes Go.WideShapes Go.ChangeAt Go.RowKit
set_option maxRecDepth 100000
set_option maxHeartbeats 4000000
theorem m_law (M0:Nat) (b:Nat->Int) (hb:∀ i,0<=b i/\b i<=255):d7 Tryz.prog 4 [.c (.d (.sl 1 M0 λi=>[eU (b i)]))] ⟨.one (.c (.d (eB true))),[none]⟩:=if_CkpDrop x_drawDrop M0 b hb
theorem sh_u8 {m:Nat} {l:List DV} (h:Shows TT (m+1) 5 l):∃ x:Int,(0<=x/\x<=255)/\l=[eU x]:=by
  obtain ⟨x,h,hw⟩:=h
  have h2:IntKind.u8.min<=x/\x<=IntKind.u8.max:=(Go.Lit.wf_int_iff _ _).1 hw
  have e1:IntKind.u8.min=0:=by decide
  have e2:IntKind.u8.max=255:=by decide
  rw [e1,e2] at h2
  exact ⟨x,h2,h⟩
theorem sh_bytes {m:Nat} {l:List DV} (h:Shows TT (m+2) 22 l):∃ (n:Nat) (b:Nat->Int),(∀ i,0<=b i/\b i<=255)/\l=[.sl 1 n λi=>[eU (b i)]]:=by
  obtain ⟨sz,n,row,rfl,hsz,hn,hr⟩:=h
  cases hsz
  have hrow:∀ i,∃ x:Int,(0<=x/\x<=255)/\row i=[eU x]:=λi=>sh_u8 (hr i)
  obtain ⟨rd,hrd⟩:∃ rd:Nat->Int,∀ i,(0<=rd i/\rd i<=255)/\row i=[eU (rd i)]:=⟨λi=>Classical.choose (hrow i),λi=>Classical.choose_spec (hrow i)⟩
  have e:row=λi=>[eU (rd i)]:=funext λi=>(hrd i).2
  subst e
  exact ⟨n,rd,λi=>(hrd i).1,rfl⟩
theorem lawRow (ls:List (List DV)) (h:ShowsL TT 2 [22] ls):d7 Tryz.prog 4 (xtsIn TT [22] ls) ⟨.one (.c (.d (.v (.bool true)))),[none]⟩:=by
  rcases ls with _|⟨l0,_|⟨l1,ls⟩⟩
  · exact h.elim
  · obtain ⟨n0,b0,hb0,rfl⟩:=sh_bytes h.1
    exact m_law n0 b0 hb0
  · exact h.2.elim
theorem own:ownKnob Tryz.prog.godebug=none:=by kernel_rfl
theorem laidOut:laidOutB Tryz.prog=true:=by kernel_rfl
set_option maxRecDepth 100000 in
theorem lifted (os:Os) (started:os.Started) (H:Type) (enc:TypeId × Value->H) :
    ReturnsInHanded {} Tryz.checked os 4 .any (YtaddofloloopjaaGreat.Rows.fnCkpDropSpec.pre6 enc Tryz.prog Tryz.f4 YtaddofloloopjaaGreat.Rows.fnCkpDropRow.domain false)
      (YtaddofloloopjaaGreat.Rows.fnCkpDropSpec.post enc Tryz.prog Tryz.f4 false true false false):=by
  refine returnsInHanded_of_change_sized (C:=Tryz.checked) own started (by kernel_rfl) Tryz.func4
    (ChangeSpec.witness6 (enc:=enc) (C:=Tryz.checked) false ⟨#[],#[.slice none 0 0],[]⟩ 8 (by kernel_rfl) (by kernel_rfl) (by kernel_rfl) (by kernel_rfl)) ?_
  intro W base args ds gs before hval0 hW hcnd hsz0 _
  refine law_contract (P:=Tryz.prog) (T:=TT) l6 (n:=2) (tb:=4) laidOut (by decide +kernel) (by kernel_rfl) rfl Tryz.underlying4 rfl ?_ ?_ W base args ds gs before hval0 hW
  · intro H ds hl
    match ds,hl with
    | [d0],_=>exact ⟨rfl,rfl,rfl⟩
  · rw [Tryz.params4]
    intro ls hls
    exact lawRow ls hls
theorem over:YtaddofloloopjaaGreat.Rows.fnCkpDropRow.holds YtaddofloloopjaaGreat.Tryz.pinned (OpenSpec.ofChange YtaddofloloopjaaGreat.Rows.fnCkpDropSpec):=
  OpenClaim.holds_of_wide 4 Tryz.f4 rfl rfl rfl rfl rfl rfl rfl ⟨rfl,rfl,rfl,rfl,rfl⟩ rfl rfl rfl rfl rfl (by kernel_rfl) Tryz.func4 (by kernel_rfl)
    (of_decide_eq_true (by kernel_rfl)) (by unfold Func.isWrapper;first | (rw [if_pos (by decide +kernel)];kernel_rfl) | (rw [if_neg (by decide +kernel)];exact ⟨rfl,rfl⟩))
    (λos started H enc _=>lifted os started H enc)
end Go.Rk
namespace Go.Proofs.YtaddofloloopjaaGreat
theorem fnCkpDrop_holds:Rows.FnCkpDropSaid:=Go.Rk.over
#print axioms fnCkpDrop_holds
end Go.Proofs.YtaddofloloopjaaGreat
