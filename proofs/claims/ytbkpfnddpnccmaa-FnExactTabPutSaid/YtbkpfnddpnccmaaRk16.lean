/- Every operation, and a row of them in the order of the text. -/
import Derived.Test.YtbkpfnddpnccmaaRk15
namespace Go.Rk
section
variable {P : Program} {T : TypeId → Option TI} {EX : FuncId → List Nat × Bool}
variable {w0 : World} {S : Sets} {nt : Nat} {slots : List (Nat × AV)} {σ : Objs} {a : Act} {w : World} {μ : Place}
variable {o : Oper} {K : AV → List (Nat × Nat × HO) → Prop}

theorem callFunc_run {f : FuncId} (h : callable P f = true) (args : Array Value) (w : World) : (callFunc f args).run P w = .ok (.enter f args) w := by
  unfold callable at h
  cases hf : P.funcs[f]? with
  | none => simp [hf] at h
  | some fn =>
    simp only [hf, Bool.and_eq_true, Bool.not_eq_true'] at h
    obtain ⟨h1, h2⟩ := h
    have h1' : ¬ fn.name = "runtime.NumGoroutine" := by simpa using h1
    have h3 : ¬ fn.body = none := fun e => by simp [e] at h2
    simp [callFunc, hf, h1', h3]

theorem sound_callV (R : RelM w0 S nt (lookS slots) σ a w μ) (hd : ∀ d, o.dst = some d → d < nt) {g : Operand} {args : Array Operand} {ts : Array TypeId} (ho : o.op = .call ⟨.value g, args, ts⟩)
    (hK : ∀ x us, K x us → nodupL us = true)
    (h : (semOp real T EX o true (rho slots)).run σ (OpOut.run (Meets P) σ K)) : Sound P w0 S nt slots σ a w o K := by
  simp only [semOp, ho, G.run_bind] at h
  obtain ⟨c, hc, h1⟩ := cellv_run h (rho_rep R g)
  clear h
  have hexec : ∀ (f : FuncId) (cs : Array Value), a.eval g = .func (.func f) #[] cs → callable P f = true → (execOp a.eval o).run P w = .ok (.enter f (args.map a.eval ++ cs)) w := by
    intro f cs he hcall
    simp [execOp, ho, resolve, he, Deferred.ofValue, invoke, callFunc_run hcall]
  split at h1
  · rename_i f caps
    generalize he : a.eval g = pv at hc
    cases hc with
    | fn _ _ cs u hn hu hdd =>
      refine sound_callSem R hd (hexec f cs he) (by simpa using hn) (fun p hp => by simp at hp) (fun N hN _ j y hj => ⟨u j, by simpa using hu j y hj, (hdd j y hj).mono hN⟩) hK h1
  · rename_i f caps
    rw [G.run_bind] at h1
    obtain ⟨ys, ls, h2, hlen, hv, hb, hN⟩ := capsD_spec R h1
    obtain ⟨cs, he, hcl, hcs⟩ := hc
    refine sound_callSem R hd (hexec f cs he) (by rw [Array.length_toList, hcl, hlen]) hv (fun N hn hl j y hj => ?_) hK h2
    have hjl : j < caps.length := by rw [← hlen]; exact (List.getElem?_eq_some_iff.1 hj).1
    have hcj : caps[j]? = some (caps[j].1, caps[j].2) := by rw [List.getElem?_eq_getElem hjl]
    obtain ⟨cells, hσ⟩ := hb j _ _ hcj
    obtain ⟨b, hm, hu⟩ := (hcs j _ _ hcj).2 cells hσ
    exact ⟨_, by simpa using hu, hN N hn hl j y _ _ b hj hcj hm⟩
  · exact h1.elim

theorem op_sound (hT : TTok P T) (R : RelM w0 S nt (lookS slots) σ a w μ) (hd : ∀ d, o.dst = some d → d < nt) (hK : ∀ x us, K x us → nodupL us = true)
    (h : (semOp real T EX o true (rho slots)).run σ (OpOut.run (Meets P) σ K)) : Sound P w0 S nt slots σ a w o K := by
  cases ho : o.op with
  | move x => exact sound_move R hd (.inl ho) h
  | assign x => exact sound_move R hd (.inr ho) h
  | pick c x y => exact sound_pick R hd ho h
  | alloc t => exact sound_alloc hT R hd ho h
  | box t x => exact sound_box R hd ho h
  | build t parts => exact sound_build hT R hd ho h
  | buildSlice t len parts => exact sound_buildSlice hT R hd ho h
  | load t p => exact sound_load hT R hd ho h
  | store t p x => exact sound_store hT R hd ho h
  | nilCheck x => exact sound_nilCheck R hd ho h
  | binOp op t x y yt => exact sound_binOp hT R hd ho h
  | unOp u t x => exact sound_unOp R hd ho h
  | convert s t x => exact sound_convert hT R hd ho h
  | makeFunc fn first caps => exact sound_makeFunc R hd ho h
  | makeSlice t l c => exact sound_makeSlice hT R hd ho h
  | slice t x lo hi mx => exact sound_slice hT R hd ho h
  | fieldAddr t p f => exact sound_fieldAddr hT R hd ho h
  | field t x f => exact sound_field hT R hd ho h
  | indexAddr t x i => exact sound_indexAddr hT R hd ho h
  | extract x i => exact sound_extract R hd ho h
  | call c =>
    obtain ⟨callee, args, ts⟩ := c
    cases callee with
    | value g => exact sound_callV R hd ho hK h
    | builtin b =>
      cases b with
      | len => exact sound_len hT R hd ho h
      | append => exact sound_append hT R hd ho h
      | min => exact sound_min R hd ho h
      | max => exact sound_max R hd ho h
      | _ => simp only [semOp, ho] at h; exact h.elim
    | invoke r m => simp only [semOp, ho] at h; exact h.elim
  | _ => simp only [semOp, ho] at h; exact h.elim
end
end Go.Rk
