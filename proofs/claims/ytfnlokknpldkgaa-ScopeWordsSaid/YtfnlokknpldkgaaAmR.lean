/- The resolved code as a whole. -/
import Derived.Test.YtfnlokknpldkgaaAmQ
set_option linter.unusedVariables false
set_option linter.unusedSimpArgs false
namespace Go.Am
open Go Go.RowKit
section
variable {P : Program} {S : Specs}
theorem alloc_resolved {o : Oper} {ri : RI} (hr : resolve P o = some ri) {E : Operand → Option AV} {k : Nat} {r : AV × AObj} (hv : allocR E k ri = some r) : evalAlloc P E k o = some r ∧ isAlloc P o = true := by
  unfold resolve at hr
  unfold evalAlloc isAlloc
  cases hop : o.op <;> simp only [hop, reduceCtorEq] at hr ⊢
  case alloc t =>
    simp only [Option.map_eq_some_iff] at hr
    obtain ⟨z, hz, rfl⟩ := hr
    exact ⟨by simp only [hz, Option.bind_some]; exact hv, trivial⟩
  case box t x => cases hr; exact ⟨hv, trivial⟩
  case buildSlice t n ps =>
    split at hr
    · rename_i e ht
      simp only [Option.bind_eq_some_iff] at hr
      obtain ⟨s, hs, z, hz, hr⟩ := hr
      split at hr
      · rename_i hc
        cases hr
        simp only [allocR, Option.bind_eq_some_iff] at hv
        obtain ⟨l, hl, hv⟩ := hv
        refine ⟨?_, trivial⟩
        simp only [ht, hs, hz, hl, Option.bind_some, hc, if_true]
        simp only [Option.bind_eq_some_iff]
        exact hv
      · cases hr
    · cases hr
  case makeSlice t l c =>
    split at hr
    · rename_i e ht
      simp only [Option.bind_eq_some_iff] at hr
      obtain ⟨s, hs, b, hb, z, hz, hr⟩ := hr
      split at hr
      · rename_i hc
        cases hr
        simp only [allocR] at hv
        split at hv
        · rename_i kl l' kc c' hl hc'
          refine ⟨?_, trivial⟩
          simp only [ht, hl, hc', hs, hb, hz, Option.bind_some]
          split at hv
          · rename_i hcc
            rw [if_pos (by simp only [hc, Bool.true_and, decide_eq_true_eq]; exact hcc)]
            exact hv
          · cases hv
        · cases hv
      · cases hr
    · cases hr
  case makeMap t r => cases r <;> simp only [reduceCtorEq, Option.some.injEq] at hr; subst hr; exact ⟨hv, trivial⟩
  case convert s d x =>
    split at hr
    · cases hr; simp [allocR] at hv
    · cases hr; simp [allocR] at hv
    · split at hr
      · cases hr; simp [allocR] at hv
      · cases hr
    · rename_i e hs hd
      split at hr
      · rename_i he
        cases hr
        simp only [allocR] at hv
        split at hv
        · rename_i b hE
          refine ⟨?_, by simp [hs, hd]⟩
          simp only [hs, hd, hE, he]; exact hv
        · cases hv
      · cases hr
    · split at hr
      · split at hr <;> cases hr
        simp [allocR] at hv
      · cases hr
    · cases hr
  case move x => cases hr; simp [allocR] at hv
  case assign x => cases hr; simp [allocR] at hv
  case pick c a b => cases hr; simp [allocR] at hv
  case build t ps =>
    split at hr
    · split at hr
      · simp only [Option.map_eq_some_iff] at hr; obtain ⟨l, _, rfl⟩ := hr; simp [allocR] at hv
      · cases hr
    · cases hr
  case load t a => simp only [Option.map_eq_some_iff] at hr; obtain ⟨l, _, rfl⟩ := hr; simp [allocR] at hv
  case nilCheck x => cases hr; simp [allocR] at hv
  case binOp op t x y yt => split at hr <;> (cases hr; simp [allocR] at hv)
  case unOp op t x => cases hr; simp [allocR] at hv
  case sliceToArrayPointer t x => split at hr <;> cases hr; simp [allocR] at hv
  case slice t x lo hi mx =>
    cases mx <;> simp only [reduceCtorEq] at hr
    split at hr
    · cases hr; simp [allocR] at hv
    · simp only [Option.map_eq_some_iff] at hr; obtain ⟨l, _, rfl⟩ := hr; simp [allocR] at hv
    · simp only [Option.map_eq_some_iff] at hr; obtain ⟨l, _, rfl⟩ := hr; simp [allocR] at hv
    · cases hr
  case fieldAddr s x f =>
    simp only [Option.bind_eq_some_iff] at hr
    obtain ⟨fd, _, hr⟩ := hr
    split at hr
    · cases hr
    · cases hr; simp [allocR] at hv
    · cases hr
  case field t x f =>
    simp only [Option.bind_eq_some_iff, Option.map_eq_some_iff] at hr
    obtain ⟨fd, _, s, _, rfl⟩ := hr
    simp [allocR] at hv
  case indexAddr t x i =>
    split at hr
    · simp only [Option.map_eq_some_iff] at hr; obtain ⟨l, _, rfl⟩ := hr; simp [allocR] at hv
    · simp only [Option.map_eq_some_iff] at hr; obtain ⟨l, _, rfl⟩ := hr; simp [allocR] at hv
    · cases hr
  case index t x i =>
    split at hr
    · simp only [Option.bind_eq_some_iff, Option.map_eq_some_iff] at hr
      obtain ⟨_, _, _, _, rfl⟩ := hr
      simp [allocR] at hv
    · cases hr; simp [allocR] at hv
    · cases hr
  case lookup t x i ok => cases hr; simp [allocR] at hv
  case extract x i => cases hr; simp [allocR] at hv
  case makeInterface t x =>
    split at hr
    · cases hr
    · cases hr; simp [allocR] at hv
    · cases hr
  case makeFunc f a c => cases f <;> simp only [reduceCtorEq, Option.some.injEq] at hr; subst hr; simp [allocR] at hv
  case store t a x => simp only [Option.map_eq_some_iff] at hr; obtain ⟨z, hz, rfl⟩ := hr; simp [allocR] at hv
  case mapUpdate t m k x =>
    split at hr
    · cases hr; simp [allocR] at hv
    · cases hr
  case call c =>
    exfalso
    obtain ⟨callee, args, tys⟩ := c
    cases callee with
    | value f => simp only [Option.some.injEq] at hr; subst hr; simp [allocR] at hv
    | invoke r m => simp at hr
    | builtin b =>
      cases b <;> try (simp only [reduceCtorEq] at hr)
      case len =>
        split at hr
        · split at hr <;> first | (cases hr; simp [allocR] at hv; done) | cases hr
        · cases hr
      case max => simp only [Option.some.injEq] at hr; subst hr; simp [allocR] at hv
      case min => simp only [Option.some.injEq] at hr; subst hr; simp [allocR] at hv
      case append =>
        split at hr
        · split at hr
          · simp only [Option.bind_eq_some_iff] at hr
            obtain ⟨_, _, _, _, _, _, hr⟩ := hr
            split at hr <;> cases hr
            simp [allocR] at hv
          · cases hr
        · cases hr
      case copy =>
        split at hr
        · split at hr
          · simp only [Option.map_eq_some_iff] at hr
            obtain ⟨_, _, rfl⟩ := hr
            simp [allocR] at hv
          · cases hr
        · cases hr
      case delete =>
        split at hr
        · split at hr
          · cases hr; simp [allocR] at hv
          · cases hr
        · cases hr
/-- What an operation that writes is looked up as. -/
theorem eff_resolved {o : Oper} {ri : RI} (hr : resolve P o = some ri) {h : AHeap} {E : Operand → Option AV} {slot : Nat} {r : Option AV × AHeap} (hv : effR P h E slot ri = some r) :
    evalEff P h E slot o = some r ∧ evalPure P h E o = none ∧ (isAlloc P o = ri.isAlloc) ∧ (isAlloc P o = true → evalAlloc P E slot o = none) ∧ calleeA E o = none := by
  unfold resolve at hr
  unfold evalEff evalPure calleeA isAlloc evalAlloc
  cases hop : o.op <;> simp only [hop, reduceCtorEq] at hr ⊢
  case store t a x =>
    simp only [Option.map_eq_some_iff] at hr
    obtain ⟨s, hs, rfl⟩ := hr
    refine ⟨?_, by simp [RI.isAlloc]⟩
    simp only [effR] at hv
    split at hv
    · rename_i k q v ha hx
      simp only [ha, hx, Option.bind_some, storeA, hs]
      split at hv
      · rename_i t' sz cs hk
        split at hv
        · rename_i hc; cases hv; simp only [hk]; rw [if_pos hc]; rfl
        · cases hv
      · cases hv
    · cases hv
  case convert s d x =>
    split at hr
    · exfalso; cases hr; simp [effR] at hv
    · exfalso; cases hr; simp [effR] at hv
    · exfalso; split at hr <;> cases hr; simp [effR] at hv
    · exfalso; split at hr <;> cases hr; simp [effR] at hv
    · rename_i e0 e hs hd
      split at hr
      · rename_i he
        split at hr
        · rename_i hsd
          cases hr
          simp only [effR] at hv
          split at hv
          · rename_i k o n c hE
            split at hv
            · rename_i t sz cs hk
              cases hv
              refine ⟨?_, ?_, ?_, ?_, trivial⟩
              · simp only [hE, Option.bind_some, freezeA, hs, hd, he, hk, hsd, if_true, Option.map_some]
              · simp only [hE, Option.bind_some, convertA, hs, hd]
              · simp only [hs, hd, RI.isAlloc]
              · simp only [hs, hd]; intro h; cases h
            · cases hv
          · cases hv
        · cases hr
      · cases hr
    · cases hr
  case mapUpdate t m k x =>
    split at hr
    · rename_i kt et ht
      cases hr
      refine ⟨?_, by simp [RI.isAlloc]⟩
      simp only [effR, Option.bind_eq_some_iff] at hv
      obtain ⟨r1, h1, k1, h2, v1, h3, hv⟩ := hv
      simp only [h1, h2, h3, Option.bind_some, updateA, ht]
      split at hv
      · split at hv
        · rename_i es hes
          split at hv
          · rename_i hc
            simp only [Option.map_eq_some_iff] at hv
            obtain ⟨es', he, rfl⟩ := hv
            simp [hes, hc, he]
          · cases hv
        · cases hv
      · cases hv
    · cases hr
  case call c =>
    obtain ⟨callee, args, tys⟩ := c
    cases callee with
    | value f => exfalso; simp only [Option.some.injEq] at hr; subst hr; simp [effR] at hv
    | invoke r m => simp at hr
    | builtin b =>
      cases b <;> try (simp only [reduceCtorEq] at hr)
      case len =>
        exfalso
        split at hr
        · split at hr <;> first | (cases hr; simp [effR] at hv; done) | cases hr
        · cases hr
      case max => exfalso; simp only [Option.some.injEq] at hr; subst hr; simp [effR] at hv
      case min => exfalso; simp only [Option.some.injEq] at hr; subst hr; simp [effR] at hv
      case append =>
        split at hr
        · rename_i a x t u hargs htys
          split at hr
          · rename_i e ht
            simp only [Option.bind_eq_some_iff] at hr
            obtain ⟨s, hs, b, hb, z, hz, hr⟩ := hr
            split at hr
            · rename_i hc
              cases hr
              refine ⟨?_, by simp [RI.isAlloc]⟩
              simp only [effR, Option.bind_eq_some_iff] at hv
              obtain ⟨a', ha, x', hx, src, hsrc, hv⟩ := hv
              simp only [Bool.and_eq_true, beq_iff_eq, decide_eq_true_eq] at hc
              obtain ⟨⟨⟨hu, hs0⟩, hzp⟩, hzl⟩ := hc
              simp only [hargs, htys, ha, hx, Option.bind_some, appendA, ht, hs, hb, hz, hsrc]
              split at hv
              · rename_i hone
                rw [if_pos (by simp only [hu, hs0, hone, hzp, hzl, decide_true, BEq.rfl, Bool.and_self])]
                split at hv
                · split at hv
                  · rename_i h0; cases hv; rw [if_pos h0]; rfl
                  · rename_i h0
                    rw [if_neg h0]
                    split at hv
                    · rename_i h1; cases hv; rw [if_pos h1]; rfl
                    · cases hv
                · split at hv
                  · rename_i t' sz' cs hk
                    split at hv
                    · rename_i h1; cases hv; simp only [hk]; rw [if_pos h1]; rfl
                    · cases hv
                  · cases hv
                · rename_i q
                  obtain ⟨k2, o2⟩ := q
                  split at hv
                  · cases hv
                  · rename_i h0
                    split at hv
                    · rename_i h1; cases hv; cases o2 <;> (simp only []; rw [if_neg h0, if_pos h1]; rfl)
                    · cases hv
                · cases hv
              · cases hv
            · cases hr
          · cases hr
        · cases hr
      case delete =>
        split at hr
        · rename_i m k t u hargs htys
          split at hr
          · rename_i kt et ht
            cases hr
            refine ⟨?_, by simp [RI.isAlloc]⟩
            simp only [effR, Option.bind_eq_some_iff] at hv
            obtain ⟨r1, h1, k1, h2, hv⟩ := hv
            simp only [hargs, htys, h1, h2, Option.bind_some, deleteA, ht]
            split at hv
            · split at hv
              · rename_i es hes
                split at hv
                · rename_i hc
                  simp only [Option.map_eq_some_iff] at hv
                  obtain ⟨es', he, rfl⟩ := hv
                  simp [hes, hc, he]
                · cases hv
              · cases hv
            · cases hv
          · cases hr
        · cases hr
      case copy =>
        split at hr
        · rename_i d x t u hargs htys
          split at hr
          · rename_i e ht
            simp only [Option.map_eq_some_iff] at hr
            obtain ⟨s, hs, rfl⟩ := hr
            refine ⟨?_, by simp [RI.isAlloc]⟩
            simp only [effR, Option.bind_eq_some_iff] at hv
            obtain ⟨d', hd, x', hx, hv⟩ := hv
            simp only [hargs, htys, hd, hx, Option.bind_some, copyA, ht]
            split at hv
            · simp only [Option.bind_eq_some_iff] at hv
              obtain ⟨src, hsrc, hv⟩ := hv
              simp only [hs, hsrc, Option.bind_some]
              split at hv
              · rename_i t' sz' cs hk
                split at hv
                · rename_i hc; cases hv; simp only [hk]; rw [if_pos hc]; rfl
                · cases hv
              · cases hv
            · cases hv
          · cases hr
        · cases hr
  all_goals (exfalso)
  case alloc t => simp only [Option.map_eq_some_iff] at hr; obtain ⟨z, hz, rfl⟩ := hr; simp [effR] at hv
  case box t x => cases hr; simp [effR] at hv
  case buildSlice t n ps =>
    split at hr
    · simp only [Option.bind_eq_some_iff] at hr
      obtain ⟨_, _, _, _, hr⟩ := hr
      split at hr <;> cases hr
      simp [effR] at hv
    · cases hr
  case makeSlice t l c =>
    split at hr
    · simp only [Option.bind_eq_some_iff] at hr
      obtain ⟨_, _, _, _, _, _, hr⟩ := hr
      split at hr <;> cases hr
      simp [effR] at hv
    · cases hr
  case makeMap t r => cases r <;> simp only [reduceCtorEq, Option.some.injEq] at hr; subst hr; simp [effR] at hv
  case move x => cases hr; simp [effR] at hv
  case assign x => cases hr; simp [effR] at hv
  case pick c a b => cases hr; simp [effR] at hv
  case build t ps =>
    split at hr
    · split at hr
      · simp only [Option.map_eq_some_iff] at hr; obtain ⟨l, _, rfl⟩ := hr; simp [effR] at hv
      · cases hr
    · cases hr
  case load t a => simp only [Option.map_eq_some_iff] at hr; obtain ⟨l, _, rfl⟩ := hr; simp [effR] at hv
  case nilCheck x => cases hr; simp [effR] at hv
  case binOp op t x y yt => split at hr <;> (cases hr; simp [effR] at hv)
  case unOp op t x => cases hr; simp [effR] at hv
  case sliceToArrayPointer t x => split at hr <;> cases hr; simp [effR] at hv
  case slice t x lo hi mx =>
    cases mx <;> simp only [reduceCtorEq] at hr
    split at hr
    · cases hr; simp [effR] at hv
    · simp only [Option.map_eq_some_iff] at hr; obtain ⟨l, _, rfl⟩ := hr; simp [effR] at hv
    · simp only [Option.map_eq_some_iff] at hr; obtain ⟨l, _, rfl⟩ := hr; simp [effR] at hv
    · cases hr
  case fieldAddr s x f =>
    simp only [Option.bind_eq_some_iff] at hr
    obtain ⟨fd, _, hr⟩ := hr
    split at hr
    · cases hr
    · cases hr; simp [effR] at hv
    · cases hr
  case field t x f =>
    simp only [Option.bind_eq_some_iff, Option.map_eq_some_iff] at hr
    obtain ⟨fd, _, s, _, rfl⟩ := hr
    simp [effR] at hv
  case indexAddr t x i =>
    split at hr
    · simp only [Option.map_eq_some_iff] at hr; obtain ⟨l, _, rfl⟩ := hr; simp [effR] at hv
    · simp only [Option.map_eq_some_iff] at hr; obtain ⟨l, _, rfl⟩ := hr; simp [effR] at hv
    · cases hr
  case index t x i =>
    split at hr
    · simp only [Option.bind_eq_some_iff, Option.map_eq_some_iff] at hr
      obtain ⟨_, _, _, _, rfl⟩ := hr
      simp [effR] at hv
    · cases hr; simp [effR] at hv
    · cases hr
  case lookup t x i ok => cases hr; simp [effR] at hv
  case extract x i => cases hr; simp [effR] at hv
  case makeInterface t x =>
    split at hr
    · cases hr
    · cases hr; simp [effR] at hv
    · cases hr
  case makeFunc f a c => cases f <;> simp only [reduceCtorEq, Option.some.injEq] at hr; subst hr; simp [effR] at hv
end
end Go.Am
