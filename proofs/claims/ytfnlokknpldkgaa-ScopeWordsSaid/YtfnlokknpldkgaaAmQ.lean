/- What is looked up says the same. -/
import Derived.Test.YtfnlokknpldkgaaAmP
set_option linter.unusedVariables false
set_option linter.unusedSimpArgs false
namespace Go.Am
open Go Go.RowKit
section
variable {P : Program} {S : Specs}
def RI.isPure : RI → Bool
  | .alloc .. | .box .. | .bslice .. | .mslice .. | .mmap | .toBytes _ | .append .. | .store .. | .copy .. | .update .. | .del .. | .ice .. | .call .. => false
  | _ => true
def RI.isAlloc : RI → Bool
  | .alloc .. | .box .. | .bslice .. | .mslice .. | .mmap | .toBytes _ | .append .. => true
  | _ => false
theorem build_fold (place : Nat → Option (Nat × Nat)) (E : Operand → Option AV) : ∀ (ps : List (Nat × Operand)) (l : List ((Nat × Nat) × Operand)) (z : List AV), ps.mapM (fun (p : Nat × Operand) => (place p.1).map fun q => (q, p.2)) = some l →
    ∀ r, ((l.mapM fun (p : (Nat × Nat) × Operand) => (E p.2).map fun v => (p.1, v)).bind fun l =>
      (l.foldlM (fun cs (p : (Nat × Nat) × AV) => if p.2.plain && p.2.cells.length == p.1.2 && decide (p.1.1 + p.1.2 ≤ cs.length) then some (cs.take p.1.1 ++ p.2.cells ++ cs.drop (p.1.1 + p.1.2)) else none) z)) = some r →
    ∃ vs, partsA E ps = some vs ∧ fillA place z vs = some r
  | [], l, z, hl, r, hr => by simp at hl; subst hl; simp at hr; subst hr; exact ⟨[], rfl, rfl⟩
  | p :: ps, l, z, hl, r, hr => by
    simp only [List.mapM_cons, Option.pure_def, Option.bind_eq_bind, Option.bind_eq_some_iff, Option.map_eq_some_iff] at hl
    obtain ⟨q, ⟨os, hos, rfl⟩, l', hl', he⟩ := hl
    cases he
    simp only [List.mapM_cons, Option.pure_def, Option.bind_eq_bind, Option.bind_eq_some_iff, Option.map_eq_some_iff] at hr
    obtain ⟨vs, ⟨v1, ⟨v, hv, rfl⟩, vs', hvs', he⟩, hr⟩ := hr
    cases he
    simp only [List.foldlM_cons, Option.bind_eq_bind, Option.bind_eq_some_iff] at hr
    obtain ⟨z', hz', hr⟩ := hr
    have ih := build_fold place E ps l' z' hl' r (by simp only [Option.bind_eq_some_iff]; exact ⟨vs', hvs', hr⟩)
    obtain ⟨us, hus, hfu⟩ := ih
    refine ⟨(p.1, v) :: us, ?_, ?_⟩
    · simp only [partsA] at hus
      simp [partsA, hv, hus]
    · obtain ⟨off, size⟩ := os
      simp only [fillA, hos]
      split at hz'
      · rename_i hc
        simp only [Option.some.injEq] at hz'
        subst hz'
        rw [if_pos hc]; exact hfu
      · cases hz'
/-- **Operations that leave memory alone.** -/
theorem pure_resolved {o : Oper} {ri : RI} (hr : resolve P o = some ri) {h : AHeap} {E : Operand → Option AV} {v : AV} (hv : pureR P h E ri = some v) : evalPure P h E o = some v := by
  unfold resolve at hr
  unfold evalPure
  cases hop : o.op <;> simp only [hop, reduceCtorEq] at hr ⊢
  case move x => cases hr; exact hv
  case assign x => cases hr; exact hv
  case pick c a b => cases hr; exact hv
  case build t ps =>
    split at hr
    · rename_i z pl hz hpl
      split at hr
      · rename_i hzp
        simp only [Option.map_eq_some_iff] at hr
        obtain ⟨l, hl, rfl⟩ := hr
        simp only [pureR, Option.bind_eq_some_iff, Option.map_eq_some_iff] at hv
        obtain ⟨l1, hl1, r, hr, rfl⟩ := hv
        obtain ⟨vs, h1, h2⟩ := build_fold pl E ps.toList l z.cells hl r (by simp only [Option.bind_eq_some_iff]; exact ⟨l1, hl1, hr⟩)
        simp only [h1, Option.bind_some]
        unfold placesR at hpl
        unfold buildA
        rw [hz]
        split at hpl
        · rename_i fs hfs
          simp only [Option.map_eq_some_iff] at hpl
          obtain ⟨q, hq, rfl⟩ := hpl
          simp [hfs, hzp, hq, h2]
        · rename_i n e he
          simp only [Option.map_eq_some_iff] at hpl
          obtain ⟨q, hq, rfl⟩ := hpl
          simp [he, hzp, hq, h2]
        · cases hpl
      · cases hr
    · cases hr
  case load t a =>
    simp only [Option.map_eq_some_iff] at hr
    obtain ⟨s, hs, rfl⟩ := hr
    simp only [pureR] at hv
    split at hv
    · rename_i k q hE
      simp only [hE, Option.bind_some, loadA]
      simp only [Option.bind_eq_some_iff] at hv ⊢
      obtain ⟨cs, hcs, hv⟩ := hv
      exact ⟨cs, hcs, by rw [part_resolved hs]; exact hv⟩
    · cases hv
  case nilCheck x => cases hr; exact hv
  case binOp op t x y yt =>
    have hbin : ∀ (op' : BinOp), pureR P h E (.bin op' x y) = some v → ((E x).bind fun a => (E y).bind fun b => binH P h op' t a b) = some v := by
      intro op' hv
      simp only [pureR, Option.bind_eq_some_iff] at hv ⊢
      obtain ⟨a, ha, b, hb, hv⟩ := hv
      refine ⟨a, ha, b, hb, ?_⟩
      unfold binH binA
      split at hv
      · exact hv
      · exact hv
      · rename_i k a k' b hn1 hn2
        cases op' <;> first | exact hv | (simp [intOp] at hv; done)
      · rename_i a b
        cases op' <;> first | exact hv | simpa using hv
      · cases hv
    split at hr <;> first
      | (cases hr; exact hbin _ hv)
      | (cases hr; exact hv)
  case unOp op t x => cases hr; exact hv
  case convert s d x =>
    split at hr
    · rename_i ks k hs hd
      cases hr
      simp only [pureR] at hv
      split at hv
      · rename_i k' n hE
        simp only [hE, Option.bind_some, convertA, hs, hd]; exact hv
      · cases hv
    · rename_i hs hd
      cases hr
      simp only [pureR] at hv
      split at hv
      · rename_i b hE
        simp only [hE, Option.bind_some, convertA, hs, hd]; exact hv
      · cases hv
    · rename_i e hs hd
      split at hr
      · rename_i he
        cases hr
        simp only [pureR] at hv
        split at hv
        · rename_i l c hE
          simp only [hE, Option.bind_some, convertA, hs, hd, he]; exact hv
        · rename_i k q l c hE
          simp only [hE, Option.bind_some, convertA, hs, hd, he]; exact hv
        · cases hv
      · cases hr
    · split at hr <;> cases hr; simp [pureR] at hv
    · split at hr <;> (try split at hr) <;> cases hr; simp [pureR] at hv
    · cases hr
  case sliceToArrayPointer t x =>
    split at hr
    · rename_i n e ht
      cases hr
      simp only [pureR] at hv
      split at hv
      · rename_i a len c hE
        simp only [hE, Option.bind_some, toArrayA, ht]; exact hv
      · cases hv
    · cases hr
  case slice t x lo hi mx =>
    cases mx with
    | some m => simp at hr
    | none =>
      simp only at hr
      have hmx : optA E none = some none := rfl
      split at hr
      · rename_i ht
        cases hr
        simp only [pureR] at hv
        split at hv
        · rename_i s hE
          simp only [Option.bind_eq_some_iff] at hv
          obtain ⟨l, hl, u, hu, u', hu', hv⟩ := hv
          simp only [hE, hl, hu, hmx, Option.bind_some, sliceA, ht, hu']
          exact hv
        · cases hv
      · rename_i e ht
        simp only [Option.map_eq_some_iff] at hr
        obtain ⟨s, hs, rfl⟩ := hr
        simp only [pureR] at hv
        split at hv
        · rename_i k q len c hE
          simp only [Option.bind_eq_some_iff] at hv
          obtain ⟨l, hl, u, hu, u', hu', l', hl', hv⟩ := hv
          simp only [hE, hl, hu, hmx, Option.bind_some, sliceA, ht, hu', hl', hs]
          exact hv
        · rename_i c hE
          simp only [Option.bind_eq_some_iff] at hv
          obtain ⟨l, hl, u, hu, u', hu', hv⟩ := hv
          simp only [Option.map_eq_some_iff] at hv
          obtain ⟨l', hl', hv⟩ := hv
          simp only [hE, hl, hu, hmx, Option.bind_some, sliceA, ht, hu', hl', hs, Option.map_some]
          rw [hv]
        · cases hv
      · rename_i n e ht
        simp only [Option.map_eq_some_iff] at hr
        obtain ⟨s, hs, rfl⟩ := hr
        simp only [pureR] at hv
        split at hv
        · rename_i k q hE
          simp only [Option.bind_eq_some_iff] at hv
          obtain ⟨l, hl, u, hu, u', hu', l', hl', hv⟩ := hv
          simp only [hE, hl, hu, hmx, Option.bind_some, sliceA, ht, hu', hl', hs]
          exact hv
        · cases hv
      · cases hr
  case fieldAddr s x f =>
    simp only [Option.bind_eq_some_iff] at hr
    obtain ⟨fd, ⟨fl, hfl, hfd⟩, hr⟩ := hr
    split at hr
    · cases hr
    · rename_i n hn hs
      cases hr
      simp only [pureR] at hv
      split at hv
      · rename_i k q hE
        simp only [hE, Option.bind_some, fieldAddrA, hfl, hfd, hs]
        cases n with
        | zero => exact absurd rfl hn
        | succ n => exact hv
      · cases hv
    · cases hr
  case field t x f =>
    simp only [Option.bind_eq_some_iff, Option.map_eq_some_iff] at hr
    obtain ⟨fd, ⟨fl, hfl, hfd⟩, s, hs, rfl⟩ := hr
    simp only [pureR] at hv
    split at hv
    · rename_i cs hE
      simp only [hE, Option.bind_some, fieldA, hfl, hfd, part_resolved hs]; exact hv
    · cases hv
  case indexAddr t x i =>
    split at hr
    · rename_i n e ht
      simp only [Option.map_eq_some_iff] at hr
      obtain ⟨s, hs, rfl⟩ := hr
      simp only [pureR] at hv
      split at hv
      · rename_i k q kk j hE hi
        simp only [hE, hi, Option.bind_some, indexAddrA, ht, hs, Option.map_some]; exact hv
      · cases hv
    · rename_i e ht
      simp only [Option.map_eq_some_iff] at hr
      obtain ⟨s, hs, rfl⟩ := hr
      simp only [pureR] at hv
      split at hv
      · rename_i k q len c kk j hE hi
        simp only [hE, hi, Option.bind_some, indexAddrA, ht, hs, Option.map_some]; exact hv
      · cases hv
    · cases hr
  case index t x i =>
    split at hr
    · rename_i n e ht
      simp only [Option.bind_eq_some_iff, Option.map_eq_some_iff] at hr
      obtain ⟨s, hs, q, hq, rfl⟩ := hr
      simp only [pureR] at hv
      split at hv
      · rename_i cs kk j hE hi
        simp only [hE, hi, Option.bind_some, indexA, ht, hs, part_resolved hq]; exact hv
      · cases hv
    · rename_i ht
      cases hr
      simp only [pureR] at hv
      split at hv
      · rename_i s kk j hE hi
        simp only [hE, hi, Option.bind_some, indexA, ht]; exact hv
      · cases hv
    · cases hr
  case lookup t x i ok => cases hr; exact hv
  case extract x i => cases hr; exact hv
  case makeInterface t x =>
    split at hr
    · cases hr
    · rename_i d hnd hd
      cases hr
      simp only [hd]
      cases d <;> first | exact hv | (exact absurd hd (hnd _))
    · cases hr
  case makeFunc f a c =>
    cases f <;> simp only [reduceCtorEq, Option.some.injEq] at hr
    subst hr
    exact hv
  case call c =>
    obtain ⟨callee, args, tys⟩ := c
    cases callee with
    | value f => simp only [Option.some.injEq] at hr; subst hr; simp [pureR] at hv
    | invoke r m => simp at hr
    | builtin b =>
      cases b <;> try (simp only [reduceCtorEq] at hr)
      case len =>
        simp only at hr ⊢
        split at hr
        · rename_i x t hx ht
          split at hr
          · rename_i hu
            cases hr
            simp only [pureR] at hv
            split at hv
            · rename_i s hE; simp only [hx, ht, hE, Option.bind_some, lenA, hu]; exact hv
            · cases hv
          · rename_i n e hu
            cases hr
            simp only [pureR, Option.map_eq_some_iff] at hv
            obtain ⟨a, ha, rfl⟩ := hv
            simp only [hx, ht, ha, Option.bind_some, lenA, hu]
          · rename_i e hu
            cases hr
            simp only [pureR] at hv
            split at hv
            · rename_i s hE; simp only [hx, ht, hE, Option.bind_some, lenA, hu]; exact hv
            · rename_i hE; simp only [hx, ht, hE, Option.bind_some, lenA, hu]; exact hv
            · cases hv
          · rename_i kt et hu
            cases hr
            simp only [pureR] at hv
            split at hv
            · rename_i hE; simp only [hx, ht, hE, Option.bind_some, lenA, hu]; exact hv
            · rename_i k hE; simp only [hx, ht, hE, Option.bind_some, lenA, hu]; exact hv
            · cases hv
          · cases hr
        · cases hr
      case max => simp only [Option.some.injEq] at hr; subst hr; exact hv
      case min => simp only [Option.some.injEq] at hr; subst hr; exact hv
      case append =>
        exfalso
        split at hr
        · split at hr
          · simp only [Option.bind_eq_some_iff] at hr
            obtain ⟨_, _, _, _, _, _, hr⟩ := hr
            split at hr <;> cases hr
            simp [pureR] at hv
          · cases hr
        · cases hr
      case copy =>
        exfalso
        split at hr
        · split at hr
          · simp only [Option.map_eq_some_iff] at hr
            obtain ⟨_, _, rfl⟩ := hr
            simp [pureR] at hv
          · cases hr
        · cases hr
      case delete =>
        exfalso
        split at hr
        · split at hr
          · cases hr; simp [pureR] at hv
          · cases hr
        · cases hr
  all_goals (exfalso)
  case alloc t => simp only [Option.map_eq_some_iff] at hr; obtain ⟨z, hz, rfl⟩ := hr; simp [pureR] at hv
  case box t x => cases hr; simp [pureR] at hv
  case buildSlice t n ps =>
    split at hr
    · simp only [Option.bind_eq_some_iff] at hr
      obtain ⟨_, _, _, _, hr⟩ := hr
      split at hr <;> cases hr
      simp [pureR] at hv
    · cases hr
  case makeSlice t l c =>
    split at hr
    · simp only [Option.bind_eq_some_iff] at hr
      obtain ⟨_, _, _, _, _, _, hr⟩ := hr
      split at hr <;> cases hr
      simp [pureR] at hv
    · cases hr
  case makeMap t r => cases r <;> simp only [reduceCtorEq, Option.some.injEq] at hr; subst hr; simp [pureR] at hv
  case store t a x => simp only [Option.map_eq_some_iff] at hr; obtain ⟨z, hz, rfl⟩ := hr; simp [pureR] at hv
  case mapUpdate t m k x =>
    split at hr
    · cases hr; simp [pureR] at hv
    · cases hr
end
end Go.Am
