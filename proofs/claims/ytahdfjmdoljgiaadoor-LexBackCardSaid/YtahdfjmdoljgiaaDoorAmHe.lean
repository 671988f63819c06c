/- Functions of texts and numbers that hand back new rows; tables of contracts with such. -/
import Derived.Test.YtahdfjmdoljgiaaDoorAmHd
import Derived.Test.YtahdfjmdoljgiaaDoorAmZc
set_option linter.unusedVariables false
namespace Go.Am
open Go Go.RowKit
/-- A contract: a value, and the rows that are put behind memory. -/
def rowS (s : List AV → Nat → Option (AV × List AObj)) : List AV → AHeap → Option (AV × AHeap) := fun args h => (s args h.length).map fun r => (r.1, h ++ r.2)
theorem closedAll {args : List AV} (h : args.all AV.closed = true) {hp : AHeap} {ρ : Rho} : ∀ x ∈ args, AV.ok hp ρ x := fun x hx => closed_ok (List.all_eq_true.1 h x hx) _ _
theorem rows_full {P : Program} {f : FuncId} {fn : Func} (hf : HasText P f fn) {s : List AV → Nat → Option (AV × List AObj)}
    (hs : ∀ args n v rows, s args n = some (v, rows) → args.all AV.closed = true ∧ ∃ (v0 : AV) (hq : AHeap) (ks : List Nat), CallSem P f args [] v0 hq ∧ ks.Nodup ∧ v0.ren (fun i => (ks.idxOf? i).map (n + ·)) = some v ∧ rows = ks.map fun k => renOwn (fun i => (ks.idxOf? i).map (n + ·)) (hq.getD k .dead)) : FullOK P f (rowS s) := by
  refine ⟨fun args h v h' hv ρ B w0 w hI hok => ?_, fn, hf.1, hf.2.1, hf.2.2⟩
  unfold rowS at hv
  simp only [Option.map_eq_some_iff, Prod.mk.injEq] at hv
  obtain ⟨⟨v1, rows⟩, h1, rfl, rfl⟩ := hv
  obtain ⟨hc, v0, hq, ks, hsem, hnd, hr, he⟩ := hs _ _ _ _ h1
  subst he
  have hI1 : Inv ρ (allOf w) w [] w := inv_start fun j o ho => by simp at ho
  refine (hsem ρ _ _ _ hI1 (closedAll hc)).mono fun e w' ⟨ρ2, he, hI2, _, hok2⟩ => ?_
  obtain ⟨ρ', a1, a2, a3⟩ := inv_join hI hI2 ks hnd
  obtain ⟨b1, b2⟩ := a3 v0 v1 hr hok2
  exact ⟨ρ', by rw [he, b1], a1, a2, b2⟩
theorem renOwn_row {σ : Nat → Option Nat} {t s : Nat} {cs : List AV} (h : cs.all AV.closed = true) : renOwn σ (.row t s cs) = .row t s cs := by
  have : renObj σ (.row t s cs) = .row t s cs := by simp only [renObj, renL_closed cs (closedL h)]
  unfold renOwn
  rw [this]
structure TbF where
  f : FuncId
  s : List AV → Nat → Option (AV × List AObj)
  T : List AV → AHeap → (AV × AHeap → Prop) → Prop
def TbF.OK (x : TbF) : Prop := ∀ vs h K, x.T vs h K → ∃ v rows, x.s vs h.length = some (v, rows) ∧ K (v, h ++ rows)
def tfFind (g : FuncId) : List TbF → Option TbF
  | [] => none
  | x :: l => if x.f == g then some x else tfFind g l
theorem tfFind_mem {g : FuncId} : ∀ {l : List TbF} {x : TbF}, tfFind g l = some x → x ∈ l ∧ x.f = g
  | y :: l, x, h => by
    simp only [tfFind] at h
    split at h
    · rename_i hg; cases h; exact ⟨List.mem_cons_self, by simpa using hg⟩
    · obtain ⟨h1, h2⟩ := tfFind_mem h; exact ⟨List.mem_cons_of_mem _ h1, h2⟩
def tbSF (Q : FuncId → Bool) (l : List TbE) (lf : List TbF) : Specs := mkS Q (fun g => (tbFind g l).map TbE.s) fun g => (tfFind g lf).map fun x => rowS x.s
def tbWF (Q : FuncId → Bool) (l : List TbE) (lf : List TbF) (g : FuncId) : Option (List AV → AHeap → (AV × AHeap → Prop) → Prop) :=
  if Q g then tbW Q l g else (tfFind g lf).map TbF.T
theorem tbSF_ok {P : Program} {Q : FuncId → Bool} {l : List TbE} {lf : List TbF} (hQ : ∀ g, Q g = true → ∃ fn, HasText P g fn) (h : ∀ x ∈ l, QuietOK P x.f x.s) (hf : ∀ x ∈ lf, FullOK P x.f (rowS x.s)) : (tbSF Q l lf).OK P :=
  mkS_ok hQ (fun g s _ hs => by
    simp only [Option.map_eq_some_iff] at hs
    obtain ⟨x, hx, rfl⟩ := hs
    obtain ⟨h1, rfl⟩ := tbFind_mem hx
    exact h x h1) (fun g s hs => by
    simp only [Option.map_eq_some_iff] at hs
    obtain ⟨x, hx, rfl⟩ := hs
    obtain ⟨h1, rfl⟩ := tfFind_mem hx
    exact hf x h1)
theorem tbSF_q (Q : FuncId → Bool) (l : List TbE) (lf : List TbF) : ∀ g, ((tbSF Q l lf).q g).isSome = Q g := fun g => mkS_isSome g
theorem tbWF_ok {Q : FuncId → Bool} {l : List TbE} {lf : List TbF} (hl : l.all (fun x => Q x.f) = true) (hf : ∀ x ∈ lf, x.OK) : CwOK (tbSF Q l lf) (tbWF Q l lf) := by
  intro g T vs h K hg hT
  unfold tbWF at hg
  split at hg
  · rename_i hq
    obtain ⟨r, h1, h2⟩ := tbW_ok hl g T vs h K hg hT
    refine ⟨r, ?_, h2⟩
    rw [← h1]
    unfold callS tbSF tbS mkS
    simp only [hq, if_true]
  · rename_i hq
    simp only [Option.map_eq_some_iff] at hg
    obtain ⟨x, hx, rfl⟩ := hg
    obtain ⟨hm, rfl⟩ := tfFind_mem hx
    obtain ⟨v, rows, h1, h2⟩ := hf x hm vs h K hT
    refine ⟨(v, h ++ rows), ?_, h2⟩
    unfold callS tbSF mkS
    simp only [hq, Bool.false_eq_true, if_false, hx, Option.map_some, Option.bind_some, rowS, h1]
def tbCF (Q : FuncId → Bool) (l : List TbE) (lf : List TbF) (sy : Nat → Bool) (kd : Nat → Kd) : Cfg where
  S := tbSF Q l lf
  sy := sy
  kd := kd
  cw := tbWF Q l lf
  lw := fun _ => none
  gw := fun _ => none
  F := fun _ => ⟨[], .all⟩
  b0 := 0
end Go.Am
