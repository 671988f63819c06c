/- Tables of contracts that may change memory in any way. -/
import Derived.Test.YtfnlokknpldkgaaAmHe
set_option linter.unusedVariables false
namespace Go.Am
open Go Go.RowKit
structure TbG where
  f : FuncId
  s : List AV → AHeap → Option (AV × AHeap)
  T : List AV → AHeap → (AV × AHeap → Prop) → Prop
def TbG.OK (x : TbG) : Prop := ∀ vs h K, x.T vs h K → ∃ r, x.s vs h = some r ∧ K r
def TbF.g (x : TbF) : TbG := ⟨x.f, rowS x.s, x.T⟩
def tgFind (g : FuncId) : List TbG → Option TbG
  | [] => none
  | x :: l => if x.f == g then some x else tgFind g l
theorem tgFind_mem {g : FuncId} : ∀ {l : List TbG} {x : TbG}, tgFind g l = some x → x ∈ l ∧ x.f = g
  | y :: l, x, h => by
    simp only [tgFind] at h
    split at h
    · rename_i hg; cases h; exact ⟨List.mem_cons_self, by simpa using hg⟩
    · obtain ⟨h1, h2⟩ := tgFind_mem h; exact ⟨List.mem_cons_of_mem _ h1, h2⟩
def tbSG (Q : FuncId → Bool) (l : List TbE) (lg : List TbG) : Specs := mkS Q (fun g => (tbFind g l).map TbE.s) fun g => (tgFind g lg).map TbG.s
def tbWG (Q : FuncId → Bool) (l : List TbE) (lg : List TbG) (g : FuncId) : Option (List AV → AHeap → (AV × AHeap → Prop) → Prop) :=
  if Q g then tbW Q l g else (tgFind g lg).map TbG.T
theorem tbSG_ok {P : Program} {Q : FuncId → Bool} {l : List TbE} {lg : List TbG} (hQ : ∀ g, Q g = true → ∃ fn, HasText P g fn) (h : ∀ x ∈ l, QuietOK P x.f x.s) (hf : ∀ x ∈ lg, FullOK P x.f x.s) : (tbSG Q l lg).OK P :=
  mkS_ok hQ (fun g s _ hs => by
    simp only [Option.map_eq_some_iff] at hs
    obtain ⟨x, hx, rfl⟩ := hs
    obtain ⟨h1, rfl⟩ := tbFind_mem hx
    exact h x h1) (fun g s hs => by
    simp only [Option.map_eq_some_iff] at hs
    obtain ⟨x, hx, rfl⟩ := hs
    obtain ⟨h1, rfl⟩ := tgFind_mem hx
    exact hf x h1)
theorem tbSG_q (Q : FuncId → Bool) (l : List TbE) (lg : List TbG) : ∀ g, ((tbSG Q l lg).q g).isSome = Q g := fun g => mkS_isSome g
theorem tbWG_ok {Q : FuncId → Bool} {l : List TbE} {lg : List TbG} (hl : l.all (fun x => Q x.f) = true) (hf : ∀ x ∈ lg, x.OK) : CwOK (tbSG Q l lg) (tbWG Q l lg) := by
  intro g T vs h K hg hT
  unfold tbWG at hg
  split at hg
  · rename_i hq
    obtain ⟨r, h1, h2⟩ := tbW_ok hl g T vs h K hg hT
    refine ⟨r, ?_, h2⟩
    rw [← h1]
    unfold callS tbSG tbS mkS
    simp only [hq, if_true]
  · rename_i hq
    simp only [Option.map_eq_some_iff] at hg
    obtain ⟨x, hx, rfl⟩ := hg
    obtain ⟨hm, rfl⟩ := tgFind_mem hx
    obtain ⟨r, h1, h2⟩ := hf x hm vs h K hT
    refine ⟨r, ?_, h2⟩
    unfold callS tbSG mkS
    simp only [hq, Bool.false_eq_true, if_false, hx, Option.map_some, Option.bind_some, h1]
end Go.Am
