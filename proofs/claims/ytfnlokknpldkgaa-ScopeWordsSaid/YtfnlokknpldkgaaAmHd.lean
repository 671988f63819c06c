/- Contracts out of walks that were made otherwise; tables of contracts. -/
import Derived.Test.YtfnlokknpldkgaaAmHc
set_option linter.unusedVariables false
namespace Go.Am
open Go Go.RowKit
/-- The shape of what a function hands back. -/
inductive Rs1 where
  | one (k : K1)
  | agg (l : List K1)
inductive Rs where
  | of (k : Rs1)
  | tup (l : List Rs1)
def rs1W : Rs1 → (AV → Prop) → Prop
  | .one k, K => k1W k K
  | .agg l, K => ksW l fun vs => K (.agg vs)
def rsLW : List Rs1 → (List AV → Prop) → Prop
  | [], K => K []
  | k :: ks, K => rs1W k fun v => rsLW ks fun vs => K (v :: vs)
def rsW : Rs → (AV → Prop) → Prop
  | .of k, K => rs1W k K
  | .tup l, K => rsLW l fun vs => K (.tup vs)
theorem rs1D {k : Rs1} {K : AV → Prop} (h : rs1W k K) : ∃ v, K v := by
  cases k with
  | one k => exact k1D h
  | agg l => obtain ⟨vs, h⟩ := ksD h; exact ⟨_, h⟩
theorem rsLD : ∀ {l : List Rs1} {K : List AV → Prop}, rsLW l K → ∃ vs, K vs
  | [], K, h => ⟨_, h⟩
  | k :: l, K, h => by
    obtain ⟨v, h1⟩ := rs1D h
    obtain ⟨vs, h2⟩ := rsLD h1
    exact ⟨_, h2⟩
theorem rsD {k : Rs} {K : AV → Prop} (h : rsW k K) : ∃ v, K v := by
  cases k with
  | of k => exact rs1D h
  | tup l => obtain ⟨vs, h⟩ := rsLD h; exact ⟨_, h⟩
/-- Quiet contracts, each with the shape of what comes back. -/
structure TbE where
  f : FuncId
  s : List AV → AHeap → Option AV
  r : Rs
def tbFind (g : FuncId) : List TbE → Option TbE
  | [] => none
  | x :: l => if x.f == g then some x else tbFind g l
theorem tbFind_mem {g : FuncId} : ∀ {l : List TbE} {x : TbE}, tbFind g l = some x → x ∈ l ∧ x.f = g
  | y :: l, x, h => by
    simp only [tbFind] at h
    split at h
    · rename_i hg; cases h; exact ⟨List.mem_cons_self, by simpa using hg⟩
    · obtain ⟨h1, h2⟩ := tbFind_mem h; exact ⟨List.mem_cons_of_mem _ h1, h2⟩
def tbS (Q : FuncId → Bool) (l : List TbE) : Specs := mkS Q (fun g => (tbFind g l).map TbE.s) fun _ => none
def tbW (Q : FuncId → Bool) (l : List TbE) (g : FuncId) : Option (List AV → AHeap → (AV × AHeap → Prop) → Prop) :=
  (tbFind g l).map fun x => fun vs h K => rsW x.r fun v => x.s vs h = some v ∧ K (v, h)
theorem tbW_ok {Q : FuncId → Bool} {l : List TbE} (hl : l.all (fun x => Q x.f) = true) : CwOK (tbS Q l) (tbW Q l) := by
  intro g T vs h K hg hT
  unfold tbW at hg
  simp only [Option.map_eq_some_iff] at hg
  obtain ⟨x, hx, rfl⟩ := hg
  obtain ⟨v, h1, h2⟩ := rsD hT
  obtain ⟨hm, rfl⟩ := tbFind_mem hx
  have hQ := List.all_eq_true.1 hl x hm
  refine ⟨(v, h), ?_, h2⟩
  unfold callS tbS mkS
  simp only [hQ, if_true, hx, Option.map_some, Option.getD_some, h1]
section
variable {P : Program} {C : Cfg}
def postX (C : Cfg) (tn tx tr : Tidy) (K : AExit → St → Prop) : AExit → St → Prop
  | .normal, st => match tidyW C tn st with
    | (st1, bs) => chksW bs (K .normal st1)
  | .ret, st => match tidyW C tr st with
    | (st1, bs) => chksW bs (K .ret st1)
  | .exit i, st => match tidyW C tx st with
    | (st1, bs) => chksW bs (K (.exit i) st1)
  | .goto i, st => match tidyW C tx st with
    | (st1, bs) => chksW bs (K (.goto i) st1)
theorem W_postX {x : PC ⊕ (PC × PC)} {st : St} {tn tx tr : Tidy} {K : AExit → St → Prop} (h : W P C.S C.b0 x st (postX C tn tx tr K)) : W P C.S C.b0 x st K := by
  obtain ⟨e, st1, h1, h2⟩ := h
  have go : ∀ (t : Tidy) (e : AExit), Run P C.S C.b0 x st (e, st1) → (match tidyW C t st1 with | (st2, bs) => chksW bs (K e st2)) → W P C.S C.b0 x st K := by
    intro t e h1 h2
    have he : tidyW C t st1 = ((tidyW C t st1).1, (tidyW C t st1).2) := rfl
    rw [he] at h2
    obtain ⟨h3, h4⟩ := chksD h2
    refine ⟨e, _, .post t h1, ?_⟩
    rw [tidyW_ok C h3]
    exact h4
  cases e with
  | normal => exact go tn _ h1 h2
  | ret => exact go tr _ h1 h2
  | exit i => exact go tx _ h1 h2
  | goto i => exact go tx _ h1 h2
/-- A loop, round by round. -/
theorem W_roundsX (hcw : CwOK C.S C.cw) {a : PC} (hp : ∀ x ∈ partsIn a, PartOK P C x) {σ : Type} (Cs : σ → St) (I : σ → Prop) (μ : σ → Nat) (K : σ → AExit → St → Prop) (tn tx tr : Tidy)
    (h : ∀ s, I s → ∃ n, wpP P C n (.inl a) (Cs s) (postX C tn tx tr fun e st => match e with
      | .normal => ∃ s', st = Cs s' ∧ I s' ∧ μ s' < μ s ∧ ∀ e st, K s' e st → K s e st
      | e => K s e st)) : ∀ s, I s → W P C.S C.b0 (.inl (.loop a)) (Cs s) (K s) := by
  intro s
  generalize hn : μ s = n
  induction n using Nat.strongRecOn generalizing s with
  | _ n ih =>
    intro hs
    obtain ⟨m, h1⟩ := h s hs
    refine W_loop (W_mono (W_postX ((wpP_ok hcw m).1 a (Cs s) _ hp h1)) fun e st hk => ?_)
    cases e with
    | normal =>
      obtain ⟨s', rfl, h2, h3, h4⟩ := hk
      exact W_mono (ih (μ s') (by omega) s' rfl h2) h4
    | _ => exact hk
end
theorem part_loop {P : Program} {C : Cfg} {a : PC} {id : Nat} {T : St → (AExit → St → Prop) → Prop} (h1 : headId a = some id) (h2 : C.lw id = some T) (h3 : ∀ st K, T st K → W P C.S C.b0 (.inl (.loop a)) st K) : PartOK P C (.loop a) := by
  intro T' st K hT ht
  rw [h1, Option.bind_some, h2] at hT
  cases hT
  exact h3 st K ht
theorem part_none {P : Program} {C : Cfg} (h1 : ∀ i, C.lw i = none) (h2 : ∀ i, C.gw i = none) (x : PC) (h3 : ∀ i, C.rw i = none := by exact fun _ => rfl) : PartOK P C x := by
  cases x with
  | loop a =>
    intro T st K hT
    cases h : headId a with
    | none => rw [h] at hT; cases hT
    | some i => rw [h, Option.bind_some, h1] at hT; cases hT
  | scope a =>
    intro l T r st K hT
    rw [h2] at hT; cases hT
  | rf g ps as body =>
    intro T st K hT
    rw [h3] at hT; cases hT
  | _ => trivial
theorem no_parts {P : Program} {C : Cfg} {c : PC} (h : partsIn c = []) : ∀ x ∈ partsIn c, PartOK P C x := by
  intro x hx; rw [h] at hx; cases hx
theorem one_part {P : Program} {C : Cfg} {c a : PC} (h : partsIn c = [a]) (ha : PartOK P C a) : ∀ x ∈ partsIn c, PartOK P C x := by
  intro x hx; rw [h, List.mem_singleton] at hx; subst hx; exact ha
end Go.Am
