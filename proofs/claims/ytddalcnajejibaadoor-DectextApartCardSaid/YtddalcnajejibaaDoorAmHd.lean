/- Contracts out of walks that were made otherwise; tables of contracts. -/
import Derived.Test.YtddalcnajejibaaDoorAmHc
set_option linter.unusedVariables false
namespace Go.Am
open Go Go.RowKit
theorem sem_below {P : Program} {f : FuncId} {args : List AV} {v : AV} (hv : v.closed = true)
    (h : ∀ (ρ : Rho) (w : World), Calls P f (args.map (AV.real ρ)).toArray w fun e w' => e = .returned (v.real ρ) ∧ Below w.heap.size w w') : CallSem P f args [] v [] := fun ρ B w0 w hI hok =>
  (h ρ w).mono fun e w' ⟨he, hb⟩ => ⟨ρ, he, ⟨hI.below.trans (Kept.of_below hb fun k hk => hI.size k hk), fun k hk => Nat.lt_of_lt_of_le (hI.size k hk) hb.size, fun k o ho => by simp at ho, fun k k' o o' ho => by simp at ho, fun k k' o cs ho => by simp at ho, fun k o ho => by simp at ho⟩,
    fun i hi => ⟨hi, rfl⟩, closed_ok hv _ _⟩
/-- The shape of what a function hands back. -/
inductive Rs1 where
  | one (k : K1)
  | agg (l : List K1)
inductive Rs where
  | of (k : Rs1)
  | tup (l : List Rs1)
def rs1W : Rs1 → (AV → Prop) → Prop
  | .one k, K => k1W k K
  | .agg l, K => ksW l fun vs => K (.agg vs)
def rsLW : List Rs1 → (List AV → Prop) → Prop
  | [], K => K []
  | k :: ks, K => rs1W k fun v => rsLW ks fun vs => K (v :: vs)
def rsW : Rs → (AV → Prop) → Prop
  | .of k, K => rs1W k K
  | .tup l, K => rsLW l fun vs => K (.tup vs)
theorem rs1D {k : Rs1} {K : AV → Prop} (h : rs1W k K) : ∃ v, K v := by
  cases k with
  | one k => exact k1D h
  | agg l => obtain ⟨vs, h⟩ := ksD h; exact ⟨_, h⟩
theorem rsLD : ∀ {l : List Rs1} {K : List AV → Prop}, rsLW l K → ∃ vs, K vs
  | [], K, h => ⟨_, h⟩
  | k :: l, K, h => by
    obtain ⟨v, h1⟩ := rs1D h
    obtain ⟨vs, h2⟩ := rsLD h1
    exact ⟨_, h2⟩
theorem rsD {k : Rs} {K : AV → Prop} (h : rsW k K) : ∃ v, K v := by
  cases k with
  | of k => exact rs1D h
  | tup l => obtain ⟨vs, h⟩ := rsLD h; exact ⟨_, h⟩
/-- Quiet contracts, each with the shape of what comes back. -/
structure TbE where
  f : FuncId
  s : List AV → AHeap → Option AV
  r : Rs
def tbFind (g : FuncId) : List TbE → Option TbE
  | [] => none
  | x :: l => if x.f == g then some x else tbFind g l
theorem tbFind_mem {g : FuncId} : ∀ {l : List TbE} {x : TbE}, tbFind g l = some x → x ∈ l ∧ x.f = g
  | y :: l, x, h => by
    simp only [tbFind] at h
    split at h
    · rename_i hg; cases h; exact ⟨List.mem_cons_self, by simpa using hg⟩
    · obtain ⟨h1, h2⟩ := tbFind_mem h; exact ⟨List.mem_cons_of_mem _ h1, h2⟩
def tbS (Q : FuncId → Bool) (l : List TbE) : Specs := mkS Q (fun g => (tbFind g l).map TbE.s) fun _ => none
def tbW (Q : FuncId → Bool) (l : List TbE) (g : FuncId) : Option (List AV → AHeap → (AV × AHeap → Prop) → Prop) :=
  (tbFind g l).map fun x => fun vs h K => rsW x.r fun v => x.s vs h = some v ∧ K (v, h)
theorem tbS_ok {P : Program} {Q : FuncId → Bool} {l : List TbE} (hQ : ∀ g, Q g = true → ∃ fn, HasText P g fn) (h : ∀ x ∈ l, QuietOK P x.f x.s) : (tbS Q l).OK P :=
  mkS_ok hQ (fun g s _ hs => by
    simp only [Option.map_eq_some_iff] at hs
    obtain ⟨x, hx, rfl⟩ := hs
    obtain ⟨h1, rfl⟩ := tbFind_mem hx
    exact h x h1) (fun _ _ h => by cases h)
theorem tbS_q (Q : FuncId → Bool) (l : List TbE) : ∀ g, ((tbS Q l).q g).isSome = Q g := fun g => mkS_isSome g
theorem tbW_ok {Q : FuncId → Bool} {l : List TbE} (hl : l.all (fun x => Q x.f) = true) : CwOK (tbS Q l) (tbW Q l) := by
  intro g T vs h K hg hT
  unfold tbW at hg
  simp only [Option.map_eq_some_iff] at hg
  obtain ⟨x, hx, rfl⟩ := hg
  obtain ⟨v, h1, h2⟩ := rsD hT
  obtain ⟨hm, rfl⟩ := tbFind_mem hx
  have hQ := List.all_eq_true.1 hl x hm
  refine ⟨(v, h), ?_, h2⟩
  unfold callS tbS mkS
  simp only [hQ, if_true, hx, Option.map_some, Option.getD_some, h1]
/-- Code with calls by the table. -/
def tbC (Q : FuncId → Bool) (l : List TbE) (sy : Nat → Bool) (kd : Nat → Kd) : Cfg where
  S := tbS Q l
  sy := sy
  kd := kd
  cw := tbW Q l
  lw := fun _ => none
  gw := fun _ => none
  F := fun _ => ⟨[], .all⟩
  b0 := 0
section
variable {P : Program} {C : Cfg}
def postX (C : Cfg) (tn tx tr : Tidy) (K : AExit → St → Prop) : AExit → St → Prop
  | .normal, st => match tidyW C tn st with
    | (st1, bs) => chksW bs (K .normal st1)
  | .ret, st => match tidyW C tr st with
    | (st1, bs) => chksW bs (K .ret st1)
  | .exit i, st => match tidyW C tx st with
    | (st1, bs) => chksW bs (K (.exit i) st1)
  | .goto i, st => match tidyW C tx st with
    | (st1, bs) => chksW bs (K (.goto i) st1)
theorem W_postX {x : PC ⊕ (PC × PC)} {st : St} {tn tx tr : Tidy} {K : AExit → St → Prop} (h : W P C.S C.b0 x st (postX C tn tx tr K)) : W P C.S C.b0 x st K := by
  obtain ⟨e, st1, h1, h2⟩ := h
  have go : ∀ (t : Tidy) (e : AExit), Run P C.S C.b0 x st (e, st1) → (match tidyW C t st1 with | (st2, bs) => chksW bs (K e st2)) → W P C.S C.b0 x st K := by
    intro t e h1 h2
    have he : tidyW C t st1 = ((tidyW C t st1).1, (tidyW C t st1).2) := rfl
    rw [he] at h2
    obtain ⟨h3, h4⟩ := chksD h2
    refine ⟨e, _, .post t h1, ?_⟩
    rw [tidyW_ok C h3]
    exact h4
  cases e with
  | normal => exact go tn _ h1 h2
  | ret => exact go tr _ h1 h2
  | exit i => exact go tx _ h1 h2
  | goto i => exact go tx _ h1 h2
theorem W_wpX (hcw : CwOK C.S C.cw) {a : PC} (hp : ∀ x ∈ partsIn a, PartOK P C x) {n : Nat} {st : St} {tn tx tr : Tidy} {K : AExit → St → Prop} (h : wpP P C n (.inl a) st (postX C tn tx tr K)) : W P C.S C.b0 (.inl a) st K :=
  W_postX ((wpP_ok hcw n).1 a st _ hp h)
/-- A loop, round by round, however each round was shown. -/
theorem W_roundsG {S : Specs} {b0 : Nat} {a : PC} {σ : Type} (Cs : σ → St) (I : σ → Prop) (μ : σ → Nat) (K : σ → AExit → St → Prop)
    (h : ∀ s, I s → W P S b0 (.inl a) (Cs s) fun e st => match e with
      | .normal => ∃ s', st = Cs s' ∧ I s' ∧ μ s' < μ s ∧ ∀ e st, K s' e st → K s e st
      | e => K s e st) : ∀ s, I s → W P S b0 (.inl (.loop a)) (Cs s) (K s) := by
  intro s
  generalize hn : μ s = n
  induction n using Nat.strongRecOn generalizing s with
  | _ n ih =>
    intro hs
    refine W_loop (W_mono (h s hs) fun e st hk => ?_)
    cases e with
    | normal =>
      obtain ⟨s', rfl, h2, h3, h4⟩ := hk
      exact W_mono (ih (μ s') (by omega) s' rfl h2) h4
    | _ => exact hk
end
theorem part_loop {P : Program} {C : Cfg} {a : PC} {id : Nat} {T : St → (AExit → St → Prop) → Prop} (h1 : headId a = some id) (h2 : C.lw id = some T) (h3 : ∀ st K, T st K → W P C.S C.b0 (.inl (.loop a)) st K) : PartOK P C (.loop a) := by
  intro T' st K hT ht
  rw [h1, Option.bind_some, h2] at hT
  cases hT
  exact h3 st K ht
theorem part_none {P : Program} {C : Cfg} (h1 : ∀ i, C.lw i = none) (h2 : ∀ i, C.gw i = none) (x : PC) : PartOK P C x := by
  cases x with
  | loop a =>
    intro T st K hT
    cases h : headId a with
    | none => rw [h] at hT; cases hT
    | some i => rw [h, Option.bind_some, h1] at hT; cases hT
  | scope a =>
    intro l T r st K hT
    rw [h2] at hT; cases hT
  | _ => trivial
/-- Gotos backwards: what is told of a label holds at a smaller measure. -/
theorem part_gotos {P : Program} {C : Cfg} (hcw : CwOK C.S C.cw) {a : PC} (hp : ∀ x ∈ partsIn a, ∀ G, PartOK P { C with gw := G } x) (G : Nat → Nat → Option (St → (AExit → St → Prop) → Prop))
    (h : ∀ m l T r st K, G m l = some T → findP a l = some r → T st K → ∃ m' n, m' < m ∧ wpP P { C with gw := G m' } n (.inr (a, r)) st K) : ∀ m, PartOK P { C with gw := G m } (.scope a) := by
  intro m
  induction m using Nat.strongRecOn with
  | _ m ih =>
    intro l T r st K hT hf ht
    obtain ⟨m', n, hm, hw⟩ := h m l T r st K hT hf ht
    exact (wpP_ok (C := { C with gw := G m' }) hcw n).2 a r st K (fun x hx => hp x hx _) (fun x hx => hp x (parts_find a l r hf x hx) _) (ih m' hm) hw
theorem no_parts {P : Program} {C : Cfg} {c : PC} (h : partsIn c = []) : ∀ x ∈ partsIn c, PartOK P C x := by
  intro x hx; rw [h] at hx; cases hx
theorem one_part {P : Program} {C : Cfg} {c a : PC} (h : partsIn c = [a]) (ha : PartOK P C a) : ∀ x ∈ partsIn c, PartOK P C x := by
  intro x hx; rw [h, List.mem_singleton] at hx; subst hx; exact ha
end Go.Am
