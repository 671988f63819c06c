/- Runs as a relation, memory tidied at any point; what a piece of code must come to. -/
import Derived.Test.YtfnlokknpldkgaaAmZd
set_option linter.unusedVariables false
set_option linter.unusedSimpArgs false
namespace Go.Am
open Go Go.RowKit
/-- What is known of a piece of a round. -/
def PSnd (P : Program) (S : Specs) (n : Nat) (pc : PC) (st : St) (e : AExit) (st' : St) : Prop := ∀ (Q : FuncId → Bool) (c : Code), (∀ g, (S.q g).isSome = Q g) → comp P Q c = some pc → RSnd P n c st e st'
/-- What a piece of code comes to. -/
inductive Run (P : Program) (S : Specs) (b0 : Nat) : PC ⊕ (PC × PC) → St → AExit × St → Prop
  | skip {st : St} : Run P S b0 (.inl .skip) st (.normal, st)
  | label {l : Nat} {st : St} : Run P S b0 (.inl (.label l)) st (.normal, st)
  | ops {id na : Nat} {l : List PO} {st st' : St} (h : evalOpsR P S st.2.length l (withHoles na st) = some st') : Run P S b0 (.inl (.ops id na l)) st (.normal, st')
  | ops2 {id na : Nat} {ls : List Nat} {l r : List PO} {st st' : St} (h : ((evalHeadR P S ls 0 st.2.length l (withHoles na st, List.replicate (l.length + r.length) none)).bind fun x => evalOpsR P S (st.2.length + (l.filter (·.ri.isAlloc)).length) r x.1) = some st') : Run P S b0 (.inl (.ops2 id na ls l r)) st (.normal, st')
  | ops3 {id na : Nat} {hd : List (Nat × Nat × PO)} {tl : List (Nat × Nat × PO × List Nat)} {us : List FuncId} {st st' : St} {x : St × RLd} (hu : us.all S.u = true) (h1 : evalHM P S st.2.length hd (withHoles na st, []) = some x) (h2 : TRun P S st.2.length tl x st') : Run P S b0 (.inl (.ops3 id na hd tl us)) st (.normal, st')
  | rf {g : Operand} {ps : List Tmp} {p0 p1 : Tmp} {as body : PC} {st : St} {gf : FuncId} {b o : Nat} (hps : ps = [p0, p1]) (hit : S.rf gf = true) (hg : evalOperand st.1 g = some (.fn gf [] [.ptr (some (b, o))]))
      {sl : AV} {cb : List AV} (hcb : cellsAt st.2 b = some cb) (hbo : cb[o]? = some sl) {zs : List Int}
      (hsl : (sl = .sl none 0 (.fix 0) ∧ zs = []) ∨ ∃ k q cp cs, sl = .sl (some (k, q)) zs.length cp ∧ cellsAt st.2 k = some cs ∧ ∀ (j : Nat) (z : Int), zs[j]? = some z → cs[q + j]? = some (.int .i64 z))
      (hlen : zs.length ≤ 9223372036854775807) (sts mid : Nat → St) (h00 : (sts 0).2 = st.2) {m : Nat} (hm : m ≤ zs.length)
      (hkeep : ∀ i, i ≤ m → cellsAt (sts i).2 b = some cb ∧ ∀ k q n cp, sl = .sl (some (k, q)) n cp → cellsAt (sts i).2 k = cellsAt st.2 k)
      (has : ∀ (i : Nat) (z : Int), i < m → zs[i]? = some z → PSnd P S st.2.length as (roundEnv p0 p1 st.1 i z, (sts i).2) .normal (mid i))
      (hbd : ∀ i, i < m → PSnd P S st.2.length body (mid i) .normal (sts (i + 1))) {r : AExit × St}
      (hfin : (m = zs.length ∧ r = (.normal, (st.1, (sts m).2))) ∨ ∃ z e st', zs[m]? = some z ∧ PSnd P S st.2.length as (roundEnv p0 p1 st.1 m z, (sts m).2) .normal (mid m) ∧ PSnd P S st.2.length body (mid m) e st' ∧ e ≠ .normal ∧ r = (e, (st.1, st'.2))) :
      Run P S b0 (.inl (.rf g ps as body)) st r
  | seqN {a b : PC} {st st1 : St} {r : AExit × St} (h1 : Run P S b0 (.inl a) st (.normal, st1)) (h2 : Run P S b0 (.inl b) st1 r) : Run P S b0 (.inl (.seq a b)) st r
  | seqX {a b : PC} {st st1 : St} {e : AExit} (h1 : Run P S b0 (.inl a) st (e, st1)) (he : e ≠ .normal) : Run P S b0 (.inl (.seq a b)) st (e, st1)
  | cond {c : Operand} {x y : PC} {st : St} {b : Bool} {r : AExit × St} (hc : evalOperand st.1 c = some (.bool b)) (h : Run P S b0 (.inl (if b then x else y)) st r) : Run P S b0 (.inl (.cond c x y)) st r
  | blockX {id : Nat} {a : PC} {st st1 : St} (h : Run P S b0 (.inl a) st (.exit id, st1)) : Run P S b0 (.inl (.block id a)) st (.normal, st1)
  | blockN {id : Nat} {a : PC} {st st1 : St} {e : AExit} (h : Run P S b0 (.inl a) st (e, st1)) (he : e ≠ .exit id) : Run P S b0 (.inl (.block id a)) st (e, st1)
  | loopN {a : PC} {st st1 : St} {r : AExit × St} (h1 : Run P S b0 (.inl a) st (.normal, st1)) (h2 : Run P S b0 (.inl (.loop a)) st1 r) : Run P S b0 (.inl (.loop a)) st r
  | loopX {a : PC} {st st1 : St} {e : AExit} (h1 : Run P S b0 (.inl a) st (e, st1)) (he : e ≠ .normal) : Run P S b0 (.inl (.loop a)) st (e, st1)
  | exit {id : Nat} {st : St} : Run P S b0 (.inl (.exit id)) st (.exit id, st)
  | goto {l : Nat} {st : St} : Run P S b0 (.inl (.goto l)) st (.goto l, st)
  | ret {st : St} : Run P S b0 (.inl .ret) st (.ret, st)
  | scope {a : PC} {st : St} {r : AExit × St} (h : Run P S b0 (.inr (a, a)) st r) : Run P S b0 (.inl (.scope a)) st r
  | rest {c rest : PC} {st st1 : St} {e : AExit} (h : Run P S b0 (.inl rest) st (e, st1)) (he : ∀ l, e = .goto l → findP c l = none) : Run P S b0 (.inr (c, rest)) st (e, st1)
  | restG {c rest r' : PC} {st st1 : St} {l : Nat} {r : AExit × St} (h : Run P S b0 (.inl rest) st (.goto l, st1)) (hf : findP c l = some r') (h2 : Run P S b0 (.inr (c, r')) st1 r) : Run P S b0 (.inr (c, rest)) st r
  | pre (t : Tidy) {x : PC ⊕ (PC × PC)} {st : St} {r : AExit × St} (h : Run P S b0 x (tidy b0 t st) r) : Run P S b0 x st r
  | post (t : Tidy) {x : PC ⊕ (PC × PC)} {st st1 : St} {e : AExit} (h : Run P S b0 x st (e, st1)) : Run P S b0 x st (e, tidy b0 t st1)
  | ev {F : Nat → Tidy} {n : Nat} {x : PC ⊕ (PC × PC)} {st : St} {r : AExit × St} (h : evG P S b0 F n x st = some r) : Run P S b0 x st r
section
variable {P : Program} {S : Specs} {Q : FuncId → Bool} {B : Fr} {w0 : World} {ρ0 : Rho} {h0 : AHeap}
theorem rounds_mono {R : Option Nat} {c : Code} {Q Q' : Exit → Act → World → Prop} (hq : ∀ e a w, Q e a w → Q' e a w) : ∀ (n : Nat) (a : Act) (w : World), Code.roundsIn (fR R) 0 P c Q n a w → Code.roundsIn (fR R) 0 P c Q' n a w
  | 0, _, _, h => h
  | n + 1, a, w, h => by
    rw [roundsIn_succ] at h ⊢
    refine wpIn_mono h fun e a w hx => ?_
    cases e <;> first | exact rounds_mono hq n _ _ hx | exact hq _ _ _ hx
/-- What a run says of the code, in frames of one kind. -/
def Snd (R : Option Nat) (P : Program) (Q : FuncId → Bool) (B : Fr) (w0 : World) (ρ0 : Rho) (h0 : AHeap) (x : PC ⊕ (PC × PC)) (st : St) (r : AExit × St) : Prop :=
  match x with
  | .inl pc => ∀ c, comp P Q c = some pc → CodeSoundR R P B w0 ρ0 h0 (.inl c) st r.1 r.2 ∧
      ∀ body, c = .loop body → ∃ m, ∀ a w, Rel B w0 ρ0 h0 st a w → Code.roundsIn (fR R) 0 P body (fun ex a' w' => ex = r.1.real ∧ Rel B w0 ρ0 h0 r.2 a' w') m a w
  | .inr (pc, pr) => ∀ c rest, comp P Q c = some pc → comp P Q rest = some pr → CodeSoundR R P B w0 ρ0 h0 (.inr (c, rest)) st r.1 r.2
theorem comp_seq {c : Code} {a b : PC} (h : comp P Q c = some (.seq a b)) : ∃ x y, c = .seq x y ∧ comp P Q x = some a ∧ comp P Q y = some b := by
  cases c <;> simp only [comp, Option.some.injEq, Option.bind_eq_some_iff, Option.map_eq_some_iff, reduceCtorEq, and_false, exists_false, PC.seq.injEq] at h
  case region => split at h <;> (try split at h) <;> (try split at h) <;> simp at h
  case seq x y => obtain ⟨u, h1, v, h2, rfl, rfl⟩ := h; exact ⟨x, y, rfl, h1, h2⟩
theorem comp_cond {c : Code} {q : Operand} {a b : PC} (h : comp P Q c = some (.cond q a b)) : ∃ x y, c = .cond q x y ∧ comp P Q x = some a ∧ comp P Q y = some b := by
  cases c <;> simp only [comp, Option.some.injEq, Option.bind_eq_some_iff, Option.map_eq_some_iff, reduceCtorEq, and_false, exists_false, PC.cond.injEq] at h
  case region => split at h <;> (try split at h) <;> (try split at h) <;> simp at h
  case cond q' x y => obtain ⟨u, h1, v, h2, rfl, rfl, rfl⟩ := h; exact ⟨x, y, rfl, h1, h2⟩
theorem comp_block {c : Code} {id : Nat} {a : PC} (h : comp P Q c = some (.block id a)) : ∃ x, c = .block id x ∧ comp P Q x = some a := by
  cases c <;> simp only [comp, Option.some.injEq, Option.bind_eq_some_iff, Option.map_eq_some_iff, reduceCtorEq, and_false, exists_false, PC.block.injEq] at h
  case region => split at h <;> (try split at h) <;> (try split at h) <;> simp at h
  case block x => obtain ⟨u, h1, rfl, rfl⟩ := h; exact ⟨_, rfl, h1⟩
theorem comp_loop {c : Code} {a : PC} (h : comp P Q c = some (.loop a)) : ∃ x, c = .loop x ∧ comp P Q x = some a := by
  cases c <;> simp only [comp, Option.some.injEq, Option.bind_eq_some_iff, Option.map_eq_some_iff, reduceCtorEq, and_false, exists_false, PC.loop.injEq] at h
  case region => split at h <;> (try split at h) <;> (try split at h) <;> simp at h
  case loop x => obtain ⟨u, h1, rfl⟩ := h; exact ⟨_, rfl, h1⟩
theorem comp_scope {c : Code} {a : PC} (h : comp P Q c = some (.scope a)) : ∃ x, c = .scope x ∧ comp P Q x = some a := by
  cases c <;> simp only [comp, Option.some.injEq, Option.bind_eq_some_iff, Option.map_eq_some_iff, reduceCtorEq, and_false, exists_false, PC.scope.injEq] at h
  case region => split at h <;> (try split at h) <;> (try split at h) <;> simp at h
  case scope x => obtain ⟨u, h1, rfl⟩ := h; exact ⟨_, rfl, h1⟩
theorem comp_exit {c : Code} {a : Nat} (h : comp P Q c = some (.exit a)) : c = .exit a := by
  cases c <;> simp only [comp, Option.some.injEq, Option.bind_eq_some_iff, Option.map_eq_some_iff, reduceCtorEq, and_false, exists_false, PC.exit.injEq] at h
  case region => split at h <;> (try split at h) <;> (try split at h) <;> simp at h
  case exit => rw [h]
theorem comp_goto {c : Code} {a : Nat} (h : comp P Q c = some (.goto a)) : c = .goto a := by
  cases c <;> simp only [comp, Option.some.injEq, Option.bind_eq_some_iff, Option.map_eq_some_iff, reduceCtorEq, and_false, exists_false, PC.goto.injEq] at h
  case region => split at h <;> (try split at h) <;> (try split at h) <;> simp at h
  case goto => rw [h]
theorem comp_label {c : Code} {a : Nat} (h : comp P Q c = some (.label a)) : c = .label a := by
  cases c <;> simp only [comp, Option.some.injEq, Option.bind_eq_some_iff, Option.map_eq_some_iff, reduceCtorEq, and_false, exists_false, PC.label.injEq] at h
  case region => split at h <;> (try split at h) <;> (try split at h) <;> simp at h
  case label => rw [h]
theorem comp_skip {c : Code} (h : comp P Q c = some .skip) : c = .skip := by
  cases c <;> simp only [comp, Option.some.injEq, Option.bind_eq_some_iff, Option.map_eq_some_iff, reduceCtorEq, and_false, exists_false] at h
  case region => split at h <;> (try split at h) <;> (try split at h) <;> simp at h
  case skip => rfl
theorem comp_ret {c : Code} (h : comp P Q c = some .ret) : c = .ret := by
  cases c <;> simp only [comp, Option.some.injEq, Option.bind_eq_some_iff, Option.map_eq_some_iff, reduceCtorEq, and_false, exists_false] at h
  case region => split at h <;> (try split at h) <;> (try split at h) <;> simp at h
  case ret => rfl
theorem comp_ops3 {c : Code} {id na : Nat} {hd : List (Nat × Nat × PO)} {tl : List (Nat × Nat × PO × List Nat)} {us : List FuncId} (h : comp P Q c = some (.ops3 id na hd tl us)) :
    ∃ ops l, c = .region id ops true ∧ isMix P Q ops true = true ∧ ops.toList.mapM (poOf P ops) = some l ∧ na = nAlloc P ops.toList ∧ hd = mixHd P ops l ∧ tl = mixTl P ops l ∧ us = uniOf P ops (mixH P ops) (mixB P ops) := by
  cases c <;> simp only [comp, Option.some.injEq, Option.bind_eq_some_iff, Option.map_eq_some_iff, reduceCtorEq, and_false, exists_false] at h
  case region id' ops draw => 
    split at h
    · rename_i hx
      simp only [Option.map_eq_some_iff, PC.ops3.injEq] at h
      obtain ⟨l, hl, rfl, rfl, rfl, rfl, rfl⟩ := h
      have hd : draw = true := by
        unfold isMix at hx
        simp only [Bool.and_eq_true] at hx
        exact hx.1.1.1.1
      subst hd
      exact ⟨ops, l, rfl, hx, hl, rfl, rfl, rfl, rfl⟩
    · split at h
      · split at h <;> simp at h
      · split at h <;> simp at h
theorem comp_rf {c : Code} {g : Operand} {ps : List Tmp} {as body : PC} (h : comp P Q c = some (.rf g ps as body)) : ∃ x y, c = .rangeFunc g ps.toArray x y ∧ comp P Q x = some as ∧ comp P Q y = some body := by
  cases c <;> simp only [comp, Option.some.injEq, Option.bind_eq_some_iff, Option.map_eq_some_iff, reduceCtorEq, and_false, exists_false, PC.rf.injEq] at h
  case region => split at h <;> (try split at h) <;> (try split at h) <;> simp at h
  case rangeFunc g' ps' x y => obtain ⟨u, h1, v, h2, rfl, rfl, rfl, rfl⟩ := h; exact ⟨x, y, rfl, h1, h2⟩
/-- Nothing is dropped. -/
def tid0 : Tidy := ⟨[], .all⟩
theorem tidy_all (b : Nat) (st : St) : tidy b tid0 st = st := rfl
theorem run_ev {R : Option Nat} {b0 : Nat} {F : Nat → Tidy} {n : Nat} {x : PC ⊕ (PC × PC)} {st : St} {r : AExit × St} (hb : h0.length ≤ b0) (hm : P.follows .mixedOrders = true) (hS : S.OK P) (hQ : ∀ g, (S.q g).isSome = Q g)
    (h : evG P S b0 F n x st = some r) : Snd R P Q B w0 ρ0 h0 x st r := by
  obtain ⟨e, st'⟩ := r
  cases x with
  | inl pc =>
    intro c hc
    have h1 := (code_resolvedg hQ F n).1 c pc st _ hc h
    refine ⟨(evg_sound hb hm hS F n _ _ _ _ h1).at R, fun body hl => ?_⟩
    subst hl
    exact ⟨n, loop_roundsg F n (fun k hk st e st' h => evg_sound hb hm hS F k _ st e st' h) st e st' h1 R⟩
  | inr p =>
    obtain ⟨pc, pr⟩ := p
    intro c rest hc hr
    exact (evg_sound hb hm hS F n _ _ _ _ ((code_resolvedg hQ F n).2 c rest pc pr st _ hc hr h)).at R
theorem run_sound {R : Option Nat} {b0 : Nat} (hb : h0.length ≤ b0) (hm : P.follows .mixedOrders = true) (hS : S.OK P) (hQ : ∀ g, (S.q g).isSome = Q g) (hRf : (∃ g, S.rf g = true) → R = none) {x : PC ⊕ (PC × PC)} {st : St} {r : AExit × St}
    (h : Run P S b0 x st r) : Snd R P Q B w0 ρ0 h0 x st r := by
  induction h with
  | skip => intro c hc; obtain rfl := comp_skip hc; exact ⟨fun a w hR => wpIn_skip ⟨rfl, hR⟩, fun _ h => by cases h⟩
  | label => intro c hc; obtain rfl := comp_label hc; exact ⟨fun a w hR => wpIn_label ⟨rfl, hR⟩, fun _ h => by cases h⟩
  | exit => intro c hc; obtain rfl := comp_exit hc; exact ⟨fun a w hR => wpIn_exit ⟨rfl, hR⟩, fun _ h => by cases h⟩
  | goto => intro c hc; obtain rfl := comp_goto hc; exact ⟨fun a w hR => wpIn_goto ⟨rfl, hR⟩, fun _ h => by cases h⟩
  | ret => intro c hc; obtain rfl := comp_ret hc; exact ⟨fun a w hR => wpIn_ret ⟨rfl, hR⟩, fun _ h => by cases h⟩
  | @ops id na l st st' h =>
    exact run_ev hb hm hS hQ (F := fun _ => tid0) (n := 1) (by simp only [evG, tidy_all, h, Option.map_some])
  | @ops2 id na ls l r st st' h =>
    exact run_ev hb hm hS hQ (F := fun _ => tid0) (n := 1) (by simp only [evG, tidy_all, h, Option.map_some])
  | @ops3 id na hd tl us st st' x hu h1 h2 =>
    intro c hc
    obtain ⟨ops, l, rfl, hmx, hl, rfl, rfl, rfl, rfl⟩ := comp_ops3 hc
    rw [List.all_eq_true] at hu
    exact ⟨mix_resolved hm hS hQ hmx hl (fun g hg => hS.u g (hu g hg)) h1 h2, fun _ h => by cases h⟩
  | @rf g ps p0 p1 as body st gf b o hps hit hg sl cb hcb hbo zs hsl hlen sts mid h00 m hmz hkeep has hbd r hfin =>
    intro c hc
    obtain ⟨x, y, rfl, hx, hy⟩ := comp_rf hc
    obtain rfl := hRf ⟨_, hit⟩
    refine ⟨rf_sound (hS.rf gf hit) (ps := ps.toArray) (by rw [hps]) hg hcb hbo hsl hlen sts mid h00 hmz hkeep (fun i z hi hz => has i z hi hz Q x hQ hx) (fun i hi => hbd i hi Q y hQ hy) ?_, fun _ h => by cases h⟩
    rcases hfin with hfin | ⟨z, e, st', g1, g2, g3, g4, g5⟩
    · exact .inl hfin
    · exact .inr ⟨z, e, st', g1, g2 Q x hQ hx, g3 Q y hQ hy, g4, g5⟩
  | @seqN a b st st1 r h1 h2 i1 i2 =>
    intro c hc
    obtain ⟨x, y, rfl, hx, hy⟩ := comp_seq hc
    refine ⟨fun a w hR => wpIn_seq ?_, fun _ h => by cases h⟩
    refine wpIn_mono ((i1 x hx).1 a w hR) fun ex a' w' ⟨hex, hR'⟩ => ?_
    subst hex
    exact (i2 y hy).1 a' w' hR'
  | @seqX a b st st1 e h1 he i1 =>
    intro c hc
    obtain ⟨x, y, rfl, hx, hy⟩ := comp_seq hc
    refine ⟨fun a w hR => wpIn_seq ?_, fun _ h => by cases h⟩
    refine wpIn_mono ((i1 x hx).1 a w hR) fun ex a' w' ⟨hex, hR'⟩ => ?_
    subst hex
    cases e <;> first | exact absurd rfl he | exact ⟨rfl, hR'⟩
  | @cond q x y st b r hc h i =>
    intro c hcc
    obtain ⟨x', y', rfl, hx, hy⟩ := comp_cond hcc
    refine ⟨fun a w hR => ?_, fun _ h => by cases h⟩
    obtain ⟨_, _, _, _, ρ, hI, hF, _⟩ := id hR
    have hop := operand_sound hF hc
    refine wpIn_cond (t := b) hop ?_
    cases b with
    | true => exact (i x' hx).1 a w hR
    | false => exact (i y' hy).1 a w hR
  | @blockX id a st st1 h i =>
    intro c hc
    obtain ⟨x, rfl, hx⟩ := comp_block hc
    refine ⟨fun a w hR => wpIn_block ?_, fun _ h => by cases h⟩
    refine wpIn_mono ((i x hx).1 a w hR) fun ex a' w' ⟨hex, hR'⟩ => ?_
    subst hex
    simp only [AExit.real, Exit.inBlock, if_true]
    exact ⟨trivial, hR'⟩
  | @blockN id a st st1 e h he i =>
    intro c hc
    obtain ⟨x, rfl, hx⟩ := comp_block hc
    refine ⟨fun a w hR => wpIn_block ?_, fun _ h => by cases h⟩
    refine wpIn_mono ((i x hx).1 a w hR) fun ex a' w' ⟨hex, hR'⟩ => ?_
    subst hex
    cases e with
    | exit id' =>
      have hne : ¬ id' = id := fun e => he (by rw [e])
      simp only [AExit.real, Exit.inBlock, if_neg hne]
      exact ⟨trivial, hR'⟩
    | _ => exact ⟨rfl, hR'⟩
  | @loopN a st st1 r h1 h2 i1 i2 =>
    intro c hc
    obtain ⟨x, rfl, hx⟩ := comp_loop hc
    obtain ⟨m, hm'⟩ := (i2 _ hc).2 x rfl
    have key : ∀ a w, Rel B w0 ρ0 h0 st a w → Code.roundsIn (fR R) 0 P x (fun ex a' w' => ex = r.1.real ∧ Rel B w0 ρ0 h0 r.2 a' w') (m + 1) a w := fun a w hR => by
      rw [roundsIn_succ]
      refine wpIn_mono ((i1 x hx).1 a w hR) fun ex a' w' ⟨hex, hR'⟩ => ?_
      subst hex
      exact hm' a' w' hR'
    exact ⟨fun a w hR => wpIn_loop_rounds (m + 1) (key a w hR), fun body hb => by cases hb; exact ⟨m + 1, key⟩⟩
  | @loopX a st st1 e h1 he i1 =>
    intro c hc
    obtain ⟨x, rfl, hx⟩ := comp_loop hc
    have key : ∀ a w, Rel B w0 ρ0 h0 st a w → Code.roundsIn (fR R) 0 P x (fun ex a' w' => ex = e.real ∧ Rel B w0 ρ0 h0 st1 a' w') 1 a w := fun a w hR => by
      rw [roundsIn_succ]
      refine wpIn_mono ((i1 x hx).1 a w hR) fun ex a' w' ⟨hex, hR'⟩ => ?_
      subst hex
      cases e <;> first | exact absurd rfl he | exact ⟨rfl, hR'⟩
    exact ⟨fun a w hR => wpIn_loop_rounds 1 (key a w hR), fun body hb => by cases hb; exact ⟨1, key⟩⟩
  | @scope a st r h i =>
    intro c hc
    obtain ⟨x, rfl, hx⟩ := comp_scope hc
    refine ⟨fun a w hR b k cs hro _ _ => ?_, fun _ h => by cases h⟩
    obtain ⟨a', w', hR', harr⟩ := i x x hx hx a w hR b k cs hro
    exact ⟨_, a', w', ⟨rfl, hR'⟩, .of_steps (.one (fenced_calm (n := 0) trivial (fun _ hd => by cases hd) rfl) stepR_scope) harr⟩
  | @rest pc pr st st1 e h he i =>
    intro c rest hc hr a w hR b k cs hro
    obtain ⟨ex, a1, w1, ⟨hex, hR1⟩, harr⟩ := (i rest hr).1 a w hR b (.inScope c :: k) cs hro trivial (fun _ hd => by cases hd)
    subst hex
    cases e with
    | normal => exact ⟨a1, w1, hR1, StepsIn.trans harr (.one (fenced_calm (n := 0) trivial (fun _ hd => by cases hd) rfl) stepR_inScope)⟩
    | exit id => exact ⟨a1, w1, hR1, fun k' hk => harr.1 k' (by simp [exitTo, hk]), fun hr hk => harr.2 hr (by simp [exitTo, hk])⟩
    | goto l =>
      have hf := find_resolved c pc hc l
      cases hl : findLabel c l with
      | none => exact ⟨a1, w1, hR1, fun k' hk => harr.1 k' (by simp [gotoIn, hl, hk]), fun hr hk => harr.2 hr (by simp [gotoIn, hl, hk])⟩
      | some r' =>
        rw [hl] at hf
        obtain ⟨pr', e2, _⟩ := hf
        rw [he l rfl] at e2
        cases e2
    | ret => exact ⟨a1, w1, hR1, harr⟩
  | @restG pc pr pr' st st1 l r h hf h2 i i2 =>
    intro c rest hc hr a w hR b k cs hro
    obtain ⟨ex, a1, w1, ⟨hex, hR1⟩, harr⟩ := (i rest hr).1 a w hR b (.inScope c :: k) cs hro trivial (fun _ hd => by cases hd)
    subst hex
    have hfr := find_resolved c pc hc l
    cases hl : findLabel c l with
    | none =>
      rw [hl] at hfr
      simp only at hfr
      rw [hfr] at hf
      cases hf
    | some r' =>
      rw [hl] at hfr
      obtain ⟨pr2, e2, e3⟩ := hfr
      rw [e2] at hf
      cases hf
      obtain ⟨a2, w2, hR2, harr2⟩ := i2 c r' hc e3 a1 w1 hR1 b k cs hro
      exact ⟨a2, w2, hR2, ArrivesIn.of_steps (harr.1 _ (by simp [gotoIn, hl])) harr2⟩
  | @pre t x st r h i =>
    cases x with
    | inl pc =>
      intro c hc
      obtain ⟨i1, i2⟩ := i c hc
      refine ⟨fun a w hR => i1 a w (rel_tidy hb t hR), fun body hl => ?_⟩
      obtain ⟨m, hm'⟩ := i2 body hl
      exact ⟨m, fun a w hR => hm' a w (rel_tidy hb t hR)⟩
    | inr p =>
      intro c rest hc hr a w hR b k cs hro
      exact i c rest hc hr a w (rel_tidy hb t hR) b k cs hro
  | @post t x st st1 e h i =>
    cases x with
    | inl pc =>
      intro c hc
      obtain ⟨i1, i2⟩ := i c hc
      refine ⟨fun a w hR => wpIn_mono (i1 a w hR) fun ex a' w' ⟨h1, h2⟩ => ⟨h1, rel_tidy hb t h2⟩, fun body hl => ?_⟩
      obtain ⟨m, hm'⟩ := i2 body hl
      exact ⟨m, fun a w hR => rounds_mono (fun ex a' w' ⟨h1, h2⟩ => ⟨h1, rel_tidy hb t h2⟩) m a w (hm' a w hR)⟩
    | inr p =>
      intro c rest hc hr a w hR b k cs hro
      obtain ⟨a', w', h1, h2⟩ := i c rest hc hr a w hR b k cs hro
      exact ⟨a', w', rel_tidy hb t h1, h2⟩
  | ev h => exact run_ev hb hm hS hQ h
end
/-- A function's results. -/
def resP (P : Program) (pf : PF) (st : St) : Option AV := (pf.results.mapM (resultA P st)).map fun vs => match vs with | [v] => v | vs => .tup vs
theorem resP_of {P : Program} {Q : FuncId → Bool} {fn : Func} {pf : PF} (hc : compF P Q fn = some pf) (st : St) : resultsA P fn st = resP P pf st := by
  simp only [compF, Option.bind_eq_some_iff, Option.map_eq_some_iff] at hc
  obtain ⟨c, hb, pc, hpc, rfl⟩ := hc
  rfl
section
variable {P : Program} {S : Specs} {Q : FuncId → Bool}
/-- Where a function's code begins. -/
def startP (pf : PF) (args : List AV) (h : AHeap) : St := (args ++ List.replicate (pf.ntmps - args.length) .any, h)
theorem sem_of_run (hm : P.follows .mixedOrders = true) (hS : S.OK P) (hQ : ∀ g, (S.q g).isSome = Q g) {f : FuncId} {fn : Func} {pf : PF} (hf : HasText P f fn) (hc : compF P Q fn = some pf) {args : List AV} {h h' : AHeap} {v : AV} {e : AExit} {st : St}
    (hr : Run P S h.length (.inl pf.body) (startP pf args h) (e, st)) (he : e = .normal ∨ e = .ret) (hv : resP P pf st = some v) (hh : st.2 = h') : CallSem P f args h v h' := by
  intro ρ B w0 w hI hok
  have hv' : resultsA P fn st = some v := (resP_of hc st).trans hv
  simp only [compF, Option.bind_eq_some_iff, Option.map_eq_some_iff] at hc
  obtain ⟨c, hb, pc, hpc, rfl⟩ := hc
  refine calls_of_marks hf.1 hb ?_
  have hR : Rel B w0 ρ h (args ++ List.replicate (fn.ntmps - args.length) .any, h) { tmps := (args.map (AV.real ρ)).toArray ++ Array.replicate (fn.ntmps - (args.map (AV.real ρ)).toArray.size) undef, defers := [] } w := by
    refine Rel.of_D ⟨ρ, hI, ⟨by simp, fun i u hi hu => ?_⟩, fun u hu => ?_, rfl, fun i hi => ⟨hi, rfl⟩⟩
    · rcases Nat.lt_or_ge i args.length with q | q
      · simp only [List.getElem?_append_left q] at hi
        rw [Array.getElem?_append_left (by simpa using q)]
        simp [hi]
      · simp only [List.getElem?_append_right q] at hi
        exact absurd (List.eq_of_mem_replicate (List.mem_of_getElem? hi)) hu
    · rcases List.mem_append.1 hu with hu | hu
      · exact hok u hu
      · rw [List.eq_of_mem_replicate hu]; rfl
  have h2 := (run_sound (Q := Q) (B := B) (w0 := w0) (ρ0 := ρ) (h0 := h) (Nat.le_refl _) hm hS hQ (fun _ => rfl) hr c hpc).1 _ w hR
  refine wpIn_mono h2 fun ex a' w' ⟨hex, hR'⟩ => ?_
  subst hex
  subst hh
  have fin := leaves_sound (P := P) hR' hv'
  rcases he with rfl | rfl
  · exact fin
  · exact fin
/-- Run from here, the code comes to what K says. -/
def W (P : Program) (S : Specs) (b0 : Nat) (x : PC ⊕ (PC × PC)) (st : St) (K : AExit → St → Prop) : Prop := ∃ e st', Run P S b0 x st (e, st') ∧ K e st'
variable {b0 : Nat} {x : PC ⊕ (PC × PC)} {st : St} {K K' : AExit → St → Prop}
theorem W_mono (h : W P S b0 x st K) (hk : ∀ e st, K e st → K' e st) : W P S b0 x st K' := by
  obtain ⟨e, st', h1, h2⟩ := h
  exact ⟨e, st', h1, hk _ _ h2⟩
theorem W_pre (t : Tidy) (h : W P S b0 x (tidy b0 t st) K) : W P S b0 x st K := by
  obtain ⟨e, st', h1, h2⟩ := h
  exact ⟨e, st', .pre t h1, h2⟩
/-- Going on behind a piece. -/
def thenW (N : St → Prop) (K : AExit → St → Prop) : AExit → St → Prop
  | .normal, st => N st
  | e, st => K e st
theorem W_seq {a b : PC} (h : W P S b0 (.inl a) st (thenW (fun st => W P S b0 (.inl b) st K) K)) : W P S b0 (.inl (.seq a b)) st K := by
  obtain ⟨e, st1, h1, h2⟩ := h
  cases e with
  | normal =>
    obtain ⟨e2, st2, h3, h4⟩ := h2
    exact ⟨e2, st2, .seqN h1 h3, h4⟩
  | _ => exact ⟨_, st1, .seqX h1 (fun h => by cases h), h2⟩
def blockW (id : Nat) (K : AExit → St → Prop) : AExit → St → Prop
  | .exit i, st => if i = id then K .normal st else K (.exit i) st
  | e, st => K e st
theorem W_block {id : Nat} {a : PC} (h : W P S b0 (.inl a) st (blockW id K)) : W P S b0 (.inl (.block id a)) st K := by
  obtain ⟨e, st1, h1, h2⟩ := h
  cases e with
  | exit i =>
    simp only [blockW] at h2
    split at h2
    · rename_i hi; subst hi; exact ⟨_, st1, .blockX h1, h2⟩
    · rename_i hi; exact ⟨_, st1, .blockN h1 (fun h => hi (by cases h; rfl)), h2⟩
  | _ => exact ⟨_, st1, .blockN h1 (fun h => by cases h), h2⟩
theorem W_loop {a : PC} (h : W P S b0 (.inl a) st (thenW (fun st => W P S b0 (.inl (.loop a)) st K) K)) : W P S b0 (.inl (.loop a)) st K := by
  obtain ⟨e, st1, h1, h2⟩ := h
  cases e with
  | normal =>
    obtain ⟨e2, st2, h3, h4⟩ := h2
    exact ⟨e2, st2, .loopN h1 h3, h4⟩
  | _ => exact ⟨_, st1, .loopX h1 (fun h => by cases h), h2⟩
def gotoW (G : Nat → Option (St → Prop)) (K : AExit → St → Prop) : AExit → St → Prop
  | .goto l, st => match G l with
    | some N => N st
    | none => K (.goto l) st
  | e, st => K e st
theorem W_rest {c r : PC} (h : W P S b0 (.inl r) st (gotoW (fun l => (findP c l).map fun r' => fun st => W P S b0 (.inr (c, r')) st K) K)) : W P S b0 (.inr (c, r)) st K := by
  obtain ⟨e, st1, h1, h2⟩ := h
  cases e with
  | goto l =>
    simp only [gotoW] at h2
    cases hf : findP c l with
    | some r' =>
      simp only [hf, Option.map_some] at h2
      obtain ⟨e2, st2, h3, h4⟩ := h2
      exact ⟨e2, st2, .restG h1 hf h3, h4⟩
    | none =>
      simp only [hf, Option.map_none] at h2
      exact ⟨_, st1, .rest h1 (fun l' h => by cases h; exact hf), h2⟩
  | _ => exact ⟨_, st1, .rest h1 (fun l' h => by cases h), h2⟩
theorem W_scope {a : PC} (h : W P S b0 (.inr (a, a)) st K) : W P S b0 (.inl (.scope a)) st K := by
  obtain ⟨e, st1, h1, h2⟩ := h
  exact ⟨e, st1, .scope h1, h2⟩
/-- What a function hands back. -/
def retW (P : Program) (pf : PF) (R : AV → AHeap → Prop) : AExit → St → Prop
  | .normal, st => match resP P pf st with | some v => R v st.2 | none => False
  | .ret, st => match resP P pf st with | some v => R v st.2 | none => False
  | _, _ => False
theorem sem_of_W (hm : P.follows .mixedOrders = true) (hS : S.OK P) (hQ : ∀ g, (S.q g).isSome = Q g) {f : FuncId} {fn : Func} {pf : PF} (hf : HasText P f fn) (hc : compF P Q fn = some pf) {args : List AV} {h : AHeap} {R : AV → AHeap → Prop}
    (hw : W P S h.length (.inl pf.body) (startP pf args h) (retW P pf R)) : ∃ v h', R v h' ∧ CallSem P f args h v h' := by
  obtain ⟨e, st, h1, h2⟩ := hw
  cases e with
  | normal =>
    simp only [retW] at h2
    split at h2
    · rename_i v hv; exact ⟨v, _, h2, sem_of_run hm hS hQ hf hc h1 (.inl rfl) hv rfl⟩
    · cases h2
  | ret =>
    simp only [retW] at h2
    split at h2
    · rename_i v hv; exact ⟨v, _, h2, sem_of_run hm hS hQ hf hc h1 (.inr rfl) hv rfl⟩
    · cases h2
  | _ => cases h2
end
end Go.Am
