/- Symbolic runs as propositions: what must hold for a piece of code to come to what is asked. -/
import Derived.Test.YtfnlokknpldkgaaAmHa
set_option linter.unusedVariables false
set_option linter.unusedSimpArgs false
namespace Go.Am
open Go Go.RowKit
def chkW (b : Bool) (K : Prop) : Prop := match b with
  | true => K
  | false => False
def askB (b : Bool) (T F : Prop) : Prop := match b with
  | true => T
  | false => F
theorem chkI {b : Bool} {K : Prop} (h : b = true) (k : K) : chkW b K := by subst h; exact k
theorem askI {b : Bool} {T F : Prop} (t : b = true → T) (f : b = false → F) : askB b T F := by
  cases b
  · exact f rfl
  · exact t rfl
theorem askT {b : Bool} {T F : Prop} (h : b = true) (t : T) : askB b T F := by subst h; exact t
theorem askF {b : Bool} {T F : Prop} (h : b = false) (f : F) : askB b T F := by subst h; exact f
theorem chkD {b : Bool} {K : Prop} (h : chkW b K) : b = true ∧ K := by
  cases b
  · cases h
  · exact ⟨rfl, h⟩
theorem askD {b : Bool} {T F : Prop} (h : askB b T F) : (b = true ∧ T) ∨ (b = false ∧ F) := by
  cases b
  · exact .inr ⟨rfl, h⟩
  · exact .inl ⟨rfl, h⟩
def chksW : List Bool → Prop → Prop
  | [], K => K
  | b :: bs, K => chkW b (chksW bs K)
theorem chksD {K : Prop} : ∀ {bs : List Bool}, chksW bs K → bs.all id = true ∧ K
  | [], h => ⟨rfl, h⟩
  | b :: bs, h => by
    obtain ⟨h1, h2⟩ := chkD h
    obtain ⟨h3, h4⟩ := chksD (bs := bs) h2
    exact ⟨by simp [h1, h3], h4⟩
/-- A truth value is seen. -/
def askW (v : AV) (K : AV → Prop) : Prop := match v with
  | .bool c => askB c (K (.bool true)) (K (.bool false))
  | v => K v
theorem askWD {v : AV} {K : AV → Prop} (h : askW v K) : K v := by
  cases v <;> try exact h
  rename_i b
  rcases askD h with ⟨rfl, h⟩ | ⟨rfl, h⟩ <;> exact h
/-- Kinds of cells of rows that are not looked at. -/
inductive K1 where
  | int (k : IntKind)
  | bool
  | str
  | ext
  /-- whatever it is -/
  | av
  | ptr
  | ptrS
  | map
  /-- a pointer, nil or not -/
  | ptrV
  /-- a slice, nil or not -/
  | slV
  | slS
  /-- just this -/
  | lit (v : AV)
  | mapS
inductive Kd where
  | one (k : K1)
  | agg (l : List K1)
  /-- a number that is one of these -/
  | enum (k : IntKind) (vs : List Int)
def enumW (n : Int) (K : Int → Prop) : List Int → Prop
  | [] => False
  | v :: vs => askB (n == v) (K v) (enumW n K vs)
theorem enumD {n : Int} {K : Int → Prop} : ∀ {vs : List Int}, enumW n K vs → ∃ v, K v
  | [], h => h.elim
  | v :: vs, h => by
    rcases askD h with ⟨_, h⟩ | ⟨_, h⟩
    · exact ⟨v, h⟩
    · exact enumD h
/-- The place in a group, asked for one by one. -/
def idxW (z : Int) (g : Nat → Prop) : Nat → Nat → Prop
  | _, 0 => False
  | j, f + 1 => askB (decide (z = (j : Int))) (g j) (idxW z g (j + 1) f)
theorem idxD {z : Int} {g : Nat → Prop} : ∀ {f j : Nat}, idxW z g j f → ∃ i : Nat, z = (i : Int) ∧ i < j + f ∧ g i
  | 0, j, h => h.elim
  | f + 1, j, h => by
    rcases askD h with ⟨h1, h⟩ | ⟨_, h⟩
    · exact ⟨j, of_decide_eq_true h1, by omega, h⟩
    · obtain ⟨i, h1, h2, h3⟩ := idxD h
      exact ⟨i, h1, by omega, h3⟩
def optK (o : Option AV) (K : AV → Prop) : Prop := match o with
  | some v => K v
  | none => False
theorem optKD {o : Option AV} {K : AV → Prop} (h : optK o K) : ∃ v, o = some v ∧ K v := by
  cases o with
  | none => exact h.elim
  | some v => exact ⟨v, rfl, h⟩
def k1W : K1 → (AV → Prop) → Prop
  | .int k, K => ∃ n, K (.int k n)
  | .bool, K => ∃ b, askB b (K (.bool true)) (K (.bool false))
  | .str, K => ∃ s, K (.str s)
  | .ext, K => ∃ a l c, K (.ext a l c)
  | .av, K => ∃ v, K v
  | .ptr, K => ∃ b, askB b (∃ k o, K (.ptr (some (k, o)))) (K (.ptr none))
  | .ptrS, K => ∃ k o, K (.ptr (some (k, o)))
  | .map, K => ∃ b, askB b (∃ m, K (.map (some m))) (K (.map none))
  | .ptrV, K => ∃ p, K (.ptr p)
  | .slV, K => ∃ q n c, K (.sl q n c)
  | .slS, K => ∃ k o n c, K (.sl (some (k, o)) n c)
  | .lit v, K => K v
  | .mapS, K => ∃ m, K (.map (some m))
def ksW : List K1 → (List AV → Prop) → Prop
  | [], K => K []
  | k :: ks, K => k1W k fun v => ksW ks fun vs => K (v :: vs)
def kdW : Kd → (AV → Prop) → Prop
  | .one k, K => k1W k K
  | .agg l, K => ksW l fun vs => K (.agg vs)
  | .enum k vs, K => ∃ n, enumW n (fun v => K (.int k v)) vs
theorem k1D {k : K1} {K : AV → Prop} (h : k1W k K) : ∃ v, K v := by
  cases k <;> simp only [k1W] at h
  · obtain ⟨_, h⟩ := h; exact ⟨_, h⟩
  · obtain ⟨b, h⟩ := h
    rcases askD h with ⟨_, h⟩ | ⟨_, h⟩ <;> exact ⟨_, h⟩
  · obtain ⟨_, h⟩ := h; exact ⟨_, h⟩
  · obtain ⟨_, _, _, h⟩ := h; exact ⟨_, h⟩
  · obtain ⟨_, h⟩ := h; exact ⟨_, h⟩
  · obtain ⟨b, h⟩ := h
    rcases askD h with ⟨_, _, _, h⟩ | ⟨_, h⟩ <;> exact ⟨_, h⟩
  · obtain ⟨_, _, h⟩ := h; exact ⟨_, h⟩
  · obtain ⟨b, h⟩ := h
    rcases askD h with ⟨_, _, h⟩ | ⟨_, h⟩ <;> exact ⟨_, h⟩
  · obtain ⟨_, h⟩ := h; exact ⟨_, h⟩
  · obtain ⟨_, _, _, h⟩ := h; exact ⟨_, h⟩
  · obtain ⟨_, _, _, _, h⟩ := h; exact ⟨_, h⟩
  · exact ⟨_, h⟩
  · obtain ⟨_, h⟩ := h; exact ⟨_, h⟩
theorem ksD : ∀ {l : List K1} {K : List AV → Prop}, ksW l K → ∃ vs, K vs
  | [], K, h => ⟨_, h⟩
  | k :: l, K, h => by
    obtain ⟨v, h1⟩ := k1D h
    obtain ⟨vs, h2⟩ := ksD h1
    exact ⟨_, h2⟩
theorem kdD {k : Kd} {K : AV → Prop} (h : kdW k K) : ∃ v, K v := by
  cases k with
  | one k => exact k1D h
  | agg l => obtain ⟨vs, h1⟩ := ksD h; exact ⟨_, h1⟩
  | enum k vs => obtain ⟨n, h1⟩ := h; obtain ⟨v, h2⟩ := enumD h1; exact ⟨_, h2⟩
/-- What a piece of code is run over. -/
structure Cfg where
  S : Specs
  sy : Nat → Bool
  kd : Nat → Kd
  cw : FuncId → Option (List AV → AHeap → (AV × AHeap → Prop) → Prop)
  lw : Nat → Option (St → (AExit → St → Prop) → Prop)
  gw : Nat → Option (St → (AExit → St → Prop) → Prop)
  F : Nat → Tidy
  b0 : Nat
  /-- ranges over functions, by the place of the first of their two variables -/
  rw : Nat → Option (St → (AExit → St → Prop) → Prop) := fun _ => none
def noSy : Sy := fun _ => none
section
variable (P : Program) (C : Cfg)
/-- The letters in a row. -/
def strOf (h : AHeap) (k o len : Nat) : Option (List UInt8) := (cellsAt h k).bind fun cs => if o + len ≤ cs.length then ((cs.drop o).take len).mapM byteOfA else none
/-- A pointer's type, of what is not empty. -/
def ptrT (t : TypeId) : Bool := match P.underlying t with
  | some (.pointer e) => match szOf P e with
    | some (_ + 1) => true
    | _ => false
  | _ => false
theorem ptrT_eq {t : TypeId} (ht : ptrT P t = true) (h : AHeap) (k o k' o' : Nat) : ptrEqA P h t k o k' o' = if k = k' then some (decide (o = o')) else if ownRow h k && ownRow h k' then some false else none := by
  unfold ptrT at ht
  unfold ptrEqA
  split at ht
  · rename_i e he
    simp only [he]
    split at ht
    · rename_i n hn
      simp only [hn]
    · cases ht
  · cases ht
def viewW (h : AHeap) (E : Operand → Option AV) (dst : Option Tmp) : RI → Option ((AV → Prop) → Prop)
  | .load sz x => match E x with
    | some (.ptr (some (k, o))) => if C.sy k then some fun K => kdW (C.kd (dst.getD 0)) fun v => (cellsAt h k).bind (partR sz · o) = some v ∧ K v else none
    | _ => none
  | .toStr x => match E x with
    | some (.sl (some (k, o)) len c) => if C.sy k then some fun K => ∃ l, strOf h k o len = some l ∧ K (.str l) else (viewV noSy h E (.toStr x)).map fun r => fun K => chksW r.2 (askW r.1 K)
    | _ => (viewV noSy h E (.toStr x)).map fun r => fun K => chksW r.2 (askW r.1 K)
  | .sliceL s x (some lo) hi => match E x with
    | some (.sl (some (k, o)) len (.rel i)) => (E lo).bind fun l => (optA E hi).bind fun u => (boundV len len u).bind fun u => (boundV 0 u.1 (some l)).map fun l => fun K =>
        chksW (u.2 ++ l.2) (askB (decide (l.1 < len)) (K (.sl (some (k, o + l.1 * s)) (u.1 - l.1) (.rel (i + l.1)))) (askB (decide (l.1 = 0)) (K (.sl (some (k, o)) u.1 (.rel i))) (K (.slE k o i l.1 s))))
    | some (.sl none 0 (.fix 0)) => (E lo).bind fun l => (optA E hi).bind fun u => (boundV 0 0 u).bind fun u => (boundV 0 u.1 (some l)).map fun l => fun K => chksW (u.2 ++ l.2) (K (.sl none 0 (.fix 0)))
    | _ => (viewV noSy h E (.sliceL s x (some lo) hi)).map fun r => fun K => chksW r.2 (askW r.1 K)
  | .sliceL s x none hi => match E x with
    | some (.sl none 0 (.fix 0)) => (optA E hi).bind fun u => (boundV 0 0 u).map fun u => fun K => chksW u.2 (K (.sl none 0 (.fix 0)))
    | _ => (viewV noSy h E (.sliceL s x none hi)).map fun r => fun K => chksW r.2 (askW r.1 K)
  | .cmp neg t x y => match E x, E y with
    | some (.ptr (some (k, o))), some (.ptr (some (k', o'))) => some fun K => chkW (ptrT P t) (askB (decide (k = k')) (askB (decide (o = o')) (K (.bool (!neg))) (K (.bool neg))) (chkW (ownRow h k && ownRow h k') (K (.bool neg))))
    | _, _ => (viewV noSy h E (.cmp neg t x y)).map fun r => fun K => chksW r.2 (askW r.1 K)
  | .lenM x => match E x with
    | some (.map (some k)) => if C.sy k then some fun K => ∃ es, h[k]? = some (.map es) ∧ K (.int .i64 (es.length : Nat)) else (viewV noSy h E (.lenM x)).map fun r => fun K => chksW r.2 (askW r.1 K)
    | _ => (viewV noSy h E (.lenM x)).map fun r => fun K => chksW r.2 (askW r.1 K)
  | .lookup t x i ok => match E x, E i with
    | some (.map (some k)), some key => if C.sy k then match P.underlying t with
      | some (.map kt et) => (zeroA P et).map fun z => fun K => chkW (fitsKey P kt key) (∃ es, h[k]? = some (.map es) ∧ ∃ b : Bool, askB b (kdW (C.kd (dst.getD 0)) fun v => findA key es = some (some v) ∧ K (if ok then .tup [v, .bool true] else v)) (findA key es = some none ∧ K (if ok then .tup [z, .bool false] else z)))
      | _ => none else (viewV noSy h E (.lookup t x i ok)).map fun r => fun K => chksW r.2 (askW r.1 K)
    | _, _ => (viewV noSy h E (.lookup t x i ok)).map fun r => fun K => chksW r.2 (askW r.1 K)
  | .indexA n s sz x i => match E x, E i with
    | some (.agg cs), some (.int _ z) => some fun K => idxW z (fun j => optK (partR sz cs (j * s)) K) 0 n
    | _, _ => none
  | ri => (viewV noSy h E ri).map fun r => fun K => chksW r.2 (askW r.1 K)
theorem viewW_ok {h : AHeap} {E : Operand → Option AV} {dst : Option Tmp} {ri : RI} {T : (AV → Prop) → Prop} {K : AV → Prop} (hv : viewW P C h E dst ri = some T) (hT : T K) : ∃ v, pureR P h E ri = some v ∧ ri.isPure = true ∧ K v := by
  have gen : ∀ {ri : RI} {T : (AV → Prop) → Prop}, ((viewV noSy h E ri).map fun r => fun K => chksW r.2 (askW r.1 K)) = some T → T K → ∃ v, pureR P h E ri = some v ∧ ri.isPure = true ∧ K v := by
    intro ri T hv hT
    simp only [Option.map_eq_some_iff] at hv
    obtain ⟨r, h1, rfl⟩ := hv
    obtain ⟨h2, h3⟩ := chksD hT
    obtain ⟨h4, h5⟩ := viewV_ok P noSy (v := r.1) (cs := r.2) h1 h2
    exact ⟨_, h4, h5, askWD h3⟩
  unfold viewW at hv
  split at hv
  · rename_i sz x
    split at hv
    · rename_i k o h1
      split at hv
      · simp only [Option.some.injEq] at hv
        subst hv
        obtain ⟨v, h3, h4⟩ := kdD hT
        refine ⟨v, ?_, rfl, h4⟩
        simp only [pureR, h1]
        exact h3
      · cases hv
    · cases hv
  · rename_i x
    split at hv
    · rename_i k o len c h1
      split at hv
      · simp only [Option.some.injEq] at hv
        subst hv
        obtain ⟨l, h3, h4⟩ := hT
        refine ⟨_, ?_, rfl, h4⟩
        simp only [pureR, h1]
        unfold strOf at h3
        simp only [Option.bind_eq_some_iff] at h3 ⊢
        obtain ⟨cs, h5, h6⟩ := h3
        refine ⟨cs, h5, ?_⟩
        split at h6
        · rename_i h7
          rw [if_pos h7, h6]; rfl
        · cases h6
      · exact gen hv hT
    · exact gen hv hT
  · rename_i s x lo hi
    split at hv
    · rename_i k o len i h1
      simp only [Option.bind_eq_some_iff, Option.map_eq_some_iff] at hv
      obtain ⟨l, hl, u, hu, u1, hu1, l1, hl1, rfl⟩ := hv
      obtain ⟨hc, hk⟩ := chksD hT
      obtain ⟨g1, g2⟩ := allb hc
      have e1 : optA E (some lo) = some (some l) := by simp [optA, hl]
      have hle := boundA_le (boundV_ok hl1 g2) (Nat.zero_le _)
      have hue := boundA_le (boundV_ok hu1 g1) (Nat.le_refl _)
      simp only [pureR, h1, e1, hu, Option.bind_some, boundV_ok hu1 g1, boundV_ok hl1 g2]
      rcases askD hk with ⟨a1, hk⟩ | ⟨a1, hk⟩
      · simp only [decide_eq_true_eq] at a1
        refine ⟨_, ?_, rfl, hk⟩
        by_cases h0 : l1.1 = 0
        · simp [h0]
        · simp only [h0, if_false, a1, if_true]
      · simp only [decide_eq_false_iff_not] at a1
        rcases askD hk with ⟨a2, hk⟩ | ⟨a2, hk⟩
        · simp only [decide_eq_true_eq] at a2
          exact ⟨_, by simp only [a2, if_true], rfl, hk⟩
        · simp only [decide_eq_false_iff_not] at a2
          exact ⟨_, by simp only [a2, if_false, a1], rfl, hk⟩
    · rename_i h1
      simp only [Option.bind_eq_some_iff, Option.map_eq_some_iff] at hv
      obtain ⟨l, hl, u, hu, u1, hu1, l1, hl1, rfl⟩ := hv
      obtain ⟨hc, hk⟩ := chksD hT
      obtain ⟨g1, g2⟩ := allb hc
      have e1 : optA E (some lo) = some (some l) := by simp [optA, hl]
      exact ⟨_, by simp only [pureR, h1, e1, hu, Option.bind_some, boundV_ok hu1 g1, boundV_ok hl1 g2, Option.map_some], rfl, hk⟩
    · exact gen hv hT
  · rename_i s x hi
    split at hv
    · rename_i h1
      simp only [Option.bind_eq_some_iff, Option.map_eq_some_iff] at hv
      obtain ⟨u, hu, u1, hu1, rfl⟩ := hv
      obtain ⟨hc, hk⟩ := chksD hT
      have e1 : optA E none = some none := rfl
      have e2 : boundA 0 u1.1 none = some 0 := rfl
      exact ⟨_, by simp only [pureR, h1, e1, hu, Option.bind_some, boundV_ok hu1 hc, e2, Option.map_some], rfl, hk⟩
    · exact gen hv hT
  · rename_i neg t x y
    split at hv
    · rename_i k o k' o' h1 h2
      simp only [Option.some.injEq] at hv
      subst hv
      obtain ⟨ht, hk⟩ := chkD hT
      have e := ptrT_eq P ht h k o k' o'
      have fin : ∀ b : Bool, ptrEqA P h t k o k' o' = some b → pureR P h E (.cmp neg t x y) = some (.bool (if neg then !b else b)) := fun b hb => by
        simp only [pureR, h1, h2, Option.bind_some]
        cases neg <;> simp [binH, hb]
      rcases askD hk with ⟨a1, hk⟩ | ⟨a1, hk⟩
      · simp only [decide_eq_true_eq] at a1
        rw [if_pos a1] at e
        rcases askD hk with ⟨a2, hk⟩ | ⟨a2, hk⟩
        · rw [a2] at e
          exact ⟨_, fin _ e, rfl, by cases neg <;> exact hk⟩
        · rw [a2] at e
          exact ⟨_, fin _ e, rfl, by cases neg <;> exact hk⟩
      · simp only [decide_eq_false_iff_not] at a1
        rw [if_neg a1] at e
        obtain ⟨a2, hk⟩ := chkD hk
        rw [if_pos a2] at e
        exact ⟨_, fin _ e, rfl, by cases neg <;> exact hk⟩
    · exact gen hv hT
  · rename_i x
    split at hv
    · rename_i k h1
      split at hv
      · simp only [Option.some.injEq] at hv
        subst hv
        obtain ⟨es, h3, h4⟩ := hT
        exact ⟨_, by simp only [pureR, h1, h3], rfl, h4⟩
      · exact gen hv hT
    · exact gen hv hT
  · rename_i t x i ok
    split at hv
    · rename_i k key h1 h2
      split at hv
      · split at hv
        · rename_i kt et ht
          simp only [Option.map_eq_some_iff] at hv
          obtain ⟨z, hz, rfl⟩ := hv
          obtain ⟨hf, es, h3, b, hk⟩ := chkD hT
          rcases askD hk with ⟨_, hk⟩ | ⟨_, h4, h5⟩
          · obtain ⟨v, h4, h5⟩ := kdD hk
            exact ⟨_, by simp only [pureR, h1, h2, Option.bind_some, lookupA, ht, hf, if_true, h3, h4], rfl, h5⟩
          · exact ⟨_, by simp only [pureR, h1, h2, Option.bind_some, lookupA, ht, hf, if_true, h3, h4, hz, Option.map_some], rfl, h5⟩
        · cases hv
      · exact gen hv hT
    · exact gen hv hT
  · rename_i n s sz x i
    split at hv
    · rename_i cs k z h1 h2
      simp only [Option.some.injEq] at hv
      subst hv
      obtain ⟨j, rfl, hj, hk⟩ := idxD hT
      obtain ⟨v, hv, hk⟩ := optKD hk
      refine ⟨v, ?_, rfl, hk⟩
      simp only [pureR, h1, h2]
      rw [if_pos (by omega), Int.toNat_natCast]
      exact hv
    · cases hv
  · exact gen hv hT
def srcW (h : AHeap) (sz : Nat) (x : AV) (K : Nat → List AV → Prop) : Prop := match x with
  | .sl (some (k, o)) n c => if C.sy k then ∃ cs, sourceA h sz (.sl (some (k, o)) n c) = some (n, cs) ∧ K n cs else (match sourceV h sz (.sl (some (k, o)) n c) with
    | some r => chksW r.2.2 (K r.1 r.2.1)
    | none => False)
  | x => match sourceV h sz x with
    | some r => chksW r.2.2 (K r.1 r.2.1)
    | none => False
theorem srcW_ok {h : AHeap} {sz : Nat} {x : AV} {K : Nat → List AV → Prop} (hk : srcW C h sz x K) : ∃ n cs, sourceA h sz x = some (n, cs) ∧ K n cs := by
  have gen : ∀ x, (match sourceV h sz x with | some r => chksW r.2.2 (K r.1 r.2.1) | none => False) → ∃ n cs, sourceA h sz x = some (n, cs) ∧ K n cs := by
    intro x hk
    split at hk
    · rename_i r hr
      obtain ⟨h1, h2⟩ := chksD hk
      exact ⟨_, _, sourceV_ok hr h1, h2⟩
    · cases hk
  unfold srcW at hk
  split at hk
  · split at hk
    · obtain ⟨cs, h1, h2⟩ := hk; exact ⟨_, cs, h1, h2⟩
    · exact gen _ hk
  · exact gen _ hk
/-- A row of the call's own. -/
def rowW (h : AHeap) (k : Nat) (K : TypeId → Nat → List AV → Prop) : Prop := if C.sy k then ∃ t s cs, h[k]? = some (.row t s cs) ∧ K t s cs else match h[k]? with
  | some (.row t s cs) => K t s cs
  | _ => False
theorem rowW_ok {h : AHeap} {k : Nat} {K : TypeId → Nat → List AV → Prop} (hk : rowW C h k K) : ∃ t s cs, h[k]? = some (.row t s cs) ∧ K t s cs := by
  unfold rowW at hk
  split at hk
  · exact hk
  · split at hk
    · rename_i h1; exact ⟨_, _, _, h1, hk⟩
    · cases hk
def effW (h : AHeap) (E : Operand → Option AV) (slot : Nat) (ri : RI) : Option ((Option AV × AHeap → Prop) → Prop) :=
  match ri with
  | .store s a x => match E a, E x with
    | some (.ptr (some (k, o))), some v => some fun K => rowW C h k fun t' sz cs => chksW [v.plain && v.cells.all AV.one && v.cells.length == s, decide (o + s ≤ cs.length)] (K (none, h.set k (.row t' sz (spliceA cs o v.cells))))
    | _, _ => none
  | .append e s b a x => match E a, E x with
    | some (.sl none 0 _), some x => some fun K => srcW C h s x fun m src =>
        chkW (src.all AV.one) (askB (decide (m = 0)) (K (some (.sl none 0 (.fix 0)), h)) (chksW [decide (m * b ≤ 140737488355328), decide (m ≤ 9223372036854775807)] (K (some (.sl (some (slot, 0)) m (.rel 0)), h.set slot (.row e s src)))))
    | some (.sl (some (k, 0)) n (.rel 0)), some x => some fun K => srcW C h s x fun m src => rowW C h k fun t' sz' cs =>
        chksW [src.all AV.one, decide (t' = e), decide (sz' = s), decide (cs.length = n * s), decide ((n + m) * b ≤ 140737488355328), decide (n + m ≤ 9223372036854775807)] (K (some (.sl (some (slot, 0)) (n + m) (.rel 0)), (h.set k .dead).set slot (.row e s (cs ++ src))))
    | _, _ => none
  | .copy s d x => match E d, E x with
    | some (.sl (some (k, o)) n _), some x => some fun K => srcW C h s x fun m src => rowW C h k fun t' sz' cs =>
        chksW [src.all AV.one, decide (o + min m n * s ≤ cs.length)] (K (some (.int .i64 ((min m n : Nat) : Int)), h.set k (.row t' sz' (spliceA cs o (src.take (min m n * s))))))
    | _, _ => none
  | .update kt m k x => match E m, E k, E x with
    | some (.map (some r)), some key, some v => if C.sy r then some fun K => chkW (fitsKey P kt key) (∃ es es', h[r]? = some (.map es) ∧ putA key v es = some es' ∧ K (none, h.set r (.map es'))) else none
    | _, _, _ => none
  | .del kt m k => match E m, E k with
    | some (.map (some r)), some key => if C.sy r then some fun K => chkW (fitsKey P kt key) (∃ es es', h[r]? = some (.map es) ∧ dropA key es = some es' ∧ K (some (.tup []), h.set r (.map es'))) else none
    | _, _ => none
  | _ => none
theorem effW_ok {h : AHeap} {E : Operand → Option AV} {slot : Nat} {ri : RI} {T : (Option AV × AHeap → Prop) → Prop} {K : Option AV × AHeap → Prop} (hv : effW P C h E slot ri = some T) (hT : T K) :
    ∃ r, effR P h E slot ri = some r ∧ ri.isPure = false ∧ calleeR E ri = none ∧ allocR E slot ri = none ∧ K r := by
  unfold effW at hv
  split at hv
  · split at hv
    · rename_i k o v h1 h2
      simp only [Option.some.injEq] at hv
      subst hv
      obtain ⟨t', sz, cs, h3, h4⟩ := rowW_ok C hT
      obtain ⟨h5, h6⟩ := chksD h4
      simp only [List.all_cons, List.all_nil, id, Bool.and_true, Bool.and_eq_true] at h5
      refine ⟨_, ?_, rfl, rfl, rfl, h6⟩
      simp only [effR, h1, h2, h3]
      rw [if_pos (by simp only [Bool.and_eq_true]; exact h5)]
    · cases hv
  · split at hv
    · rename_i c0 x' h1 hx
      simp only [Option.some.injEq] at hv
      subst hv
      obtain ⟨m, src, hsrc, hk⟩ := srcW_ok C hT
      obtain ⟨g2, hk⟩ := chkD hk
      rcases askD hk with ⟨a1, hk⟩ | ⟨a1, hk⟩
      · simp only [decide_eq_true_eq] at a1
        exact ⟨_, by simp only [effR, h1, hx, hsrc, Option.bind_some, g2, if_true, a1], rfl, rfl, rfl, hk⟩
      · simp only [decide_eq_false_iff_not] at a1
        obtain ⟨g3, hk⟩ := chksD hk
        simp only [List.all_cons, List.all_nil, id, Bool.and_true, Bool.and_eq_true, decide_eq_true_eq] at g3
        exact ⟨_, by simp only [effR, h1, hx, hsrc, Option.bind_some, g2, if_true, a1, if_false, g3, and_self], rfl, rfl, rfl, hk⟩
    · rename_i k n x' h1 hx
      simp only [Option.some.injEq] at hv
      subst hv
      obtain ⟨m, src, hsrc, hk⟩ := srcW_ok C hT
      obtain ⟨t', sz', cs, h3, h4⟩ := rowW_ok C hk
      obtain ⟨g3, hk⟩ := chksD h4
      simp only [List.all_cons, List.all_nil, id, Bool.and_true, Bool.and_eq_true, decide_eq_true_eq] at g3
      obtain ⟨q1, q2, q3, q4, q5, q6⟩ := g3
      exact ⟨_, by simp only [effR, h1, hx, hsrc, Option.bind_some, q1, if_true, h3]; rw [if_pos ⟨q2, q3, q4, q5, q6⟩], rfl, rfl, rfl, hk⟩
    · cases hv
  · split at hv
    · rename_i k o n c x' h1 hx
      simp only [Option.some.injEq] at hv
      subst hv
      obtain ⟨m, src, hsrc, hk⟩ := srcW_ok C hT
      obtain ⟨t', sz', cs, h3, h4⟩ := rowW_ok C hk
      obtain ⟨g3, hk⟩ := chksD h4
      simp only [List.all_cons, List.all_nil, id, Bool.and_true, Bool.and_eq_true] at g3
      refine ⟨_, ?_, rfl, rfl, rfl, hk⟩
      simp only [effR, h1, hx, hsrc, Option.bind_some, h3]
      rw [if_pos (by simp only [Bool.and_eq_true]; exact g3)]
    · cases hv
  · split at hv
    · rename_i r key v h1 h2 h3
      split at hv
      · simp only [Option.some.injEq] at hv
        subst hv
        obtain ⟨hf, es, es', g1, g2, g3⟩ := chkD hT
        exact ⟨_, by simp only [effR, h1, h2, h3, Option.bind_some, g1, hf, if_true, g2, Option.map_some], rfl, rfl, rfl, g3⟩
      · cases hv
    · cases hv
  · split at hv
    · rename_i r key h1 h2
      split at hv
      · simp only [Option.some.injEq] at hv
        subst hv
        obtain ⟨hf, es, es', g1, g2, g3⟩ := chkD hT
        exact ⟨_, by simp only [effR, h1, h2, Option.bind_some, g1, hf, if_true, g2, Option.map_some], rfl, rfl, rfl, g3⟩
      · cases hv
    · cases hv
  · cases hv
/-- Calls whose contracts ask something. -/
def CwOK (S : Specs) (cw : FuncId → Option (List AV → AHeap → (AV × AHeap → Prop) → Prop)) : Prop :=
  ∀ g T vs h K, cw g = some T → T vs h K → ∃ r, callS S g vs h = some r ∧ K r
theorem callR_eq (S : Specs) (h : AHeap) (E : Operand → Option AV) (ri : RI) {g : FuncId} {vs : List AV} (hc : calleeR E ri = some (g, vs)) : callR S h E ri = callS S g vs h := by
  unfold callR callS
  rw [hc]
  rfl
/-- One operation. -/
def stepW (s : Nat) (po : PO) (st : St) (K : St → Prop) : Prop :=
  match wantedR st.1 po with
  | none => False
  | some false => K (put po.dst .und st.1, st.2)
  | some true =>
    match viewW P C st.2 (evalOperand st.1) po.dst po.ri with
    | some T => T fun v => K (put po.dst v st.1, st.2)
    | none =>
      if po.ri.isPure then match pureR P st.2 (evalOperand st.1) po.ri with
        | some v => askW v fun v => K (put po.dst v st.1, st.2)
        | none => False
      else if po.ri.isAlloc then
        chkW (isHole st.2 s)
          (match allocV (evalOperand st.1) s po.ri with
          | some r => chksW r.2 (K (put po.dst r.1.1 st.1, st.2.set s r.1.2))
          | none => match effW P C st.2 (evalOperand st.1) s po.ri with
            | some T => T fun r => K (put po.dst (r.1.getD .any) st.1, r.2)
            | none => match stepR P C.S s po st with
              | some st' => K st'
              | none => False)
      else match effW P C st.2 (evalOperand st.1) s po.ri with
        | some T => T fun r => K (put po.dst (r.1.getD .any) st.1, r.2)
        | none => match calleeR (evalOperand st.1) po.ri with
          | some c => match C.cw c.1 with
            | some T => T c.2 st.2 fun r => askW r.1 fun v => K (put po.dst v st.1, r.2)
            | none => match callS C.S c.1 c.2 st.2 with
              | some r => askW r.1 fun v => K (put po.dst v st.1, r.2)
              | none => False
          | none => match stepR P C.S s po st with
            | some st' => K st'
            | none => False
theorem stepW_ok (hcw : CwOK C.S C.cw) {s : Nat} {po : PO} {st : St} {K : St → Prop} (h : stepW P C s po st K) : ∃ st', stepR P C.S s po st = some st' ∧ K st' := by
  unfold stepW at h
  split at h
  · cases h
  · rename_i hw
    exact ⟨_, by unfold stepR; rw [hw], h⟩
  · rename_i hw
    unfold stepR
    simp only [hw]
    split at h
    · rename_i T hT
      obtain ⟨v, h1, h2, h3⟩ := viewW_ok P C hT h
      exact ⟨_, by simp only [h2, if_true, h1, Option.map_some], h3⟩
    · split at h
      · rename_i hp
        split at h
        · rename_i v hv
          exact ⟨_, by simp only [hp, if_true, hv, Option.map_some], askWD h⟩
        · cases h
      · rename_i hp
        split at h
        · rename_i ha
          obtain ⟨hh, h⟩ := chkD h
          split at h
          · rename_i r hr
            obtain ⟨g1, g2⟩ := chksD h
            obtain ⟨g3, g4, g5⟩ := allocV_ok hr g1
            exact ⟨_, by simp only [g4, Bool.false_eq_true, if_false, ha, if_true, hh, g3], g2⟩
          · split at h
            · rename_i T hT
              obtain ⟨r, g1, g2, g3, g4, g5⟩ := effW_ok P C hT h
              exact ⟨_, by simp only [hp, Bool.false_eq_true, if_false, ha, if_true, hh, g4, g1, Option.map_some], g5⟩
            · split at h
              · rename_i st' hs
                refine ⟨st', ?_, h⟩
                unfold stepR at hs
                simp only [hw] at hs
                exact hs
              · cases h
        · rename_i ha
          split at h
          · rename_i T hT
            obtain ⟨r, g1, g2, g3, g4, g5⟩ := effW_ok P C hT h
            refine ⟨_, ?_, g5⟩
            have hc : callR C.S st.2 (evalOperand st.1) po.ri = none := by unfold callR; rw [g3]; rfl
            simp only [hp, Bool.false_eq_true, if_false, ha, hc, g1, Option.map_some]
          · split at h
            · rename_i c hc
              split at h
              · rename_i T hT
                obtain ⟨r, g1, g2⟩ := hcw _ _ _ _ _ hT h
                refine ⟨_, ?_, askWD g2⟩
                simp only [hp, Bool.false_eq_true, if_false, ha, callR_eq C.S st.2 _ _ hc, g1]
              · split at h
                · rename_i r hr
                  refine ⟨_, ?_, askWD h⟩
                  simp only [hp, Bool.false_eq_true, if_false, ha, callR_eq C.S st.2 _ _ hc, hr]
                · cases h
            · split at h
              · rename_i st' hs
                refine ⟨st', ?_, h⟩
                unfold stepR at hs
                simp only [hw] at hs
                exact hs
              · cases h
def opsW : Nat → List PO → St → (St → Prop) → Prop
  | _, [], st, K => K st
  | s, po :: rest, st, K => stepW P C s po st fun st' => opsW (if po.ri.isAlloc then s + 1 else s) rest st' K
theorem opsW_ok (hcw : CwOK C.S C.cw) : ∀ {l : List PO} {s : Nat} {st : St} {K : St → Prop}, opsW P C s l st K → ∃ st', evalOpsR P C.S s l st = some st' ∧ K st'
  | [], s, st, K, h => ⟨st, rfl, h⟩
  | po :: l, s, st, K, h => by
    obtain ⟨st1, h1, h2⟩ := stepW_ok P C hcw h
    obtain ⟨st2, h3, h4⟩ := opsW_ok hcw h2
    exact ⟨st2, by simp only [evalOpsR, h1, Option.bind_some, h3], h4⟩
def headW (ls : List Nat) : Nat → Nat → List PO → St × Log → (St × Log → Prop) → Prop
  | _, _, [], x, K => K x
  | k, s, po :: rest, x, K => match rangeR (ls.contains k) x.1.1 po with
    | some q => chkW (logOk x.2 q) (stepW P C s po x.1 fun st => headW ls (k + 1) (if po.ri.isAlloc then s + 1 else s) rest (st, x.2.set k (some q)) K)
    | none => stepW P C s po x.1 fun st => headW ls (k + 1) (if po.ri.isAlloc then s + 1 else s) rest (st, x.2) K
theorem headW_ok (hcw : CwOK C.S C.cw) {ls : List Nat} : ∀ {l : List PO} {k s : Nat} {x : St × Log} {K : St × Log → Prop}, headW P C ls k s l x K → ∃ x', evalHeadR P C.S ls k s l x = some x' ∧ K x'
  | [], k, s, x, K, h => ⟨x, rfl, h⟩
  | po :: l, k, s, x, K, h => by
    unfold headW at h
    unfold evalHeadR
    cases hq : rangeR (ls.contains k) x.1.1 po with
    | some q =>
      rw [hq] at h
      obtain ⟨h0, h⟩ := chkD h
      obtain ⟨st1, h1, h2⟩ := stepW_ok P C hcw h
      obtain ⟨x2, h3, h4⟩ := headW_ok hcw h2
      exact ⟨x2, by simp only [h0, if_true, h1, Option.bind_some, h3], h4⟩
    | none =>
      rw [hq] at h
      obtain ⟨st1, h1, h2⟩ := stepW_ok P C hcw h
      obtain ⟨x2, h3, h4⟩ := headW_ok hcw h2
      exact ⟨x2, by simp only [h1, Option.bind_some, h3], h4⟩
def headM (base : Nat) : List (Nat × Nat × PO) → St × RLd → (St × RLd → Prop) → Prop
  | [], x, K => K x
  | (i, off, po) :: r, x, K => stepW P C (base + off) po x.1 fun st => headM base r (st, addLd i (ldR x.1.1 po) x.2) K
/-- The loads that may still have been to come say the same. -/
def stableW (h h' : AHeap) (wl : List Nat) : RLd → Prop → Prop
  | [], K => K
  | (i, sz, p) :: r, K => if wl.contains i then stableW h h' wl r K else loadZ h' sz p = loadZ h sz p ∧ stableW h h' wl r K
def tailM (base : Nat) : List (Nat × Nat × PO × List Nat) → St × RLd → (St → Prop) → Prop
  | [], x, K => K x.1
  | (j, off, po, wl) :: r, x, K => stepW P C (base + off) po x.1 fun st => if po.ri.isPure then tailM base r (st, x.2) K else stableW x.1.2 st.2 wl x.2 (tailM base r (st, x.2) K)
theorem headM_ok (hcw : CwOK C.S C.cw) {base : Nat} : ∀ {l : List (Nat × Nat × PO)} {x : St × RLd} {K : St × RLd → Prop}, headM P C base l x K → ∃ x', evalHM P C.S base l x = some x' ∧ K x'
  | [], x, K, h => ⟨x, rfl, h⟩
  | (i, off, po) :: l, x, K, h => by
    unfold headM at h
    obtain ⟨st1, h1, h2⟩ := stepW_ok P C hcw h
    obtain ⟨x2, h3, h4⟩ := headM_ok hcw h2
    exact ⟨x2, by simp only [evalHM, h1, Option.bind_some, h3], h4⟩
theorem stableW_ok {h h' : AHeap} {wl : List Nat} : ∀ {rl : RLd} {K : Prop}, stableW h h' wl rl K → StableR h h' wl rl ∧ K
  | [], K, hk => ⟨trivial, hk⟩
  | (i, sz, p) :: r, K, hk => by
    unfold stableW at hk
    unfold StableR
    split at hk
    · rename_i hc; rw [if_pos hc]; exact stableW_ok hk
    · rename_i hc
      rw [if_neg hc]
      obtain ⟨h1, h2⟩ := stableW_ok hk.2
      exact ⟨⟨hk.1, h1⟩, h2⟩
theorem tailM_ok (hcw : CwOK C.S C.cw) {base : Nat} : ∀ {l : List (Nat × Nat × PO × List Nat)} {x : St × RLd} {K : St → Prop}, tailM P C base l x K → ∃ st', TRun P C.S base l x st' ∧ K st'
  | [], x, K, h => ⟨x.1, rfl, h⟩
  | (j, off, po, wl) :: l, x, K, h => by
    unfold tailM at h
    obtain ⟨st1, h1, h2⟩ := stepW_ok P C hcw h
    have h3 : (po.ri.isPure = false → StableR x.1.2 st1.2 wl x.2) ∧ tailM P C base l (st1, x.2) K := by
      split at h2
      · rename_i hp; exact ⟨fun e => (by rw [hp] at e; cases e), h2⟩
      · obtain ⟨h3, h4⟩ := stableW_ok h2; exact ⟨fun _ => h3, h4⟩
    obtain ⟨st2, h4, h5⟩ := tailM_ok hcw h3.2
    exact ⟨st2, ⟨st1, h1, h3.1, h4⟩, h5⟩
def objClosed : AObj → Bool
  | .ro cs => AV.refsL (fun _ => false) (fun _ => 0) cs
  | .row _ _ cs => AV.refsL (fun _ => false) (fun _ => 0) cs
  | .dead => true
  | _ => false
theorem closed_ren {σ : Nat → Option Nat} {o : AObj} (h : objClosed o = true) : renObj σ o = o := by
  cases o with
  | hole => cases h
  | dead => rfl
  | ro cs => simp only [renObj, renL_closed _ h]
  | row t s cs => simp only [renObj, renL_closed _ h]
  | map es => cases h
mutual
theorem names_refs0 : ∀ v : AV, v.refs (fun _ => false) (fun _ => 0) = true → v.names = []
  | .ptr none, _ => rfl
  | .ptr (some (k, o)), h => by simp [AV.refs] at h
  | .sl none _ _, _ => rfl
  | .sl (some (k, o)) _ (.fix _), h => by simp [AV.refs] at h
  | .sl (some (k, o)) _ (.rel _), h => by simp [AV.refs] at h
  | .agg cs, h => by simp only [AV.names]; exact namesL_refs0 cs (by simpa only [AV.refs] using h)
  | .tup cs, h => by simp only [AV.names]; exact namesL_refs0 cs (by simpa only [AV.refs] using h)
  | .fn f a c, h => by
    simp only [AV.refs, Bool.and_eq_true] at h
    simp only [AV.names, namesL_refs0 a h.1, namesL_refs0 c h.2, List.append_nil]
  | .map none, _ => rfl
  | .map (some k), h => by simp [AV.refs] at h
  | .ifc t v, h => by simp only [AV.names]; exact names_refs0 v (by simpa only [AV.refs] using h)
  | .slE k o i l s, h => by simp [AV.refs] at h
  | .int _ _, _ => rfl
  | .bool _, _ => rfl
  | .str _, _ => rfl
  | .nilFn, _ => rfl
  | .nilIfc, _ => rfl
  | .ext _ _ _, _ => rfl
  | .any, _ => rfl
  | .und, _ => rfl
theorem namesL_refs0 : ∀ vs : List AV, AV.refsL (fun _ => false) (fun _ => 0) vs = true → AV.namesL vs = []
  | [], _ => rfl
  | v :: vs, h => by
    simp only [AV.refsL, Bool.and_eq_true] at h
    simp only [AV.namesL, names_refs0 v h.1, namesL_refs0 vs h.2, List.append_nil]
end
theorem closed_names {o : AObj} (h : objClosed o = true) : o.names = [] := by
  cases o with
  | hole => cases h
  | dead => rfl
  | ro cs => exact namesL_refs0 _ h
  | row t s cs => exact namesL_refs0 _ h
  | map es => cases h
def symNames (i : Nat) (o : AObj) : List Nat := if C.sy i then [] else o.names
def symRen (σ : Nat → Option Nat) (i : Nat) (o : AObj) : AObj := if C.sy i then o else renObj σ o
def symOk (i : Nat) (o : AObj) : List Bool := if C.sy i then [objClosed o] else []
theorem symNames_ok {i : Nat} {o : AObj} (h : (symOk C i o).all id = true) : o.names = symNames C i o := by
  unfold symOk at h
  unfold symNames
  split
  · rename_i hs
    simp only [hs, if_true, List.all_cons, List.all_nil, id, Bool.and_true] at h
    exact closed_names h
  · rfl
theorem symRen_ok {σ : Nat → Option Nat} {i : Nat} {o : AObj} (h : (symOk C i o).all id = true) : renObj σ o = symRen C σ i o := by
  unfold symOk at h
  unfold symRen
  split
  · rename_i hs
    simp only [hs, if_true, List.all_cons, List.all_nil, id, Bool.and_true] at h
    exact closed_ren h
  · rfl
def symAll (st : St) : List Bool := (List.range st.2.length).flatMap fun i => symOk C i (st.2.getD i .dead)
theorem symAll_ok {st : St} (h : (symAll C st).all id = true) (i : Nat) : (symOk C i (st.2.getD i .dead)).all id = true := by
  unfold symAll at h
  rw [List.all_flatMap, List.all_eq_true] at h
  rcases Nat.lt_or_ge i st.2.length with q | q
  · exact h i (List.mem_range.2 q)
  · rw [List.getD_eq_getElem?_getD, List.getElem?_eq_none q]
    unfold symOk
    split <;> rfl
def autoW (b : Nat) (st : St) : List Nat := (List.range (st.2.length - b)).filter fun i => st.1.any (fun v => v.names.contains (b + i)) || (List.range st.2.length).any (fun j => (symNames C j (st.2.getD j .dead)).contains (b + i))
theorem autoW_ok {b : Nat} {st : St} (h : (symAll C st).all id = true) : autoK b st = autoW C b st := by
  unfold autoK autoW
  refine List.filter_congr fun i _ => ?_
  congr 1
  have : ∀ l : List Nat, (l.any fun j => (st.2.getD j AObj.dead).names.contains (b + i)) = l.any fun j => (symNames C j (st.2.getD j .dead)).contains (b + i) := fun l => by
    induction l with
    | nil => rfl
    | cons x l ih =>
      simp only [List.any_cons]
      rw [symNames_ok C (symAll_ok C h x), ih]
  exact this _
def sweepW (b : Nat) (ks : List Nat) (st : St) : St :=
  if decide (b ≤ st.2.length) && decide ks.Nodup then
    (st.1.map (fun v => (v.ren (sigma b ks)).getD .any), ((List.range b).map fun i => symRen C (sigma b ks) i (st.2.getD i .dead)) ++ ks.map fun k => symRen C (sigma b ks) (b + k) (st.2.getD (b + k) .dead))
  else st
theorem sweepW_ok {b : Nat} {ks : List Nat} {st : St} (h : (symAll C st).all id = true) : sweep b ks st = sweepW C b ks st := by
  unfold sweep sweepW
  split
  · rename_i hc
    simp only [Bool.and_eq_true, decide_eq_true_eq] at hc
    refine Prod.ext rfl ?_
    show _ ++ _ = _ ++ _
    congr 1
    · apply List.ext_getElem
      · simp; omega
      · intro i hi hi'
        have hlt : i < b := by simpa using hi'
        have hl : i < st.2.length := by omega
        simp only [List.getElem_map, List.getElem_take, List.getElem_range]
        have := symRen_ok C (σ := sigma b ks) (symAll_ok C h i)
        rw [List.getD_eq_getElem?_getD, List.getElem?_eq_getElem hl] at this
        rw [List.getD_eq_getElem?_getD, List.getElem?_eq_getElem hl]
        exact this
    · exact List.map_congr_left fun k hk => symRen_ok C (symAll_ok C h _)
  · rfl
def tidyW (t : Tidy) (st : St) : St × List Bool := match t.keep with
  | .all => (forget t.drop st, [])
  | .rows ks => (sweepW C C.b0 ks (forget t.drop st), symAll C (forget t.drop st))
  | .auto => (sweepW C C.b0 (autoW C C.b0 (forget t.drop st)) (forget t.drop st), symAll C (forget t.drop st))
theorem tidyW_ok {t : Tidy} {st : St} (h : (tidyW C t st).2.all id = true) : tidy C.b0 t st = (tidyW C t st).1 := by
  obtain ⟨d, kp⟩ := t
  cases kp with
  | all => rfl
  | rows ks => exact sweepW_ok C h
  | auto =>
    have e : tidy C.b0 ⟨d, .auto⟩ st = sweep C.b0 (autoK C.b0 (forget d st)) (forget d st) := rfl
    rw [e, autoW_ok C h]
    exact sweepW_ok C h
/-- A piece of code, its loops and labels by what is told of them. -/
def wpP : Nat → PC ⊕ (PC × PC) → St → (AExit → St → Prop) → Prop
  | 0, _, _, _ => False
  | n + 1, .inl c, st, K => match c with
    | .skip => K .normal st
    | .label _ => K .normal st
    | .ops id na l => match tidyW C (C.F id) st with
      | (st1, bs) => chksW bs (opsW P C st1.2.length l (withHoles na st1) (K .normal))
    | .ops2 id na ls l r => match tidyW C (C.F id) st with
      | (st1, bs) => chksW bs (headW P C ls 0 st1.2.length l (withHoles na st1, List.replicate (l.length + r.length) none) fun x => opsW P C (st1.2.length + (l.filter (·.ri.isAlloc)).length) r x.1 (K .normal))
    | .ops3 id na hd tl us => match tidyW C (C.F id) st with
      | (st1, bs) => chksW bs (if us.all C.S.u then headM P C st1.2.length hd (withHoles na st1, []) fun x => tailM P C st1.2.length tl x (K .normal) else False)
    | .rf g ps as body => match C.rw (ps.headD 0) with
      | some T => T st K
      | none => False
    | .seq a b => wpP n (.inl a) st (thenW (fun st => wpP n (.inl b) st K) K)
    | .cond c x y => match evalOperand st.1 c with
      | some (.bool b) => askB b (wpP n (.inl x) st K) (wpP n (.inl y) st K)
      | _ => False
    | .block id a => wpP n (.inl a) st (blockW id K)
    | .loop a => match (headId a).bind C.lw with
      | some T => match tidyW C (C.F ((headId a).getD 0)) st with
        | (st1, bs) => chksW bs (T st1 K)
      | none => wpP n (.inl a) st (thenW (fun st => wpP n (.inl (.loop a)) st K) K)
    | .exit id => K (.exit id) st
    | .goto l => K (.goto l) st
    | .scope a => wpP n (.inr (a, a)) st K
    | .ret => K .ret st
  | n + 1, .inr (c, r), st, K => wpP n (.inl r) st (gotoW (fun l => (findP c l).map fun r' => fun st => match C.gw l with
      | some T => match tidyW C (C.F (1000000 + l)) st with
        | (st1, bs) => chksW bs (T st1 K)
      | none => wpP n (.inr (c, r')) st K) K)
/-- The loops and scopes of a piece of code. -/
def partsIn : PC → List PC
  | .seq a b => partsIn a ++ partsIn b
  | .cond _ a b => partsIn a ++ partsIn b
  | .block _ a => partsIn a
  | .loop a => .loop a :: partsIn a
  | .scope a => .scope a :: partsIn a
  | .rf g ps as body => [.rf g ps as body]
  | _ => []
theorem parts_find : ∀ (c : PC) (l : Nat) (r : PC), findP c l = some r → ∀ x ∈ partsIn r, x ∈ partsIn c
  | .seq a b, l, r, h, x, hx => by
    simp only [findP] at h
    split at h
    · rename_i r' h1
      cases h
      simp only [partsIn, List.mem_append] at hx ⊢
      rcases hx with hx | hx
      · exact .inl (parts_find a l r' h1 x hx)
      · exact .inr hx
    · simp only [partsIn, List.mem_append]
      exact .inr (parts_find b l r h x hx)
  | .label l', l, r, h, x, hx => by
    simp only [findP] at h
    split at h
    · cases h; simp [partsIn] at hx
    · cases h
  | .skip, l, r, h, x, hx => by simp [findP] at h
  | .ops .., l, r, h, x, hx => by simp [findP] at h
  | .ops2 .., l, r, h, x, hx => by simp [findP] at h
  | .cond .., l, r, h, x, hx => by simp [findP] at h
  | .block .., l, r, h, x, hx => by simp [findP] at h
  | .loop .., l, r, h, x, hx => by simp [findP] at h
  | .scope .., l, r, h, x, hx => by simp [findP] at h
  | .exit .., l, r, h, x, hx => by simp [findP] at h
  | .goto .., l, r, h, x, hx => by simp [findP] at h
  | .ret, l, r, h, x, hx => by simp [findP] at h
  | .ops3 .., l, r, h, x, hx => by simp [findP] at h
  | .rf .., l, r, h, x, hx => by simp [findP] at h
/-- What is told of a loop or of a scope's labels is so. -/
def PartOK : PC → Prop
  | .loop a => ∀ T st K, (headId a).bind C.lw = some T → T st K → W P C.S C.b0 (.inl (.loop a)) st K
  | .scope a => ∀ l T r st K, C.gw l = some T → findP a l = some r → T st K → W P C.S C.b0 (.inr (a, r)) st K
  | .rf g ps as body => ∀ T st K, C.rw (ps.headD 0) = some T → T st K → W P C.S C.b0 (.inl (.rf g ps as body)) st K
  | _ => True
variable {P C}
theorem wpP_ok (hcw : CwOK C.S C.cw) : ∀ (n : Nat),
    (∀ (c : PC) (st : St) (K : AExit → St → Prop), (∀ x ∈ partsIn c, PartOK P C x) → wpP P C n (.inl c) st K → W P C.S C.b0 (.inl c) st K) ∧
    (∀ (c r : PC) (st : St) (K : AExit → St → Prop), (∀ x ∈ partsIn c, PartOK P C x) → (∀ x ∈ partsIn r, PartOK P C x) → PartOK P C (.scope c) → wpP P C n (.inr (c, r)) st K → W P C.S C.b0 (.inr (c, r)) st K)
  | 0 => ⟨fun _ _ _ _ h => h.elim, fun _ _ _ _ _ _ _ h => h.elim⟩
  | n + 1 => by
    obtain ⟨I1, I2⟩ := wpP_ok hcw n
    have go : ∀ {t : Tidy} {x : PC ⊕ (PC × PC)} {st : St} {K : AExit → St → Prop} {T : St → Prop}, (match tidyW C t st with | (st1, bs) => chksW bs (T st1)) → (∀ st1, T st1 → W P C.S C.b0 x st1 K) → W P C.S C.b0 x st K := by
      intro t x st K T h hT
      have e : tidyW C t st = ((tidyW C t st).1, (tidyW C t st).2) := rfl
      rw [e] at h
      obtain ⟨h1, h2⟩ := chksD h
      refine W_pre t ?_
      rw [tidyW_ok C h1]
      exact hT _ h2
    refine ⟨fun c st K hp h => ?_, fun c r st K hc hr hs h => ?_⟩
    · cases c with
      | skip => exact ⟨_, _, .skip, h⟩
      | label l => exact ⟨_, _, .label, h⟩
      | exit l => exact ⟨_, _, .exit, h⟩
      | goto l => exact ⟨_, _, .goto, h⟩
      | ret => exact ⟨_, _, .ret, h⟩
      | ops3 id na hd tl us =>
        simp only [wpP] at h
        refine go (T := fun st1 => if us.all C.S.u then headM P C st1.2.length hd (withHoles na st1, []) fun x => tailM P C st1.2.length tl x (K .normal) else False) h fun st1 h1 => ?_
        split at h1
        · rename_i hu
          obtain ⟨x, h2, h3⟩ := headM_ok P C hcw h1
          obtain ⟨st2, h4, h5⟩ := tailM_ok P C hcw h3
          exact ⟨_, _, .ops3 hu h2 h4, h5⟩
        · cases h1
      | rf g ps as body =>
        simp only [wpP] at h
        split at h
        · rename_i T hT
          exact hp (.rf g ps as body) (by simp [partsIn]) T st K hT h
        · cases h
      | ops id na l =>
        simp only [wpP] at h
        refine go (T := fun st1 => opsW P C st1.2.length l (withHoles na st1) (K .normal)) h fun st1 h1 => ?_
        obtain ⟨st2, h2, h3⟩ := opsW_ok P C hcw h1
        exact ⟨_, _, .ops h2, h3⟩
      | ops2 id na ls l r =>
        simp only [wpP] at h
        refine go (T := fun st1 => headW P C ls 0 st1.2.length l (withHoles na st1, List.replicate (l.length + r.length) none) fun x => opsW P C (st1.2.length + (l.filter (·.ri.isAlloc)).length) r x.1 (K .normal)) h fun st1 h1 => ?_
        obtain ⟨x, h2, h3⟩ := headW_ok P C hcw h1
        obtain ⟨st2, h4, h5⟩ := opsW_ok P C hcw h3
        exact ⟨_, _, .ops2 (by rw [h2]; exact h4), h5⟩
      | seq a b =>
        simp only [wpP] at h
        refine W_seq (W_mono (I1 a st _ (fun x hx => hp x (by simp [partsIn, hx])) h) fun e st' h1 => ?_)
        cases e with
        | normal => exact I1 b st' K (fun x hx => hp x (by simp [partsIn, hx])) h1
        | _ => exact h1
      | cond q a b =>
        simp only [wpP] at h
        split at h
        · rename_i t ht
          rcases askD h with ⟨rfl, h⟩ | ⟨rfl, h⟩
          · obtain ⟨e, st', h1, h2⟩ := I1 a st K (fun x hx => hp x (by simp [partsIn, hx])) h
            exact ⟨e, st', .cond ht h1, h2⟩
          · obtain ⟨e, st', h1, h2⟩ := I1 b st K (fun x hx => hp x (by simp [partsIn, hx])) h
            exact ⟨e, st', .cond ht h1, h2⟩
        · cases h
      | block id a =>
        simp only [wpP] at h
        exact W_block (I1 a st _ (fun x hx => hp x (by simpa [partsIn] using hx)) h)
      | loop a =>
        simp only [wpP] at h
        split at h
        · rename_i T hT
          exact go (T := fun st1 => T st1 K) h fun st1 h1 => hp (.loop a) (by simp [partsIn]) T st1 K hT h1
        · refine W_loop (W_mono (I1 a st _ (fun x hx => hp x (by simp [partsIn, hx])) h) fun e st' h1 => ?_)
          cases e with
          | normal => exact I1 (.loop a) st' K hp h1
          | _ => exact h1
      | scope a =>
        simp only [wpP] at h
        exact W_scope (I2 a a st K (fun x hx => hp x (by simp [partsIn, hx])) (fun x hx => hp x (by simp [partsIn, hx])) (hp (.scope a) (by simp [partsIn])) h)
    · simp only [wpP] at h
      refine W_rest (W_mono (I1 r st _ hr h) fun e st' h1 => ?_)
      cases e with
      | goto l =>
        simp only [gotoW] at h1 ⊢
        cases hf : findP c l with
        | some r' =>
          simp only [hf, Option.map_some] at h1 ⊢
          cases hgl : C.gw l with
          | some T =>
            simp only [hgl] at h1
            exact go (T := fun st1 => T st1 K) h1 fun st1 h2 => hs l T r' st1 K hgl hf h2
          | none =>
            simp only [hgl] at h1
            exact I2 c r' st' K hc (fun x hx => hc x (parts_find c l r' hf x hx)) hs h1
        | none =>
          simp only [hf, Option.map_none] at h1 ⊢
          exact h1
      | _ => exact h1
end
section
variable {P : Program} {Q : FuncId → Bool}
theorem imp_closed {d : Nat} {h : AHeap} {args : List AV} (ha : args.all AV.closed = true) : impD d h args = some (args, []) := by
  have hc := closedL ha
  have hr : reachK d h args = [] := by
    unfold reachK
    rw [namesL_refs0 _ hc]
    have : ∀ d, closeK d h [] = [] := fun d => by
      induction d with
      | zero => rfl
      | succ d ih => simp [closeK, ih]
    exact this d
  unfold impD
  rw [hr]
  simp only [List.nodup_nil, decide_true, if_true, renL_closed _ hc, Option.map_some, List.map_nil]
/-- A contract of a function of plain values. -/
theorem quiet_plain {f : FuncId} {fn : Func} (hf : HasText P f fn) {s : List AV → Option AV}
    (hs : ∀ args v, s args = some v → args.all AV.closed = true ∧ v.closed = true ∧ ∃ h', CallSem P f args [] v h') : QuietOK P f fun args _ => s args := by
  have h1 := quiet_of_sem hf 0 (g := fun args hp => match hp with | [] => s args | _ => none) (fun args hp v hv => by
    split at hv
    · exact (hs args v hv).2
    · cases hv)
  refine ⟨fun args h v hv ρ B w0 w hI hok => h1.1 args h v ?_ ρ B w0 w hI hok, fun _ _ _ _ _ _ => rfl, h1.2.2⟩
  show (impD 0 h args).bind _ = some v
  rw [imp_closed (hs args v hv).1]
  exact hv
def isCellR : ResultVar → Bool
  | .cell .. => true
  | _ => false
/-- What a function hands back: what is read out of memory at the end is asked for. -/
def retX (P : Program) (pf : PF) (R : AV → AHeap → Prop) (e : AExit) (st : St) : Prop := if pf.results.any isCellR then (match e with
    | .normal => ∃ v, resP P pf st = some v ∧ R v st.2
    | .ret => ∃ v, resP P pf st = some v ∧ R v st.2
    | _ => False) else retW P pf R e st
theorem retX_ok {P : Program} {pf : PF} {R : AV → AHeap → Prop} {e : AExit} {st : St} (h : retX P pf R e st) : retW P pf R e st := by
  unfold retX at h
  split at h
  · split at h
    · obtain ⟨v, h1, h2⟩ := h; simp only [retW, h1]; exact h2
    · obtain ⟨v, h1, h2⟩ := h; simp only [retW, h1]; exact h2
    · cases h
  · exact h
/-- What a function's code must come to. -/
def wpF (P : Program) (C : Cfg) (n : Nat) (pf : PF) (args : List AV) (h : AHeap) (R : AV → AHeap → Prop) : Prop :=
  wpP P { C with b0 := h.length } n (.inl pf.body) (startP pf args h) (retX P pf R)
theorem sem_wp (hm : P.follows .mixedOrders = true) {C : Cfg} (hS : C.S.OK P) (hQ : ∀ g, (C.S.q g).isSome = Q g) (hcw : CwOK C.S C.cw) {f : FuncId} {fn : Func} {pf : PF} (hf : HasText P f fn) (hc : compF P Q fn = some pf) {n : Nat} {args : List AV} {h : AHeap} {R : AV → AHeap → Prop}
    (hp : ∀ x ∈ partsIn pf.body, PartOK P { C with b0 := h.length } x) (hw : wpF P C n pf args h R) : ∃ v h', R v h' ∧ CallSem P f args h v h' :=
  sem_of_W hm hS hQ hf hc (W_mono ((wpP_ok (C := { C with b0 := h.length }) hcw n).1 _ _ _ hp hw) fun _ _ h => retX_ok h)
/-- The same, by what must be met. -/
theorem sem_vc (hm : P.follows .mixedOrders = true) {C : Cfg} (hS : C.S.OK P) (hQ : ∀ g, (C.S.q g).isSome = Q g) (hcw : CwOK C.S C.cw) {f : FuncId} {fn : Func} {pf : PF} (hf : HasText P f fn) (hc : compF P Q fn = some pf) {n : Nat} {args : List AV} {h : AHeap} {R : AV → AHeap → Prop}
    (hp : ∀ x ∈ partsIn pf.body, PartOK P { C with b0 := h.length } x) {A : Prop} (he : A = wpF P C n pf args h R) (ha : A) : ∃ v h', R v h' ∧ CallSem P f args h v h' :=
  sem_wp hm hS hQ hcw hf hc hp (by rw [← he]; exact ha)
/-- An environment: what stands in some of so many places. -/
def envOf (n : Nat) (l : List (Nat × AV)) : List AV := l.foldl (fun e p => e.set p.1 p.2) (List.replicate n .any)
end
end Go.Am
