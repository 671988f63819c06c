/- Written by merging: ShaZa ShaZb ShaZc ShaZd ShaZe ShaZf. -/
import Derived.Test.YtiijphmpkmmpjaaSh
import Derived.Test.YtiijphmpkmmpjaaAmHf
namespace Go.Proofs.Ytiijphmpkmmpjaa
open Go Go.Am
set_option maxRecDepth 100000
set_option linter.unusedVariables false
set_option linter.unusedSimpArgs false
/- ShaPieces: what its calls ask and give; the shapes of its loop. -/
def postS (C : Cfg) (tn tx : St → Tidy) (K : AExit → St → Prop) : AExit → St → Prop
  | .normal, st => match tidyW C (tn st) st with
    | (st1, bs) => chksW bs (K .normal st1)
  | .ret, st => K .ret st
  | .exit i, st => match tidyW C (tx st) st with
    | (st1, bs) => chksW bs (K (.exit i) st1)
  | .goto i, st => K (.goto i) st
theorem W_postS {P : Program} {C : Cfg} {x : PC ⊕ (PC × PC)} {st : St} {tn tx : St → Tidy} {K : AExit → St → Prop} (h : W P C.S C.b0 x st (postS C tn tx K)) : W P C.S C.b0 x st K := by
  obtain ⟨e, st1, h1, h2⟩ := h
  have go : ∀ (t : Tidy) (e : AExit), Run P C.S C.b0 x st (e, st1) → (match tidyW C t st1 with | (st2, bs) => chksW bs (K e st2)) → W P C.S C.b0 x st K := by
    intro t e h1 h2
    have he : tidyW C t st1 = ((tidyW C t st1).1, (tidyW C t st1).2) := rfl
    rw [he] at h2
    obtain ⟨h3, h4⟩ := chksD h2
    refine ⟨e, _, .post t h1, ?_⟩
    rw [tidyW_ok C h3]
    exact h4
  cases e with
  | normal => exact go (tn st1) _ h1 h2
  | ret => exact ⟨_, _, h1, h2⟩
  | exit i => exact go (tx st1) _ h1 h2
  | goto i => exact ⟨_, _, h1, h2⟩
theorem W_wpS {P : Program} {C : Cfg} (hcw : CwOK C.S C.cw) {a : PC} (hp : ∀ x ∈ partsIn a, PartOK P C x) {n : Nat} {st : St} {tn tx : St → Tidy} {K : AExit → St → Prop} (h : wpP P C n (.inl a) st (postS C tn tx K)) : W P C.S C.b0 (.inl a) st K :=
  W_postS ((wpP_ok hcw n).1 a st _ hp h)
/-- The rows that stay: the hash, the pieces, what is left over. -/
def canon (b : Nat) (st : St) : List Nat :=
  let a := AV.names (st.1.getD 7 .any)
  let p := AV.names (st.1.getD 8 .any)
  let r := a.flatMap fun k => (st.2.getD k .dead).names
  ((a ++ p ++ r).filter fun k => decide (b ≤ k)).map (· - b)
abbrev nilV : AV := .sl none 0 (.fix 0)
abbrev restR (i k : Nat) : AV := .sl (some (i, 0)) k (.fix 64)
def T9 (vs : List AV) (h : AHeap) (K : AV × AHeap → Prop) : Prop := begunS vs = some (.bool true) ∧ K (.bool true, h)
def T19 (vs : List AV) (h : AHeap) (K : AV × AHeap → Prop) : Prop := ∃ n, lenS vs h = some (.int .i64 n) ∧ K (.int .i64 n, h)
def T20 (vs : List AV) (h : AHeap) (K : AV × AHeap → Prop) : Prop := ∃ g, sumS vs h = some (.agg (ints .u8 32 g)) ∧ K (.agg (ints .u8 32 g), h)
abbrev sL (L : List AV) : Nat → Int := (absorb firstI L).1
abbrev rL (L : List AV) : List AV := (absorb firstI L).2
/-- A slice of the read-only row k. -/
def cellOK (k : Nat) (d : List AV) : AV → Bool
  | .sl (some (k', o)) m (.fix c) => k' == k && decide (m ≤ c) && decide (o + m ≤ d.length)
  | _ => false
def isNilS : AV → Bool
  | .sl none 0 (.fix 0) => true
  | _ => false
def cont (d : List AV) : AV → List AV
  | .sl (some (_, o)) m _ => (d.drop o).take m
  | _ => []
def flatP (d : List AV) (P : List AV) : List AV := P.flatMap (cont d)
def g12 (args : List AV) (hs : List AObj) : Option AV := match args, hs with
  | [.sl (some (0, 0)) l (.rel 0)], [.ro P, .ro d] => if P.all (cellOK 1 d) && d.all (isInt .u8) && decide (l = P.length) && decide (l ≤ 1099511627776) && decide ((flatP d P).length ≤ 1152921504606846976) then some (.agg (ints .u8 32 (shaL (flatP d P)))) else none
  | [.sl (some (0, 0)) l (.rel 0)], [.ro P] => if P.all isNilS && decide (l = P.length) && decide (l ≤ 1099511627776) then some (.agg (ints .u8 32 (shaL []))) else none
  | _, _ => none
def sum12S (args : List AV) (h : AHeap) : Option AV := (impD 1 h args).bind fun r => g12 r.1 r.2
def T17 (vs : List AV) (h : AHeap) (K : AV × AHeap → Prop) : Prop := runG Try.prog SBq FNo 40 p17 vs h = some (.ptr (some (h.length, 0)), h ++ [hrow firstI nilV 0]) ∧ K (.ptr (some (h.length, 0)), h ++ [hrow firstI nilV 0])
def T18 (vs : List AV) (h : AHeap) (K : AV × AHeap → Prop) : Prop := match vs with
  | [.ptr (some (i, 0)), v] => ∃ b : Bool, askB b
      (∃ s n, framedS 1 sW [.ptr (some (i, 0)), v] h = some (.int .i64 0, h.set i (hrow s nilV n)) ∧ K (.int .i64 0, h.set i (hrow s nilV n)))
      (match (h.getD i .dead).names with
      | [] => ∃ s n k R, framedS 1 sW [.ptr (some (i, 0)), v] h = some (.int .i64 0, h.set i (hrow s (restR h.length k) n) ++ [.row 26 64 R]) ∧ K (.int .i64 0, h.set i (hrow s (restR h.length k) n) ++ [.row 26 64 R])
      | _ => ∃ b2 : Bool, askB b2 (framedS 1 sW [.ptr (some (i, 0)), v] h = some (.int .i64 0, h) ∧ K (.int .i64 0, h))
        (∃ s n k R, framedS 1 sW [.ptr (some (i, 0)), v] h = some (.int .i64 0, h.set i (hrow s (restR h.length k) n) ++ [.row 26 64 R]) ∧ K (.int .i64 0, h.set i (hrow s (restR h.length k) n) ++ [.row 26 64 R])))
  | _ => False
theorem T18_ok {vs : List AV} {h : AHeap} {K : AV × AHeap → Prop} (hT : T18 vs h K) : ∃ r, framedS 1 sW vs h = some r ∧ K r := by
  unfold T18 at hT
  split at hT
  · obtain ⟨b, hT⟩ := hT
    rcases askD hT with ⟨_, s, n, h1, h2⟩ | ⟨_, hT⟩
    · exact ⟨_, h1, h2⟩
    · split at hT
      · obtain ⟨s, n, k, R, h1, h2⟩ := hT
        exact ⟨_, h1, h2⟩
      · obtain ⟨b2, hT⟩ := hT
        rcases askD hT with ⟨_, h1, h2⟩ | ⟨_, s, n, k, R, h1, h2⟩
        · exact ⟨_, h1, h2⟩
        · exact ⟨_, h1, h2⟩
  · exact hT.elim
def T21 (vs : List AV) (h : AHeap) (K : AV × AHeap → Prop) : Prop := match vs with
  | [.ptr (some (i, 0))] => runG Try.prog SB35 FNo 40 p21 [.ptr (some (i, 0))] h = some (.ptr (some (h.length, 0)), h ++ [h.getD i .dead]) ∧ K (.ptr (some (h.length, 0)), h ++ [h.getD i .dead])
  | _ => False
def cw12 (g : FuncId) : Option (List AV → AHeap → (AV × AHeap → Prop) → Prop) := match g with
  | 17 => some T17
  | 18 => some T18
  | 20 => some T20
  | _ => none
theorem S12_17 (vs : List AV) (h : AHeap) : callS SB12 17 vs h = runG Try.prog SBq FNo 40 p17 vs h := rfl
theorem cw12_ok : CwOK SB12 cw12 := by
  intro g T vs h K hg hT
  unfold cw12 at hg
  split at hg <;> cases hg
  · exact ⟨_, (S12_17 _ _).trans hT.1, hT.2⟩
  · obtain ⟨r, h1, h2⟩ := T18_ok hT
    exact ⟨r, (S12_18 _ _).trans h1, h2⟩
  · obtain ⟨g, h1, h2⟩ := hT
    exact ⟨_, (S12_20 vs h).trans (by rw [h1]; rfl), h2⟩
def canon2 (b : Nat) (st : St) : List Nat :=
  let a := AV.names (st.1.getD 2 .any)
  let p := AV.names (st.1.getD 3 .any)
  let r := p.flatMap fun k => (st.2.getD k .dead).names
  ((a ++ p ++ r).filter fun k => decide (b ≤ k)).map (· - b)
noncomputable def C12 (b : Nat) (k : K1) : Cfg where
  S := SB12
  sy := fun k => k == 0
  kd := fun _ => .one k
  cw := cw12
  lw := fun _ => none
  gw := fun _ => none
  F := fun _ => ⟨[], .all⟩
  b0 := b
def tn12 (b : Nat) (st : St) : Tidy := ⟨keepT 19 [2, 3, 7, 8, 9], .rows (canon2 b st)⟩
def tx12 (b : Nat) (st : St) : Tidy := ⟨keepT 19 [2, 3], .rows (canon2 b st)⟩
def st12 (b l i : Nat) (h : AHeap) : St :=
  (envOf 19 [(2, .ptr (some (b, 0))), (3, .ptr (some (b + 1, 0))), (7, .sl (some (0, 0)) l (.rel 0)), (8, .int .i64 l), (9, .int .i64 i)], h)
def en12 (b : Nat) (h : AHeap) : St := (envOf 19 [(2, .ptr (some (b, 0))), (3, .ptr (some (b + 1, 0)))], h)
def k12A (P d : List AV) (s : Nat → Int) (n : Int) : AHeap := [.ro P, .ro d, .row 30 32 (z3 .u8 32), hrow s nilV n]
def k12B (P d : List AV) (s : Nat → Int) (n : Int) (k : Nat) (R : List AV) : AHeap := [.ro P, .ro d, .row 30 32 (z3 .u8 32), hrow s (restR 4 k) n, .row 26 64 R]
def k12N (P : List AV) : AHeap := [.ro P, .row 30 32 (z3 .u8 32), hrow firstI nilV 0]
def T12l (P d : List AV) (l : Nat) (st : St) (K : AExit → St → Prop) : Prop :=
  st = st12 2 l 0 (k12A P d firstI 0) ∧ ∀ b : Bool, askB b
    (rL (flatP d P) = [] → K (.exit 0) (en12 2 (k12A P d (sL (flatP d P)) (flatP d P).length)))
    (rL (flatP d P) ≠ [] → K (.exit 0) (en12 2 (k12B P d (sL (flatP d P)) (flatP d P).length (rL (flatP d P)).length (R64 (rL (flatP d P))))))
def T12n (P : List AV) (l : Nat) (st : St) (K : AExit → St → Prop) : Prop := st = st12 1 l 0 (k12N P) ∧ K (.exit 0) (en12 1 (k12N P))
noncomputable def C12f (k : K1) (T : St → (AExit → St → Prop) → Prop) : Cfg :=
  { C12 0 k with lw := fun id => if id == 3 then some T else none, F := fun id => if id == 3 then ⟨keepT 19 [2, 3, 7, 8, 9], .auto⟩ else ⟨[], .all⟩ }
/- The sum of pieces: what its rounds must meet. -/
theorem v12bA (P d : List AV) (l i : Nat) (s : Nat → Int) (n : Int) (k : Nat) (R : List AV) (K : AExit → St → Prop) : (askB (decide ((↑i : Int) < (↑l : Int))) (chkW (decide ((↑i : Int) < (↑l : Int))) (∃ (o : Nat), ∃ (m : Nat), ∃ (c : Nat), (Option.bind (cellsAt [AObj.ro P, AObj.ro d, AObj.row 30 32 [AV.int .u8 0, AV.int .u8 0, AV.int .u8 0, AV.int .u8 0, AV.int .u8 0, AV.int .u8 0, AV.int .u8 0, AV.int .u8 0, AV.int .u8 0, AV.int .u8 0, AV.int .u8 0, AV.int .u8 0, AV.int .u8 0, AV.int .u8 0, AV.int .u8 0, AV.int .u8 0, AV.int .u8 0, AV.int .u8 0, AV.int .u8 0, AV.int .u8 0, AV.int .u8 0, AV.int .u8 0, AV.int .u8 0, AV.int .u8 0, AV.int .u8 0, AV.int .u8 0, AV.int .u8 0, AV.int .u8 0, AV.int .u8 0, AV.int .u8 0, AV.int .u8 0, AV.int .u8 0], AObj.row 47 11 [AV.bool true, AV.int .u32 (s 0), AV.int .u32 (s 1), AV.int .u32 (s 2), AV.int .u32 (s 3), AV.int .u32 (s 4), AV.int .u32 (s 5), AV.int .u32 (s 6), AV.int .u32 (s 7), AV.sl none 0 (ACap.fix 0), AV.int .i64 n]] 0) fun (x : List AV) => partR none x (0 + i * 1)) = some (AV.sl (some (1, o)) m (ACap.fix c)) ∧ ∃ (b : Bool), askB b (∃ (s_1 : Nat → Int), ∃ (n_1 : Int), framedS 1 sW [AV.ptr (some (3, 0)), AV.sl (some (1, o)) m (ACap.fix c)] [AObj.ro P, AObj.ro d, AObj.row 30 32 [AV.int .u8 0, AV.int .u8 0, AV.int .u8 0, AV.int .u8 0, AV.int .u8 0, AV.int .u8 0, AV.int .u8 0, AV.int .u8 0, AV.int .u8 0, AV.int .u8 0, AV.int .u8 0, AV.int .u8 0, AV.int .u8 0, AV.int .u8 0, AV.int .u8 0, AV.int .u8 0, AV.int .u8 0, AV.int .u8 0, AV.int .u8 0, AV.int .u8 0, AV.int .u8 0, AV.int .u8 0, AV.int .u8 0, AV.int .u8 0, AV.int .u8 0, AV.int .u8 0, AV.int .u8 0, AV.int .u8 0, AV.int .u8 0, AV.int .u8 0, AV.int .u8 0, AV.int .u8 0], AObj.row 47 11 [AV.bool true, AV.int .u32 (s 0), AV.int .u32 (s 1), AV.int .u32 (s 2), AV.int .u32 (s 3), AV.int .u32 (s 4), AV.int .u32 (s 5), AV.int .u32 (s 6), AV.int .u32 (s 7), AV.sl none 0 (ACap.fix 0), AV.int .i64 n]] = some (AV.int .i64 0, [AObj.ro P, AObj.ro d, AObj.row 30 32 [AV.int .u8 0, AV.int .u8 0, AV.int .u8 0, AV.int .u8 0, AV.int .u8 0, AV.int .u8 0, AV.int .u8 0, AV.int .u8 0, AV.int .u8 0, AV.int .u8 0, AV.int .u8 0, AV.int .u8 0, AV.int .u8 0, AV.int .u8 0, AV.int .u8 0, AV.int .u8 0, AV.int .u8 0, AV.int .u8 0, AV.int .u8 0, AV.int .u8 0, AV.int .u8 0, AV.int .u8 0, AV.int .u8 0, AV.int .u8 0, AV.int .u8 0, AV.int .u8 0, AV.int .u8 0, AV.int .u8 0, AV.int .u8 0, AV.int .u8 0, AV.int .u8 0, AV.int .u8 0], AObj.row 47 11 [AV.bool true, AV.int .u32 (s_1 0), AV.int .u32 (s_1 1), AV.int .u32 (s_1 2), AV.int .u32 (s_1 3), AV.int .u32 (s_1 4), AV.int .u32 (s_1 5), AV.int .u32 (s_1 6), AV.int .u32 (s_1 7), AV.sl none 0 (ACap.fix 0), AV.int .i64 n_1]]) ∧ chkW (objClosed 2 (AObj.ro P)) (chkW (objClosed 2 (AObj.ro d)) (K AExit.normal (envOf 19 [(2, AV.ptr (some (2, 0))), (3, AV.ptr (some (3, 0))), (7, AV.sl (some (0, 0)) l (ACap.rel 0)), (8, AV.int .i64 (↑l : Int)), (9, AV.int .i64 (IntKind.wrap .i64 ((↑i : Int) + 1)))], [AObj.ro P, AObj.ro d, AObj.row 30 32 [AV.int .u8 0, AV.int .u8 0, AV.int .u8 0, AV.int .u8 0, AV.int .u8 0, AV.int .u8 0, AV.int .u8 0, AV.int .u8 0, AV.int .u8 0, AV.int .u8 0, AV.int .u8 0, AV.int .u8 0, AV.int .u8 0, AV.int .u8 0, AV.int .u8 0, AV.int .u8 0, AV.int .u8 0, AV.int .u8 0, AV.int .u8 0, AV.int .u8 0, AV.int .u8 0, AV.int .u8 0, AV.int .u8 0, AV.int .u8 0, AV.int .u8 0, AV.int .u8 0, AV.int .u8 0, AV.int .u8 0, AV.int .u8 0, AV.int .u8 0, AV.int .u8 0, AV.int .u8 0], AObj.row 47 11 [AV.bool true, AV.int .u32 (s_1 0), AV.int .u32 (s_1 1), AV.int .u32 (s_1 2), AV.int .u32 (s_1 3), AV.int .u32 (s_1 4), AV.int .u32 (s_1 5), AV.int .u32 (s_1 6), AV.int .u32 (s_1 7), AV.sl none 0 (ACap.fix 0), AV.int .i64 n_1]])))) (∃ (s_1 : Nat → Int), ∃ (n_1 : Int), ∃ (k : Nat), ∃ (R : List AV), framedS 1 sW [AV.ptr (some (3, 0)), AV.sl (some (1, o)) m (ACap.fix c)] [AObj.ro P, AObj.ro d, AObj.row 30 32 [AV.int .u8 0, AV.int .u8 0, AV.int .u8 0, AV.int .u8 0, AV.int .u8 0, AV.int .u8 0, AV.int .u8 0, AV.int .u8 0, AV.int .u8 0, AV.int .u8 0, AV.int .u8 0, AV.int .u8 0, AV.int .u8 0, AV.int .u8 0, AV.int .u8 0, AV.int .u8 0, AV.int .u8 0, AV.int .u8 0, AV.int .u8 0, AV.int .u8 0, AV.int .u8 0, AV.int .u8 0, AV.int .u8 0, AV.int .u8 0, AV.int .u8 0, AV.int .u8 0, AV.int .u8 0, AV.int .u8 0, AV.int .u8 0, AV.int .u8 0, AV.int .u8 0, AV.int .u8 0], AObj.row 47 11 [AV.bool true, AV.int .u32 (s 0), AV.int .u32 (s 1), AV.int .u32 (s 2), AV.int .u32 (s 3), AV.int .u32 (s 4), AV.int .u32 (s 5), AV.int .u32 (s 6), AV.int .u32 (s 7), AV.sl none 0 (ACap.fix 0), AV.int .i64 n]] = some (AV.int .i64 0, [AObj.ro P, AObj.ro d, AObj.row 30 32 [AV.int .u8 0, AV.int .u8 0, AV.int .u8 0, AV.int .u8 0, AV.int .u8 0, AV.int .u8 0, AV.int .u8 0, AV.int .u8 0, AV.int .u8 0, AV.int .u8 0, AV.int .u8 0, AV.int .u8 0, AV.int .u8 0, AV.int .u8 0, AV.int .u8 0, AV.int .u8 0, AV.int .u8 0, AV.int .u8 0, AV.int .u8 0, AV.int .u8 0, AV.int .u8 0, AV.int .u8 0, AV.int .u8 0, AV.int .u8 0, AV.int .u8 0, AV.int .u8 0, AV.int .u8 0, AV.int .u8 0, AV.int .u8 0, AV.int .u8 0, AV.int .u8 0, AV.int .u8 0], AObj.row 47 11 [AV.bool true, AV.int .u32 (s_1 0), AV.int .u32 (s_1 1), AV.int .u32 (s_1 2), AV.int .u32 (s_1 3), AV.int .u32 (s_1 4), AV.int .u32 (s_1 5), AV.int .u32 (s_1 6), AV.int .u32 (s_1 7), AV.sl (some (4, 0)) k (ACap.fix 64), AV.int .i64 n_1], AObj.row 26 64 R]) ∧ chkW (objClosed 2 (AObj.ro P)) (chkW (objClosed 2 (AObj.ro d)) (chkW (objClosed 2 (AObj.row 26 64 R)) (K AExit.normal (envOf 19 [(2, AV.ptr (some (2, 0))), (3, AV.ptr (some (3, 0))), (7, AV.sl (some (0, 0)) l (ACap.rel 0)), (8, AV.int .i64 (↑l : Int)), (9, AV.int .i64 (IntKind.wrap .i64 ((↑i : Int) + 1)))], [AObj.ro P, AObj.ro d, AObj.row 30 32 [AV.int .u8 0, AV.int .u8 0, AV.int .u8 0, AV.int .u8 0, AV.int .u8 0, AV.int .u8 0, AV.int .u8 0, AV.int .u8 0, AV.int .u8 0, AV.int .u8 0, AV.int .u8 0, AV.int .u8 0, AV.int .u8 0, AV.int .u8 0, AV.int .u8 0, AV.int .u8 0, AV.int .u8 0, AV.int .u8 0, AV.int .u8 0, AV.int .u8 0, AV.int .u8 0, AV.int .u8 0, AV.int .u8 0, AV.int .u8 0, AV.int .u8 0, AV.int .u8 0, AV.int .u8 0, AV.int .u8 0, AV.int .u8 0, AV.int .u8 0, AV.int .u8 0, AV.int .u8 0], AObj.row 47 11 [AV.bool true, AV.int .u32 (s_1 0), AV.int .u32 (s_1 1), AV.int .u32 (s_1 2), AV.int .u32 (s_1 3), AV.int .u32 (s_1 4), AV.int .u32 (s_1 5), AV.int .u32 (s_1 6), AV.int .u32 (s_1 7), AV.sl (some (4, 0)) k (ACap.fix 64), AV.int .i64 n_1], AObj.row 26 64 R]))))))) (chkW (objClosed 2 (AObj.ro P)) (chkW (objClosed 2 (AObj.ro d)) (K (AExit.exit 0) (envOf 19 [(2, AV.ptr (some (2, 0))), (3, AV.ptr (some (3, 0)))], [AObj.ro P, AObj.ro d, AObj.row 30 32 [AV.int .u8 0, AV.int .u8 0, AV.int .u8 0, AV.int .u8 0, AV.int .u8 0, AV.int .u8 0, AV.int .u8 0, AV.int .u8 0, AV.int .u8 0, AV.int .u8 0, AV.int .u8 0, AV.int .u8 0, AV.int .u8 0, AV.int .u8 0, AV.int .u8 0, AV.int .u8 0, AV.int .u8 0, AV.int .u8 0, AV.int .u8 0, AV.int .u8 0, AV.int .u8 0, AV.int .u8 0, AV.int .u8 0, AV.int .u8 0, AV.int .u8 0, AV.int .u8 0, AV.int .u8 0, AV.int .u8 0, AV.int .u8 0, AV.int .u8 0, AV.int .u8 0, AV.int .u8 0], AObj.row 47 11 [AV.bool true, AV.int .u32 (s 0), AV.int .u32 (s 1), AV.int .u32 (s 2), AV.int .u32 (s 3), AV.int .u32 (s 4), AV.int .u32 (s 5), AV.int .u32 (s 6), AV.int .u32 (s 7), AV.sl none 0 (ACap.fix 0), AV.int .i64 n]]))))) = (wpP Try.prog (C12 2 (.slk 1)) 60 (.inl p12_l0) (st12 2 l i (k12A P d s n)) (postS (C12 2 (.slk 1)) (tn12 2) (tx12 2) K)) := by kernel_rfl
theorem v12bB (P d : List AV) (l i : Nat) (s : Nat → Int) (n : Int) (k : Nat) (R : List AV) (K : AExit → St → Prop) : (askB (decide ((↑i : Int) < (↑l : Int))) (chkW (decide ((↑i : Int) < (↑l : Int))) (∃ (o : Nat), ∃ (m : Nat), ∃ (c : Nat), (Option.bind (cellsAt [AObj.ro P, AObj.ro d, AObj.row 30 32 [AV.int .u8 0, AV.int .u8 0, AV.int .u8 0, AV.int .u8 0, AV.int .u8 0, AV.int .u8 0, AV.int .u8 0, AV.int .u8 0, AV.int .u8 0, AV.int .u8 0, AV.int .u8 0, AV.int .u8 0, AV.int .u8 0, AV.int .u8 0, AV.int .u8 0, AV.int .u8 0, AV.int .u8 0, AV.int .u8 0, AV.int .u8 0, AV.int .u8 0, AV.int .u8 0, AV.int .u8 0, AV.int .u8 0, AV.int .u8 0, AV.int .u8 0, AV.int .u8 0, AV.int .u8 0, AV.int .u8 0, AV.int .u8 0, AV.int .u8 0, AV.int .u8 0, AV.int .u8 0], AObj.row 47 11 [AV.bool true, AV.int .u32 (s 0), AV.int .u32 (s 1), AV.int .u32 (s 2), AV.int .u32 (s 3), AV.int .u32 (s 4), AV.int .u32 (s 5), AV.int .u32 (s 6), AV.int .u32 (s 7), AV.sl (some (4, 0)) k (ACap.fix 64), AV.int .i64 n], AObj.row 26 64 R] 0) fun (x : List AV) => partR none x (0 + i * 1)) = some (AV.sl (some (1, o)) m (ACap.fix c)) ∧ ∃ (b : Bool), askB b (∃ (s_1 : Nat → Int), ∃ (n_1 : Int), framedS 1 sW [AV.ptr (some (3, 0)), AV.sl (some (1, o)) m (ACap.fix c)] [AObj.ro P, AObj.ro d, AObj.row 30 32 [AV.int .u8 0, AV.int .u8 0, AV.int .u8 0, AV.int .u8 0, AV.int .u8 0, AV.int .u8 0, AV.int .u8 0, AV.int .u8 0, AV.int .u8 0, AV.int .u8 0, AV.int .u8 0, AV.int .u8 0, AV.int .u8 0, AV.int .u8 0, AV.int .u8 0, AV.int .u8 0, AV.int .u8 0, AV.int .u8 0, AV.int .u8 0, AV.int .u8 0, AV.int .u8 0, AV.int .u8 0, AV.int .u8 0, AV.int .u8 0, AV.int .u8 0, AV.int .u8 0, AV.int .u8 0, AV.int .u8 0, AV.int .u8 0, AV.int .u8 0, AV.int .u8 0, AV.int .u8 0], AObj.row 47 11 [AV.bool true, AV.int .u32 (s 0), AV.int .u32 (s 1), AV.int .u32 (s 2), AV.int .u32 (s 3), AV.int .u32 (s 4), AV.int .u32 (s 5), AV.int .u32 (s 6), AV.int .u32 (s 7), AV.sl (some (4, 0)) k (ACap.fix 64), AV.int .i64 n], AObj.row 26 64 R] = some (AV.int .i64 0, [AObj.ro P, AObj.ro d, AObj.row 30 32 [AV.int .u8 0, AV.int .u8 0, AV.int .u8 0, AV.int .u8 0, AV.int .u8 0, AV.int .u8 0, AV.int .u8 0, AV.int .u8 0, AV.int .u8 0, AV.int .u8 0, AV.int .u8 0, AV.int .u8 0, AV.int .u8 0, AV.int .u8 0, AV.int .u8 0, AV.int .u8 0, AV.int .u8 0, AV.int .u8 0, AV.int .u8 0, AV.int .u8 0, AV.int .u8 0, AV.int .u8 0, AV.int .u8 0, AV.int .u8 0, AV.int .u8 0, AV.int .u8 0, AV.int .u8 0, AV.int .u8 0, AV.int .u8 0, AV.int .u8 0, AV.int .u8 0, AV.int .u8 0], AObj.row 47 11 [AV.bool true, AV.int .u32 (s_1 0), AV.int .u32 (s_1 1), AV.int .u32 (s_1 2), AV.int .u32 (s_1 3), AV.int .u32 (s_1 4), AV.int .u32 (s_1 5), AV.int .u32 (s_1 6), AV.int .u32 (s_1 7), AV.sl none 0 (ACap.fix 0), AV.int .i64 n_1], AObj.row 26 64 R]) ∧ chkW (objClosed 2 (AObj.ro P)) (chkW (objClosed 2 (AObj.ro d)) (chkW (objClosed 2 (AObj.row 26 64 R)) (K AExit.normal (envOf 19 [(2, AV.ptr (some (2, 0))), (3, AV.ptr (some (3, 0))), (7, AV.sl (some (0, 0)) l (ACap.rel 0)), (8, AV.int .i64 (↑l : Int)), (9, AV.int .i64 (IntKind.wrap .i64 ((↑i : Int) + 1)))], [AObj.ro P, AObj.ro d, AObj.row 30 32 [AV.int .u8 0, AV.int .u8 0, AV.int .u8 0, AV.int .u8 0, AV.int .u8 0, AV.int .u8 0, AV.int .u8 0, AV.int .u8 0, AV.int .u8 0, AV.int .u8 0, AV.int .u8 0, AV.int .u8 0, AV.int .u8 0, AV.int .u8 0, AV.int .u8 0, AV.int .u8 0, AV.int .u8 0, AV.int .u8 0, AV.int .u8 0, AV.int .u8 0, AV.int .u8 0, AV.int .u8 0, AV.int .u8 0, AV.int .u8 0, AV.int .u8 0, AV.int .u8 0, AV.int .u8 0, AV.int .u8 0, AV.int .u8 0, AV.int .u8 0, AV.int .u8 0, AV.int .u8 0], AObj.row 47 11 [AV.bool true, AV.int .u32 (s_1 0), AV.int .u32 (s_1 1), AV.int .u32 (s_1 2), AV.int .u32 (s_1 3), AV.int .u32 (s_1 4), AV.int .u32 (s_1 5), AV.int .u32 (s_1 6), AV.int .u32 (s_1 7), AV.sl none 0 (ACap.fix 0), AV.int .i64 n_1]]))))) (∃ (b2 : Bool), askB b2 (framedS 1 sW [AV.ptr (some (3, 0)), AV.sl (some (1, o)) m (ACap.fix c)] [AObj.ro P, AObj.ro d, AObj.row 30 32 [AV.int .u8 0, AV.int .u8 0, AV.int .u8 0, AV.int .u8 0, AV.int .u8 0, AV.int .u8 0, AV.int .u8 0, AV.int .u8 0, AV.int .u8 0, AV.int .u8 0, AV.int .u8 0, AV.int .u8 0, AV.int .u8 0, AV.int .u8 0, AV.int .u8 0, AV.int .u8 0, AV.int .u8 0, AV.int .u8 0, AV.int .u8 0, AV.int .u8 0, AV.int .u8 0, AV.int .u8 0, AV.int .u8 0, AV.int .u8 0, AV.int .u8 0, AV.int .u8 0, AV.int .u8 0, AV.int .u8 0, AV.int .u8 0, AV.int .u8 0, AV.int .u8 0, AV.int .u8 0], AObj.row 47 11 [AV.bool true, AV.int .u32 (s 0), AV.int .u32 (s 1), AV.int .u32 (s 2), AV.int .u32 (s 3), AV.int .u32 (s 4), AV.int .u32 (s 5), AV.int .u32 (s 6), AV.int .u32 (s 7), AV.sl (some (4, 0)) k (ACap.fix 64), AV.int .i64 n], AObj.row 26 64 R] = some (AV.int .i64 0, [AObj.ro P, AObj.ro d, AObj.row 30 32 [AV.int .u8 0, AV.int .u8 0, AV.int .u8 0, AV.int .u8 0, AV.int .u8 0, AV.int .u8 0, AV.int .u8 0, AV.int .u8 0, AV.int .u8 0, AV.int .u8 0, AV.int .u8 0, AV.int .u8 0, AV.int .u8 0, AV.int .u8 0, AV.int .u8 0, AV.int .u8 0, AV.int .u8 0, AV.int .u8 0, AV.int .u8 0, AV.int .u8 0, AV.int .u8 0, AV.int .u8 0, AV.int .u8 0, AV.int .u8 0, AV.int .u8 0, AV.int .u8 0, AV.int .u8 0, AV.int .u8 0, AV.int .u8 0, AV.int .u8 0, AV.int .u8 0, AV.int .u8 0], AObj.row 47 11 [AV.bool true, AV.int .u32 (s 0), AV.int .u32 (s 1), AV.int .u32 (s 2), AV.int .u32 (s 3), AV.int .u32 (s 4), AV.int .u32 (s 5), AV.int .u32 (s 6), AV.int .u32 (s 7), AV.sl (some (4, 0)) k (ACap.fix 64), AV.int .i64 n], AObj.row 26 64 R]) ∧ chkW (objClosed 2 (AObj.ro P)) (chkW (objClosed 2 (AObj.ro d)) (chkW (objClosed 2 (AObj.row 26 64 R)) (K AExit.normal (envOf 19 [(2, AV.ptr (some (2, 0))), (3, AV.ptr (some (3, 0))), (7, AV.sl (some (0, 0)) l (ACap.rel 0)), (8, AV.int .i64 (↑l : Int)), (9, AV.int .i64 (IntKind.wrap .i64 ((↑i : Int) + 1)))], [AObj.ro P, AObj.ro d, AObj.row 30 32 [AV.int .u8 0, AV.int .u8 0, AV.int .u8 0, AV.int .u8 0, AV.int .u8 0, AV.int .u8 0, AV.int .u8 0, AV.int .u8 0, AV.int .u8 0, AV.int .u8 0, AV.int .u8 0, AV.int .u8 0, AV.int .u8 0, AV.int .u8 0, AV.int .u8 0, AV.int .u8 0, AV.int .u8 0, AV.int .u8 0, AV.int .u8 0, AV.int .u8 0, AV.int .u8 0, AV.int .u8 0, AV.int .u8 0, AV.int .u8 0, AV.int .u8 0, AV.int .u8 0, AV.int .u8 0, AV.int .u8 0, AV.int .u8 0, AV.int .u8 0, AV.int .u8 0, AV.int .u8 0], AObj.row 47 11 [AV.bool true, AV.int .u32 (s 0), AV.int .u32 (s 1), AV.int .u32 (s 2), AV.int .u32 (s 3), AV.int .u32 (s 4), AV.int .u32 (s 5), AV.int .u32 (s 6), AV.int .u32 (s 7), AV.sl (some (4, 0)) k (ACap.fix 64), AV.int .i64 n], AObj.row 26 64 R]))))) (∃ (s_1 : Nat → Int), ∃ (n_1 : Int), ∃ (k_1 : Nat), ∃ (R_1 : List AV), framedS 1 sW [AV.ptr (some (3, 0)), AV.sl (some (1, o)) m (ACap.fix c)] [AObj.ro P, AObj.ro d, AObj.row 30 32 [AV.int .u8 0, AV.int .u8 0, AV.int .u8 0, AV.int .u8 0, AV.int .u8 0, AV.int .u8 0, AV.int .u8 0, AV.int .u8 0, AV.int .u8 0, AV.int .u8 0, AV.int .u8 0, AV.int .u8 0, AV.int .u8 0, AV.int .u8 0, AV.int .u8 0, AV.int .u8 0, AV.int .u8 0, AV.int .u8 0, AV.int .u8 0, AV.int .u8 0, AV.int .u8 0, AV.int .u8 0, AV.int .u8 0, AV.int .u8 0, AV.int .u8 0, AV.int .u8 0, AV.int .u8 0, AV.int .u8 0, AV.int .u8 0, AV.int .u8 0, AV.int .u8 0, AV.int .u8 0], AObj.row 47 11 [AV.bool true, AV.int .u32 (s 0), AV.int .u32 (s 1), AV.int .u32 (s 2), AV.int .u32 (s 3), AV.int .u32 (s 4), AV.int .u32 (s 5), AV.int .u32 (s 6), AV.int .u32 (s 7), AV.sl (some (4, 0)) k (ACap.fix 64), AV.int .i64 n], AObj.row 26 64 R] = some (AV.int .i64 0, [AObj.ro P, AObj.ro d, AObj.row 30 32 [AV.int .u8 0, AV.int .u8 0, AV.int .u8 0, AV.int .u8 0, AV.int .u8 0, AV.int .u8 0, AV.int .u8 0, AV.int .u8 0, AV.int .u8 0, AV.int .u8 0, AV.int .u8 0, AV.int .u8 0, AV.int .u8 0, AV.int .u8 0, AV.int .u8 0, AV.int .u8 0, AV.int .u8 0, AV.int .u8 0, AV.int .u8 0, AV.int .u8 0, AV.int .u8 0, AV.int .u8 0, AV.int .u8 0, AV.int .u8 0, AV.int .u8 0, AV.int .u8 0, AV.int .u8 0, AV.int .u8 0, AV.int .u8 0, AV.int .u8 0, AV.int .u8 0, AV.int .u8 0], AObj.row 47 11 [AV.bool true, AV.int .u32 (s_1 0), AV.int .u32 (s_1 1), AV.int .u32 (s_1 2), AV.int .u32 (s_1 3), AV.int .u32 (s_1 4), AV.int .u32 (s_1 5), AV.int .u32 (s_1 6), AV.int .u32 (s_1 7), AV.sl (some (5, 0)) k_1 (ACap.fix 64), AV.int .i64 n_1], AObj.row 26 64 R, AObj.row 26 64 R_1]) ∧ chkW (objClosed 2 (AObj.ro P)) (chkW (objClosed 2 (AObj.ro d)) (chkW (objClosed 2 (AObj.row 26 64 R)) (chkW (objClosed 2 (AObj.row 26 64 R_1)) (K AExit.normal (envOf 19 [(2, AV.ptr (some (2, 0))), (3, AV.ptr (some (3, 0))), (7, AV.sl (some (0, 0)) l (ACap.rel 0)), (8, AV.int .i64 (↑l : Int)), (9, AV.int .i64 (IntKind.wrap .i64 ((↑i : Int) + 1)))], [AObj.ro P, AObj.ro d, AObj.row 30 32 [AV.int .u8 0, AV.int .u8 0, AV.int .u8 0, AV.int .u8 0, AV.int .u8 0, AV.int .u8 0, AV.int .u8 0, AV.int .u8 0, AV.int .u8 0, AV.int .u8 0, AV.int .u8 0, AV.int .u8 0, AV.int .u8 0, AV.int .u8 0, AV.int .u8 0, AV.int .u8 0, AV.int .u8 0, AV.int .u8 0, AV.int .u8 0, AV.int .u8 0, AV.int .u8 0, AV.int .u8 0, AV.int .u8 0, AV.int .u8 0, AV.int .u8 0, AV.int .u8 0, AV.int .u8 0, AV.int .u8 0, AV.int .u8 0, AV.int .u8 0, AV.int .u8 0, AV.int .u8 0], AObj.row 47 11 [AV.bool true, AV.int .u32 (s_1 0), AV.int .u32 (s_1 1), AV.int .u32 (s_1 2), AV.int .u32 (s_1 3), AV.int .u32 (s_1 4), AV.int .u32 (s_1 5), AV.int .u32 (s_1 6), AV.int .u32 (s_1 7), AV.sl (some (4, 0)) k_1 (ACap.fix 64), AV.int .i64 n_1], AObj.row 26 64 R_1]))))))))) (chkW (objClosed 2 (AObj.ro P)) (chkW (objClosed 2 (AObj.ro d)) (chkW (objClosed 2 (AObj.row 26 64 R)) (K (AExit.exit 0) (envOf 19 [(2, AV.ptr (some (2, 0))), (3, AV.ptr (some (3, 0)))], [AObj.ro P, AObj.ro d, AObj.row 30 32 [AV.int .u8 0, AV.int .u8 0, AV.int .u8 0, AV.int .u8 0, AV.int .u8 0, AV.int .u8 0, AV.int .u8 0, AV.int .u8 0, AV.int .u8 0, AV.int .u8 0, AV.int .u8 0, AV.int .u8 0, AV.int .u8 0, AV.int .u8 0, AV.int .u8 0, AV.int .u8 0, AV.int .u8 0, AV.int .u8 0, AV.int .u8 0, AV.int .u8 0, AV.int .u8 0, AV.int .u8 0, AV.int .u8 0, AV.int .u8 0, AV.int .u8 0, AV.int .u8 0, AV.int .u8 0, AV.int .u8 0, AV.int .u8 0, AV.int .u8 0, AV.int .u8 0, AV.int .u8 0], AObj.row 47 11 [AV.bool true, AV.int .u32 (s 0), AV.int .u32 (s 1), AV.int .u32 (s 2), AV.int .u32 (s 3), AV.int .u32 (s 4), AV.int .u32 (s 5), AV.int .u32 (s 6), AV.int .u32 (s 7), AV.sl (some (4, 0)) k (ACap.fix 64), AV.int .i64 n], AObj.row 26 64 R])))))) = (wpP Try.prog (C12 2 (.slk 1)) 60 (.inl p12_l0) (st12 2 l i (k12B P d s n k R)) (postS (C12 2 (.slk 1)) (tn12 2) (tx12 2) K)) := by kernel_rfl
theorem v12bN (P d : List AV) (l i : Nat) (s : Nat → Int) (n : Int) (k : Nat) (R : List AV) (K : AExit → St → Prop) : (askB (decide ((↑i : Int) < (↑l : Int))) (chkW (decide ((↑i : Int) < (↑l : Int))) ((Option.bind (cellsAt [AObj.ro P, AObj.row 30 32 [AV.int .u8 0, AV.int .u8 0, AV.int .u8 0, AV.int .u8 0, AV.int .u8 0, AV.int .u8 0, AV.int .u8 0, AV.int .u8 0, AV.int .u8 0, AV.int .u8 0, AV.int .u8 0, AV.int .u8 0, AV.int .u8 0, AV.int .u8 0, AV.int .u8 0, AV.int .u8 0, AV.int .u8 0, AV.int .u8 0, AV.int .u8 0, AV.int .u8 0, AV.int .u8 0, AV.int .u8 0, AV.int .u8 0, AV.int .u8 0, AV.int .u8 0, AV.int .u8 0, AV.int .u8 0, AV.int .u8 0, AV.int .u8 0, AV.int .u8 0, AV.int .u8 0, AV.int .u8 0], AObj.row 47 11 [AV.bool true, AV.int .u32 1779033703, AV.int .u32 3144134277, AV.int .u32 1013904242, AV.int .u32 2773480762, AV.int .u32 1359893119, AV.int .u32 2600822924, AV.int .u32 528734635, AV.int .u32 1541459225, AV.sl none 0 (ACap.fix 0), AV.int .i64 0]] 0) fun (x : List AV) => partR none x (0 + i * 1)) = some (AV.sl none 0 (ACap.fix 0)) ∧ ∃ (b : Bool), askB b (∃ (s : Nat → Int), ∃ (n : Int), framedS 1 sW [AV.ptr (some (2, 0)), AV.sl none 0 (ACap.fix 0)] [AObj.ro P, AObj.row 30 32 [AV.int .u8 0, AV.int .u8 0, AV.int .u8 0, AV.int .u8 0, AV.int .u8 0, AV.int .u8 0, AV.int .u8 0, AV.int .u8 0, AV.int .u8 0, AV.int .u8 0, AV.int .u8 0, AV.int .u8 0, AV.int .u8 0, AV.int .u8 0, AV.int .u8 0, AV.int .u8 0, AV.int .u8 0, AV.int .u8 0, AV.int .u8 0, AV.int .u8 0, AV.int .u8 0, AV.int .u8 0, AV.int .u8 0, AV.int .u8 0, AV.int .u8 0, AV.int .u8 0, AV.int .u8 0, AV.int .u8 0, AV.int .u8 0, AV.int .u8 0, AV.int .u8 0, AV.int .u8 0], AObj.row 47 11 [AV.bool true, AV.int .u32 1779033703, AV.int .u32 3144134277, AV.int .u32 1013904242, AV.int .u32 2773480762, AV.int .u32 1359893119, AV.int .u32 2600822924, AV.int .u32 528734635, AV.int .u32 1541459225, AV.sl none 0 (ACap.fix 0), AV.int .i64 0]] = some (AV.int .i64 0, [AObj.ro P, AObj.row 30 32 [AV.int .u8 0, AV.int .u8 0, AV.int .u8 0, AV.int .u8 0, AV.int .u8 0, AV.int .u8 0, AV.int .u8 0, AV.int .u8 0, AV.int .u8 0, AV.int .u8 0, AV.int .u8 0, AV.int .u8 0, AV.int .u8 0, AV.int .u8 0, AV.int .u8 0, AV.int .u8 0, AV.int .u8 0, AV.int .u8 0, AV.int .u8 0, AV.int .u8 0, AV.int .u8 0, AV.int .u8 0, AV.int .u8 0, AV.int .u8 0, AV.int .u8 0, AV.int .u8 0, AV.int .u8 0, AV.int .u8 0, AV.int .u8 0, AV.int .u8 0, AV.int .u8 0, AV.int .u8 0], AObj.row 47 11 [AV.bool true, AV.int .u32 (s 0), AV.int .u32 (s 1), AV.int .u32 (s 2), AV.int .u32 (s 3), AV.int .u32 (s 4), AV.int .u32 (s 5), AV.int .u32 (s 6), AV.int .u32 (s 7), AV.sl none 0 (ACap.fix 0), AV.int .i64 n]]) ∧ chkW (objClosed 1 (AObj.ro P)) (K AExit.normal (envOf 19 [(2, AV.ptr (some (1, 0))), (3, AV.ptr (some (2, 0))), (7, AV.sl (some (0, 0)) l (ACap.rel 0)), (8, AV.int .i64 (↑l : Int)), (9, AV.int .i64 (IntKind.wrap .i64 ((↑i : Int) + 1)))], [AObj.ro P, AObj.row 30 32 [AV.int .u8 0, AV.int .u8 0, AV.int .u8 0, AV.int .u8 0, AV.int .u8 0, AV.int .u8 0, AV.int .u8 0, AV.int .u8 0, AV.int .u8 0, AV.int .u8 0, AV.int .u8 0, AV.int .u8 0, AV.int .u8 0, AV.int .u8 0, AV.int .u8 0, AV.int .u8 0, AV.int .u8 0, AV.int .u8 0, AV.int .u8 0, AV.int .u8 0, AV.int .u8 0, AV.int .u8 0, AV.int .u8 0, AV.int .u8 0, AV.int .u8 0, AV.int .u8 0, AV.int .u8 0, AV.int .u8 0, AV.int .u8 0, AV.int .u8 0, AV.int .u8 0, AV.int .u8 0], AObj.row 47 11 [AV.bool true, AV.int .u32 (s 0), AV.int .u32 (s 1), AV.int .u32 (s 2), AV.int .u32 (s 3), AV.int .u32 (s 4), AV.int .u32 (s 5), AV.int .u32 (s 6), AV.int .u32 (s 7), AV.sl none 0 (ACap.fix 0), AV.int .i64 n]]))) (∃ (s : Nat → Int), ∃ (n : Int), ∃ (k : Nat), ∃ (R : List AV), framedS 1 sW [AV.ptr (some (2, 0)), AV.sl none 0 (ACap.fix 0)] [AObj.ro P, AObj.row 30 32 [AV.int .u8 0, AV.int .u8 0, AV.int .u8 0, AV.int .u8 0, AV.int .u8 0, AV.int .u8 0, AV.int .u8 0, AV.int .u8 0, AV.int .u8 0, AV.int .u8 0, AV.int .u8 0, AV.int .u8 0, AV.int .u8 0, AV.int .u8 0, AV.int .u8 0, AV.int .u8 0, AV.int .u8 0, AV.int .u8 0, AV.int .u8 0, AV.int .u8 0, AV.int .u8 0, AV.int .u8 0, AV.int .u8 0, AV.int .u8 0, AV.int .u8 0, AV.int .u8 0, AV.int .u8 0, AV.int .u8 0, AV.int .u8 0, AV.int .u8 0, AV.int .u8 0, AV.int .u8 0], AObj.row 47 11 [AV.bool true, AV.int .u32 1779033703, AV.int .u32 3144134277, AV.int .u32 1013904242, AV.int .u32 2773480762, AV.int .u32 1359893119, AV.int .u32 2600822924, AV.int .u32 528734635, AV.int .u32 1541459225, AV.sl none 0 (ACap.fix 0), AV.int .i64 0]] = some (AV.int .i64 0, [AObj.ro P, AObj.row 30 32 [AV.int .u8 0, AV.int .u8 0, AV.int .u8 0, AV.int .u8 0, AV.int .u8 0, AV.int .u8 0, AV.int .u8 0, AV.int .u8 0, AV.int .u8 0, AV.int .u8 0, AV.int .u8 0, AV.int .u8 0, AV.int .u8 0, AV.int .u8 0, AV.int .u8 0, AV.int .u8 0, AV.int .u8 0, AV.int .u8 0, AV.int .u8 0, AV.int .u8 0, AV.int .u8 0, AV.int .u8 0, AV.int .u8 0, AV.int .u8 0, AV.int .u8 0, AV.int .u8 0, AV.int .u8 0, AV.int .u8 0, AV.int .u8 0, AV.int .u8 0, AV.int .u8 0, AV.int .u8 0], AObj.row 47 11 [AV.bool true, AV.int .u32 (s 0), AV.int .u32 (s 1), AV.int .u32 (s 2), AV.int .u32 (s 3), AV.int .u32 (s 4), AV.int .u32 (s 5), AV.int .u32 (s 6), AV.int .u32 (s 7), AV.sl (some (3, 0)) k (ACap.fix 64), AV.int .i64 n], AObj.row 26 64 R]) ∧ chkW (objClosed 1 (AObj.ro P)) (chkW (objClosed 1 (AObj.row 26 64 R)) (K AExit.normal (envOf 19 [(2, AV.ptr (some (1, 0))), (3, AV.ptr (some (2, 0))), (7, AV.sl (some (0, 0)) l (ACap.rel 0)), (8, AV.int .i64 (↑l : Int)), (9, AV.int .i64 (IntKind.wrap .i64 ((↑i : Int) + 1)))], [AObj.ro P, AObj.row 30 32 [AV.int .u8 0, AV.int .u8 0, AV.int .u8 0, AV.int .u8 0, AV.int .u8 0, AV.int .u8 0, AV.int .u8 0, AV.int .u8 0, AV.int .u8 0, AV.int .u8 0, AV.int .u8 0, AV.int .u8 0, AV.int .u8 0, AV.int .u8 0, AV.int .u8 0, AV.int .u8 0, AV.int .u8 0, AV.int .u8 0, AV.int .u8 0, AV.int .u8 0, AV.int .u8 0, AV.int .u8 0, AV.int .u8 0, AV.int .u8 0, AV.int .u8 0, AV.int .u8 0, AV.int .u8 0, AV.int .u8 0, AV.int .u8 0, AV.int .u8 0, AV.int .u8 0, AV.int .u8 0], AObj.row 47 11 [AV.bool true, AV.int .u32 (s 0), AV.int .u32 (s 1), AV.int .u32 (s 2), AV.int .u32 (s 3), AV.int .u32 (s 4), AV.int .u32 (s 5), AV.int .u32 (s 6), AV.int .u32 (s 7), AV.sl (some (3, 0)) k (ACap.fix 64), AV.int .i64 n], AObj.row 26 64 R])))))) (chkW (objClosed 1 (AObj.ro P)) (K (AExit.exit 0) (envOf 19 [(2, AV.ptr (some (1, 0))), (3, AV.ptr (some (2, 0)))], [AObj.ro P, AObj.row 30 32 [AV.int .u8 0, AV.int .u8 0, AV.int .u8 0, AV.int .u8 0, AV.int .u8 0, AV.int .u8 0, AV.int .u8 0, AV.int .u8 0, AV.int .u8 0, AV.int .u8 0, AV.int .u8 0, AV.int .u8 0, AV.int .u8 0, AV.int .u8 0, AV.int .u8 0, AV.int .u8 0, AV.int .u8 0, AV.int .u8 0, AV.int .u8 0, AV.int .u8 0, AV.int .u8 0, AV.int .u8 0, AV.int .u8 0, AV.int .u8 0, AV.int .u8 0, AV.int .u8 0, AV.int .u8 0, AV.int .u8 0, AV.int .u8 0, AV.int .u8 0, AV.int .u8 0, AV.int .u8 0], AObj.row 47 11 [AV.bool true, AV.int .u32 1779033703, AV.int .u32 3144134277, AV.int .u32 1013904242, AV.int .u32 2773480762, AV.int .u32 1359893119, AV.int .u32 2600822924, AV.int .u32 528734635, AV.int .u32 1541459225, AV.sl none 0 (ACap.fix 0), AV.int .i64 0]])))) = (wpP Try.prog (C12 1 .nilS) 60 (.inl p12_l0) (st12 1 l i (k12N P)) (postS (C12 1 .nilS) (tn12 1) (tx12 1) K)) := by kernel_rfl
theorem v12p (P d : List AV) (l : Nat) (R : AV → AHeap → Prop) : (some (AV.ptr (some (3, 0)), [AObj.ro P, AObj.ro d, AObj.row 30 32 [AV.int .u8 0, AV.int .u8 0, AV.int .u8 0, AV.int .u8 0, AV.int .u8 0, AV.int .u8 0, AV.int .u8 0, AV.int .u8 0, AV.int .u8 0, AV.int .u8 0, AV.int .u8 0, AV.int .u8 0, AV.int .u8 0, AV.int .u8 0, AV.int .u8 0, AV.int .u8 0, AV.int .u8 0, AV.int .u8 0, AV.int .u8 0, AV.int .u8 0, AV.int .u8 0, AV.int .u8 0, AV.int .u8 0, AV.int .u8 0, AV.int .u8 0, AV.int .u8 0, AV.int .u8 0, AV.int .u8 0, AV.int .u8 0, AV.int .u8 0, AV.int .u8 0, AV.int .u8 0], AObj.row 47 11 [AV.bool true, AV.int .u32 1779033703, AV.int .u32 3144134277, AV.int .u32 1013904242, AV.int .u32 2773480762, AV.int .u32 1359893119, AV.int .u32 2600822924, AV.int .u32 528734635, AV.int .u32 1541459225, AV.sl none 0 (ACap.fix 0), AV.int .i64 0]]) = some (AV.ptr (some (3, 0)), [AObj.ro P, AObj.ro d, AObj.row 30 32 [AV.int .u8 0, AV.int .u8 0, AV.int .u8 0, AV.int .u8 0, AV.int .u8 0, AV.int .u8 0, AV.int .u8 0, AV.int .u8 0, AV.int .u8 0, AV.int .u8 0, AV.int .u8 0, AV.int .u8 0, AV.int .u8 0, AV.int .u8 0, AV.int .u8 0, AV.int .u8 0, AV.int .u8 0, AV.int .u8 0, AV.int .u8 0, AV.int .u8 0, AV.int .u8 0, AV.int .u8 0, AV.int .u8 0, AV.int .u8 0, AV.int .u8 0, AV.int .u8 0, AV.int .u8 0, AV.int .u8 0, AV.int .u8 0, AV.int .u8 0, AV.int .u8 0, AV.int .u8 0], AObj.row 47 11 [AV.bool true, AV.int .u32 1779033703, AV.int .u32 3144134277, AV.int .u32 1013904242, AV.int .u32 2773480762, AV.int .u32 1359893119, AV.int .u32 2600822924, AV.int .u32 528734635, AV.int .u32 1541459225, AV.sl none 0 (ACap.fix 0), AV.int .i64 0]]) ∧ chkW (objClosed (Nat.succ (Nat.add (List.length [AObj.ro d]) 0)) (AObj.ro P)) (chkW (objClosed (Nat.succ (Nat.add (List.length [AObj.ro d]) 0)) (AObj.ro d)) ((envOf 19 [(2, AV.ptr (some (2, 0))), (3, AV.ptr (some (3, 0))), (7, AV.sl (some (0, 0)) l (ACap.rel 0)), (8, AV.int .i64 (↑l : Int)), (9, AV.int .i64 0)], [AObj.ro P, AObj.ro d, AObj.row 30 32 [AV.int .u8 0, AV.int .u8 0, AV.int .u8 0, AV.int .u8 0, AV.int .u8 0, AV.int .u8 0, AV.int .u8 0, AV.int .u8 0, AV.int .u8 0, AV.int .u8 0, AV.int .u8 0, AV.int .u8 0, AV.int .u8 0, AV.int .u8 0, AV.int .u8 0, AV.int .u8 0, AV.int .u8 0, AV.int .u8 0, AV.int .u8 0, AV.int .u8 0, AV.int .u8 0, AV.int .u8 0, AV.int .u8 0, AV.int .u8 0, AV.int .u8 0, AV.int .u8 0, AV.int .u8 0, AV.int .u8 0, AV.int .u8 0, AV.int .u8 0, AV.int .u8 0, AV.int .u8 0], AObj.row 47 11 [AV.bool true, AV.int .u32 1779033703, AV.int .u32 3144134277, AV.int .u32 1013904242, AV.int .u32 2773480762, AV.int .u32 1359893119, AV.int .u32 2600822924, AV.int .u32 528734635, AV.int .u32 1541459225, AV.sl none 0 (ACap.fix 0), AV.int .i64 0]]) = (envOf 19 [(2, AV.ptr (some (2, 0))), (3, AV.ptr (some (3, 0))), (7, AV.sl (some (0, 0)) l (ACap.rel 0)), (8, AV.int .i64 (↑l : Int)), (9, AV.int .i64 0)], [AObj.ro P, AObj.ro d, AObj.row 30 32 [AV.int .u8 0, AV.int .u8 0, AV.int .u8 0, AV.int .u8 0, AV.int .u8 0, AV.int .u8 0, AV.int .u8 0, AV.int .u8 0, AV.int .u8 0, AV.int .u8 0, AV.int .u8 0, AV.int .u8 0, AV.int .u8 0, AV.int .u8 0, AV.int .u8 0, AV.int .u8 0, AV.int .u8 0, AV.int .u8 0, AV.int .u8 0, AV.int .u8 0, AV.int .u8 0, AV.int .u8 0, AV.int .u8 0, AV.int .u8 0, AV.int .u8 0, AV.int .u8 0, AV.int .u8 0, AV.int .u8 0, AV.int .u8 0, AV.int .u8 0, AV.int .u8 0, AV.int .u8 0], AObj.row 47 11 [AV.bool true, AV.int .u32 1779033703, AV.int .u32 3144134277, AV.int .u32 1013904242, AV.int .u32 2773480762, AV.int .u32 1359893119, AV.int .u32 2600822924, AV.int .u32 528734635, AV.int .u32 1541459225, AV.sl none 0 (ACap.fix 0), AV.int .i64 0]]) ∧ ∀ (b : Bool), askB b (rL (flatP d P) = [] → ∃ (g : Nat → Int), sumS [AV.ptr (some (3, 0))] [AObj.ro P, AObj.ro d, AObj.row 30 32 [AV.int .u8 0, AV.int .u8 0, AV.int .u8 0, AV.int .u8 0, AV.int .u8 0, AV.int .u8 0, AV.int .u8 0, AV.int .u8 0, AV.int .u8 0, AV.int .u8 0, AV.int .u8 0, AV.int .u8 0, AV.int .u8 0, AV.int .u8 0, AV.int .u8 0, AV.int .u8 0, AV.int .u8 0, AV.int .u8 0, AV.int .u8 0, AV.int .u8 0, AV.int .u8 0, AV.int .u8 0, AV.int .u8 0, AV.int .u8 0, AV.int .u8 0, AV.int .u8 0, AV.int .u8 0, AV.int .u8 0, AV.int .u8 0, AV.int .u8 0, AV.int .u8 0, AV.int .u8 0], AObj.row 47 11 [AV.bool true, AV.int .u32 (sL (flatP d P) 0), AV.int .u32 (sL (flatP d P) 1), AV.int .u32 (sL (flatP d P) 2), AV.int .u32 (sL (flatP d P) 3), AV.int .u32 (sL (flatP d P) 4), AV.int .u32 (sL (flatP d P) 5), AV.int .u32 (sL (flatP d P) 6), AV.int .u32 (sL (flatP d P) 7), AV.sl none 0 (ACap.fix 0), AV.int .i64 (↑(List.length (flatP d P)) : Int)]] = some (AV.agg [AV.int .u8 (g 0), AV.int .u8 (g 1), AV.int .u8 (g 2), AV.int .u8 (g 3), AV.int .u8 (g 4), AV.int .u8 (g 5), AV.int .u8 (g 6), AV.int .u8 (g 7), AV.int .u8 (g 8), AV.int .u8 (g 9), AV.int .u8 (g 10), AV.int .u8 (g 11), AV.int .u8 (g 12), AV.int .u8 (g 13), AV.int .u8 (g 14), AV.int .u8 (g 15), AV.int .u8 (g 16), AV.int .u8 (g 17), AV.int .u8 (g 18), AV.int .u8 (g 19), AV.int .u8 (g 20), AV.int .u8 (g 21), AV.int .u8 (g 22), AV.int .u8 (g 23), AV.int .u8 (g 24), AV.int .u8 (g 25), AV.int .u8 (g 26), AV.int .u8 (g 27), AV.int .u8 (g 28), AV.int .u8 (g 29), AV.int .u8 (g 30), AV.int .u8 (g 31)]) ∧ R (AV.agg [AV.int .u8 (g 0), AV.int .u8 (g 1), AV.int .u8 (g 2), AV.int .u8 (g 3), AV.int .u8 (g 4), AV.int .u8 (g 5), AV.int .u8 (g 6), AV.int .u8 (g 7), AV.int .u8 (g 8), AV.int .u8 (g 9), AV.int .u8 (g 10), AV.int .u8 (g 11), AV.int .u8 (g 12), AV.int .u8 (g 13), AV.int .u8 (g 14), AV.int .u8 (g 15), AV.int .u8 (g 16), AV.int .u8 (g 17), AV.int .u8 (g 18), AV.int .u8 (g 19), AV.int .u8 (g 20), AV.int .u8 (g 21), AV.int .u8 (g 22), AV.int .u8 (g 23), AV.int .u8 (g 24), AV.int .u8 (g 25), AV.int .u8 (g 26), AV.int .u8 (g 27), AV.int .u8 (g 28), AV.int .u8 (g 29), AV.int .u8 (g 30), AV.int .u8 (g 31)]) [AObj.ro P, AObj.ro d, AObj.row 30 32 [AV.int .u8 (g 0), AV.int .u8 (g 1), AV.int .u8 (g 2), AV.int .u8 (g 3), AV.int .u8 (g 4), AV.int .u8 (g 5), AV.int .u8 (g 6), AV.int .u8 (g 7), AV.int .u8 (g 8), AV.int .u8 (g 9), AV.int .u8 (g 10), AV.int .u8 (g 11), AV.int .u8 (g 12), AV.int .u8 (g 13), AV.int .u8 (g 14), AV.int .u8 (g 15), AV.int .u8 (g 16), AV.int .u8 (g 17), AV.int .u8 (g 18), AV.int .u8 (g 19), AV.int .u8 (g 20), AV.int .u8 (g 21), AV.int .u8 (g 22), AV.int .u8 (g 23), AV.int .u8 (g 24), AV.int .u8 (g 25), AV.int .u8 (g 26), AV.int .u8 (g 27), AV.int .u8 (g 28), AV.int .u8 (g 29), AV.int .u8 (g 30), AV.int .u8 (g 31)], AObj.row 47 11 [AV.bool true, AV.int .u32 (sL (flatP d P) 0), AV.int .u32 (sL (flatP d P) 1), AV.int .u32 (sL (flatP d P) 2), AV.int .u32 (sL (flatP d P) 3), AV.int .u32 (sL (flatP d P) 4), AV.int .u32 (sL (flatP d P) 5), AV.int .u32 (sL (flatP d P) 6), AV.int .u32 (sL (flatP d P) 7), AV.sl none 0 (ACap.fix 0), AV.int .i64 (↑(List.length (flatP d P)) : Int)]]) (rL (flatP d P) ≠ [] → ∃ (g : Nat → Int), sumS [AV.ptr (some (3, 0))] [AObj.ro P, AObj.ro d, AObj.row 30 32 [AV.int .u8 0, AV.int .u8 0, AV.int .u8 0, AV.int .u8 0, AV.int .u8 0, AV.int .u8 0, AV.int .u8 0, AV.int .u8 0, AV.int .u8 0, AV.int .u8 0, AV.int .u8 0, AV.int .u8 0, AV.int .u8 0, AV.int .u8 0, AV.int .u8 0, AV.int .u8 0, AV.int .u8 0, AV.int .u8 0, AV.int .u8 0, AV.int .u8 0, AV.int .u8 0, AV.int .u8 0, AV.int .u8 0, AV.int .u8 0, AV.int .u8 0, AV.int .u8 0, AV.int .u8 0, AV.int .u8 0, AV.int .u8 0, AV.int .u8 0, AV.int .u8 0, AV.int .u8 0], AObj.row 47 11 [AV.bool true, AV.int .u32 (sL (flatP d P) 0), AV.int .u32 (sL (flatP d P) 1), AV.int .u32 (sL (flatP d P) 2), AV.int .u32 (sL (flatP d P) 3), AV.int .u32 (sL (flatP d P) 4), AV.int .u32 (sL (flatP d P) 5), AV.int .u32 (sL (flatP d P) 6), AV.int .u32 (sL (flatP d P) 7), AV.sl (some (4, 0)) (List.length (rL (flatP d P))) (ACap.fix 64), AV.int .i64 (↑(List.length (flatP d P)) : Int)], AObj.row 26 64 (R64 (rL (flatP d P)))] = some (AV.agg [AV.int .u8 (g 0), AV.int .u8 (g 1), AV.int .u8 (g 2), AV.int .u8 (g 3), AV.int .u8 (g 4), AV.int .u8 (g 5), AV.int .u8 (g 6), AV.int .u8 (g 7), AV.int .u8 (g 8), AV.int .u8 (g 9), AV.int .u8 (g 10), AV.int .u8 (g 11), AV.int .u8 (g 12), AV.int .u8 (g 13), AV.int .u8 (g 14), AV.int .u8 (g 15), AV.int .u8 (g 16), AV.int .u8 (g 17), AV.int .u8 (g 18), AV.int .u8 (g 19), AV.int .u8 (g 20), AV.int .u8 (g 21), AV.int .u8 (g 22), AV.int .u8 (g 23), AV.int .u8 (g 24), AV.int .u8 (g 25), AV.int .u8 (g 26), AV.int .u8 (g 27), AV.int .u8 (g 28), AV.int .u8 (g 29), AV.int .u8 (g 30), AV.int .u8 (g 31)]) ∧ R (AV.agg [AV.int .u8 (g 0), AV.int .u8 (g 1), AV.int .u8 (g 2), AV.int .u8 (g 3), AV.int .u8 (g 4), AV.int .u8 (g 5), AV.int .u8 (g 6), AV.int .u8 (g 7), AV.int .u8 (g 8), AV.int .u8 (g 9), AV.int .u8 (g 10), AV.int .u8 (g 11), AV.int .u8 (g 12), AV.int .u8 (g 13), AV.int .u8 (g 14), AV.int .u8 (g 15), AV.int .u8 (g 16), AV.int .u8 (g 17), AV.int .u8 (g 18), AV.int .u8 (g 19), AV.int .u8 (g 20), AV.int .u8 (g 21), AV.int .u8 (g 22), AV.int .u8 (g 23), AV.int .u8 (g 24), AV.int .u8 (g 25), AV.int .u8 (g 26), AV.int .u8 (g 27), AV.int .u8 (g 28), AV.int .u8 (g 29), AV.int .u8 (g 30), AV.int .u8 (g 31)]) [AObj.ro P, AObj.ro d, AObj.row 30 32 [AV.int .u8 (g 0), AV.int .u8 (g 1), AV.int .u8 (g 2), AV.int .u8 (g 3), AV.int .u8 (g 4), AV.int .u8 (g 5), AV.int .u8 (g 6), AV.int .u8 (g 7), AV.int .u8 (g 8), AV.int .u8 (g 9), AV.int .u8 (g 10), AV.int .u8 (g 11), AV.int .u8 (g 12), AV.int .u8 (g 13), AV.int .u8 (g 14), AV.int .u8 (g 15), AV.int .u8 (g 16), AV.int .u8 (g 17), AV.int .u8 (g 18), AV.int .u8 (g 19), AV.int .u8 (g 20), AV.int .u8 (g 21), AV.int .u8 (g 22), AV.int .u8 (g 23), AV.int .u8 (g 24), AV.int .u8 (g 25), AV.int .u8 (g 26), AV.int .u8 (g 27), AV.int .u8 (g 28), AV.int .u8 (g 29), AV.int .u8 (g 30), AV.int .u8 (g 31)], AObj.row 47 11 [AV.bool true, AV.int .u32 (sL (flatP d P) 0), AV.int .u32 (sL (flatP d P) 1), AV.int .u32 (sL (flatP d P) 2), AV.int .u32 (sL (flatP d P) 3), AV.int .u32 (sL (flatP d P) 4), AV.int .u32 (sL (flatP d P) 5), AV.int .u32 (sL (flatP d P) 6), AV.int .u32 (sL (flatP d P) 7), AV.sl (some (4, 0)) (List.length (rL (flatP d P))) (ACap.fix 64), AV.int .i64 (↑(List.length (flatP d P)) : Int)], AObj.row 26 64 (R64 (rL (flatP d P)))])))) = (wpF Try.prog (C12f (.slk 1) (T12l P d l)) 60 p12 [.sl (some (0, 0)) l (.rel 0)] [.ro P, .ro d] R) := by kernel_rfl
theorem v12pN (P : List AV) (l : Nat) (R : AV → AHeap → Prop) : (some (AV.ptr (some (2, 0)), [AObj.ro P, AObj.row 30 32 [AV.int .u8 0, AV.int .u8 0, AV.int .u8 0, AV.int .u8 0, AV.int .u8 0, AV.int .u8 0, AV.int .u8 0, AV.int .u8 0, AV.int .u8 0, AV.int .u8 0, AV.int .u8 0, AV.int .u8 0, AV.int .u8 0, AV.int .u8 0, AV.int .u8 0, AV.int .u8 0, AV.int .u8 0, AV.int .u8 0, AV.int .u8 0, AV.int .u8 0, AV.int .u8 0, AV.int .u8 0, AV.int .u8 0, AV.int .u8 0, AV.int .u8 0, AV.int .u8 0, AV.int .u8 0, AV.int .u8 0, AV.int .u8 0, AV.int .u8 0, AV.int .u8 0, AV.int .u8 0], AObj.row 47 11 [AV.bool true, AV.int .u32 1779033703, AV.int .u32 3144134277, AV.int .u32 1013904242, AV.int .u32 2773480762, AV.int .u32 1359893119, AV.int .u32 2600822924, AV.int .u32 528734635, AV.int .u32 1541459225, AV.sl none 0 (ACap.fix 0), AV.int .i64 0]]) = some (AV.ptr (some (2, 0)), [AObj.ro P, AObj.row 30 32 [AV.int .u8 0, AV.int .u8 0, AV.int .u8 0, AV.int .u8 0, AV.int .u8 0, AV.int .u8 0, AV.int .u8 0, AV.int .u8 0, AV.int .u8 0, AV.int .u8 0, AV.int .u8 0, AV.int .u8 0, AV.int .u8 0, AV.int .u8 0, AV.int .u8 0, AV.int .u8 0, AV.int .u8 0, AV.int .u8 0, AV.int .u8 0, AV.int .u8 0, AV.int .u8 0, AV.int .u8 0, AV.int .u8 0, AV.int .u8 0, AV.int .u8 0, AV.int .u8 0, AV.int .u8 0, AV.int .u8 0, AV.int .u8 0, AV.int .u8 0, AV.int .u8 0, AV.int .u8 0], AObj.row 47 11 [AV.bool true, AV.int .u32 1779033703, AV.int .u32 3144134277, AV.int .u32 1013904242, AV.int .u32 2773480762, AV.int .u32 1359893119, AV.int .u32 2600822924, AV.int .u32 528734635, AV.int .u32 1541459225, AV.sl none 0 (ACap.fix 0), AV.int .i64 0]]) ∧ chkW (objClosed 1 (AObj.ro P)) ((envOf 19 [(2, AV.ptr (some (1, 0))), (3, AV.ptr (some (2, 0))), (7, AV.sl (some (0, 0)) l (ACap.rel 0)), (8, AV.int .i64 (↑l : Int)), (9, AV.int .i64 0)], [AObj.ro P, AObj.row 30 32 [AV.int .u8 0, AV.int .u8 0, AV.int .u8 0, AV.int .u8 0, AV.int .u8 0, AV.int .u8 0, AV.int .u8 0, AV.int .u8 0, AV.int .u8 0, AV.int .u8 0, AV.int .u8 0, AV.int .u8 0, AV.int .u8 0, AV.int .u8 0, AV.int .u8 0, AV.int .u8 0, AV.int .u8 0, AV.int .u8 0, AV.int .u8 0, AV.int .u8 0, AV.int .u8 0, AV.int .u8 0, AV.int .u8 0, AV.int .u8 0, AV.int .u8 0, AV.int .u8 0, AV.int .u8 0, AV.int .u8 0, AV.int .u8 0, AV.int .u8 0, AV.int .u8 0, AV.int .u8 0], AObj.row 47 11 [AV.bool true, AV.int .u32 1779033703, AV.int .u32 3144134277, AV.int .u32 1013904242, AV.int .u32 2773480762, AV.int .u32 1359893119, AV.int .u32 2600822924, AV.int .u32 528734635, AV.int .u32 1541459225, AV.sl none 0 (ACap.fix 0), AV.int .i64 0]]) = (envOf 19 [(2, AV.ptr (some (1, 0))), (3, AV.ptr (some (2, 0))), (7, AV.sl (some (0, 0)) l (ACap.rel 0)), (8, AV.int .i64 (↑l : Int)), (9, AV.int .i64 0)], [AObj.ro P, AObj.row 30 32 [AV.int .u8 0, AV.int .u8 0, AV.int .u8 0, AV.int .u8 0, AV.int .u8 0, AV.int .u8 0, AV.int .u8 0, AV.int .u8 0, AV.int .u8 0, AV.int .u8 0, AV.int .u8 0, AV.int .u8 0, AV.int .u8 0, AV.int .u8 0, AV.int .u8 0, AV.int .u8 0, AV.int .u8 0, AV.int .u8 0, AV.int .u8 0, AV.int .u8 0, AV.int .u8 0, AV.int .u8 0, AV.int .u8 0, AV.int .u8 0, AV.int .u8 0, AV.int .u8 0, AV.int .u8 0, AV.int .u8 0, AV.int .u8 0, AV.int .u8 0, AV.int .u8 0, AV.int .u8 0], AObj.row 47 11 [AV.bool true, AV.int .u32 1779033703, AV.int .u32 3144134277, AV.int .u32 1013904242, AV.int .u32 2773480762, AV.int .u32 1359893119, AV.int .u32 2600822924, AV.int .u32 528734635, AV.int .u32 1541459225, AV.sl none 0 (ACap.fix 0), AV.int .i64 0]]) ∧ ∃ (g : Nat → Int), sumS [AV.ptr (some (2, 0))] [AObj.ro P, AObj.row 30 32 [AV.int .u8 0, AV.int .u8 0, AV.int .u8 0, AV.int .u8 0, AV.int .u8 0, AV.int .u8 0, AV.int .u8 0, AV.int .u8 0, AV.int .u8 0, AV.int .u8 0, AV.int .u8 0, AV.int .u8 0, AV.int .u8 0, AV.int .u8 0, AV.int .u8 0, AV.int .u8 0, AV.int .u8 0, AV.int .u8 0, AV.int .u8 0, AV.int .u8 0, AV.int .u8 0, AV.int .u8 0, AV.int .u8 0, AV.int .u8 0, AV.int .u8 0, AV.int .u8 0, AV.int .u8 0, AV.int .u8 0, AV.int .u8 0, AV.int .u8 0, AV.int .u8 0, AV.int .u8 0], AObj.row 47 11 [AV.bool true, AV.int .u32 1779033703, AV.int .u32 3144134277, AV.int .u32 1013904242, AV.int .u32 2773480762, AV.int .u32 1359893119, AV.int .u32 2600822924, AV.int .u32 528734635, AV.int .u32 1541459225, AV.sl none 0 (ACap.fix 0), AV.int .i64 0]] = some (AV.agg [AV.int .u8 (g 0), AV.int .u8 (g 1), AV.int .u8 (g 2), AV.int .u8 (g 3), AV.int .u8 (g 4), AV.int .u8 (g 5), AV.int .u8 (g 6), AV.int .u8 (g 7), AV.int .u8 (g 8), AV.int .u8 (g 9), AV.int .u8 (g 10), AV.int .u8 (g 11), AV.int .u8 (g 12), AV.int .u8 (g 13), AV.int .u8 (g 14), AV.int .u8 (g 15), AV.int .u8 (g 16), AV.int .u8 (g 17), AV.int .u8 (g 18), AV.int .u8 (g 19), AV.int .u8 (g 20), AV.int .u8 (g 21), AV.int .u8 (g 22), AV.int .u8 (g 23), AV.int .u8 (g 24), AV.int .u8 (g 25), AV.int .u8 (g 26), AV.int .u8 (g 27), AV.int .u8 (g 28), AV.int .u8 (g 29), AV.int .u8 (g 30), AV.int .u8 (g 31)]) ∧ R (AV.agg [AV.int .u8 (g 0), AV.int .u8 (g 1), AV.int .u8 (g 2), AV.int .u8 (g 3), AV.int .u8 (g 4), AV.int .u8 (g 5), AV.int .u8 (g 6), AV.int .u8 (g 7), AV.int .u8 (g 8), AV.int .u8 (g 9), AV.int .u8 (g 10), AV.int .u8 (g 11), AV.int .u8 (g 12), AV.int .u8 (g 13), AV.int .u8 (g 14), AV.int .u8 (g 15), AV.int .u8 (g 16), AV.int .u8 (g 17), AV.int .u8 (g 18), AV.int .u8 (g 19), AV.int .u8 (g 20), AV.int .u8 (g 21), AV.int .u8 (g 22), AV.int .u8 (g 23), AV.int .u8 (g 24), AV.int .u8 (g 25), AV.int .u8 (g 26), AV.int .u8 (g 27), AV.int .u8 (g 28), AV.int .u8 (g 29), AV.int .u8 (g 30), AV.int .u8 (g 31)]) [AObj.ro P, AObj.row 30 32 [AV.int .u8 (g 0), AV.int .u8 (g 1), AV.int .u8 (g 2), AV.int .u8 (g 3), AV.int .u8 (g 4), AV.int .u8 (g 5), AV.int .u8 (g 6), AV.int .u8 (g 7), AV.int .u8 (g 8), AV.int .u8 (g 9), AV.int .u8 (g 10), AV.int .u8 (g 11), AV.int .u8 (g 12), AV.int .u8 (g 13), AV.int .u8 (g 14), AV.int .u8 (g 15), AV.int .u8 (g 16), AV.int .u8 (g 17), AV.int .u8 (g 18), AV.int .u8 (g 19), AV.int .u8 (g 20), AV.int .u8 (g 21), AV.int .u8 (g 22), AV.int .u8 (g 23), AV.int .u8 (g 24), AV.int .u8 (g 25), AV.int .u8 (g 26), AV.int .u8 (g 27), AV.int .u8 (g 28), AV.int .u8 (g 29), AV.int .u8 (g 30), AV.int .u8 (g 31)], AObj.row 47 11 [AV.bool true, AV.int .u32 1779033703, AV.int .u32 3144134277, AV.int .u32 1013904242, AV.int .u32 2773480762, AV.int .u32 1359893119, AV.int .u32 2600822924, AV.int .u32 528734635, AV.int .u32 1541459225, AV.sl none 0 (ACap.fix 0), AV.int .i64 0]])) = (wpF Try.prog (C12f .nilS (T12n P l)) 60 p12 [.sl (some (0, 0)) l (.rel 0)] [.ro P] R) := by kernel_rfl
/- What the calls of ShaPieces come to. -/
theorem absorb_cat (L x : List AV) : absorb firstI (L ++ x) = absorb (sL L) (rL L ++ x) := absorb_append firstI L x
theorem rL_int {L : List AV} (h : L.all (isInt .u8) = true) : (rL L).all (isInt .u8) = true ∧ (rL L).length < 64 := absorb_int firstI h
theorem writey_E {h : AHeap} {i j k o q : Nat} {s : Nat → Int} {n : Int} {d l : List AV} (hi : h[i]? = some (hrow s (.sl (some (k, 0)) l.length (.fix 64)) n)) (hj : h[j]? = some (.ro d)) (hk : h[k]? = some (.row 26 64 (R64 l))) (hij : i ≠ j) (hik : i ≠ k) (hjk : j ≠ k) (hd : d.all (isInt .u8) = true) (hl : l.all (isInt .u8) = true) (h0 : 0 ≤ n) (hn : n ≤ 1152921504606846976) :
    framedS 1 sW [.ptr (some (i, 0)), .sl (some (j, o)) 0 (.fix q)] h = some (.int .i64 0, h) := by
  obtain ⟨gi, li⟩ := getD_at hi
  obtain ⟨gj, lj⟩ := getD_at hj
  obtain ⟨gk, lk⟩ := getD_at hk
  have hR := R64_ints hl
  have hlim := v18_E s n d hd o q l hl h0 hn
  have hs : sW [.ptr (some (0, 0)), .sl (some (1, o)) 0 (.fix q)] (hrow s (.sl (some (2, 0)) l.length (.fix 64)) n :: [j, k].map fun k => h.getD k .dead) = some (.int .i64 0, (hrow s (.sl (some (2, 0)) l.length (.fix 64)) n :: [j, k].map fun k => h.getD k .dead) ++ [], []) := by
    simp only [List.map_cons, List.map_nil, gj, gk]
    unfold sW
    rw [show ([hrow s (.sl (some (2, 0)) l.length (.fix 64)) n, .ro d, .row 26 64 (R64 l)] : AHeap) = hYo s (.sl (some (2, 0)) l.length (.fix 64)) n d (R64 l) from rfl, hlim]
    rfl
  exact framed_none (d := 1) (s := sW) (args := [.ptr (some (i, 0)), .sl (some (j, o)) 0 (.fix q)]) (a := [.ptr (some (0, 0)), .sl (some (1, o)) 0 (.fix q)]) (h := h) (i := i) (ks := [j, k]) (o0 := hrow s (.sl (some (2, 0)) l.length (.fix 64)) n)
    (reach_psr hij hik hjk (by rw [gi, hrow_names]; rfl) (by rw [gj]; exact (row_names (t := 5) (z := 1) hd).2)) (by simp [hij, hik, hjk]) li (by rw [gi]; rfl)
    (by simp only [AV.renL, AV.ren, (idx3 hij hik hjk).1, (idx3 hij hik hjk).2.1, Option.map_some]) (by rw [gi]; exact hrow_ren (by simp only [AV.ren, (idx3 hij hik hjk).2.2, Option.map_some]))
    (fun x hx => by
      simp only [List.mem_cons, List.not_mem_nil, or_false] at hx
      rcases hx with rfl | rfl
      · rw [gj]; exact (num_int (t := 5) (s := 1) hd).2
      · rw [gk]; exact (num_int (t := 26) (s := 64) hR).1)
    (by rw [gi]; exact hrow_ren (by simp only [AV.ren, tau_old (n := h.length) (ks := [i, j, k]) (ns := []) (j := 2) (k := k) rfl, Option.map_some])) hs rfl
/-- Write of bytes that may only be read: nothing was left over. -/
theorem wA {h : AHeap} {i j o m c : Nat} {d L : List AV} (hi : h[i]? = some (hrow (sL L) nilV (L.length : Int))) (hr : rL L = []) (hj : h[j]? = some (.ro d)) (hij : i ≠ j) (hd : d.all (isInt .u8) = true) (hmc : m ≤ c) (ho : o + m ≤ d.length) (hb : L.length + m ≤ 1152921504606846976) :
    (rL (L ++ (d.drop o).take m) = [] → framedS 1 sW [.ptr (some (i, 0)), .sl (some (j, o)) m (.fix c)] h = some (.int .i64 0, h.set i (hrow (sL (L ++ (d.drop o).take m)) nilV ((L ++ (d.drop o).take m).length : Int)))) ∧
    (rL (L ++ (d.drop o).take m) ≠ [] → framedS 1 sW [.ptr (some (i, 0)), .sl (some (j, o)) m (.fix c)] h = some (.int .i64 0, h.set i (hrow (sL (L ++ (d.drop o).take m)) (restR h.length (rL (L ++ (d.drop o).take m)).length) ((L ++ (d.drop o).take m).length : Int)) ++ [.row 26 64 (R64 (rL (L ++ (d.drop o).take m)))])) := by
  have hw := writey_0 (q := c) hi hj hij hd (by omega) (by omega) hmc ho
  have e : absorb firstI (L ++ (d.drop o).take m) = absorb (sL L) ((d.drop o).take m) := by rw [absorb_cat, hr, List.nil_append]
  have el : (((L ++ (d.drop o).take m).length : Nat) : Int) = (L.length : Int) + (m : Int) := by
    rw [List.length_append, List.length_take, List.length_drop]; omega
  rw [← e, ← el] at hw
  simp only [sL, rL]
  generalize absorb firstI (L ++ (d.drop o).take m) = A at hw ⊢
  obtain ⟨A1, A2⟩ := A
  refine ⟨fun h2 => ?_, fun h2 => ?_⟩
  · obtain rfl : A2 = [] := h2
    rw [hw]
    simp only [restV, restH, List.append_nil]
  · cases A2 with
    | nil => exact absurd rfl h2
    | cons a l => exact hw
/-- Write of bytes that may only be read: some were left over. -/
theorem wB {h : AHeap} {i j k o m c : Nat} {d L : List AV} (hi : h[i]? = some (hrow (sL L) (restR k (rL L).length) (L.length : Int))) (hk : h[k]? = some (.row 26 64 (R64 (rL L)))) (hr : rL L ≠ []) (hL : L.all (isInt .u8) = true) (hj : h[j]? = some (.ro d)) (hij : i ≠ j) (hik : i ≠ k) (hjk : j ≠ k) (hd : d.all (isInt .u8) = true) (hm : 0 < m) (hmc : m ≤ c) (ho : o + m ≤ d.length) (hb : L.length + m ≤ 1152921504606846976) :
    (rL (L ++ (d.drop o).take m) = [] → framedS 1 sW [.ptr (some (i, 0)), .sl (some (j, o)) m (.fix c)] h = some (.int .i64 0, h.set i (hrow (sL (L ++ (d.drop o).take m)) nilV ((L ++ (d.drop o).take m).length : Int)))) ∧
    (rL (L ++ (d.drop o).take m) ≠ [] → framedS 1 sW [.ptr (some (i, 0)), .sl (some (j, o)) m (.fix c)] h = some (.int .i64 0, h.set i (hrow (sL (L ++ (d.drop o).take m)) (restR h.length (rL (L ++ (d.drop o).take m)).length) ((L ++ (d.drop o).take m).length : Int)) ++ [.row 26 64 (R64 (rL (L ++ (d.drop o).take m)))])) := by
  obtain ⟨r1, r2⟩ := rL_int hL
  have r0 : 0 < (rL L).length := by
    cases hx : rL L with
    | nil => exact absurd hx hr
    | cons a l => simp
  have hw := writey_S (q := c) hi hj hk hij hik hjk hd r1 r0 r2 hm (by omega) (by omega) hmc ho
  have e : absorb firstI (L ++ (d.drop o).take m) = absorb (sL L) (rL L ++ (d.drop o).take m) := absorb_cat _ _
  have el : (((L ++ (d.drop o).take m).length : Nat) : Int) = (L.length : Int) + (m : Int) := by
    rw [List.length_append, List.length_take, List.length_drop]; omega
  rw [← e, ← el] at hw
  simp only [sL, rL]
  generalize absorb firstI (L ++ (d.drop o).take m) = A at hw ⊢
  obtain ⟨A1, A2⟩ := A
  refine ⟨fun h2 => ?_, fun h2 => ?_⟩
  · obtain rfl : A2 = [] := h2
    rw [hw]
    simp only [restV, restH, List.append_nil]
  · cases A2 with
    | nil => exact absurd rfl h2
    | cons a l => exact hw
/-- Write of nothing at all. -/
theorem t36N : runG Try.prog SB0 F36 100 p36 [.ptr (some (0, 0)), nilV] [hrow firstI nilV 0] = some (.tup [], [hrow firstI nilV 0]) := by kernel_rfl
theorem e18N : runVg Try.prog SB1 (sy0 []) (cvE [(36, ([.ptr (some (0, 0)), nilV], [hrow firstI nilV 0]), (.tup [], [hrow firstI nilV 0]))]) FNo 60 p18 [.ptr (some (0, 0)), nilV] [hrow firstI nilV 0] [.lit, .is false] = some ((.int .i64 0, [hrow firstI nilV 0]), [decide (((0 : Nat) : Int) > IntKind.i64.wrap (1152921504606846976 - 0)) == false, sameH ([.ptr (some (0, 0)), nilV], [hrow firstI nilV 0]) ([.ptr (some (0, 0)), nilV], [hrow firstI nilV 0]), true, true]) := by kernel_rfl
theorem wN {h : AHeap} {i : Nat} (hi : h[i]? = some (hrow firstI nilV 0)) : framedS 1 sW [.ptr (some (i, 0)), nilV] h = some (.int .i64 0, h.set i (hrow firstI nilV 0)) := by
  obtain ⟨gi, li⟩ := getD_at hi
  have h36 := cv1_ok (a := (_, _)) (limG_of t36N)
  have hl := limG_of (runVg_ok Try.prog SB1 (sy0 []) _ h36 e18N (by simp only [sameH_self, List.all_cons, List.all_nil, id, Bool.and_true]; decide))
  have hs : sW [.ptr (some (0, 0)), nilV] (hrow firstI nilV 0 :: ([] : List Nat).map fun k => h.getD k .dead) = some (.int .i64 0, (hrow firstI nilV 0 :: ([] : List Nat).map fun k => h.getD k .dead) ++ [], []) := by
    unfold sW
    rw [show (hrow firstI nilV 0 :: ([] : List Nat).map fun k => h.getD k .dead) = ([hrow firstI nilV 0] : AHeap) from rfl, hl]
    rfl
  have := framed_none (d := 1) (s := sW) (args := [.ptr (some (i, 0)), nilV]) (a := [.ptr (some (0, 0)), nilV]) (h := h) (i := i) (ks := []) (o0 := hrow firstI nilV 0)
    (by have g2 : ((h[i]?).getD .dead).names = [] := by rw [hi]; rfl
        simp [reachK, closeK, AV.namesL, AV.names, List.eraseDups_cons, g2]) (by simp) li (by rw [gi]; rfl)
    (by simp [AV.renL, AV.ren, List.idxOf?_cons]) (by rw [gi]; exact hrow_ren rfl) (fun x hx => by cases hx) (by rw [gi]; exact hrow_ren rfl) hs rfl
  rw [this]
  congr 2
  apply List.ext_getElem?
  intro j
  rw [List.getElem?_set]
  split
  · rename_i e; subst e; first | exact hi | (rw [if_pos li]; exact hi)
  · rfl
def setK (k : Nat) : AV → AV
  | .sl (some (_, o)) m c => .sl (some (k, o)) m c
  | v => v
theorem cell_inv {k : Nat} {d : List AV} {v : AV} (h : cellOK k d v = true) : ∃ o m c, v = .sl (some (k, o)) m (.fix c) ∧ m ≤ c ∧ o + m ≤ d.length := by
  unfold cellOK at h
  split at h
  · rename_i k' o m c
    simp only [Bool.and_eq_true, beq_iff_eq, decide_eq_true_eq] at h
    obtain ⟨⟨rfl, h1⟩, h2⟩ := h
    exact ⟨o, m, c, rfl, h1, h2⟩
  · cases h
theorem cells_names {j : Nat} {d : List AV} : ∀ {P : List AV}, P.all (cellOK j d) = true → AV.namesL P = List.replicate P.length j
  | [], _ => rfl
  | v :: P, h => by
    simp only [List.all_cons, Bool.and_eq_true] at h
    obtain ⟨o, m, c, rfl, _, _⟩ := cell_inv h.1
    simp only [AV.namesL, AV.names, cells_names h.2, List.length_cons, List.replicate_succ, List.cons_append, List.nil_append]
theorem cells_ren {j j' : Nat} {σ : Nat → Option Nat} (hσ : σ j = some j') {d : List AV} : ∀ {P : List AV}, P.all (cellOK j d) = true → AV.renL σ P = some (P.map (setK j'))
  | [], _ => rfl
  | v :: P, h => by
    simp only [List.all_cons, Bool.and_eq_true] at h
    obtain ⟨o, m, c, rfl, _, _⟩ := cell_inv h.1
    simp only [AV.renL, AV.ren, hσ, Option.map_some, cells_ren hσ h.2, List.map_cons, setK]
theorem cells_set {j j' : Nat} {d : List AV} : ∀ {P : List AV}, P.all (cellOK j d) = true → (P.map (setK j')).all (cellOK j' d) = true ∧ flatP d (P.map (setK j')) = flatP d P
  | [], _ => ⟨rfl, rfl⟩
  | v :: P, h => by
    simp only [List.all_cons, Bool.and_eq_true] at h
    obtain ⟨o, m, c, rfl, h1, h2⟩ := cell_inv h.1
    obtain ⟨h3, h4⟩ := cells_set (j' := j') h.2
    refine ⟨?_, ?_⟩
    · simp only [List.map_cons, List.all_cons, h3, setK, cellOK, beq_self_eq_true, decide_eq_true h1, decide_eq_true h2, Bool.and_self]
    · simp only [flatP, List.map_cons, List.flatMap_cons, setK, cont] at h4 ⊢
      rw [h4]
theorem dups_rep (j : Nat) : ∀ n, 0 < n → (List.replicate n j).eraseDups = [j]
  | n + 1, _ => by
    rw [List.replicate_succ, List.eraseDups_cons]
    have : (List.replicate n j).filter (fun b => !b == j) = [] := by
      rw [List.filter_eq_nil_iff]
      intro x hx
      rw [List.mem_replicate] at hx
      simp [hx.2]
    rw [this]
    rfl
theorem sum12_at {h : AHeap} {i j l : Nat} {P d : List AV} (hi : h[i]? = some (.row 23 1 P)) (hj : h[j]? = some (.ro d)) (hij : i ≠ j) (hP : P.all (cellOK j d) = true) (hne : P ≠ []) (hl : l = P.length) (hd : d.all (isInt .u8) = true) (hb : l ≤ 1099511627776) (hf : (flatP d P).length ≤ 1152921504606846976) :
    sum12S [.sl (some (i, 0)) l (.rel 0)] h = some (.agg (ints .u8 32 (shaL (flatP d P)))) := by
  obtain ⟨gi, li⟩ := getD_at hi
  obtain ⟨gj, lj⟩ := getD_at hj
  have hji : ¬ j = i := fun e => hij e.symm
  have hpos : 0 < P.length := by cases P with | nil => exact absurd rfl hne | cons a l => simp
  have hr : reachK 1 h [.sl (some (i, 0)) l (.rel 0)] = [i, j] := by
    have g2 : ((h[i]?).getD .dead).names = List.replicate P.length j := by rw [hi]; exact cells_names hP
    simp [reachK, closeK, AV.namesL, AV.names, List.eraseDups_cons, g2, dups_rep j _ hpos, hij, hji]
  obtain ⟨c1, c2⟩ := cells_set (j' := 1) hP
  unfold sum12S impD
  rw [hr]
  have e : AV.renL (fun x => [i, j].idxOf? x) [.sl (some (i, 0)) l (.rel 0)] = some [.sl (some (0, 0)) l (.rel 0)] := by simp only [AV.renL, AV.ren, (idx2 hij).1, Option.map_some]
  have e2 : renObj (fun x => [i, j].idxOf? x) (.row 23 1 P) = .row 23 1 (P.map (setK 1)) := by
    simp only [renObj, cells_ren (σ := fun x => [i, j].idxOf? x) (idx2 hij).2 hP]
  simp only [List.nodup_cons, List.mem_singleton, hij, List.not_mem_nil, not_false_eq_true, List.nodup_nil, and_self, decide_true, if_true, e, Option.map_some, Option.bind_some, List.map_cons, List.map_nil, gi, gj, e2, renObj_num (num_int (t := 5) (s := 1) hd).2, roObj, g12]
  rw [c1, c2, hd, List.length_map, decide_eq_true hl, decide_eq_true hb, decide_eq_true hf]
  rfl
theorem sum12_nil {h : AHeap} {i l : Nat} {P : List AV} (hi : h[i]? = some (.row 23 1 P)) (hP : P.all isNilS = true) (hl : l = P.length) (hb : l ≤ 1099511627776) :
    sum12S [.sl (some (i, 0)) l (.rel 0)] h = some (.agg (ints .u8 32 (shaL []))) := by
  obtain ⟨gi, li⟩ := getD_at hi
  have hn : AV.namesL P = [] ∧ ∀ σ, AV.renL σ P = some P := by
    clear hi hl gi
    induction P with
    | nil => exact ⟨rfl, fun _ => rfl⟩
    | cons v P ih =>
      simp only [List.all_cons, Bool.and_eq_true] at hP
      obtain ⟨h1, h2⟩ := ih hP.2
      have hv : v = nilV := by
        have := hP.1
        unfold isNilS at this
        split at this
        · rfl
        · cases this
      subst hv
      exact ⟨by simp only [AV.namesL, AV.names, h1, List.nil_append], fun σ => by simp only [AV.renL, AV.ren, h2 σ]⟩
  have hr : reachK 1 h [.sl (some (i, 0)) l (.rel 0)] = [i] := by
    have g2 : ((h[i]?).getD .dead).names = [] := by rw [hi]; exact hn.1
    simp [reachK, closeK, AV.namesL, AV.names, List.eraseDups_cons, g2]
  unfold sum12S impD
  rw [hr]
  have e : AV.renL (fun x => [i].idxOf? x) [.sl (some (i, 0)) l (.rel 0)] = some [.sl (some (0, 0)) l (.rel 0)] := by simp [AV.renL, AV.ren, List.idxOf?_cons]
  have e2 : renObj (fun x => [i].idxOf? x) (.row 23 1 P) = .row 23 1 P := by simp only [renObj, hn.2]
  simp only [List.nodup_cons, List.not_mem_nil, not_false_eq_true, List.nodup_nil, and_self, decide_true, if_true, e, Option.map_some, Option.bind_some, List.map_cons, List.map_nil, gi, e2, roObj, g12]
  rw [hP, decide_eq_true hl, decide_eq_true hb]
  rfl
/- The sum of pieces: a contract. -/
theorem W_vcS {P : Program} {C : Cfg} (hcw : CwOK C.S C.cw) {a : PC} (hp : ∀ x ∈ partsIn a, PartOK P C x) {n : Nat} {st : St} {tn tx : St → Tidy} {K : AExit → St → Prop} {A : Prop} (he : A = wpP P C n (.inl a) st (postS C tn tx K)) (ha : A) : W P C.S C.b0 (.inl a) st K :=
  W_wpS hcw hp (by rw [← he]; exact ha)
theorem oc_ints {k : IntKind} {b t z : Nat} {cs : List AV} (h : cs.all (isInt k) = true) : objClosed b (.ro cs) = true ∧ objClosed b (.row t z cs) = true := by
  have : AV.refsL (fun k => decide (k < b)) (fun _ => 0) cs = true := by
    rw [refsL_eq, List.all_eq_true]
    intro v hv
    have := List.all_eq_true.1 h v hv
    cases v <;> first | rfl | (simp [isInt] at this)
  exact ⟨this, this⟩
theorem oc_cells {j b t z : Nat} {d cs : List AV} (hj : j < b) (h : cs.all (cellOK j d) = true) : objClosed b (.ro cs) = true ∧ objClosed b (.row t z cs) = true := by
  have : AV.refsL (fun k => decide (k < b)) (fun _ => 0) cs = true := by
    rw [refsL_eq, List.all_eq_true]
    intro v hv
    obtain ⟨o, m, c, rfl, h1, h2⟩ := cell_inv (List.all_eq_true.1 h v hv)
    simp [AV.refs, hj, h1]
  exact ⟨this, this⟩
theorem oc_nil {b t z : Nat} {cs : List AV} (h : cs.all isNilS = true) : objClosed b (.ro cs) = true ∧ objClosed b (.row t z cs) = true := by
  have : AV.refsL (fun k => decide (k < b)) (fun _ => 0) cs = true := by
    rw [refsL_eq, List.all_eq_true]
    intro v hv
    have := List.all_eq_true.1 h v hv
    unfold isNilS at this
    split at this
    · rfl
    · cases this
  exact ⟨this, this⟩
theorem flat_snoc {d P : List AV} {i : Nat} {v : AV} (h : P[i]? = some v) : flatP d (P.take (i + 1)) = flatP d (P.take i) ++ cont d v := by
  rw [List.take_add_one, h]
  simp [flatP]
theorem flat_int {d P : List AV} (hd : d.all (isInt .u8) = true) : (flatP d P).all (isInt .u8) = true := by
  rw [List.all_eq_true]
  intro v hv
  simp only [flatP, List.mem_flatMap] at hv
  obtain ⟨x, _, hx⟩ := hv
  unfold cont at hx
  split at hx
  · exact List.all_eq_true.1 hd v (List.mem_of_mem_drop (List.mem_of_mem_take hx))
  · cases hx
theorem flat_take {d P : List AV} (i : Nat) : (flatP d (P.take i)).length ≤ (flatP d P).length := by
  have : flatP d P = flatP d (P.take i) ++ flatP d (P.drop i) := by
    unfold flatP
    rw [← List.flatMap_append, List.take_append_drop]
  rw [this, List.length_append]
  omega
theorem wrap_inc {i l : Nat} (h : i < l) (hb : l ≤ 1099511627776) : IntKind.i64.wrap ((i : Int) + 1) = ((i + 1 : Nat) : Int) := by rw [IntKind.wrap_i64]; omega
theorem rl_pos {l : List AV} (h : l ≠ []) : 0 < l.length := by
  cases l with
  | nil => exact absurd rfl h
  | cons a l => simp
open Classical in
noncomputable def cs12 (P d : List AV) (l i : Nat) : St := if rL (flatP d (P.take i)) = [] then st12 2 l i (k12A P d (sL (flatP d (P.take i))) (flatP d (P.take i)).length)
  else st12 2 l i (k12B P d (sL (flatP d (P.take i))) (flatP d (P.take i)).length (rL (flatP d (P.take i))).length (R64 (rL (flatP d (P.take i)))))
theorem loop12 {P d : List AV} {l : Nat} (hP : P.all (cellOK 1 d) = true) (hd : d.all (isInt .u8) = true) (hl : l = P.length) (hb : l ≤ 1099511627776) (hf : (flatP d P).length ≤ 1152921504606846976) (st : St) (K : AExit → St → Prop) (hT : T12l P d l st K) :
    W Try.prog SB12 2 (.inl (.loop p12_l0)) st K := by
  obtain ⟨hst, hK⟩ := hT
  have e0 : st = cs12 P d l 0 := by
    rw [hst]
    unfold cs12
    have : rL (flatP d (P.take 0)) = [] := by rw [List.take_zero]; exact congrArg Prod.snd (absorb_end (s := firstI) (l := []) (by decide))
    have e2 : sL (flatP d (P.take 0)) = firstI := by rw [List.take_zero]; exact congrArg Prod.fst (absorb_end (s := firstI) (l := []) (by decide))
    rw [if_pos this, e2, List.take_zero]
    rfl
  rw [e0]
  refine W_roundsG (cs12 P d l) (fun i => i ≤ l) (fun i => l - i) (fun _ => K) (fun i hi => ?_) 0 (by omega)
  have hx := oc_cells (b := 2) (t := 23) (z := 1) (by decide) hP
  have hdx := oc_ints (b := 2) (t := 5) (z := 1) hd
  have hFi := flat_int (P := P.take i) hd
  obtain ⟨rc1, rc2⟩ := rL_int hFi
  have hfi := flat_take (d := d) (P := P) i
  have hex : i = l → P.take i = P := fun e => by rw [List.take_of_length_le (by omega)]
  by_cases hr : rL (flatP d (P.take i)) = []
  · have ec : cs12 P d l i = st12 2 l i (k12A P d (sL (flatP d (P.take i))) (flatP d (P.take i)).length) := if_pos hr
    rw [ec]
    refine W_vcS (C := C12 2 (.slk 1)) (tn := tn12 2) (tx := tx12 2) cw12_ok (no_parts rfl) (v12bA P d l i (sL (flatP d (P.take i))) (flatP d (P.take i)).length 0 [] _) ?_
    rcases Nat.lt_or_ge i l with hil | hil
    · obtain ⟨v, hv⟩ : ∃ v, P[i]? = some v := ⟨_, List.getElem?_eq_getElem (by omega)⟩
      obtain ⟨o, m, c, rfl, h1, h2⟩ := cell_inv (List.all_eq_true.1 hP v (List.mem_of_getElem? hv))
      have hs := flat_snoc (d := d) hv
      simp only [cont] at hs
      have hfi2 := flat_take (d := d) (P := P) (i + 1)
      have hlen : (flatP d (P.take (i + 1))).length = (flatP d (P.take i)).length + m := by rw [hs, List.length_append, List.length_take, List.length_drop]; omega
      obtain ⟨w1, w2⟩ := wA (h := k12A P d (sL (flatP d (P.take i))) (flatP d (P.take i)).length) (i := 3) (j := 1) (o := o) (m := m) (c := c) (d := d) (L := flatP d (P.take i)) rfl hr rfl (by decide) hd h1 h2 (by omega)
      rw [← hs] at w1 w2
      refine askT (by simp; omega) (chkI (by simp; omega) ⟨o, m, c, ?_, ?_⟩)
      · show P[0 + i * 1]? = _
        rw [Nat.zero_add, Nat.mul_one]; exact hv
      · by_cases hr2 : rL (flatP d (P.take (i + 1))) = []
        · refine ⟨true, askT rfl ⟨_, _, w1 hr2, chkI hx.1 (chkI hdx.1 ⟨i + 1, ?_, by omega, by omega, fun _ _ h => h⟩)⟩⟩
          rw [wrap_inc hil hb]
          exact (if_pos hr2).symm
        · refine ⟨false, askF rfl ⟨_, _, _, _, w2 hr2, chkI hx.1 (chkI hdx.1 (chkI (oc_ints (t := 26) (z := 64) (R64_ints (rL_int (flat_int hd)).1)).2 ⟨i + 1, ?_, by omega, by omega, fun _ _ h => h⟩))⟩⟩
          rw [wrap_inc hil hb]
          exact (if_neg hr2).symm
    · have : i = l := by omega
      rw [hex this] at *
      refine askF (by simp; omega) (chkI hx.1 (chkI hdx.1 ?_))
      exact (hK true) hr
  · have ec : cs12 P d l i = st12 2 l i (k12B P d (sL (flatP d (P.take i))) (flatP d (P.take i)).length (rL (flatP d (P.take i))).length (R64 (rL (flatP d (P.take i))))) := if_neg hr
    rw [ec]
    have hRc := (oc_ints (b := 2) (t := 26) (z := 64) (R64_ints rc1)).2
    refine W_vcS (C := C12 2 (.slk 1)) (tn := tn12 2) (tx := tx12 2) cw12_ok (no_parts rfl) (v12bB P d l i (sL (flatP d (P.take i))) (flatP d (P.take i)).length (rL (flatP d (P.take i))).length (R64 (rL (flatP d (P.take i)))) _) ?_
    rcases Nat.lt_or_ge i l with hil | hil
    · obtain ⟨v, hv⟩ : ∃ v, P[i]? = some v := ⟨_, List.getElem?_eq_getElem (by omega)⟩
      obtain ⟨o, m, c, rfl, h1, h2⟩ := cell_inv (List.all_eq_true.1 hP v (List.mem_of_getElem? hv))
      have hs := flat_snoc (d := d) hv
      simp only [cont] at hs
      have hfi2 := flat_take (d := d) (P := P) (i + 1)
      have hlen : (flatP d (P.take (i + 1))).length = (flatP d (P.take i)).length + m := by rw [hs, List.length_append, List.length_take, List.length_drop]; omega
      refine askT (by simp; omega) (chkI (by simp; omega) ⟨o, m, c, ?_, ?_⟩)
      · show P[0 + i * 1]? = _
        rw [Nat.zero_add, Nat.mul_one]; exact hv
      · rcases Nat.eq_zero_or_pos m with rfl | hm
        · have w0 := writey_E (h := k12B P d (sL (flatP d (P.take i))) (flatP d (P.take i)).length (rL (flatP d (P.take i))).length (R64 (rL (flatP d (P.take i))))) (i := 3) (j := 1) (k := 4) (o := o) (q := c) (d := d) (l := rL (flatP d (P.take i))) rfl rfl rfl (by decide) (by decide) (by decide) hd rc1 (by omega) (by omega)
          have es : flatP d (P.take (i + 1)) = flatP d (P.take i) := by rw [hs, List.take_zero, List.append_nil]
          refine ⟨false, askF rfl ⟨true, askT rfl ⟨w0, chkI hx.1 (chkI hdx.1 (chkI hRc ⟨i + 1, ?_, by omega, by omega, fun _ _ h => h⟩))⟩⟩⟩
          rw [wrap_inc hil hb]
          refine Eq.trans ?_ (if_neg (by rw [es]; exact hr)).symm
          rw [es]
          rfl
        · obtain ⟨w1, w2⟩ := wB (h := k12B P d (sL (flatP d (P.take i))) (flatP d (P.take i)).length (rL (flatP d (P.take i))).length (R64 (rL (flatP d (P.take i))))) (i := 3) (j := 1) (k := 4) (o := o) (m := m) (c := c) (d := d) (L := flatP d (P.take i)) rfl rfl hr hFi rfl (by decide) (by decide) (by decide) hd hm h1 h2 (by omega)
          rw [← hs] at w1 w2
          by_cases hr2 : rL (flatP d (P.take (i + 1))) = []
          · refine ⟨true, askT rfl ⟨_, _, w1 hr2, chkI hx.1 (chkI hdx.1 (chkI hRc ⟨i + 1, ?_, by omega, by omega, fun _ _ h => h⟩))⟩⟩
            rw [wrap_inc hil hb]
            exact (if_pos hr2).symm
          · refine ⟨false, askF rfl ⟨false, askF rfl ⟨_, _, _, _, w2 hr2, chkI hx.1 (chkI hdx.1 (chkI hRc (chkI (oc_ints (t := 26) (z := 64) (R64_ints (rL_int (flat_int hd)).1)).2 ⟨i + 1, ?_, by omega, by omega, fun _ _ h => h⟩)))⟩⟩⟩
            rw [wrap_inc hil hb]
            exact (if_neg hr2).symm
    · have : i = l := by omega
      rw [hex this] at *
      refine askF (by simp; omega) (chkI hx.1 (chkI hdx.1 (chkI hRc ?_)))
      exact (hK false) hr
/- The sum of pieces: a contract, second part. -/
theorem isNil_inv {v : AV} (h : isNilS v = true) : v = nilV := by
  unfold isNilS at h
  split at h
  · rfl
  · cases h
theorem loop12n {P : List AV} {l : Nat} (hP : P.all isNilS = true) (hl : l = P.length) (hb : l ≤ 1099511627776) (st : St) (K : AExit → St → Prop) (hT : T12n P l st K) :
    W Try.prog SB12 1 (.inl (.loop p12_l0)) st K := by
  obtain ⟨hst, hK⟩ := hT
  rw [hst]
  refine W_roundsG (fun i => st12 1 l i (k12N P)) (fun i => i ≤ l) (fun i => l - i) (fun _ => K) (fun i hi => ?_) 0 (by omega)
  have hx := oc_nil (b := 1) (t := 23) (z := 1) hP
  refine W_vcS (C := C12 1 .nilS) (tn := tn12 1) (tx := tx12 1) cw12_ok (no_parts rfl) (v12bN P [] l i firstI 0 0 [] _) ?_
  rcases Nat.lt_or_ge i l with hil | hil
  · obtain ⟨v, hv⟩ : ∃ v, P[i]? = some v := ⟨_, List.getElem?_eq_getElem (by omega)⟩
    obtain rfl := isNil_inv (List.all_eq_true.1 hP v (List.mem_of_getElem? hv))
    refine askT (by simp; omega) (chkI (by simp; omega) ⟨?_, true, askT rfl ⟨firstI, 0, wN (h := k12N P) (i := 2) rfl, chkI hx.1 ⟨i + 1, ?_, by omega, by omega, fun _ _ h => h⟩⟩⟩)
    · show P[0 + i * 1]? = _
      rw [Nat.zero_add, Nat.mul_one]; exact hv
    · rw [wrap_inc hil hb]
      rfl
  · refine askF (by simp; omega) (chkI hx.1 hK)
theorem sum_A {h : AHeap} {i : Nat} {L : List AV} (hL : L.all (isInt .u8) = true) (hi : h[i]? = some (hrow (sL L) nilV (L.length : Int))) (hr : rL L = []) : sumS [.ptr (some (i, 0))] h = some (.agg (ints .u8 32 (shaL L))) :=
  sum_state (k := 0) hL (by rw [hi, show (absorb firstI L).2 = [] from hr]; rfl) (fun h => absurd hr h)
theorem sum_B {h : AHeap} {i k : Nat} {L : List AV} (hL : L.all (isInt .u8) = true) (hi : h[i]? = some (hrow (sL L) (restR k (rL L).length) (L.length : Int))) (hr : rL L ≠ []) (hk : h[k]? = some (.row 26 64 (R64 (rL L)))) (hik : i ≠ k) : sumS [.ptr (some (i, 0))] h = some (.agg (ints .u8 32 (shaL L))) :=
  sum_state (k := k) hL (by
    rw [hi]
    cases hx : rL L with
    | nil => exact absurd hx hr
    | cons a l => rw [show (absorb firstI L).2 = a :: l from hx]; rfl) (fun _ => ⟨hk, hik⟩)
theorem parts12 {C : Cfg} (ha : PartOK Try.prog C (.loop p12_l0)) : ∀ x ∈ partsIn p12.body, PartOK Try.prog C x := one_part rfl ha
theorem sum12_sem {P d : List AV} {l : Nat} (hP : P.all (cellOK 1 d) = true) (hd : d.all (isInt .u8) = true) (hl : l = P.length) (hb : l ≤ 1099511627776) (hf : (flatP d P).length ≤ 1152921504606846976) :
    ∃ v h', (v = .agg (ints .u8 32 (shaL (flatP d P)))) ∧ CallSem Try.prog 12 [.sl (some (0, 0)) l (.rel 0)] [.ro P, .ro d] v h' := by
  have hx := oc_cells (b := 2) (t := 23) (z := 1) (by decide) hP
  have hdx := oc_ints (b := 2) (t := 5) (z := 1) hd
  have hF := flat_int (P := P) hd
  refine sem_vc mixed (C := C12f (.slk 1) (T12l P d l)) SB12_ok SB12_q cw12_ok ht12 c12 (R := fun v _ => v = .agg (ints .u8 32 (shaL (flatP d P)))) (parts12 (part_loop (id := 3) rfl rfl fun st K hT => loop12 hP hd hl hb hf st K hT)) (v12p P d l _) ?_
  refine ⟨by kernel_rfl, chkI hx.1 (chkI hdx.1 ⟨rfl, fun b => ?_⟩)⟩
  cases b with
  | true => exact askT rfl fun hr => ⟨_, sum_A hF rfl hr, rfl⟩
  | false => exact askF rfl fun hr => ⟨_, sum_B (k := 4) hF rfl hr rfl (by decide), rfl⟩
theorem sum12n_sem {P : List AV} {l : Nat} (hP : P.all isNilS = true) (hl : l = P.length) (hb : l ≤ 1099511627776) :
    ∃ v h', (v = .agg (ints .u8 32 (shaL []))) ∧ CallSem Try.prog 12 [.sl (some (0, 0)) l (.rel 0)] [.ro P] v h' := by
  have hx := oc_nil (b := 1) (t := 23) (z := 1) hP
  refine sem_vc mixed (C := C12f .nilS (T12n P l)) SB12_ok SB12_q cw12_ok ht12 c12 (R := fun v _ => v = .agg (ints .u8 32 (shaL []))) (parts12 (part_loop (id := 3) rfl rfl fun st K hT => loop12n hP hl hb st K hT)) (v12pN P l _) ?_
  have e := absorb_end (s := firstI) (l := []) (by decide)
  refine ⟨by kernel_rfl, chkI hx.1 ⟨rfl, _, sum_A (L := []) rfl ?_ (congrArg Prod.snd e), rfl⟩⟩
  rw [show sL [] = firstI from congrArg Prod.fst e]
  rfl
theorem sum12_ok : QuietOK Try.prog 12 sum12S := quiet_of_sem ht12 1 fun args hs v h => by
  unfold g12 at h
  split at h
  · rename_i l P d
    split at h
    · rename_i hc
      cases h
      simp only [Bool.and_eq_true, decide_eq_true_eq] at hc
      obtain ⟨⟨⟨⟨h1, h2⟩, h3⟩, h4⟩, h5⟩ := hc
      obtain ⟨v, h', rfl, hs⟩ := sum12_sem h1 h2 h3 h4 h5
      exact ⟨agg_cl, h', hs⟩
    · cases h
  · rename_i l P
    split at h
    · rename_i hc
      cases h
      simp only [Bool.and_eq_true, decide_eq_true_eq] at hc
      obtain ⟨⟨h1, h3⟩, h4⟩ := hc
      obtain ⟨v, h', rfl, hs⟩ := sum12n_sem h1 h3 h4
      exact ⟨agg_cl, h', hs⟩
    · cases h
  · cases h
/- ShaPieces: its calls, the shapes of its loop. -/
noncomputable def SB6 : Specs := mkS Q2 q7 (fun g => match g with
  | 12 => some (fun a h => (sum12S a h).map (·, h))
  | 17 => some (runG Try.prog SBq FNo 40 p17)
  | 18 => some (framedS 1 sW)
  | 21 => some (runG Try.prog SB35 FNo 40 p21)
  | _ => none)
theorem SB6_ok : SB6.OK Try.prog := mkS_ok quietText2 q7_ok (fun g s h => by
  split at h
  · cases h; exact full_of_quiet sum12_ok
  · cases h; exact nest_ok SBq_ok SBq_q ht17 c17 _ _
  · cases h; exact write_full
  · cases h; exact nest_ok SB35_ok SB35_q ht21 c21 _ _
  · cases h)
theorem SB6_q : ∀ g, (SB6.q g).isSome = Q2 g := fun g => mkS_isSome g
theorem S6_9 (vs : List AV) (h : AHeap) : callS SB6 9 vs h = (begunS vs).map (·, h) := rfl
theorem S6_12 (vs : List AV) (h : AHeap) : callS SB6 12 vs h = (sum12S vs h).map (·, h) := rfl
theorem S6_17 (vs : List AV) (h : AHeap) : callS SB6 17 vs h = runG Try.prog SBq FNo 40 p17 vs h := rfl
theorem S6_18 (vs : List AV) (h : AHeap) : callS SB6 18 vs h = framedS 1 sW vs h := rfl
theorem S6_19 (vs : List AV) (h : AHeap) : callS SB6 19 vs h = (lenS vs h).map (·, h) := rfl
theorem S6_20 (vs : List AV) (h : AHeap) : callS SB6 20 vs h = (sumS vs h).map (·, h) := rfl
theorem S6_21 (vs : List AV) (h : AHeap) : callS SB6 21 vs h = runG Try.prog SB35 FNo 40 p21 vs h := rfl
def S12 (vs : List AV) (h : AHeap) (g : Nat → Int) : Prop := sum12S vs h = some (.agg (ints .u8 32 g))
def T12s (vs : List AV) (h : AHeap) (K : AV × AHeap → Prop) : Prop := ∃ g, S12 vs h g ∧ K (.agg (ints .u8 32 g), h)
def cw6 (g : FuncId) : Option (List AV → AHeap → (AV × AHeap → Prop) → Prop) := match g with
  | 9 => some T9
  | 12 => some T12s
  | 17 => some T17
  | 18 => some T18
  | 19 => some T19
  | 20 => some T20
  | 21 => some T21
  | _ => none
theorem cw6_ok : CwOK SB6 cw6 := by
  intro g T vs h K hg hT
  unfold cw6 at hg
  split at hg <;> cases hg
  · obtain ⟨h1, h2⟩ := hT
    exact ⟨_, by rw [S6_9, h1]; rfl, h2⟩
  · obtain ⟨g, h1, h2⟩ := hT
    exact ⟨_, by rw [S6_12, show sum12S vs h = _ from h1]; rfl, h2⟩
  · exact ⟨_, (S6_17 _ _).trans hT.1, hT.2⟩
  · obtain ⟨r, h1, h2⟩ := T18_ok hT
    exact ⟨r, (S6_18 _ _).trans h1, h2⟩
  · obtain ⟨n, h1, h2⟩ := hT
    exact ⟨_, by rw [S6_19, h1]; rfl, h2⟩
  · obtain ⟨g, h1, h2⟩ := hT
    exact ⟨_, by rw [S6_20, h1]; rfl, h2⟩
  · unfold T21 at hT
    split at hT
    · exact ⟨_, (S6_21 _ _).trans hT.1, hT.2⟩
    · exact hT.elim
noncomputable def C6 : Cfg where
  S := SB6
  sy := fun k => k == 1
  kd := fun _ => .one (.int .u8)
  cw := cw6
  lw := fun _ => none
  gw := fun _ => none
  F := fun _ => ⟨[], .all⟩
  b0 := 2
abbrev keep6 : List Nat := keepT 117 [0, 2, 7, 8, 9, 27, 28, 29]
def tn6 (st : St) : Tidy := ⟨keep6, .rows (canon 2 st)⟩
def tx6 (st : St) : Tidy := ⟨keepT 117 [0, 7, 8, 9], .rows (canon 2 st)⟩
/-- The states at the loop's head: bytes, cuts, the hash, the pieces, what is left over. -/
def st6 (N q : Nat) (at' : Int) (p : AV) (o r c : Nat) (m cc : Nat) (i : Nat) (h : AHeap) : St :=
  (envOf 117 [(0, .sl (some (0, 0)) N (.fix q)), (2, .int .u8 at'), (7, .ptr (some (2, 0))), (8, p), (9, .sl (some (0, o)) r (.fix c)), (27, .sl (some (1, 0)) m (.fix cc)), (28, .int .i64 m), (29, .int .i64 i)], h)
def en6 (N q : Nat) (p : AV) (o r c : Nat) (h : AHeap) : St :=
  (envOf 117 [(0, .sl (some (0, 0)) N (.fix q)), (7, .ptr (some (2, 0))), (8, p), (9, .sl (some (0, o)) r (.fix c))], h)
def h0 (d cs : List AV) (s : Nat → Int) (n : Int) : AHeap := [.ro d, .ro cs, hrow s nilV n]
def hA (d cs : List AV) (s : Nat → Int) (n : Int) (P : List AV) : AHeap := [.ro d, .ro cs, hrow s nilV n, .row 23 1 P]
def hB (d cs : List AV) (s : Nat → Int) (n : Int) (P : List AV) (k : Nat) (R : List AV) : AHeap := [.ro d, .ro cs, hrow s (restR 4 k) n, .row 23 1 P, .row 26 64 R]
abbrev pc (l : Nat) : AV := .sl (some (3, 0)) l (.rel 0)
def sn6 (at' : Int) (p : AV) (m cc : Nat) (i : Nat) (h : AHeap) : St :=
  (envOf 117 [(0, nilV), (2, .int .u8 at'), (7, .ptr (some (2, 0))), (8, p), (9, nilV), (27, .sl (some (1, 0)) m (.fix cc)), (28, .int .i64 m), (29, .int .i64 i)], h)
def enN (p : AV) (h : AHeap) : St := (envOf 117 [(0, nilV), (7, .ptr (some (2, 0))), (8, p), (9, nilV)], h)
def n0 (cs : List AV) : AHeap := [.dead, .ro cs, hrow firstI nilV 0]
def nA (cs P : List AV) : AHeap := [.dead, .ro cs, hrow firstI nilV 0, .row 23 1 P]
/-- How far the bytes have come. -/
structure Jd (d : List AV) (N m o r c : Nat) (P : List AV) : Prop where
  rc : r ≤ c
  ol : o + r ≤ d.length
  rN : r ≤ N
  cells : P.all (cellOK 0 d) = true
  flat : flatP d P = d.take (N - r)
  rest : (d.drop o).take r = (d.drop (N - r)).take r
  len : P.length ≤ m
def T8 (d cs : List AV) (N q : Nat) (at' : Int) (m cc : Nat) (st : St) (K : AExit → St → Prop) : Prop :=
  st = st6 N q at' nilV 0 N q m cc 0 (h0 d cs firstI 0) ∧ ∀ b : Bool, askB b
    (∀ _ : m = 0, K (.exit 0) (en6 N q nilV 0 N q (h0 d cs firstI 0)))
    (∀ (o r c : Nat) (P : List AV), Jd d N m o r c P → P ≠ [] → ∀ b2 : Bool, askB b2
      (∀ _ : rL (d.take (N - r)) = [], K (.exit 0) (en6 N q (pc P.length) o r c (hA d cs (sL (d.take (N - r))) (d.take (N - r)).length P)))
      (∀ _ : rL (d.take (N - r)) ≠ [], K (.exit 0) (en6 N q (pc P.length) o r c (hB d cs (sL (d.take (N - r))) (d.take (N - r)).length P (rL (d.take (N - r))).length (R64 (rL (d.take (N - r))))))))
def T8n (cs : List AV) (at' : Int) (m cc : Nat) (st : St) (K : AExit → St → Prop) : Prop :=
  st = sn6 at' nilV m cc 0 (n0 cs) ∧ ∀ b : Bool, askB b
    (∀ _ : m = 0, K (.exit 0) (enN nilV (n0 cs)))
    (∀ (P : List AV), P.all isNilS = true → P ≠ [] → P.length ≤ m → K (.exit 0) (enN (pc P.length) (nA cs P)))
/-- A cut's length. -/
def cutE (r : Nat) (z : Int) : Int := if false = true then if (r : Int) > IntKind.wrap .i64 z then (r : Int) else IntKind.wrap .i64 z else if (r : Int) < IntKind.wrap .i64 z then (r : Int) else IntKind.wrap .i64 z
/-- Are two sums alike? -/
def eq32 (g h : Nat → Int) : Bool := (g 0 == h 0 && (g 1 == h 1 && (g 2 == h 2 && (g 3 == h 3 && (g 4 == h 4 && (g 5 == h 5 && (g 6 == h 6 && (g 7 == h 7 && (g 8 == h 8 && (g 9 == h 9 && (g 10 == h 10 && (g 11 == h 11 && (g 12 == h 12 && (g 13 == h 13 && (g 14 == h 14 && (g 15 == h 15 && (g 16 == h 16 && (g 17 == h 17 && (g 18 == h 18 && (g 19 == h 19 && (g 20 == h 20 && (g 21 == h 21 && (g 22 == h 22 && (g 23 == h 23 && (g 24 == h 24 && (g 25 == h 25 && (g 26 == h 26 && (g 27 == h 27 && (g 28 == h 28 && (g 29 == h 29 && (g 30 == h 30 && (g 31 == h 31 && true))))))))))))))))))))))))))))))))
theorem eq32_self (g : Nat → Int) : eq32 g g = true := by simp [eq32]
/-- No cuts at all. -/
def sc6 (at' : Int) (b r : AV) (m : Nat) (h : AHeap) : St :=
  (envOf 117 [(0, b), (2, .int .u8 at'), (7, .ptr (some (2, 0))), (8, nilV), (9, r), (27, nilV), (28, .int .i64 m), (29, .int .i64 0)], h)
def T8c (d : List AV) (N q : Nat) (at' : Int) (st : St) (K : AExit → St → Prop) : Prop :=
  st = sc6 at' (.sl (some (0, 0)) N (.fix q)) (.sl (some (0, 0)) N (.fix q)) 0 [.ro d, .dead, hrow firstI nilV 0] ∧ K (.exit 0) (en6 N q nilV 0 N q [.ro d, .dead, hrow firstI nilV 0])
def T8e (at' : Int) (st : St) (K : AExit → St → Prop) : Prop :=
  st = sc6 at' nilV nilV 0 [.dead, .dead, hrow firstI nilV 0] ∧ K (.exit 0) (enN nilV [.dead, .dead, hrow firstI nilV 0])
noncomputable def C6f (T : St → (AExit → St → Prop) → Prop) : Cfg :=
  { C6 with lw := fun id => if id == 8 then some T else none, F := fun id => if id == 8 then ⟨keep6, .auto⟩ else ⟨[], .all⟩ }

end Go.Proofs.Ytiijphmpkmmpjaa
