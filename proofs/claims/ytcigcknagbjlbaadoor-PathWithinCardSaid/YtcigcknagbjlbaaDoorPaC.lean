/- What the functions over sections compute; what they are run over. -/
import Derived.Test.YtcigcknagbjlbaaDoorPaB
namespace Go.Proofs.YtcigcknagbjlbaaDoor
open Go Go.Am
set_option maxRecDepth 100000
set_option linter.unusedVariables false
set_option linter.unusedSimpArgs false

def idB (n : Int) : Bool := decide (n ≥ 1) && decide (n ≤ 9007199254740992)
def idS (args : List AV) (_ : AHeap) : Option AV := match args with
  | [.int .i64 n] => some (.bool (idB n))
  | _ => none
/-- A row: its section, and its ids. -/
structure Rw where
  s : Int
  a : Int
  b : Int
  c : Int
  deriving DecidableEq
def Rw.av (r : Rw) : AV := .agg [.int .i64 r.s, .int .i64 r.a, .int .i64 r.b, .int .i64 r.c]
def dep (L : List Sc) (i : Int) : Int := match L[i.toNat]? with
  | some s => s.d
  | none => 0
def par (L : List Sc) (i : Int) : Int := match L[i.toNat]? with
  | some s => s.p
  | none => 0
def soundAt (L : List Sc) (i : Nat) : Bool := match L[i]? with
  | some s => !decide (s.d < 1) && !decide (s.d > 4) && (if ((i : Int) == 0) = true then !(s.p != -1) && !(s.d != 1) else !decide (s.p < 0) && !decide (s.p ≥ (i : Int)) && !(s.d != IntKind.i64.wrap (dep L s.p + 1)))
  | none => false
def soundFrom (L : List Sc) : Nat → Nat → Bool
  | 0, _ => true
  | f + 1, i => soundAt L i && soundFrom L f (i + 1)
def soundF (L : List Sc) : Bool := soundFrom L L.length 0
def idOk (d i n : Int) : Bool := if decide (i < IntKind.i64.wrap (d - 1)) then idB n else !(n != 0)
def checkF (L : List Sc) (r : Rw) : Bool := soundF L && !decide (r.s < 0) && !decide (r.s ≥ (L.length : Int)) && idOk (dep L r.s) 0 r.a && idOk (dep L r.s) 1 r.b && idOk (dep L r.s) 2 r.c
def errOf (b : Bool) : AV := .int .i64 (if b then 0 else 150)
/-- The row around one. -/
def upF (L : List Sc) (r : Rw) : Rw := match dep L r.s with
  | 2 => ⟨par L r.s, 0, r.b, r.c⟩
  | 3 => ⟨par L r.s, r.a, 0, r.c⟩
  | _ => ⟨par L r.s, r.a, r.b, 0⟩
def zr : Rw := ⟨0, 0, 0, 0⟩
def parentF (L : List Sc) (r : Rw) : Rw × Bool := if checkF L r && !(dep L r.s == 1) then (upF L r, true) else (zr, false)
def aroundG (L : List Sc) (s : Int) : Nat → Rw → Bool → Option Rw
  | 0, _, _ => none
  | f + 1, r, ok => if ok then (if r.s == s then some r else aroundG L s f (parentF L r).1 (parentF L r).2) else none
def aroundF (L : List Sc) (r : Rw) (s : Int) : Option Rw := aroundG L s (L.length + 1) r (checkF L r)
def withinF (L : List Sc) (r o : Rw) : Bool := match aroundF L r o.s with
  | some x => decide (x = o) && checkF L o
  | none => false

def F12 (L : List Sc) : List AV → Option AV
  | [] => some (.bool (soundF L))
  | _ => none
def F6 (L : List Sc) : List AV → Option AV
  | [.agg [.int .i64 s, .int .i64 a, .int .i64 b, .int .i64 c]] => some (errOf (checkF L ⟨s, a, b, c⟩))
  | _ => none
def F7 (L : List Sc) : List AV → Option AV
  | [.agg [.int .i64 s, .int .i64 a, .int .i64 b, .int .i64 c]] => some (.tup [(parentF L ⟨s, a, b, c⟩).1.av, .bool (parentF L ⟨s, a, b, c⟩).2])
  | _ => none
def F11 (L : List Sc) : List AV → Option AV
  | [.agg [.int .i64 s, .int .i64 a, .int .i64 b, .int .i64 c], .int .i64 q] => match aroundF L ⟨s, a, b, c⟩ q with
    | some x => some (.tup [x.av, .bool true])
    | none => some (.tup [zr.av, .bool false])
  | _ => none
def F5 (L : List Sc) : List AV → Option AV
  | [.agg [.int .i64 s, .int .i64 a, .int .i64 b, .int .i64 c], .agg [.int .i64 s', .int .i64 a', .int .i64 b', .int .i64 c']] => some (.bool (withinF L ⟨s, a, b, c⟩ ⟨s', a', b', c'⟩))
  | _ => none

/-- All contracts. -/
noncomputable def qAll (g : FuncId) : Option (List AV → AHeap → Option AV) := match g with
  | 4 => some fun vs _ => @ite _ (vs = []) (Classical.propDecidable _) (some (.bool true)) none
  | 5 => some (secS F5)
  | 6 => some (secS F6)
  | 7 => some (secS F7)
  | 11 => some (secS F11)
  | 12 => some (secS F12)
  | 13 => some idS
  | _ => none
noncomputable def SS (l : List FuncId) : Specs := mkS Q (fun g => if l.contains g then qAll g else none) (fun _ => none)
theorem SS_ok {l : List FuncId} (h : ∀ g ∈ l, ∀ s, qAll g = some s → QuietOK Tryd.prog g s) : (SS l).OK Tryd.prog := mkS_ok quietText (fun g s _ hs => by
  split at hs
  · rename_i hg; exact h g (by simpa using hg) s hs
  · cases hs) (fun g s h => by cases h)
theorem SS_q (l : List FuncId) : ∀ g, ((SS l).q g).isSome = Q g := fun g => mkS_isSome g

abbrev hL (L : List Sc) : AHeap := [.ro (cellsOf L)]
abbrev slL (n c : Nat) : AV := .sl (some (0, 0)) n (.fix c)
abbrev slN : AV := .sl none 0 (.fix 0)
/-- Calls over sections. -/
noncomputable def cwP (l : List FuncId) (g : FuncId) : Option (List AV → AHeap → (AV × AHeap → Prop) → Prop) := if l.contains g then match g with
  | 4 => some fun vs h K => chkW vs.isEmpty (K (.bool true, h))
  | 5 => some fun vs h K => ∃ b, secS F5 vs h = some (.bool b) ∧ K (.bool b, h)
  | 6 => some fun vs h K => ∃ b, secS F6 vs h = some (.int .i64 b) ∧ K (.int .i64 b, h)
  | 7 => some fun vs h K => ∃ s a b c ok, secS F7 vs h = some (.tup [.agg [.int .i64 s, .int .i64 a, .int .i64 b, .int .i64 c], .bool ok]) ∧ K (.tup [.agg [.int .i64 s, .int .i64 a, .int .i64 b, .int .i64 c], .bool ok], h)
  | 11 => some fun vs h K => ∃ s a b c ok, secS F11 vs h = some (.tup [.agg [.int .i64 s, .int .i64 a, .int .i64 b, .int .i64 c], .bool ok]) ∧ K (.tup [.agg [.int .i64 s, .int .i64 a, .int .i64 b, .int .i64 c], .bool ok], h)
  | 12 => some fun vs h K => ∃ b, secS F12 vs h = some (.bool b) ∧ K (.bool b, h)
  | _ => none else none
theorem cwP_ok (l : List FuncId) : CwOK (SS l) (cwP l) := by
  intro g T vs h K hg hT
  unfold cwP at hg
  split at hg
  · rename_i hl
    have hc : ∀ s, qAll g = some s → Q g = true → callS (SS l) g vs h = (s vs h).map (·, h) := fun s hs hQ => by
      unfold callS SS mkS
      simp only [hQ, if_true, hl, hs, Option.getD_some]
    split at hg <;> cases hg
    · obtain ⟨he, hk⟩ := chkD hT; obtain rfl := List.isEmpty_iff.1 he; exact ⟨_, by rw [hc _ rfl rfl]; rw [if_pos rfl]; rfl, hk⟩
    · obtain ⟨b, h1, hk⟩ := hT; exact ⟨_, by rw [hc _ rfl rfl, h1]; rfl, hk⟩
    · obtain ⟨b, h1, hk⟩ := hT; exact ⟨_, by rw [hc _ rfl rfl, h1]; rfl, hk⟩
    · obtain ⟨_, _, _, _, _, h1, hk⟩ := hT; exact ⟨_, by rw [hc _ rfl rfl, h1]; rfl, hk⟩
    · obtain ⟨_, _, _, _, _, h1, hk⟩ := hT; exact ⟨_, by rw [hc _ rfl rfl, h1]; rfl, hk⟩
    · obtain ⟨b, h1, hk⟩ := hT; exact ⟨_, by rw [hc _ rfl rfl, h1]; rfl, hk⟩
  · cases hg
/-- Calls over no sections. -/
noncomputable def cwN (l : List FuncId) (g : FuncId) : Option (List AV → AHeap → (AV × AHeap → Prop) → Prop) := if l.contains g then match g with
  | 4 => some fun vs h K => chkW vs.isEmpty (K (.bool true, h))
  | 5 => some fun vs h K => secS F5 vs h = some (.bool false) ∧ K (.bool false, h)
  | 6 => some fun vs h K => secS F6 vs h = some (.int .i64 150) ∧ K (.int .i64 150, h)
  | 7 => some fun vs h K => secS F7 vs h = some (.tup [.agg [.int .i64 0, .int .i64 0, .int .i64 0, .int .i64 0], .bool false]) ∧ K (.tup [.agg [.int .i64 0, .int .i64 0, .int .i64 0, .int .i64 0], .bool false], h)
  | 11 => some fun vs h K => secS F11 vs h = some (.tup [.agg [.int .i64 0, .int .i64 0, .int .i64 0, .int .i64 0], .bool false]) ∧ K (.tup [.agg [.int .i64 0, .int .i64 0, .int .i64 0, .int .i64 0], .bool false], h)
  | 12 => some fun vs h K => secS F12 vs h = some (.bool true) ∧ K (.bool true, h)
  | _ => none else none
theorem cwN_ok (l : List FuncId) : CwOK (SS l) (cwN l) := by
  intro g T vs h K hg hT
  unfold cwN at hg
  split at hg
  · rename_i hl
    have hc : ∀ s, qAll g = some s → Q g = true → callS (SS l) g vs h = (s vs h).map (·, h) := fun s hs hQ => by
      unfold callS SS mkS
      simp only [hQ, if_true, hl, hs, Option.getD_some]
    split at hg <;> cases hg
    · obtain ⟨he, hk⟩ := chkD hT; obtain rfl := List.isEmpty_iff.1 he; exact ⟨_, by rw [hc _ rfl rfl]; rw [if_pos rfl]; rfl, hk⟩
    all_goals (obtain ⟨h1, hk⟩ := hT; exact ⟨_, by rw [hc _ rfl rfl, h1]; rfl, hk⟩)
  · cases hg
theorem secS_at {F : List Sc → List AV → Option AV} {L : List Sc} {n c k : Nat} {h : AHeap} {rest : List AV} (hk : h[k]? = some (.ro (cellsOf L))) (hn : n ≤ L.length) (hn2 : n ≤ 100) (hr : rest.all AV.closed = true) : secS F (.sl (some (k, 0)) n (.fix c) :: rest) h = F (L.take n) rest := by
  unfold secS
  simp only [hr, if_true, hk]
  rw [if_pos ⟨L, rfl, hn, hn2⟩, decL_cells]
theorem secS_nil {F : List Sc → List AV → Option AV} {h : AHeap} {rest : List AV} (hr : rest.all AV.closed = true) : secS F (slN :: rest) h = F [] rest := by
  unfold secS
  simp only [hr, if_true]

/-- Straight code over sections: the calls of l by contract, kinds of loads. -/
noncomputable def CS (l : List FuncId) (kd : Nat → Kd) : Cfg where
  S := SS l
  sy := fun k => k == 0
  kd := kd
  cw := cwP l
  lw := fun _ => none
  gw := fun _ => none
  F := fun _ => ⟨[], .all⟩
  b0 := 1
def kdI (_ : Nat) : Kd := .one (.int .i64)
def kd5 (t : Nat) : Kd := if t = 11 then .agg [.int .i64, .int .i64, .str, .int .i64, .ext] else kdI t
def kd7 (t : Nat) : Kd := if t = 25 then .enum .i64 [2, 3, 4] else kdI t
-- sound
def st12 (L : List Sc) (n c : Nat) (i : Int) : St := (envOf 52 [(0, slL n c), (5, slL n c), (6, .int .i64 n), (7, .int .i64 i)], hL L)
def t12 : Tidy := ⟨dropT 52 [0, 5, 6, 7], .auto⟩
def x12 : Tidy := ⟨dropT 52 [2], .auto⟩
noncomputable def C12 (L : List Sc) (n c : Nat) : Cfg := { CS [] kd5 with
  lw := fun id => if id = 2 then some fun st K => st = st12 L n c 0 ∧ askB (soundFrom (L.take n) n 0) (K (.exit 0) (envOf 52 [], hL L)) (K .ret (envOf 52 [(2, .bool false)], hL L)) else none
  F := fun id => if id = 2 then t12 else ⟨[], .all⟩ }
-- Around
def st11 (L : List Sc) (n c : Nat) (s : Int) (r : Rw) (ok : Bool) : St := (envOf 26 [(0, slL n c), (2, .int .i64 s), (4, .ptr (some (1, 0))), (6, .ptr (some (2, 0))), (7, .bool false), (8, .bool ok)], [.ro (cellsOf L), .row 25 4 [.int .i64 r.s, .int .i64 r.a, .int .i64 r.b, .int .i64 r.c], .row 25 4 [.int .i64 0, .int .i64 0, .int .i64 0, .int .i64 0]])
def t11 : Tidy := ⟨dropT 26 [0, 2, 4, 6, 7, 8], .auto⟩
def x11 : Tidy := ⟨dropT 26 [6, 7], .auto⟩
def e11 (L : List Sc) (r : Rw) (ok : Bool) : St := (envOf 26 [(6, .ptr (some (1, 0))), (7, .bool ok)], [.ro (cellsOf L), .row 25 4 [.int .i64 r.s, .int .i64 r.a, .int .i64 r.b, .int .i64 r.c]])
noncomputable def C11 (L : List Sc) (n c : Nat) (s : Int) (r : Rw) : Cfg := { CS [6, 7] kdI with
  lw := fun id => if id = 2 then some fun st K => ∃ ok, (ok = true → checkF (L.take n) r = true) ∧ st = st11 L n c s r ok ∧ ∃ x found, (found, x) = (match aroundG (L.take n) s ((L.take n).length + 1) r ok with | some x => (true, x) | none => (false, zr)) ∧ askB found (K .ret (e11 L x true)) (K (.exit 0) (e11 L zr false)) else none
  F := fun id => if id = 2 then t11 else ⟨[], .all⟩ }
noncomputable def CN (l : List FuncId) : Cfg := { CS l kdI with sy := fun _ => false, cw := cwN l }
end Go.Proofs.YtcigcknagbjlbaaDoor
