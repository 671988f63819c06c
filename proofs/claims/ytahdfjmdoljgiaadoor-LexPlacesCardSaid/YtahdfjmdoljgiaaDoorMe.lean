/- Written by merging: Loa Lob Loc Lod Lpa Lpb Lpc Lpd. -/
import Derived.Test.YtahdfjmdoljgiaaDoorMd
namespace Go.Proofs.YtahdfjmdoljgiaaDoor
open Go Go.Am
set_option maxRecDepth 100000
set_option maxHeartbeats 1000000
set_option linter.unusedVariables false
set_option linter.unusedSimpArgs false
/- The document's Prefix: what it comes to; shapes of its runs. -/

def sIsD : List AV → Option AV
  | [.int .u8 c] => if 0 ≤ c ∧ c < 256 then some (.bool (isD c.toNat.toUInt8)) else none
  | _ => none
def pfxR (fr : Nat) (f0 : UInt8) : List UInt8 → Nat → Bool → Bool → Nat → Nat
  | [], _, _, _, best => best
  | c :: l, i, sm, pt, best =>
    if c == 46 && !pt && decide (fr < i) then pfxR fr f0 l (i + 1) sm true best
    else if !isD c || (!pt && decide (fr < i) && f0 == 48) then best
    else pfxR fr f0 l (i + 1) (sm || c != 48) pt (if (sm || c != 48) || fr == 0 then i + 1 else best)
def tb43 : List TbE := [⟨54, fun vs _ => sIsD vs, .of (.one .bool)⟩]
def q43 (s : List UInt8) (best i : Int) (sm pt : Bool) (fr : Int) : St := (envOf 76 [(0, .str s), (3, .int .i64 best), (4, .int .i64 i), (5, .bool sm), (6, .bool pt), (7, .int .i64 fr)], [])
def t43 : Tidy := ⟨dropT 76 [0, 3, 4, 5, 6, 7], .all⟩
def x43 : Tidy := ⟨dropT 76 [3], .all⟩
def r43 : Tidy := ⟨dropT 76 [2], .all⟩
def C43l : Cfg := tbC Q tb43 (fun _ => false) kdI
def C43 (s : List UInt8) : Cfg := { tbC Q tb43 (fun _ => false) kdI with
  lw := fun id => if id = 6 then some fun st K => ∃ fr : Nat, st = q43 s 0 fr false false fr ∧ fr ≤ s.length ∧ ∀ e : Bool, askB e (K (.exit 0) (envOf 76 [(3, .int .i64 (pfxR fr (s.getD fr 0) (s.drop fr) fr false false 0))], [])) (K .ret (envOf 76 [(2, .int .i64 (pfxR fr (s.getD fr 0) (s.drop fr) fr false false 0))], [])) else none
  F := fun id => if id = 6 then t43 else ⟨[], .all⟩ }

/- What the document's Prefix must meet: written by vcgen.py. -/
theorem v54 (c : Int) (R : AV → AHeap → Prop) : (askB (decide (c ≥ 48)) (askB (decide (c ≤ 57)) (R (AV.bool true) []) (R (AV.bool false) [])) (R (AV.bool false) [])) = (wpF Tryd.prog (tbC Q [] (fun _ => false) kdI) 40 p54 [.int .u8 c] [] R) := by kernel_rfl
theorem v43b (s : List UInt8) (best i : Nat) (sm pt : Bool) (fr : Nat) (K : AExit → St → Prop) : (askB (decide ((↑i : Int) < (↑(List.length s) : Int))) (chkW (decide (i < List.length s)) (askB ((↑(UInt8.toNat (List.getD s i 0)) : Int) == 46) (askB pt (∃ (b : Bool), sIsD [AV.int .u8 (↑(UInt8.toNat (List.getD s i 0)) : Int)] = some (AV.bool b) ∧ askB b (askB pt (askB sm (K AExit.normal (envOf 76 [(0, AV.str s), (3, AV.int .i64 (IntKind.wrap .i64 ((↑i : Int) + 1))), (4, AV.int .i64 (IntKind.wrap .i64 ((↑i : Int) + 1))), (5, AV.bool true), (6, AV.bool pt), (7, AV.int .i64 (↑fr : Int))], [])) (askB ((↑(UInt8.toNat (List.getD s i 0)) : Int) != 48) (K AExit.normal (envOf 76 [(0, AV.str s), (3, AV.int .i64 (IntKind.wrap .i64 ((↑i : Int) + 1))), (4, AV.int .i64 (IntKind.wrap .i64 ((↑i : Int) + 1))), (5, AV.bool true), (6, AV.bool pt), (7, AV.int .i64 (↑fr : Int))], [])) (askB ((↑fr : Int) == 0) (K AExit.normal (envOf 76 [(0, AV.str s), (3, AV.int .i64 (IntKind.wrap .i64 ((↑i : Int) + 1))), (4, AV.int .i64 (IntKind.wrap .i64 ((↑i : Int) + 1))), (5, AV.bool false), (6, AV.bool pt), (7, AV.int .i64 (↑fr : Int))], [])) (K AExit.normal (envOf 76 [(0, AV.str s), (3, AV.int .i64 (↑best : Int)), (4, AV.int .i64 (IntKind.wrap .i64 ((↑i : Int) + 1))), (5, AV.bool false), (6, AV.bool pt), (7, AV.int .i64 (↑fr : Int))], []))))) (askB (decide ((↑i : Int) > (↑fr : Int))) (chkW (decide (fr < List.length s)) (askB ((↑(UInt8.toNat (List.getD s fr 0)) : Int) == 48) (K AExit.ret (envOf 76 [(2, AV.int .i64 (↑best : Int))], [])) (askB sm (K AExit.normal (envOf 76 [(0, AV.str s), (3, AV.int .i64 (IntKind.wrap .i64 ((↑i : Int) + 1))), (4, AV.int .i64 (IntKind.wrap .i64 ((↑i : Int) + 1))), (5, AV.bool true), (6, AV.bool pt), (7, AV.int .i64 (↑fr : Int))], [])) (askB ((↑(UInt8.toNat (List.getD s i 0)) : Int) != 48) (K AExit.normal (envOf 76 [(0, AV.str s), (3, AV.int .i64 (IntKind.wrap .i64 ((↑i : Int) + 1))), (4, AV.int .i64 (IntKind.wrap .i64 ((↑i : Int) + 1))), (5, AV.bool true), (6, AV.bool pt), (7, AV.int .i64 (↑fr : Int))], [])) (askB ((↑fr : Int) == 0) (K AExit.normal (envOf 76 [(0, AV.str s), (3, AV.int .i64 (IntKind.wrap .i64 ((↑i : Int) + 1))), (4, AV.int .i64 (IntKind.wrap .i64 ((↑i : Int) + 1))), (5, AV.bool false), (6, AV.bool pt), (7, AV.int .i64 (↑fr : Int))], [])) (K AExit.normal (envOf 76 [(0, AV.str s), (3, AV.int .i64 (↑best : Int)), (4, AV.int .i64 (IntKind.wrap .i64 ((↑i : Int) + 1))), (5, AV.bool false), (6, AV.bool pt), (7, AV.int .i64 (↑fr : Int))], []))))))) (askB sm (K AExit.normal (envOf 76 [(0, AV.str s), (3, AV.int .i64 (IntKind.wrap .i64 ((↑i : Int) + 1))), (4, AV.int .i64 (IntKind.wrap .i64 ((↑i : Int) + 1))), (5, AV.bool true), (6, AV.bool pt), (7, AV.int .i64 (↑fr : Int))], [])) (askB ((↑(UInt8.toNat (List.getD s i 0)) : Int) != 48) (K AExit.normal (envOf 76 [(0, AV.str s), (3, AV.int .i64 (IntKind.wrap .i64 ((↑i : Int) + 1))), (4, AV.int .i64 (IntKind.wrap .i64 ((↑i : Int) + 1))), (5, AV.bool true), (6, AV.bool pt), (7, AV.int .i64 (↑fr : Int))], [])) (askB ((↑fr : Int) == 0) (K AExit.normal (envOf 76 [(0, AV.str s), (3, AV.int .i64 (IntKind.wrap .i64 ((↑i : Int) + 1))), (4, AV.int .i64 (IntKind.wrap .i64 ((↑i : Int) + 1))), (5, AV.bool false), (6, AV.bool pt), (7, AV.int .i64 (↑fr : Int))], [])) (K AExit.normal (envOf 76 [(0, AV.str s), (3, AV.int .i64 (↑best : Int)), (4, AV.int .i64 (IntKind.wrap .i64 ((↑i : Int) + 1))), (5, AV.bool false), (6, AV.bool pt), (7, AV.int .i64 (↑fr : Int))], []))))))) (K AExit.ret (envOf 76 [(2, AV.int .i64 (↑best : Int))], []))) (askB (decide ((↑i : Int) > (↑fr : Int))) (K AExit.normal (envOf 76 [(0, AV.str s), (3, AV.int .i64 (↑best : Int)), (4, AV.int .i64 (IntKind.wrap .i64 ((↑i : Int) + 1))), (5, AV.bool sm), (6, AV.bool true), (7, AV.int .i64 (↑fr : Int))], [])) (∃ (b : Bool), sIsD [AV.int .u8 (↑(UInt8.toNat (List.getD s i 0)) : Int)] = some (AV.bool b) ∧ askB b (askB pt (askB sm (K AExit.normal (envOf 76 [(0, AV.str s), (3, AV.int .i64 (IntKind.wrap .i64 ((↑i : Int) + 1))), (4, AV.int .i64 (IntKind.wrap .i64 ((↑i : Int) + 1))), (5, AV.bool true), (6, AV.bool pt), (7, AV.int .i64 (↑fr : Int))], [])) (askB ((↑(UInt8.toNat (List.getD s i 0)) : Int) != 48) (K AExit.normal (envOf 76 [(0, AV.str s), (3, AV.int .i64 (IntKind.wrap .i64 ((↑i : Int) + 1))), (4, AV.int .i64 (IntKind.wrap .i64 ((↑i : Int) + 1))), (5, AV.bool true), (6, AV.bool pt), (7, AV.int .i64 (↑fr : Int))], [])) (askB ((↑fr : Int) == 0) (K AExit.normal (envOf 76 [(0, AV.str s), (3, AV.int .i64 (IntKind.wrap .i64 ((↑i : Int) + 1))), (4, AV.int .i64 (IntKind.wrap .i64 ((↑i : Int) + 1))), (5, AV.bool false), (6, AV.bool pt), (7, AV.int .i64 (↑fr : Int))], [])) (K AExit.normal (envOf 76 [(0, AV.str s), (3, AV.int .i64 (↑best : Int)), (4, AV.int .i64 (IntKind.wrap .i64 ((↑i : Int) + 1))), (5, AV.bool false), (6, AV.bool pt), (7, AV.int .i64 (↑fr : Int))], []))))) (askB (decide ((↑i : Int) > (↑fr : Int))) (chkW (decide (fr < List.length s)) (askB ((↑(UInt8.toNat (List.getD s fr 0)) : Int) == 48) (K AExit.ret (envOf 76 [(2, AV.int .i64 (↑best : Int))], [])) (askB sm (K AExit.normal (envOf 76 [(0, AV.str s), (3, AV.int .i64 (IntKind.wrap .i64 ((↑i : Int) + 1))), (4, AV.int .i64 (IntKind.wrap .i64 ((↑i : Int) + 1))), (5, AV.bool true), (6, AV.bool pt), (7, AV.int .i64 (↑fr : Int))], [])) (askB ((↑(UInt8.toNat (List.getD s i 0)) : Int) != 48) (K AExit.normal (envOf 76 [(0, AV.str s), (3, AV.int .i64 (IntKind.wrap .i64 ((↑i : Int) + 1))), (4, AV.int .i64 (IntKind.wrap .i64 ((↑i : Int) + 1))), (5, AV.bool true), (6, AV.bool pt), (7, AV.int .i64 (↑fr : Int))], [])) (askB ((↑fr : Int) == 0) (K AExit.normal (envOf 76 [(0, AV.str s), (3, AV.int .i64 (IntKind.wrap .i64 ((↑i : Int) + 1))), (4, AV.int .i64 (IntKind.wrap .i64 ((↑i : Int) + 1))), (5, AV.bool false), (6, AV.bool pt), (7, AV.int .i64 (↑fr : Int))], [])) (K AExit.normal (envOf 76 [(0, AV.str s), (3, AV.int .i64 (↑best : Int)), (4, AV.int .i64 (IntKind.wrap .i64 ((↑i : Int) + 1))), (5, AV.bool false), (6, AV.bool pt), (7, AV.int .i64 (↑fr : Int))], []))))))) (askB sm (K AExit.normal (envOf 76 [(0, AV.str s), (3, AV.int .i64 (IntKind.wrap .i64 ((↑i : Int) + 1))), (4, AV.int .i64 (IntKind.wrap .i64 ((↑i : Int) + 1))), (5, AV.bool true), (6, AV.bool pt), (7, AV.int .i64 (↑fr : Int))], [])) (askB ((↑(UInt8.toNat (List.getD s i 0)) : Int) != 48) (K AExit.normal (envOf 76 [(0, AV.str s), (3, AV.int .i64 (IntKind.wrap .i64 ((↑i : Int) + 1))), (4, AV.int .i64 (IntKind.wrap .i64 ((↑i : Int) + 1))), (5, AV.bool true), (6, AV.bool pt), (7, AV.int .i64 (↑fr : Int))], [])) (askB ((↑fr : Int) == 0) (K AExit.normal (envOf 76 [(0, AV.str s), (3, AV.int .i64 (IntKind.wrap .i64 ((↑i : Int) + 1))), (4, AV.int .i64 (IntKind.wrap .i64 ((↑i : Int) + 1))), (5, AV.bool false), (6, AV.bool pt), (7, AV.int .i64 (↑fr : Int))], [])) (K AExit.normal (envOf 76 [(0, AV.str s), (3, AV.int .i64 (↑best : Int)), (4, AV.int .i64 (IntKind.wrap .i64 ((↑i : Int) + 1))), (5, AV.bool false), (6, AV.bool pt), (7, AV.int .i64 (↑fr : Int))], []))))))) (K AExit.ret (envOf 76 [(2, AV.int .i64 (↑best : Int))], []))))) (∃ (b : Bool), sIsD [AV.int .u8 (↑(UInt8.toNat (List.getD s i 0)) : Int)] = some (AV.bool b) ∧ askB b (askB pt (askB sm (K AExit.normal (envOf 76 [(0, AV.str s), (3, AV.int .i64 (IntKind.wrap .i64 ((↑i : Int) + 1))), (4, AV.int .i64 (IntKind.wrap .i64 ((↑i : Int) + 1))), (5, AV.bool true), (6, AV.bool pt), (7, AV.int .i64 (↑fr : Int))], [])) (askB ((↑(UInt8.toNat (List.getD s i 0)) : Int) != 48) (K AExit.normal (envOf 76 [(0, AV.str s), (3, AV.int .i64 (IntKind.wrap .i64 ((↑i : Int) + 1))), (4, AV.int .i64 (IntKind.wrap .i64 ((↑i : Int) + 1))), (5, AV.bool true), (6, AV.bool pt), (7, AV.int .i64 (↑fr : Int))], [])) (askB ((↑fr : Int) == 0) (K AExit.normal (envOf 76 [(0, AV.str s), (3, AV.int .i64 (IntKind.wrap .i64 ((↑i : Int) + 1))), (4, AV.int .i64 (IntKind.wrap .i64 ((↑i : Int) + 1))), (5, AV.bool false), (6, AV.bool pt), (7, AV.int .i64 (↑fr : Int))], [])) (K AExit.normal (envOf 76 [(0, AV.str s), (3, AV.int .i64 (↑best : Int)), (4, AV.int .i64 (IntKind.wrap .i64 ((↑i : Int) + 1))), (5, AV.bool false), (6, AV.bool pt), (7, AV.int .i64 (↑fr : Int))], []))))) (askB (decide ((↑i : Int) > (↑fr : Int))) (chkW (decide (fr < List.length s)) (askB ((↑(UInt8.toNat (List.getD s fr 0)) : Int) == 48) (K AExit.ret (envOf 76 [(2, AV.int .i64 (↑best : Int))], [])) (askB sm (K AExit.normal (envOf 76 [(0, AV.str s), (3, AV.int .i64 (IntKind.wrap .i64 ((↑i : Int) + 1))), (4, AV.int .i64 (IntKind.wrap .i64 ((↑i : Int) + 1))), (5, AV.bool true), (6, AV.bool pt), (7, AV.int .i64 (↑fr : Int))], [])) (askB ((↑(UInt8.toNat (List.getD s i 0)) : Int) != 48) (K AExit.normal (envOf 76 [(0, AV.str s), (3, AV.int .i64 (IntKind.wrap .i64 ((↑i : Int) + 1))), (4, AV.int .i64 (IntKind.wrap .i64 ((↑i : Int) + 1))), (5, AV.bool true), (6, AV.bool pt), (7, AV.int .i64 (↑fr : Int))], [])) (askB ((↑fr : Int) == 0) (K AExit.normal (envOf 76 [(0, AV.str s), (3, AV.int .i64 (IntKind.wrap .i64 ((↑i : Int) + 1))), (4, AV.int .i64 (IntKind.wrap .i64 ((↑i : Int) + 1))), (5, AV.bool false), (6, AV.bool pt), (7, AV.int .i64 (↑fr : Int))], [])) (K AExit.normal (envOf 76 [(0, AV.str s), (3, AV.int .i64 (↑best : Int)), (4, AV.int .i64 (IntKind.wrap .i64 ((↑i : Int) + 1))), (5, AV.bool false), (6, AV.bool pt), (7, AV.int .i64 (↑fr : Int))], []))))))) (askB sm (K AExit.normal (envOf 76 [(0, AV.str s), (3, AV.int .i64 (IntKind.wrap .i64 ((↑i : Int) + 1))), (4, AV.int .i64 (IntKind.wrap .i64 ((↑i : Int) + 1))), (5, AV.bool true), (6, AV.bool pt), (7, AV.int .i64 (↑fr : Int))], [])) (askB ((↑(UInt8.toNat (List.getD s i 0)) : Int) != 48) (K AExit.normal (envOf 76 [(0, AV.str s), (3, AV.int .i64 (IntKind.wrap .i64 ((↑i : Int) + 1))), (4, AV.int .i64 (IntKind.wrap .i64 ((↑i : Int) + 1))), (5, AV.bool true), (6, AV.bool pt), (7, AV.int .i64 (↑fr : Int))], [])) (askB ((↑fr : Int) == 0) (K AExit.normal (envOf 76 [(0, AV.str s), (3, AV.int .i64 (IntKind.wrap .i64 ((↑i : Int) + 1))), (4, AV.int .i64 (IntKind.wrap .i64 ((↑i : Int) + 1))), (5, AV.bool false), (6, AV.bool pt), (7, AV.int .i64 (↑fr : Int))], [])) (K AExit.normal (envOf 76 [(0, AV.str s), (3, AV.int .i64 (↑best : Int)), (4, AV.int .i64 (IntKind.wrap .i64 ((↑i : Int) + 1))), (5, AV.bool false), (6, AV.bool pt), (7, AV.int .i64 (↑fr : Int))], []))))))) (K AExit.ret (envOf 76 [(2, AV.int .i64 (↑best : Int))], []))))) (K (AExit.exit 0) (envOf 76 [(3, AV.int .i64 (↑best : Int))], []))) = (wpP Tryd.prog C43l 80 (.inl p43_l0) (q43 s best i sm pt fr) (postX C43l t43 x43 r43 K)) := by kernel_rfl
theorem v43 (s : List UInt8) (R : AV → AHeap → Prop) : (askB (decide (0 < (↑(List.length s) : Int))) (chkW (decide (0 < List.length s)) (askB ((↑(UInt8.toNat (List.getD s 0 0)) : Int) == 45) (∃ (fr : Nat), (envOf 76 [(0, AV.str s), (3, AV.int .i64 0), (4, AV.int .i64 1), (5, AV.bool false), (6, AV.bool false), (7, AV.int .i64 1)], ([] : AHeap)) = (envOf 76 [(0, AV.str s), (3, AV.int .i64 0), (4, AV.int .i64 (↑fr : Int)), (5, AV.bool false), (6, AV.bool false), (7, AV.int .i64 (↑fr : Int))], []) ∧ fr ≤ List.length s ∧ ∀ (e : Bool), askB e (R (AV.int .i64 (↑(pfxR fr (List.getD s fr 0) (List.drop fr s) fr false false 0) : Int)) []) (R (AV.int .i64 (↑(pfxR fr (List.getD s fr 0) (List.drop fr s) fr false false 0) : Int)) [])) (∃ (fr : Nat), (envOf 76 [(0, AV.str s), (3, AV.int .i64 0), (4, AV.int .i64 0), (5, AV.bool false), (6, AV.bool false), (7, AV.int .i64 0)], ([] : AHeap)) = (envOf 76 [(0, AV.str s), (3, AV.int .i64 0), (4, AV.int .i64 (↑fr : Int)), (5, AV.bool false), (6, AV.bool false), (7, AV.int .i64 (↑fr : Int))], []) ∧ fr ≤ List.length s ∧ ∀ (e : Bool), askB e (R (AV.int .i64 (↑(pfxR fr (List.getD s fr 0) (List.drop fr s) fr false false 0) : Int)) []) (R (AV.int .i64 (↑(pfxR fr (List.getD s fr 0) (List.drop fr s) fr false false 0) : Int)) [])))) (∃ (fr : Nat), (envOf 76 [(0, AV.str s), (3, AV.int .i64 0), (4, AV.int .i64 0), (5, AV.bool false), (6, AV.bool false), (7, AV.int .i64 0)], ([] : AHeap)) = (envOf 76 [(0, AV.str s), (3, AV.int .i64 0), (4, AV.int .i64 (↑fr : Int)), (5, AV.bool false), (6, AV.bool false), (7, AV.int .i64 (↑fr : Int))], []) ∧ fr ≤ List.length s ∧ ∀ (e : Bool), askB e (R (AV.int .i64 (↑(pfxR fr (List.getD s fr 0) (List.drop fr s) fr false false 0) : Int)) []) (R (AV.int .i64 (↑(pfxR fr (List.getD s fr 0) (List.drop fr s) fr false false 0) : Int)) []))) = (wpF Tryd.prog (C43 s) 80 p43 [.str s] [] R) := by kernel_rfl

/- The document's Prefix: the same as Prefix. -/

theorem isD_ok : QuietOK Tryd.prog 54 fun vs _ => sIsD vs := quiet_plain ht54 fun args v h => by
  unfold sIsD at h
  split at h
  · rename_i z
    split at h
    · rename_i hz
      cases h
      refine ⟨rfl, rfl, ?_⟩
      have hS : (tbS Q []).OK Tryd.prog := tbS_ok quietText (by simp)
      have hn : (z.toNat.toUInt8).toNat = z.toNat := by simp; omega
      obtain ⟨u, h', rfl, hsem⟩ := sem_vc mixed (C := tbC Q [] (fun _ => false) kdI) hS (tbS_q _ _) (tbW_ok rfl) ht54 c54 (no_parts rfl) (v54 z fun u _ => u = .bool (isD z.toNat.toUInt8)) (by
        refine askI (fun h2 => askI (fun h3 => ?_) fun h3 => ?_) fun h2 => ?_
        · simp only [decide_eq_true_eq] at h2 h3
          unfold isD; rw [hn, decide_eq_true (by omega), decide_eq_true (by omega)]; rfl
        · simp only [decide_eq_false_iff_not] at h3
          unfold isD; rw [hn, decide_eq_false (p := z.toNat ≤ 57) (by omega), Bool.and_false]
        · simp only [decide_eq_false_iff_not] at h2
          unfold isD; rw [hn, decide_eq_false (by omega)]; rfl)
      exact ⟨h', hsem⟩
    · cases h
  · cases h
theorem isD_at (c : UInt8) : sIsD [.int .u8 (c.toNat : Int)] = some (.bool (isD c)) := by
  have h := c.toNat_lt
  show (if 0 ≤ ((c.toNat : Nat) : Int) ∧ ((c.toNat : Nat) : Int) < 256 then some (AV.bool (isD ((c.toNat : Nat) : Int).toNat.toUInt8)) else none) = _
  rw [if_pos (by omega), u8_back]

/-! ### Both say the same -/
theorem pfx_behind (fr : Nat) (f0 : UInt8) : ∀ (l : List UInt8) (i : Nat) (sm : Bool) (best : Nat), pfxR fr f0 l i sm true best = behindL (fr != 0) l i sm best
  | [], _, _, _ => rfl
  | c :: l, i, sm, best => by
    have hn : (!(fr != 0)) = (fr == 0) := by rw [bne, Bool.not_not]
    simp only [pfxR, behindL, Bool.not_true, Bool.and_false, Bool.false_and, Bool.or_false, Bool.false_eq_true, if_false, hn]
    cases hd : isD c with
    | true => simp only [Bool.not_true, Bool.false_eq_true, if_false, if_true]; exact pfx_behind fr f0 l _ _ _
    | false => simp only [Bool.not_false, if_true, Bool.false_eq_true, if_false]
theorem isD46 : isD 46 = false := by decide
theorem pfx_whole {s : List UInt8} {fr : Nat} {f0 : UInt8} (h0 : (f0 == 48) = false) : ∀ (k i : Nat), s.length - i ≤ k → fr < i → pfxR fr f0 (s.drop i) i true false i = wholeP (fr != 0) s (i + runD (s.drop i)) true := by
  intro k
  induction k with
  | zero =>
    intro i hk hi
    have hl : s.length ≤ i := by omega
    rw [List.drop_eq_nil_of_le hl]
    show i = wholeP _ s (i + 0) true
    rw [Nat.add_zero, wholeP_no (by rw [decide_eq_false (by omega), Bool.false_and])]
    rfl
  | succ k ih =>
    intro i hk hi
    rcases Nat.lt_or_ge i s.length with hl | hl
    · have hgt : decide (fr < i) = true := decide_eq_true hi
      cases hd : isD (s.getD i 0) with
      | true =>
        have hne : (s.getD i 0 == 46) = false := by
          rw [beq_eq_false_iff_ne]; intro e; rw [e, isD46] at hd; cases hd
        rw [runD_at (by rw [dgA_eq hl]; exact hd), show i + (runD (s.drop (i + 1)) + 1) = (i + 1) + runD (s.drop (i + 1)) by omega, ← ih (i + 1) (by omega) (by omega)]
        rw [drop_cons hl]
        simp only [pfxR, hne, hd, h0, Bool.false_and, Bool.and_false, Bool.or_false, Bool.not_true, Bool.false_eq_true, if_false, Bool.true_or, if_true]
      | false =>
        rw [runD_no (by rw [dgA_eq hl]; exact hd), Nat.add_zero]
        cases hp : (s.getD i 0 == 46) with
        | true =>
          have hp2 : (s.getD i 0 != 46) = false := by rw [bne, hp]; rfl
          rw [wholeP_yes hl hp2, ← pfx_behind fr f0]
          rw [drop_cons hl]
          simp only [pfxR, hp, hgt, Bool.not_false, Bool.and_true, if_true, Bool.true_or]
        | false =>
          rw [wholeP_no (by rw [hp, Bool.and_false]), drop_cons hl]
          simp only [pfxR, hp, hd, Bool.false_and, Bool.false_eq_true, if_false, Bool.not_false, Bool.true_or, if_true]
    · exact ih i (by omega) hi
theorem pfx_start {s : List UInt8} {fr : Nat} : pfxR fr (s.getD fr 0) (s.drop fr) fr false false 0 = if dgA s fr then (if s.getD fr 0 == 48 then wholeP (fr != 0) s (fr + 1) false else wholeP (fr != 0) s (fr + runD (s.drop fr)) true) else 0 := by
  rcases Nat.lt_or_ge fr s.length with hl | hl
  · rw [dgA_eq hl]
    have hgt : decide (fr < fr) = false := decide_eq_false (by omega)
    have hgt1 : decide (fr < fr + 1) = true := decide_eq_true (by omega)
    cases hd : isD (s.getD fr 0) with
    | false =>
      rw [drop_cons hl]
      simp only [pfxR, hgt, hd, Bool.and_false, Bool.false_and, Bool.false_eq_true, if_false, Bool.not_false, Bool.true_or, if_true]
    | true =>
      simp only [if_true]
      cases hz : (s.getD fr 0 == 48) with
      | false =>
        have hz2 : (s.getD fr 0 != 48) = true := by rw [bne, hz]; rfl
        rw [runD_at (by rw [dgA_eq hl]; exact hd), show fr + (runD (s.drop (fr + 1)) + 1) = (fr + 1) + runD (s.drop (fr + 1)) by omega]
        have hw := pfx_whole (s := s) (fr := fr) hz (s.length - (fr + 1)) (fr + 1) (Nat.le_refl _) (by omega)
        simp only [Bool.false_eq_true, if_false]
        rw [← hw]
        conv => lhs; rw [drop_cons hl]
        simp only [pfxR, hgt, hd, hz2, Bool.and_false, Bool.false_and, Bool.false_eq_true, if_false, Bool.not_true, Bool.false_or, Bool.true_or, Bool.or_true, if_true]
      | true =>
        have hz2 : (s.getD fr 0 != 48) = false := by rw [bne, hz]; rfl
        have hn : (!(fr != 0)) = (fr == 0) := by rw [bne, Bool.not_not]
        have h1 : pfxR fr (s.getD fr 0) (s.drop fr) fr false false 0 = pfxR fr (s.getD fr 0) (s.drop (fr + 1)) (fr + 1) false false (if fr == 0 then fr + 1 else 0) := by
          conv => lhs; rw [drop_cons hl]
          simp only [pfxR, hgt, hd, hz2, Bool.and_false, Bool.false_and, Bool.false_eq_true, if_false, Bool.not_true, Bool.false_or, Bool.or_false]
        rw [h1]
        simp only [if_true]
        rcases Nat.lt_or_ge (fr + 1) s.length with hl1 | hl1
        · cases hp : (s.getD (fr + 1) 0 == 46) with
          | true =>
            have hp2 : (s.getD (fr + 1) 0 != 46) = false := by rw [bne, hp]; rfl
            rw [wholeP_yes hl1 hp2, ← pfx_behind fr (s.getD fr 0), drop_cons hl1, hn]
            simp only [pfxR, hp, hgt1, Bool.not_false, Bool.and_true, if_true, Bool.true_or, Bool.false_or]
          | false =>
            rw [wholeP_no (by rw [hp, Bool.and_false]), drop_cons hl1, hn]
            simp only [pfxR, hp, hz, hgt1, Bool.false_and, Bool.false_eq_true, if_false, Bool.not_false, Bool.true_and, Bool.and_true, Bool.or_true, if_true, Bool.false_or]
        · rw [List.drop_eq_nil_of_le hl1, wholeP_no (by rw [decide_eq_false (by omega), Bool.false_and]), hn]
          simp only [pfxR, Bool.false_or]
  · rw [List.drop_eq_nil_of_le hl]
    have : dgA s fr = false := by unfold dgA; rw [decide_eq_false (by omega), Bool.false_and]
    rw [this]; rfl

/- The document's Prefix: its loop and contract. -/

theorem eq46 (c : UInt8) : (((c.toNat : Nat) : Int) == 46) = (c == 46) := by
  have h := ne46 c
  rw [bne, bne] at h
  exact Bool.not_inj h
theorem gtN (i fr : Nat) : decide ((i : Int) > (fr : Int)) = decide (fr < i) := by
  by_cases h : fr < i
  · rw [decide_eq_true h, decide_eq_true (by omega)]
  · rw [decide_eq_false h, decide_eq_false (by omega)]
theorem eqN0 (fr : Nat) : ((fr : Int) == 0) = (fr == 0) := by
  by_cases h : fr = 0
  · subst h; rfl
  · have h1 : (fr == 0) = false := by simpa using h
    have h2 : ((fr : Int) == 0) = false := by rw [beq_eq_false_iff_ne]; omega
    rw [h1, h2]
def V43 (s : List UInt8) (fr : Nat) : Nat := pfxR fr (s.getD fr 0) (s.drop fr) fr false false 0
def K43 (s : List UInt8) (fr : Nat) (e : AExit) (st : St) : Prop := ∃ b : Bool, (e, st) = if b then (AExit.exit 0, (envOf 76 [(3, .int .i64 (V43 s fr))], [])) else (AExit.ret, (envOf 76 [(2, .int .i64 (V43 s fr))], []))
theorem loop43 (s : List UInt8) (hs : s.length ≤ 1099511627776) (fr : Nat) (hfr : fr ≤ s.length) : W Tryd.prog (tbS Q tb43) 0 (.inl (.loop p43_l0)) (q43 s 0 fr false false fr) (K43 s fr) := by
  have hcw : CwOK (tbS Q tb43) (tbW Q tb43) := tbW_ok rfl
  have main := W_roundsG (P := Tryd.prog) (S := tbS Q tb43) (b0 := 0) (a := p43_l0) (fun p : Nat × Bool × Bool × Nat => q43 s p.2.2.2 p.1 p.2.1 p.2.2.1 fr)
    (fun p => fr ≤ p.1 ∧ p.1 ≤ s.length ∧ pfxR fr (s.getD fr 0) (s.drop p.1) p.1 p.2.1 p.2.2.1 p.2.2.2 = V43 s fr) (fun p => s.length - p.1) (fun _ => K43 s fr) ?_ (fr, false, false, 0) ⟨Nat.le_refl _, hfr, rfl⟩
  · exact main
  · rintro ⟨i, sm, pt, best⟩ ⟨h1, h2, h3⟩
    simp only at h1 h2 h3
    refine W_wpX (C := C43l) hcw (by intro x hx; cases hx) (n := 80) (tn := t43) (tx := x43) (tr := r43) ((v43b s best i sm pt fr _).mp ?_)
    rcases Nat.lt_or_ge i s.length with hi | hi
    · rw [drop_cons hi] at h3
      simp only [pfxR] at h3
      have w1 : IntKind.wrap .i64 ((i : Int) + 1) = ((i + 1 : Nat) : Int) := by rw [IntKind.wrap_i64]; omega
      refine askT (decide_eq_true (by omega)) (chkI (decide_eq_true hi) ?_)
      have hd := isD_at (s.getD i 0)
      have hret : best = V43 s fr → K43 s fr .ret (envOf 76 [(2, .int .i64 (best : Int))], []) := fun h => ⟨false, by rw [h]; rfl⟩
      have hgo : ∀ (sm' pt' : Bool) (b' : Nat), pfxR fr (s.getD fr 0) (s.drop (i + 1)) (i + 1) sm' pt' b' = V43 s fr →
          ∃ s' : Nat × Bool × Bool × Nat, ((envOf 76 [(0, .str s), (3, .int .i64 (b' : Int)), (4, .int .i64 ((i + 1 : Nat) : Int)), (5, .bool sm'), (6, .bool pt'), (7, .int .i64 (fr : Int))], []) : St) = q43 s s'.2.2.2 s'.1 s'.2.1 s'.2.2.1 fr ∧ (fr ≤ s'.1 ∧ s'.1 ≤ s.length ∧ pfxR fr (s.getD fr 0) (s.drop s'.1) s'.1 s'.2.1 s'.2.2.1 s'.2.2.2 = V43 s fr) ∧ s.length - s'.1 < s.length - i ∧ ∀ e st, K43 s fr e st → K43 s fr e st :=
        fun sm' pt' b' h => ⟨(i + 1, sm', pt', b'), rfl, ⟨by show fr ≤ i + 1; omega, by show i + 1 ≤ s.length; omega, h⟩, by show s.length - (i + 1) < s.length - i; omega, fun _ _ h => h⟩
      have hlt : decide (fr < s.length) = true := decide_eq_true (by omega)
      rw [w1]
      simp only [eq46, ne48, eq48, gtN, eqN0, hlt]
      generalize hc1 : (s.getD i 0 == 46) = q1 at h3 ⊢
      generalize hc2 : (s.getD i 0 != 48) = q2 at h3 ⊢
      generalize hc3 : decide (fr < i) = q3 at h3 ⊢
      generalize hc4 : (s.getD fr 0 == 48) = q4 at h3 ⊢
      generalize hc5 : (fr == 0) = q5 at h3 ⊢
      generalize hc6 : isD (s.getD i 0) = q6 at h3 hd
      cases sm <;> cases pt <;> cases q1 <;> cases q3 <;> cases q6 <;>
        first
        | exact hgo _ _ _ h3
        | exact ⟨_, hd, hret h3⟩
        | (refine ⟨_, hd, ?_⟩
           first
           | exact hgo _ _ _ h3
           | exact hret h3
           | (cases q4 <;> first
              | exact hret h3
              | exact hgo _ _ _ h3
              | (cases q2 <;> first
                 | exact hgo _ _ _ h3
                 | (cases q5 <;> exact hgo _ _ _ h3)))
           | (cases q2 <;> first
              | exact hgo _ _ _ h3
              | (cases q5 <;> exact hgo _ _ _ h3)))
    · rw [List.drop_eq_nil_of_le hi] at h3
      refine askF (decide_eq_false (by omega)) ⟨true, ?_⟩
      have h3' : best = V43 s fr := h3
      rw [h3']; rfl
theorem V43_one (s : List UInt8) (h : (decide (0 < s.length) && s.getD 0 0 == 45) = true) : V43 s 1 = prefixF s := by
  rw [pfx_neg h]; exact pfx_start
theorem V43_zero (s : List UInt8) (h : (decide (0 < s.length) && s.getD 0 0 == 45) = false) : V43 s 0 = prefixF s := by
  rw [pfx_pos h]; exact pfx_start
theorem refPrefix_ok : QuietOK Tryd.prog 43 fun vs _ => sPrefix vs := quiet_plain ht43 fun args v h => by
  unfold sPrefix at h
  split at h
  · rename_i s
    split at h
    · rename_i hs
      cases h
      refine ⟨rfl, rfl, ?_⟩
      have hS : (tbS Q tb43).OK Tryd.prog := tbS_ok quietText (by
        intro x hx
        simp only [tb43, List.mem_cons, List.not_mem_nil, or_false] at hx
        subst hx
        exact isD_ok)
      obtain ⟨u, h', rfl, hsem⟩ := sem_vc mixed (C := C43 s) hS (tbS_q _ _) (tbW_ok rfl) ht43 c43 (one_part rfl (part_loop (id := 6) rfl rfl fun st K hT => by
        obtain ⟨fr, rfl, hfr, hk⟩ := hT
        refine W_mono (loop43 s hs fr hfr) fun e st he => ?_
        obtain ⟨b, hb⟩ := he
        have hkb := hk b
        cases b <;> cases hb <;> exact hkb)) (v43 s fun u _ => u = .int .i64 (prefixF s)) (by
          refine askI (fun g1 => ?_) fun g1 => ?_
          · simp only [decide_eq_true_eq] at g1
            have hl : 0 < s.length := by omega
            refine chkI (decide_eq_true hl) ?_
            rw [eq45]
            refine askI (fun g2 => ?_) fun g2 => ?_
            · have hv := V43_one s (by rw [decide_eq_true hl, g2]; rfl)
              rw [← hv]
              exact ⟨1, rfl, by omega, fun e => by cases e <;> rfl⟩
            · have hv := V43_zero s (by rw [g2, Bool.and_false])
              rw [← hv]
              exact ⟨0, rfl, by omega, fun e => by cases e <;> rfl⟩
          · simp only [decide_eq_false_iff_not] at g1
            have hv := V43_zero s (by rw [decide_eq_false (by omega), Bool.false_and])
            rw [← hv]
            exact ⟨0, rfl, by omega, fun e => by cases e <;> rfl⟩)
      exact ⟨h', hsem⟩
    · cases h
  · cases h

/- The number of a text: Cut, Parse: what they come to; shapes of their runs. -/

def cut1 (s : List UInt8) (c : UInt8) : List UInt8 × List UInt8 × Bool :=
  if Lib.indexByte s c ≥ 0 then (s.take (Lib.indexByte s c).toNat, s.drop ((Lib.indexByte s c).toNat + 1), true) else (s, [], false)
def sCut : List AV → Option AV
  | [.str s, .str [c]] => if s.length ≤ 1099511627776 then some (.tup [.str (cut1 s c).1, .str (cut1 s c).2.1, .bool (cut1 s c).2.2]) else none
  | _ => none
def tb61 : List TbE := [⟨73, fun vs _ => sIndexOne vs, .of (.one (.int .i64))⟩]
def tb51 : List TbE := [⟨61, fun vs _ => sCut vs, .tup [.one .str, .one .str, .one .bool]⟩]
def digX (w d : List UInt8) : List UInt8 := if (Lib.trimLeftB (w ++ d) 48 == []) = true then [48] else Lib.trimLeftB (w ++ d) 48
def parseWD (neg : Bool) (w d : List UInt8) : Bool × Int × Int × Int :=
  if d.length > 18 then (false, 0, 0, 31)
  else if ((parseN (digX w d)).2 != 0) = true then (false, 0, 0, (parseN (digX w d)).2)
  else (neg, (parseN (digX w d)).1, d.length, 0)
def parseD (s : List UInt8) : Bool × Int × Int × Int :=
  if ((s == []) || ((prefixF s : Int) != (s.length : Int))) = true then (false, 0, 0, 30)
  else parseWD (Lib.hasPrefix s [45]) (cut1 (Lib.trimPrefix s [45]) 46).1 (cut1 (Lib.trimPrefix s [45]) 46).2.1
def decV (neg : Bool) (v sc : Int) : AV := .agg (.bool neg :: (limbs v ++ [.int .i64 sc]))
def sParseD : List AV → Option AV
  | [.str s] => if s.length ≤ 1048577 then some (.tup [decV (parseD s).1 (parseD s).2.1 (parseD s).2.2.1, .int .i64 (parseD s).2.2.2]) else none
  | _ => none
def tb38 : List TbE := [⟨37, fun vs _ => sPrefix vs, .of (.one (.int .i64))⟩, ⟨50, fun vs _ => sCutPrefix vs, .tup [.one .str, .one .bool]⟩, ⟨51, fun vs _ => sCut vs, .tup [.one .str, .one .str, .one .bool]⟩, ⟨52, fun vs _ => sTrimLeft vs, .of (.one .str)⟩, ⟨53, fun vs _ => sParseN vs, .tup [ag4, .one (.int .i64)]⟩]

/- What Cut's and Parse's code must meet: written by vcgen.py. -/
theorem v61 (s : List UInt8) (c : UInt8) (R : AV → AHeap → Prop) : (∃ (n : Int), some (AV.int .i64 (Lib.indexByte s c)) = some (AV.int .i64 n) ∧ askB (decide (n ≥ 0)) (chkW (decide (0 ≤ n)) (chkW (decide (n ≤ (↑(List.length s) : Int))) (chkW (decide (0 ≤ IntKind.wrap .i64 (n + (↑(List.length [c]) : Int)))) (chkW (decide (IntKind.wrap .i64 (n + (↑(List.length [c]) : Int)) ≤ (↑(List.length s) : Int))) (R (AV.tup [AV.str (List.drop 0 (List.take (Int.toNat n) s)), AV.str (List.drop (Int.toNat (IntKind.wrap .i64 (n + (↑(List.length [c]) : Int)))) (List.take (List.length s) s)), AV.bool true]) []))))) (R (AV.tup [AV.str s, AV.str [], AV.bool false]) [])) = (wpF Tryd.prog (tbC Q tb61 (fun _ => false) kdI) 40 p61 [.str s, .str [c]] [] R) := by kernel_rfl
theorem v51 (s : List UInt8) (c : UInt8) (R : AV → AHeap → Prop) : (∃ (s_1 : List UInt8), ∃ (s_2 : List UInt8), ∃ (b : Bool), sCut [AV.str s, AV.str [c]] = some (AV.tup [AV.str s_1, AV.str s_2, AV.bool b]) ∧ askB b (R (AV.tup [AV.str s_1, AV.str s_2, AV.bool true]) []) (R (AV.tup [AV.str s_1, AV.str s_2, AV.bool false]) [])) = (wpF Tryd.prog (tbC Q tb51 (fun _ => false) kdI) 40 p51 [.str s, .str [c]] [] R) := by kernel_rfl
theorem v38 (s : List UInt8) (R : AV → AHeap → Prop) : (askB (s == []) (R (AV.tup [AV.agg [AV.bool false, AV.int .u64 0, AV.int .u64 0, AV.int .u64 0, AV.int .u64 0, AV.int .i64 0], AV.int .i64 30]) [AObj.row 37 6 [AV.bool false, AV.int .u64 0, AV.int .u64 0, AV.int .u64 0, AV.int .u64 0, AV.int .i64 0]]) (∃ (n : Int), sPrefix [AV.str s] = some (AV.int .i64 n) ∧ askB (n != (↑(List.length s) : Int)) (R (AV.tup [AV.agg [AV.bool false, AV.int .u64 0, AV.int .u64 0, AV.int .u64 0, AV.int .u64 0, AV.int .i64 0], AV.int .i64 30]) [AObj.row 37 6 [AV.bool false, AV.int .u64 0, AV.int .u64 0, AV.int .u64 0, AV.int .u64 0, AV.int .i64 0]]) (∃ (s_1 : List UInt8), ∃ (b : Bool), some (AV.tup [AV.str (Lib.trimPrefix s (Array.toList (ByteArray.data { data := #[45] }))), AV.bool (Lib.hasPrefix s (Array.toList (ByteArray.data { data := #[45] })))]) = some (AV.tup [AV.str s_1, AV.bool b]) ∧ askB b (∃ (s : List UInt8), ∃ (s_2 : List UInt8), ∃ (b : Bool), sCut [AV.str s_1, AV.str [46]] = some (AV.tup [AV.str s, AV.str s_2, AV.bool b]) ∧ askB b (askB (decide ((↑(List.length s_2) : Int) > 18)) (R (AV.tup [AV.agg [AV.bool false, AV.int .u64 0, AV.int .u64 0, AV.int .u64 0, AV.int .u64 0, AV.int .i64 0], AV.int .i64 31]) [AObj.row 37 6 [AV.bool false, AV.int .u64 0, AV.int .u64 0, AV.int .u64 0, AV.int .u64 0, AV.int .i64 0]]) (chkW (decide (List.length s + List.length s_2 ≤ 9223372036854775807)) (∃ (s_3 : List UInt8), some (AV.str (Lib.trimLeftB (s ++ s_2) 48)) = some (AV.str s_3) ∧ askB (s_3 == []) (∃ (n : Int), ∃ (n_1 : Int), ∃ (n_2 : Int), ∃ (n_3 : Int), ∃ (n_4 : Int), some (AV.tup [AV.agg [AV.int .u64 0, AV.int .u64 0, AV.int .u64 0, AV.int .u64 0], AV.int .i64 0]) = some (AV.tup [AV.agg [AV.int .u64 n, AV.int .u64 n_1, AV.int .u64 n_2, AV.int .u64 n_3], AV.int .i64 n_4]) ∧ askB (n_4 != 0) (R (AV.tup [AV.agg [AV.bool false, AV.int .u64 0, AV.int .u64 0, AV.int .u64 0, AV.int .u64 0, AV.int .i64 0], AV.int .i64 n_4]) [AObj.row 37 6 [AV.bool false, AV.int .u64 0, AV.int .u64 0, AV.int .u64 0, AV.int .u64 0, AV.int .i64 0], AObj.row 35 4 [AV.int .u64 n, AV.int .u64 n_1, AV.int .u64 n_2, AV.int .u64 n_3]]) (R (AV.tup [AV.agg [AV.bool true, AV.int .u64 n, AV.int .u64 n_1, AV.int .u64 n_2, AV.int .u64 n_3, AV.int .i64 (↑(List.length s_2) : Int)], AV.int .i64 0]) [AObj.row 37 6 [AV.bool true, AV.int .u64 n, AV.int .u64 n_1, AV.int .u64 n_2, AV.int .u64 n_3, AV.int .i64 (↑(List.length s_2) : Int)], AObj.row 35 4 [AV.int .u64 n, AV.int .u64 n_1, AV.int .u64 n_2, AV.int .u64 n_3]])) (∃ (n : Int), ∃ (n_1 : Int), ∃ (n_2 : Int), ∃ (n_3 : Int), ∃ (n_4 : Int), sParseN [AV.str s_3] = some (AV.tup [AV.agg [AV.int .u64 n, AV.int .u64 n_1, AV.int .u64 n_2, AV.int .u64 n_3], AV.int .i64 n_4]) ∧ askB (n_4 != 0) (R (AV.tup [AV.agg [AV.bool false, AV.int .u64 0, AV.int .u64 0, AV.int .u64 0, AV.int .u64 0, AV.int .i64 0], AV.int .i64 n_4]) [AObj.row 37 6 [AV.bool false, AV.int .u64 0, AV.int .u64 0, AV.int .u64 0, AV.int .u64 0, AV.int .i64 0], AObj.row 35 4 [AV.int .u64 n, AV.int .u64 n_1, AV.int .u64 n_2, AV.int .u64 n_3]]) (R (AV.tup [AV.agg [AV.bool true, AV.int .u64 n, AV.int .u64 n_1, AV.int .u64 n_2, AV.int .u64 n_3, AV.int .i64 (↑(List.length s_2) : Int)], AV.int .i64 0]) [AObj.row 37 6 [AV.bool true, AV.int .u64 n, AV.int .u64 n_1, AV.int .u64 n_2, AV.int .u64 n_3, AV.int .i64 (↑(List.length s_2) : Int)], AObj.row 35 4 [AV.int .u64 n, AV.int .u64 n_1, AV.int .u64 n_2, AV.int .u64 n_3]]))))) (askB (decide ((↑(List.length s_2) : Int) > 18)) (R (AV.tup [AV.agg [AV.bool false, AV.int .u64 0, AV.int .u64 0, AV.int .u64 0, AV.int .u64 0, AV.int .i64 0], AV.int .i64 31]) [AObj.row 37 6 [AV.bool false, AV.int .u64 0, AV.int .u64 0, AV.int .u64 0, AV.int .u64 0, AV.int .i64 0]]) (chkW (decide (List.length s + List.length s_2 ≤ 9223372036854775807)) (∃ (s_3 : List UInt8), some (AV.str (Lib.trimLeftB (s ++ s_2) 48)) = some (AV.str s_3) ∧ askB (s_3 == []) (∃ (n : Int), ∃ (n_1 : Int), ∃ (n_2 : Int), ∃ (n_3 : Int), ∃ (n_4 : Int), some (AV.tup [AV.agg [AV.int .u64 0, AV.int .u64 0, AV.int .u64 0, AV.int .u64 0], AV.int .i64 0]) = some (AV.tup [AV.agg [AV.int .u64 n, AV.int .u64 n_1, AV.int .u64 n_2, AV.int .u64 n_3], AV.int .i64 n_4]) ∧ askB (n_4 != 0) (R (AV.tup [AV.agg [AV.bool false, AV.int .u64 0, AV.int .u64 0, AV.int .u64 0, AV.int .u64 0, AV.int .i64 0], AV.int .i64 n_4]) [AObj.row 37 6 [AV.bool false, AV.int .u64 0, AV.int .u64 0, AV.int .u64 0, AV.int .u64 0, AV.int .i64 0], AObj.row 35 4 [AV.int .u64 n, AV.int .u64 n_1, AV.int .u64 n_2, AV.int .u64 n_3]]) (R (AV.tup [AV.agg [AV.bool true, AV.int .u64 n, AV.int .u64 n_1, AV.int .u64 n_2, AV.int .u64 n_3, AV.int .i64 (↑(List.length s_2) : Int)], AV.int .i64 0]) [AObj.row 37 6 [AV.bool true, AV.int .u64 n, AV.int .u64 n_1, AV.int .u64 n_2, AV.int .u64 n_3, AV.int .i64 (↑(List.length s_2) : Int)], AObj.row 35 4 [AV.int .u64 n, AV.int .u64 n_1, AV.int .u64 n_2, AV.int .u64 n_3]])) (∃ (n : Int), ∃ (n_1 : Int), ∃ (n_2 : Int), ∃ (n_3 : Int), ∃ (n_4 : Int), sParseN [AV.str s_3] = some (AV.tup [AV.agg [AV.int .u64 n, AV.int .u64 n_1, AV.int .u64 n_2, AV.int .u64 n_3], AV.int .i64 n_4]) ∧ askB (n_4 != 0) (R (AV.tup [AV.agg [AV.bool false, AV.int .u64 0, AV.int .u64 0, AV.int .u64 0, AV.int .u64 0, AV.int .i64 0], AV.int .i64 n_4]) [AObj.row 37 6 [AV.bool false, AV.int .u64 0, AV.int .u64 0, AV.int .u64 0, AV.int .u64 0, AV.int .i64 0], AObj.row 35 4 [AV.int .u64 n, AV.int .u64 n_1, AV.int .u64 n_2, AV.int .u64 n_3]]) (R (AV.tup [AV.agg [AV.bool true, AV.int .u64 n, AV.int .u64 n_1, AV.int .u64 n_2, AV.int .u64 n_3, AV.int .i64 (↑(List.length s_2) : Int)], AV.int .i64 0]) [AObj.row 37 6 [AV.bool true, AV.int .u64 n, AV.int .u64 n_1, AV.int .u64 n_2, AV.int .u64 n_3, AV.int .i64 (↑(List.length s_2) : Int)], AObj.row 35 4 [AV.int .u64 n, AV.int .u64 n_1, AV.int .u64 n_2, AV.int .u64 n_3]])))))) (∃ (s : List UInt8), ∃ (s_2 : List UInt8), ∃ (b : Bool), sCut [AV.str s_1, AV.str [46]] = some (AV.tup [AV.str s, AV.str s_2, AV.bool b]) ∧ askB b (askB (decide ((↑(List.length s_2) : Int) > 18)) (R (AV.tup [AV.agg [AV.bool false, AV.int .u64 0, AV.int .u64 0, AV.int .u64 0, AV.int .u64 0, AV.int .i64 0], AV.int .i64 31]) [AObj.row 37 6 [AV.bool false, AV.int .u64 0, AV.int .u64 0, AV.int .u64 0, AV.int .u64 0, AV.int .i64 0]]) (chkW (decide (List.length s + List.length s_2 ≤ 9223372036854775807)) (∃ (s_3 : List UInt8), some (AV.str (Lib.trimLeftB (s ++ s_2) 48)) = some (AV.str s_3) ∧ askB (s_3 == []) (∃ (n : Int), ∃ (n_1 : Int), ∃ (n_2 : Int), ∃ (n_3 : Int), ∃ (n_4 : Int), some (AV.tup [AV.agg [AV.int .u64 0, AV.int .u64 0, AV.int .u64 0, AV.int .u64 0], AV.int .i64 0]) = some (AV.tup [AV.agg [AV.int .u64 n, AV.int .u64 n_1, AV.int .u64 n_2, AV.int .u64 n_3], AV.int .i64 n_4]) ∧ askB (n_4 != 0) (R (AV.tup [AV.agg [AV.bool false, AV.int .u64 0, AV.int .u64 0, AV.int .u64 0, AV.int .u64 0, AV.int .i64 0], AV.int .i64 n_4]) [AObj.row 37 6 [AV.bool false, AV.int .u64 0, AV.int .u64 0, AV.int .u64 0, AV.int .u64 0, AV.int .i64 0], AObj.row 35 4 [AV.int .u64 n, AV.int .u64 n_1, AV.int .u64 n_2, AV.int .u64 n_3]]) (R (AV.tup [AV.agg [AV.bool false, AV.int .u64 n, AV.int .u64 n_1, AV.int .u64 n_2, AV.int .u64 n_3, AV.int .i64 (↑(List.length s_2) : Int)], AV.int .i64 0]) [AObj.row 37 6 [AV.bool false, AV.int .u64 n, AV.int .u64 n_1, AV.int .u64 n_2, AV.int .u64 n_3, AV.int .i64 (↑(List.length s_2) : Int)], AObj.row 35 4 [AV.int .u64 n, AV.int .u64 n_1, AV.int .u64 n_2, AV.int .u64 n_3]])) (∃ (n : Int), ∃ (n_1 : Int), ∃ (n_2 : Int), ∃ (n_3 : Int), ∃ (n_4 : Int), sParseN [AV.str s_3] = some (AV.tup [AV.agg [AV.int .u64 n, AV.int .u64 n_1, AV.int .u64 n_2, AV.int .u64 n_3], AV.int .i64 n_4]) ∧ askB (n_4 != 0) (R (AV.tup [AV.agg [AV.bool false, AV.int .u64 0, AV.int .u64 0, AV.int .u64 0, AV.int .u64 0, AV.int .i64 0], AV.int .i64 n_4]) [AObj.row 37 6 [AV.bool false, AV.int .u64 0, AV.int .u64 0, AV.int .u64 0, AV.int .u64 0, AV.int .i64 0], AObj.row 35 4 [AV.int .u64 n, AV.int .u64 n_1, AV.int .u64 n_2, AV.int .u64 n_3]]) (R (AV.tup [AV.agg [AV.bool false, AV.int .u64 n, AV.int .u64 n_1, AV.int .u64 n_2, AV.int .u64 n_3, AV.int .i64 (↑(List.length s_2) : Int)], AV.int .i64 0]) [AObj.row 37 6 [AV.bool false, AV.int .u64 n, AV.int .u64 n_1, AV.int .u64 n_2, AV.int .u64 n_3, AV.int .i64 (↑(List.length s_2) : Int)], AObj.row 35 4 [AV.int .u64 n, AV.int .u64 n_1, AV.int .u64 n_2, AV.int .u64 n_3]]))))) (askB (decide ((↑(List.length s_2) : Int) > 18)) (R (AV.tup [AV.agg [AV.bool false, AV.int .u64 0, AV.int .u64 0, AV.int .u64 0, AV.int .u64 0, AV.int .i64 0], AV.int .i64 31]) [AObj.row 37 6 [AV.bool false, AV.int .u64 0, AV.int .u64 0, AV.int .u64 0, AV.int .u64 0, AV.int .i64 0]]) (chkW (decide (List.length s + List.length s_2 ≤ 9223372036854775807)) (∃ (s_3 : List UInt8), some (AV.str (Lib.trimLeftB (s ++ s_2) 48)) = some (AV.str s_3) ∧ askB (s_3 == []) (∃ (n : Int), ∃ (n_1 : Int), ∃ (n_2 : Int), ∃ (n_3 : Int), ∃ (n_4 : Int), some (AV.tup [AV.agg [AV.int .u64 0, AV.int .u64 0, AV.int .u64 0, AV.int .u64 0], AV.int .i64 0]) = some (AV.tup [AV.agg [AV.int .u64 n, AV.int .u64 n_1, AV.int .u64 n_2, AV.int .u64 n_3], AV.int .i64 n_4]) ∧ askB (n_4 != 0) (R (AV.tup [AV.agg [AV.bool false, AV.int .u64 0, AV.int .u64 0, AV.int .u64 0, AV.int .u64 0, AV.int .i64 0], AV.int .i64 n_4]) [AObj.row 37 6 [AV.bool false, AV.int .u64 0, AV.int .u64 0, AV.int .u64 0, AV.int .u64 0, AV.int .i64 0], AObj.row 35 4 [AV.int .u64 n, AV.int .u64 n_1, AV.int .u64 n_2, AV.int .u64 n_3]]) (R (AV.tup [AV.agg [AV.bool false, AV.int .u64 n, AV.int .u64 n_1, AV.int .u64 n_2, AV.int .u64 n_3, AV.int .i64 (↑(List.length s_2) : Int)], AV.int .i64 0]) [AObj.row 37 6 [AV.bool false, AV.int .u64 n, AV.int .u64 n_1, AV.int .u64 n_2, AV.int .u64 n_3, AV.int .i64 (↑(List.length s_2) : Int)], AObj.row 35 4 [AV.int .u64 n, AV.int .u64 n_1, AV.int .u64 n_2, AV.int .u64 n_3]])) (∃ (n : Int), ∃ (n_1 : Int), ∃ (n_2 : Int), ∃ (n_3 : Int), ∃ (n_4 : Int), sParseN [AV.str s_3] = some (AV.tup [AV.agg [AV.int .u64 n, AV.int .u64 n_1, AV.int .u64 n_2, AV.int .u64 n_3], AV.int .i64 n_4]) ∧ askB (n_4 != 0) (R (AV.tup [AV.agg [AV.bool false, AV.int .u64 0, AV.int .u64 0, AV.int .u64 0, AV.int .u64 0, AV.int .i64 0], AV.int .i64 n_4]) [AObj.row 37 6 [AV.bool false, AV.int .u64 0, AV.int .u64 0, AV.int .u64 0, AV.int .u64 0, AV.int .i64 0], AObj.row 35 4 [AV.int .u64 n, AV.int .u64 n_1, AV.int .u64 n_2, AV.int .u64 n_3]]) (R (AV.tup [AV.agg [AV.bool false, AV.int .u64 n, AV.int .u64 n_1, AV.int .u64 n_2, AV.int .u64 n_3, AV.int .i64 (↑(List.length s_2) : Int)], AV.int .i64 0]) [AObj.row 37 6 [AV.bool false, AV.int .u64 n, AV.int .u64 n_1, AV.int .u64 n_2, AV.int .u64 n_3, AV.int .i64 (↑(List.length s_2) : Int)], AObj.row 35 4 [AV.int .u64 n, AV.int .u64 n_1, AV.int .u64 n_2, AV.int .u64 n_3]]))))))))) = (wpF Tryd.prog (tbC Q tb38 (fun _ => false) kdI) 80 p38 [.str s] [] R) := by kernel_rfl

/- Cut at one letter: contracts. -/

theorem cut61_ok : QuietOK Tryd.prog 61 fun vs _ => sCut vs := quiet_plain ht61 fun args v h => by
  unfold sCut at h
  split at h
  · rename_i s c
    split at h
    · rename_i hs
      cases h
      refine ⟨rfl, rfl, ?_⟩
      have hS : (tbS Q tb61).OK Tryd.prog := tbS_ok quietText (by
        intro x hx
        simp only [tb61, List.mem_cons, List.not_mem_nil, or_false] at hx
        subst hx
        exact indexOne_ok)
      obtain ⟨i1, i2⟩ := ix_lt s c
      obtain ⟨u, h', rfl, hsem⟩ := sem_vc mixed (C := tbC Q tb61 (fun _ => false) kdI) hS (tbS_q _ _) (tbW_ok rfl) ht61 c61 (no_parts rfl) (v61 s c fun u _ => u = .tup [.str (cut1 s c).1, .str (cut1 s c).2.1, .bool (cut1 s c).2.2]) (by
        refine ⟨_, rfl, askI (fun g1 => ?_) fun g1 => ?_⟩
        · simp only [decide_eq_true_eq] at g1
          have hw : IntKind.wrap .i64 (Lib.indexByte s c + ((List.length [c] : Nat) : Int)) = Lib.indexByte s c + 1 := by
            have e : ((List.length [c] : Nat) : Int) = 1 := rfl
            rw [e, IntKind.wrap_i64]; omega
          rw [hw]
          refine chkI (decide_eq_true (by omega)) (chkI (decide_eq_true (by omega)) (chkI (decide_eq_true (by omega)) (chkI (decide_eq_true (by omega)) ?_)))
          unfold cut1
          rw [if_pos g1, List.drop_zero, List.take_of_length_le (Nat.le_refl _), show (Lib.indexByte s c + 1).toNat = (Lib.indexByte s c).toNat + 1 by omega]
        · simp only [decide_eq_false_iff_not] at g1
          unfold cut1
          rw [if_neg g1])
      exact ⟨h', hsem⟩
    · cases h
  · cases h
theorem cut_ok : QuietOK Tryd.prog 51 fun vs _ => sCut vs := quiet_plain ht51 fun args v h => by
  unfold sCut at h
  split at h
  · rename_i s c
    split at h
    · rename_i hs
      cases h
      refine ⟨rfl, rfl, ?_⟩
      have hS : (tbS Q tb51).OK Tryd.prog := tbS_ok quietText (by
        intro x hx
        simp only [tb51, List.mem_cons, List.not_mem_nil, or_false] at hx
        subst hx
        exact cut61_ok)
      obtain ⟨u, h', rfl, hsem⟩ := sem_vc mixed (C := tbC Q tb51 (fun _ => false) kdI) hS (tbS_q _ _) (tbW_ok rfl) ht51 c51 (no_parts rfl) (v51 s c fun u _ => u = .tup [.str (cut1 s c).1, .str (cut1 s c).2.1, .bool (cut1 s c).2.2]) (by
        refine ⟨(cut1 s c).1, (cut1 s c).2.1, (cut1 s c).2.2, if_pos hs, askI (fun g => by rw [g]) fun g => by rw [g]⟩)
      exact ⟨h', hsem⟩
    · cases h
  · cases h

/- Parse of dectext: its contract. -/

def decX (p : Bool × Int × Int × Int) : AV := .tup [decV p.1 p.2.1 p.2.2.1, .int .i64 p.2.2.2]
def X (s : List UInt8) : AV := decX (parseD s)
theorem cut1_len (s : List UInt8) (c : UInt8) : (cut1 s c).1.length ≤ s.length ∧ (cut1 s c).2.1.length ≤ s.length := by
  unfold cut1
  split
  · simp only [List.length_take, List.length_drop]; omega
  · simp
theorem trimP_len (s p : List UInt8) : (Lib.trimPrefix s p).length ≤ s.length := by
  unfold Lib.trimPrefix
  split
  · simp only [List.length_drop]; omega
  · exact Nat.le_refl _
theorem dropW_len (p : UInt8 → Bool) : ∀ l : List UInt8, (l.dropWhile p).length ≤ l.length
  | [] => Nat.le_refl _
  | a :: l => by
    rw [List.dropWhile_cons]
    split
    · exact Nat.le_trans (dropW_len p l) (Nat.le_succ _)
    · exact Nat.le_refl _
theorem trim_len (w d : List UInt8) (h : w.length + d.length ≤ 1099511627776) : (Lib.trimLeftB (w ++ d) 48).length ≤ 1099511627776 := by
  have := dropW_len (· == 48) (w ++ d)
  rw [List.length_append] at this
  unfold Lib.trimLeftB
  omega
theorem parseN_at {t : List UInt8} (h : t.length ≤ 1099511627776) : sParseN [.str t] = some (.tup [.agg (limbs (parseN t).1), .int .i64 (parseN t).2]) := if_pos h
theorem cut_at {t : List UInt8} {c : UInt8} (h : t.length ≤ 1099511627776) : sCut [.str t, .str [c]] = some (.tup [.str (cut1 t c).1, .str (cut1 t c).2.1, .bool (cut1 t c).2.2]) := if_pos h
theorem pfx_at {t : List UInt8} (h : t.length ≤ 1099511627776) : sPrefix [.str t] = some (.int .i64 (prefixF t)) := if_pos h
theorem pw_long {neg : Bool} {w d : List UInt8} (h : d.length > 18) : parseWD neg w d = (false, 0, 0, 31) := if_pos h
theorem pw_err {neg : Bool} {w d : List UInt8} (h : ¬ d.length > 18) (e : ((parseN (digX w d)).2 != 0) = true) : parseWD neg w d = (false, 0, 0, (parseN (digX w d)).2) := by
  unfold parseWD; rw [if_neg h, if_pos e]
theorem pw_ok {neg : Bool} {w d : List UInt8} (h : ¬ d.length > 18) (e : ((parseN (digX w d)).2 != 0) = false) : parseWD neg w d = ((neg, (parseN (digX w d)).1, (d.length : Int), 0) : Bool × Int × Int × Int) := by
  unfold parseWD; rw [if_neg h, if_neg (by rw [e]; decide)]
theorem parse_dec_ok : QuietOK Tryd.prog 38 fun vs _ => sParseD vs := quiet_plain ht38 fun args v h => by
  unfold sParseD at h
  split at h
  · rename_i s
    split at h
    · rename_i hs
      cases h
      refine ⟨rfl, rfl, ?_⟩
      have hS : (tbS Q tb38).OK Tryd.prog := tbS_ok quietText (by
        intro x hx
        simp only [tb38, List.mem_cons, List.not_mem_nil, or_false] at hx
        rcases hx with rfl | rfl | rfl | rfl | rfl
        · exact prefix_ok
        · exact cutPrefix_ok
        · exact cut_ok
        · exact trimLeft_ok
        · exact parse_ok)
      have c1 := trimP_len s [45]
      obtain ⟨c2, c3⟩ := cut1_len (Lib.trimPrefix s [45]) 46
      obtain ⟨u, h', rfl, hsem⟩ := sem_vc mixed (C := tbC Q tb38 (fun _ => false) kdI) hS (tbS_q _ _) (tbW_ok rfl) ht38 c38 (no_parts rfl) (v38 s fun u _ => u = X s) (by
        refine askI (fun e0 => ?_) fun e0 => ?_
        · show _ = X s
          unfold X parseD; rw [if_pos (by rw [e0]; rfl)]; rfl
        refine ⟨_, pfx_at (by omega), askI (fun e00 => ?_) fun e00 => ?_⟩
        · show _ = X s
          unfold X parseD; rw [if_pos (by rw [e00]; simp)]; rfl
        refine ⟨_, _, rfl, askI (fun eb => ?_) fun eb => ?_⟩
        · refine ⟨_, _, _, cut_at (t := Lib.trimPrefix s [45]) (by omega), ?_⟩
          have hW : (cut1 (Lib.trimPrefix s [45]) 46).1.length ≤ 1048577 := by omega
          have hD : (cut1 (Lib.trimPrefix s [45]) 46).2.1.length ≤ 1048577 := by omega
          have hp : X s = decX (parseWD true (cut1 (Lib.trimPrefix s [45]) 46).1 (cut1 (Lib.trimPrefix s [45]) 46).2.1) := by
            unfold X parseD; rw [if_neg (by rw [e0, e00]; decide), show Lib.hasPrefix s [45] = true from eb]
          clear eb
          revert hW hD hp
          generalize (cut1 (Lib.trimPrefix s [45]) 46).1 = Wh
          generalize (cut1 (Lib.trimPrefix s [45]) 46).2.1 = D
          intro hW hD hp
          refine askI (fun _ => ?_) fun _ => ?_
          · refine askI (fun e1 => ?_) fun e1 => ?_
            · simp only [decide_eq_true_eq] at e1
              rw [hp, pw_long (by omega)]; rfl
            simp only [decide_eq_false_iff_not] at e1
            have hd18 : ¬ D.length > 18 := by omega
            refine chkI (decide_eq_true (by omega)) ⟨_, rfl, askI (fun e2 => ?_) fun e2 => ?_⟩
            · have hx : digX Wh D = [48] := if_pos e2
              have h48 : parseN [48] = (0, 0) := by decide +kernel
              refine ⟨0, 0, 0, 0, 0, rfl, ?_⟩
              rw [hp, pw_ok hd18 (by rw [hx, h48]; rfl), hx, h48]; rfl
            · have hx : digX Wh D = Lib.trimLeftB (Wh ++ D) 48 := if_neg (by rw [e2]; decide)
              refine ⟨_, _, _, _, _, parseN_at (trim_len Wh D (by omega)), askI (fun e3 => ?_) fun e3 => ?_⟩
              · rw [hp, pw_err hd18 (by rw [hx]; exact e3), hx]; rfl
              · rw [hp, pw_ok hd18 (by rw [hx]; exact e3), hx]; rfl
          · refine askI (fun e1 => ?_) fun e1 => ?_
            · simp only [decide_eq_true_eq] at e1
              rw [hp, pw_long (by omega)]; rfl
            simp only [decide_eq_false_iff_not] at e1
            have hd18 : ¬ D.length > 18 := by omega
            refine chkI (decide_eq_true (by omega)) ⟨_, rfl, askI (fun e2 => ?_) fun e2 => ?_⟩
            · have hx : digX Wh D = [48] := if_pos e2
              have h48 : parseN [48] = (0, 0) := by decide +kernel
              refine ⟨0, 0, 0, 0, 0, rfl, ?_⟩
              rw [hp, pw_ok hd18 (by rw [hx, h48]; rfl), hx, h48]; rfl
            · have hx : digX Wh D = Lib.trimLeftB (Wh ++ D) 48 := if_neg (by rw [e2]; decide)
              refine ⟨_, _, _, _, _, parseN_at (trim_len Wh D (by omega)), askI (fun e3 => ?_) fun e3 => ?_⟩
              · rw [hp, pw_err hd18 (by rw [hx]; exact e3), hx]; rfl
              · rw [hp, pw_ok hd18 (by rw [hx]; exact e3), hx]; rfl
        · refine ⟨_, _, _, cut_at (t := Lib.trimPrefix s [45]) (by omega), ?_⟩
          have hW : (cut1 (Lib.trimPrefix s [45]) 46).1.length ≤ 1048577 := by omega
          have hD : (cut1 (Lib.trimPrefix s [45]) 46).2.1.length ≤ 1048577 := by omega
          have hp : X s = decX (parseWD false (cut1 (Lib.trimPrefix s [45]) 46).1 (cut1 (Lib.trimPrefix s [45]) 46).2.1) := by
            unfold X parseD; rw [if_neg (by rw [e0, e00]; decide), show Lib.hasPrefix s [45] = false from eb]
          clear eb
          revert hW hD hp
          generalize (cut1 (Lib.trimPrefix s [45]) 46).1 = Wh
          generalize (cut1 (Lib.trimPrefix s [45]) 46).2.1 = D
          intro hW hD hp
          refine askI (fun _ => ?_) fun _ => ?_
          · refine askI (fun e1 => ?_) fun e1 => ?_
            · simp only [decide_eq_true_eq] at e1
              rw [hp, pw_long (by omega)]; rfl
            simp only [decide_eq_false_iff_not] at e1
            have hd18 : ¬ D.length > 18 := by omega
            refine chkI (decide_eq_true (by omega)) ⟨_, rfl, askI (fun e2 => ?_) fun e2 => ?_⟩
            · have hx : digX Wh D = [48] := if_pos e2
              have h48 : parseN [48] = (0, 0) := by decide +kernel
              refine ⟨0, 0, 0, 0, 0, rfl, ?_⟩
              rw [hp, pw_ok hd18 (by rw [hx, h48]; rfl), hx, h48]; rfl
            · have hx : digX Wh D = Lib.trimLeftB (Wh ++ D) 48 := if_neg (by rw [e2]; decide)
              refine ⟨_, _, _, _, _, parseN_at (trim_len Wh D (by omega)), askI (fun e3 => ?_) fun e3 => ?_⟩
              · rw [hp, pw_err hd18 (by rw [hx]; exact e3), hx]; rfl
              · rw [hp, pw_ok hd18 (by rw [hx]; exact e3), hx]; rfl
          · refine askI (fun e1 => ?_) fun e1 => ?_
            · simp only [decide_eq_true_eq] at e1
              rw [hp, pw_long (by omega)]; rfl
            simp only [decide_eq_false_iff_not] at e1
            have hd18 : ¬ D.length > 18 := by omega
            refine chkI (decide_eq_true (by omega)) ⟨_, rfl, askI (fun e2 => ?_) fun e2 => ?_⟩
            · have hx : digX Wh D = [48] := if_pos e2
              have h48 : parseN [48] = (0, 0) := by decide +kernel
              refine ⟨0, 0, 0, 0, 0, rfl, ?_⟩
              rw [hp, pw_ok hd18 (by rw [hx, h48]; rfl), hx, h48]; rfl
            · have hx : digX Wh D = Lib.trimLeftB (Wh ++ D) 48 := if_neg (by rw [e2]; decide)
              refine ⟨_, _, _, _, _, parseN_at (trim_len Wh D (by omega)), askI (fun e3 => ?_) fun e3 => ?_⟩
              · rw [hp, pw_err hd18 (by rw [hx]; exact e3), hx]; rfl
              · rw [hp, pw_ok hd18 (by rw [hx]; exact e3), hx]; rfl
        )
      exact ⟨h', hsem⟩
    · cases h
  · cases h
end Go.Proofs.YtahdfjmdoljgiaaDoor
