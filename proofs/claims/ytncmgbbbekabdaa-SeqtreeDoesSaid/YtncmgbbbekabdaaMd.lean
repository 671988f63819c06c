/- Written by merging: Sj Sk Sl. -/
import Derived.Test.YtncmgbbbekabdaaMc
namespace Go.Proofs.Ytncmgbbbekabdaa
open Go Go.Am Go.RowKit
set_option maxRecDepth 100000
set_option maxHeartbeats 1000000
set_option linter.unusedVariables false
set_option linter.unusedSimpArgs false

def tabR : FuncId → Option PF
  | 7 => some p7
  | 9 => some p9
  | 14 => some p14
  | 16 => some p16
  | 18 => some p18
  | 25 => some p25
  | 28 => some p28
  | 31 => some p31
  | 35 => some p35
  | 36 => some p36
  | 39 => some p39
  | 41 => some p41
  | 42 => some p42
  | 43 => some p43
  | _ => none
theorem tabR_ok : TabOK Try.prog tabR Q := by
  intro g pf h
  unfold tabR at h
  split at h <;> cases h
  · exact ⟨_, ht7, c7⟩
  · exact ⟨_, ht9, c9⟩
  · exact ⟨_, ht14, c14⟩
  · exact ⟨_, ht16, c16⟩
  · exact ⟨_, ht18, c18⟩
  · exact ⟨_, ht25, c25⟩
  · exact ⟨_, ht28, c28⟩
  · exact ⟨_, ht31, c31⟩
  · exact ⟨_, ht35, c35⟩
  · exact ⟨_, ht36, c36⟩
  · exact ⟨_, ht39, c39⟩
  · exact ⟨_, ht41, c41⟩
  · exact ⟨_, ht42, c42⟩
  · exact ⟨_, ht43, c43⟩
def bqR : FuncId → Option (List AV → AHeap → Option AV)
  | 10 => some sLen
  | 11 => some sDeep
  | 22 => some sLooked
  | 24 => some sNone
  | 27 => some sSize
  | 40 => some sWeight
  | _ => none
theorem bqR_ok : ∀ g s, bqR g = some s → QuietOK Try.prog g s := by
  intro g s h
  unfold bqR at h
  split at h <;> cases h
  · exact len_ok
  · exact deep_ok
  · exact looked_ok
  · exact none_ok
  · exact size_ok
  · exact weight_ok
noncomputable def SR : Nat → Specs := Go.Am.runD Try.prog tabR Q bqR (fun _ => none) (fun _ _ => []) 300 2
theorem SR_ok (n : Nat) : (SR n).OK Try.prog ∧ ∀ g, ((SR n).q g).isSome = Q g := Go.Am.runD_ok mixed tabR_ok quietText bqR_ok (fun _ _ h => by cases h) _ _ _ n
theorem begun_run : (runF Try.prog (SR 10) (fun _ => []) 300 p8 [] []).map (·.1) = some (.bool true) := by kernel_rfl
theorem begun_ok : QuietOK Try.prog 8 fun vs _ => @ite _ (vs = []) (Classical.propDecidable _) (some (.bool true)) none := quiet_closed mixed (SR_ok 10).1 (SR_ok 10).2 ht8 c8 rfl rfl begun_run
def preE (vs : List AV) : Prop := vs = []
/-- begun says yes, and leaves memory as it was. -/
noncomputable def t8 : TbG := ⟨8, qS fun vs _ => @ite _ (vs = []) (Classical.propDecidable _) (some (.bool true)) none, fun vs h K => preE vs ∧ K (.bool true, h)⟩
theorem t8_ok : t8.OK := by
  intro vs h K hT
  obtain ⟨hv, hk⟩ := hT
  unfold preE at hv
  subst hv
  refine ⟨(.bool true, h), ?_, hk⟩
  simp [t8, qS]
theorem t8_full : FullOK Try.prog 8 t8.s := qS_full begun_ok
/-- At no tree. -/
noncomputable def tbN : List TbE := [⟨24, sNone, .of (.one (.lit (.bool true)))⟩, ⟨10, sLen, .of (.one i64)⟩]
theorem new_vc (h : AHeap) (R : AV → AHeap → Prop) : (chkW (isHole (h ++ List.replicate (1 + 1) AObj.hole) (List.length h)) (chkW (isHole (List.set (h ++ List.replicate (1 + 1) AObj.hole) (List.length h) (AObj.map [])) (List.length h + 1)) (R (AV.ptr (some (List.length h + 1, 0))) (List.set (List.set (h ++ List.replicate (1 + 1) AObj.hole) (List.length h) (AObj.map [])) (List.length h + 1) (AObj.row 58 (List.length (AV.cells (AV.agg [AV.ptr none, AV.map (some (List.length h)), AV.int .i64 0]))) (AV.cells (AV.agg [AV.ptr none, AV.map (some (List.length h)), AV.int .i64 0]))))))) = (wpF Try.prog (CT tbN [] []) 30 p7 [] h R) := by kernel_rfl
open Classical in
/-- A call that comes to just this, where so much holds. -/
noncomputable def TK (f : FuncId) (pre : List AV → AHeap → Prop) (out : List AV → AHeap → AV × AHeap) : TbG := ⟨f, fun vs h => if pre vs h then some (out vs h) else none, fun vs h K => pre vs h ∧ K (out vs h)⟩
theorem TK_ok {f : FuncId} {pre : List AV → AHeap → Prop} {out : List AV → AHeap → AV × AHeap} : (TK f pre out).OK := by
  intro vs h K hT
  obtain ⟨h1, h2⟩ := hT
  exact ⟨out vs h, by simp only [TK, if_pos h1], h2⟩
theorem TK_full {f : FuncId} {fn : Func} (hf : HasText Try.prog f fn) {pre : List AV → AHeap → Prop} {out : List AV → AHeap → AV × AHeap} (hs : ∀ vs h, pre vs h → CallSem Try.prog f vs h (out vs h).1 (out vs h).2) : FullOK Try.prog f (TK f pre out).s := by
  refine ⟨fun args h v h' he => ?_, fn, hf.1, hf.2.1, hf.2.2⟩
  simp only [TK] at he
  split at he
  · rename_i hp
    simp only [Option.some.injEq] at he
    have := hs args h hp
    rw [he] at this
    exact this
  · cases he
theorem tabsN : TabsOK tbN [] [] := by
  refine ⟨fun x hx => ?_, by kernel_rfl, fun _ h => (by cases h), fun _ h => (by cases h), fun _ h => (by cases h), rfl⟩
  simp only [tbN, List.mem_cons, List.not_mem_nil, or_false] at hx
  rcases hx with rfl | rfl
  · exact none_ok
  · exact len_ok
noncomputable def t7 : TbG := TK 7 (fun vs h => preE vs) fun _ h => (.ptr (some (h.length + 1, 0)), h ++ [.map [], .row 58 3 [.ptr none, .map (some h.length), .int .i64 0]])
theorem exact_sem {f : FuncId} {vs : List AV} {h : AHeap} {v : AV} {h' : AHeap} (hs : ∃ v1 h1, (v1 = v ∧ h1 = h') ∧ CallSem Try.prog f vs h v1 h1) : CallSem Try.prog f vs h v h' := by
  obtain ⟨_, _, ⟨rfl, rfl⟩, h⟩ := hs; exact h
theorem semA {l : List TbE} {g : List TbG} {us : List FuncId} {ks : List (Nat × K1)} (h : TabsOK l g us) {f : FuncId} {fn : Func} {pf : PF} (hf : HasText Try.prog f fn) (hc : compF Try.prog Q fn = some pf) {n : Nat} {args : List AV} {hp : AHeap} {R : AV → AHeap → Prop} {A : Prop} (he : A = wpF Try.prog (CU l g us ks) n pf args hp R) (ha : A) : ∃ v h', R v h' ∧ CallSem Try.prog f args hp v h' :=
  sem_vc mixed (SU_ok h) CU_q (CU_cw h) hf hc (fun x _ => part_none (fun _ => rfl) (fun _ => rfl) x (fun _ => rfl)) he ha
theorem t7_full : FullOK Try.prog 7 t7.s := TK_full ht7 fun vs h hp => by
  unfold preE at hp
  subst hp
  refine exact_sem (semA tabsN ht7 c7 (new_vc h _) (chkI (by simp [isHole]) (chkI ?_ ⟨rfl, ?_⟩)))
  · rw [repl2, set_b0]; unfold isHole; rw [get_b1]; rfl
  · rw [repl2, set_b0, set_b1]; rfl
def e6 (t c : Nat) : List AV := envOf 135 [(2, .ptr (some (1, 0))), (13, .ptr (some (t, 0))), (129, .ptr (some (t, 0))), (130, V15 c)]

end Go.Proofs.Ytncmgbbbekabdaa
