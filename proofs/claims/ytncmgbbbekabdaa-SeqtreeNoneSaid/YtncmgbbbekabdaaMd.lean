/- Written by merging: Sj Sk Sl. -/
import Derived.Test.YtncmgbbbekabdaaMc
namespace Go.Proofs.Ytncmgbbbekabdaa
open Go Go.Am Go.RowKit
set_option maxRecDepth 100000
set_option maxHeartbeats 1000000
set_option linter.unusedVariables false
set_option linter.unusedSimpArgs false

def tabR : FuncId → Option PF
  | 7 => some p7
  | 9 => some p9
  | 14 => some p14
  | 16 => some p16
  | 18 => some p18
  | 25 => some p25
  | 28 => some p28
  | 31 => some p31
  | 35 => some p35
  | 36 => some p36
  | 39 => some p39
  | 41 => some p41
  | 42 => some p42
  | 43 => some p43
  | _ => none
theorem tabR_ok : TabOK Try.prog tabR Q := by
  intro g pf h
  unfold tabR at h
  split at h <;> cases h
  · exact ⟨_, ht7, c7⟩
  · exact ⟨_, ht9, c9⟩
  · exact ⟨_, ht14, c14⟩
  · exact ⟨_, ht16, c16⟩
  · exact ⟨_, ht18, c18⟩
  · exact ⟨_, ht25, c25⟩
  · exact ⟨_, ht28, c28⟩
  · exact ⟨_, ht31, c31⟩
  · exact ⟨_, ht35, c35⟩
  · exact ⟨_, ht36, c36⟩
  · exact ⟨_, ht39, c39⟩
  · exact ⟨_, ht41, c41⟩
  · exact ⟨_, ht42, c42⟩
  · exact ⟨_, ht43, c43⟩
def bqR : FuncId → Option (List AV → AHeap → Option AV)
  | 10 => some sLen
  | 11 => some sDeep
  | 22 => some sLooked
  | 24 => some sNone
  | 27 => some sSize
  | 40 => some sWeight
  | _ => none
theorem bqR_ok : ∀ g s, bqR g = some s → QuietOK Try.prog g s := by
  intro g s h
  unfold bqR at h
  split at h <;> cases h
  · exact len_ok
  · exact deep_ok
  · exact looked_ok
  · exact none_ok
  · exact size_ok
  · exact weight_ok
noncomputable def SR : Nat → Specs := Go.Am.runD Try.prog tabR Q bqR (fun _ => none) (fun _ _ => []) 300 2
theorem SR_ok (n : Nat) : (SR n).OK Try.prog ∧ ∀ g, ((SR n).q g).isSome = Q g := Go.Am.runD_ok mixed tabR_ok quietText bqR_ok (fun _ _ h => by cases h) _ _ _ n
theorem begun_run : (runF Try.prog (SR 10) (fun _ => []) 300 p8 [] []).map (·.1) = some (.bool true) := by kernel_rfl
theorem begun_ok : QuietOK Try.prog 8 fun vs _ => @ite _ (vs = []) (Classical.propDecidable _) (some (.bool true)) none := quiet_closed mixed (SR_ok 10).1 (SR_ok 10).2 ht8 c8 rfl rfl begun_run
def preE (vs : List AV) : Prop := vs = []
/-- begun says yes, and leaves memory as it was. -/
noncomputable def t8 : TbG := ⟨8, qS fun vs _ => @ite _ (vs = []) (Classical.propDecidable _) (some (.bool true)) none, fun vs h K => preE vs ∧ K (.bool true, h)⟩
theorem t8_ok : t8.OK := by
  intro vs h K hT
  obtain ⟨hv, hk⟩ := hT
  unfold preE at hv
  subst hv
  refine ⟨(.bool true, h), ?_, hk⟩
  simp [t8, qS]
theorem t8_full : FullOK Try.prog 8 t8.s := qS_full begun_ok
/-- At no tree. -/
noncomputable def tbN : List TbE := [⟨24, sNone, .of (.one (.lit (.bool true)))⟩, ⟨10, sLen, .of (.one i64)⟩]
theorem del_vcN (h : AHeap) (p : Option (Nat × Nat)) (x : Int) (R : AV → AHeap → Prop) : (TbE.s { f := 24, s := sNone, r := Rs.of (Rs1.one (K1.lit (AV.bool true))) } [AV.ptr p] h = some (AV.bool true) ∧ R (AV.tup [AV.int .i64 0, AV.int .i64 2]) h) = (wpF Try.prog (CT tbN [] []) 30 p16 [.ptr p, .int .i64 x] h R) := by kernel_rfl
theorem move_vcN (h : AHeap) (p : Option (Nat × Nat)) (x y : Int) (R : AV → AHeap → Prop) : (TbE.s { f := 24, s := sNone, r := Rs.of (Rs1.one (K1.lit (AV.bool true))) } [AV.ptr p] h = some (AV.bool true) ∧ R (AV.tup [AV.int .i64 0, AV.int .i64 2]) h) = (wpF Try.prog (CT tbN [] []) 30 p18 [.ptr p, .int .i64 x, .int .i64 y] h R) := by kernel_rfl
theorem at_vcN (h : AHeap) (p : Option (Nat × Nat)) (x : Int) (R : AV → AHeap → Prop) : (TbE.s { f := 24, s := sNone, r := Rs.of (Rs1.one (K1.lit (AV.bool true))) } [AV.ptr p] h = some (AV.bool true) ∧ R (AV.tup [AV.int .i64 0, AV.bool false]) h) = (wpF Try.prog (CT tbN [] []) 30 p13 [.ptr p, .int .i64 x] h R) := by kernel_rfl
theorem index_vcN (h : AHeap) (p : Option (Nat × Nat)) (x : Int) (R : AV → AHeap → Prop) : (TbE.s { f := 24, s := sNone, r := Rs.of (Rs1.one (K1.lit (AV.bool true))) } [AV.ptr p] h = some (AV.bool true) ∧ R (AV.tup [AV.int .i64 0, AV.bool false]) h) = (wpF Try.prog (CT tbN [] []) 30 p14 [.ptr p, .int .i64 x] h R) := by kernel_rfl
theorem ins_vcN (h : AHeap) (p : Option (Nat × Nat)) (x y : Int) (R : AV → AHeap → Prop) : (TbE.s { f := 24, s := sNone, r := Rs.of (Rs1.one (K1.lit (AV.bool true))) } [AV.ptr p] h = some (AV.bool true) ∧ R (AV.int .i64 2) h) = (wpF Try.prog (CT tbN [] []) 30 p9 [.ptr p, .int .i64 x, .int .i64 y] h R) := by kernel_rfl
theorem clone_vcN (h : AHeap) (p : Option (Nat × Nat)) (R : AV → AHeap → Prop) : (TbE.s { f := 24, s := sNone, r := Rs.of (Rs1.one (K1.lit (AV.bool true))) } [AV.ptr p] h = some (AV.bool true) ∧ R (AV.ptr none) h) = (wpF Try.prog (CT tbN [] []) 30 p23 [.ptr p] h R) := by kernel_rfl
theorem new_vc (h : AHeap) (R : AV → AHeap → Prop) : (chkW (isHole (h ++ List.replicate (1 + 1) AObj.hole) (List.length h)) (chkW (isHole (List.set (h ++ List.replicate (1 + 1) AObj.hole) (List.length h) (AObj.map [])) (List.length h + 1)) (R (AV.ptr (some (List.length h + 1, 0))) (List.set (List.set (h ++ List.replicate (1 + 1) AObj.hole) (List.length h) (AObj.map [])) (List.length h + 1) (AObj.row 58 (List.length (AV.cells (AV.agg [AV.ptr none, AV.map (some (List.length h)), AV.int .i64 0]))) (AV.cells (AV.agg [AV.ptr none, AV.map (some (List.length h)), AV.int .i64 0]))))))) = (wpF Try.prog (CT tbN [] []) 30 p7 [] h R) := by kernel_rfl
open Classical in
/-- A call that comes to just this, where so much holds. -/
noncomputable def TK (f : FuncId) (pre : List AV → AHeap → Prop) (out : List AV → AHeap → AV × AHeap) : TbG := ⟨f, fun vs h => if pre vs h then some (out vs h) else none, fun vs h K => pre vs h ∧ K (out vs h)⟩
theorem TK_ok {f : FuncId} {pre : List AV → AHeap → Prop} {out : List AV → AHeap → AV × AHeap} : (TK f pre out).OK := by
  intro vs h K hT
  obtain ⟨h1, h2⟩ := hT
  exact ⟨out vs h, by simp only [TK, if_pos h1], h2⟩
theorem TK_full {f : FuncId} {fn : Func} (hf : HasText Try.prog f fn) {pre : List AV → AHeap → Prop} {out : List AV → AHeap → AV × AHeap} (hs : ∀ vs h, pre vs h → CallSem Try.prog f vs h (out vs h).1 (out vs h).2) : FullOK Try.prog f (TK f pre out).s := by
  refine ⟨fun args h v h' he => ?_, fn, hf.1, hf.2.1, hf.2.2⟩
  simp only [TK] at he
  split at he
  · rename_i hp
    simp only [Option.some.injEq] at he
    have := hs args h hp
    rw [he] at this
    exact this
  · cases he
theorem tabsN : TabsOK tbN [] [] := by
  refine ⟨fun x hx => ?_, by kernel_rfl, fun _ h => (by cases h), fun _ h => (by cases h), fun _ h => (by cases h), rfl⟩
  simp only [tbN, List.mem_cons, List.not_mem_nil, or_false] at hx
  rcases hx with rfl | rfl
  · exact none_ok
  · exact len_ok
def pre1 (vs : List AV) (h : AHeap) : Prop := ∃ p, vs = [.ptr p] ∧ sNone [.ptr p] h = some (.bool true)
def pre2 (vs : List AV) (h : AHeap) : Prop := ∃ p x, vs = [.ptr p, .int .i64 x] ∧ sNone [.ptr p] h = some (.bool true)
def pre3 (vs : List AV) (h : AHeap) : Prop := ∃ p x y, vs = [.ptr p, .int .i64 x, .int .i64 y] ∧ sNone [.ptr p] h = some (.bool true)
noncomputable def t16 : TbG := TK 16 pre2 fun _ h => (.tup [.int .i64 0, .int .i64 2], h)
noncomputable def t18 : TbG := TK 18 pre3 fun _ h => (.tup [.int .i64 0, .int .i64 2], h)
noncomputable def t13 : TbG := TK 13 pre2 fun _ h => (.tup [.int .i64 0, .bool false], h)
noncomputable def t14 : TbG := TK 14 pre2 fun _ h => (.tup [.int .i64 0, .bool false], h)
noncomputable def t23 : TbG := TK 23 pre1 fun _ h => (.ptr none, h)
noncomputable def t7 : TbG := TK 7 (fun vs h => preE vs) fun _ h => (.ptr (some (h.length + 1, 0)), h ++ [.map [], .row 58 3 [.ptr none, .map (some h.length), .int .i64 0]])
theorem exact_sem {f : FuncId} {vs : List AV} {h : AHeap} {v : AV} {h' : AHeap} (hs : ∃ v1 h1, (v1 = v ∧ h1 = h') ∧ CallSem Try.prog f vs h v1 h1) : CallSem Try.prog f vs h v h' := by
  obtain ⟨_, _, ⟨rfl, rfl⟩, h⟩ := hs; exact h
theorem t16_full : FullOK Try.prog 16 t16.s := TK_full ht16 fun vs h hp => by
  obtain ⟨p, x, rfl, hn⟩ := hp
  exact exact_sem (sem tabsN ht16 c16 rfl (del_vcN h p x _) ⟨hn, rfl, rfl⟩)
theorem t18_full : FullOK Try.prog 18 t18.s := TK_full ht18 fun vs h hp => by
  obtain ⟨p, x, y, rfl, hn⟩ := hp
  exact exact_sem (sem tabsN ht18 c18 rfl (move_vcN h p x y _) ⟨hn, rfl, rfl⟩)
theorem t14_full : FullOK Try.prog 14 t14.s := TK_full ht14 fun vs h hp => by
  obtain ⟨p, x, rfl, hn⟩ := hp
  exact exact_sem (sem tabsN ht14 c14 rfl (index_vcN h p x _) ⟨hn, rfl, rfl⟩)
theorem semA {l : List TbE} {g : List TbG} {us : List FuncId} {ks : List (Nat × K1)} (h : TabsOK l g us) {f : FuncId} {fn : Func} {pf : PF} (hf : HasText Try.prog f fn) (hc : compF Try.prog Q fn = some pf) {n : Nat} {args : List AV} {hp : AHeap} {R : AV → AHeap → Prop} {A : Prop} (he : A = wpF Try.prog (CU l g us ks) n pf args hp R) (ha : A) : ∃ v h', R v h' ∧ CallSem Try.prog f args hp v h' :=
  sem_vc mixed (SU_ok h) CU_q (CU_cw h) hf hc (fun x _ => part_none (fun _ => rfl) (fun _ => rfl) x (fun _ => rfl)) he ha
theorem t13_full : FullOK Try.prog 13 t13.s := TK_full ht13 fun vs h hp => by
  obtain ⟨p, x, rfl, hn⟩ := hp
  exact exact_sem (semA tabsN ht13 c13 (at_vcN h p x _) ⟨hn, rfl, rfl⟩)
theorem t23_full : FullOK Try.prog 23 t23.s := TK_full ht23 fun vs h hp => by
  obtain ⟨p, rfl, hn⟩ := hp
  exact exact_sem (semA tabsN ht23 c23 (clone_vcN h p _) ⟨hn, rfl, rfl⟩)
theorem ins_none {h : AHeap} {p : Option (Nat × Nat)} {x y : Int} (hn : sNone [.ptr p] h = some (.bool true)) : CallSem Try.prog 9 [.ptr p, .int .i64 x, .int .i64 y] h (.int .i64 2) h :=
  exact_sem (semA tabsN ht9 c9 (ins_vcN h p x y _) ⟨hn, rfl, rfl⟩)
theorem t7_full : FullOK Try.prog 7 t7.s := TK_full ht7 fun vs h hp => by
  unfold preE at hp
  subst hp
  refine exact_sem (semA tabsN ht7 c7 (new_vc h _) (chkI (by simp [isHole]) (chkI ?_ ⟨rfl, ?_⟩)))
  · rw [repl2, set_b0]; unfold isHole; rw [get_b1]; rfl
  · rw [repl2, set_b0, set_b1]; rfl
noncomputable def run9 (vs : List AV) (h : AHeap) : Option (AV × AHeap) := runF Try.prog (SR 8) (fun _ => []) 300 p9 vs h
open Classical in
noncomputable def t9 : TbG := ⟨9, fun vs h => if pre3 vs h then some (.int .i64 2, h) else run9 vs h, fun vs h K => match sNone (vs.take 1) h with
  | some (.bool true) => pre3 vs h ∧ K (.int .i64 2, h)
  | some (.bool false) => match run9 vs h with
    | some r => K r
    | none => False
  | _ => False⟩
theorem run9_full : FullOK Try.prog 9 run9 := full_of_body mixed (SR_ok 8).1 ht9 (fun args h v h' he => ⟨_, _, runF_sound (SR_ok 8).2 c9 he⟩)
theorem t9_full : FullOK Try.prog 9 t9.s := by
  refine ⟨fun args h v h' he => ?_, _, ht9.1, ht9.2.1, ht9.2.2⟩
  simp only [t9] at he
  split at he
  · rename_i hp
    obtain ⟨p, x, y, rfl, hn⟩ := hp
    simp only [Option.some.injEq, Prod.mk.injEq] at he
    obtain ⟨rfl, rfl⟩ := he
    exact ins_none hn
  · exact run9_full.1 args h v h' he
theorem t9_ok : t9.OK := by
  intro vs h K hT
  have hT' : (match sNone (vs.take 1) h with
    | some (.bool true) => pre3 vs h ∧ K (.int .i64 2, h)
    | some (.bool false) => match run9 vs h with
      | some r => K r
      | none => False
    | _ => False) := hT
  split at hT'
  · obtain ⟨h1, h2⟩ := hT'
    exact ⟨_, by simp only [t9, if_pos h1], h2⟩
  · rename_i hn
    split at hT'
    · rename_i r hr
      have : ¬ pre3 vs h := fun ⟨p, x, y, hv, hp⟩ => by
        subst hv
        rw [show List.take 1 [AV.ptr p, .int .i64 x, .int .i64 y] = [.ptr p] from rfl, hp] at hn
        cases hn
      exact ⟨r, by simp only [t9, if_neg this, hr], hT'⟩
    · cases hT'
  · cases hT'
open Classical in
noncomputable def t15 : TbG := ⟨15, fun vs h => if sNone vs h = some (.bool true) then some (V15 h.length, h ++ [.row 39 1 [.sl none 0 (.fix 0)]]) else csem Try.prog 15 V15 P15 vs h,
  fun vs h K => match sNone vs h with
  | some (.bool true) => K (V15 h.length, h ++ [.row 39 1 [.sl none 0 (.fix 0)]])
  | some (.bool false) => ComesTo Try.prog 15 V15 P15 vs h ∧ ∀ c h', P15 vs h c h' → K (V15 c, h')
  | _ => False⟩
theorem t15_full : FullOK Try.prog 15 t15.s := by
  refine ⟨fun args h v h' he => ?_, _, ht15.1, ht15.2.1, ht15.2.2⟩
  simp only [t15] at he
  split at he
  · rename_i hp
    simp only [Option.some.injEq, Prod.mk.injEq] at he
    obtain ⟨rfl, rfl⟩ := he
    have : ∃ p, args = [p] := by
      unfold sNone at hp
      split at hp
      · exact ⟨_, rfl⟩
      · exact ⟨_, rfl⟩
      · cases hp
    obtain ⟨p, rfl⟩ := this
    exact all_none hp
  · exact (csem_full ht15 V15 P15).1 args h v h' he
theorem t15_ok : t15.OK := by
  intro vs h K hT
  have hT' : (match sNone vs h with
    | some (.bool true) => K (V15 h.length, h ++ [.row 39 1 [.sl none 0 (.fix 0)]])
    | some (.bool false) => ComesTo Try.prog 15 V15 P15 vs h ∧ ∀ c h', P15 vs h c h' → K (V15 c, h')
    | _ => False) := hT
  split at hT'
  · rename_i h1
    exact ⟨_, by simp only [t15, if_pos h1], hT'⟩
  · rename_i h1
    obtain ⟨r, h3, h4⟩ := TC_ok Try.prog 15 V15 P15 vs h K hT'
    refine ⟨r, ?_, h4⟩
    have : ¬ sNone vs h = some (.bool true) := fun e => by rw [e] at h1; cases h1
    simp only [t15, if_neg this]
    exact h3
  · cases hT'
def pre17 (vs : List AV) (h : AHeap) : Prop := ∃ c, vs = [V15 c, .sl none 0 (.fix 0)] ∧ AllAt h c []
noncomputable def t17 : TbG := TK 17 pre17 fun _ h => (.bool true, rows17 h (.sl none 0 (.fix 0)) true 0)
theorem t17_full : FullOK Try.prog 17 t17.s := TK_full ht17 fun vs h hp => by
  obtain ⟨c, rfl, hc⟩ := hp
  obtain ⟨v, h', ⟨rfl, _, he⟩, hs⟩ := told_sem hc (.inl ⟨rfl, rfl⟩) (by simp)
  rw [he rfl] at hs
  exact hs
noncomputable def tq6 : List TbE := [⟨10, sLen, .of (.one (.lit (.int .i64 0)))⟩, ⟨11, sDeep, .of (.one (.lit (.int .i64 0)))⟩, ⟨22, sLooked, .of (.one (.lit (.int .i64 0)))⟩]
noncomputable def tg6 : List TbG := [t8, t16, t18, t13, t14, t23, t7, t9, t15, t17]
theorem tabs6 : TabsOK tq6 tg6 [] := by
  refine ⟨fun x hx => ?_, by kernel_rfl, fun x hx => ?_, fun x hx => ?_, fun _ h => (by cases h), rfl⟩
  · simp only [tq6, List.mem_cons, List.not_mem_nil, or_false] at hx
    rcases hx with rfl | rfl | rfl
    · exact len_ok
    · exact deep_ok
    · exact looked_ok
  · simp only [tg6, List.mem_cons, List.not_mem_nil, or_false] at hx
    rcases hx with rfl | rfl | rfl | rfl | rfl | rfl | rfl | rfl | rfl | rfl
    · exact t8_full
    · exact t16_full
    · exact t18_full
    · exact t13_full
    · exact t14_full
    · exact t23_full
    · exact t7_full
    · exact t9_full
    · exact t15_full
    · exact t17_full
  · simp only [tg6, List.mem_cons, List.not_mem_nil, or_false] at hx
    rcases hx with rfl | rfl | rfl | rfl | rfl | rfl | rfl | rfl | rfl | rfl
    · exact t8_ok
    · exact TK_ok
    · exact TK_ok
    · exact TK_ok
    · exact TK_ok
    · exact TK_ok
    · exact TK_ok
    · exact t9_ok
    · exact t15_ok
    · exact TK_ok
def e6 (t c : Nat) : List AV := envOf 135 [(2, .ptr (some (1, 0))), (13, .ptr (some (t, 0))), (129, .ptr (some (t, 0))), (130, V15 c)]
def T6 (st : St) (K : AExit → St → Prop) : Prop := ∃ t c H, st = (e6 t c, H) ∧ AllAt H c [5, 6] ∧ H[1]? = some (.row 4 1 [.bool false]) ∧ K .ret (e6 t c, H.set 1 (.row 4 1 [.bool true]))
noncomputable def C6 : Cfg where
  S := SU tq6 tg6 []
  sy := fun _ => false
  kd := kdOf []
  cw := tbWG Q tq6 tg6
  lw := fun _ => none
  gw := fun _ => none
  F := fun id => if id = 16 then ⟨dropT 135 [2, 13], .all⟩ else ⟨[], .all⟩
  b0 := 0
  rw := fun i => if i = 131 then some T6 else none

end Go.Proofs.Ytncmgbbbekabdaa
