/- Written by merging: Ca Cb. -/
import Derived.Test.YtfnlokknpldkgaaAmV
import Derived.Test.YtfnlokknpldkgaaAmHh
namespace Go.Proofs.Ytfnlokknpldkgaa
open Go Go.Am Go.RowKit
set_option maxRecDepth 100000
set_option maxHeartbeats 1000000
set_option linter.unusedVariables false
set_option linter.unusedSimpArgs false

theorem mixed : Try.prog.follows .mixedOrders = true := by kernel_rfl
theorem quietText : ∀ g, Q g = true → ∃ fn, HasText Try.prog g fn := by
  intro g hg
  simp only [Q, quiet, List.contains_eq_mem, List.mem_cons, List.not_mem_nil, or_false, decide_eq_true_eq] at hg
  rcases hg with rfl | rfl | rfl | rfl | rfl | rfl | rfl | rfl | rfl | rfl | rfl | rfl | rfl | rfl | rfl | rfl | rfl | rfl | rfl | rfl | rfl | rfl | rfl | rfl | rfl | rfl | rfl | rfl
  · exact ⟨_, ht8⟩
  · exact ⟨_, ht9⟩
  · exact ⟨_, ht12⟩
  · exact ⟨_, ht15⟩
  · exact ⟨_, ht16⟩
  · exact ⟨_, ht17⟩
  · exact ⟨_, ht20⟩
  · exact ⟨_, ht24⟩
  · exact ⟨_, ht25⟩
  · exact ⟨_, ht26⟩
  · exact ⟨_, ht27⟩
  · exact ⟨_, ht37⟩
  · exact ⟨_, ht38⟩
  · exact ⟨_, ht39⟩
  · exact ⟨_, ht41⟩
  · exact ⟨_, ht42⟩
  · exact ⟨_, ht43⟩
  · exact ⟨_, ht44⟩
  · exact ⟨_, ht46⟩
  · exact ⟨_, ht47⟩
  · exact ⟨_, ht63⟩
  · exact ⟨_, ht64⟩
  · exact ⟨_, ht65⟩
  · exact ⟨_, ht67⟩
  · exact ⟨_, ht68⟩
  · exact ⟨_, ht76⟩
  · exact ⟨_, ht77⟩
  · exact ⟨_, ht78⟩
def tabR : FuncId → Option PF
  | 9 => some p9
  | 11 => some p11
  | 12 => some p12
  | 14 => some p14
  | 15 => some p15
  | 18 => some p18
  | 24 => some p24
  | 25 => some p25
  | 26 => some p26
  | 27 => some p27
  | 36 => some p36
  | 37 => some p37
  | 38 => some p38
  | 39 => some p39
  | 41 => some p41
  | 42 => some p42
  | 43 => some p43
  | 44 => some p44
  | 45 => some p45
  | 46 => some p46
  | 47 => some p47
  | 63 => some p63
  | 64 => some p64
  | 65 => some p65
  | 66 => some p66
  | 67 => some p67
  | 68 => some p68
  | 76 => some p76
  | 77 => some p77
  | 78 => some p78
  | _ => none
theorem tabR_ok : TabOK Try.prog tabR Q := by
  intro g pf h
  unfold tabR at h
  split at h <;> cases h
  · exact ⟨_, ht9, c9⟩
  · exact ⟨_, ht11, c11⟩
  · exact ⟨_, ht12, c12⟩
  · exact ⟨_, ht14, c14⟩
  · exact ⟨_, ht15, c15⟩
  · exact ⟨_, ht18, c18⟩
  · exact ⟨_, ht24, c24⟩
  · exact ⟨_, ht25, c25⟩
  · exact ⟨_, ht26, c26⟩
  · exact ⟨_, ht27, c27⟩
  · exact ⟨_, ht36, c36⟩
  · exact ⟨_, ht37, c37⟩
  · exact ⟨_, ht38, c38⟩
  · exact ⟨_, ht39, c39⟩
  · exact ⟨_, ht41, c41⟩
  · exact ⟨_, ht42, c42⟩
  · exact ⟨_, ht43, c43⟩
  · exact ⟨_, ht44, c44⟩
  · exact ⟨_, ht45, c45⟩
  · exact ⟨_, ht46, c46⟩
  · exact ⟨_, ht47, c47⟩
  · exact ⟨_, ht63, c63⟩
  · exact ⟨_, ht64, c64⟩
  · exact ⟨_, ht65, c65⟩
  · exact ⟨_, ht66, c66⟩
  · exact ⟨_, ht67, c67⟩
  · exact ⟨_, ht68, c68⟩
  · exact ⟨_, ht76, c76⟩
  · exact ⟨_, ht77, c77⟩
  · exact ⟨_, ht78, c78⟩
noncomputable def SE (n : Nat) : Specs := runE Try.prog tabR Q (fun _ => none) (fun _ => none) (fun _ _ => ⟨[], .all⟩) 4000 6 n
theorem SE_ok (n : Nat) : (SE n).OK Try.prog ∧ ∀ g, ((SE n).q g).isSome = Q g := runE_ok mixed tabR_ok quietText (fun _ _ h => by cases h) (fun _ _ h => by cases h) _ _ _ n
theorem live_run : (runQ Try.prog (SE 12) (fun _ => ⟨[], .all⟩) 4000 p8 [] []).map (·.1) = some (.bool true) := by kernel_rfl
def i64 : K1 := .int .i64
/-- Kinds by places. -/
def kdOf (l : List (Nat × K1)) (t : Nat) : Kd := .one ((l.lookup t).getD .av)
/-- What is known: contracts by tables; the iterator; functions that do not mind a row that is not made. -/
noncomputable def SU (l : List TbE) (g : List TbG) (us : List FuncId) : Specs := { tbSG Q l g with u := fun f => us.contains f }
noncomputable def CU (l : List TbE) (g : List TbG) (us : List FuncId) (ks : List (Nat × K1)) : Cfg where
  S := SU l g us
  sy := fun _ => true
  kd := kdOf ks
  cw := tbWG Q l g
  lw := fun _ => none
  gw := fun _ => none
  F := fun _ => ⟨[], .all⟩
  b0 := 0
noncomputable def CT (l : List TbE) (g : List TbG) (ks : List (Nat × K1)) : Cfg := CU l g [] ks
/-- Tables whose contracts hold. -/
structure TabsOK (l : List TbE) (g : List TbG) (us : List FuncId) : Prop where
  q : ∀ x ∈ l, QuietOK Try.prog x.f x.s
  qq : l.all (fun x => Q x.f) = true
  f : ∀ x ∈ g, FullOK Try.prog x.f x.s
  t : ∀ x ∈ g, x.OK
  u : ∀ f ∈ us, ∀ s, (tbSG Q l g).f f = some s → Uni s
  uq : us.all (fun f => !Q f) = true
theorem SU_ok {l : List TbE} {g : List TbG} {us : List FuncId} (h : TabsOK l g us) : (SU l g us).OK Try.prog := by
  have h0 := tbSG_ok (P := Try.prog) (l := l) (lg := g) quietText h.q h.f
  refine ⟨h0.q, h0.f, fun f hf => ?_, fun f hf => ?_⟩
  · cases hf
  · have hm : f ∈ us := by simpa [SU] using hf
    refine ⟨?_, fun s hs => h.u f hm s hs⟩
    have hq := List.all_eq_true.1 h.uq f hm
    have := tbSG_q Q l g f
    show (tbSG Q l g).q f = none
    cases hx : (tbSG Q l g).q f with
    | none => rfl
    | some s => rw [hx] at this; simp [← this] at hq
theorem CU_cw {l : List TbE} {g : List TbG} {us : List FuncId} {ks : List (Nat × K1)} (h : TabsOK l g us) : CwOK (CU l g us ks).S (CU l g us ks).cw := by
  intro f T vs hp K hg hT
  exact tbWG_ok (Q := Q) h.qq h.t f T vs hp K hg hT
theorem CU_q {l : List TbE} {g : List TbG} {us : List FuncId} {ks : List (Nat × K1)} : ∀ f, ((CU l g us ks).S.q f).isSome = Q f := fun f => tbSG_q Q l g f
/-- A contract by what must be met. -/
theorem sem {l : List TbE} {g : List TbG} {us : List FuncId} {ks : List (Nat × K1)} (h : TabsOK l g us) {f : FuncId} {fn : Func} {pf : PF} (hf : HasText Try.prog f fn) (hc : compF Try.prog Q fn = some pf) (hpt : partsIn pf.body = []) {n : Nat} {args : List AV} {hp : AHeap} {R : AV → AHeap → Prop} {A : Prop} (he : A = wpF Try.prog (CU l g us ks) n pf args hp R) (ha : A) : ∃ v h', R v h' ∧ CallSem Try.prog f args hp v h' :=
  sem_vc mixed (SU_ok h) CU_q (CU_cw h) hf hc (no_parts hpt) he ha
theorem tabs0 : TabsOK [] [] [] := ⟨fun _ h => (by cases h), rfl, fun _ h => (by cases h), fun _ h => (by cases h), fun _ h => (by cases h), rfl⟩
theorem fld {h : AHeap} {k i : Nat} {t : TypeId} {s : Nat} {cs : List AV} {v : AV} (hk : h[k]? = some (.row t s cs)) (hi : cs[i]? = some v) : (Option.bind (cellsAt h k) fun (x : List AV) => partR none x i) = some v := by
  simp only [cellsAt, hk, Option.bind_some, objCells, partR]
  exact hi
open Classical in
/-- A call that comes to just this, where so much holds. -/
noncomputable def TK (f : FuncId) (pre : List AV → AHeap → Prop) (out : List AV → AHeap → AV × AHeap) : TbG := ⟨f, fun vs h => if pre vs h then some (out vs h) else none, fun vs h K => pre vs h ∧ K (out vs h)⟩
theorem TK_ok {f : FuncId} {pre : List AV → AHeap → Prop} {out : List AV → AHeap → AV × AHeap} : (TK f pre out).OK := by
  intro vs h K hT
  obtain ⟨h1, h2⟩ := hT
  exact ⟨out vs h, by simp only [TK, if_pos h1], h2⟩
theorem TK_full {f : FuncId} {fn : Func} (hf : HasText Try.prog f fn) {pre : List AV → AHeap → Prop} {out : List AV → AHeap → AV × AHeap} (hs : ∀ vs h, pre vs h → CallSem Try.prog f vs h (out vs h).1 (out vs h).2) : FullOK Try.prog f (TK f pre out).s := by
  refine ⟨fun args h v h' he => ?_, fn, hf.1, hf.2.1, hf.2.2⟩
  simp only [TK] at he
  split at he
  · rename_i hp
    simp only [Option.some.injEq] at he
    have := hs args h hp
    rw [he] at this
    exact this
  · cases he
theorem set_b0 (h l : AHeap) (x : AObj) : (h ++ l).set h.length x = h ++ l.set 0 x := by rw [List.set_append_right _ _ (Nat.le_refl _)]; simp
theorem set_b1 (h l : AHeap) (x : AObj) : (h ++ l).set (h.length + 1) x = h ++ l.set 1 x := by rw [List.set_append_right _ _ (by omega)]; simp
theorem set_b2 (h l : AHeap) (x : AObj) : (h ++ l).set (h.length + 1 + 1) x = h ++ l.set 2 x := by rw [List.set_append_right _ _ (by omega)]; congr 2; omega
theorem get_b0 (h l : AHeap) : (h ++ l)[h.length]? = l[0]? := by rw [List.getElem?_append_right (Nat.le_refl _)]; simp
theorem get_b1 (h l : AHeap) : (h ++ l)[h.length + 1]? = l[1]? := by rw [List.getElem?_append_right (by omega)]; simp
theorem get_b2 (h l : AHeap) : (h ++ l)[h.length + 1 + 1]? = l[2]? := by rw [List.getElem?_append_right (by omega)]; congr 1; omega
theorem repl1 : List.replicate (0 + 1) AObj.hole = [.hole] := rfl
theorem repl2 : List.replicate (1 + 1) AObj.hole = [.hole, .hole] := rfl
theorem repl3 : List.replicate (2 + 1) AObj.hole = [.hole, .hole, .hole] := rfl
theorem len_b1 (h : AHeap) (x : AObj) : (h ++ [x]).length = h.length + 1 := by simp
theorem hs0 (h l : AHeap) (a y : AObj) : (h ++ a :: l).set h.length y = h ++ y :: l := by rw [set_b0]; rfl
theorem hs1 (h l : AHeap) (a b y : AObj) : (h ++ a :: b :: l).set (h.length + 1) y = h ++ a :: y :: l := by rw [set_b1]; rfl
theorem hs2 (h l : AHeap) (a b c y : AObj) : (h ++ a :: b :: c :: l).set (h.length + 1 + 1) y = h ++ a :: b :: y :: l := by rw [set_b2]; rfl
theorem hs3 (h l : AHeap) (a b c d y : AObj) : (h ++ a :: b :: c :: d :: l).set (h.length + 1 + 2) y = h ++ a :: b :: c :: y :: l := by rw [List.set_append_right _ _ (by omega), show h.length + 1 + 2 - h.length = 3 by omega]; rfl
theorem hg0 (h l : AHeap) (a : AObj) : (h ++ a :: l)[h.length]? = some a := by rw [get_b0]; rfl
theorem hg1 (h l : AHeap) (a b : AObj) : (h ++ a :: b :: l)[h.length + 1]? = some b := by rw [get_b1]; rfl
theorem hg2 (h l : AHeap) (a b c : AObj) : (h ++ a :: b :: c :: l)[h.length + 1 + 1]? = some c := by rw [get_b2]; rfl
theorem hg3 (h l : AHeap) (a b c d : AObj) : (h ++ a :: b :: c :: d :: l)[h.length + 1 + 2]? = some d := by rw [List.getElem?_append_right (by omega), show h.length + 1 + 2 - h.length = 3 by omega]; rfl
theorem ho0 (h l : AHeap) : isHole (h ++ .hole :: l) h.length = true := by unfold isHole; rw [hg0]
theorem ho1 (h l : AHeap) (a : AObj) : isHole (h ++ a :: .hole :: l) (h.length + 1) = true := by unfold isHole; rw [hg1]
theorem ho2 (h l : AHeap) (a b : AObj) : isHole (h ++ a :: b :: .hole :: l) (h.length + 1 + 1) = true := by unfold isHole; rw [hg2]
theorem ho3 (h l : AHeap) (a b c : AObj) : isHole (h ++ a :: b :: c :: .hole :: l) (h.length + 1 + 2) = true := by unfold isHole; rw [hg3]
theorem chkW_true (K : Prop) : chkW true K = K := rfl
theorem wrap_small {n : Int} (h1 : 0 ≤ n) (h2 : n < 9000000000000000000) : IntKind.wrap .i64 n = n := by rw [IntKind.wrap_i64]; omega
/-- What stands at the list's own row, whatever is put behind. -/
theorem row_app {h : AHeap} {k : Nat} {o : AObj} (hk : h[k]? = some o) (l : AHeap) : (h ++ l)[k]? = some o := by rw [List.getElem?_append_left (lt_of_row hk)]; exact hk
theorem fld_app {h : AHeap} {k : Nat} {t : TypeId} {s : Nat} {v : AV} (hk : h[k]? = some (.row t s [v])) (l : AHeap) : (Option.bind (cellsAt (h ++ l) k) fun (x : List AV) => partR none x 0) = some v := fld (row_app hk l) rfl
/-- What a call puts behind memory may be dropped. -/
theorem inv_prefix {B : Fr} {ρ ρ' : Rho} {h l : AHeap} {w0 w w1 : World} (hI : Inv ρ B w0 h w) (hI' : Inv ρ' B w0 (h ++ l) w1) (ha : ∀ i, live h i = true → ρ' i = ρ i) : Inv ρ B w0 h w1 := by
  have hg : ∀ (k : Nat) (o : AObj), h[k]? = some o → (h ++ l)[k]? = some o := fun k o hk => row_app hk l
  refine inv_agree (ρ' := ρ') ⟨hI'.below, hI'.size, fun k o hk => hI'.obj k o (hg k o hk), fun k k' o o' hk hk' => hI'.sep k k' o o' (hg k o hk) (hg k' o' hk'), fun k k' o cs hk hk' => hI'.sepr k k' o cs (hg k o hk) (hg k' _ hk'), fun k o hk => ?_⟩ ha
  exact refs_obj_mono (fun i hi => ⟨hi, by rw [ha i hi]⟩) (hI.wf k o hk)
/-- A contract of a function that reads memory and puts behind it what is not kept. -/
theorem quiet_behind {P : Program} {f : FuncId} {fn : Func} (hf : HasText P f fn) {s : List AV → AHeap → Option AV}
    (hs : ∀ args h v, s args h = some v → v.closed = true ∧ ∃ l, CallSem P f args h v (h ++ l))
    (hi : ∀ args h k o, h[k]? = some .hole → (∃ ρ : Rho, (∀ x ∈ args, AV.ok h ρ x) ∧ ∀ (j : Nat) (u : AObj), h[j]? = some u → u.refs (live h) (fun k => (ρ k).cap) = true) → s args (h.set k o) = s args h) : QuietOK P f s := by
  refine ⟨fun args h v hv ρ B w0 w hI hok => ?_, hi, fn, hf.1, hf.2.1, hf.2.2⟩
  obtain ⟨hc, l, hsem⟩ := hs args h v hv
  refine ⟨closed_ok hc _ _, (hsem ρ B w0 w hI hok).mono fun e w' ⟨ρ', h1, h2, h3, h4⟩ => ⟨by rw [h1, closed_real hc ρ' ρ], inv_prefix hI h2 fun i hi => (h3 i hi).2⟩⟩

end Go.Proofs.Ytfnlokknpldkgaa
