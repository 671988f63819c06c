/- Written by merging: Ce Cf Cg. -/
import Derived.Test.YtfnlokknpldkgaaMb
import Derived.Test.YtfnlokknpldkgaaAmZc
import Derived.Test.YtfnlokknpldkgaaAmY
import Derived.OpenShut
import Derived.WideShapes
namespace Go.Proofs.Ytfnlokknpldkgaa
open Go Go.Am Go.RowKit Go.WideShapes
set_option maxRecDepth 100000
set_option linter.unusedVariables false
set_option linter.unusedSimpArgs false

theorem strs_get {h : AHeap} {k : Nat} {zs : List Tx} (hk : h[k]? = some (.row 9 1 (strs zs))) {j : Nat} {z : Tx} (hz : zs[j]? = some z) : (Option.bind (cellsAt h k) fun (x : List AV) => partR none x (0 + Int.toNat (j : Int) * 1)) = some (AV.str z) := by
  simp only [cellsAt, hk, Option.bind_some, objCells, partR, Int.toNat_natCast, Nat.mul_one, Nat.zero_add, strs, List.getElem?_map, hz, Option.map_some]
theorem idx_here {zs : List Tx} {i : Nat} {s : Tx} (hn : s ∉ zs.take i) (hz : zs[i]? = some s) : s ∈ zs ∧ zs.idxOf s = i := by
  obtain ⟨hlt, rfl⟩ := List.getElem?_eq_some_iff.1 hz
  have ed : zs = zs.take i ++ zs[i] :: zs.drop (i + 1) := by rw [← List.drop_eq_getElem_cons hlt, List.take_append_drop]
  refine ⟨List.getElem_mem hlt, ?_⟩
  generalize zs[i] = z at ed hn
  rw [ed, List.idxOf_append, if_neg hn, List.idxOf_cons_self, List.length_take]; omega
theorem not_next {zs : List Tx} {i : Nat} {s z : Tx} (hn : s ∉ zs.take i) (hz : zs[i]? = some z) (hne : s ≠ z) : s ∉ zs.take (i + 1) := by
  rw [List.take_add_one, hz]
  simp only [Option.toList_some, List.mem_append, List.mem_singleton, not_or]
  exact ⟨hn, hne⟩
def ixK (n : Nat) (zs : List Tx) (s : Tx) (h : AHeap) (e : AExit) (st : St) : Prop := (s ∈ zs ∧ e = .ret ∧ st = (envOf n [(4, .int .i64 (zs.idxOf s : Nat))], h)) ∨ (s ∉ zs ∧ e = .exit 0 ∧ st = (envOf n [], h))
theorem ix_loop {h : AHeap} {k : Nat} {c : ACap} {s : Tx} {zs : List Tx} {b : Nat} (h2 : h[k]? = some (.row 9 1 (strs zs))) (h3 : zs.length ≤ 1000000) (x : Nat × Nat) (hx : x.1 ≤ zs.length ∧ s ∉ zs.take x.1 ∧ x.2 = zs.length - x.1) :
    W Try.prog (SU [] [] []) b (.inl (.loop p63_l0)) (e63 k zs.length c s (x.1 : Nat), h) (ixK 19 zs s h) := by
  refine W_roundsX (C := B63 b) (CU_cw (ks := []) tabs0) (a := p63_l0) (no_parts rfl) (fun x : Nat × Nat => (e63 k zs.length c s (x.1 : Nat), h)) (fun x => x.1 ≤ zs.length ∧ s ∉ zs.take x.1 ∧ x.2 = zs.length - x.1) (fun x => x.2) (fun _ => ixK 19 zs s h) n63 x63 o63 ?_ x hx
  rintro ⟨i, mm⟩ ⟨hi, hn, hmm⟩
  refine ⟨40, ?_⟩
  dsimp only at hi hn hmm ⊢
  subst hmm
  rw [← ix_body]
  refine askI (fun hc => ?_) (fun hc => ?_)
  · simp only [decide_eq_true_eq] at hc
    have hlt : i < zs.length := by omega
    have hz := List.getElem?_eq_getElem hlt
    refine chkI (by simp) (chkI (by simpa using hlt) ⟨_, strs_get h2 hz, askI (fun he => ?_) (fun he => ?_)⟩)
    · simp only [beq_iff_eq] at he
      obtain ⟨hm, e2⟩ := idx_here hn (he ▸ hz)
      refine .inl ⟨hm, rfl, ?_⟩
      rw [e2]
    · simp only [beq_eq_false_iff_ne, ne_eq] at he
      have ew : IntKind.wrap .i64 ((i : Int) + 1) = ((i + 1 : Nat) : Int) := by rw [wrap_small (by omega) (by omega)]; omega
      rw [ew]
      exact ⟨(i + 1, zs.length - (i + 1)), rfl, ⟨hlt, not_next hn hz he, rfl⟩, by dsimp only; omega, fun _ _ h => h⟩
  · simp only [decide_eq_false_iff_not] at hc
    obtain rfl : i = zs.length := by omega
    rw [List.take_length] at hn
    exact .inr ⟨hn, rfl, rfl⟩
theorem ok63 : QuietOK Try.prog 63 s63 := by
  refine quiet_here ht63 (fun args h v hv => ?_) (fun args h k o hk ⟨ρ, ha, hw⟩ => ?_)
  · unfold s63 at hv
    split at hv
    · rename_i k n c s
      simp only [Option.map_eq_some_iff] at hv
      obtain ⟨zs, hr, rfl⟩ := hv
      obtain ⟨h2, rfl, h3⟩ := readS_inv hr
      suffices hs : ∃ v h', (v = .int .i64 (idxL zs s) ∧ h' = h) ∧ CallSem Try.prog 63 [.sl (some (k, 0)) zs.length c, .str s] h v h' by
        obtain ⟨v, h', ⟨rfl, rfl⟩, hs⟩ := hs
        exact ⟨rfl, hs⟩
      refine sem_vc mixed (C := C63 k zs.length c s (decide (s ∈ zs)) (zs.idxOf s : Nat) h) (SU_ok tabs0) (CU_q (ks := [])) (CU_cw (ks := []) tabs0) ht63 c63 (one_part rfl (part_loop (id := 2) rfl rfl fun st K hT => ?_)) (ix_vc h k zs.length c s _ _ _) ⟨rfl, ?_⟩
      · obtain ⟨rfl, hK⟩ := hT
        refine W_mono (ix_loop h2 h3 (0, zs.length) ⟨Nat.zero_le _, by simp, by simp⟩) fun e st hq => ?_
        rcases hq with ⟨hm, rfl, rfl⟩ | ⟨hm, rfl, rfl⟩
        · rw [decide_eq_true hm] at hK; exact hK
        · rw [decide_eq_false hm] at hK; exact hK
      · refine askI (fun hc => ⟨?_, rfl⟩) (fun hc => ⟨?_, rfl⟩)
        · simp only [decide_eq_true_eq] at hc
          unfold idxL; rw [if_pos hc]
        · simp only [decide_eq_false_iff_not] at hc
          unfold idxL; rw [if_neg hc]
    · cases hv
  · unfold s63
    split
    · rw [readS_free hk (ha _ List.mem_cons_self)]
    · rfl
theorem tabs37 : TabsOK tq37 [] [] := by
  refine ⟨fun x hx => ?_, by kernel_rfl, fun _ h => (by cases h), fun _ h => (by cases h), fun _ h => (by cases h), rfl⟩
  simp only [tq37, List.mem_cons, List.not_mem_nil, or_false] at hx
  subst hx; exact ok63
theorem ok37 : QuietOK Try.prog 37 s37 := by
  refine quiet_here ht37 (fun args h v hv => ?_) (fun args h k o hk ⟨ρ, ha, hw⟩ => ?_)
  · unfold s37 at hv
    split at hv
    · rename_i k n c s
      simp only [Option.map_eq_some_iff] at hv
      obtain ⟨zs, hr, rfl⟩ := hv
      suffices hs : ∃ v h', (v = .bool (decide (s ∈ zs)) ∧ h' = h) ∧ CallSem Try.prog 37 [.sl (some (k, 0)) n c, .str s] h v h' by
        obtain ⟨v, h', ⟨rfl, rfl⟩, hs⟩ := hs
        exact ⟨rfl, hs⟩
      refine sem tabs37 ht37 c37 rfl (con_vc h k n c s _) ⟨idxL zs s, (show s63 [.sl (some (k, 0)) n c, .str s] h = some (.int .i64 (idxL zs s)) by simp only [s63, hr, Option.map_some]), askI (fun hc => ⟨?_, rfl⟩) (fun hc => ⟨?_, rfl⟩)⟩
      · simp only [ge_iff_le, decide_eq_true_eq] at hc
        have : s ∈ zs := by
          by_cases hm : s ∈ zs
          · exact hm
          · unfold idxL at hc; rw [if_neg hm] at hc; omega
        rw [decide_eq_true this]
      · simp only [ge_iff_le, decide_eq_false_iff_not] at hc
        have : s ∉ zs := fun hm => by unfold idxL at hc; rw [if_pos hm] at hc; omega
        rw [decide_eq_false this]
    · cases hv
  · unfold s37
    split
    · rw [readS_free hk (ha _ List.mem_cons_self)]
    · rfl
def sW : List AV → List AObj → Option (AV × AHeap × List Nat)
  | [], [] => some (.sl (some (0, 0)) 33 (.rel 0), [.row 9 1 (strs Wd)], [0])
  | _, _ => none
theorem run18 : runQ Try.prog (SE 0) (fun _ => ⟨[], .all⟩) 100 p18 [] [] = some (.sl (some (0, 0)) 33 (.rel 0), [.row 9 1 (strs Wd)]) := by kernel_rfl
theorem run19 : runQ Try.prog (SE 0) (fun _ => ⟨[], .all⟩) 100 p19 [] [] = some (.sl (some (0, 0)) 33 (.rel 0), [.row 9 1 (strs Wd)]) := by kernel_rfl
theorem words_sem {f : FuncId} {fn : Func} (hf : HasText Try.prog f fn) (hr : CallSem Try.prog f [] [] (.sl (some (0, 0)) 33 (.rel 0)) [.row 9 1 (strs Wd)]) (h : AHeap) : CallSem Try.prog f [] h (.sl (some (h.length, 0)) 33 (.rel 0)) (h ++ [.row 9 1 (strs Wd)]) := by
  have hF := fresh_of_sem (s := sW) hf fun args hp v hq ks he => by
    unfold sW at he
    split at he
    · cases he; exact hr
    · cases he
  exact hF.1 [] h _ _ (by rfl)
theorem tW_full {f : FuncId} {fn : Func} (hf : HasText Try.prog f fn) (hr : CallSem Try.prog f [] [] (.sl (some (0, 0)) 33 (.rel 0)) [.row 9 1 (strs Wd)]) : FullOK Try.prog f (tW f).s := TK_full hf fun vs h hp => by
  unfold preE at hp
  subst hp
  exact words_sem hf hr h
theorem t18_full : FullOK Try.prog 18 (tW 18).s := tW_full ht18 (runQ_sem mixed (SE_ok 0).1 (SE_ok 0).2 ht18 c18 run18)
theorem t19_full : FullOK Try.prog 19 (tW 19).s := tW_full ht19 (runQ_sem mixed (SE_ok 0).1 (SE_ok 0).2 ht19 c19 run19)
theorem row_new (h : AHeap) (o : AObj) : (h ++ [o])[h.length]? = some o := by rw [hg0]
theorem W_len : Wd.length = 33 := rfl
theorem readS_W {h : AHeap} {k : Nat} (hk : h[k]? = some (.row 9 1 (strs Wd))) : readS h k 33 = some Wd := readS_row hk (by rw [W_len]; decide)
theorem tabs12 : TabsOK tq12 [tW 18] [] := by
  refine ⟨fun x hx => ?_, by kernel_rfl, fun x hx => ?_, fun x hx => ?_, fun _ h => (by cases h), rfl⟩
  · simp only [tq12, List.mem_cons, List.not_mem_nil, or_false] at hx
    subst hx; exact ok37
  · simp only [List.mem_cons, List.not_mem_nil, or_false] at hx
    subst hx; exact t18_full
  · simp only [List.mem_cons, List.not_mem_nil, or_false] at hx
    subst hx; exact TK_ok
theorem quiet_str {f : FuncId} {fn : Func} (hf : HasText Try.prog f fn) (hs : ∀ (s : Tx) (h : AHeap), ∃ v h', v = .bool (decide (s ∈ Wd)) ∧ CallSem Try.prog f [.str s] h v h') : QuietOK Try.prog f sRes := by
  have : sRes = fun vs _ => sRes vs [] := by
    funext vs h
    unfold sRes
    split <;> rfl
  rw [this]
  refine quiet_plain hf fun vs u hu => ?_
  unfold sRes at hu
  split at hu
  · rename_i s
    cases hu
    obtain ⟨v, h', rfl, hc⟩ := hs s []
    exact ⟨rfl, rfl, h', hc⟩
  · cases hu
theorem ok12 : QuietOK Try.prog 12 sRes := quiet_str ht12 fun s h => by
  have hr : s37 [.sl (some (h.length, 0)) 33 (.rel 0), .str s] (h ++ [.row 9 1 (strs Wd)]) = some (.bool (decide (s ∈ Wd))) := by
    simp only [s37, readS_W (row_new h _), Option.map_some]
  refine sem tabs12 ht12 c12 rfl (res_vc h s _) ⟨rfl, ?_⟩
  by_cases hw : s ∈ Wd
  · rw [decide_eq_true hw] at hr
    exact ⟨true, hr, by rw [decide_eq_true hw]⟩
  · rw [decide_eq_false hw] at hr
    exact ⟨false, hr, by rw [decide_eq_false hw]⟩
def rresK (zs : List Tx) (s : Tx) (h : AHeap) (e : AExit) (st : St) : Prop := (s ∈ zs ∧ e = .ret ∧ st = (envOf 18 [(2, .bool true)], h)) ∨ (s ∉ zs ∧ e = .exit 0 ∧ st = (envOf 18 [], h))
theorem tabs20 : TabsOK [] [tW 19] [] := by
  refine ⟨fun _ h => (by cases h), by kernel_rfl, fun x hx => ?_, fun x hx => ?_, fun _ h => (by cases h), rfl⟩
  · simp only [List.mem_cons, List.not_mem_nil, or_false] at hx
    subst hx; exact t19_full
  · simp only [List.mem_cons, List.not_mem_nil, or_false] at hx
    subst hx; exact TK_ok
theorem rres_loop {h : AHeap} {k : Nat} {s : Tx} {zs : List Tx} {b : Nat} (h2 : h[k]? = some (.row 9 1 (strs zs))) (h3 : zs.length ≤ 1000000) (x : Nat × Nat) (hx : x.1 ≤ zs.length ∧ s ∉ zs.take x.1 ∧ x.2 = zs.length - x.1) :
    W Try.prog (SU [] [tW 19] []) b (.inl (.loop p20_l0)) (e20 k zs.length s (x.1 : Nat), h) (rresK zs s h) := by
  refine W_roundsX (C := B20 b) (CU_cw (ks := []) tabs20) (a := p20_l0) (no_parts rfl) (fun x : Nat × Nat => (e20 k zs.length s (x.1 : Nat), h)) (fun x => x.1 ≤ zs.length ∧ s ∉ zs.take x.1 ∧ x.2 = zs.length - x.1) (fun x => x.2) (fun _ => rresK zs s h) n20 x20 o20 ?_ x hx
  rintro ⟨i, mm⟩ ⟨hi, hn, hmm⟩
  refine ⟨40, ?_⟩
  dsimp only at hi hn hmm ⊢
  subst hmm
  rw [← rres_body]
  refine askI (fun hc => ?_) (fun hc => ?_)
  · simp only [decide_eq_true_eq] at hc
    have hlt : i < zs.length := by omega
    have hz := List.getElem?_eq_getElem hlt
    refine chkI (by simp) (chkI (by simpa using hlt) ⟨_, strs_get h2 hz, askI (fun he => ?_) (fun he => ?_)⟩)
    · simp only [beq_iff_eq] at he
      obtain ⟨hm, e2⟩ := idx_here hn (he ▸ hz)
      exact .inl ⟨hm, rfl, rfl⟩
    · simp only [beq_eq_false_iff_ne, ne_eq] at he
      have ew : IntKind.wrap .i64 ((i : Int) + 1) = ((i + 1 : Nat) : Int) := by rw [wrap_small (by omega) (by omega)]; omega
      rw [ew]
      exact ⟨(i + 1, zs.length - (i + 1)), rfl, ⟨hlt, not_next hn hz (fun e => he e.symm), rfl⟩, by dsimp only; omega, fun _ _ h => h⟩
  · simp only [decide_eq_false_iff_not] at hc
    obtain rfl : i = zs.length := by omega
    rw [List.take_length] at hn
    exact .inr ⟨hn, rfl, rfl⟩
theorem ok20 : QuietOK Try.prog 20 sRes := quiet_str ht20 fun s h => by
  refine sem_vc mixed (C := C20 s h.length (decide (s ∈ Wd)) (h ++ [.row 9 1 (strs Wd)])) (SU_ok tabs20) (CU_q (ks := [])) (CU_cw (ks := []) tabs20) ht20 c20 (one_part rfl (part_loop (id := 3) rfl rfl fun st K hT => ?_)) (rres_vc h _ s _ _ _) ⟨rfl, rfl, ?_⟩
  · obtain ⟨rfl, hK⟩ := hT
    refine W_mono (rres_loop (zs := Wd) (row_new h _) (by rw [W_len]; decide) (0, 33) ⟨Nat.zero_le _, by simp, rfl⟩) fun e st hq => ?_
    rcases hq with ⟨hm, rfl, rfl⟩ | ⟨hm, rfl, rfl⟩
    · rw [decide_eq_true hm] at hK; exact hK
    · rw [decide_eq_false hm] at hK; exact hK
  · refine askI (fun hc => ?_) (fun hc => ?_)
    · rw [hc]
    · rw [hc]
theorem eq_loop {h : AHeap} {k k' : Nat} {c c' : ACap} {zs ys : List Tx} {b : Nat} (h1 : h[k]? = some (.row 9 1 (strs zs))) (h2 : h[k']? = some (.row 9 1 (strs ys))) (hl : ys.length = zs.length) (h3 : zs.length ≤ 1000000) (x : Nat × Nat) (hx : x.1 ≤ zs.length ∧ zs.take x.1 = ys.take x.1 ∧ x.2 = zs.length - x.1) :
    W Try.prog (SU [] [] []) b (.inl (.loop p17_l0)) (e17 k zs.length k' c c' (x.1 : Nat), h) fun e st => (zs = ys ∧ e = .exit 0 ∧ st = (envOf 26 [], h)) ∨ (zs ≠ ys ∧ e = .ret ∧ st = (envOf 26 [(4, .bool false)], h)) := by
  refine W_roundsX (C := B17 b) (CU_cw (ks := []) tabs0) (a := p17_l0) (no_parts rfl) (fun x : Nat × Nat => (e17 k zs.length k' c c' (x.1 : Nat), h)) (fun x => x.1 ≤ zs.length ∧ zs.take x.1 = ys.take x.1 ∧ x.2 = zs.length - x.1) (fun x => x.2) (fun _ e st => (zs = ys ∧ e = .exit 0 ∧ st = (envOf 26 [], h)) ∨ (zs ≠ ys ∧ e = .ret ∧ st = (envOf 26 [(4, .bool false)], h))) n17 x17 o17 ?_ x hx
  rintro ⟨i, mm⟩ ⟨hi, hn, hmm⟩
  refine ⟨40, ?_⟩
  dsimp only at hi hn hmm ⊢
  subst hmm
  rw [← eq_body]
  refine askI (fun hc => ?_) (fun hc => ?_)
  · simp only [decide_eq_true_eq] at hc
    have hlt : i < zs.length := by omega
    have hz := List.getElem?_eq_getElem hlt
    have hy := List.getElem?_eq_getElem (l := ys) (i := i) (by omega)
    refine chkI (by simp) (chkI (by simpa using hlt) ⟨_, strs_get h1 hz, chkI (by simp) (chkI (by simpa using hlt) ⟨_, strs_get h2 hy, askI (fun he => ?_) (fun he => ?_)⟩)⟩)
    · simp only [Bool.not_eq_true', beq_eq_false_iff_ne, ne_eq] at he
      refine .inr ⟨fun e => he ?_, rfl, rfl⟩
      subst e; rfl
    · simp only [Bool.not_eq_false', beq_iff_eq] at he
      have ew : IntKind.wrap .i64 ((i : Int) + 1) = ((i + 1 : Nat) : Int) := by rw [wrap_small (by omega) (by omega)]; omega
      rw [ew]
      refine ⟨(i + 1, zs.length - (i + 1)), rfl, ⟨hlt, ?_, rfl⟩, by dsimp only; omega, fun _ _ h => h⟩
      dsimp only
      rw [List.take_add_one, List.take_add_one, hz, hy, he, hn]
  · simp only [decide_eq_false_iff_not] at hc
    obtain rfl : i = zs.length := by omega
    rw [List.take_length, ← hl, List.take_length] at hn
    exact .inl ⟨hn, rfl, rfl⟩
theorem ok17 : QuietOK Try.prog 17 s17 := by
  refine quiet_here ht17 (fun args h v hv => ?_) (fun args h k o hk ⟨ρ, ha, hw⟩ => ?_)
  · unfold s17 at hv
    split at hv
    · rename_i k n c k' n' c'
      simp only [Option.bind_eq_some_iff, Option.map_eq_some_iff] at hv
      obtain ⟨zs, hr, ys, hr', rfl⟩ := hv
      obtain ⟨h1, rfl, h3⟩ := readS_inv hr
      obtain ⟨h2, rfl, h4⟩ := readS_inv hr'
      suffices hs : ∃ v h', (v = .bool (decide (zs = ys)) ∧ h' = h) ∧ CallSem Try.prog 17 [.sl (some (k, 0)) zs.length c, .sl (some (k', 0)) ys.length c'] h v h' by
        obtain ⟨v, h', ⟨rfl, rfl⟩, hs⟩ := hs
        exact ⟨rfl, hs⟩
      refine sem_vc mixed (C := C17 (ys.length = zs.length) k zs.length k' c c' (decide (zs = ys)) h) (SU_ok tabs0) (CU_q (ks := [])) (CU_cw (ks := []) tabs0) ht17 c17 (one_part rfl (part_loop (id := 4) rfl rfl fun st K hT => ?_)) (eq_vc h _ k zs.length k' ys.length c c' _ _) (askI (fun hc => ⟨?_, rfl⟩) fun hc => ?_)
      · obtain ⟨hl, rfl, hK⟩ := hT
        refine W_mono (eq_loop h1 h2 hl h3 (0, zs.length) ⟨Nat.zero_le _, by simp, by simp⟩) fun e st hq => ?_
        rcases hq with ⟨hm, rfl, rfl⟩ | ⟨hm, rfl, rfl⟩
        · rw [decide_eq_true hm] at hK; exact hK
        · rw [decide_eq_false hm] at hK; exact hK
      · simp only [bne_iff_ne, ne_eq] at hc
        rw [decide_eq_false]
        intro e; subst e; exact hc rfl
      · simp only [bne_eq_false_iff_eq] at hc
        have hl : ys.length = zs.length := by omega
        refine ⟨hl, by rw [hl], ?_⟩
        refine askI (fun hd => ⟨?_, rfl⟩) (fun hd => ⟨?_, rfl⟩) <;> rw [hd]
    · cases hv
  · unfold s17
    split
    · rw [readS_free hk (ha _ List.mem_cons_self), readS_free hk (ha _ (List.mem_cons_of_mem _ List.mem_cons_self))]
    · rfl
theorem semA {l : List TbE} {g : List TbG} {us : List FuncId} {ks : List (Nat × K1)} (h : TabsOK l g us) {f : FuncId} {fn : Func} {pf : PF} (hf : HasText Try.prog f fn) (hc : compF Try.prog Q fn = some pf) {n : Nat} {args : List AV} {hp : AHeap} {R : AV → AHeap → Prop} {A : Prop} (he : A = wpF Try.prog (CU l g us ks) n pf args hp R) (ha : A) : ∃ v h', R v h' ∧ CallSem Try.prog f args hp v h' :=
  sem_vc mixed (SU_ok h) CU_q (CU_cw h) hf hc (fun x _ => part_none (fun _ => rfl) (fun _ => rfl) x (fun _ => rfl)) he ha
theorem ok39 : QuietOK Try.prog 39 s39 := by
  refine quiet_behind ht39 (fun args h v hv => ?_) (fun args h k o hk ⟨ρ, ha, hw⟩ => ?_)
  · unfold s39 at hv
    split at hv
    · rename_i a p l c b
      split at hv
      · rename_i s hb
        cases hv
        refine ⟨rfl, [AObj.row 83 (List.length (AV.cells (AV.agg [AV.str a, AV.ext p l c]))) (AV.cells (AV.agg [AV.str a, AV.ext p l c]))], ?_⟩
        suffices hs : ∃ v h', (v = .bool (decide (a = s)) ∧ h' = h ++ [AObj.row 83 (List.length (AV.cells (AV.agg [AV.str a, AV.ext p l c]))) (AV.cells (AV.agg [AV.str a, AV.ext p l c]))]) ∧ CallSem Try.prog 39 [.agg [.str a, .ext p l c], .ptr (some (b, 0))] h v h' by
          obtain ⟨v, h', ⟨rfl, rfl⟩, hs⟩ := hs
          exact hs
        refine sem tabs0 ht39 c39 rfl (tf_vc h a p l c b _) ?_
        simp only [repl1, repl2, repl3, List.append_assoc, List.cons_append, List.nil_append, List.append_nil, len_b1, Nat.add_zero, hs0, hs1, hs2, hs3, hg0, hg1, hg2, hg3, ho0, ho1, ho2, ho3, chkW_true]
        refine ⟨a, fld (hg0 _ _ _) rfl, s, fld_app hb _, askI (fun hc => ⟨?_, trivial⟩) (fun hc => ⟨?_, trivial⟩)⟩
        · simp only [beq_iff_eq] at hc
          rw [decide_eq_true hc]
        · simp only [beq_eq_false_iff_ne, ne_eq] at hc
          rw [decide_eq_false hc]
      · cases hv
    · cases hv
  · unfold s39
    split
    · have hp := ha _ (List.mem_cons_of_mem _ List.mem_cons_self)
      simp only [named_row hk hp]
    · rfl
theorem tabs38 : TabsOK tq38 [] [] := by
  refine ⟨fun x hx => ?_, by kernel_rfl, fun _ h => (by cases h), fun _ h => (by cases h), fun _ h => (by cases h), rfl⟩
  simp only [tq38, List.mem_cons, List.not_mem_nil, or_false] at hx
  subst hx; exact ok39
theorem names_get {h : AHeap} {k : Nat} {cs : List AV} {zs : List Tx} (hk : h[k]? = some (.ro cs)) (hn : namesOf cs = some zs) {j : Nat} {z : Tx} (hz : zs[j]? = some z) : ∃ p m c, (Option.bind (cellsAt h k) fun (x : List AV) => partR (some 2) x (0 + Int.toNat (j : Int) * 2)) = some (AV.agg [.str z, .ext p m c]) := by
  obtain ⟨h1, h2⟩ := names_at hn
  obtain ⟨p, m, c, h3⟩ := h2 j z hz
  have hj := (List.getElem?_eq_some_iff.1 hz).1
  refine ⟨p, m, c, ?_⟩
  simp only [cellsAt, hk, Option.bind_some, objCells, partR, Int.toNat_natCast, Nat.zero_add]
  rw [if_pos (by omega), h3]
theorem names_get0 {h : AHeap} {k : Nat} {cs : List AV} {zs : List Tx} (hk : h[k]? = some (.ro cs)) (hn : namesOf cs = some zs) {j : Nat} {z : Tx} (hz : zs[j]? = some z) : (Option.bind (cellsAt h k) fun (x : List AV) => partR none x (0 + Int.toNat (j : Int) * 2 + 0)) = some (AV.str z) := by
  obtain ⟨h1, h2⟩ := names_at hn
  obtain ⟨p, m, c, h3⟩ := h2 j z hz
  simp only [cellsAt, hk, Option.bind_some, objCells, partR, Int.toNat_natCast, Nat.zero_add, Nat.add_zero]
  have := congrArg (·[0]?) h3
  simpa using this
theorem ixf_loop {h : AHeap} {k bx : Nat} {c : ACap} {s : Tx} {cs : List AV} {zs : List Tx} {b : Nat} (h1 : h[bx]? = some (.row 9 1 [.str s])) (h2 : h[k]? = some (.ro cs)) (h4 : namesOf cs = some zs) (h3 : zs.length ≤ 9223372036854775807) (x : Nat × Nat) (hx : x.1 ≤ zs.length ∧ s ∉ zs.take x.1 ∧ x.2 = zs.length - x.1) :
    W Try.prog (SU tq38 [] []) b (.inl (.loop p38_l0)) (e38 k zs.length c bx (x.1 : Nat), h) (ixK 19 zs s h) := by
  refine W_roundsX (C := B38 b) (CU_cw (ks := []) tabs38) (a := p38_l0) (no_parts rfl) (fun x : Nat × Nat => (e38 k zs.length c bx (x.1 : Nat), h)) (fun x => x.1 ≤ zs.length ∧ s ∉ zs.take x.1 ∧ x.2 = zs.length - x.1) (fun x => x.2) (fun _ => ixK 19 zs s h) n63 x63 o63 ?_ x hx
  rintro ⟨i, mm⟩ ⟨hi, hn, hmm⟩
  refine ⟨40, ?_⟩
  dsimp only at hi hn hmm ⊢
  subst hmm
  rw [← ixf_body]
  refine askI (fun hc => ?_) (fun hc => ?_)
  · simp only [decide_eq_true_eq] at hc
    have hlt : i < zs.length := by omega
    have hz := List.getElem?_eq_getElem hlt
    generalize zs[i] = z at hz
    obtain ⟨p, m, c2, hl⟩ := names_get h2 h4 hz
    have e39 : s39 [.agg [.str z, .ext p m c2], .ptr (some (bx, 0))] h = some (.bool (decide (z = s))) := by simp only [s39, h1]
    refine chkI (by simp) (chkI (by simpa using hlt) ⟨z, p, m, c2, hl, ?_⟩)
    by_cases he : z = s
    · subst he
      rw [decide_eq_true rfl] at e39
      refine ⟨true, e39, .inl ?_⟩
      obtain ⟨hm, e2⟩ := idx_here hn hz
      exact ⟨hm, rfl, by rw [e2]⟩
    · rw [decide_eq_false he] at e39
      have ew : IntKind.wrap .i64 ((i : Int) + 1) = ((i + 1 : Nat) : Int) := by rw [IntKind.wrap_i64]; omega
      rw [ew]
      exact ⟨false, e39, (i + 1, zs.length - (i + 1)), rfl, ⟨hlt, not_next hn hz (fun e => he e.symm), rfl⟩, by dsimp only; omega, fun _ _ h => h⟩
  · simp only [decide_eq_false_iff_not] at hc
    obtain rfl : i = zs.length := by omega
    rw [List.take_length] at hn
    exact .inr ⟨hn, rfl, rfl⟩
theorem ok38 : QuietOK Try.prog 38 s38 := by
  refine quiet_here ht38 (fun args h v hv => ?_) (fun args h k o hk ⟨ρ, ha, hw⟩ => ?_)
  · unfold s38 at hv
    split at hv
    · rename_i b
      cases hv
      obtain ⟨v, h', ⟨rfl, rfl⟩, hs⟩ := semA (R := fun v h' => v = .int .i64 (-1) ∧ h' = h) tabs38 ht38 c38 (ixf_vcn h b _) ⟨rfl, rfl⟩
      exact ⟨rfl, hs⟩
    · rename_i k n c b
      split at hv
      · rename_i s hb
        simp only [Option.map_eq_some_iff] at hv
        obtain ⟨zs, hr, rfl⟩ := hv
        obtain ⟨cs, h2, h4, rfl, h3⟩ := readT_inv hr
        suffices hs : ∃ v h', (v = .int .i64 (idxL zs s) ∧ h' = h) ∧ CallSem Try.prog 38 [.sl (some (k, 0)) zs.length c, .fn 39 [] [.ptr (some (b, 0))]] h v h' by
          obtain ⟨v, h', ⟨rfl, rfl⟩, hs⟩ := hs
          exact ⟨rfl, hs⟩
        refine sem_vc mixed (C := C38 k zs.length c b (decide (s ∈ zs)) (zs.idxOf s : Nat) h) (SU_ok tabs38) (CU_q (ks := [])) (CU_cw (ks := []) tabs38) ht38 c38 (one_part rfl (part_loop (id := 2) rfl rfl fun st K hT => ?_)) (ixf_vc h k zs.length c b _ _ _) ⟨rfl, ?_⟩
        · obtain ⟨rfl, hK⟩ := hT
          refine W_mono (ixf_loop hb h2 h4 h3 (0, zs.length) ⟨Nat.zero_le _, by simp, by simp⟩) fun e st hq => ?_
          rcases hq with ⟨hm, rfl, rfl⟩ | ⟨hm, rfl, rfl⟩
          · rw [decide_eq_true hm] at hK; exact hK
          · rw [decide_eq_false hm] at hK; exact hK
        · refine askI (fun hc => ⟨?_, rfl⟩) (fun hc => ⟨?_, rfl⟩)
          · simp only [decide_eq_true_eq] at hc
            unfold idxL; rw [if_pos hc]
          · simp only [decide_eq_false_iff_not] at hc
            unfold idxL; rw [if_neg hc]
      · cases hv
    · cases hv
  · unfold s38
    split
    · rfl
    · have hp := ha _ (List.mem_cons_of_mem _ List.mem_cons_self)
      have hp2 : live h ‹Nat› = true := by
        simp only [AV.ok, AV.refs, AV.refsL, Bool.and_true, Bool.true_and] at hp
        exact hp
      rw [List.getElem?_set_ne (hole_ne hk hp2)]
      simp only [readT_free (o := o) hk (ha _ List.mem_cons_self)]
    · rfl
theorem tabs15 : TabsOK tq15 [] [] := by
  refine ⟨fun x hx => ?_, by kernel_rfl, fun _ h => (by cases h), fun _ h => (by cases h), fun _ h => (by cases h), rfl⟩
  simp only [tq15, List.mem_cons, List.not_mem_nil, or_false] at hx
  subst hx; exact ok38
theorem tabA_of {zs : List Tx} {s : Tx} : AV.tup [.int .i64 (if true = true then if idxL zs s > 0 then idxL zs s else 0 else if idxL zs s < 0 then idxL zs s else 0), .bool (decide (idxL zs s ≥ 0))] = tabA zs s := by
  unfold tabA idxL
  by_cases hm : s ∈ zs
  · simp only [if_pos hm, if_true, hm, decide_true, ge_iff_le]
    have : (0 : Int) ≤ ((zs.idxOf s : Nat) : Int) := by omega
    simp only [this, decide_true]
    split
    · rfl
    · rename_i h0
      have : ((zs.idxOf s : Nat) : Int) = 0 := by omega
      rw [this]
  · simp [hm]
theorem free_table {h : AHeap} {k : Nat} {o : AObj} {args : List AV} (hk : h[k]? = some .hole) {ρ : Rho} (ha : ∀ x ∈ args, AV.ok h ρ x) : sTable args (h.set k o) = sTable args h := by
  unfold sTable
  split
  · rfl
  · have h1 := ha _ List.mem_cons_self
    simp only [AV.ok, AV.refs, AV.refsL, Bool.and_true, Bool.true_and] at h1
    rw [readT_free (o := o) hk (ρ := ρ) (q := 0) h1]
  · rfl
theorem ok15 : QuietOK Try.prog 15 sTable := by
  refine quiet_behind ht15 (fun args h v hv => ?_) (fun args h k o hk ⟨ρ, ha, hw⟩ => free_table hk ha)
  unfold sTable at hv
  split at hv
  · rename_i a b m p1 l1 c1 p2 l2 c2 p3 l3 c3 s
    cases hv
    refine ⟨rfl, [AObj.row 29 7 [.str a, .str b, .int .i64 m, .ext p1 l1 c1, .ext p2 l2 c2, .sl none 0 (.fix 0), .ext p3 l3 c3], AObj.row 9 1 [.str s]], ?_⟩
    suffices hs : ∃ v h', (v = tabA [] s ∧ h' = h ++ [AObj.row 29 7 [.str a, .str b, .int .i64 m, .ext p1 l1 c1, .ext p2 l2 c2, .sl none 0 (.fix 0), .ext p3 l3 c3], AObj.row 9 1 [.str s]]) ∧ CallSem Try.prog 15 [.agg [.str a, .str b, .int .i64 m, .ext p1 l1 c1, .ext p2 l2 c2, .sl none 0 (.fix 0), .ext p3 l3 c3], .str s] h v h' by
      obtain ⟨v, h', ⟨rfl, rfl⟩, hs⟩ := hs
      exact hs
    refine sem tabs15 ht15 c15 rfl (tab_vcn h a b m p1 p2 p3 l1 c1 l2 c2 l3 c3 s _) ?_
    simp only [repl1, repl2, repl3, List.append_assoc, List.cons_append, List.nil_append, List.append_nil, len_b1, Nat.add_zero, hs0, hs1, hs2, hs3, hg0, hg1, hg2, hg3, ho0, ho1, ho2, ho3, chkW_true]
    exact ⟨fld (hg0 _ _ _) rfl, -1, rfl, askF (by decide) ⟨by simp [tabA], rfl⟩⟩
  · rename_i a b m p1 l1 c1 p2 l2 c2 k n c p3 l3 c3 s
    simp only [Option.map_eq_some_iff] at hv
    obtain ⟨zs, hr, rfl⟩ := hv
    obtain ⟨cs, h2, h4, rfl, h3⟩ := readT_inv hr
    refine ⟨rfl, [AObj.row 29 7 [.str a, .str b, .int .i64 m, .ext p1 l1 c1, .ext p2 l2 c2, .sl (some (k, 0)) zs.length c, .ext p3 l3 c3], AObj.row 9 1 [.str s]], ?_⟩
    suffices hs : ∃ v h', (v = tabA zs s ∧ h' = h ++ [AObj.row 29 7 [.str a, .str b, .int .i64 m, .ext p1 l1 c1, .ext p2 l2 c2, .sl (some (k, 0)) zs.length c, .ext p3 l3 c3], AObj.row 9 1 [.str s]]) ∧ CallSem Try.prog 15 [.agg [.str a, .str b, .int .i64 m, .ext p1 l1 c1, .ext p2 l2 c2, .sl (some (k, 0)) zs.length c, .ext p3 l3 c3], .str s] h v h' by
      obtain ⟨v, h', ⟨rfl, rfl⟩, hs⟩ := hs
      exact hs
    refine sem tabs15 ht15 c15 rfl (tab_vc h a b m p1 p2 p3 l1 c1 l2 c2 l3 c3 k zs.length c s _) ?_
    simp only [repl1, repl2, repl3, List.append_assoc, List.cons_append, List.nil_append, List.append_nil, len_b1, Nat.add_zero, hs0, hs1, hs2, hs3, hg0, hg1, hg2, hg3, ho0, ho1, ho2, ho3, chkW_true]
    have hS : s38 [.sl (some (k, 0)) zs.length c, .fn 39 [] [.ptr (some (h.length + 1, 0))]] (h ++ [AObj.row 29 7 [.str a, .str b, .int .i64 m, .ext p1 l1 c1, .ext p2 l2 c2, .sl (some (k, 0)) zs.length c, .ext p3 l3 c3], AObj.row 9 1 [.str s]]) = some (.int .i64 (idxL zs s)) := by
      have e1 : (h ++ [AObj.row 29 7 [.str a, .str b, .int .i64 m, .ext p1 l1 c1, .ext p2 l2 c2, .sl (some (k, 0)) zs.length c, .ext p3 l3 c3], AObj.row 9 1 [.str s]])[h.length + 1]? = some (AObj.row 9 1 [.str s]) := hg1 _ _ _ _
      have e2 : readT (h ++ [AObj.row 29 7 [.str a, .str b, .int .i64 m, .ext p1 l1 c1, .ext p2 l2 c2, .sl (some (k, 0)) zs.length c, .ext p3 l3 c3], AObj.row 9 1 [.str s]]) k zs.length = some zs := by
        unfold readT at hr ⊢
        rw [row_app h2]
        rw [h2] at hr
        exact hr
      simp only [s38, e1, e2, Option.map_some]
    refine ⟨fld (hg0 _ _ _) rfl, idxL zs s, hS, askI (fun hc => ⟨?_, rfl⟩) (fun hc => ⟨?_, rfl⟩)⟩
    · rw [← tabA_of, hc]; rfl
    · rw [← tabA_of, hc]; rfl
  · cases hv
theorem rtab_loop {h : AHeap} {k bx : Nat} {c : ACap} {s : Tx} {cs : List AV} {zs : List Tx} {b : Nat} (h1 : (Option.bind (cellsAt h bx) fun (x : List AV) => partR none x 5) = some (AV.sl (some (k, 0)) zs.length c)) (h2 : h[k]? = some (.ro cs)) (h4 : namesOf cs = some zs) (h3 : zs.length ≤ 9223372036854775807) (x : Nat × Nat) (hx : x.1 ≤ zs.length ∧ s ∉ zs.take x.1 ∧ x.2 = zs.length - x.1) :
    W Try.prog (SU [] [] []) b (.inl (.loop p16_l0)) (e16 s bx (x.1 : Nat), h) fun e st => (s ∈ zs ∧ e = .ret ∧ st = (envOf 23 [(4, .int .i64 (zs.idxOf s : Nat)), (5, .bool true)], h)) ∨ (s ∉ zs ∧ e = .exit 0 ∧ st = (envOf 23 [], h)) := by
  refine W_roundsX (C := B16 (.sl (some (k, 0)) zs.length c) b) (CU_cw (ks := []) tabs0) (a := p16_l0) (no_parts rfl) (fun x : Nat × Nat => (e16 s bx (x.1 : Nat), h)) (fun x => x.1 ≤ zs.length ∧ s ∉ zs.take x.1 ∧ x.2 = zs.length - x.1) (fun x => x.2) (fun _ e st => (s ∈ zs ∧ e = .ret ∧ st = (envOf 23 [(4, .int .i64 (zs.idxOf s : Nat)), (5, .bool true)], h)) ∨ (s ∉ zs ∧ e = .exit 0 ∧ st = (envOf 23 [], h))) n16 x16 o16 ?_ x hx
  rintro ⟨i, mm⟩ ⟨hi, hn, hmm⟩
  refine ⟨40, ?_⟩
  dsimp only at hi hn hmm ⊢
  subst hmm
  rw [← rtab_body]
  refine ⟨h1, askI (fun hc => ⟨h1, ?_⟩) (fun hc => ?_)⟩
  · simp only [decide_eq_true_eq] at hc
    have hlt : i < zs.length := by omega
    have hz := List.getElem?_eq_getElem hlt
    refine chkI (by simp) (chkI (by simpa using hlt) ⟨_, names_get0 h2 h4 hz, askI (fun he => ?_) (fun he => ?_)⟩)
    · simp only [beq_iff_eq] at he
      obtain ⟨hm, e2⟩ := idx_here hn (he ▸ hz)
      refine .inl ⟨hm, rfl, ?_⟩
      rw [e2]
    · simp only [beq_eq_false_iff_ne, ne_eq] at he
      have ew : IntKind.wrap .i64 ((i : Int) + 1) = ((i + 1 : Nat) : Int) := by rw [IntKind.wrap_i64]; omega
      rw [ew]
      exact ⟨(i + 1, zs.length - (i + 1)), rfl, ⟨hlt, not_next hn hz (fun e => he e.symm), rfl⟩, by dsimp only; omega, fun _ _ h => h⟩
  · simp only [decide_eq_false_iff_not] at hc
    obtain rfl : i = zs.length := by omega
    rw [List.take_length] at hn
    exact .inr ⟨hn, rfl, rfl⟩
theorem rtab_loopn {h : AHeap} {bx : Nat} {s : Tx} {b : Nat} (h1 : (Option.bind (cellsAt h bx) fun (x : List AV) => partR none x 5) = some (AV.sl none 0 (.fix 0))) :
    W Try.prog (SU [] [] []) b (.inl (.loop p16_l0)) (e16 s bx 0, h) fun e st => (s ∈ ([] : List Tx) ∧ e = .ret ∧ st = (envOf 23 [(4, .int .i64 (([] : List Tx).idxOf s : Nat)), (5, .bool true)], h)) ∨ (s ∉ ([] : List Tx) ∧ e = .exit 0 ∧ st = (envOf 23 [], h)) := by
  refine W_loop (W_postX (C := B16 (.sl none 0 (.fix 0)) b) (tn := n16) (tx := x16) (tr := o16) ((wpP_ok (C := B16 (.sl none 0 (.fix 0)) b) (CU_cw (ks := []) tabs0) 40).1 p16_l0 _ _ (no_parts rfl) ?_))
  rw [← rtab_bodyn]
  exact ⟨h1, askF (by simp) (.inr ⟨by simp, rfl, rfl⟩)⟩
theorem ok16 : QuietOK Try.prog 16 sTable := by
  refine quiet_behind ht16 (fun args h v hv => ?_) (fun args h k o hk ⟨ρ, ha, hw⟩ => free_table hk ha)
  unfold sTable at hv
  split at hv
  · rename_i a b m p1 l1 c1 p2 l2 c2 p3 l3 c3 s
    cases hv
    refine ⟨rfl, [AObj.row 29 7 [.str a, .str b, .int .i64 m, .ext p1 l1 c1, .ext p2 l2 c2, .sl none 0 (.fix 0), .ext p3 l3 c3]], ?_⟩
    suffices hs : ∃ v h', (v = tabA [] s ∧ h' = h ++ [AObj.row 29 7 [.str a, .str b, .int .i64 m, .ext p1 l1 c1, .ext p2 l2 c2, .sl none 0 (.fix 0), .ext p3 l3 c3]]) ∧ CallSem Try.prog 16 [.agg [.str a, .str b, .int .i64 m, .ext p1 l1 c1, .ext p2 l2 c2, .sl none 0 (.fix 0), .ext p3 l3 c3], .str s] h v h' by
      obtain ⟨v, h', ⟨rfl, rfl⟩, hs⟩ := hs
      exact hs
    refine sem_vc mixed (C := C16 s (decide (s ∈ [])) (([] : List Tx).idxOf s : Nat) (fun H bx => H = h ++ [AObj.row 29 7 [.str a, .str b, .int .i64 m, .ext p1 l1 c1, .ext p2 l2 c2, .sl none 0 (.fix 0), .ext p3 l3 c3]] ∧ bx = h.length)) (SU_ok tabs0) (CU_q (ks := [])) (CU_cw (ks := []) tabs0) ht16 c16 (one_part rfl (part_loop (id := 2) rfl rfl fun st K hT => ?_)) (rtab_vcn h a b m p1 p2 p3 l1 c1 l2 c2 l3 c3 s _ _ _ _) ?_
    · obtain ⟨H, bx, rfl, ⟨rfl, rfl⟩, hK⟩ := hT
      refine W_mono (rtab_loopn (fld (hg0 _ _ _) rfl)) fun e st hq => ?_
      rcases hq with ⟨hm, rfl, rfl⟩ | ⟨hm, rfl, rfl⟩
      · rw [decide_eq_true hm] at hK; exact hK
      · rw [decide_eq_false hm] at hK; exact hK
    · simp only [repl1, repl2, repl3, List.append_assoc, List.cons_append, List.nil_append, List.append_nil, len_b1, Nat.add_zero, hs0, hs1, hs2, hs3, hg0, hg1, hg2, hg3, ho0, ho1, ho2, ho3, chkW_true]
      refine ⟨_, h.length, rfl, ⟨rfl, rfl⟩, askI (fun hc => ⟨?_, rfl⟩) (fun hc => ⟨?_, rfl⟩)⟩
      · simp only [decide_eq_true_eq] at hc
        unfold tabA; rw [if_pos hc, decide_eq_true hc]
      · simp only [decide_eq_false_iff_not] at hc
        unfold tabA; rw [if_neg hc, decide_eq_false hc]
  · rename_i a b m p1 l1 c1 p2 l2 c2 k n c p3 l3 c3 s
    simp only [Option.map_eq_some_iff] at hv
    obtain ⟨zs, hr, rfl⟩ := hv
    obtain ⟨cs, h2, h4, rfl, h3⟩ := readT_inv hr
    refine ⟨rfl, [AObj.row 29 7 [.str a, .str b, .int .i64 m, .ext p1 l1 c1, .ext p2 l2 c2, .sl (some (k, 0)) zs.length c, .ext p3 l3 c3]], ?_⟩
    suffices hs : ∃ v h', (v = tabA zs s ∧ h' = h ++ [AObj.row 29 7 [.str a, .str b, .int .i64 m, .ext p1 l1 c1, .ext p2 l2 c2, .sl (some (k, 0)) zs.length c, .ext p3 l3 c3]]) ∧ CallSem Try.prog 16 [.agg [.str a, .str b, .int .i64 m, .ext p1 l1 c1, .ext p2 l2 c2, .sl (some (k, 0)) zs.length c, .ext p3 l3 c3], .str s] h v h' by
      obtain ⟨v, h', ⟨rfl, rfl⟩, hs⟩ := hs
      exact hs
    refine sem_vc mixed (C := C16 s (decide (s ∈ zs)) ((zs : List Tx).idxOf s : Nat) (fun H bx => H = h ++ [AObj.row 29 7 [.str a, .str b, .int .i64 m, .ext p1 l1 c1, .ext p2 l2 c2, .sl (some (k, 0)) zs.length c, .ext p3 l3 c3]] ∧ bx = h.length)) (SU_ok tabs0) (CU_q (ks := [])) (CU_cw (ks := []) tabs0) ht16 c16 (one_part rfl (part_loop (id := 2) rfl rfl fun st K hT => ?_)) (rtab_vc h a b m p1 p2 p3 l1 c1 l2 c2 l3 c3 k zs.length c s _ _ _ _) ?_
    · obtain ⟨H, bx, rfl, ⟨rfl, rfl⟩, hK⟩ := hT
      refine W_mono (rtab_loop (fld (hg0 _ _ _) rfl) (row_app h2 _) h4 h3 (0, zs.length) ⟨Nat.zero_le _, by simp, by simp⟩) fun e st hq => ?_
      rcases hq with ⟨hm, rfl, rfl⟩ | ⟨hm, rfl, rfl⟩
      · rw [decide_eq_true hm] at hK; exact hK
      · rw [decide_eq_false hm] at hK; exact hK
    · simp only [repl1, repl2, repl3, List.append_assoc, List.cons_append, List.nil_append, List.append_nil, len_b1, Nat.add_zero, hs0, hs1, hs2, hs3, hg0, hg1, hg2, hg3, ho0, ho1, ho2, ho3, chkW_true]
      refine ⟨_, h.length, rfl, ⟨rfl, rfl⟩, askI (fun hc => ⟨?_, rfl⟩) (fun hc => ⟨?_, rfl⟩)⟩
      · simp only [decide_eq_true_eq] at hc
        unfold tabA; rw [if_pos hc, decide_eq_true hc]
      · simp only [decide_eq_false_iff_not] at hc
        unfold tabA; rw [if_neg hc, decide_eq_false hc]
  · cases hv
theorem ok8 : QuietOK Try.prog 8 sLive := by
  have h := quiet_nothing (args := []) (v := .bool true) mixed (SE_ok 12).1 (SE_ok 12).2 ht8 c8 rfl rfl live_run
  have e : (fun vs (_ : AHeap) => @ite _ (vs = []) (Classical.propDecidable _) (some (AV.bool true)) none) = sLive := by
    funext vs hp
    cases vs with
    | nil => rw [if_pos rfl]; rfl
    | cons v vs => rw [if_neg (by simp)]; rfl
  rw [← e]
  exact h
theorem tabs6 : TabsOK tq6 [tW 18, tW 19] [] := by
  refine ⟨fun x hx => ?_, by kernel_rfl, fun x hx => ?_, fun x hx => ?_, fun _ h => (by cases h), rfl⟩
  · simp only [tq6, List.mem_cons, List.not_mem_nil, or_false] at hx
    rcases hx with rfl | rfl | rfl | rfl | rfl | rfl
    · exact ok8
    · exact ok12
    · exact ok20
    · exact ok15
    · exact ok16
    · exact ok17
  · simp only [List.mem_cons, List.not_mem_nil, or_false] at hx
    rcases hx with rfl | rfl
    · exact t18_full
    · exact t19_full
  · simp only [List.mem_cons, List.not_mem_nil, or_false] at hx
    rcases hx with rfl | rfl <;> exact TK_ok
theorem len_b2 (h : AHeap) (x y : AObj) : (h ++ [x, y]).length = h.length + 1 + 1 := by simp
theorem words_eq (h : AHeap) (o : AObj) : s17 [.sl (some (h.length + 1, 0)) 33 (.rel 0), .sl (some (h.length + 1 + 1, 0)) 33 (.rel 0)] (h ++ [o, .row 9 1 (strs Wd), .row 9 1 (strs Wd)]) = some (.bool true) := by
  have e1 : readS (h ++ [o, .row 9 1 (strs Wd), .row 9 1 (strs Wd)]) (h.length + 1) 33 = some Wd := readS_W (hg1 _ _ _ _)
  have e2 : readS (h ++ [o, .row 9 1 (strs Wd), .row 9 1 (strs Wd)]) (h.length + 1 + 1) 33 = some Wd := readS_W (hg2 _ _ _ _ _)
  simp only [s17, e1, e2, Option.bind_some, Option.map_some, decide_true]
theorem sem6 {a b s : Tx} {m : Int} {p1 p2 p3 : Option Addr} {l1 c1 l2 c2 l3 c3 n : Nat} {q : Option (Nat × Nat)} {c : ACap} {h : AHeap}
    (hx : (q = none ∧ n = 0 ∧ c = .fix 0) ∨ ∃ k zs cs, q = some (k, 0) ∧ n = zs.length ∧ h[k]? = some (.ro cs) ∧ namesOf cs = some zs ∧ zs.length ≤ 9223372036854775807) :
    ∃ v h', v = AV.bool true ∧ CallSem Try.prog 6 [.agg [.str a, .str b, .int .i64 m, .ext p1 l1 c1, .ext p2 l2 c2, .sl q n c, .ext p3 l3 c3], .str s] h v h' := by
  rcases hx with ⟨rfl, rfl, rfl⟩ | ⟨k, zs, cs, rfl, rfl, h2, h4, h3⟩
  · refine sem_vc mixed (C := C6 ⟨a, b, m, p1, l1, c1, p2, l2, c2, p3, l3, c3⟩ (.sl none 0 (.fix 0))) (SU_ok tabs6) (CU_q (ks := [])) (by intro f T vs hp K hg hT; exact tbWG_ok (Q := Q) tabs6.qq tabs6.t f T vs hp K hg hT) ht6 c6 (no_parts rfl) (law_vcn h a b m p1 p2 p3 l1 c1 l2 c2 l3 c3 s _) ?_
    have hl : ((cellsAt (h ++ [AObj.row 29 (AV.agg [.str a, .str b, .int .i64 m, .ext p1 l1 c1, .ext p2 l2 c2, .sl none 0 (.fix 0), .ext p3 l3 c3]).cells.length (AV.agg [.str a, .str b, .int .i64 m, .ext p1 l1 c1, .ext p2 l2 c2, .sl none 0 (.fix 0), .ext p3 l3 c3]).cells]) h.length).bind fun x => partR (some 7) x 0) = some (AV.agg [.str a, .str b, .int .i64 m, .ext p1 l1 c1, .ext p2 l2 c2, .sl none 0 (.fix 0), .ext p3 l3 c3]) := by
      simp only [cellsAt, hg0, Option.bind_some, objCells]
      rfl
    simp only [repl1, repl2, repl3, List.append_assoc, List.cons_append, List.nil_append, List.append_nil, len_b1, Nat.add_zero, hs0, hs1, hs2, hs3, hg0, hg1, hg2, hg3, ho0, ho1, ho2, ho3, chkW_true, len_b2]
    refine ⟨hl, 0, false, by simp, hl, 0, false, by simp, trivial, rfl, rfl, true, words_eq h _, ?_⟩
    by_cases hw : s ∈ Wd
    · exact ⟨true, by rw [decide_eq_true hw], true, by rw [decide_eq_true hw], trivial⟩
    · exact ⟨false, by rw [decide_eq_false hw], false, by rw [decide_eq_false hw], trivial⟩
  · refine sem_vc mixed (C := C6 ⟨a, b, m, p1, l1, c1, p2, l2, c2, p3, l3, c3⟩ (.sl (some (k, 0)) zs.length c)) (SU_ok tabs6) (CU_q (ks := [])) (by intro f T vs hp K hg hT; exact tbWG_ok (Q := Q) tabs6.qq tabs6.t f T vs hp K hg hT) ht6 c6 (no_parts rfl) (law_vc h a b m p1 p2 p3 l1 c1 l2 c2 l3 c3 k zs.length c s _) ?_
    have hl : ((cellsAt (h ++ [AObj.row 29 (AV.agg [.str a, .str b, .int .i64 m, .ext p1 l1 c1, .ext p2 l2 c2, .sl (some (k, 0)) zs.length c, .ext p3 l3 c3]).cells.length (AV.agg [.str a, .str b, .int .i64 m, .ext p1 l1 c1, .ext p2 l2 c2, .sl (some (k, 0)) zs.length c, .ext p3 l3 c3]).cells]) h.length).bind fun x => partR (some 7) x 0) = some (AV.agg [.str a, .str b, .int .i64 m, .ext p1 l1 c1, .ext p2 l2 c2, .sl (some (k, 0)) zs.length c, .ext p3 l3 c3]) := by
      simp only [cellsAt, hg0, Option.bind_some, objCells]
      rfl
    have hr : readT (h ++ [AObj.row 29 (AV.agg [.str a, .str b, .int .i64 m, .ext p1 l1 c1, .ext p2 l2 c2, .sl (some (k, 0)) zs.length c, .ext p3 l3 c3]).cells.length (AV.agg [.str a, .str b, .int .i64 m, .ext p1 l1 c1, .ext p2 l2 c2, .sl (some (k, 0)) zs.length c, .ext p3 l3 c3]).cells]) k zs.length = some zs := by
      unfold readT
      rw [row_app h2]
      simp only [h4, Option.bind_some]
      rw [if_pos ⟨trivial, h3⟩]
    simp only [repl1, repl2, repl3, List.append_assoc, List.cons_append, List.nil_append, List.append_nil, len_b1, Nat.add_zero, hs0, hs1, hs2, hs3, hg0, hg1, hg2, hg3, ho0, ho1, ho2, ho3, chkW_true, len_b2]
    have hT : sTable [.agg [.str a, .str b, .int .i64 m, .ext p1 l1 c1, .ext p2 l2 c2, .sl (some (k, 0)) zs.length c, .ext p3 l3 c3], .str s] (h ++ [AObj.row 29 (AV.agg [.str a, .str b, .int .i64 m, .ext p1 l1 c1, .ext p2 l2 c2, .sl (some (k, 0)) zs.length c, .ext p3 l3 c3]).cells.length (AV.agg [.str a, .str b, .int .i64 m, .ext p1 l1 c1, .ext p2 l2 c2, .sl (some (k, 0)) zs.length c, .ext p3 l3 c3]).cells]) = some (tabA zs s) := by
      simp only [sTable, hr, Option.map_some]
    have tail : ∀ x : Int, ∃ b, askB b (some (AV.bool (decide (s ∈ Wd))) = some (AV.bool true) ∧ ∃ b, askB b (some (AV.bool (decide (s ∈ Wd))) = some (AV.bool true) ∧ askB (x == x) True (AV.bool false = AV.bool true)) (some (AV.bool (decide (s ∈ Wd))) = some (AV.bool false) ∧ AV.bool false = AV.bool true))
        (some (AV.bool (decide (s ∈ Wd))) = some (AV.bool false) ∧ ∃ b, askB b (some (AV.bool (decide (s ∈ Wd))) = some (AV.bool true) ∧ AV.bool false = AV.bool true) (some (AV.bool (decide (s ∈ Wd))) = some (AV.bool false) ∧ askB (x == x) True (AV.bool false = AV.bool true))) := fun x => by
      by_cases hw : s ∈ Wd
      · exact ⟨true, by rw [decide_eq_true hw], true, by rw [decide_eq_true hw], askT (by simp) trivial⟩
      · exact ⟨false, by rw [decide_eq_false hw], false, by rw [decide_eq_false hw], askT (by simp) trivial⟩
    by_cases hm : s ∈ zs
    · unfold tabA at hT
      rw [if_pos hm, decide_eq_true hm] at hT
      exact ⟨hl, _, true, hT, hl, _, true, hT, trivial, rfl, rfl, true, words_eq h _, tail _⟩
    · unfold tabA at hT
      rw [if_neg hm, decide_eq_false hm] at hT
      exact ⟨hl, _, false, hT, hl, _, false, hT, trivial, rfl, rfl, true, words_eq h _, tail _⟩
theorem cells29 : Try.prog.cellsOf 29 = 7 := by kernel_rfl
theorem cells25 : Try.prog.cellsOf 25 = 4 := by kernel_rfl
theorem cells83 : Try.prog.cellsOf 83 = 2 := by kernel_rfl
theorem cells9 : Try.prog.cellsOf 9 = 1 := by kernel_rfl
theorem cells3 : Try.prog.cellsOf 3 = 1 := by kernel_rfl
theorem cells26 : Try.prog.cellsOf 26 = 1 := by kernel_rfl
theorem cells27 : Try.prog.cellsOf 27 = 1 := by kernel_rfl
theorem cells22 : Try.prog.cellsOf 22 = 1 := by kernel_rfl
theorem cells23 : Try.prog.cellsOf 23 = 1 := by kernel_rfl
theorem cells81 : Try.prog.cellsOf 81 = 1 := by kernel_rfl
theorem list_of {α : Type} {p : Nat → α → Prop} : ∀ n : Nat, (∀ i, i < n → ∃ a, p i a) → ∃ L : List α, L.length = n ∧ ∀ i a, L[i]? = some a → p i a
  | 0, _ => ⟨[], rfl, fun i a h => by simp at h⟩
  | n + 1, h => by
    obtain ⟨L, hl, hp⟩ := list_of n fun i hi => h i (by omega)
    obtain ⟨a, ha⟩ := h n (by omega)
    refine ⟨L ++ [a], by simp [hl], fun i b hb => ?_⟩
    rw [List.getElem?_append] at hb
    split at hb
    · exact hp i b hb
    · rename_i hge
      have : i - L.length = 0 := by
        rcases Nat.eq_zero_or_pos (i - L.length) with q | q
        · exact q
        · rw [List.getElem?_eq_none (by simp; omega)] at hb; cases hb
      rw [this] at hb
      simp only [List.getElem?_cons_zero, Option.some.injEq] at hb
      subst hb
      rw [show i = n by omega]
      exact ha
theorem mapM_get2 {α β : Type} {f : α → Option β} : ∀ {l : List α} {r : List β}, l.mapM f = some r → ∀ (i : Nat) (x : α), l[i]? = some x → f x = r[i]?
  | l, r, h, i, x, hx => by
    obtain ⟨y, h1, h2⟩ := mapM_get h i x hx
    rw [h1, h2]
/-- A table: its name, its steps. -/
structure TabI where
  nm : Tx
  p : Option Addr
  l : Nat
  c : Nat
def TabI.cells (t : TabI) : List AV := [.str t.nm, .ext t.p t.l t.c]
def cellsT : List TabI → List AV
  | [] => []
  | o :: L => TabI.cells o ++ cellsT L
theorem cellsT_length : ∀ L : List TabI, (cellsT L).length = L.length * 2
  | [] => rfl
  | o :: L => by
    rw [cellsT, List.length_append, cellsT_length L]
    simp [TabI.cells]; omega
theorem cellsT_at : ∀ {L : List TabI} {i : Nat} {s : TabI}, L[i]? = some s → ((cellsT L).drop (i * 2)).take 2 = TabI.cells s
  | o :: L, 0, s, h => by cases h; rfl
  | o :: L, i + 1, s, h => by
    rw [cellsT, show (i + 1) * 2 = (TabI.cells o).length + i * 2 from by simp [TabI.cells]; omega, List.drop_length_add_append]
    exact cellsT_at (by simpa using h)
theorem cellT_at {L : List TabI} {i j : Nat} {s : TabI} (h : L[i]? = some s) (hj : j < 2) : (cellsT L)[i * 2 + j]? = (TabI.cells s)[j]? := by
  have h2 := congrArg (·[j]?) (cellsT_at h)
  simp only [List.getElem?_take_of_lt hj, List.getElem?_drop] at h2
  exact h2
theorem cellsT_closed : ∀ L : List TabI, (cellsT L).all AV.closed = true
  | [] => rfl
  | o :: L => by
    rw [cellsT, List.all_append, cellsT_closed L]
    rfl
theorem cellsT_names : ∀ L : List TabI, namesOf (cellsT L) = some (L.map (·.nm))
  | [] => rfl
  | o :: L => by
    show (namesOf (cellsT L)).map (o.nm :: ·) = _
    rw [cellsT_names L]; rfl
theorem str_back (s : ByteArray) (ρ : Rho) : (AV.str s.data.toList).real ρ = .string s := by
  simp [AV.real]
section
variable {H : Type} {enc : TypeId × Value → H} {w : World} {base : Nat} {spare : Nat → Bool} {held : Bool} {fuel : Nat} {cs : List Value} {x : DataW H × List MemPlace}
theorem ofld {fs : Array Field} {n : Nat} {xs : List (DataW H × List MemPlace)} (hf : ∀ (i : Nat) (f : Field), fs[i]? = some f → DataW.trod enc Try.prog w base spare held n f.type ((cs.drop f.offset).take (Try.prog.cellsOf f.type)) = xs[i]?)
    (i : Nat) {t off : Nat} (h : (fs[i]?).map (fun f => (f.type, f.offset)) = some (t, off)) {k : Nat} (hc : Try.prog.cellsOf t = k) : DataW.trod enc Try.prog w base spare held n t ((cs.drop off).take k) = xs[i]? := by
  simp only [Option.map_eq_some_iff, Prod.mk.injEq] at h
  obtain ⟨f, h1, rfl, rfl⟩ := h
  rw [← hc]
  exact hf i f h1
theorem open_slice {t e : TypeId} (ht : Try.prog.underlying t = some (.slice e)) {v : Value} (h : DataW.trod enc Try.prog w base spare held fuel t [v] = some x) : ∃ p l c, v = .slice p l c := by
  rcases DataW.trod_slice ht h with ⟨e1, -⟩ | ⟨a, l, c, elems, rest, n, -, e1, -⟩
  · simp only [List.cons.injEq, and_true] at e1; exact ⟨_, _, _, e1⟩
  · simp only [List.cons.injEq, and_true] at e1; exact ⟨_, _, _, e1⟩
theorem open_tab (h : DataW.trod enc Try.prog w base spare held fuel 83 cs = some x) : ∃ o : TabI, ∀ ρ, cs = (TabI.cells o).map (AV.real ρ) := by
  obtain ⟨xs, n, rfl, rfl, hl, hx, hf⟩ := DataW.trod_struct Try.underlying83 h
  rw [cells83] at hl
  obtain ⟨v0, v1, rfl⟩ : ∃ v0 v1, cs = [v0, v1] := by
    match cs, hl with
    | [v0, v1], _ => exact ⟨_, _, rfl⟩
  obtain ⟨y0, y1, rfl⟩ : ∃ y0 y1, xs = [y0, y1] := by
    match xs, hx with
    | [y0, y1], _ => exact ⟨_, _, rfl⟩
  have h0 : DataW.trod enc Try.prog w base spare held n 9 [v0] = some y0 := ofld hf 0 rfl cells9
  have h1 : DataW.trod enc Try.prog w base spare held n 81 [v1] = some y1 := ofld hf 1 rfl cells81
  obtain ⟨s, e0, -⟩ := DataW.trod_string Try.underlying9 h0
  obtain ⟨p, l, c, rfl⟩ := open_slice Try.underlying81 h1
  simp only [List.cons.injEq, and_true] at e0
  subst e0
  refine ⟨⟨s.data.toList, p, l, c⟩, fun ρ => ?_⟩
  simp only [TabI.cells, List.map_cons, List.map_nil, str_back]
  rfl
/-- What a definition is, as far as it is looked at. -/
def DefIn (w : World) (v : Value) (d : DefA) (sl : AV) (L : List TabI) (r : RL) : Prop :=
  (∀ ρ : Rho, ρ 0 = r → v = (AV.agg (d.cells sl)).real ρ) ∧ ((sl = .sl none 0 (.fix 0) ∧ L = []) ∨ ∃ c, sl = .sl (some (0, 0)) L.length (.fix c) ∧ L.length ≤ c ∧ L.length ≤ 9223372036854775807 ∧ r.blk < w.heap.size ∧ ∀ ρ i u, (cellsT L)[i]? = some u → w.cell? ⟨r.blk, r.off + i, none⟩ = some (u.real ρ))
theorem open_def {v : Value} (hk : Value.okWide Try.prog w .any base 29 v) (h : DataW.trod enc Try.prog w 0 spare held fuel 29 v.cells.toList = some x) : ∃ d sl L r, DefIn w v d sl L r := by
  obtain ⟨cs, rfl, hsz, ts, hts, -, hrow⟩ : ∃ cs, v = .agg cs ∧ cs.size = Try.prog.cellsOf 29 ∧ Row.okWide Try.prog w .any base 29 cs := by
    simp only [Value.okWide, Try.underlying29] at hk
    exact hk
  rw [cells29] at hsz
  obtain ⟨l, rfl⟩ : ∃ l : List Value, cs = l.toArray := ⟨cs.toList, by simp⟩
  obtain ⟨v0, v1, v2, v3, v4, v5, v6, rfl⟩ : ∃ v0 v1 v2 v3 v4 v5 v6, l = [v0, v1, v2, v3, v4, v5, v6] := by
    match l, (by simpa using hsz : l.length = 7) with
    | [v0, v1, v2, v3, v4, v5, v6], _ => exact ⟨_, _, _, _, _, _, _, rfl⟩
  have ht : ts = [9, 9, 3, 22, 23, 26, 27] := by
    have : Try.prog.cellTypes Try.prog.depth 29 = some [9, 9, 3, 22, 23, 26, 27] := by kernel_rfl
    rw [this] at hts
    exact (Option.some.inj hts).symm
  subst ht
  have k5 : Cell.okWide Try.prog w .any base 26 v5 := by
    obtain ⟨u, hu, hc⟩ := hrow 5 v5 (by simp)
    simp at hu
    subst hu
    exact hc
  have hk5 : Value.okWide Try.prog w .any base 26 v5 := by
    simp only [Value.okWide, Try.underlying26]; exact k5
  have ec : (Value.agg #[v0, v1, v2, v3, v4, v5, v6]).cells.toList = [v0, v1, v2, v3, v4, v5, v6] := rfl
  rw [ec] at h
  obtain ⟨xs, n, -, rfl, hl, hx, hf⟩ := DataW.trod_struct Try.underlying29 h
  obtain ⟨y0, y1, y2, y3, rfl⟩ : ∃ y0 y1 y2 y3, xs = [y0, y1, y2, y3] := by
    match xs, hx with
    | [y0, y1, y2, y3], _ => exact ⟨_, _, _, _, rfl⟩
  have h0 : DataW.trod enc Try.prog w 0 spare held n 9 [v0] = some y0 := ofld hf 0 rfl cells9
  have h1 : DataW.trod enc Try.prog w 0 spare held n 25 [v1, v2, v3, v4] = some y1 := ofld hf 1 rfl cells25
  have h5 : DataW.trod enc Try.prog w 0 spare held n 26 [v5] = some y2 := ofld hf 2 rfl cells26
  have h6 : DataW.trod enc Try.prog w 0 spare held n 27 [v6] = some y3 := ofld hf 3 rfl cells27
  obtain ⟨s0, e0, -⟩ := DataW.trod_string Try.underlying9 h0
  obtain ⟨zs, m, -, -, -, hz, hg⟩ := DataW.trod_struct Try.underlying25 h1
  obtain ⟨z0, z1, z2, z3, rfl⟩ : ∃ z0 z1 z2 z3, zs = [z0, z1, z2, z3] := by
    match zs, hz with
    | [z0, z1, z2, z3], _ => exact ⟨_, _, _, _, rfl⟩
  have g0 : DataW.trod enc Try.prog w 0 spare held m 9 [v1] = some z0 := ofld hg 0 rfl cells9
  have g1 : DataW.trod enc Try.prog w 0 spare held m 3 [v2] = some z1 := ofld hg 1 rfl cells3
  have g2 : DataW.trod enc Try.prog w 0 spare held m 22 [v3] = some z2 := ofld hg 2 rfl cells22
  have g3 : DataW.trod enc Try.prog w 0 spare held m 23 [v4] = some z3 := ofld hg 3 rfl cells23
  obtain ⟨s1, e1, -⟩ := DataW.trod_string Try.underlying9 g0
  obtain ⟨mx, e2, -, -⟩ := DataW.trod_int Try.underlying3 g1
  obtain ⟨p1, l1, c1, rfl⟩ := open_slice Try.underlying22 g2
  obtain ⟨p2, l2, c2, rfl⟩ := open_slice Try.underlying23 g3
  obtain ⟨p3, l3, c3, rfl⟩ := open_slice Try.underlying27 h6
  simp only [List.cons.injEq, and_true] at e0 e1 e2
  subst e0 e1 e2
  have real : ∀ (sl : AV) (ρ : Rho), v5 = sl.real ρ → Value.agg #[.string s0, .string s1, .int .i64 mx, .slice p1 l1 c1, .slice p2 l2 c2, v5, .slice p3 l3 c3] = (AV.agg ((⟨s0.data.toList, s1.data.toList, mx, p1, l1, c1, p2, l2, c2, p3, l3, c3⟩ : DefA).cells sl)).real ρ := fun sl ρ e => by
    simp only [DefA.cells, AV.real, AV.reals, ← e]
  rcases DataW.trod_slice Try.underlying26 h5 with ⟨e, -⟩ | ⟨a, l, c, elems, rest, n', -, e, -, -, hlc, hcm, hel, hg5, -, -⟩
  · simp only [List.cons.injEq, and_true] at e
    subst e
    exact ⟨_, .sl none 0 (.fix 0), [], ⟨0, 0, 0⟩, fun ρ _ => real _ ρ rfl, .inl ⟨rfl, rfl⟩⟩
  · simp only [List.cons.injEq, and_true] at e
    subst e
    obtain ⟨hs, hb⟩ := okWide_row Try.underlying26 hk5
    rw [cells83] at hg5
    have step : ∀ i, i < l → ∃ s : TabI, ∀ ρ, w.cells? 0 (a.add (i * 2)) 2 = some ((TabI.cells s).map (AV.real ρ)) := fun i hi => by
      have g := hg5 i hi
      rw [List.getElem?_eq_getElem (by omega)] at g
      obtain ⟨cs, h1, h2⟩ := Option.bind_eq_some_iff.1 g
      obtain ⟨s, hsec⟩ := open_tab h2
      exact ⟨s, fun ρ => by rw [← hsec ρ]; exact h1⟩
    obtain ⟨L, hL1, hL2⟩ := list_of l step
    obtain ⟨b, off, sp⟩ := a
    simp only at hs hb
    subst hs
    refine ⟨_, .sl (some (0, 0)) L.length (.fix c), L, ⟨b, off, 0⟩, fun ρ hρ => real _ ρ ?_, .inr ⟨c, rfl, by omega, by unfold maxLen at hcm; omega, hb, fun ρ i u hu => ?_⟩⟩
    · simp [AV.real, adr, hρ, hL1, ACap.real]
    have hi : i < L.length * 2 := by
      rw [← cellsT_length]
      rcases Nat.lt_or_ge i (cellsT L).length with q | q
      · exact q
      · rw [List.getElem?_eq_none q] at hu; cases hu
    have hq : i / 2 < L.length := by omega
    have hc := hL2 (i / 2) L[i / 2] (List.getElem?_eq_getElem hq) ρ
    unfold World.cells? at hc
    rw [if_pos (Nat.zero_le _)] at hc
    have hj := mapM_get2 hc (i % 2) (i % 2) (List.getElem?_range (by omega))
    have hat := cellT_at (i := i / 2) (j := i % 2) (List.getElem?_eq_getElem hq) (by omega)
    rw [show i / 2 * 2 + i % 2 = i by omega, hu] at hat
    rw [List.getElem?_map, ← hat] at hj
    have hadd : (Addr.add ⟨b, off, none⟩ (i / 2 * 2)).add (i % 2) = ⟨b, off + i, none⟩ := by
      unfold Addr.add
      split <;> split <;> simp <;> omega
    rw [hadd] at hj
    exact hj
end

end Go.Proofs.Ytfnlokknpldkgaa
