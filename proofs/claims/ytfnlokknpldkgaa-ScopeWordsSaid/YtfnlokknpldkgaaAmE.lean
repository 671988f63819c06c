/- Numbers, texts, sameness. -/
import Derived.Test.YtfnlokknpldkgaaAmD
import Derived.ChangeKeysEq
import Derived.LaidEql
set_option linter.unusedVariables false
set_option linter.unusedSimpArgs false
namespace Go.Am
open Go Go.RowKit
section
variable {P : Program} {ρ : Rho} {B : Fr} {w0 w : World} {h : AHeap}
theorem intOp_sound {op : BinOp} {t : TypeId} {k : IntKind} {a b : Int} {v : AV} (hv : intOp op k a b = some v) :
    (binOp op t (.int k a) (.int k b)).run P w = .ok (v.real ρ) w ∧ v.ok h ρ := by
  cases op <;> simp only [intOp, Option.some.injEq, reduceCtorEq] at hv
  case quo =>
    split at hv
    · cases hv
    · rename_i hb; cases hv; exact ⟨by simp [binOp, Op.intDiv, hb, AV.real], rfl⟩
  case rem =>
    split at hv
    · cases hv
    · rename_i hb; cases hv; exact ⟨by simp [binOp, Op.intDiv, hb, AV.real], rfl⟩
  all_goals (subst hv; refine ⟨?_, rfl⟩; simp [binOp, Op.intArith, Op.intBits, Op.intCmp, AV.real])
theorem strOp_sound {op : BinOp} {x y : List UInt8} {v : AV} (hv : strOp op x y = some v) :
    (Op.stringOp op ⟨x.toArray⟩ ⟨y.toArray⟩).run P w = .ok (v.real ρ) w ∧ v.ok h ρ := by
  have hx := toList_mk x
  have hy := toList_mk y
  cases op <;> simp only [strOp, Option.some.injEq, reduceCtorEq] at hv
  case add =>
    split at hv
    · rename_i hle
      cases hv
      refine ⟨?_, rfl⟩
      unfold Op.stringOp
      simp only [size_str]
      rw [if_neg (by simp [IntKind.max, IntKind.signed, IntKind.bits]; omega)]
      simp only [Sem.run_pure, AV.real]
      congr 3
    · cases hv
  all_goals (subst hv; refine ⟨?_, rfl⟩; simp [Op.stringOp, AV.real, hx, hy])
theorem strOp_bin {op : BinOp} {t : TypeId} {x y : List UInt8} {v : AV} (hv : strOp op x y = some v) :
    (binOp op t (.string ⟨x.toArray⟩) (.string ⟨y.toArray⟩)).run P w = .ok (v.real ρ) w ∧ v.ok h ρ := by
  have := strOp_sound (P := P) (w := w) (ρ := ρ) (h := h) hv
  cases op <;> first | exact this | (simp [strOp] at hv)
theorem beq_str (x y : List UInt8) : ((⟨x.toArray⟩ : ByteArray) == ⟨y.toArray⟩) = (x == y) := by
  rw [beq_toListBytes, toList_mk, toList_mk]
theorem run_eqFields (d : Nat) (IH : ∀ (t : TypeId) (x y : AV) (e : Bool), eqA P d t x y = some e → (Op.equalIn d t (x.real ρ) (y.real ρ)).run P w = .ok e w)
    (xs ys : List AV) : ∀ (fs : List Field) (e : Bool),
      fs.foldr (fun f r => if f.name = "_" then r else
        (partA P f.type xs f.offset).bind fun a => (partA P f.type ys f.offset).bind fun b => (eqA P d f.type a b).bind fun e => r.map (e && ·)) (some true) = some e →
      (Op.eqFields d (xs.map (AV.real ρ)).toArray (ys.map (AV.real ρ)).toArray fs).run P w = .ok e w
  | [], e, he => by simp only [List.foldr_nil, Option.some.injEq] at he; subst he; rfl
  | f :: fs, e, he => by
    simp only [List.foldr_cons] at he
    by_cases hn : f.name = "_"
    · rw [if_pos hn] at he
      simp only [Op.eqFields, hn, ne_eq, not_true, if_false]
      exact run_eqFields d IH xs ys fs e he
    · rw [if_neg hn] at he
      simp only [Option.bind_eq_some_iff, Option.map_eq_some_iff] at he
      obtain ⟨a, ha, b, hb, q, hq, r, hr, rfl⟩ := he
      have ih := run_eqFields d IH xs ys fs r hr
      simp only [Op.eqFields, hn, ne_eq, not_false_eq_true, if_true, Sem.run_bind, run_part ha, run_part hb, Result.andThen_ok, IH _ _ _ _ hq]
      cases q <;> simp [ih]
theorem run_eqItems (d : Nat) (IH : ∀ (t : TypeId) (x y : AV) (e : Bool), eqA P d t x y = some e → (Op.equalIn d t (x.real ρ) (y.real ρ)).run P w = .ok e w)
    (elem s : Nat) (xs ys : List AV) : ∀ (is : List Nat) (e : Bool),
      is.foldr (fun i r => (partA P elem xs (i * s)).bind fun a => (partA P elem ys (i * s)).bind fun b => (eqA P d elem a b).bind fun q => r.map (q && ·)) (some true) = some e →
      (Op.eqItems d elem s (xs.map (AV.real ρ)).toArray (ys.map (AV.real ρ)).toArray is).run P w = .ok e w
  | [], e, he => by simp only [List.foldr_nil, Option.some.injEq] at he; subst he; rfl
  | i :: is, e, he => by
    simp only [List.foldr_cons, Option.bind_eq_some_iff, Option.map_eq_some_iff] at he
    obtain ⟨a, ha, b, hb, q, hq, r, hr, rfl⟩ := he
    have ih := run_eqItems d IH elem s xs ys is r hr
    simp only [Op.eqItems, Sem.run_bind, run_part ha, run_part hb, Result.andThen_ok, IH _ _ _ _ hq]
    cases q with
    | true => simpa using ih
    | false => simp
theorem eqA_sound : ∀ (d : Nat) (t : TypeId) (x y : AV) (e : Bool), eqA P d t x y = some e → (Op.equalIn d t (x.real ρ) (y.real ρ)).run P w = .ok e w
  | 0, t, x, y, e, he => by simp [eqA] at he
  | d + 1, t, x, y, e, he => by
    have IH := eqA_sound d
    unfold eqA at he
    split at he
    · rename_i a b hu; cases he; simp [Op.equalIn, run_underlying hu w, AV.real]
    · rename_i k a k' b hu
      split at he
      · rename_i hk; cases he; simp [Op.equalIn, run_underlying hu w, AV.real, hk]
      · cases he
    · rename_i a b hu; cases he; simp [Op.equalIn, run_underlying hu w, AV.real, beq_str]
    · rename_i b hu; cases he; cases b <;> simp [Op.equalIn, run_underlying hu w, AV.real]
    · rename_i b hu; cases he; simp [Op.equalIn, run_underlying hu w, AV.real]
    · rename_i l c b m c' hu; cases he; cases b <;> simp [Op.equalIn, run_underlying hu w, AV.real]
    · rename_i a l c m c' hu; cases he; simp [Op.equalIn, run_underlying hu w, AV.real]
    · rename_i b hu; cases he; cases b <;> simp [Op.equalIn, run_underlying hu w, AV.real]
    · rename_i a hu; cases he; simp [Op.equalIn, run_underlying hu w, AV.real]
    · rename_i fs xs ys hu
      split at he
      · cases he
      · rename_i hp
        have hfo : P.fieldsOf t = fs := by simp [Program.fieldsOf, hu]
        have h1 := run_equalIn_struct (P := P) w d t (xs.map (AV.real ρ)).toArray (ys.map (AV.real ρ)).toArray (by rw [hfo]; exact hu) (by simpa using hp)
        simp only [AV.real, reals_eq]
        rw [h1, hfo]
        exact run_eqFields d IH xs ys _ _ he
    · rename_i n elem xs ys hu
      simp only [Option.bind_eq_some_iff] at he
      obtain ⟨s, hs, he⟩ := he
      obtain ⟨inf, hi, hsz⟩ := run_typeSome hs
      have hc : P.cellsOf elem = s := by simp [Program.cellsOf, hi, hsz]
      simp only [AV.real, reals_eq]
      rw [run_equalIn_array w d _ _ hu hi, hc]
      exact run_eqItems d IH elem s xs ys _ _ he
    · cases he
theorem eqGuard_skip {op : BinOp} {t : TypeId} {x y : Operand} {a b : Value} (h1 : ¬ (a = .nilIface ∧ b = .nilIface)) (h2 : ∀ xs ys, ¬ (a = .agg xs ∧ b = .agg ys)) :
    (eqGuard op t x y a b).run P w = .ok () w := by
  cases op <;> first | rfl | (cases a <;> first | rfl | (cases b <;> first | rfl | exact absurd ⟨rfl, rfl⟩ h1 | exact absurd ⟨rfl, rfl⟩ (h2 _ _)))
theorem real_no_iface {v : AV} (ht : v ≠ .nilIfc) : v.real ρ ≠ .nilIface := by
  cases v with
  | ptr a => cases a <;> simp [AV.real]
  | sl a l c => cases a <;> simp [AV.real]
  | map a => cases a <;> simp [AV.real]
  | any => simp [AV.real, undef]
  | nilIfc => exact absurd rfl ht
  | und => simp [AV.real, undef]
  | _ => simp [AV.real]
theorem bin_sound {op : BinOp} {t : TypeId} {xo yo : Operand} {x y v : AV} (hv : binA P op t x y = some v) :
    (eqGuard op t xo yo (x.real ρ) (y.real ρ)).run P w = .ok () w ∧ (binOp op t (x.real ρ) (y.real ρ)).run P w = .ok (v.real ρ) w ∧ v.ok h ρ := by
  unfold binA at hv
  split at hv
  · exact ⟨eqGuard_skip (by simp [AV.real]) (by simp [AV.real]), by simp only [AV.real, binOp]; exact shift_sound hv⟩
  · exact ⟨eqGuard_skip (by simp [AV.real]) (by simp [AV.real]), by simp only [AV.real, binOp]; exact shift_sound hv⟩
  · split at hv
    · rename_i hk; subst hk
      exact ⟨eqGuard_skip (by simp [AV.real]) (by simp [AV.real]), intOp_sound hv⟩
    · cases hv
  · exact ⟨eqGuard_skip (by simp [AV.real]) (by simp [AV.real]), strOp_bin hv⟩
  · split at hv
    · cases hv
    · rename_i a b hg
      simp only [Option.map_eq_some_iff] at hv
      obtain ⟨e, he, rfl⟩ := hv
      have h1 := eqA_sound (w := w) (ρ := ρ) _ _ _ _ _ he
      simp only [AV.real, reals_eq] at h1 ⊢
      refine ⟨run_eqGuard_agg w .eql t xo yo _ _ (by simpa using hg), ?_, rfl⟩
      simp [binOp, Op.equal, h1]
  · split at hv
    · cases hv
    · rename_i a b hg
      simp only [Option.map_eq_some_iff] at hv
      obtain ⟨e, he, rfl⟩ := hv
      have h1 := eqA_sound (w := w) (ρ := ρ) _ _ _ _ _ he
      simp only [AV.real, reals_eq] at h1 ⊢
      refine ⟨run_eqGuard_agg w .neq t xo yo _ _ (by simpa using hg), ?_, rfl⟩
      simp [binOp, Op.equal, h1]
  all_goals first
    | (cases hv; done)
    | (rename_i a b
       simp only [Option.map_eq_some_iff] at hv
       obtain ⟨e, he, rfl⟩ := hv
       have h1 := eqA_sound (w := w) (ρ := ρ) _ _ _ _ _ he
       refine ⟨eqGuard_skip (fun hh => real_no_iface (by simp) hh.1) (fun xs ys hh => ?_), ?_, rfl⟩
       · revert hh; cases a <;> simp [AV.real]
       · revert h1; cases a <;> cases b <;> simp only [AV.real] <;> intro h1 <;> simp [binOp, Op.equal, h1])
    | (rename_i a l c b m d
       simp only [Option.map_eq_some_iff] at hv
       obtain ⟨e, he, rfl⟩ := hv
       have h1 := eqA_sound (w := w) (ρ := ρ) _ _ _ _ _ he
       refine ⟨eqGuard_skip (fun hh => real_no_iface (by simp) hh.1) (fun xs ys hh => ?_), ?_, rfl⟩
       · revert hh; cases a <;> simp [AV.real]
       · revert h1; cases a <;> cases b <;> simp only [AV.real] <;> intro h1 <;> simp [binOp, Op.equal, h1])
theorem own_row {k : Nat} (h1 : ownRow h k = true) : ∃ t sz cs, h[k]? = some (.row t sz cs) := by
  unfold ownRow at h1
  split at h1
  · exact ⟨_, _, _, by assumption⟩
  · cases h1
theorem ptrEq_sound (hI : Inv ρ B w0 h w) {t : TypeId} {k o k' o' : Nat} {e : Bool} (hv : ptrEqA P h t k o k' o' = some e) (d : Nat) :
    (Op.equalIn (d + 1) t (AV.real ρ (.ptr (some (k, o)))) (AV.real ρ (.ptr (some (k', o'))))).run P w = .ok e w := by
  unfold ptrEqA at hv
  split at hv
  · rename_i el hu
    split at hv
    · rename_i n hs
      obtain ⟨i, hi, hsz⟩ := run_typeSome hs
      have hne : i.size ≠ 0 := by omega
      split at hv
      · rename_i hk
        subst hk
        cases hv
        by_cases ho : o = o'
        · subst ho; simp [Op.equalIn, AV.real, run_underlying hu, sizeOf, typeInfo, hi, hne, run_sameAddr_same]
        · simp [Op.equalIn, AV.real, run_underlying hu, sizeOf, typeInfo, hi, hne, sameAddr, ho]
      · rename_i hk
        split at hv
        · rename_i hown
          cases hv
          simp only [Bool.and_eq_true] at hown
          obtain ⟨t1, s1, c1, g1⟩ := own_row hown.1
          obtain ⟨t2, s2, c2, g2⟩ := own_row hown.2
          have hb := hI.sep k k' _ _ g1 g2 rfl rfl hk
          obtain ⟨-, -, a1, b1, -⟩ := hI.obj k _ g1
          obtain ⟨-, -, a2, b2, -⟩ := hI.obj k' _ g2
          have := run_sameAddr_other (P := P) w (a := ⟨(ρ k).blk, (ρ k).off + o, none⟩) (b := ⟨(ρ k').blk, (ρ k').off + o', none⟩) (fun e => hb (congrArg Addr.block e)) b1 b2
          simp [Op.equalIn, AV.real, run_underlying hu, sizeOf, typeInfo, hi, hne, this]
        · cases hv
    · cases hv
  · cases hv
theorem binH_sound (hI : Inv ρ B w0 h w) {op : BinOp} {t : TypeId} {xo yo : Operand} {x y v : AV} (hv : binH P h op t x y = some v) :
    (eqGuard op t xo yo (x.real ρ) (y.real ρ)).run P w = .ok () w ∧ (binOp op t (x.real ρ) (y.real ρ)).run P w = .ok (v.real ρ) w ∧ v.ok h ρ := by
  unfold binH at hv
  split at hv
  · rename_i k o k' o'
    simp only [Option.map_eq_some_iff] at hv
    obtain ⟨e, he, rfl⟩ := hv
    have h1 := ptrEq_sound hI he 9999
    refine ⟨eqGuard_skip (by simp [AV.real]) (by simp [AV.real]), ?_, rfl⟩
    simp only [AV.real] at h1 ⊢
    simp only [binOp]
    simp [Op.equal, Op.maxDepth, h1]
  · rename_i k o k' o'
    simp only [Option.map_eq_some_iff] at hv
    obtain ⟨e, he, rfl⟩ := hv
    have h1 := ptrEq_sound hI he 9999
    refine ⟨eqGuard_skip (by simp [AV.real]) (by simp [AV.real]), ?_, rfl⟩
    simp only [AV.real] at h1 ⊢
    simp only [binOp]
    simp [Op.equal, Op.maxDepth, h1]
  · exact bin_sound hv
end
end Go.Am
