/- Written by merging: Sa Sb Sc Sd Se Sf Sg Rza. -/
import Derived.Test.YtddalcnajejibaaDoorNc
import Derived.Test.YtddalcnajejibaaDoorNb
import Derived.Test.YtddalcnajejibaaDoorNa
import Derived.OpenShut
import Derived.WideShapes
import Derived.ChangeOld
namespace Go.Proofs.YtddalcnajejibaaDoor
open Go Go.Am Go.RowKit Go.WideShapes
set_option maxRecDepth 100000
set_option maxHeartbeats 2000000
set_option linter.unusedVariables false
set_option linter.unusedSimpArgs false

def Dg (l : List UInt8) : Prop := ∀ c ∈ l, isD c = true
def tlD (D : List UInt8) : List UInt8 := if D = [] then [] else 46 :: D
def mk (neg : Bool) (W D : List UInt8) : List UInt8 := (if neg then [45] else []) ++ (W ++ tlD D)
def nz (l : List UInt8) : Bool := l.any (· != 48)
def OkD (neg : Bool) (W D : List UInt8) : Prop := (Dg W ∧ Dg D) ∧ (W ≠ [] ∧ (W.getD 0 0 = 48 → W.length = 1)) ∧ (neg = true → nz (W ++ D) = true)
theorem dg_app {a b : List UInt8} (ha : Dg a) (hb : Dg b) : Dg (a ++ b) := fun c hc => by
  rcases List.mem_append.1 hc with hc | hc
  · exact ha c hc
  · exact hb c hc
theorem runD_app : ∀ {W : List UInt8} (r : List UInt8), Dg W → runD (W ++ r) = W.length + runD r
  | [], r, _ => by simp
  | c :: W, r, h => by
    have ih := runD_app (W := W) r fun d hd => h d (List.mem_cons_of_mem _ hd)
    rw [List.cons_append, runD, if_pos (h c (List.mem_cons_self ..)), ih, List.length_cons]; omega
theorem runD_dot (r : List UInt8) : runD (46 :: r) = 0 := rfl
theorem runD_all {D : List UInt8} (h : Dg D) : runD D = D.length := by
  have := runD_app [] h
  rw [List.append_nil] at this
  exact this
theorem nzD_app : ∀ {W : List UInt8} (r : List UInt8), Dg W → nzD (W ++ r) = (nz W || nzD r)
  | [], r, _ => by simp [nz]
  | c :: W, r, h => by
    have ih := nzD_app (W := W) r fun d hd => h d (List.mem_cons_of_mem _ hd)
    rw [List.cons_append, nzD, if_pos (h c (List.mem_cons_self ..)), ih]
    simp [nz, Bool.or_assoc]
theorem nzD_dot (r : List UInt8) : nzD (46 :: r) = false := rfl
theorem nzD_all {D : List UInt8} (h : Dg D) : nzD D = nz D := by
  have := nzD_app [] h
  rw [List.append_nil] at this
  rw [this]; exact Bool.or_false _
theorem getD_pre (pre t : List UInt8) (j : Nat) : (pre ++ t).getD (pre.length + j) 0 = t.getD j 0 := by
  rw [List.getD_eq_getElem?_getD, List.getElem?_append_right (by omega), Nat.add_sub_cancel_left, ← List.getD_eq_getElem?_getD]
theorem drop_pre (pre t : List UInt8) (j : Nat) : (pre ++ t).drop (pre.length + j) = t.drop j := List.drop_length_add_append ..
theorem nz_app (a b : List UInt8) : nz (a ++ b) = (nz a || nz b) := by simp [nz]
theorem wRf_mk {pre W D : List UInt8} (hW : Dg W) (hD : Dg D) (h0 : W ≠ []) (h1 : W.getD 0 0 = 48 → W.length = 1) : wRf (pre ++ (W ++ tlD D)) pre.length = (nz (W ++ D) || (pre ++ (W ++ tlD D)).getD 0 0 != 45) := by
  have hl : 0 < W.length := List.length_pos_iff.2 h0
  have hg0 : (W ++ tlD D).getD 0 0 = W.getD 0 0 := by
    cases W with
    | nil => cases hl
    | cons c W => rfl
  have e0 := drop_pre pre (W ++ tlD D) 0
  have g0 := getD_pre pre (W ++ tlD D) 0
  rw [Nat.add_zero, List.drop_zero] at e0
  rw [Nat.add_zero, hg0] at g0
  by_cases hE : D = []
  · subst hE
    have ht : W ++ tlD [] = W := List.append_nil W
    rw [ht] at e0 g0 ⊢
    unfold wRf
    rw [e0, g0, runD_all hW, nzD_all hW, List.append_nil]
    rw [if_neg (by
      simp only [Bool.or_eq_true, Bool.and_eq_true, beq_iff_eq, decide_eq_true_eq]
      rintro (h | ⟨h, h'⟩)
      · omega
      · have := h1 h; omega)]
    rw [if_neg (by rw [decide_eq_true_eq, List.length_append]; omega)]
  · have ht : W ++ tlD D = W ++ 46 :: D := by unfold tlD; rw [if_neg hE]
    rw [ht] at e0 g0 ⊢
    have hDl : 0 < D.length := List.length_pos_iff.2 hE
    have hr : runD (W ++ 46 :: D) = W.length := by rw [runD_app _ hW, runD_dot]; rfl
    have e1 := drop_pre pre (W ++ 46 :: D) (W.length + 1)
    have g1 := getD_pre pre (W ++ 46 :: D) W.length
    have e1' : (W ++ 46 :: D).drop (W.length + 1) = D := by rw [List.drop_length_add_append]; rfl
    have g1' : (W ++ 46 :: D).getD W.length 0 = 46 := by
      have := getD_pre W (46 :: D) 0
      rw [Nat.add_zero] at this
      rw [this]; rfl
    rw [e1', ← Nat.add_assoc] at e1
    rw [g1'] at g1
    unfold wRf
    rw [e0, g0, hr, e1, g1, runD_all hD, nzD_app _ hW, nzD_dot, nzD_all hD, Bool.or_false, nz_app]
    have hlen : (pre ++ (W ++ 46 :: D)).length = pre.length + W.length + 1 + D.length := by simp; omega
    rw [hlen]
    rw [if_neg (by
      simp only [Bool.or_eq_true, Bool.and_eq_true, beq_iff_eq, decide_eq_true_eq]
      rintro (h | ⟨h, h'⟩)
      · omega
      · have := h1 h; omega)]
    rw [if_pos (by rw [decide_eq_true_eq]; omega), if_neg (by
      simp only [Bool.or_eq_true, bne_self_eq_false, beq_iff_eq]
      rintro (h | h)
      · cases h
      · omega), if_pos (beq_self_eq_true _)]
theorem dg_45 {W r : List UInt8} (hW : Dg W) (h0 : W ≠ []) : ((W ++ r).getD 0 0 == 45) = false := by
  cases W with
  | nil => exact absurd rfl h0
  | cons c W =>
    have := hW c (List.mem_cons_self ..)
    show (c == 45) = false
    rw [beq_eq_false_iff_ne]
    rintro rfl
    cases this
theorem mk_neg {neg : Bool} {W D : List UInt8} (h : OkD neg W D) : ((mk neg W D).getD 0 0 == 45) = neg := by
  obtain ⟨⟨hW, hD⟩, ⟨h0, h1⟩, h2⟩ := h
  cases neg
  · exact dg_45 (W := W) (r := tlD D) hW h0
  · rfl
theorem mk_whole {neg : Bool} {W D : List UInt8} (h : OkD neg W D) : wR (mk neg W D) = true := by
  have hn := mk_neg h
  obtain ⟨⟨hW, hD⟩, ⟨h0, h1⟩, h2⟩ := h
  have hl : 0 < W.length := List.length_pos_iff.2 h0
  have hpos : 0 < (mk neg W D).length := by unfold mk; simp only [List.length_append]; omega
  unfold wR
  rw [hn, decide_eq_true hpos, Bool.true_and]
  cases neg
  · have := wRf_mk (pre := []) hW hD h0 h1
    rw [if_neg (by decide)]
    have h3 : ((mk false W D).getD 0 0 != 45) = true := by rw [bne, hn]; rfl
    show wRf (mk false W D) ([] : List UInt8).length = true
    have e : mk false W D = [] ++ (W ++ tlD D) := rfl
    rw [e] at h3 ⊢
    rw [this, h3, Bool.or_true]
  · have := wRf_mk (pre := [45]) hW hD h0 h1
    rw [if_pos rfl]
    show wRf ([45] ++ (W ++ tlD D)) ([45] : List UInt8).length = true
    rw [this, h2 rfl, Bool.true_or]
theorem mk_all {neg : Bool} {W D : List UInt8} (h : OkD neg W D) : allR (mk neg W D) [] = dw (W ++ D) ∧ behR (mk neg W D) false 0 = D.length := by
  obtain ⟨⟨hW, hD⟩, ⟨h0, h1⟩, h2⟩ := h
  have key : allR (W ++ tlD D) [] = dw (W ++ D) ∧ behR (W ++ tlD D) false 0 = D.length := by
    by_cases hE : D = []
    · subst hE
      have ht : W ++ tlD [] = W ++ [] := rfl
      rw [ht, al2 W [] hW, be1 W [] 0 hW, List.append_nil]
      exact ⟨rfl, rfl⟩
    · have ht : W ++ tlD D = W ++ 46 :: D := by unfold tlD; rw [if_neg hE]
      rw [ht, al3 W D hW hD, be1 W _ 0 hW]
      refine ⟨rfl, ?_⟩
      show behR D true 0 = _
      rw [be2 D 0 hD, Nat.zero_add]
  cases neg
  · exact key
  · exact key
def dv (c : UInt8) : Nat := c.toNat - 48
def valS (v : Nat) (c : UInt8) : Nat := v * 10 + dv c
def valF (v : Nat) (l : List UInt8) : Nat := l.foldl valS v
theorem valF_cons (v : Nat) (c : UInt8) (l : List UInt8) : valF v (c :: l) = valF (v * 10 + dv c) l := by
  unfold valF
  rw [List.foldl_cons]
  unfold valS
  with_reducible rfl
theorem valF_nil (v : Nat) : valF v [] = v := List.foldl_nil ..
theorem valF_add (l : List UInt8) : ∀ v : Nat, valF v l = v * 10 ^ l.length + valF 0 l := by
  induction l with
  | nil => intro v; rw [valF_nil, valF_nil, List.length_nil, Nat.pow_zero]; omega
  | cons c l ih =>
    intro v
    have e1 := ih (v * 10 + dv c)
    have e2 := ih (0 * 10 + dv c)
    rw [valF_cons, valF_cons, e1, e2, List.length_cons, Nat.pow_succ, Nat.add_mul, Nat.zero_mul, Nat.zero_add, Nat.mul_assoc, Nat.mul_comm 10]
    omega
theorem valF_app (a b : List UInt8) (v : Nat) : valF v (a ++ b) = valF (valF v a) b := List.foldl_append ..
theorem val_app (a b : List UInt8) : valF 0 (a ++ b) = valF 0 a * 10 ^ b.length + valF 0 b := by rw [valF_app, valF_add]
theorem val_zeros : ∀ (z : Nat), valF 0 (List.replicate z 48) = 0
  | 0 => valF_nil 0
  | z + 1 => by
    rw [List.replicate_succ, valF_cons, show 0 * 10 + dv 48 = 0 from rfl]
    exact val_zeros z
theorem val_dw : ∀ (l : List UInt8), valF 0 (dw l) = valF 0 l
  | [] => by rw [show dw [] = [] from rfl]
  | c :: l => by
    rw [dw_cons]
    split
    · rename_i h
      rw [beq_iff_eq] at h
      subst h
      rw [valF_cons, show 0 * 10 + dv 48 = 0 from rfl]
      exact val_dw l
    · with_reducible rfl
theorem dg_le {c : UInt8} (h : isD c = true) : c.toNat = dv c + 48 ∧ dv c ≤ 9 := by
  unfold isD at h
  simp only [Bool.and_eq_true, decide_eq_true_eq] at h
  unfold dv
  omega
theorem val_lt : ∀ (l : List UInt8), Dg l → valF 0 l < 10 ^ l.length
  | [], _ => by rw [valF_nil]; decide
  | c :: l, h => by
    have ih := val_lt l fun d hd => h d (List.mem_cons_of_mem _ hd)
    have hc := dg_le (h c (List.mem_cons_self ..))
    rw [valF_cons, valF_add, List.length_cons, Nat.pow_succ]
    have : (0 * 10 + dv c) * 10 ^ l.length ≤ 9 * 10 ^ l.length := Nat.mul_le_mul_right _ (by omega)
    omega
theorem val_ge {c : UInt8} {l : List UInt8} (hc : isD c = true) (h : c ≠ 48) : 10 ^ l.length ≤ valF 0 (c :: l) := by
  have hc := dg_le hc
  have hne : c.toNat ≠ 48 := fun e => h (UInt8.toNat_inj.1 e)
  rw [valF_cons, valF_add]
  have : 1 * 10 ^ l.length ≤ (0 * 10 + dv c) * 10 ^ l.length := Nat.mul_le_mul_right _ (by omega)
  omega
theorem dig_inj : ∀ (a b : List UInt8), Dg a → Dg b → a.length = b.length → valF 0 a = valF 0 b → a = b
  | [], [], _, _, _, _ => rfl
  | c :: a, d :: b, ha, hb, hl, hv => by
    have ha' : Dg a := fun x hx => ha x (List.mem_cons_of_mem _ hx)
    have hb' : Dg b := fun x hx => hb x (List.mem_cons_of_mem _ hx)
    have hl' : a.length = b.length := by simpa using hl
    have h1 := val_lt a ha'
    have h2 := val_lt b hb'
    have hc := dg_le (ha c (List.mem_cons_self ..))
    have hd := dg_le (hb d (List.mem_cons_self ..))
    rw [valF_cons, valF_cons, valF_add a, valF_add b, hl'] at hv
    rw [hl'] at h1
    have hq : dv c = dv d := by
      have e1 : ((0 * 10 + dv c) * 10 ^ b.length + valF 0 a) / 10 ^ b.length = 0 * 10 + dv c := by
        rw [Nat.mul_comm, Nat.mul_add_div (Nat.pow_pos (by decide)), Nat.div_eq_of_lt h1, Nat.add_zero]
      have e2 : ((0 * 10 + dv d) * 10 ^ b.length + valF 0 b) / 10 ^ b.length = 0 * 10 + dv d := by
        rw [Nat.mul_comm, Nat.mul_add_div (Nat.pow_pos (by decide)), Nat.div_eq_of_lt h2, Nat.add_zero]
      rw [hv, e2] at e1
      omega
    have hcd : c = d := UInt8.toNat_inj.1 (by omega)
    rw [hcd] at hv ⊢
    rw [dig_inj a b ha' hb' hl' (by omega)]
theorem fold_val : ∀ (l : List UInt8) (v : Nat), Dg l → v < 115792089237316195423570985008687907853269984665640564039457584007913129639936 → foldD (v : Int) l = if valF v l < 115792089237316195423570985008687907853269984665640564039457584007913129639936 then some ((valF v l : Nat) : Int) else none
  | [], v, _, hv => by rw [foldD, valF_nil, if_pos hv]
  | c :: l, v, h, hv => by
    have hc := dg_le (h c (List.mem_cons_self ..))
    have hl : Dg l := fun d hd => h d (List.mem_cons_of_mem _ hd)
    have e : (v : Int) * 10 + ((c.toNat : Int) - 48) = ((v * 10 + dv c : Nat) : Int) := by omega
    rw [foldD, valF_cons, e]
    split
    · rename_i hb
      have := valF_add l (v * 10 + dv c)
      have hp : 1 ≤ 10 ^ l.length := Nat.pow_pos (by decide)
      have : (v * 10 + dv c) * 1 ≤ (v * 10 + dv c) * 10 ^ l.length := Nat.mul_le_mul_left _ hp
      rw [if_neg (by omega)]
    · rename_i hb
      exact fold_val l _ hl (by omega)
theorem dv_dig (d : Nat) (h : d < 10) : dv (48 + d).toUInt8 = d := by
  have := dig_u8 d h
  unfold dv; omega
theorem lsb_val : ∀ (n v : Nat), v ≤ n → valF 0 (lsb v).reverse = v
  | n, v, h => by
    by_cases h0 : v = 0
    · subst h0; rw [lsb_zero]; exact valF_nil 0
    · match n, h with
      | 0, h => exact absurd (by omega) h0
      | n + 1, h =>
        have ih := lsb_val n (v / 10) (by omega)
        have hd := dv_dig (v % 10) (by omega)
        rw [lsb_pos h0, List.reverse_cons, val_app, ih, List.length_singleton, Nat.pow_one, valF_cons, valF_nil, hd]
        omega
theorem textN_val (v : Nat) : valF 0 (textN v) = v := by
  unfold textN
  split
  · rename_i h
    rw [h, valF_cons, valF_nil]; rfl
  · exact lsb_val v v (Nat.le_refl _)
theorem lsb_head : ∀ (n v : Nat), v ≤ n → v ≠ 0 → ∃ c l, (lsb v).reverse = c :: l ∧ c ≠ 48
  | 0, v, h, h0 => absurd (by omega) h0
  | n + 1, v, h, h0 => by
    rw [lsb_pos h0, List.reverse_cons]
    by_cases h1 : v / 10 = 0
    · rw [h1, lsb_zero]
      refine ⟨_, [], rfl, fun e => ?_⟩
      have := dv_dig (v % 10) (by omega)
      rw [e] at this
      have : (0 : Nat) = v % 10 := this
      omega
    · obtain ⟨c, l, e, hc⟩ := lsb_head n (v / 10) (by omega) h1
      rw [e]
      exact ⟨c, _, rfl, hc⟩
theorem textN_head {v : Nat} (h0 : v ≠ 0) : ∃ c l, textN v = c :: l ∧ c ≠ 48 := by
  unfold textN
  rw [if_neg h0]
  exact lsb_head v v (Nat.le_refl _) h0
theorem text_uniq {c : UInt8} {l : List UInt8} (hd : Dg (c :: l)) (h : c ≠ 48) : textN (valF 0 (c :: l)) = c :: l := by
  have g1 := val_ge (l := l) (hd c (List.mem_cons_self ..)) h
  have g2 := val_lt _ hd
  have hv := textN_val (valF 0 (c :: l))
  have hg := textN_dig (valF 0 (c :: l))
  have hp : 0 < 10 ^ l.length := Nat.pow_pos (by decide)
  obtain ⟨d, m, e, hm⟩ := textN_head (v := valF 0 (c :: l)) (by omega)
  rw [e] at hv hg ⊢
  have k1 := val_ge (l := m) (hg d (List.mem_cons_self ..)) hm
  have k2 := val_lt _ hg
  rw [hv] at k1 k2
  rw [List.length_cons] at g2 k2
  have a1 : l.length < m.length + 1 := (Nat.pow_lt_pow_iff_right (by decide : 1 < 10)).1 (Nat.lt_of_le_of_lt g1 k2)
  have a2 : m.length < l.length + 1 := (Nat.pow_lt_pow_iff_right (by decide : 1 < 10)).1 (Nat.lt_of_le_of_lt k1 g2)
  exact dig_inj _ _ hg hd (by simp only [List.length_cons]; omega) hv
theorem dw_len : ∀ l : List UInt8, (dw l).length ≤ l.length
  | [] => Nat.le_refl _
  | c :: l => by
    have := dw_len l
    rw [dw_cons]
    split
    · simp only [List.length_cons]; omega
    · exact Nat.le_refl _
theorem dw_split : ∀ l : List UInt8, l = List.replicate (l.length - (dw l).length) 48 ++ dw l
  | [] => rfl
  | c :: l => by
    have hl := dw_len l
    have ih := dw_split l
    rw [dw_cons]
    split
    · rename_i h
      rw [beq_iff_eq] at h
      rw [List.length_cons, show l.length + 1 - (dw l).length = (l.length - (dw l).length) + 1 by omega, List.replicate_succ, List.cons_append, ← ih, h]
    · rw [Nat.sub_self]; rfl
theorem dw_head : ∀ l : List UInt8, dw l = [] ∨ ∃ c m, dw l = c :: m ∧ c ≠ 48
  | [] => .inl rfl
  | c :: l => by
    rw [dw_cons]
    split
    · exact dw_head l
    · rename_i h
      exact .inr ⟨c, l, rfl, fun e => h (by rw [e]; rfl)⟩
theorem dw_dg {l : List UInt8} (h : Dg l) : Dg (dw l) := fun c hc => h c (by rw [dw_split l]; exact List.mem_append_right _ hc)
theorem allD_dg {l : List UInt8} (h : Dg l) : allD l = true := by
  unfold allD
  rw [List.all_eq_true]; exact h
/-- What a decimal text says. -/
theorem parse_mk {neg : Bool} {W D : List UInt8} (h : OkD neg W D) : parseD (mk neg W D) = if D.length > 18 then (false, 0, 0, 31) else if valF 0 (W ++ D) < 115792089237316195423570985008687907853269984665640564039457584007913129639936 then (neg, ((valF 0 (W ++ D) : Nat) : Int), (D.length : Int), 0) else (false, 0, 0, 7) := by
  obtain ⟨m1, m2⟩ := mk_all h
  have hdg := dw_dg (dg_app h.1.1 h.1.2)
  have hvd := val_dw (W ++ D)
  rw [← parse_same]
  unfold parse44
  rw [mk_whole h, if_neg (by decide), m1, m2, mk_neg h]
  split
  · rfl
  · rcases dw_head (W ++ D) with e | ⟨c, m, e, hc⟩
    · rw [e, valF_nil] at hvd
      rw [e, ← hvd]
      rfl
    · rw [e] at hdg hvd ⊢
      have hp := pn_rest (s := c :: m) (List.cons_ne_nil _ _) (.inl (by show (c == 48) = false; rw [beq_eq_false_iff_ne]; exact hc))
      have hf := fold_val (c :: m) 0 hdg (by decide)
      rw [hvd] at hf
      rw [allD_dg hdg, if_pos rfl, show (0 : Int) = ((0 : Nat) : Int) from rfl, hf] at hp
      rw [if_neg (by show ¬ (false = true); decide), hp]
      by_cases hb : valF 0 (W ++ D) < 115792089237316195423570985008687907853269984665640564039457584007913129639936
      · rw [if_pos hb, if_pos hb]
        rfl
      · rw [if_neg hb, if_neg hb]
        rfl
theorem nz_zeros (z : Nat) : nz (List.replicate z 48) = false := by
  unfold nz
  rw [List.any_eq_false]
  intro x hx
  rw [List.eq_of_mem_replicate hx]; decide
theorem nz_val {l : List UInt8} (h : valF 0 l ≠ 0) : nz l = true := by
  cases e : nz l with
  | true => rfl
  | false =>
    exfalso
    apply h
    have : l = List.replicate l.length 48 := by
      rw [List.eq_replicate_iff]
      refine ⟨rfl, fun c hc => ?_⟩
      unfold nz at e
      rw [List.any_eq_false] at e
      have := e c hc
      simpa using this
    rw [this]; exact val_zeros _
/-- A number's text: its parts. -/
theorem textD_mk {neg : Bool} {v k : Nat} (hn : neg = true → v ≠ 0) : ∃ W D, textD neg v k = mk neg W D ∧ OkD neg W D ∧ W ++ D = padD (textN v) k ∧ D.length = k := by
  have hdg : Dg (padD (textN v) k) := padD_dig v k
  have hval : valF 0 (padD (textN v) k) = v := by
    unfold padD
    rw [val_app, val_zeros, textN_val]; omega
  have hl1 : 1 ≤ (textN v).length := by
    by_cases h0 : v = 0
    · rw [h0]; exact Nat.le_refl _
    · obtain ⟨c, l, e, _⟩ := textN_head h0
      rw [e, List.length_cons]; omega
  have hlen : k + 1 ≤ (padD (textN v) k).length := by
    unfold padD
    rw [List.length_append, List.length_replicate]; omega
  refine ⟨(padD (textN v) k).take ((padD (textN v) k).length - k), (padD (textN v) k).drop ((padD (textN v) k).length - k), ?_, ?_, List.take_append_drop .., by rw [List.length_drop]; omega⟩
  · unfold textD mk pointD tlD
    congr 1
    by_cases hk : k = 0
    · subst hk
      rw [if_pos rfl, Nat.sub_zero, List.take_length, List.drop_length, if_pos rfl, List.append_nil]
    · rw [if_neg hk, if_neg (by intro e; have := congrArg List.length e; rw [List.length_drop, List.length_nil] at this; omega)]
  · refine ⟨⟨fun c hc => hdg c (List.mem_of_mem_take hc), fun c hc => hdg c (List.mem_of_mem_drop hc)⟩, ⟨?_, fun h48 => ?_⟩, fun hneg => ?_⟩
    · intro e
      have := congrArg List.length e
      rw [List.length_take, List.length_nil] at this
      omega
    · rw [List.length_take, Nat.min_eq_left (by omega)]
      by_cases hs : (textN v).length ≤ k
      · unfold padD
        rw [List.length_append, List.length_replicate]; omega
      · have hp : padD (textN v) k = textN v := by
          unfold padD
          rw [show k + 1 - (textN v).length = 0 by omega]; rfl
        rw [hp] at h48 ⊢
        by_cases h0 : v = 0
        · subst h0
          have : (textN 0).length = 1 := rfl
          omega
        · obtain ⟨c, l, e, hc⟩ := textN_head h0
          rw [e] at h48
          rw [e] at hs
          have : ((c :: l).take ((c :: l).length - k)).getD 0 0 = c := by
            rw [show (c :: l).length - k = ((c :: l).length - k - 1) + 1 by omega]; rfl
          rw [this] at h48
          exact absurd h48 hc
    · rw [List.take_append_drop]
      exact nz_val (by rw [hval]; exact hn hneg)
theorem val_pad (v k : Nat) : valF 0 (padD (textN v) k) = v := by
  unfold padD
  rw [val_app, val_zeros, textN_val]; omega
theorem text_says {neg : Bool} {v k : Nat} (hn : neg = true → v ≠ 0) (hv : v < 115792089237316195423570985008687907853269984665640564039457584007913129639936) (hk : k ≤ 18) : parseD (textD neg v k) = (neg, (v : Int), (k : Int), 0) := by
  obtain ⟨W, D, e, ho, hp, hl⟩ := textD_mk (k := k) hn
  rw [e, parse_mk ho, hp, val_pad, hl, if_neg (by omega), if_pos hv]
theorem tr_split : ∀ (n : Nat) (l : List UInt8), l.length ≤ n → ∃ z, l = Lib.trimRightB l 48 ++ List.replicate z 48 ∧ (Lib.trimRightB l 48 = [] ∨ ∃ a c, Lib.trimRightB l 48 = a ++ [c] ∧ (c == 48) = false)
  | 0, l, hn => by
    have : l = [] := List.length_eq_zero_iff.1 (by omega)
    subst this
    exact ⟨0, rfl, .inl rfl⟩
  | n + 1, l, hn => by
    by_cases hl : 0 < l.length
    · have hs := snoc_of hl
      generalize l.getD (l.length - 1) 0 = d at hs
      by_cases hd : (d == 48) = true
      · rw [beq_iff_eq] at hd
        rw [hd] at hs
        obtain ⟨z, h1, h2⟩ := tr_split n (l.take (l.length - 1)) (by rw [List.length_take]; omega)
        have e : Lib.trimRightB l 48 = Lib.trimRightB (l.take (l.length - 1)) 48 := by
          conv => lhs; rw [hs]
          rw [tr_snoc48]
        rw [e]
        refine ⟨z + 1, ?_, h2⟩
        conv => lhs; rw [hs, h1]
        rw [List.replicate_succ', List.append_assoc]
      · have hd : (d == 48) = false := by simpa using hd
        have e : Lib.trimRightB l 48 = l := by
          conv => lhs; rw [hs]
          rw [tr_snoc hd, ← hs]
        rw [e]
        exact ⟨0, by simp, .inr ⟨_, _, hs, hd⟩⟩
    · have : l = [] := List.length_eq_zero_iff.1 (by omega)
      subst this
      exact ⟨0, rfl, .inl rfl⟩
theorem tr_zeros (l : List UInt8) : ∀ z : Nat, Lib.trimRightB (l ++ List.replicate z 48) 48 = Lib.trimRightB l 48
  | 0 => by simp
  | z + 1 => by
    rw [List.replicate_succ', ← List.append_assoc, tr_snoc48, tr_zeros l z]
theorem short_mk {neg : Bool} {v k : Nat} {W D : List UInt8} (e : textD neg v k = mk neg W D) (hd : Dg D) (hl : D.length = k) : shortD neg v k = mk neg W (Lib.trimRightB D 48) := by
  unfold shortD
  by_cases hk : k = 0
  · subst hk
    have : D = [] := List.length_eq_zero_iff.1 hl
    subst this
    rw [if_pos rfl, e]; rfl
  · have hD : D ≠ [] := fun e => hk (by rw [← hl, e]; rfl)
    rw [if_neg hk, e]
    obtain ⟨z, h1, h2⟩ := tr_split _ D (Nat.le_refl _)
    obtain ⟨P, hP⟩ : ∃ P, P = (if neg then [45] else [] : List UInt8) ++ W := ⟨_, rfl⟩
    have em : ∀ X : List UInt8, mk neg W X = P ++ tlD X := fun X => by unfold mk; rw [hP, List.append_assoc]
    rw [em, em]
    have et : tlD D = 46 :: D := if_neg hD
    rw [et]
    generalize Lib.trimRightB D 48 = D' at h1 h2 ⊢
    have e1 : P ++ 46 :: D = (P ++ 46 :: D') ++ List.replicate z 48 := by rw [h1]; simp
    rw [e1, tr_zeros]
    rcases h2 with h2 | ⟨a, c, h2, hc⟩
    · rw [h2]
      have : P ++ [46] = P ++ [46] := rfl
      rw [tr_snoc (c := 46) (by decide) P, ts_snoc, if_pos (by decide)]
      exact (List.append_nil P).symm
    · have hc46 : (c == 46) = false := isD_46 (hd c (by rw [h1, h2]; simp))
      have hne : D' ≠ [] := by rw [h2]; simp
      have et' : tlD D' = 46 :: D' := if_neg hne
      rw [et', h2]
      have e2 : P ++ 46 :: (a ++ [c]) = (P ++ 46 :: a) ++ [c] := by simp
      rw [e2, tr_snoc hc, ts_snoc, if_neg (by rw [hc46]; decide)]
theorem short_says {neg : Bool} {v k : Nat} (hn : neg = true → v ≠ 0) (hv : v < 115792089237316195423570985008687907853269984665640564039457584007913129639936) (hk : k ≤ 18) :
    ∃ u j : Nat, parseD (shortD neg v k) = (neg, (u : Int), (j : Int), 0) ∧ j ≤ k ∧ u * 10 ^ (k - j) = v := by
  obtain ⟨W, D, e, ho, hp, hl⟩ := textD_mk (k := k) hn
  have hs := short_mk e ho.1.2 hl
  obtain ⟨z, h1, h2⟩ := tr_split _ D (Nat.le_refl _)
  rw [hs]
  generalize Lib.trimRightB D 48 = D' at h1 h2 ⊢
  have hz : D.length = D'.length + z := by rw [h1]; simp
  have hval : valF 0 (W ++ D') * 10 ^ z = v := by
    have : valF 0 (W ++ D) = v := by rw [hp, val_pad]
    rw [h1, ← List.append_assoc, val_app, val_zeros, List.length_replicate, Nat.add_zero] at this
    exact this
  have ho' : OkD neg W D' := by
    refine ⟨⟨ho.1.1, fun c hc => ho.1.2 c (by rw [h1]; exact List.mem_append_left _ hc)⟩, ho.2.1, fun h => ?_⟩
    have := ho.2.2 h
    rw [h1, ← List.append_assoc, nz_app, nz_zeros, Bool.or_false] at this
    exact this
  have hle : valF 0 (W ++ D') ≤ v := by
    rw [← hval]
    exact Nat.le_mul_of_pos_right _ (Nat.pow_pos (by decide))
  refine ⟨valF 0 (W ++ D'), D'.length, ?_, by omega, ?_⟩
  · rw [parse_mk ho', if_neg (by omega), if_pos (by omega)]
  · rw [show k - D'.length = z by omega]; exact hval
def cmpI (a b : Int) : Int := if a = b then 0 else if a < b then -1 else 1
def sCmp4 : List AV → Option AV
  | [.agg [.int .u64 a0, .int .u64 a1, .int .u64 a2, .int .u64 a3], .agg [.int .u64 b0, .int .u64 b1, .int .u64 b2, .int .u64 b3]] => if u64s a0 a1 a2 a3 = true ∧ u64s b0 b1 b2 b3 = true then some (.int .i64 (cmpI (num4 a0 a1 a2 a3) (num4 b0 b1 b2 b3))) else none
  | _ => none
def num8 (h0 h1 h2 h3 l0 l1 l2 l3 : Int) : Int := num4 h0 h1 h2 h3 * 115792089237316195423570985008687907853269984665640564039457584007913129639936 + num4 l0 l1 l2 l3
def sCmpW : List AV → Option AV
  | [.agg [.int .u64 a0, .int .u64 a1, .int .u64 a2, .int .u64 a3, .int .u64 a4, .int .u64 a5, .int .u64 a6, .int .u64 a7], .agg [.int .u64 b0, .int .u64 b1, .int .u64 b2, .int .u64 b3, .int .u64 b4, .int .u64 b5, .int .u64 b6, .int .u64 b7]] => if (u64s a0 a1 a2 a3 = true ∧ u64s a4 a5 a6 a7 = true) ∧ u64s b0 b1 b2 b3 = true ∧ u64s b4 b5 b6 b7 = true then some (.int .i64 (cmpI (num8 a0 a1 a2 a3 a4 a5 a6 a7) (num8 b0 b1 b2 b3 b4 b5 b6 b7))) else none
  | _ => none
def sgD (neg : Bool) (nz : Bool) : Int := if nz then (if neg then -1 else 1) else 0
def sSign : List AV → Option AV
  | [.agg [.bool neg, .int .u64 a0, .int .u64 a1, .int .u64 a2, .int .u64 a3, .int .i64 sc]] => some (.int .i64 (sgD neg (nz4 a0 a1 a2 a3)))
  | _ => none
def decL (neg : Bool) (a0 a1 a2 a3 sc : Int) : List AV := [.bool neg, .int .u64 a0, .int .u64 a1, .int .u64 a2, .int .u64 a3, .int .i64 sc]
noncomputable def gChk (d e : List AV) : List AV → List AObj → Option AV := fun args hs => @ite _ ((∃ n a0 a1 a2 a3 sc m b0 b1 b2 b3 tc, d = decL n a0 a1 a2 a3 sc ∧ e = decL m b0 b1 b2 b3 tc ∧ badD n a0 a1 a2 a3 sc = false ∧ badD m b0 b1 b2 b3 tc = false) ∧ args = [.sl (some (0, 0)) 2 (.rel 0)] ∧ hs = [.ro (d ++ e)]) (Classical.propDecidable _) (some (.int .i64 0)) none
noncomputable def sChk (d e : List AV) : List AV → AHeap → Option AV := fun args h => (impD 0 h args).bind fun r => gChk d e r.1 r.2
def tb39 : List TbE := [⟨21, fun vs _ => sCheck vs, .of (.one (.int .i64))⟩]
def tb41 : List TbE := [⟨70, fun vs _ => sCmp4 vs, .of (.one (.int .i64))⟩]
noncomputable def tb20 (d e : List AV) : List TbE := [⟨39, sChk d e, .of (.one (.int .i64))⟩, ⟨40, fun vs _ => sSign vs, .of (.one (.int .i64))⟩, ⟨42, fun vs _ => sTimesN vs, .of ag8⟩, ⟨41, fun vs _ => sCmpW vs, .of (.one (.int .i64))⟩]
def cmpD (n1 : Bool) (v1 k1 : Nat) (n2 : Bool) (v2 k2 : Nat) : Int :=
  if sgD n1 (decide (v1 ≠ 0)) ≠ sgD n2 (decide (v2 ≠ 0)) ∨ sgD n1 (decide (v1 ≠ 0)) = 0 then min (max (sgD n1 (decide (v1 ≠ 0)) - sgD n2 (decide (v2 ≠ 0))) (-1)) 1
  else sgD n1 (decide (v1 ≠ 0)) * cmpI ((v1 * 10 ^ (max k1 k2 - k1) : Nat) : Int) ((v2 * 10 ^ (max k1 k2 - k2) : Nat) : Int)
def sCmpD : List AV → Option AV
  | [.agg [.bool n, .int .u64 a0, .int .u64 a1, .int .u64 a2, .int .u64 a3, .int .i64 sc], .agg [.bool m, .int .u64 b0, .int .u64 b1, .int .u64 b2, .int .u64 b3, .int .i64 tc]] =>
    if (u64s a0 a1 a2 a3 = true ∧ u64s b0 b1 b2 b3 = true) ∧ badD n a0 a1 a2 a3 sc = false ∧ badD m b0 b1 b2 b3 tc = false then some (.int .i64 (cmpD n (num4 a0 a1 a2 a3).toNat sc.toNat m (num4 b0 b1 b2 b3).toNat tc.toNat)) else none
  | _ => none
noncomputable def tb7s : List TbE := [⟨19, fun vs _ => sCheck vs, .of (.one (.int .i64))⟩, ⟨9, fun vs _ => sTextD vs, .of (.one .str)⟩, ⟨11, fun vs _ => sShortD vs, .of (.one .str)⟩, ⟨20, fun vs _ => sCmpD vs, .of (.one (.int .i64))⟩, ⟨8, sLive, .of (.one .bool)⟩]
theorem v70s (a0 a1 a2 a3 b0 b1 b2 b3 : Int) (R : AV → AHeap → Prop) : (askB (a3 != b3) (askB (decide (a3 < b3)) (R (AV.int .i64 (-1)) [AObj.row 24 4 [AV.int .u64 a0, AV.int .u64 a1, AV.int .u64 a2, AV.int .u64 a3], AObj.row 24 4 [AV.int .u64 b0, AV.int .u64 b1, AV.int .u64 b2, AV.int .u64 b3]]) (R (AV.int .i64 1) [AObj.row 24 4 [AV.int .u64 a0, AV.int .u64 a1, AV.int .u64 a2, AV.int .u64 a3], AObj.row 24 4 [AV.int .u64 b0, AV.int .u64 b1, AV.int .u64 b2, AV.int .u64 b3]])) (askB (a2 != b2) (askB (decide (a2 < b2)) (R (AV.int .i64 (-1)) [AObj.row 24 4 [AV.int .u64 a0, AV.int .u64 a1, AV.int .u64 a2, AV.int .u64 a3], AObj.row 24 4 [AV.int .u64 b0, AV.int .u64 b1, AV.int .u64 b2, AV.int .u64 b3]]) (R (AV.int .i64 1) [AObj.row 24 4 [AV.int .u64 a0, AV.int .u64 a1, AV.int .u64 a2, AV.int .u64 a3], AObj.row 24 4 [AV.int .u64 b0, AV.int .u64 b1, AV.int .u64 b2, AV.int .u64 b3]])) (askB (a1 != b1) (askB (decide (a1 < b1)) (R (AV.int .i64 (-1)) [AObj.row 24 4 [AV.int .u64 a0, AV.int .u64 a1, AV.int .u64 a2, AV.int .u64 a3], AObj.row 24 4 [AV.int .u64 b0, AV.int .u64 b1, AV.int .u64 b2, AV.int .u64 b3]]) (R (AV.int .i64 1) [AObj.row 24 4 [AV.int .u64 a0, AV.int .u64 a1, AV.int .u64 a2, AV.int .u64 a3], AObj.row 24 4 [AV.int .u64 b0, AV.int .u64 b1, AV.int .u64 b2, AV.int .u64 b3]])) (askB (a0 != b0) (askB (decide (a0 < b0)) (R (AV.int .i64 (-1)) [AObj.row 24 4 [AV.int .u64 a0, AV.int .u64 a1, AV.int .u64 a2, AV.int .u64 a3], AObj.row 24 4 [AV.int .u64 b0, AV.int .u64 b1, AV.int .u64 b2, AV.int .u64 b3]]) (R (AV.int .i64 1) [AObj.row 24 4 [AV.int .u64 a0, AV.int .u64 a1, AV.int .u64 a2, AV.int .u64 a3], AObj.row 24 4 [AV.int .u64 b0, AV.int .u64 b1, AV.int .u64 b2, AV.int .u64 b3]])) (R (AV.int .i64 0) [AObj.row 24 4 [AV.int .u64 a0, AV.int .u64 a1, AV.int .u64 a2, AV.int .u64 a3], AObj.row 24 4 [AV.int .u64 b0, AV.int .u64 b1, AV.int .u64 b2, AV.int .u64 b3]]))))) = (wpF Tryd.prog (tbC Q [] (fun _ => false) kdU) 300 pz70 [(.agg [.int .u64 a0, .int .u64 a1, .int .u64 a2, .int .u64 a3]), (.agg [.int .u64 b0, .int .u64 b1, .int .u64 b2, .int .u64 b3])] [] R) := by kernel_rfl
theorem v41s (a0 a1 a2 a3 a4 a5 a6 a7 b0 b1 b2 b3 b4 b5 b6 b7 : Int) (R : AV → AHeap → Prop) : (∃ (n : Int), sCmp4 [AV.agg [AV.int .u64 a0, AV.int .u64 a1, AV.int .u64 a2, AV.int .u64 a3], AV.agg [AV.int .u64 b0, AV.int .u64 b1, AV.int .u64 b2, AV.int .u64 b3]] = some (AV.int .i64 n) ∧ askB (n != 0) (R (AV.int .i64 n) [AObj.row 62 8 [AV.int .u64 a0, AV.int .u64 a1, AV.int .u64 a2, AV.int .u64 a3, AV.int .u64 a4, AV.int .u64 a5, AV.int .u64 a6, AV.int .u64 a7], AObj.row 62 8 [AV.int .u64 b0, AV.int .u64 b1, AV.int .u64 b2, AV.int .u64 b3, AV.int .u64 b4, AV.int .u64 b5, AV.int .u64 b6, AV.int .u64 b7]]) (∃ (n : Int), sCmp4 [AV.agg [AV.int .u64 a4, AV.int .u64 a5, AV.int .u64 a6, AV.int .u64 a7], AV.agg [AV.int .u64 b4, AV.int .u64 b5, AV.int .u64 b6, AV.int .u64 b7]] = some (AV.int .i64 n) ∧ R (AV.int .i64 n) [AObj.row 62 8 [AV.int .u64 a0, AV.int .u64 a1, AV.int .u64 a2, AV.int .u64 a3, AV.int .u64 a4, AV.int .u64 a5, AV.int .u64 a6, AV.int .u64 a7], AObj.row 62 8 [AV.int .u64 b0, AV.int .u64 b1, AV.int .u64 b2, AV.int .u64 b3, AV.int .u64 b4, AV.int .u64 b5, AV.int .u64 b6, AV.int .u64 b7]])) = (wpF Tryd.prog (tbC Q tb41 (fun _ => false) kdU) 120 pz41 [(.agg [.int .u64 a0, .int .u64 a1, .int .u64 a2, .int .u64 a3, .int .u64 a4, .int .u64 a5, .int .u64 a6, .int .u64 a7]), (.agg [.int .u64 b0, .int .u64 b1, .int .u64 b2, .int .u64 b3, .int .u64 b4, .int .u64 b5, .int .u64 b6, .int .u64 b7])] [] R) := by kernel_rfl
theorem v40s (n : Bool) (a0 a1 a2 a3 sc : Int) (R : AV → AHeap → Prop) : (askB (a0 == 0 && (a1 == 0 && (a2 == 0 && (a3 == 0 && true)))) (R (AV.int .i64 0) [AObj.row 26 6 [AV.bool n, AV.int .u64 a0, AV.int .u64 a1, AV.int .u64 a2, AV.int .u64 a3, AV.int .i64 sc]]) (askB n (R (AV.int .i64 (-1)) [AObj.row 26 6 [AV.bool n, AV.int .u64 a0, AV.int .u64 a1, AV.int .u64 a2, AV.int .u64 a3, AV.int .i64 sc]]) (R (AV.int .i64 1) [AObj.row 26 6 [AV.bool n, AV.int .u64 a0, AV.int .u64 a1, AV.int .u64 a2, AV.int .u64 a3, AV.int .i64 sc]]))) = (wpF Tryd.prog (tbC Q [] (fun _ => false) kdU) 120 pz40 [(.agg [.bool n, .int .u64 a0, .int .u64 a1, .int .u64 a2, .int .u64 a3, .int .i64 sc])] [] R) := by kernel_rfl
theorem v39s (n : Bool) (a0 a1 a2 a3 sc : Int) (m : Bool) (b0 b1 b2 b3 tc : Int) (R : AV → AHeap → Prop) : (∃ (n_1 : Int), some (AV.int .i64 (if (decide (sc < 0) || decide (sc > 18) || n && !nz4 a0 a1 a2 a3) = true then 20 else 0)) = some (AV.int .i64 n_1) ∧ askB (n_1 != 0) (R (AV.int .i64 n_1) [AObj.ro [AV.bool n, AV.int .u64 a0, AV.int .u64 a1, AV.int .u64 a2, AV.int .u64 a3, AV.int .i64 sc, AV.bool m, AV.int .u64 b0, AV.int .u64 b1, AV.int .u64 b2, AV.int .u64 b3, AV.int .i64 tc], AObj.row 26 6 [AV.bool n, AV.int .u64 a0, AV.int .u64 a1, AV.int .u64 a2, AV.int .u64 a3, AV.int .i64 sc]]) (∃ (n_2 : Int), some (AV.int .i64 (if (decide (tc < 0) || decide (tc > 18) || m && !nz4 b0 b1 b2 b3) = true then 20 else 0)) = some (AV.int .i64 n_2) ∧ askB (n_2 != 0) (R (AV.int .i64 n_2) [AObj.ro [AV.bool n, AV.int .u64 a0, AV.int .u64 a1, AV.int .u64 a2, AV.int .u64 a3, AV.int .i64 sc, AV.bool m, AV.int .u64 b0, AV.int .u64 b1, AV.int .u64 b2, AV.int .u64 b3, AV.int .i64 tc], AObj.row 26 6 [AV.bool n, AV.int .u64 a0, AV.int .u64 a1, AV.int .u64 a2, AV.int .u64 a3, AV.int .i64 sc], AObj.row 26 6 [AV.bool m, AV.int .u64 b0, AV.int .u64 b1, AV.int .u64 b2, AV.int .u64 b3, AV.int .i64 tc]]) (R (AV.int .i64 0) [AObj.ro [AV.bool n, AV.int .u64 a0, AV.int .u64 a1, AV.int .u64 a2, AV.int .u64 a3, AV.int .i64 sc, AV.bool m, AV.int .u64 b0, AV.int .u64 b1, AV.int .u64 b2, AV.int .u64 b3, AV.int .i64 tc], AObj.row 26 6 [AV.bool n, AV.int .u64 a0, AV.int .u64 a1, AV.int .u64 a2, AV.int .u64 a3, AV.int .i64 sc], AObj.row 26 6 [AV.bool m, AV.int .u64 b0, AV.int .u64 b1, AV.int .u64 b2, AV.int .u64 b3, AV.int .i64 tc]]))) = (wpF Tryd.prog (tbC Q tb39 (fun _ => false) kdU) 200 pz39 [.sl (some (0, 0)) 2 (.rel 0)] [.ro (decL n a0 a1 a2 a3 sc ++ decL m b0 b1 b2 b3 tc)] R) := by kernel_rfl
theorem v20s (n : Bool) (a0 a1 a2 a3 sc : Int) (m : Bool) (b0 b1 b2 b3 tc : Int) (R : AV → AHeap → Prop) : (∃ (n_1 : Int), TbE.s { f := 39, s := sChk (decL n a0 a1 a2 a3 sc) (decL m b0 b1 b2 b3 tc), r := Rs.of (Rs1.one (K1.int .i64)) } [AV.sl (some (2, 0)) 2 (ACap.rel 0)] [AObj.row 26 6 [AV.bool n, AV.int .u64 a0, AV.int .u64 a1, AV.int .u64 a2, AV.int .u64 a3, AV.int .i64 sc], AObj.row 26 6 [AV.bool m, AV.int .u64 b0, AV.int .u64 b1, AV.int .u64 b2, AV.int .u64 b3, AV.int .i64 tc], AObj.row 26 6 [AV.bool n, AV.int .u64 a0, AV.int .u64 a1, AV.int .u64 a2, AV.int .u64 a3, AV.int .i64 sc, AV.bool m, AV.int .u64 b0, AV.int .u64 b1, AV.int .u64 b2, AV.int .u64 b3, AV.int .i64 tc]] = some (AV.int .i64 n_1) ∧ askB (n_1 != 0) (R (AV.int .i64 0) [AObj.row 26 6 [AV.bool n, AV.int .u64 a0, AV.int .u64 a1, AV.int .u64 a2, AV.int .u64 a3, AV.int .i64 sc], AObj.row 26 6 [AV.bool m, AV.int .u64 b0, AV.int .u64 b1, AV.int .u64 b2, AV.int .u64 b3, AV.int .i64 tc], AObj.row 26 6 [AV.bool n, AV.int .u64 a0, AV.int .u64 a1, AV.int .u64 a2, AV.int .u64 a3, AV.int .i64 sc, AV.bool m, AV.int .u64 b0, AV.int .u64 b1, AV.int .u64 b2, AV.int .u64 b3, AV.int .i64 tc]]) (askB (n == m && (a0 == b0 && (a1 == b1 && (a2 == b2 && (a3 == b3 && true))) && (sc == tc && true))) (R (AV.int .i64 0) [AObj.row 26 6 [AV.bool n, AV.int .u64 a0, AV.int .u64 a1, AV.int .u64 a2, AV.int .u64 a3, AV.int .i64 sc], AObj.row 26 6 [AV.bool m, AV.int .u64 b0, AV.int .u64 b1, AV.int .u64 b2, AV.int .u64 b3, AV.int .i64 tc], AObj.row 26 6 [AV.bool n, AV.int .u64 a0, AV.int .u64 a1, AV.int .u64 a2, AV.int .u64 a3, AV.int .i64 sc, AV.bool m, AV.int .u64 b0, AV.int .u64 b1, AV.int .u64 b2, AV.int .u64 b3, AV.int .i64 tc]]) (∃ (n_2 : Int), some (AV.int .i64 (sgD n (nz4 a0 a1 a2 a3))) = some (AV.int .i64 n_2) ∧ ∃ (n_3 : Int), some (AV.int .i64 (sgD m (nz4 b0 b1 b2 b3))) = some (AV.int .i64 n_3) ∧ askB (n_2 != n_3) (R (AV.int .i64 (if false = true then if 1 > if true = true then if -1 > IntKind.wrap .i64 (n_2 - n_3) then -1 else IntKind.wrap .i64 (n_2 - n_3) else if -1 < IntKind.wrap .i64 (n_2 - n_3) then -1 else IntKind.wrap .i64 (n_2 - n_3) then 1 else if true = true then if -1 > IntKind.wrap .i64 (n_2 - n_3) then -1 else IntKind.wrap .i64 (n_2 - n_3) else if -1 < IntKind.wrap .i64 (n_2 - n_3) then -1 else IntKind.wrap .i64 (n_2 - n_3) else if 1 < if true = true then if -1 > IntKind.wrap .i64 (n_2 - n_3) then -1 else IntKind.wrap .i64 (n_2 - n_3) else if -1 < IntKind.wrap .i64 (n_2 - n_3) then -1 else IntKind.wrap .i64 (n_2 - n_3) then 1 else if true = true then if -1 > IntKind.wrap .i64 (n_2 - n_3) then -1 else IntKind.wrap .i64 (n_2 - n_3) else if -1 < IntKind.wrap .i64 (n_2 - n_3) then -1 else IntKind.wrap .i64 (n_2 - n_3))) [AObj.row 26 6 [AV.bool n, AV.int .u64 a0, AV.int .u64 a1, AV.int .u64 a2, AV.int .u64 a3, AV.int .i64 sc], AObj.row 26 6 [AV.bool m, AV.int .u64 b0, AV.int .u64 b1, AV.int .u64 b2, AV.int .u64 b3, AV.int .i64 tc], AObj.row 26 6 [AV.bool n, AV.int .u64 a0, AV.int .u64 a1, AV.int .u64 a2, AV.int .u64 a3, AV.int .i64 sc, AV.bool m, AV.int .u64 b0, AV.int .u64 b1, AV.int .u64 b2, AV.int .u64 b3, AV.int .i64 tc]]) (askB (n_2 == 0) (R (AV.int .i64 (if false = true then if 1 > if true = true then if -1 > IntKind.wrap .i64 (n_2 - n_3) then -1 else IntKind.wrap .i64 (n_2 - n_3) else if -1 < IntKind.wrap .i64 (n_2 - n_3) then -1 else IntKind.wrap .i64 (n_2 - n_3) then 1 else if true = true then if -1 > IntKind.wrap .i64 (n_2 - n_3) then -1 else IntKind.wrap .i64 (n_2 - n_3) else if -1 < IntKind.wrap .i64 (n_2 - n_3) then -1 else IntKind.wrap .i64 (n_2 - n_3) else if 1 < if true = true then if -1 > IntKind.wrap .i64 (n_2 - n_3) then -1 else IntKind.wrap .i64 (n_2 - n_3) else if -1 < IntKind.wrap .i64 (n_2 - n_3) then -1 else IntKind.wrap .i64 (n_2 - n_3) then 1 else if true = true then if -1 > IntKind.wrap .i64 (n_2 - n_3) then -1 else IntKind.wrap .i64 (n_2 - n_3) else if -1 < IntKind.wrap .i64 (n_2 - n_3) then -1 else IntKind.wrap .i64 (n_2 - n_3))) [AObj.row 26 6 [AV.bool n, AV.int .u64 a0, AV.int .u64 a1, AV.int .u64 a2, AV.int .u64 a3, AV.int .i64 sc], AObj.row 26 6 [AV.bool m, AV.int .u64 b0, AV.int .u64 b1, AV.int .u64 b2, AV.int .u64 b3, AV.int .i64 tc], AObj.row 26 6 [AV.bool n, AV.int .u64 a0, AV.int .u64 a1, AV.int .u64 a2, AV.int .u64 a3, AV.int .i64 sc, AV.bool m, AV.int .u64 b0, AV.int .u64 b1, AV.int .u64 b2, AV.int .u64 b3, AV.int .i64 tc]]) (∃ (n_4 : Int), ∃ (n_5 : Int), ∃ (n_6 : Int), ∃ (n_7 : Int), ∃ (n_8 : Int), ∃ (n_9 : Int), ∃ (n_10 : Int), ∃ (n_11 : Int), sTimesN [AV.agg [AV.int .u64 a0, AV.int .u64 a1, AV.int .u64 a2, AV.int .u64 a3], AV.int .i64 (IntKind.wrap .i64 ((if true = true then if tc > sc then tc else sc else if tc < sc then tc else sc) - sc))] = some (AV.agg [AV.int .u64 n_4, AV.int .u64 n_5, AV.int .u64 n_6, AV.int .u64 n_7, AV.int .u64 n_8, AV.int .u64 n_9, AV.int .u64 n_10, AV.int .u64 n_11]) ∧ ∃ (n_12 : Int), ∃ (n_13 : Int), ∃ (n_14 : Int), ∃ (n_15 : Int), ∃ (n_16 : Int), ∃ (n_17 : Int), ∃ (n_18 : Int), ∃ (n_19 : Int), sTimesN [AV.agg [AV.int .u64 b0, AV.int .u64 b1, AV.int .u64 b2, AV.int .u64 b3], AV.int .i64 (IntKind.wrap .i64 ((if true = true then if tc > sc then tc else sc else if tc < sc then tc else sc) - tc))] = some (AV.agg [AV.int .u64 n_12, AV.int .u64 n_13, AV.int .u64 n_14, AV.int .u64 n_15, AV.int .u64 n_16, AV.int .u64 n_17, AV.int .u64 n_18, AV.int .u64 n_19]) ∧ ∃ (n_20 : Int), sCmpW [AV.agg [AV.int .u64 n_4, AV.int .u64 n_5, AV.int .u64 n_6, AV.int .u64 n_7, AV.int .u64 n_8, AV.int .u64 n_9, AV.int .u64 n_10, AV.int .u64 n_11], AV.agg [AV.int .u64 n_12, AV.int .u64 n_13, AV.int .u64 n_14, AV.int .u64 n_15, AV.int .u64 n_16, AV.int .u64 n_17, AV.int .u64 n_18, AV.int .u64 n_19]] = some (AV.int .i64 n_20) ∧ R (AV.int .i64 (IntKind.wrap .i64 (n_2 * n_20))) [AObj.row 26 6 [AV.bool n, AV.int .u64 a0, AV.int .u64 a1, AV.int .u64 a2, AV.int .u64 a3, AV.int .i64 sc], AObj.row 26 6 [AV.bool m, AV.int .u64 b0, AV.int .u64 b1, AV.int .u64 b2, AV.int .u64 b3, AV.int .i64 tc], AObj.row 26 6 [AV.bool n, AV.int .u64 a0, AV.int .u64 a1, AV.int .u64 a2, AV.int .u64 a3, AV.int .i64 sc, AV.bool m, AV.int .u64 b0, AV.int .u64 b1, AV.int .u64 b2, AV.int .u64 b3, AV.int .i64 tc]]))))) = (wpF Tryd.prog (tbC Q (tb20 (decL n a0 a1 a2 a3 sc) (decL m b0 b1 b2 b3 tc)) (fun _ => false) kdU) 120 pz20 [(.agg [.bool n, .int .u64 a0, .int .u64 a1, .int .u64 a2, .int .u64 a3, .int .i64 sc]), (.agg [.bool m, .int .u64 b0, .int .u64 b1, .int .u64 b2, .int .u64 b3, .int .i64 tc])] [] R) := by kernel_rfl
theorem v7s (n : Bool) (a0 a1 a2 a3 sc : Int) (m : Bool) (b0 b1 b2 b3 tc : Int) (R : AV → AHeap → Prop) : (∃ (n_1 : Int), some (AV.int .i64 (if (decide (sc < 0) || decide (sc > 18) || n && !nz4 a0 a1 a2 a3) = true then 20 else 0)) = some (AV.int .i64 n_1) ∧ askB (n_1 != 0) (∃ (b : Bool), TbE.s { f := 8, s := sLive, r := Rs.of (Rs1.one K1.bool) } [] [AObj.row 26 6 [AV.bool n, AV.int .u64 a0, AV.int .u64 a1, AV.int .u64 a2, AV.int .u64 a3, AV.int .i64 sc], AObj.row 26 6 [AV.bool m, AV.int .u64 b0, AV.int .u64 b1, AV.int .u64 b2, AV.int .u64 b3, AV.int .i64 tc]] = some (AV.bool b) ∧ askB b (R (AV.bool true) [AObj.row 26 6 [AV.bool n, AV.int .u64 a0, AV.int .u64 a1, AV.int .u64 a2, AV.int .u64 a3, AV.int .i64 sc], AObj.row 26 6 [AV.bool m, AV.int .u64 b0, AV.int .u64 b1, AV.int .u64 b2, AV.int .u64 b3, AV.int .i64 tc]]) (R (AV.bool false) [AObj.row 26 6 [AV.bool n, AV.int .u64 a0, AV.int .u64 a1, AV.int .u64 a2, AV.int .u64 a3, AV.int .i64 sc], AObj.row 26 6 [AV.bool m, AV.int .u64 b0, AV.int .u64 b1, AV.int .u64 b2, AV.int .u64 b3, AV.int .i64 tc]])) (∃ (n_2 : Int), some (AV.int .i64 (if (decide (tc < 0) || decide (tc > 18) || m && !nz4 b0 b1 b2 b3) = true then 20 else 0)) = some (AV.int .i64 n_2) ∧ askB (n_2 != 0) (∃ (b : Bool), TbE.s { f := 8, s := sLive, r := Rs.of (Rs1.one K1.bool) } [] [AObj.row 26 6 [AV.bool n, AV.int .u64 a0, AV.int .u64 a1, AV.int .u64 a2, AV.int .u64 a3, AV.int .i64 sc], AObj.row 26 6 [AV.bool m, AV.int .u64 b0, AV.int .u64 b1, AV.int .u64 b2, AV.int .u64 b3, AV.int .i64 tc]] = some (AV.bool b) ∧ askB b (R (AV.bool true) [AObj.row 26 6 [AV.bool n, AV.int .u64 a0, AV.int .u64 a1, AV.int .u64 a2, AV.int .u64 a3, AV.int .i64 sc], AObj.row 26 6 [AV.bool m, AV.int .u64 b0, AV.int .u64 b1, AV.int .u64 b2, AV.int .u64 b3, AV.int .i64 tc]]) (R (AV.bool false) [AObj.row 26 6 [AV.bool n, AV.int .u64 a0, AV.int .u64 a1, AV.int .u64 a2, AV.int .u64 a3, AV.int .i64 sc], AObj.row 26 6 [AV.bool m, AV.int .u64 b0, AV.int .u64 b1, AV.int .u64 b2, AV.int .u64 b3, AV.int .i64 tc]])) (∃ (b : Bool), TbE.s { f := 8, s := sLive, r := Rs.of (Rs1.one K1.bool) } [] [AObj.row 26 6 [AV.bool n, AV.int .u64 a0, AV.int .u64 a1, AV.int .u64 a2, AV.int .u64 a3, AV.int .i64 sc], AObj.row 26 6 [AV.bool m, AV.int .u64 b0, AV.int .u64 b1, AV.int .u64 b2, AV.int .u64 b3, AV.int .i64 tc]] = some (AV.bool b) ∧ askB b (∃ (s : List UInt8), sTextD [AV.agg [AV.bool n, AV.int .u64 a0, AV.int .u64 a1, AV.int .u64 a2, AV.int .u64 a3, AV.int .i64 sc]] = some (AV.str s) ∧ ∃ (s_1 : List UInt8), sTextD [AV.agg [AV.bool m, AV.int .u64 b0, AV.int .u64 b1, AV.int .u64 b2, AV.int .u64 b3, AV.int .i64 tc]] = some (AV.str s_1) ∧ askB (s == s_1) (askB (n == m && (a0 == b0 && (a1 == b1 && (a2 == b2 && (a3 == b3 && true))) && (sc == tc && true))) (∃ (s : List UInt8), sShortD [AV.agg [AV.bool n, AV.int .u64 a0, AV.int .u64 a1, AV.int .u64 a2, AV.int .u64 a3, AV.int .i64 sc]] = some (AV.str s) ∧ ∃ (s_2 : List UInt8), sShortD [AV.agg [AV.bool m, AV.int .u64 b0, AV.int .u64 b1, AV.int .u64 b2, AV.int .u64 b3, AV.int .i64 tc]] = some (AV.str s_2) ∧ askB (s == s_2) (∃ (n_3 : Int), sCmpD [AV.agg [AV.bool n, AV.int .u64 a0, AV.int .u64 a1, AV.int .u64 a2, AV.int .u64 a3, AV.int .i64 sc], AV.agg [AV.bool m, AV.int .u64 b0, AV.int .u64 b1, AV.int .u64 b2, AV.int .u64 b3, AV.int .i64 tc]] = some (AV.int .i64 n_3) ∧ askB (n_3 == 0) (R (AV.bool true) [AObj.row 26 6 [AV.bool n, AV.int .u64 a0, AV.int .u64 a1, AV.int .u64 a2, AV.int .u64 a3, AV.int .i64 sc], AObj.row 26 6 [AV.bool m, AV.int .u64 b0, AV.int .u64 b1, AV.int .u64 b2, AV.int .u64 b3, AV.int .i64 tc]]) (R (AV.bool false) [AObj.row 26 6 [AV.bool n, AV.int .u64 a0, AV.int .u64 a1, AV.int .u64 a2, AV.int .u64 a3, AV.int .i64 sc], AObj.row 26 6 [AV.bool m, AV.int .u64 b0, AV.int .u64 b1, AV.int .u64 b2, AV.int .u64 b3, AV.int .i64 tc]])) (∃ (n_3 : Int), sCmpD [AV.agg [AV.bool n, AV.int .u64 a0, AV.int .u64 a1, AV.int .u64 a2, AV.int .u64 a3, AV.int .i64 sc], AV.agg [AV.bool m, AV.int .u64 b0, AV.int .u64 b1, AV.int .u64 b2, AV.int .u64 b3, AV.int .i64 tc]] = some (AV.int .i64 n_3) ∧ askB (n_3 == 0) (R (AV.bool false) [AObj.row 26 6 [AV.bool n, AV.int .u64 a0, AV.int .u64 a1, AV.int .u64 a2, AV.int .u64 a3, AV.int .i64 sc], AObj.row 26 6 [AV.bool m, AV.int .u64 b0, AV.int .u64 b1, AV.int .u64 b2, AV.int .u64 b3, AV.int .i64 tc]]) (R (AV.bool true) [AObj.row 26 6 [AV.bool n, AV.int .u64 a0, AV.int .u64 a1, AV.int .u64 a2, AV.int .u64 a3, AV.int .i64 sc], AObj.row 26 6 [AV.bool m, AV.int .u64 b0, AV.int .u64 b1, AV.int .u64 b2, AV.int .u64 b3, AV.int .i64 tc]]))) (R (AV.bool false) [AObj.row 26 6 [AV.bool n, AV.int .u64 a0, AV.int .u64 a1, AV.int .u64 a2, AV.int .u64 a3, AV.int .i64 sc], AObj.row 26 6 [AV.bool m, AV.int .u64 b0, AV.int .u64 b1, AV.int .u64 b2, AV.int .u64 b3, AV.int .i64 tc]])) (askB (n == m && (a0 == b0 && (a1 == b1 && (a2 == b2 && (a3 == b3 && true))) && (sc == tc && true))) (R (AV.bool false) [AObj.row 26 6 [AV.bool n, AV.int .u64 a0, AV.int .u64 a1, AV.int .u64 a2, AV.int .u64 a3, AV.int .i64 sc], AObj.row 26 6 [AV.bool m, AV.int .u64 b0, AV.int .u64 b1, AV.int .u64 b2, AV.int .u64 b3, AV.int .i64 tc]]) (∃ (s : List UInt8), sShortD [AV.agg [AV.bool n, AV.int .u64 a0, AV.int .u64 a1, AV.int .u64 a2, AV.int .u64 a3, AV.int .i64 sc]] = some (AV.str s) ∧ ∃ (s_2 : List UInt8), sShortD [AV.agg [AV.bool m, AV.int .u64 b0, AV.int .u64 b1, AV.int .u64 b2, AV.int .u64 b3, AV.int .i64 tc]] = some (AV.str s_2) ∧ askB (s == s_2) (∃ (n_3 : Int), sCmpD [AV.agg [AV.bool n, AV.int .u64 a0, AV.int .u64 a1, AV.int .u64 a2, AV.int .u64 a3, AV.int .i64 sc], AV.agg [AV.bool m, AV.int .u64 b0, AV.int .u64 b1, AV.int .u64 b2, AV.int .u64 b3, AV.int .i64 tc]] = some (AV.int .i64 n_3) ∧ askB (n_3 == 0) (R (AV.bool true) [AObj.row 26 6 [AV.bool n, AV.int .u64 a0, AV.int .u64 a1, AV.int .u64 a2, AV.int .u64 a3, AV.int .i64 sc], AObj.row 26 6 [AV.bool m, AV.int .u64 b0, AV.int .u64 b1, AV.int .u64 b2, AV.int .u64 b3, AV.int .i64 tc]]) (R (AV.bool false) [AObj.row 26 6 [AV.bool n, AV.int .u64 a0, AV.int .u64 a1, AV.int .u64 a2, AV.int .u64 a3, AV.int .i64 sc], AObj.row 26 6 [AV.bool m, AV.int .u64 b0, AV.int .u64 b1, AV.int .u64 b2, AV.int .u64 b3, AV.int .i64 tc]])) (∃ (n_3 : Int), sCmpD [AV.agg [AV.bool n, AV.int .u64 a0, AV.int .u64 a1, AV.int .u64 a2, AV.int .u64 a3, AV.int .i64 sc], AV.agg [AV.bool m, AV.int .u64 b0, AV.int .u64 b1, AV.int .u64 b2, AV.int .u64 b3, AV.int .i64 tc]] = some (AV.int .i64 n_3) ∧ askB (n_3 == 0) (R (AV.bool false) [AObj.row 26 6 [AV.bool n, AV.int .u64 a0, AV.int .u64 a1, AV.int .u64 a2, AV.int .u64 a3, AV.int .i64 sc], AObj.row 26 6 [AV.bool m, AV.int .u64 b0, AV.int .u64 b1, AV.int .u64 b2, AV.int .u64 b3, AV.int .i64 tc]]) (R (AV.bool true) [AObj.row 26 6 [AV.bool n, AV.int .u64 a0, AV.int .u64 a1, AV.int .u64 a2, AV.int .u64 a3, AV.int .i64 sc], AObj.row 26 6 [AV.bool m, AV.int .u64 b0, AV.int .u64 b1, AV.int .u64 b2, AV.int .u64 b3, AV.int .i64 tc]]))))) (∃ (b : Bool), TbE.s { f := 8, s := sLive, r := Rs.of (Rs1.one K1.bool) } [] [AObj.row 26 6 [AV.bool n, AV.int .u64 a0, AV.int .u64 a1, AV.int .u64 a2, AV.int .u64 a3, AV.int .i64 sc], AObj.row 26 6 [AV.bool m, AV.int .u64 b0, AV.int .u64 b1, AV.int .u64 b2, AV.int .u64 b3, AV.int .i64 tc]] = some (AV.bool b) ∧ askB b (R (AV.bool true) [AObj.row 26 6 [AV.bool n, AV.int .u64 a0, AV.int .u64 a1, AV.int .u64 a2, AV.int .u64 a3, AV.int .i64 sc], AObj.row 26 6 [AV.bool m, AV.int .u64 b0, AV.int .u64 b1, AV.int .u64 b2, AV.int .u64 b3, AV.int .i64 tc]]) (R (AV.bool false) [AObj.row 26 6 [AV.bool n, AV.int .u64 a0, AV.int .u64 a1, AV.int .u64 a2, AV.int .u64 a3, AV.int .i64 sc], AObj.row 26 6 [AV.bool m, AV.int .u64 b0, AV.int .u64 b1, AV.int .u64 b2, AV.int .u64 b3, AV.int .i64 tc]]))))) = (wpF Tryd.prog (tbC Q tb7s (fun _ => false) kdU) 120 pz7 [(.agg [.bool n, .int .u64 a0, .int .u64 a1, .int .u64 a2, .int .u64 a3, .int .i64 sc]), (.agg [.bool m, .int .u64 b0, .int .u64 b1, .int .u64 b2, .int .u64 b3, .int .i64 tc])] [] R) := by kernel_rfl
theorem bad_lim {neg : Bool} {v : Nat} {sc : Int} (hv : v < 115792089237316195423570985008687907853269984665640564039457584007913129639936) : badD neg ((v : Int) % 18446744073709551616) ((v : Int) / 18446744073709551616 % 18446744073709551616) ((v : Int) / 18446744073709551616 / 18446744073709551616 % 18446744073709551616) ((v : Int) / 18446744073709551616 / 18446744073709551616 / 18446744073709551616 % 18446744073709551616) sc = (decide (sc < 0) || decide (sc > 18) || (neg && decide (v = 0))) := by
  unfold badD
  rw [nz_limbs (by omega) (by omega)]
  congr 2
  rw [← decide_not]
  congr 1
  simp only [ne_eq, Decidable.not_not, eq_iff_iff]
  omega
theorem bad_false {neg : Bool} {v : Nat} {sc : Int} (hv : v < 115792089237316195423570985008687907853269984665640564039457584007913129639936) (h : badD neg ((v : Int) % 18446744073709551616) ((v : Int) / 18446744073709551616 % 18446744073709551616) ((v : Int) / 18446744073709551616 / 18446744073709551616 % 18446744073709551616) ((v : Int) / 18446744073709551616 / 18446744073709551616 / 18446744073709551616 % 18446744073709551616) sc = false) : ∃ k : Nat, sc = k ∧ k ≤ 18 ∧ (neg = true → v ≠ 0) := by
  rw [bad_lim hv] at h
  simp only [Bool.or_eq_false_iff, decide_eq_false_iff_not, Bool.and_eq_false_iff] at h
  obtain ⟨⟨h1, h2⟩, h3⟩ := h
  refine ⟨sc.toNat, by omega, by omega, fun e => ?_⟩
  rcases h3 with h3 | h3
  · rw [e] at h3; cases h3
  · exact h3
theorem bad_mk {neg : Bool} {v k : Nat} (hv : v < 115792089237316195423570985008687907853269984665640564039457584007913129639936) (hk : k ≤ 18) (hn : neg = true → v ≠ 0) : badD neg ((v : Int) % 18446744073709551616) ((v : Int) / 18446744073709551616 % 18446744073709551616) ((v : Int) / 18446744073709551616 / 18446744073709551616 % 18446744073709551616) ((v : Int) / 18446744073709551616 / 18446744073709551616 / 18446744073709551616 % 18446744073709551616) (k : Int) = false := by
  rw [bad_lim hv]
  rw [decide_eq_false (by omega), decide_eq_false (by omega)]
  cases neg
  · rfl
  · rw [decide_eq_false (hn rfl)]; rfl
theorem num_lim {v : Nat} (hv : v < 115792089237316195423570985008687907853269984665640564039457584007913129639936) : (num4 ((v : Int) % 18446744073709551616) ((v : Int) / 18446744073709551616 % 18446744073709551616) ((v : Int) / 18446744073709551616 / 18446744073709551616 % 18446744073709551616) ((v : Int) / 18446744073709551616 / 18446744073709551616 / 18446744073709551616 % 18446744073709551616)).toNat = v := by
  rw [num_limbs (by omega) (by omega), Int.toNat_natCast]
theorem textV_at {neg : Bool} {v k : Nat} (hv : v < 115792089237316195423570985008687907853269984665640564039457584007913129639936) (hk : k ≤ 18) (hn : neg = true → v ≠ 0) : sTextD [.agg [.bool neg, .int .u64 ((v : Int) % 18446744073709551616), .int .u64 ((v : Int) / 18446744073709551616 % 18446744073709551616), .int .u64 ((v : Int) / 18446744073709551616 / 18446744073709551616 % 18446744073709551616), .int .u64 ((v : Int) / 18446744073709551616 / 18446744073709551616 / 18446744073709551616 % 18446744073709551616), .int .i64 (k : Int)]] = some (.str (textD neg v k)) := by
  rw [textD_at (u64_limbs _), bad_mk hv hk hn, num_lim hv, Int.toNat_natCast]; rfl
theorem shortV_at {neg : Bool} {v k : Nat} (hv : v < 115792089237316195423570985008687907853269984665640564039457584007913129639936) (hk : k ≤ 18) (hn : neg = true → v ≠ 0) : sShortD [.agg [.bool neg, .int .u64 ((v : Int) % 18446744073709551616), .int .u64 ((v : Int) / 18446744073709551616 % 18446744073709551616), .int .u64 ((v : Int) / 18446744073709551616 / 18446744073709551616 % 18446744073709551616), .int .u64 ((v : Int) / 18446744073709551616 / 18446744073709551616 / 18446744073709551616 % 18446744073709551616), .int .i64 (k : Int)]] = some (.str (shortD neg v k)) := by
  rw [shortD_at (u64_limbs _), bad_mk hv hk hn, num_lim hv, Int.toNat_natCast]; rfl
theorem cmpI_lt {a b : Int} (h : a < b) : cmpI a b = -1 := by unfold cmpI; rw [if_neg (by omega), if_pos h]
theorem cmpI_gt {a b : Int} (h : b < a) : cmpI a b = 1 := by unfold cmpI; rw [if_neg (by omega), if_neg (by omega)]
theorem cmpI_eq {a b : Int} (h : a = b) : cmpI a b = 0 := if_pos h
theorem cmpI_zero {a b : Int} : cmpI a b = 0 ↔ a = b := by
  rcases Int.lt_trichotomy a b with h | h | h
  · rw [cmpI_lt h]; omega
  · rw [cmpI_eq h]; simp [h]
  · rw [cmpI_gt h]; omega
theorem cmpI_high {h1 h2 l1 l2 : Int} (h : h1 ≠ h2) (p1 : 0 ≤ l1) (q1 : l1 < 115792089237316195423570985008687907853269984665640564039457584007913129639936) (p2 : 0 ≤ l2) (q2 : l2 < 115792089237316195423570985008687907853269984665640564039457584007913129639936) : cmpI (h1 * 115792089237316195423570985008687907853269984665640564039457584007913129639936 + l1) (h2 * 115792089237316195423570985008687907853269984665640564039457584007913129639936 + l2) = cmpI h1 h2 := by
  rcases Int.lt_trichotomy h1 h2 with g | g | g
  · rw [cmpI_lt g, cmpI_lt (by omega)]
  · exact absurd g h
  · rw [cmpI_gt g, cmpI_gt (by omega)]
theorem cmpI_low {h1 h2 l1 l2 : Int} (h : h1 = h2) : cmpI (h1 * 115792089237316195423570985008687907853269984665640564039457584007913129639936 + l1) (h2 * 115792089237316195423570985008687907853269984665640564039457584007913129639936 + l2) = cmpI l1 l2 := by
  subst h
  rcases Int.lt_trichotomy l1 l2 with g | g | g
  · rw [cmpI_lt g, cmpI_lt (by omega)]
  · rw [cmpI_eq g, cmpI_eq (by omega)]
  · rw [cmpI_gt g, cmpI_gt (by omega)]
theorem cmp4_ok : QuietOK Tryd.prog 70 fun vs _ => sCmp4 vs := quiet_plain htz70 fun args v h => by
  unfold sCmp4 at h
  split at h
  · rename_i a0 a1 a2 a3 b0 b1 b2 b3
    split at h
    · rename_i hs
      cases h
      refine ⟨rfl, rfl, ?_⟩
      have hS : (tbS Q []).OK Tryd.prog := tbS_ok quietText (by simp)
      obtain ⟨u, h', rfl, hsem⟩ := sem_vc mixed (C := tbC Q [] (fun _ => false) kdU) hS (tbS_q _ _) (tbW_ok rfl) htz70 cz70 (fun x _ => part_none (fun _ => rfl) (fun _ => rfl) x) (v70s a0 a1 a2 a3 b0 b1 b2 b3 fun u _ => u = .int .i64 (cmpI (num4 a0 a1 a2 a3) (num4 b0 b1 b2 b3))) (by
        simp only [u64s, u64B, Bool.and_eq_true, decide_eq_true_eq] at hs
        obtain ⟨⟨⟨⟨⟨h0, g0⟩, h1, g1⟩, h2, g2⟩, h3, g3⟩, ⟨⟨⟨h4, g4⟩, h5, g5⟩, h6, g6⟩, h7, g7⟩ := hs
        refine askI (fun g => askI (fun q => ?_) fun q => ?_) fun g => askI (fun g' => askI (fun q => ?_) fun q => ?_) fun g' => askI (fun g'' => askI (fun q => ?_) fun q => ?_) fun g'' => askI (fun z => askI (fun q => ?_) fun q => ?_) fun z => ?_
        all_goals simp only [bne_iff_ne, ne_eq, bne_eq_false_iff_eq, decide_eq_true_eq, decide_eq_false_iff_not] at *
        · exact congrArg _ (cmpI_lt (by unfold num4; omega)).symm
        · exact congrArg _ (cmpI_gt (by unfold num4; omega)).symm
        · exact congrArg _ (cmpI_lt (by unfold num4; omega)).symm
        · exact congrArg _ (cmpI_gt (by unfold num4; omega)).symm
        · exact congrArg _ (cmpI_lt (by unfold num4; omega)).symm
        · exact congrArg _ (cmpI_gt (by unfold num4; omega)).symm
        · exact congrArg _ (cmpI_lt (by unfold num4; omega)).symm
        · exact congrArg _ (cmpI_gt (by unfold num4; omega)).symm
        · exact congrArg _ (cmpI_eq (by unfold num4; omega)).symm)
      exact ⟨h', hsem⟩
    · cases h
  · cases h
theorem cmp4_at {a0 a1 a2 a3 b0 b1 b2 b3 : Int} (h : u64s a0 a1 a2 a3 = true) (g : u64s b0 b1 b2 b3 = true) : sCmp4 [.agg [.int .u64 a0, .int .u64 a1, .int .u64 a2, .int .u64 a3], .agg [.int .u64 b0, .int .u64 b1, .int .u64 b2, .int .u64 b3]] = some (.int .i64 (cmpI (num4 a0 a1 a2 a3) (num4 b0 b1 b2 b3))) := if_pos ⟨h, g⟩
theorem cmpW_ok : QuietOK Tryd.prog 41 fun vs _ => sCmpW vs := quiet_plain htz41 fun args v h => by
  unfold sCmpW at h
  split at h
  · rename_i a0 a1 a2 a3 a4 a5 a6 a7 b0 b1 b2 b3 b4 b5 b6 b7
    split at h
    · rename_i hs
      cases h
      refine ⟨rfl, rfl, ?_⟩
      obtain ⟨⟨u1, u2⟩, u3, u4⟩ := hs
      have hS : (tbS Q tb41).OK Tryd.prog := tbS_ok quietText (by
        intro x hx
        simp only [tb41, List.mem_cons, List.not_mem_nil, or_false] at hx
        subst hx
        exact cmp4_ok)
      obtain ⟨u, h', rfl, hsem⟩ := sem_vc mixed (C := tbC Q tb41 (fun _ => false) kdU) hS (tbS_q _ _) (tbW_ok rfl) htz41 cz41 (no_parts rfl) (v41s a0 a1 a2 a3 a4 a5 a6 a7 b0 b1 b2 b3 b4 b5 b6 b7 fun u _ => u = .int .i64 (cmpI (num8 a0 a1 a2 a3 a4 a5 a6 a7) (num8 b0 b1 b2 b3 b4 b5 b6 b7))) (by
        obtain ⟨-, l1, l2⟩ := limbs_num u2
        obtain ⟨-, l3, l4⟩ := limbs_num u4
        unfold num8
        refine ⟨_, cmp4_at u1 u3, askI (fun g => ?_) fun g => ⟨_, cmp4_at u2 u4, ?_⟩⟩
        · rw [bne_iff_ne] at g
          rw [cmpI_high (fun e => g (cmpI_eq e)) l1 l2 l3 l4]
        · rw [bne_eq_false_iff_eq] at g
          rw [cmpI_low (cmpI_zero.1 g)])
      exact ⟨h', hsem⟩
    · cases h
  · cases h
theorem sign_ok : QuietOK Tryd.prog 40 fun vs _ => sSign vs := quiet_plain htz40 fun args v h => by
  unfold sSign at h
  split at h
  · rename_i neg l0 l1 l2 l3 sc
    cases h
    refine ⟨rfl, rfl, ?_⟩
    have hS : (tbS Q []).OK Tryd.prog := tbS_ok quietText (by simp)
    obtain ⟨u, h', rfl, hsem⟩ := sem_vc mixed (C := tbC Q [] (fun _ => false) kdU) hS (tbS_q _ _) (tbW_ok rfl) htz40 cz40 (no_parts rfl) (v40s neg l0 l1 l2 l3 sc fun u _ => u = .int .i64 (sgD neg (nz4 l0 l1 l2 l3))) (by
      refine askI (fun g => ?_) fun g => askI (fun q => ?_) fun q => ?_
      · have e : nz4 l0 l1 l2 l3 = false := by unfold nz4; rw [g]; rfl
        rw [e]; rfl
      · have e : nz4 l0 l1 l2 l3 = true := by unfold nz4; rw [g]; rfl
        rw [e, q]; rfl
      · have e : nz4 l0 l1 l2 l3 = true := by unfold nz4; rw [g]; rfl
        rw [e, q]; rfl)
    exact ⟨h', hsem⟩
  · cases h
theorem gChk_ok (d e : List AV) (args : List AV) (hs : List AObj) (v : AV) (hv : gChk d e args hs = some v) : v.closed = true ∧ ∃ h', CallSem Tryd.prog 39 args hs v h' := by
  unfold gChk at hv
  split at hv
  · rename_i hc
    cases hv
    refine ⟨rfl, ?_⟩
    obtain ⟨⟨n, a0, a1, a2, a3, sc, m, b0, b1, b2, b3, tc, rfl, rfl, h1, h2⟩, rfl, rfl⟩ := hc
    have hS : (tbS Q tb39).OK Tryd.prog := tbS_ok quietText (by
      intro x hx
      simp only [tb39, List.mem_cons, List.not_mem_nil, or_false] at hx
      subst hx
      exact check_ok)
    obtain ⟨u, h', rfl, hsem⟩ := sem_vc mixed (C := tbC Q tb39 (fun _ => false) kdU) hS (tbS_q _ _) (tbW_ok rfl) htz39 cz39 (fun x _ => part_none (fun _ => rfl) (fun _ => rfl) x) (v39s n a0 a1 a2 a3 sc m b0 b1 b2 b3 tc fun u _ => u = .int .i64 0) (by
      rw [bad_no h1, bad_no h2]
      exact ⟨_, rfl, askF rfl ⟨_, rfl, askF rfl rfl⟩⟩)
    exact ⟨h', hsem⟩
  · cases hv
theorem chk_ok (d e : List AV) : QuietOK Tryd.prog 39 (sChk d e) := quiet_of_sem htz39 0 (g := gChk d e) (gChk_ok d e)
theorem imp_row {h : AHeap} {k n t s : Nat} {cs rest : List AV} (hk : h.getD k .dead = .row t s cs) (hc : cs.all AV.closed = true) (hr : rest.all AV.closed = true) : impD 0 h (.sl (some (k, 0)) n (.rel 0) :: rest) = some (.sl (some (0, 0)) n (.rel 0) :: rest, [.ro cs]) := by
  have h0 : AV.namesL rest = [] := namesL_refs0 _ (closedL hr)
  have hr' : reachK 0 h (.sl (some (k, 0)) n (.rel 0) :: rest) = [k] := by
    unfold reachK
    show (AV.namesL (_ :: rest)).eraseDups = [k]
    rw [AV.namesL, h0]
    rfl
  unfold impD
  rw [hr', if_pos (by simp)]
  have hi : List.idxOf? k [k] = some 0 := by simp [List.idxOf?]
  have e1 : AV.renL (fun i => List.idxOf? i [k]) (.sl (some (k, 0)) n (.rel 0) :: rest) = some (.sl (some (0, 0)) n (.rel 0) :: rest) := by
    simp only [AV.renL, AV.ren, hi, Option.map_some, renL_closed _ (closedL hr)]
  have e2 : roObj (renObj (fun i => List.idxOf? i [k]) (.row t s cs)) = .ro cs := by
    simp only [renObj, renL_closed _ (closedL hc), roObj]
  rw [e1]
  simp only [Option.map_some, List.map_cons, List.map_nil, hk, e2]
theorem chk_at {n m : Bool} {a0 a1 a2 a3 sc b0 b1 b2 b3 tc : Int} {h : AHeap} {k : Nat} (hk : h.getD k .dead = .row 26 6 (decL n a0 a1 a2 a3 sc ++ decL m b0 b1 b2 b3 tc)) (h1 : badD n a0 a1 a2 a3 sc = false) (h2 : badD m b0 b1 b2 b3 tc = false) : sChk (decL n a0 a1 a2 a3 sc) (decL m b0 b1 b2 b3 tc) [.sl (some (k, 0)) 2 (.rel 0)] h = some (.int .i64 0) := by
  unfold sChk
  rw [imp_row hk rfl rfl]
  show gChk _ _ _ _ = _
  unfold gChk
  exact if_pos ⟨⟨_, _, _, _, _, _, _, _, _, _, _, _, rfl, rfl, h1, h2⟩, rfl, rfl⟩
theorem num_mod {x : Int} (h0 : 0 ≤ x) : num4 (x % 18446744073709551616) (x / 18446744073709551616 % 18446744073709551616) (x / 18446744073709551616 / 18446744073709551616 % 18446744073709551616) (x / 18446744073709551616 / 18446744073709551616 / 18446744073709551616 % 18446744073709551616) = x % 115792089237316195423570985008687907853269984665640564039457584007913129639936 := by
  unfold num4; omega
theorem sg_cases (n z : Bool) : sgD n z = -1 ∨ sgD n z = 0 ∨ sgD n z = 1 := by cases n <;> cases z <;> decide
theorem nz_v {v : Nat} (hv : v < 115792089237316195423570985008687907853269984665640564039457584007913129639936) : nz4 ((v : Int) % 18446744073709551616) ((v : Int) / 18446744073709551616 % 18446744073709551616) ((v : Int) / 18446744073709551616 / 18446744073709551616 % 18446744073709551616) ((v : Int) / 18446744073709551616 / 18446744073709551616 / 18446744073709551616 % 18446744073709551616) = decide (v ≠ 0) := by
  rw [nz_limbs (by omega) (by omega)]
  congr 1
  simp only [ne_eq, eq_iff_iff]
  omega
theorem lim_inj {v w : Nat} (hv : v < 115792089237316195423570985008687907853269984665640564039457584007913129639936) (hw : w < 115792089237316195423570985008687907853269984665640564039457584007913129639936) (h : ((v : Int) % 18446744073709551616 == (w : Int) % 18446744073709551616 && ((v : Int) / 18446744073709551616 % 18446744073709551616 == (w : Int) / 18446744073709551616 % 18446744073709551616 && ((v : Int) / 18446744073709551616 / 18446744073709551616 % 18446744073709551616 == (w : Int) / 18446744073709551616 / 18446744073709551616 % 18446744073709551616 && ((v : Int) / 18446744073709551616 / 18446744073709551616 / 18446744073709551616 % 18446744073709551616 == (w : Int) / 18446744073709551616 / 18446744073709551616 / 18446744073709551616 % 18446744073709551616 && true)))) = true) : v = w := by
  simp only [Bool.and_eq_true, beq_iff_eq, and_true] at h
  obtain ⟨a, b, c, d⟩ := h
  have e1 := num_limbs (x := (v : Int)) (by omega) (by omega)
  have e2 := num_limbs (x := (w : Int)) (by omega) (by omega)
  rw [a, b, c, d, e2] at e1
  omega
theorem cmpD_self (n : Bool) (v k : Nat) : cmpD n v k n v k = 0 := by
  unfold cmpD
  have h := sg_cases n (decide (v ≠ 0))
  generalize sgD n (decide (v ≠ 0)) = s at h ⊢
  rw [cmpI_eq rfl]
  rcases h with rfl | rfl | rfl <;> decide
theorem timesV_at {v n : Nat} (hv : v < 115792089237316195423570985008687907853269984665640564039457584007913129639936) (hn : n ≤ 77) : sTimesN [.agg [.int .u64 ((v : Int) % 18446744073709551616), .int .u64 ((v : Int) / 18446744073709551616 % 18446744073709551616), .int .u64 ((v : Int) / 18446744073709551616 / 18446744073709551616 % 18446744073709551616), .int .u64 ((v : Int) / 18446744073709551616 / 18446744073709551616 / 18446744073709551616 % 18446744073709551616)], .int .i64 (n : Int)] = some (.agg [.int .u64 ((((v * 10 ^ n : Nat) : Int) / 115792089237316195423570985008687907853269984665640564039457584007913129639936) % 18446744073709551616), .int .u64 ((((v * 10 ^ n : Nat) : Int) / 115792089237316195423570985008687907853269984665640564039457584007913129639936) / 18446744073709551616 % 18446744073709551616), .int .u64 ((((v * 10 ^ n : Nat) : Int) / 115792089237316195423570985008687907853269984665640564039457584007913129639936) / 18446744073709551616 / 18446744073709551616 % 18446744073709551616), .int .u64 ((((v * 10 ^ n : Nat) : Int) / 115792089237316195423570985008687907853269984665640564039457584007913129639936) / 18446744073709551616 / 18446744073709551616 / 18446744073709551616 % 18446744073709551616), .int .u64 (((v * 10 ^ n : Nat) : Int) % 18446744073709551616), .int .u64 (((v * 10 ^ n : Nat) : Int) / 18446744073709551616 % 18446744073709551616), .int .u64 (((v * 10 ^ n : Nat) : Int) / 18446744073709551616 / 18446744073709551616 % 18446744073709551616), .int .u64 (((v * 10 ^ n : Nat) : Int) / 18446744073709551616 / 18446744073709551616 / 18446744073709551616 % 18446744073709551616)]) := by
  have h := times_at (v := (v : Int)) (n := (n : Int)) (by omega) (by omega) ⟨by omega, by omega⟩
  rw [Int.toNat_natCast] at h
  have e : (v : Int) * 10 ^ n = ((v * 10 ^ n : Nat) : Int) := by push_cast; rfl
  rw [e] at h
  exact h
theorem num8_lim {x : Int} (h0 : 0 ≤ x) (h1 : x / 115792089237316195423570985008687907853269984665640564039457584007913129639936 < 115792089237316195423570985008687907853269984665640564039457584007913129639936) : num8 ((x / 115792089237316195423570985008687907853269984665640564039457584007913129639936) % 18446744073709551616) ((x / 115792089237316195423570985008687907853269984665640564039457584007913129639936) / 18446744073709551616 % 18446744073709551616) ((x / 115792089237316195423570985008687907853269984665640564039457584007913129639936) / 18446744073709551616 / 18446744073709551616 % 18446744073709551616) ((x / 115792089237316195423570985008687907853269984665640564039457584007913129639936) / 18446744073709551616 / 18446744073709551616 / 18446744073709551616 % 18446744073709551616) (x % 18446744073709551616) (x / 18446744073709551616 % 18446744073709551616) (x / 18446744073709551616 / 18446744073709551616 % 18446744073709551616) (x / 18446744073709551616 / 18446744073709551616 / 18446744073709551616 % 18446744073709551616) = x := by
  unfold num8
  rw [num_limbs (by omega) h1, num_mod h0]
  omega
theorem cmpW_at {x y : Int} (hx : 0 ≤ x) (hx1 : x / 115792089237316195423570985008687907853269984665640564039457584007913129639936 < 115792089237316195423570985008687907853269984665640564039457584007913129639936) (hy : 0 ≤ y) (hy1 : y / 115792089237316195423570985008687907853269984665640564039457584007913129639936 < 115792089237316195423570985008687907853269984665640564039457584007913129639936) : sCmpW [.agg [.int .u64 ((x / 115792089237316195423570985008687907853269984665640564039457584007913129639936) % 18446744073709551616), .int .u64 ((x / 115792089237316195423570985008687907853269984665640564039457584007913129639936) / 18446744073709551616 % 18446744073709551616), .int .u64 ((x / 115792089237316195423570985008687907853269984665640564039457584007913129639936) / 18446744073709551616 / 18446744073709551616 % 18446744073709551616), .int .u64 ((x / 115792089237316195423570985008687907853269984665640564039457584007913129639936) / 18446744073709551616 / 18446744073709551616 / 18446744073709551616 % 18446744073709551616), .int .u64 (x % 18446744073709551616), .int .u64 (x / 18446744073709551616 % 18446744073709551616), .int .u64 (x / 18446744073709551616 / 18446744073709551616 % 18446744073709551616), .int .u64 (x / 18446744073709551616 / 18446744073709551616 / 18446744073709551616 % 18446744073709551616)], .agg [.int .u64 ((y / 115792089237316195423570985008687907853269984665640564039457584007913129639936) % 18446744073709551616), .int .u64 ((y / 115792089237316195423570985008687907853269984665640564039457584007913129639936) / 18446744073709551616 % 18446744073709551616), .int .u64 ((y / 115792089237316195423570985008687907853269984665640564039457584007913129639936) / 18446744073709551616 / 18446744073709551616 % 18446744073709551616), .int .u64 ((y / 115792089237316195423570985008687907853269984665640564039457584007913129639936) / 18446744073709551616 / 18446744073709551616 / 18446744073709551616 % 18446744073709551616), .int .u64 (y % 18446744073709551616), .int .u64 (y / 18446744073709551616 % 18446744073709551616), .int .u64 (y / 18446744073709551616 / 18446744073709551616 % 18446744073709551616), .int .u64 (y / 18446744073709551616 / 18446744073709551616 / 18446744073709551616 % 18446744073709551616)]] = some (.int .i64 (cmpI x y)) := by
  have : sCmpW [.agg [.int .u64 ((x / 115792089237316195423570985008687907853269984665640564039457584007913129639936) % 18446744073709551616), .int .u64 ((x / 115792089237316195423570985008687907853269984665640564039457584007913129639936) / 18446744073709551616 % 18446744073709551616), .int .u64 ((x / 115792089237316195423570985008687907853269984665640564039457584007913129639936) / 18446744073709551616 / 18446744073709551616 % 18446744073709551616), .int .u64 ((x / 115792089237316195423570985008687907853269984665640564039457584007913129639936) / 18446744073709551616 / 18446744073709551616 / 18446744073709551616 % 18446744073709551616), .int .u64 (x % 18446744073709551616), .int .u64 (x / 18446744073709551616 % 18446744073709551616), .int .u64 (x / 18446744073709551616 / 18446744073709551616 % 18446744073709551616), .int .u64 (x / 18446744073709551616 / 18446744073709551616 / 18446744073709551616 % 18446744073709551616)], .agg [.int .u64 ((y / 115792089237316195423570985008687907853269984665640564039457584007913129639936) % 18446744073709551616), .int .u64 ((y / 115792089237316195423570985008687907853269984665640564039457584007913129639936) / 18446744073709551616 % 18446744073709551616), .int .u64 ((y / 115792089237316195423570985008687907853269984665640564039457584007913129639936) / 18446744073709551616 / 18446744073709551616 % 18446744073709551616), .int .u64 ((y / 115792089237316195423570985008687907853269984665640564039457584007913129639936) / 18446744073709551616 / 18446744073709551616 / 18446744073709551616 % 18446744073709551616), .int .u64 (y % 18446744073709551616), .int .u64 (y / 18446744073709551616 % 18446744073709551616), .int .u64 (y / 18446744073709551616 / 18446744073709551616 % 18446744073709551616), .int .u64 (y / 18446744073709551616 / 18446744073709551616 / 18446744073709551616 % 18446744073709551616)]] = some (.int .i64 (cmpI (num8 ((x / 115792089237316195423570985008687907853269984665640564039457584007913129639936) % 18446744073709551616) ((x / 115792089237316195423570985008687907853269984665640564039457584007913129639936) / 18446744073709551616 % 18446744073709551616) ((x / 115792089237316195423570985008687907853269984665640564039457584007913129639936) / 18446744073709551616 / 18446744073709551616 % 18446744073709551616) ((x / 115792089237316195423570985008687907853269984665640564039457584007913129639936) / 18446744073709551616 / 18446744073709551616 / 18446744073709551616 % 18446744073709551616) (x % 18446744073709551616) (x / 18446744073709551616 % 18446744073709551616) (x / 18446744073709551616 / 18446744073709551616 % 18446744073709551616) (x / 18446744073709551616 / 18446744073709551616 / 18446744073709551616 % 18446744073709551616)) (num8 ((y / 115792089237316195423570985008687907853269984665640564039457584007913129639936) % 18446744073709551616) ((y / 115792089237316195423570985008687907853269984665640564039457584007913129639936) / 18446744073709551616 % 18446744073709551616) ((y / 115792089237316195423570985008687907853269984665640564039457584007913129639936) / 18446744073709551616 / 18446744073709551616 % 18446744073709551616) ((y / 115792089237316195423570985008687907853269984665640564039457584007913129639936) / 18446744073709551616 / 18446744073709551616 / 18446744073709551616 % 18446744073709551616) (y % 18446744073709551616) (y / 18446744073709551616 % 18446744073709551616) (y / 18446744073709551616 / 18446744073709551616 % 18446744073709551616) (y / 18446744073709551616 / 18446744073709551616 / 18446744073709551616 % 18446744073709551616)))) := if_pos ⟨⟨u64_limbs _, u64_limbs _⟩, u64_limbs _, u64_limbs _⟩
  rw [this, num8_lim hx hx1, num8_lim hy hy1]
theorem tb20_ok (d e : List AV) : (tbS Q (tb20 d e)).OK Tryd.prog := tbS_ok quietText (by
  intro x hx
  simp only [tb20, List.mem_cons, List.not_mem_nil, or_false] at hx
  rcases hx with rfl | rfl | rfl | rfl
  · exact chk_ok d e
  · exact sign_ok
  · exact times_ok
  · exact cmpW_ok)
theorem mx_at (k1 k2 : Nat) (h1 : k1 ≤ 18) (h2 : k2 ≤ 18) : IntKind.wrap .i64 ((if true = true then if (k2 : Int) > (k1 : Int) then (k2 : Int) else (k1 : Int) else if (k2 : Int) < (k1 : Int) then (k2 : Int) else (k1 : Int)) - (k1 : Int)) = ((max k1 k2 - k1 : Nat) : Int) := by
  rw [if_pos rfl]
  rcases Nat.lt_or_ge k1 k2 with h | h
  · rw [if_pos (by omega), IntKind.wrap_i64, Nat.max_eq_right (by omega)]; omega
  · rw [if_neg (by omega), IntKind.wrap_i64, Nat.max_eq_left h]; omega
theorem mx_at2 (k1 k2 : Nat) (h1 : k1 ≤ 18) (h2 : k2 ≤ 18) : IntKind.wrap .i64 ((if true = true then if (k2 : Int) > (k1 : Int) then (k2 : Int) else (k1 : Int) else if (k2 : Int) < (k1 : Int) then (k2 : Int) else (k1 : Int)) - (k2 : Int)) = ((max k1 k2 - k2 : Nat) : Int) := by
  rw [if_pos rfl]
  rcases Nat.lt_or_ge k1 k2 with h | h
  · rw [if_pos (by omega), IntKind.wrap_i64, Nat.max_eq_right (by omega)]; omega
  · rw [if_neg (by omega), IntKind.wrap_i64, Nat.max_eq_left h]; omega
theorem pow_hi {v n : Nat} (hv : v < 115792089237316195423570985008687907853269984665640564039457584007913129639936) (hn : n ≤ 77) : 0 ≤ ((v * 10 ^ n : Nat) : Int) ∧ ((v * 10 ^ n : Nat) : Int) / 115792089237316195423570985008687907853269984665640564039457584007913129639936 < 115792089237316195423570985008687907853269984665640564039457584007913129639936 := by
  have h := pow_bd (v := (v : Int)) (k := n) (by omega) (by omega) hn
  have e : (v : Int) * 10 ^ n = ((v * 10 ^ n : Nat) : Int) := by push_cast; rfl
  rw [e] at h
  exact h
theorem cmpDec_ok : QuietOK Tryd.prog 20 fun vs _ => sCmpD vs := quiet_plain htz20 fun args v h => by
  unfold sCmpD at h
  split at h
  · rename_i n a0 a1 a2 a3 sc m b0 b1 b2 b3 tc
    split at h
    · rename_i hs
      cases h
      refine ⟨rfl, rfl, ?_⟩
      obtain ⟨⟨u1, u2⟩, h1, h2⟩ := hs
      obtain ⟨v1, hv1, e1, e2, e3⟩ := num_nat u1
      obtain ⟨v2, hv2, f1, f2, f3⟩ := num_nat u2
      rw [e1, f1]
      obtain ⟨rfl, rfl, rfl, rfl⟩ := limbs_eq e3
      obtain ⟨rfl, rfl, rfl, rfl⟩ := limbs_eq f3
      clear e1 e2 e3 f1 f2 f3 u1 u2
      obtain ⟨k1, rfl, hk1, hn1⟩ := bad_false hv1 h1
      obtain ⟨k2, rfl, hk2, hn2⟩ := bad_false hv2 h2
      rw [Int.toNat_natCast, Int.toNat_natCast]
      obtain ⟨u, h', rfl, hsem⟩ := sem_vc mixed (C := tbC Q (tb20 (decL n ((v1 : Int) % 18446744073709551616) ((v1 : Int) / 18446744073709551616 % 18446744073709551616) ((v1 : Int) / 18446744073709551616 / 18446744073709551616 % 18446744073709551616) ((v1 : Int) / 18446744073709551616 / 18446744073709551616 / 18446744073709551616 % 18446744073709551616) k1) (decL m ((v2 : Int) % 18446744073709551616) ((v2 : Int) / 18446744073709551616 % 18446744073709551616) ((v2 : Int) / 18446744073709551616 / 18446744073709551616 % 18446744073709551616) ((v2 : Int) / 18446744073709551616 / 18446744073709551616 / 18446744073709551616 % 18446744073709551616) k2)) (fun _ => false) kdU) (tb20_ok _ _) (tbS_q _ _) (tbW_ok rfl) htz20 cz20 (no_parts rfl) (v20s n _ _ _ _ k1 m _ _ _ _ k2 fun u _ => u = .int .i64 (cmpD n v1 k1 m v2 k2)) (by
        rw [nz_v hv1, nz_v hv2, mx_at k1 k2 hk1 hk2, mx_at2 k1 k2 hk1 hk2]
        refine ⟨0, by (try dsimp only); exact chk_at rfl h1 h2, askF rfl (askI (fun g => ?_) fun g => ⟨_, rfl, _, rfl, askI (fun q => ?_) fun q => askI (fun z => ?_) fun z => ?_⟩)⟩
        · rw [Bool.and_eq_true, Bool.and_eq_true] at g
          obtain ⟨g1, g2, g3⟩ := g
          have hvv := lim_inj hv1 hv2 g2
          have hnm : n = m := by simpa using g1
          have hkk : k1 = k2 := by
            simp only [Bool.and_true, beq_iff_eq] at g3
            omega
          subst hvv; subst hnm; subst hkk
          rw [cmpD_self]
        · rw [bne_iff_ne] at q
          have ec : cmpD n v1 k1 m v2 k2 = min (max (sgD n (decide (v1 ≠ 0)) - sgD m (decide (v2 ≠ 0))) (-1)) 1 := if_pos (.inl q)
          rw [ec]
          have s1 := sg_cases n (decide (v1 ≠ 0))
          have s2 := sg_cases m (decide (v2 ≠ 0))
          generalize sgD n (decide (v1 ≠ 0)) = x at s1 ⊢
          generalize sgD m (decide (v2 ≠ 0)) = y at s2 ⊢
          rcases s1 with rfl | rfl | rfl <;> rcases s2 with rfl | rfl | rfl <;> rfl
        · rw [beq_iff_eq] at z
          rw [bne_eq_false_iff_eq] at q
          have ec : cmpD n v1 k1 m v2 k2 = min (max (sgD n (decide (v1 ≠ 0)) - sgD m (decide (v2 ≠ 0))) (-1)) 1 := if_pos (.inr z)
          rw [ec, ← q, z]
          rfl
        · have z' : sgD n (decide (v1 ≠ 0)) ≠ 0 := by rw [beq_eq_false_iff_ne] at z; exact z
          rw [bne_eq_false_iff_eq] at q
          have p1 := pow_hi (n := max k1 k2 - k1) hv1 (by omega)
          have p2 := pow_hi (n := max k1 k2 - k2) hv2 (by omega)
          refine ⟨(((v1 * 10 ^ (max k1 k2 - k1) : Nat) : Int) / 115792089237316195423570985008687907853269984665640564039457584007913129639936) % 18446744073709551616, (((v1 * 10 ^ (max k1 k2 - k1) : Nat) : Int) / 115792089237316195423570985008687907853269984665640564039457584007913129639936) / 18446744073709551616 % 18446744073709551616, (((v1 * 10 ^ (max k1 k2 - k1) : Nat) : Int) / 115792089237316195423570985008687907853269984665640564039457584007913129639936) / 18446744073709551616 / 18446744073709551616 % 18446744073709551616, (((v1 * 10 ^ (max k1 k2 - k1) : Nat) : Int) / 115792089237316195423570985008687907853269984665640564039457584007913129639936) / 18446744073709551616 / 18446744073709551616 / 18446744073709551616 % 18446744073709551616, ((v1 * 10 ^ (max k1 k2 - k1) : Nat) : Int) % 18446744073709551616, ((v1 * 10 ^ (max k1 k2 - k1) : Nat) : Int) / 18446744073709551616 % 18446744073709551616, ((v1 * 10 ^ (max k1 k2 - k1) : Nat) : Int) / 18446744073709551616 / 18446744073709551616 % 18446744073709551616, ((v1 * 10 ^ (max k1 k2 - k1) : Nat) : Int) / 18446744073709551616 / 18446744073709551616 / 18446744073709551616 % 18446744073709551616, by (try dsimp only); exact timesV_at hv1 (by omega), (((v2 * 10 ^ (max k1 k2 - k2) : Nat) : Int) / 115792089237316195423570985008687907853269984665640564039457584007913129639936) % 18446744073709551616, (((v2 * 10 ^ (max k1 k2 - k2) : Nat) : Int) / 115792089237316195423570985008687907853269984665640564039457584007913129639936) / 18446744073709551616 % 18446744073709551616, (((v2 * 10 ^ (max k1 k2 - k2) : Nat) : Int) / 115792089237316195423570985008687907853269984665640564039457584007913129639936) / 18446744073709551616 / 18446744073709551616 % 18446744073709551616, (((v2 * 10 ^ (max k1 k2 - k2) : Nat) : Int) / 115792089237316195423570985008687907853269984665640564039457584007913129639936) / 18446744073709551616 / 18446744073709551616 / 18446744073709551616 % 18446744073709551616, ((v2 * 10 ^ (max k1 k2 - k2) : Nat) : Int) % 18446744073709551616, ((v2 * 10 ^ (max k1 k2 - k2) : Nat) : Int) / 18446744073709551616 % 18446744073709551616, ((v2 * 10 ^ (max k1 k2 - k2) : Nat) : Int) / 18446744073709551616 / 18446744073709551616 % 18446744073709551616, ((v2 * 10 ^ (max k1 k2 - k2) : Nat) : Int) / 18446744073709551616 / 18446744073709551616 / 18446744073709551616 % 18446744073709551616, by (try dsimp only); exact timesV_at hv2 (by omega), cmpI ((v1 * 10 ^ (max k1 k2 - k1) : Nat) : Int) ((v2 * 10 ^ (max k1 k2 - k2) : Nat) : Int), by (try dsimp only); exact cmpW_at p1.1 p1.2 p2.1 p2.2, ?_⟩
          have e : cmpD n v1 k1 m v2 k2 = sgD n (decide (v1 ≠ 0)) * cmpI ((v1 * 10 ^ (max k1 k2 - k1) : Nat) : Int) ((v2 * 10 ^ (max k1 k2 - k2) : Nat) : Int) := by
            unfold cmpD
            rw [if_neg (by rintro (h | h); exact h q; exact z' h)]
          rw [e]
          have s1 := sg_cases n (decide (v1 ≠ 0))
          have s2 : ∀ a b : Int, cmpI a b = -1 ∨ cmpI a b = 0 ∨ cmpI a b = 1 := fun a b => by
            rcases Int.lt_trichotomy a b with h | h | h
            · exact .inl (cmpI_lt h)
            · exact .inr (.inl (cmpI_eq h))
            · exact .inr (.inr (cmpI_gt h))
          have s3 := s2 ((v1 * 10 ^ (max k1 k2 - k1) : Nat) : Int) ((v2 * 10 ^ (max k1 k2 - k2) : Nat) : Int)
          generalize sgD n (decide (v1 ≠ 0)) = x at s1 ⊢
          generalize cmpI ((v1 * 10 ^ (max k1 k2 - k1) : Nat) : Int) ((v2 * 10 ^ (max k1 k2 - k2) : Nat) : Int) = y at s3 ⊢
          rcases s1 with rfl | rfl | rfl <;> rcases s3 with rfl | rfl | rfl <;> rfl)
      exact ⟨h', hsem⟩
    · cases h
  · cases h
theorem pad_of {l : List UInt8} {k : Nat} (hd : Dg l) (hl : k + 1 ≤ l.length) (h : l.getD 0 0 = 48 → l.length = k + 1) : padD (textN (valF 0 l)) k = l := by
  have hs := dw_split l
  have hvd := val_dw l
  have hdl := dw_len l
  have h48 : ∀ z r, l = List.replicate (z + 1) 48 ++ r → l.length = k + 1 := fun z r e => h (by rw [e]; rfl)
  rcases dw_head l with q | ⟨c, m, q, hc⟩
  · rw [q, valF_nil] at hvd
    rw [q, List.append_nil, List.length_nil, Nat.sub_zero] at hs
    rw [← hvd]
    have hk : l.length = k + 1 := h48 (l.length - 1) [] (by rw [List.append_nil, show l.length - 1 + 1 = l.length by omega]; exact hs)
    have : padD (textN 0) k = List.replicate l.length 48 := by
      unfold padD
      have e1 : textN 0 = [48] := rfl
      rw [e1, List.length_singleton, Nat.add_sub_cancel, hk, List.replicate_succ']
    rw [this, ← hs]
  · have hT : textN (valF 0 l) = dw l := by
      rw [← hvd, q]
      have := dw_dg hd
      rw [q] at this
      exact text_uniq this hc
    rw [hT]
    by_cases hz : (dw l).length = l.length
    · rw [hz, Nat.sub_self] at hs
      have hs' : l = dw l := hs
      rw [← hs']
      exact pad_done (by omega)
    · have hk : l.length = k + 1 := h48 (l.length - (dw l).length - 1) (dw l) (by rw [show l.length - (dw l).length - 1 + 1 = l.length - (dw l).length by omega]; exact hs)
      unfold padD
      rw [show k + 1 - (dw l).length = l.length - (dw l).length by omega]
      exact hs.symm
theorem pad_long (v k : Nat) : k + 1 ≤ (padD (textN v) k).length := by
  unfold padD
  rw [List.length_append, List.length_replicate]; omega
theorem pad_head {v k : Nat} (h : (padD (textN v) k).getD 0 0 = 48) : (padD (textN v) k).length = k + 1 := by
  by_cases hs : (textN v).length ≤ k
  · unfold padD
    rw [List.length_append, List.length_replicate]; omega
  · have hp : padD (textN v) k = textN v := pad_done (by omega)
    rw [hp] at h ⊢
    by_cases h0 : v = 0
    · subst h0
      have : (textN 0).length = 1 := rfl
      omega
    · obtain ⟨c, l, e, hc⟩ := textN_head h0
      rw [e] at h
      exact absurd h hc
theorem pad_ext (v k j : Nat) : padD (textN (v * 10 ^ j)) (k + j) = padD (textN v) k ++ List.replicate j 48 := by
  have hl := pad_long v k
  have hv : valF 0 (padD (textN v) k ++ List.replicate j 48) = v * 10 ^ j := by
    rw [val_app, val_pad, val_zeros, List.length_replicate, Nat.add_zero]
  rw [← hv]
  refine pad_of (dg_app (padD_dig v k) fun c hc => by rw [List.eq_of_mem_replicate hc]; rfl) (by rw [List.length_append, List.length_replicate]; omega) fun e => ?_
  have : (padD (textN v) k).getD 0 0 = 48 := by
    rw [← e]
    cases hc : padD (textN v) k with
    | nil => rw [hc] at hl; simp at hl
    | cons c l => rfl
  rw [List.length_append, List.length_replicate, pad_head this]; omega
theorem short_ext {n : Bool} {v k j : Nat} (hn : n = true → v ≠ 0) : shortD n (v * 10 ^ j) (k + j) = shortD n v k := by
  have hn2 : n = true → v * 10 ^ j ≠ 0 := fun h => Nat.mul_ne_zero (hn h) (Nat.ne_of_gt (Nat.pow_pos (by decide)))
  obtain ⟨W, D, e, ho, hp, hl⟩ := textD_mk (k := k) hn
  obtain ⟨W2, D2, e2, ho2, hp2, hl2⟩ := textD_mk (k := k + j) hn2
  rw [short_mk e ho.1.2 hl, short_mk e2 ho2.1.2 hl2]
  rw [pad_ext, ← hp, List.append_assoc] at hp2
  have hWW : W2 = W ∧ D2 = D ++ List.replicate j 48 := List.append_inj hp2 (by
    have := congrArg List.length hp2
    rw [List.length_append, List.length_append, List.length_append, List.length_replicate] at this
    omega)
  rw [hWW.1, hWW.2, tr_zeros]
theorem short_same {n m : Bool} {v1 k1 v2 k2 : Nat} (hn1 : n = true → v1 ≠ 0) (hn2 : m = true → v2 ≠ 0) (hv1 : v1 < 115792089237316195423570985008687907853269984665640564039457584007913129639936) (hv2 : v2 < 115792089237316195423570985008687907853269984665640564039457584007913129639936) (hk1 : k1 ≤ 18) (hk2 : k2 ≤ 18) :
    shortD n v1 k1 = shortD m v2 k2 ↔ (n = m ∧ v1 * 10 ^ (max k1 k2 - k1) = v2 * 10 ^ (max k1 k2 - k2)) := by
  constructor
  · intro h
    obtain ⟨u, j, e1, j1, q1⟩ := short_says hn1 hv1 hk1
    obtain ⟨w, i, e2, j2, q2⟩ := short_says hn2 hv2 hk2
    rw [h, e2] at e1
    simp only [Prod.mk.injEq, and_true] at e1
    obtain ⟨rfl, g1, g2⟩ := e1
    have g1 : w = u := by omega
    have g2 : i = j := by omega
    subst g1; subst g2
    refine ⟨rfl, ?_⟩
    rw [← q1, ← q2, Nat.mul_assoc, Nat.mul_assoc, ← Nat.pow_add, ← Nat.pow_add]
    congr 2
    omega
  · rintro ⟨rfl, h⟩
    rcases Nat.le_total k1 k2 with hk | hk
    · rw [Nat.max_eq_right hk, Nat.sub_self, Nat.pow_zero, Nat.mul_one] at h
      have := short_ext (n := n) (v := v1) (k := k1) (j := k2 - k1) hn1
      rw [h, show k1 + (k2 - k1) = k2 by omega] at this
      exact this.symm
    · rw [Nat.max_eq_left hk, Nat.sub_self, Nat.pow_zero, Nat.mul_one] at h
      have := short_ext (n := n) (v := v2) (k := k2) (j := k1 - k2) hn2
      rw [← h, show k2 + (k1 - k2) = k1 by omega] at this
      exact this
theorem cmpD_zero {n m : Bool} {v1 k1 v2 k2 : Nat} (hn1 : n = true → v1 ≠ 0) (hn2 : m = true → v2 ≠ 0) : cmpD n v1 k1 m v2 k2 = 0 ↔ (n = m ∧ v1 * 10 ^ (max k1 k2 - k1) = v2 * 10 ^ (max k1 k2 - k2)) := by
  have P : ∀ a : Nat, 0 < 10 ^ a := fun a => Nat.pow_pos (by decide)
  have Z : ∀ v a : Nat, v * 10 ^ a = 0 ↔ v = 0 := fun v a => by
    rw [Nat.mul_eq_zero]
    have := P a
    omega
  have key : (((v1 * 10 ^ (max k1 k2 - k1) : Nat) : Int) = ((v2 * 10 ^ (max k1 k2 - k2) : Nat) : Int)) ↔ v1 * 10 ^ (max k1 k2 - k1) = v2 * 10 ^ (max k1 k2 - k2) := by omega
  have Z1 := Z v1 (max k1 k2 - k1)
  have Z2 := Z v2 (max k1 k2 - k2)
  unfold cmpD
  generalize v1 * 10 ^ (max k1 k2 - k1) = x at key Z1 ⊢
  generalize v2 * 10 ^ (max k1 k2 - k2) = y at key Z2 ⊢
  by_cases h1 : v1 = 0
  · have hnf : n = false := by cases n with
      | false => rfl
      | true => exact absurd h1 (hn1 rfl)
    subst hnf
    have hx : x = 0 := Z1.2 h1
    by_cases h2 : v2 = 0
    · have hmf : m = false := by cases m with
        | false => rfl
        | true => exact absurd h2 (hn2 rfl)
      subst hmf
      have hy : y = 0 := Z2.2 h2
      rw [decide_eq_false (by omega), decide_eq_false (by omega), hx, hy]
      simp [sgD]
      omega
    · have hy : y ≠ 0 := fun e => h2 (Z2.1 e)
      rw [decide_eq_false (by omega), decide_eq_true (by omega), hx]
      constructor
      · intro h; cases m <;> simp [sgD] at h <;> omega
      · rintro ⟨-, h⟩; exact absurd h.symm hy
  · have hx : x ≠ 0 := fun e => h1 (Z1.1 e)
    by_cases h2 : v2 = 0
    · have hmf : m = false := by cases m with
        | false => rfl
        | true => exact absurd h2 (hn2 rfl)
      subst hmf
      have hy : y = 0 := Z2.2 h2
      rw [decide_eq_true (by omega), decide_eq_false (by omega), hy]
      constructor
      · intro h; cases n <;> simp [sgD] at h <;> omega
      · rintro ⟨-, h⟩; exact absurd h hx
    · rw [decide_eq_true (by omega), decide_eq_true (by omega)]
      cases n <;> cases m
      · simp [sgD, cmpI_zero] <;> omega
      · simp [sgD] <;> omega
      · simp [sgD] <;> omega
      · simp [sgD, cmpI_zero] <;> omega
theorem cmpD_gen {n m : Bool} {a0 a1 a2 a3 sc b0 b1 b2 b3 tc : Int} (h : (u64s a0 a1 a2 a3 = true ∧ u64s b0 b1 b2 b3 = true) ∧ badD n a0 a1 a2 a3 sc = false ∧ badD m b0 b1 b2 b3 tc = false) : sCmpD [.agg [.bool n, .int .u64 a0, .int .u64 a1, .int .u64 a2, .int .u64 a3, .int .i64 sc], .agg [.bool m, .int .u64 b0, .int .u64 b1, .int .u64 b2, .int .u64 b3, .int .i64 tc]] = some (.int .i64 (cmpD n (num4 a0 a1 a2 a3).toNat sc.toNat m (num4 b0 b1 b2 b3).toNat tc.toNat)) := if_pos h
theorem cmpD_at {n m : Bool} {v1 k1 v2 k2 : Nat} (hn1 : n = true → v1 ≠ 0) (hn2 : m = true → v2 ≠ 0) (hv1 : v1 < 115792089237316195423570985008687907853269984665640564039457584007913129639936) (hv2 : v2 < 115792089237316195423570985008687907853269984665640564039457584007913129639936) (hk1 : k1 ≤ 18) (hk2 : k2 ≤ 18) : sCmpD [.agg [.bool n, .int .u64 ((v1 : Int) % 18446744073709551616), .int .u64 ((v1 : Int) / 18446744073709551616 % 18446744073709551616), .int .u64 ((v1 : Int) / 18446744073709551616 / 18446744073709551616 % 18446744073709551616), .int .u64 ((v1 : Int) / 18446744073709551616 / 18446744073709551616 / 18446744073709551616 % 18446744073709551616), .int .i64 (k1 : Int)], .agg [.bool m, .int .u64 ((v2 : Int) % 18446744073709551616), .int .u64 ((v2 : Int) / 18446744073709551616 % 18446744073709551616), .int .u64 ((v2 : Int) / 18446744073709551616 / 18446744073709551616 % 18446744073709551616), .int .u64 ((v2 : Int) / 18446744073709551616 / 18446744073709551616 / 18446744073709551616 % 18446744073709551616), .int .i64 (k2 : Int)]] = some (.int .i64 (cmpD n v1 k1 m v2 k2)) := by
  rw [cmpD_gen ⟨⟨u64_limbs _, u64_limbs _⟩, bad_mk hv1 hk1 hn1, bad_mk hv2 hk2 hn2⟩, num_lim hv1, num_lim hv2, Int.toNat_natCast, Int.toNat_natCast]
theorem tb7s_ok : (tbS Q tb7s).OK Tryd.prog := tbS_ok quietText (by
  intro x hx
  simp only [tb7s, List.mem_cons, List.not_mem_nil, or_false] at hx
  rcases hx with rfl | rfl | rfl | rfl | rfl
  · exact refCheck_ok
  · exact textD9_ok
  · exact shortD11_ok
  · exact cmpDec_ok
  · exact live_ok)
theorem apart_run (n : Bool) (a0 a1 a2 a3 sc : Int) (u1 : u64s a0 a1 a2 a3 = true) (m : Bool) (b0 b1 b2 b3 tc : Int) (u2 : u64s b0 b1 b2 b3 = true) : ∃ h', CallSem Tryd.prog 7 [.agg [.bool n, .int .u64 a0, .int .u64 a1, .int .u64 a2, .int .u64 a3, .int .i64 sc], .agg [.bool m, .int .u64 b0, .int .u64 b1, .int .u64 b2, .int .u64 b3, .int .i64 tc]] [] (.bool true) h' := by
  obtain ⟨v1, hv1, e1, e2, e3⟩ := num_nat u1
  obtain ⟨v2, hv2, f1, f2, f3⟩ := num_nat u2
  obtain ⟨rfl, rfl, rfl, rfl⟩ := limbs_eq e3
  obtain ⟨rfl, rfl, rfl, rfl⟩ := limbs_eq f3
  clear e1 e2 e3 f1 f2 f3 u1 u2
  obtain ⟨u, h', rfl, hsem⟩ := sem_vc mixed (C := tbC Q tb7s (fun _ => false) kdU) tb7s_ok (tbS_q _ _) (tbW_ok rfl) htz7 cz7 (no_parts rfl) (v7s n _ _ _ _ sc m _ _ _ _ tc fun u _ => u = .bool true) (by
    cases h1 : badD n ((v1 : Int) % 18446744073709551616) ((v1 : Int) / 18446744073709551616 % 18446744073709551616) ((v1 : Int) / 18446744073709551616 / 18446744073709551616 % 18446744073709551616) ((v1 : Int) / 18446744073709551616 / 18446744073709551616 / 18446744073709551616 % 18446744073709551616) sc with
    | true =>
      rw [bad_yes h1]
      exact ⟨_, rfl, askT rfl ⟨true, by (try dsimp only); exact live_at _, askT rfl rfl⟩⟩
    | false =>
      rw [bad_no h1]
      obtain ⟨k1, rfl, hk1, hn1⟩ := bad_false hv1 h1
      refine ⟨_, rfl, askF rfl ?_⟩
      cases h2 : badD m ((v2 : Int) % 18446744073709551616) ((v2 : Int) / 18446744073709551616 % 18446744073709551616) ((v2 : Int) / 18446744073709551616 / 18446744073709551616 % 18446744073709551616) ((v2 : Int) / 18446744073709551616 / 18446744073709551616 / 18446744073709551616 % 18446744073709551616) tc with
      | true =>
        rw [bad_yes h2]
        exact ⟨_, rfl, askT rfl ⟨true, by (try dsimp only); exact live_at _, askT rfl rfl⟩⟩
      | false =>
        rw [bad_no h2]
        obtain ⟨k2, rfl, hk2, hn2⟩ := bad_false hv2 h2
        refine ⟨_, rfl, askF rfl ⟨true, by (try dsimp only); exact live_at _, askT rfl ?_⟩⟩
        have hC := cmpD_at hn1 hn2 hv1 hv2 hk1 hk2
        have hS := short_same hn1 hn2 hv1 hv2 hk1 hk2
        rw [← cmpD_zero hn1 hn2] at hS
        refine ⟨textD n v1 k1, by (try dsimp only); exact textV_at hv1 hk1 hn1, textD m v2 k2, by (try dsimp only); exact textV_at hv2 hk2 hn2, askI (fun g => ?_) fun g => ?_⟩
        · rw [beq_iff_eq] at g
          have t1 := text_says hn1 hv1 hk1
          rw [g, text_says hn2 hv2 hk2] at t1
          simp only [Prod.mk.injEq, and_true] at t1
          obtain ⟨rfl, g1, g2⟩ := t1
          have g1 : v2 = v1 := by omega
          have g2 : k2 = k1 := by omega
          subst g1; subst g2
          refine askT (by simp) ⟨shortD _ _ _, by (try dsimp only); exact shortV_at hv1 hk1 hn1, shortD _ _ _, by (try dsimp only); exact shortV_at hv1 hk1 hn1, askI (fun q => ?_) fun q => ?_⟩
          · exact ⟨cmpD _ _ _ _ _ _, by (try dsimp only); exact hC, askT (by rw [cmpD_self]; rfl) rfl⟩
          · rw [beq_self_eq_true] at q; cases q
        · rw [beq_eq_false_iff_ne] at g
          refine askF ?_ ⟨shortD n v1 k1, by (try dsimp only); exact shortV_at hv1 hk1 hn1, shortD m v2 k2, by (try dsimp only); exact shortV_at hv2 hk2 hn2, askI (fun q => ?_) fun q => ?_⟩
          · cases hq : (n == m && (((v1 : Int) % 18446744073709551616 == (v2 : Int) % 18446744073709551616 && ((v1 : Int) / 18446744073709551616 % 18446744073709551616 == (v2 : Int) / 18446744073709551616 % 18446744073709551616 && ((v1 : Int) / 18446744073709551616 / 18446744073709551616 % 18446744073709551616 == (v2 : Int) / 18446744073709551616 / 18446744073709551616 % 18446744073709551616 && ((v1 : Int) / 18446744073709551616 / 18446744073709551616 / 18446744073709551616 % 18446744073709551616 == (v2 : Int) / 18446744073709551616 / 18446744073709551616 / 18446744073709551616 % 18446744073709551616 && true)))) && ((k1 : Int) == (k2 : Int) && true))) with
            | false => rfl
            | true =>
              exfalso
              rw [Bool.and_eq_true, Bool.and_eq_true] at hq
              obtain ⟨g1, g2, g3⟩ := hq
              have hvv := lim_inj hv1 hv2 g2
              have hnm : n = m := by simpa using g1
              have hkk : k1 = k2 := by
                simp only [Bool.and_true, beq_iff_eq] at g3
                omega
              exact g (by rw [hvv, hnm, hkk])
          · rw [beq_iff_eq] at q
            exact ⟨cmpD n v1 k1 m v2 k2, by (try dsimp only); exact hC, askT (by rw [hS.1 q]; rfl) rfl⟩
          · rw [beq_eq_false_iff_ne] at q
            exact ⟨cmpD n v1 k1 m v2 k2, by (try dsimp only); exact hC, askF (by rw [beq_eq_false_iff_ne]; exact fun e => q (hS.2 e)) rfl⟩)
  exact ⟨h', hsem⟩
theorem cells26 : Tryd.prog.cellsOf 26 = 6 := by kernel_rfl
theorem cells24 : Tryd.prog.cellsOf 24 = 4 := by kernel_rfl
theorem cells22 : Tryd.prog.cellsOf 22 = 1 := by kernel_rfl
theorem cells4 : Tryd.prog.cellsOf 4 = 1 := by kernel_rfl
theorem cells3 : Tryd.prog.cellsOf 3 = 1 := by kernel_rfl
section
variable {H : Type} {enc : TypeId × Value → H} {w : World} {base : Nat} {spare : Nat → Bool} {held : Bool} {fuel : Nat} {cs : List Value} {x : DataW H × List MemPlace}
theorem fld {fs : Array Field} {n : Nat} {xs : List (DataW H × List MemPlace)} (hf : ∀ (i : Nat) (f : Field), fs[i]? = some f → DataW.trod enc Tryd.prog w base spare held n f.type ((cs.drop f.offset).take (Tryd.prog.cellsOf f.type)) = xs[i]?)
    (i : Nat) {t off : Nat} (h : (fs[i]?).map (fun f => (f.type, f.offset)) = some (t, off)) {k : Nat} (hc : Tryd.prog.cellsOf t = k) : DataW.trod enc Tryd.prog w base spare held n t ((cs.drop off).take k) = xs[i]? := by
  simp only [Option.map_eq_some_iff, Prod.mk.injEq] at h
  obtain ⟨f, h1, rfl, rfl⟩ := h
  rw [← hc]
  exact hf i f h1
theorem u64_wf {n : Int} (h : (Lit.int .u64 n).wf = true) : u64B n = true := by
  unfold Lit.wf at h
  simp only [Bool.and_eq_true, decide_eq_true_eq] at h
  have h1 : (0 : Int) ≤ n := h.1
  have h2 : n ≤ 18446744073709551615 := h.2
  unfold u64B
  simp only [Bool.and_eq_true, decide_eq_true_eq]; omega
theorem open_dec (h : DataW.trod enc Tryd.prog w base spare held fuel 26 cs = some x) : ∃ (neg : Bool) (a0 a1 a2 a3 sc : Int), cs = [.bool neg, .int .u64 a0, .int .u64 a1, .int .u64 a2, .int .u64 a3, .int .i64 sc] ∧ u64s a0 a1 a2 a3 = true := by
  obtain ⟨xs, n, rfl, rfl, hl, hx, hf⟩ := DataW.trod_struct Tryd.underlying26 h
  rw [cells26] at hl
  obtain ⟨v0, v1, v2, v3, v4, v5, rfl⟩ : ∃ v0 v1 v2 v3 v4 v5, cs = [v0, v1, v2, v3, v4, v5] := by
    match cs, hl with
    | [v0, v1, v2, v3, v4, v5], _ => exact ⟨_, _, _, _, _, _, rfl⟩
  obtain ⟨y0, y1, y2, rfl⟩ : ∃ y0 y1 y2, xs = [y0, y1, y2] := by
    match xs, hx with
    | [y0, y1, y2], _ => exact ⟨_, _, _, rfl⟩
  have h0 : DataW.trod enc Tryd.prog w base spare held n 4 [v0] = some y0 := fld hf 0 rfl cells4
  have h1 : DataW.trod enc Tryd.prog w base spare held n 24 [v1, v2, v3, v4] = some y1 := fld hf 1 rfl cells24
  have h2 : DataW.trod enc Tryd.prog w base spare held n 3 [v5] = some y2 := fld hf 2 rfl cells3
  obtain ⟨neg, e0, -⟩ := DataW.trod_bool Tryd.underlying4 h0
  obtain ⟨sc, e5, -, -⟩ := DataW.trod_int Tryd.underlying3 h2
  obtain ⟨ys, m, -, -, -, hy, hg⟩ := DataW.trod_array Tryd.underlying24 h1
  rw [cells22] at hg
  obtain ⟨z0, z1, z2, z3, rfl⟩ : ∃ z0 z1 z2 z3, ys = [z0, z1, z2, z3] := by
    match ys, hy with
    | [z0, z1, z2, z3], _ => exact ⟨_, _, _, _, rfl⟩
  have g0 : DataW.trod enc Tryd.prog w base spare held m 22 [v1] = some z0 := hg 0 (by omega)
  have g1 : DataW.trod enc Tryd.prog w base spare held m 22 [v2] = some z1 := hg 1 (by omega)
  have g2 : DataW.trod enc Tryd.prog w base spare held m 22 [v3] = some z2 := hg 2 (by omega)
  have g3 : DataW.trod enc Tryd.prog w base spare held m 22 [v4] = some z3 := hg 3 (by omega)
  obtain ⟨a, e1, -, w1⟩ := DataW.trod_int Tryd.underlying22 g0
  obtain ⟨b, e2, -, w2⟩ := DataW.trod_int Tryd.underlying22 g1
  obtain ⟨c, e3, -, w3⟩ := DataW.trod_int Tryd.underlying22 g2
  obtain ⟨d, e4, -, w4⟩ := DataW.trod_int Tryd.underlying22 g3
  simp only [List.cons.injEq, and_true] at e0 e1 e2 e3 e4 e5
  subst e0 e1 e2 e3 e4 e5
  refine ⟨neg, a, b, c, d, sc, rfl, ?_⟩
  unfold u64s
  rw [u64_wf w1, u64_wf w2, u64_wf w3, u64_wf w4]; rfl
theorem open_decA {v : Value} {d : DataW H} {ps : List MemPlace} (hval : Value.okWide Tryd.prog w .any base 26 v) (hd : DataW.Trod enc Tryd.prog w 0 spare held 26 v d ps) : ∃ (neg : Bool) (a0 a1 a2 a3 sc : Int), v = .agg #[.bool neg, .int .u64 a0, .int .u64 a1, .int .u64 a2, .int .u64 a3, .int .i64 sc] ∧ u64s a0 a1 a2 a3 = true := by
  obtain ⟨cs, rfl, -⟩ := okWide_struct Tryd.underlying26 hval
  obtain ⟨f0, t0⟩ := hd
  obtain ⟨l, rfl⟩ : ∃ l, cs = ⟨l⟩ := ⟨cs.toList, rfl⟩
  obtain ⟨neg, a0, a1, a2, a3, sc, e, hu⟩ := open_dec t0
  have e' : l = _ := e
  subst e'
  exact ⟨neg, a0, a1, a2, a3, sc, rfl, hu⟩
end

end Go.Proofs.YtddalcnajejibaaDoor
