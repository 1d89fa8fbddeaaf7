/- Plain facts on strings as lists of bytes: what is cut, sealed, decoded. -/
import Derived.Test.YthgjpoeneihmnaaFnE
import Derived.Lib.IndexMore
import Derived.Lib.IndexAny
import Derived.Lib.IndexLaws
import Derived.Lib.ItoaNum
import Derived.Lib.Strings
namespace Go.Proofs.Ythgjpoeneihmnaa.Ev
open Go
set_option linter.unusedVariables false
set_option linter.unusedSimpArgs false

abbrev Txt := List UInt8
def mk (l : Txt) : ByteArray := ⟨l.toArray⟩
theorem mk_list (s : ByteArray) : mk s.data.toList = s := rfl
theorem list_mk (l : Txt) : (mk l).data.toList = l := rfl
theorem mk_app (a b : Txt) : mk a ++ mk b = mk (a ++ b) := by
  apply WideShapes.bytes_inj
  show _ = a ++ b
  simp [mk]
theorem mk_ext (l : Txt) (i j : Nat) : (mk l).extract i j = mk ((l.drop i).take (j - i)) := ByteArray.extract_mk l i j
theorem mk_size (l : Txt) : (mk l).size = l.length := rfl
theorem mk_toList (l : Txt) : (mk l).toList = l := ByteArray.toList_mk l
theorem mk_eq (a b : Txt) : ((mk a).toList == (mk b).toList) = decide (a = b) := by
  rw [mk_toList, mk_toList]
  by_cases h : a = b
  · simp [h]
  · simp [h]
theorem mk_get (l : Txt) (n : Nat) : (mk l)[n]? = l[n]? := by
  have e : (mk l)[n]? = (mk l).data[n]? := by
    by_cases h : n < l.length
    · have h1 : n < (mk l).size := h
      have h2 : n < (mk l).data.size := h
      rw [getElem?_pos (mk l) n h1, getElem?_pos (mk l).data n h2]; rfl
    · have h1 : ¬ n < (mk l).size := h
      have h2 : ¬ n < (mk l).data.size := h
      rw [getElem?_neg (mk l) n h1, getElem?_neg (mk l).data n h2]
  rw [e]
  show l.toArray[n]? = _
  simp
theorem mk_inj {a b : Txt} (h : mk a = mk b) : a = b := congrArg (fun s : ByteArray => s.data.toList) h

/-! ### Parts -/

def bef (c : UInt8) : Txt → Txt
  | [] => []
  | b :: l => if b = c then [] else b :: bef c l
def aft (c : UInt8) : Txt → Txt
  | [] => []
  | b :: l => if b = c then l else aft c l

theorem mem_ne {c b : UInt8} {l : Txt} (h : ¬ b = c) : c ∈ b :: l ↔ c ∈ l := by
  constructor
  · intro e; rcases List.mem_cons.1 e with e | e
    · exact absurd e.symm h
    · exact e
  · exact List.mem_cons_of_mem _
theorem bef_aft {c : UInt8} {l : Txt} (h : c ∈ l) : l = bef c l ++ c :: aft c l := by
  induction l with
  | nil => simp at h
  | cons b l ih =>
    by_cases hb : b = c
    · subst hb; simp [bef, aft]
    · have := ih ((mem_ne hb).1 h)
      simp only [bef, aft, if_neg hb, List.cons_append, ← this]
theorem bef_no {c : UInt8} {l : Txt} (h : c ∉ l) : bef c l = l := by
  induction l with
  | nil => rfl
  | cons b l ih =>
    have hb : ¬ b = c := fun e => h (by simp [e])
    simp only [bef, if_neg hb, ih (fun e => h ((mem_ne hb).2 e))]
theorem aft_no {c : UInt8} {l : Txt} (h : c ∉ l) : aft c l = [] := by
  induction l with
  | nil => rfl
  | cons b l ih =>
    have hb : ¬ b = c := fun e => h (by simp [e])
    simp only [aft, if_neg hb, ih (fun e => h ((mem_ne hb).2 e))]
theorem not_mem_bef (c : UInt8) (l : Txt) : c ∉ bef c l := by
  induction l with
  | nil => simp [bef]
  | cons b l ih =>
    by_cases hb : b = c
    · simp [bef, hb]
    · simp only [bef, if_neg hb]
      intro e; exact ih ((mem_ne hb).1 e)
theorem bef_app {c : UInt8} {a b : Txt} (h : c ∉ a) : bef c (a ++ c :: b) = a := by
  induction a with
  | nil => simp [bef]
  | cons x a ih =>
    have hb : ¬ x = c := fun e => h (by simp [e])
    simp only [List.cons_append, bef, if_neg hb, ih (fun e => h ((mem_ne hb).2 e))]
theorem aft_app {c : UInt8} {a b : Txt} (h : c ∉ a) : aft c (a ++ c :: b) = b := by
  induction a with
  | nil => simp [aft]
  | cons x a ih =>
    have hb : ¬ x = c := fun e => h (by simp [e])
    simp only [List.cons_append, aft, if_neg hb, ih (fun e => h ((mem_ne hb).2 e))]
theorem bef_length_le (c : UInt8) (l : Txt) : (bef c l).length ≤ l.length := by
  by_cases h : c ∈ l
  · have := congrArg List.length (bef_aft h)
    simp at this; omega
  · rw [bef_no h]; exact Nat.le_refl _
theorem aft_length_le (c : UInt8) (l : Txt) : (aft c l).length ≤ l.length := by
  by_cases h : c ∈ l
  · have := congrArg List.length (bef_aft h)
    simp at this; omega
  · rw [aft_no h]; simp
theorem bef_length_lt {c : UInt8} {l : Txt} (h : c ∈ l) : (bef c l).length < l.length := by
  have := congrArg List.length (bef_aft h)
  simp at this; omega
theorem bef_len_eq {c : UInt8} {l : Txt} : ((bef c l).length = l.length) ↔ c ∉ l := by
  constructor
  · intro h hc; have := bef_length_lt hc; omega
  · intro h; rw [bef_no h]
theorem drop_bef {c : UInt8} {l : Txt} (h : c ∈ l) : l.drop ((bef c l).length + 1) = aft c l := by
  have e := bef_aft h
  have : l.drop ((bef c l).length + 1) = (bef c l ++ c :: aft c l).drop ((bef c l).length + 1) := congrArg _ e
  rw [this, List.drop_append, List.drop_of_length_le (by omega)]
  simp

theorem index_one {c : UInt8} : ∀ {l : Txt}, Lib.index l [c] = if c ∈ l then ((bef c l).length : Int) else -1 := by
  intro l
  induction l with
  | nil => simp [Lib.index]
  | cons b l ih =>
    simp only [Lib.index]
    by_cases hb : b = c
    · subst hb
      simp [bef, List.isPrefixOf]
    · have hne : (c == b) = false := by simpa using fun e : c = b => hb e.symm
      have hne' : (b != c) = true := by simpa using hb
      simp only [List.isPrefixOf, hne, Bool.false_and, Bool.false_eq_true, if_false, ih]
      have hm : c ∈ b :: l ↔ c ∈ l := by
        constructor
        · intro h; rcases List.mem_cons.1 h with e | e
          · exact absurd e.symm hb
          · exact e
        · exact List.mem_cons_of_mem _
      by_cases hc : c ∈ l
      · rw [if_pos hc, if_pos (hm.2 hc)]
        have h1 : (((bef c l).length : Int) == -1) = false := by
          rw [beq_eq_false_iff_ne]; omega
        rw [h1]
        simp [bef, hb]
      · rw [if_neg hc, if_neg (fun e => hc (hm.1 e))]
        simp

theorem cut_one (l : Txt) (c : UInt8) : Lib.cut l [c] = if c ∈ l then (bef c l, aft c l, true) else (l, [], false) := by
  unfold Lib.cut
  rw [index_one]
  by_cases hc : c ∈ l
  · simp only [if_pos hc]
    have h0 : (0 : Int) ≤ (bef c l).length := by omega
    rw [if_pos h0]
    simp only [Int.toNat_natCast, List.length_cons, List.length_nil, Nat.zero_add]
    rw [drop_bef hc]
    congr 1
    have e := bef_aft hc
    have : l.take (bef c l).length = (bef c l ++ c :: aft c l).take (bef c l).length := congrArg _ e
    rw [this]; simp
  · simp only [if_neg hc]
    rw [if_neg (by omega)]

/-- The text ahead of the first c, or all of it; what lies behind; whether there is one. -/
theorem cut_bef (l : Txt) (c : UInt8) : Lib.cut l [c] = (bef c l, aft c l, decide (c ∈ l)) := by
  rw [cut_one]
  by_cases hc : c ∈ l
  · rw [if_pos hc]; simp [hc]
  · rw [if_neg hc, bef_no hc, aft_no hc]; simp [hc]

theorem indexByte_one {c : UInt8} : ∀ {l : Txt}, Lib.indexByte l c = if c ∈ l then ((bef c l).length : Int) else -1 := by
  intro l
  induction l with
  | nil => simp [Lib.indexByte]
  | cons b l ih =>
    simp only [Lib.indexByte]
    by_cases hb : b = c
    · subst hb; simp [bef]
    · have hne : (b == c) = false := by simpa using hb
      have hne' : (b != c) = true := by simpa using hb
      simp only [hne, Bool.false_eq_true, if_false, ih]
      have hm : c ∈ b :: l ↔ c ∈ l := by
        constructor
        · intro h; rcases List.mem_cons.1 h with e | e
          · exact absurd e.symm hb
          · exact e
        · exact List.mem_cons_of_mem _
      by_cases hc : c ∈ l
      · rw [if_pos hc, if_pos (hm.2 hc)]
        have h1 : (((bef c l).length : Int) == -1) = false := by
          rw [beq_eq_false_iff_ne]; omega
        rw [h1]
        simp [bef, hb]
      · rw [if_neg hc, if_neg (fun e => hc (hm.1 e))]
        simp
theorem contains_one (l : Txt) (c : UInt8) : decide (0 ≤ Lib.indexByte l c) = decide (c ∈ l) := by
  rw [indexByte_one]
  by_cases hc : c ∈ l
  · simp [hc]
  · simp [hc]

theorem indexAny_iff (cs : Txt) : ∀ l : Txt, 0 ≤ Lib.indexAny l cs ↔ l.any (fun b => cs.contains b) = true := by
  intro l
  induction l with
  | nil => simp [Lib.indexAny]
  | cons b l ih =>
    have hge := Lib.indexAny_ge cs l
    have e : Lib.indexAny (b :: l) cs = if cs.contains b then 0 else if Lib.indexAny l cs == -1 then -1 else Lib.indexAny l cs + 1 := rfl
    rw [e, List.any_cons]
    by_cases hb : cs.contains b = true
    · rw [if_pos hb, hb]; simp
    · rw [if_neg hb]
      have hb' : cs.contains b = false := by simpa using hb
      rw [hb', Bool.false_or, ← ih]
      by_cases h : Lib.indexAny l cs = -1
      · simp [h]
      · have h1 : (Lib.indexAny l cs == -1) = false := by rw [beq_eq_false_iff_ne]; exact h
        rw [h1]
        simp only [Bool.false_eq_true, if_false]
        omega
theorem containsAny_iff (l cs : Txt) : Lib.containsAny l cs = l.any (fun b => cs.contains b) := by
  rw [Bool.eq_iff_iff, ← indexAny_iff]
  unfold Lib.containsAny
  rw [decide_eq_true_eq]

/-! ### Numbers -/

theorem dec_digit : ∀ (u : Nat), ∀ b ∈ Lib.decDigits u, 48 ≤ b.toNat ∧ b.toNat ≤ 57 := by
  intro u
  induction u using Nat.strongRecOn with
  | _ u ih =>
    intro b hb
    rw [Lib.decDigits] at hb
    split at hb
    · rename_i h
      simp only [List.mem_singleton] at hb
      subst hb
      have : (UInt8.ofNat (48 + u)).toNat = 48 + u := by simp; omega
      omega
    · rename_i h
      rcases List.mem_append.1 hb with hb | hb
      · exact ih _ (by omega) _ hb
      · simp only [List.mem_singleton] at hb
        subst hb
        have : (UInt8.ofNat (48 + u % 10)).toNat = 48 + u % 10 := by simp; omega
        omega
theorem dec_length {u k : Nat} (h : u < 10 ^ (k + 1)) : (Lib.decDigits u).length ≤ k + 1 := by
  induction k generalizing u with
  | zero => rw [Lib.decDigits, dif_pos (by simpa using h)]; simp
  | succ k ih =>
    rw [Lib.decDigits]
    split
    · simp
    · rw [List.length_append]
      have : u / 10 < 10 ^ (k + 1) := by
        rw [Nat.div_lt_iff_lt_mul (by decide)]
        rw [Nat.pow_succ] at h
        exact h
      have := ih this
      simp; omega
theorem dec_not {u : Nat} {c : UInt8} (hc : c.toNat < 48) : c ∉ Lib.decDigits u := by
  intro h
  have := dec_digit u c h
  omega
theorem dec_not' {u : Nat} {c : UInt8} (hc : 57 < c.toNat) : c ∉ Lib.decDigits u := by
  intro h
  have := dec_digit u c h
  omega
theorem dec_ne (u : Nat) : Lib.decDigits u ≠ [] := by
  rw [Lib.decDigits]
  split <;> simp

/-! ### Sums, seals -/

def csStep (h : Nat) (b : UInt8) : Nat := (41 * h + b.toNat + 1) % 999979
def csum (l : Txt) : Nat := l.foldl csStep 7
theorem csum_lt_aux : ∀ (l : Txt) (h : Nat), h < 999979 → l.foldl csStep h < 999979 := by
  intro l
  induction l with
  | nil => intro h hh; exact hh
  | cons b l ih => intro h hh; exact ih _ (Nat.mod_lt _ (by decide))
theorem csum_lt (l : Txt) : csum l < 999979 := csum_lt_aux l 7 (by decide)
def seal1 (l : Txt) : Txt := l ++ 35 :: Lib.decDigits (csum l)
theorem seal_length (l : Txt) : (seal1 l).length ≤ l.length + 7 := by
  have := dec_length (k := 5) (u := csum l) (Nat.lt_of_lt_of_le (csum_lt l) (by decide))
  unfold seal1
  simp; omega

/-! ### Records -/

abbrev Rec := Txt × Txt
def plain (l : Txt) : Bool := l.all fun b => decide (32 ≤ b.toNat) && decide (b.toNat ≤ 126)
def okCmd (l : Txt) : Bool := !(decide (l = [])) && (plain l && (decide (l.length ≤ 160) && !(l.any fun b => b == 35 || b == 64)))
def okRep (l : Txt) : Bool := plain l && (decide (l.length ≤ 250) && !(l.any fun b => b == 35))
def okRec (e : Rec) : Bool := okCmd e.1 && okRep e.2
def ahead (k : Nat) : Txt := Lib.decDigits k ++ [32]
def body (k : Nat) (e : Rec) : Txt := ahead k ++ (e.1 ++ 64 :: e.2)
def lineOf (k : Nat) (e : Rec) : Txt := seal1 (body k e) ++ [10]

structure OkRec (e : Rec) : Prop where
  l1 : e.1.length ≤ 160
  l2 : e.2.length ≤ 250
  h1 : (35 : UInt8) ∉ e.1
  h2 : (64 : UInt8) ∉ e.1
  h3 : (35 : UInt8) ∉ e.2
  n1 : (10 : UInt8) ∉ e.1
  n2 : (10 : UInt8) ∉ e.2

theorem plain_no {l : Txt} (h : plain l = true) {c : UInt8} (hc : c.toNat < 32) : c ∉ l := by
  intro hm
  have := List.all_eq_true.1 h c hm
  simp only [Bool.and_eq_true, decide_eq_true_eq] at this
  omega
theorem okRec_of {e : Rec} (h : okRec e = true) : OkRec e := by
  simp only [okRec, okCmd, okRep, Bool.and_eq_true, decide_eq_true_eq, Bool.not_eq_true', decide_eq_false_iff_not] at h
  obtain ⟨⟨h1, h2, h3, h4⟩, h5, h6, h7⟩ := h
  have a4 : ∀ b ∈ e.1, ¬ (b == 35 || b == 64) = true := by
    intro b hb hx
    have : (e.1.any fun b => b == 35 || b == 64) = true := List.any_eq_true.2 ⟨b, hb, hx⟩
    rw [h4] at this; simp at this
  have a7 : ∀ b ∈ e.2, ¬ (b == 35) = true := by
    intro b hb hx
    have : (e.2.any fun b => b == 35) = true := List.any_eq_true.2 ⟨b, hb, hx⟩
    rw [h7] at this; simp at this
  exact ⟨h3, h6, fun hm => a4 _ hm (by decide), fun hm => a4 _ hm (by decide), fun hm => a7 _ hm (by decide), plain_no h2 (by decide), plain_no h5 (by decide)⟩

theorem ahead_not {k : Nat} {c : UInt8} (hc : c.toNat < 32 ∨ (32 < c.toNat ∧ c.toNat < 48) ∨ 57 < c.toNat) : c ∉ ahead k := by
  intro h
  rcases List.mem_append.1 h with h | h
  · rcases hc with hc | ⟨_, hc⟩ | hc
    · exact dec_not (by omega) h
    · exact dec_not hc h
    · exact dec_not' hc h
  · simp only [List.mem_singleton] at h
    subst h
    rcases hc with hc | ⟨hc, _⟩ | hc <;> revert hc <;> decide

theorem body_no {k : Nat} {e : Rec} (h : OkRec e) : (35 : UInt8) ∉ body k e := by
  unfold body
  intro hm
  rcases List.mem_append.1 hm with hm | hm
  · exact ahead_not (by decide) hm
  · rcases List.mem_append.1 hm with hm | hm
    · exact h.h1 hm
    · rcases List.mem_cons.1 hm with hm | hm
      · exact absurd hm (by decide)
      · exact h.h3 hm
theorem body_nl {k : Nat} {e : Rec} (h : OkRec e) : (10 : UInt8) ∉ body k e := by
  unfold body
  intro hm
  rcases List.mem_append.1 hm with hm | hm
  · exact ahead_not (by decide) hm
  · rcases List.mem_append.1 hm with hm | hm
    · exact h.n1 hm
    · rcases List.mem_cons.1 hm with hm | hm
      · exact absurd hm (by decide)
      · exact h.n2 hm
theorem body_length {k : Nat} {e : Rec} (h : OkRec e) (hk : k < 100) : (body k e).length ≤ 420 := by
  have := dec_length (k := 1) (u := k) (by simpa using hk)
  have := h.l1; have := h.l2
  unfold body ahead
  simp; omega
theorem seal_nl {l : Txt} (h : (10 : UInt8) ∉ l) : (10 : UInt8) ∉ seal1 l := by
  unfold seal1
  intro hm
  rcases List.mem_append.1 hm with hm | hm
  · exact h hm
  · rcases List.mem_cons.1 hm with hm | hm
    · exact absurd hm (by decide)
    · exact dec_not (by decide) hm
theorem seal_bef {l : Txt} (h : (35 : UInt8) ∉ l) : bef 35 (seal1 l) = l := bef_app h

/-- What a line holds, by the way of the specification. -/
def dec (k : Nat) (s : Txt) : Option Rec :=
  if (ahead k).isPrefixOf (bef 35 s) = true then
    let rest := (bef 35 s).drop (ahead k).length
    if (64 : UInt8) ∈ rest then
      if okRec (bef 64 rest, aft 64 rest) = true ∧ lineOf k (bef 64 rest, aft 64 rest) = s ++ [10] then some (bef 64 rest, aft 64 rest) else none
    else none
  else none

theorem dec_some {k : Nat} {s : Txt} {e : Rec} (h : dec k s = some e) : okRec e = true ∧ lineOf k e = s ++ [10] := by
  unfold dec at h
  split at h
  · simp only at h
    split at h
    · split at h
      · rename_i hc
        rw [Option.some.injEq] at h
        subst h; exact hc
      · cases h
    · cases h
  · cases h
theorem line_eq {k : Nat} {s : Txt} {e : Rec} (h : lineOf k e = s ++ [10]) : s = seal1 (body k e) := by
  unfold lineOf at h
  exact (List.append_inj_left' h rfl).symm
theorem dec_of {k : Nat} {s : Txt} {e : Rec} (h : okRec e = true) (hl : lineOf k e = s ++ [10]) : dec k s = some e := by
  have O := okRec_of h
  have hs := line_eq hl
  have hb : bef 35 s = body k e := by rw [hs]; exact seal_bef (body_no O)
  unfold dec
  rw [hb]
  have hp : (ahead k).isPrefixOf (body k e) = true := by
    rw [List.isPrefixOf_iff_prefix]
    exact ⟨_, rfl⟩
  rw [if_pos hp]
  have hd : (body k e).drop (ahead k).length = e.1 ++ 64 :: e.2 := by unfold body; simp
  simp only [hd]
  rw [if_pos (by simp), bef_app O.h2, aft_app O.h2, if_pos ⟨h, hl⟩]
theorem dec_iff {k : Nat} {s : Txt} {e : Rec} : dec k s = some e ↔ okRec e = true ∧ lineOf k e = s ++ [10] := ⟨dec_some, fun h => dec_of h.1 h.2⟩

end Go.Proofs.Ythgjpoeneihmnaa.Ev
