/- StreamWants: the printed functions of the law, without Go and memory: whatever lists of at most twenty kinds and subjects, the law is true. -/
import Derived.Test.YtocmciilifenhaaPStreamWantsx
namespace Go.Proofs.Ytocmciilifenhaa.PureStreamWants
open Go.RowKit Go.Proofs.Ytocmciilifenhaa.PStreamWants Go.Proofs.YtocmciilifenhaaW.PrintWords Go.Proofs.YtocmciilifenhaaW.PrintLast Go.Proofs.YtocmciilifenhaaW.PrintMore
set_option linter.unusedVariables false

theorem w64 {n : Int} (h1 : -9223372036854775808 ≤ n) (h2 : n ≤ 9223372036854775807) : wrap64 n = n := by unfold wrap64; omega
theorem rd_drop (l : List Int) (i : Nat) (h : i < l.length) : l.drop i = rd l i :: l.drop (i + 1) := by
  rw [List.drop_eq_getElem_cons h]; congr 1; simp [rd, List.getD_eq_getElem?_getD, h]
theorem rdT_drop (l : List S27) (i : Nat) (h : i < l.length) : l.drop i = rd_T27 l i :: l.drop (i + 1) := by
  rw [List.drop_eq_getElem_cons h]; congr 1; simp [rd_T27, List.getD_eq_getElem?_getD, h]
theorem rdU_drop (l : List S32) (i : Nat) (h : i < l.length) : l.drop i = rd_T32 l i :: l.drop (i + 1) := by
  rw [List.drop_eq_getElem_cons h]; congr 1; simp [rd_T32, List.getD_eq_getElem?_getD, h]

theorem index_loop (l : List Int) (x : Int) (hn : l.length < 1000000) (d : Nat) : ∀ (k i : Nat), i + d = l.length → d < k →
    ∃ r, slices_Index_int_int.l0 k l x (l.length : Int) i = some r ∧ decide (r ≥ 0) = (l.drop i).any (· == x) := by
  induction d with
  | zero =>
    intro k i hd hk
    obtain ⟨k, rfl⟩ : ∃ m, k = m + 1 := ⟨k - 1, by omega⟩
    refine ⟨-1, ?_, ?_⟩
    · simp only [slices_Index_int_int.l0]; rw [if_neg (by omega)]
    · rw [List.drop_of_length_le (by omega)]; rfl
  | succ d ih =>
    intro k i hd hk
    obtain ⟨k, rfl⟩ : ∃ m, k = m + 1 := ⟨k - 1, by omega⟩
    simp only [slices_Index_int_int.l0]
    rw [if_pos (by omega), if_pos (by omega), rd_drop l i (by omega)]
    by_cases h : x = rd l i
    · refine ⟨i, ?_, ?_⟩
      · rw [if_pos (by omega), if_pos h]
      · rw [decide_eq_true (by omega), List.any_cons, h]; simp
    · obtain ⟨r, hr, he⟩ := ih k (i + 1) (by omega) (by omega)
      refine ⟨r, ?_, ?_⟩
      · rw [if_pos (by omega), if_neg h, w64 (by omega) (by omega)]; exact hr
      · rw [he, List.any_cons]
        have : (rd l i == x) = false := by simpa using fun e => h e.symm
        rw [this]; rfl
theorem contains_is (l : List Int) (x : Int) (hn : l.length < 1000000) {k : Nat} (hk : l.length < k) : slices_Contains_int_int.f k l x = some (l.any (· == x)) := by
  obtain ⟨r, hr, he⟩ := index_loop l x hn l.length k 0 (by omega) hk
  unfold slices_Contains_int_int.f slices_Index_int_int.f
  have hr' : slices_Index_int_int.l0 k l x (l.length : Int) 0 = some r := hr
  rw [hr']; simp only [Option.bind_some]; rw [he]; rfl

def sameS (a : S27) (x0 x1 x2 : ByteArray) : Bool := x0.toList == a.f0.toList && (x1.toList == a.f1.toList && x2.toList == a.f2.toList)
theorem subject_loop (l : List S27) (x0 x1 x2 : ByteArray) (hn : l.length < 1000000) (d : Nat) : ∀ (k i : Nat), i + d = l.length → d < k →
    ∃ r, subject_Subject_44.l0 k l (l.length : Int) i x0 x1 x2 = some r ∧ decide (r ≥ 0) = (l.drop i).any (sameS · x0 x1 x2) := by
  induction d with
  | zero =>
    intro k i hd hk
    obtain ⟨k, rfl⟩ : ∃ m, k = m + 1 := ⟨k - 1, by omega⟩
    refine ⟨-1, ?_, ?_⟩
    · simp only [subject_Subject_44.l0]; rw [if_neg (by omega)]
    · rw [List.drop_of_length_le (by omega)]; rfl
  | succ d ih =>
    intro k i hd hk
    obtain ⟨k, rfl⟩ : ∃ m, k = m + 1 := ⟨k - 1, by omega⟩
    simp only [subject_Subject_44.l0]
    rw [if_pos (by omega), if_pos (by omega), rdT_drop l i (by omega)]
    by_cases h : sameS (rd_T27 l i) x0 x1 x2 = true
    · refine ⟨i, ?_, ?_⟩
      · rw [if_pos (by omega)]
        exact if_pos h
      · rw [decide_eq_true (by omega), List.any_cons, h]; rfl
    · obtain ⟨r, hr, he⟩ := ih k (i + 1) (by omega) (by omega)
      refine ⟨r, ?_, ?_⟩
      · rw [if_pos (by omega), if_neg (show ¬ (x0.toList == (rd_T27 l i).f0.toList && (x1.toList == (rd_T27 l i).f1.toList && x2.toList == (rd_T27 l i).f2.toList)) = true from h), w64 (by omega) (by omega)]; exact hr
      · rw [he, List.any_cons]
        rw [show sameS (rd_T27 l i) x0 x1 x2 = false from by simpa using h]; rfl
theorem subject_is (l : List S27) (x0 x1 x2 : ByteArray) (hn : l.length < 1000000) {k : Nat} (hk : l.length < k) : subject_Subject_35.f k l x0 x1 x2 = some (l.any (sameS · x0 x1 x2)) := by
  obtain ⟨r, hr, he⟩ := subject_loop l x0 x1 x2 hn l.length k 0 (by omega) hk
  unfold subject_Subject_35.f subject_Subject_44.f
  have hr' : subject_Subject_44.l0 k l (l.length : Int) 0 x0 x1 x2 = some r := hr
  rw [hr']; simp only [Option.bind_some]; rw [he]; rfl

/-- What a stream wants. -/
def wants (status : Int) (all : Bool) (kinds : List Int) (l : List S27) (kind : Int) (x0 x1 x2 : ByteArray) : Bool :=
  status != 3 && (kinds.any (· == kind) && (all || l.any (sameS · x0 x1 x2)))
theorem wants_is (a0 : Int) (a1 a2 a3 : ByteArray) (a4 : Bool) (kinds : List Int) (status : Int) (all : Bool) (l : List S27) (kind : Int) (x0 x1 x2 : ByteArray) (h1 : kinds.length < 1000000) (h2 : l.length < 1000000) {k : Nat} (hk1 : kinds.length < k) (hk2 : l.length < k) :
    stream_Wants.f k a0 a1 a2 a3 a4 kinds status all l kind x0 x1 x2 = some (wants status all kinds l kind x0 x1 x2) := by
  unfold stream_Wants.f wants
  rw [contains_is kinds kind h1 hk1, subject_is l x0 x1 x2 h2 hk2]
  by_cases hs : status = 3
  · subst hs; simp
  · rw [if_neg hs]
    have : (status != 3) = true := by simpa using hs
    rw [this]
    cases kinds.any (· == kind) <;> cases all <;> simp

def sameU (a : S32) (x0 x1 x2 : ByteArray) : Bool := a.f0.toList == x0.toList && (a.f1.toList == x1.toList && a.f2.toList == x2.toList)
theorem refsame_is (a : S32) (x0 x1 x2 : ByteArray) : klaxonref22_same.f a.f0 a.f1 a.f2 x0 x1 x2 = some (sameU a x0 x1 x2) := by
  unfold klaxonref22_same.f sameU
  by_cases h0 : a.f0.toList = x0.toList
  · rw [if_pos h0]
    by_cases h1 : a.f1.toList = x1.toList
    · rw [if_pos h1]; simp [h0, h1]
    · rw [if_neg h1]; simp [h0, h1]
  · rw [if_neg h0]; simp [h0]
theorem rl1 (status : Int) (l : List S32) (kinds : List Int) (a0 : Int) (a1 a2 a3 : ByteArray) (a4 all : Bool) (x0 x1 x2 : ByteArray) (hn : l.length < 1000000) (f : Bool) (d : Nat) : ∀ (k i : Nat) (g : Bool), i + d = l.length → d < k →
    klaxonref22_Wants.l1 k f g i a0 a1 a2 a3 a4 kinds status all l x0 x1 x2 = some (f && ((g || (l.drop i).any (sameU · x0 x1 x2)) && status != 3)) := by
  induction d with
  | zero =>
    intro k i g hd hk
    obtain ⟨k, rfl⟩ : ∃ m, k = m + 1 := ⟨k - 1, by omega⟩
    simp only [klaxonref22_Wants.l1]; rw [if_neg (by omega), List.drop_of_length_le (by omega)]
    cases f <;> cases g <;> simp
  | succ d ih =>
    intro k i g hd hk
    obtain ⟨k, rfl⟩ : ∃ m, k = m + 1 := ⟨k - 1, by omega⟩
    simp only [klaxonref22_Wants.l1]
    have e : ((i : Int) + 1) = ((i + 1 : Nat) : Int) := by omega
    rw [if_pos (show (i : Int) < l.length by omega), rdU_drop l i (by omega), w64 (by omega) (by omega), refsame_is, List.any_cons, e]
    cases g with
    | true => rw [if_pos rfl, ih k (i + 1) true (by omega) (by omega)]; simp
    | false => rw [if_neg (by decide), if_pos (show (0 : Int) ≤ i by omega)]; simp only [Option.bind_some]; rw [ih k (i + 1) _ (by omega) (by omega)]; simp
theorem rl0 (status : Int) (l : List S32) (kinds : List Int) (a0 : Int) (a1 a2 a3 : ByteArray) (a4 all : Bool) (kind : Int) (x0 x1 x2 : ByteArray) (hn : l.length < 1000000) (hm : kinds.length < 1000000) (d : Nat) : ∀ (k i : Nat) (g : Bool), i + d = kinds.length → d + l.length + 1 < k →
    klaxonref22_Wants.l0 k kind g i a0 a1 a2 a3 a4 kinds status all l x0 x1 x2 = some ((g || (kinds.drop i).any (· == kind)) && ((all || l.any (sameU · x0 x1 x2)) && status != 3)) := by
  induction d with
  | zero =>
    intro k i g hd hk
    obtain ⟨k, rfl⟩ : ∃ m, k = m + 1 := ⟨k - 1, by omega⟩
    simp only [klaxonref22_Wants.l0]; rw [if_neg (by omega), List.drop_of_length_le (by omega)]
    have := rl1 status l kinds a0 a1 a2 a3 a4 all x0 x1 x2 hn g l.length k 0 all (by omega) (by omega)
    rw [show klaxonref22_Wants.l1 k g all 0 a0 a1 a2 a3 a4 kinds status all l x0 x1 x2 = _ from this]
    simp
  | succ d ih =>
    intro k i g hd hk
    obtain ⟨k, rfl⟩ : ∃ m, k = m + 1 := ⟨k - 1, by omega⟩
    simp only [klaxonref22_Wants.l0]
    have e : ((i : Int) + 1) = ((i + 1 : Nat) : Int) := by omega
    rw [if_pos (show (i : Int) < kinds.length by omega), rd_drop kinds i (by omega), w64 (by omega) (by omega), List.any_cons, e]
    cases g with
    | true => rw [if_pos rfl, ih k (i + 1) true (by omega) (by omega)]; simp
    | false => rw [if_neg (by decide), if_pos (show (0 : Int) ≤ i by omega), ih k (i + 1) _ (by omega) (by omega)]; simp

theorem anchor_is {k : Nat} (hk : 10 ≤ k) : klaxonlaw22_anchor.f k = some true := by
  unfold klaxonlaw22_anchor.f
  simp only [Option.bind_some]
  rw [wants_is _ _ _ _ _ _ _ _ _ _ _ _ _ (by decide) (by decide) (by simp; omega) (by simp; omega), wants_is _ _ _ _ _ _ _ _ _ _ _ _ _ (by decide) (by decide) (by simp; omega) (by simp; omega),
    wants_is _ _ _ _ _ _ _ _ _ _ _ _ _ (by decide) (by decide) (by simp; omega) (by simp; omega)]
  have e1 : ∀ x : ByteArray, wants 1 false [3, 4] [(⟨(⟨#[111, 112, 97, 113, 117, 101]⟩ : ByteArray), (⟨#[117]⟩ : ByteArray), (⟨#[]⟩ : ByteArray)⟩ : S27)] 3 (⟨#[111, 112, 97, 113, 117, 101]⟩ : ByteArray) x (⟨#[]⟩ : ByteArray) = (x.toList == (⟨#[117]⟩ : ByteArray).toList) := by
    intro x; unfold wants sameS; simp
  have e2 : wants 1 false [3, 4] [(⟨(⟨#[111, 112, 97, 113, 117, 101]⟩ : ByteArray), (⟨#[117]⟩ : ByteArray), (⟨#[]⟩ : ByteArray)⟩ : S27)] 2 (⟨#[111, 112, 97, 113, 117, 101]⟩ : ByteArray) (⟨#[117]⟩ : ByteArray) (⟨#[]⟩ : ByteArray) = false := by
    unfold wants; simp
  rw [e1, e1, e2]
  have l1 : (⟨#[117]⟩ : ByteArray).toList = [117] := by decide +kernel
  have l2 : (⟨#[118]⟩ : ByteArray).toList = [118] := by decide +kernel
  rw [l1, l2]
  simp

def turn (a : S27) : S32 := ⟨a.f0, a.f1, a.f2⟩
theorem lawloop (kind : Int) (l : List S27) (kinds : List Int) (a0 : Int) (a1 a2 a3 : ByteArray) (a4 : Bool) (status : Int) (all : Bool) (x0 x1 x2 : ByteArray) (h1 : kinds.length < 1000) (h2 : l.length < 1000) (b0 : Int) (b1 b2 b3 : ByteArray) (b4 : Bool) (d : Nat) : ∀ (k i : Nat) (out : List S32), i + d = l.length → out = (l.take i).map turn → d + 3000 < k →
    klaxonlaw22_StreamWants.l0 k kind l (l.length : Int) i a0 a1 a2 a3 a4 kinds status all l x0 x1 x2 b0 b1 b2 b3 b4 kinds status all out = some true := by
  induction d with
  | zero =>
    intro k i out hd ho hk
    obtain ⟨k, rfl⟩ : ∃ m, k = m + 1 := ⟨k - 1, by omega⟩
    simp only [klaxonlaw22_StreamWants.l0]
    rw [if_neg (by omega), wants_is _ _ _ _ _ _ _ _ _ _ _ _ _ (by omega) (by omega) (by omega) (by omega)]
    have ho' : out = l.map turn := by rw [ho, List.take_of_length_le (by omega)]
    have hl : out.length = l.length := by rw [ho']; simp
    have := rl0 status out kinds b0 b1 b2 b3 b4 all kind x0 x1 x2 (by omega) (by omega) kinds.length k 0 false (by omega) (by omega)
    unfold klaxonlaw22_whom.f
    simp only [Option.bind_some]
    unfold klaxonref22_Wants.f
    rw [show klaxonref22_Wants.l0 k kind false 0 b0 b1 b2 b3 b4 kinds status all out x0 x1 x2 = _ from this]
    simp only [Option.bind_some]
    have hs : out.any (sameU · x0 x1 x2) = l.any (sameS · x0 x1 x2) := by
      rw [ho', List.any_map]
      congr 1
      funext a
      simp only [Function.comp, sameU, sameS, turn, Bool.beq_comm]
    rw [hs]
    unfold wants
    simp only [List.drop_zero, Bool.false_or]
    cases (status != 3) <;> cases kinds.any (· == kind) <;> cases (all || l.any (sameS · x0 x1 x2)) <;> rfl
  | succ d ih =>
    intro k i out hd ho hk
    obtain ⟨k, rfl⟩ : ∃ m, k = m + 1 := ⟨k - 1, by omega⟩
    simp only [klaxonlaw22_StreamWants.l0]
    have hl : out.length = i := by rw [ho]; simp; omega
    rw [if_pos (by omega), if_pos (by omega), if_pos (by omega)]
    unfold klaxonlaw22_whom.f
    simp only [Option.bind_some]
    rw [if_pos (by omega), w64 (by omega) (by omega)]
    refine ih k (i + 1) _ (by omega) ?_ (by omega)
    rw [ho, List.take_succ_eq_append_getElem (by omega), List.map_append]
    congr 1
    have hlt : i < l.length := by omega
    have : rd_T27 l i = l[i] := by unfold rd_T27; rw [List.getD_eq_getElem?_getD, Int.toNat_natCast, List.getElem?_eq_getElem hlt]; rfl
    rw [this]; rfl

theorem law (a0 : Int) (a1 a2 a3 : ByteArray) (a4 : Bool) (kinds : List Int) (status : Int) (all : Bool) (l : List S27) (kind : Int) (x0 x1 x2 : ByteArray) : ∃ k, klaxonlaw22_StreamWants.f k a0 a1 a2 a3 a4 kinds status all l kind x0 x1 x2 = some true := by
  refine ⟨5000, ?_⟩
  unfold klaxonlaw22_StreamWants.f
  rw [anchor_is (by omega)]
  simp only [Option.bind_some, if_true]
  have ht : klaxonlaw22_StreamWants.j0 5000 kind true a0 a1 a2 a3 a4 kinds status all l x0 x1 x2 = some true := by simp only [klaxonlaw22_StreamWants.j0, if_true]
  split
  · exact ht
  · by_cases h : (l.length : Int) > 20
    · rw [decide_eq_true h]; exact ht
    · rw [decide_eq_false h]
      simp only [klaxonlaw22_StreamWants.j0, Bool.false_eq_true, if_false]
      exact lawloop kind l kinds a0 a1 a2 a3 a4 status all x0 x1 x2 (by omega) (by omega) 0 _ _ _ false l.length 4999 0 [] (by omega) rfl (by omega)
end Go.Proofs.Ytocmciilifenhaa.PureStreamWants
