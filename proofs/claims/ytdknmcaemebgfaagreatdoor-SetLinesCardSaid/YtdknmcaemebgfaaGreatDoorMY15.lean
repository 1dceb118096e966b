/- Claims: their value has them; its text is told, and read again. No condition of its own. -/
import Derived.Test.YtdknmcaemebgfaaGreatDoorMY14
namespace Go.Kx.Cl
open Go.Proofs Go.Kx Go.RowKit Go.Kx.Js Go.Kx.Pr Go.Kx.Rt Go.Kx.Ob Go.Kx.Wo Go.Kx.Ro Go.Kx.Jw
set_option maxRecDepth 20000
set_option linter.unusedSimpArgs false
theorem right_obj (ms : Ms) : rightJ (objJ ms) = (rightMs ms && noTwice (ms.map (·.1))) := by
 unfold objJ
 rw [rightJ]
 have h : bareJ (.mk 6 false ⟨#[]⟩ [] ms) = true := rfl
 rw [h]
 simp
theorem right_str (s : ByteArray) : rightJ (strJ s) = toldP s := by
 unfold strJ
 rw [rightJ]
 simp [bareJ, J.kind, J.yes, J.text, J.list, J.mems]
theorem right_num (n : Int) : rightJ (numJ n) = numericP (Lb.itoaB n) := by
 unfold numJ
 rw [rightJ]
 simp [bareJ, J.kind, J.yes, J.text, J.list, J.mems]
theorem itoa_nat (n : Int) (h : 0 ≤ n) : Lb.itoaB n = ⟨(Lib.decDigits n.toNat).toArray⟩ := by
 unfold Lb.itoaB Lib.itoa
 rw [if_neg (by omega)]
theorem numeric_itoa (n : Int) (h : 0 ≤ n) : numericP (Lb.itoaB n) = true := by
 rw [itoa_nat n h]
 unfold numericP
 have := number_read n.toNat [] (fun c hc => by simp at hc)
 rw [List.append_nil] at this
 simp only [List.toList_toArray, this]
 exact str_refl _
theorem int_num (n : Int) (h0 : 0 ≤ n) (h1 : n ≤ 1099511627776) : intP (numJ n) = (n, true) := by
 unfold intP
 have hk : (numJ n).kind = 3 := rfl
 have ht : (numJ n).text = Lb.itoaB n := rfl
 rw [hk, ht, if_pos ⟨rfl, numeric_itoa n h0⟩, itoa_nat n h0]
 have := Lb.atoi_dec n.toNat (by omega)
 simp only [List.toList_toArray, this]
 rw [if_neg (by omega), Int.toNat_of_nonneg h0]
theorem word_refl {m : Nat} {s : ByteArray} (h : wordP m s = true) : toldP s = true := (word_size h).2.1
theorem bool_if {b : Bool} {c : Prop} [Decidable c] (h : (if c then b else false) = true) : c ∧ b = true := by
 split at h
 ·exact ⟨by assumption, h⟩
 ·cases h
theorem sub_cases {x : Sub} (h : subRight x = true) : (∃ id, x = ⟨sOpaque, id, ⟨#[]⟩⟩ ∧ wordP 256 id = true) ∨ (∃ id, x = ⟨sEmail, id, ⟨#[]⟩⟩ ∧ wordP 256 id = true ∧ addrP id = true) ∨ (∃ id own, x = ⟨sIssSub, id, own⟩ ∧ wordP 256 id = true ∧ wordP 256 own = true) := by
 obtain ⟨f, id, own⟩ := x
 unfold subRight at h
 simp only at h
 split at h
 ·rename_i hf
  subst hf
  simp only [Bool.and_eq_true, strEq_iff] at h
  obtain ⟨h1, rfl⟩ := h
  exact .inl ⟨id, rfl, h1⟩
 split at h
 ·rename_i _ hf
  subst hf
  simp only [Bool.and_eq_true, strEq_iff] at h
  obtain ⟨h1, h2, rfl⟩ := h
  exact .inr (.inl ⟨id, rfl, h1, h2⟩)
 ·obtain ⟨hf, h2⟩ := bool_if h
  subst hf
  simp only [Bool.and_eq_true] at h2
  exact .inr (.inr ⟨id, own, rfl, h2.1, h2.2⟩)
theorem right2 {a b : ByteArray} {s t : ByteArray} (hab : a ≠ b) (ha : toldP a = true) (hb : toldP b = true) (hs : toldP s = true) (ht : toldP t = true) : rightJ (objJ [(a, strJ s), (b, strJ t)]) = true := by
 rw [right_obj]
 simp only [rightMs, right_str, ha, hb, hs, ht, Bool.and_true, Bool.true_and]
 exact noTwice_of (by simp [hab])
theorem right3 {a b c : ByteArray} {s t u : ByteArray} (hab : a ≠ b) (hac : a ≠ c) (hbc : b ≠ c) (ha : toldP a = true) (hb : toldP b = true) (hc : toldP c = true) (hs : toldP s = true) (ht : toldP t = true) (hu : toldP u = true) : rightJ (objJ [(a, strJ s), (b, strJ t), (c, strJ u)]) = true := by
 rw [right_obj]
 simp only [rightMs, right_str, ha, hb, hc, hs, ht, hu, Bool.and_true, Bool.true_and]
 exact noTwice_of (by simp [hab, hac, hbc])
theorem told_lit {s : ByteArray} (h : s.data.toList.all (fun c => decide (c.toNat < 128)) = true) : toldP s = true := (toldP_iff s).2 (Ro.Told.ascii h)
theorem sub_right {x : Sub} (h : subRight x = true) : rightJ (subJ x) = true := by
 rcases sub_cases h with ⟨id, rfl, h1⟩ | ⟨id, rfl, h1, h2⟩ | ⟨id, own, rfl, h1, h2⟩
 ·exact right2 (by decide) (told_lit (by decide)) (told_lit (by decide)) (told_lit (s := sOpaque) (by decide)) (word_refl h1)
 ·exact right2 (by decide) (told_lit (by decide)) (told_lit (by decide)) (told_lit (s := sEmail) (by decide)) (word_refl h1)
 ·exact right3 (by decide) (by decide) (by decide) (told_lit (by decide)) (told_lit (by decide)) (told_lit (by decide)) (told_lit (s := sIssSub) (by decide)) (word_refl h2) (word_refl h1)
theorem nb {n : Nat} : ¬ ((true = false) ∨ n ≠ n) := by simp
theorem sub_of {x : Sub} (h : subRight x = true) : subOf (subJ x) = (x, 0) := by
 have hr := sub_right h
 rcases sub_cases h with ⟨id, rfl, h1⟩ | ⟨id, rfl, h1, h2⟩ | ⟨id, own, rfl, h1, h2⟩
 ·have m1 : memT (subJ ⟨sOpaque, id, ⟨#[]⟩⟩) sFormat = (sOpaque, true) := rfl
  have m2 : memT (subJ ⟨sOpaque, id, ⟨#[]⟩⟩) ((namesOf sOpaque).getD 0 ⟨#[]⟩) = (id, true) := rfl
  unfold subOf
  simp only [m1, m2]
  rw [if_neg (by decide), if_neg (by decide), if_neg (by rw [hr]; exact nb), if_neg (by decide), h]
  rfl
 ·have m1 : memT (subJ ⟨sEmail, id, ⟨#[]⟩⟩) sFormat = (sEmail, true) := rfl
  have m2 : memT (subJ ⟨sEmail, id, ⟨#[]⟩⟩) ((namesOf sEmail).getD 0 ⟨#[]⟩) = (id, true) := rfl
  unfold subOf
  simp only [m1, m2]
  rw [if_neg (by decide), if_neg (by decide), if_neg (by rw [hr]; exact nb), if_neg (by decide), h]
  rfl
 ·have m1 : memT (subJ ⟨sIssSub, id, own⟩) sFormat = (sIssSub, true) := rfl
  have m2 : memT (subJ ⟨sIssSub, id, own⟩) sSub = (id, true) := rfl
  have m3 : memT (subJ ⟨sIssSub, id, own⟩) sIss = (own, true) := rfl
  unfold subOf
  simp only [m1, m2, m3]
  rw [if_neg (by decide), if_neg (by decide), if_neg (by rw [hr]; exact nb), if_pos trivial, h]
  rfl
theorem name_some {k : Int} (h : 1 ≤ k ∧ k ≤ 6) : k = 1 ∨ k = 2 ∨ k = 3 ∨ k = 4 ∨ k = 5 ∨ k = 6 := by omega
theorem kind_name {k : Int} (h : 1 ≤ k ∧ k ≤ 6) : kindN (nameK k) = k := by
 rcases name_some h with rfl | rfl | rfl | rfl | rfl | rfl <;> decide +kernel
theorem name_ascii {k : Int} (h : 1 ≤ k ∧ k ≤ 6) : (nameK k).data.toList.all (fun c => decide (c.toNat < 128)) = true ∧ (nameK k).size ≤ 80 := by
 rcases name_some h with rfl | rfl | rfl | rfl | rfl | rfl <;> decide +kernel
structure RightC (c : Clm) : Prop where
 kind : 1 ≤ c.kind ∧ c.kind ≤ 6
 iss : wordP 256 c.iss = true
 jti : wordP 256 c.jti = true
 aud : wordP 256 c.aud = true
 txn : wordP 256 c.txn = true
 iat : 0 ≤ c.iat ∧ c.iat ≤ 1099511627776
 sub : subRight c.sub = true
 reason : c.reason = ⟨#[]⟩ ∨ wordP 256 c.reason = true
theorem right_iff (c : Clm) : clRight c = true ↔ RightC c := by
 unfold clRight
 simp only [Bool.and_eq_true, decide_eq_true_eq, Bool.or_eq_true, strEq_iff]
 constructor
 ·rintro ⟨h1, h2, h3, h4, h5, h6, h7, h8, h9⟩
  exact ⟨h1, h2, h3, h4, h5, ⟨h6, h7⟩, h8, h9⟩
 ·rintro ⟨h1, h2, h3, h4, h5, ⟨h6, h7⟩, h8, h9⟩
  exact ⟨h1, h2, h3, h4, h5, h6, h7, h8, h9⟩
theorem ev_right {c : Clm} (h : RightC c) : rightJ (evJ c) = true := by
 unfold evJ
 rw [right_obj]
 simp only [rightMs, told_lit (name_ascii h.kind).1, Bool.true_and, Bool.and_true, Bool.and_eq_true]
 refine ⟨?_, noTwice_of (by simp)⟩
 rw [right_obj]
 unfold evMs
 split
 ·simp only [rightMs, Bool.true_and]; exact noTwice_of (by simp)
 ·rename_i hr
  have : wordP 256 c.reason = true := by
   rcases h.reason with e | e
   ·rw [e] at hr; exact absurd (str_refl _) hr
   ·exact e
  simp only [rightMs, right_str, told_lit (show sReason.data.toList.all (fun c => decide (c.toNat < 128)) = true by decide), word_refl this, Bool.true_and, Bool.and_true]
  exact noTwice_of (by simp)
theorem names_nodup : ([sIss, sJti, sIat, sAud, sTxn, sSubId, sEvents] : List ByteArray).Nodup := by decide
theorem cl_right {c : Clm} (h : RightC c) : rightJ (clJ c) = true := by
 unfold clJ
 rw [right_obj]
 have hn : noTwice ((clMs c).map (·.1)) = true := noTwice_of names_nodup
 rw [hn, Bool.and_true]
 have l1 : toldP sIss = true := told_lit (by decide)
 have l2 : toldP sJti = true := told_lit (by decide)
 have l3 : toldP sIat = true := told_lit (by decide)
 have l4 : toldP sAud = true := told_lit (by decide)
 have l5 : toldP sTxn = true := told_lit (by decide)
 have l6 : toldP sSubId = true := told_lit (by decide)
 have l7 : toldP sEvents = true := told_lit (by decide)
 simp only [clMs, rightMs, right_str, right_num, l1, l2, l3, l4, l5, l6, l7, word_refl h.iss, word_refl h.jti, word_refl h.aud, word_refl h.txn, numeric_itoa c.iat h.iat.1, sub_right h.sub, ev_right h, Bool.true_and, Bool.and_true]
theorem event_ev {c : Clm} (h : RightC c) : event (evJ c) = (c.kind, c.reason) := by
 have hk := kind_name h.kind
 unfold evMs at *
 have : event (evJ c) = (kindN (nameK c.kind), said (objJ (evMs c)) sReason) := rfl
 rw [this, hk]
 congr 1
 unfold evMs
 split
 ·rename_i hr
  rw [strEq_iff] at hr
  rw [hr]; rfl
 ·rfl
theorem ofC_cl {c : Clm} (h : RightC c) : ofC (clJ c) = c := by
 have e1 : said (clJ c) sIss = c.iss := rfl
 have e2 : said (clJ c) sJti = c.jti := rfl
 have e3 : said (clJ c) sAud = c.aud := rfl
 have e4 : memJ (clJ c) sIat = numJ c.iat := rfl
 have e5 : said (clJ c) sTxn = c.txn := rfl
 have e6 : memJ (clJ c) sSubId = subJ c.sub := rfl
 have e7 : memJ (clJ c) sEvents = evJ c := rfl
 unfold ofC
 rw [e1, e2, e3, e4, e5, e6, e7, int_num c.iat h.iat.1 h.iat.2, sub_of h.sub, event_ev h]
theorem of_cl {c : Clm} (h : RightC c) : ofP (clJ c) = some c := by
 unfold ofP
 rw [ofC_cl h, (right_iff c).2 h]
 unfold sameP
 rw [cl_right h]
 simp
theorem of_some {j : J} {c : Clm} (h : ofP j = some c) : RightC c ∧ sameP (clJ c) j = true := by
 unfold ofP at h
 split at h
 ·rename_i h1
  injection h with h
  subst h
  rw [Bool.and_eq_true] at h1
  exact ⟨(right_iff _).1 h1.1, h1.2⟩
 ·cases h
theorem same_wr {a b : J} (h : sameP a b = true) : rightJ a = true ∧ rightJ b = true ∧ wrJ a = wrJ b := by
 unfold sameP at h
 simp only [Bool.and_eq_true, beq_iff_eq] at h
 exact ⟨h.1.1, h.1.2, h.2⟩
def NTold (ms : Ms) : Prop := ∀ (i : Nat) (s : ByteArray) (j : J), ms[i]? = some (s, j) → Ro.Told s.data.toList ∧ Ro.Told (wrJ j)
theorem ms_told : ∀ (ms : Ms) (f : Bool), NTold ms → Ro.Told (wrMs f ms)
 | [], f, _ => by simp only [wrMs]; exact .nil
 | (s, j) :: r, f, h => by
  obtain ⟨h1, h2⟩ := h 0 s j rfl
  have h3 := ms_told r false fun i s j hi => h (i + 1) s j (by simpa using hi)
  simp only [wrMs]
  refine Ro.Told.append (Ro.Told.append (Ro.Told.append (Ro.Told.append ?_ h1.quote) (.ascii (by decide))) h2) h3
  cases f
  ·exact .ascii (by decide)
  ·exact .nil
theorem obj_told {ms : Ms} (h : NTold ms) : Ro.Told (wrJ (objJ ms)) := by
 have : wrJ (objJ ms) = [123] ++ wrMs true ms ++ [125] := by unfold objJ; simp [wrJ]
 rw [this]
 exact (Ro.Told.append (.ascii (by decide)) (ms_told ms true h)).append (.ascii (by decide))
theorem str_told {s : ByteArray} (h : toldP s = true) : Ro.Told (wrJ (strJ s)) := by rw [wr_str]; exact ((toldP_iff s).1 h).quote
theorem nt_nil : NTold [] := fun i s j h => by simp at h
theorem nt_cons {s : ByteArray} {j : J} {ms : Ms} (h1 : s.data.toList.all (fun c => decide (c.toNat < 128)) = true) (h2 : Ro.Told (wrJ j)) (h3 : NTold ms) : NTold ((s, j) :: ms) := fun i t k h => by
 cases i with
 | zero => simp at h; obtain ⟨rfl, rfl⟩ := h; exact ⟨.ascii h1, h2⟩
 | succ i => exact h3 i t k (by simpa using h)
theorem dig_ascii : ∀ l : List UInt8, l.all isDig = true → l.all (fun c => decide (c.toNat < 128)) = true
 | [], _ => rfl
 | c :: t, h => by
  simp only [List.all_cons, Bool.and_eq_true, isDig, decide_eq_true_eq] at h
  simp only [List.all_cons, Bool.and_eq_true, decide_eq_true_eq]
  exact ⟨by omega, dig_ascii t h.2⟩
theorem num_wr (n : Int) (h : 0 ≤ n) : wrJ (numJ n) = Lib.decDigits n.toNat := by
 unfold numJ
 rw [itoa_nat n h]
 simp [wrJ]
theorem num_told (n : Int) (h : 0 ≤ n) : Ro.Told (wrJ (numJ n)) := by rw [num_wr n h]; exact .ascii (dig_ascii _ (dec_dig _))
theorem sub_told {x : Sub} (h : subRight x = true) : Ro.Told (wrJ (subJ x)) := by
 rcases sub_cases h with ⟨id, rfl, h1⟩ | ⟨id, rfl, h1, h2⟩ | ⟨id, own, rfl, h1, h2⟩
 ·exact obj_told (nt_cons (by decide) (str_told (told_lit (s := sOpaque) (by decide))) (nt_cons (by decide) (str_told (word_refl h1)) nt_nil))
 ·exact obj_told (nt_cons (by decide) (str_told (told_lit (s := sEmail) (by decide))) (nt_cons (by decide) (str_told (word_refl h1)) nt_nil))
 ·exact obj_told (nt_cons (by decide) (str_told (told_lit (s := sIssSub) (by decide))) (nt_cons (by decide) (str_told (word_refl h2)) (nt_cons (by decide) (str_told (word_refl h1)) nt_nil)))
theorem reason_word {c : Clm} (h : RightC c) (hr : ¬ strEq c.reason ⟨#[]⟩ = true) : wordP 256 c.reason = true := by
 rcases h.reason with e | e
 ·rw [e] at hr; exact absurd (str_refl _) hr
 ·exact e
theorem ev_told {c : Clm} (h : RightC c) : Ro.Told (wrJ (evJ c)) := by
 refine obj_told (nt_cons (name_ascii h.kind).1 (obj_told ?_) nt_nil)
 unfold evMs
 split
 ·exact nt_nil
 ·rename_i hr
  exact nt_cons (by decide) (str_told (word_refl (reason_word h hr))) nt_nil
theorem cl_told {c : Clm} (h : RightC c) : Ro.Told (wrJ (clJ c)) :=
 obj_told (nt_cons (by decide) (str_told (word_refl h.iss)) (nt_cons (by decide) (str_told (word_refl h.jti)) (nt_cons (by decide) (num_told _ h.iat.1) (nt_cons (by decide) (str_told (word_refl h.aud)) (nt_cons (by decide) (str_told (word_refl h.txn)) (nt_cons (by decide) (sub_told h.sub) (nt_cons (by decide) (ev_told h) nt_nil)))))))
theorem str_sz (s : ByteArray) : szJ (strJ s) = s.size := by unfold strJ; simp [szJ, szJs, szMs]
theorem obj_sz (ms : Ms) : szJ (objJ ms) = szMs ms := by unfold objJ; simp only [szJ, szJs]; show 0 + 0 + _ = _; omega
theorem dec_len : ∀ (k u : Nat), u < 10 ^ k → 0 < k → (Lib.decDigits u).length ≤ k
 | 0, u, h, h0 => by omega
 | k + 1, u, h, _ => by
  by_cases hu : u < 10
  ·rw [Lib.decDigits_one hu]; simp
  ·rw [Lb.decDigits_big hu]
   have hk : 0 < k := by
    rcases Nat.eq_zero_or_pos k with rfl | h0
    ·simp at h; omega
    ·exact h0
   have := dec_len k (u / 10) (by rw [Nat.pow_succ] at h; omega) hk
   simp only [List.length_append, List.length_cons, List.length_nil]
   omega
theorem num_sz (n : Int) (h0 : 0 ≤ n) (h1 : n ≤ 1099511627776) : szJ (numJ n) ≤ 13 := by
 unfold numJ
 rw [itoa_nat n h0]
 simp only [szJ, szJs, szMs]
 have := dec_len 13 n.toNat (by omega) (by decide)
 show (Lib.decDigits n.toNat).toArray.size + 0 + 0 ≤ 13
 rw [List.size_toArray]; omega
theorem sub_sz {x : Sub} (h : subRight x = true) : szJ (subJ x) ≤ 540 := by
 have e1 : sFormat.size = 6 := rfl
 have e2 : sOpaque.size = 6 := rfl
 have e3 : sId.size = 2 := rfl
 have e4 : sEmail.size = 5 := rfl
 have e5 : sIssSub.size = 7 := rfl
 have e6 : sIss.size = 3 := rfl
 have e7 : sSub.size = 3 := rfl
 rcases sub_cases h with ⟨id, rfl, h1⟩ | ⟨id, rfl, h1, h2⟩ | ⟨id, own, rfl, h1, h2⟩
 ·have := (word_size h1).1
  have : szJ (subJ ⟨sOpaque, id, ⟨#[]⟩⟩) = szMs [(sFormat, strJ sOpaque), (sId, strJ id)] := obj_sz _
  rw [this]
  simp only [szMs, str_sz, e1, e2, e3]
  omega
 ·have := (word_size h1).1
  have : szJ (subJ ⟨sEmail, id, ⟨#[]⟩⟩) = szMs [(sFormat, strJ sEmail), (sEmail, strJ id)] := obj_sz _
  rw [this]
  simp only [szMs, str_sz, e1, e4]
  omega
 ·have := (word_size h1).1
  have := (word_size h2).1
  have : szJ (subJ ⟨sIssSub, id, own⟩) = szMs [(sFormat, strJ sIssSub), (sIss, strJ own), (sSub, strJ id)] := obj_sz _
  rw [this]
  simp only [szMs, str_sz, e1, e5, e6, e7]
  omega
theorem reason_size {c : Clm} (h : RightC c) : c.reason.size ≤ 256 := by
 rcases h.reason with e | e
 ·rw [e]; decide
 ·exact (word_size e).1
theorem evr_sz {c : Clm} (h : RightC c) : szJ (objJ (evMs c)) ≤ 263 := by
 have := reason_size h
 rw [obj_sz]
 unfold evMs
 split
 ·simp [szMs]
 ·have e : sReason.size = 6 := rfl
  simp only [szMs, str_sz, e]
  omega
theorem cl_sz {c : Clm} (h : RightC c) : szJ (clJ c) ≤ 2000 := by
 have e1 : sIss.size = 3 := rfl
 have e2 : sJti.size = 3 := rfl
 have e3 : sIat.size = 3 := rfl
 have e4 : sAud.size = 3 := rfl
 have e5 : sTxn.size = 3 := rfl
 have e6 : sSubId.size = 6 := rfl
 have e7 : sEvents.size = 6 := rfl
 have a1 := (word_size h.iss).1
 have a2 := (word_size h.jti).1
 have a3 := (word_size h.aud).1
 have a4 := (word_size h.txn).1
 have a5 := num_sz c.iat h.iat.1 h.iat.2
 have a6 := sub_sz h.sub
 have a7 := evr_sz h
 have a8 := (name_ascii h.kind).2
 unfold clJ
 rw [obj_sz]
 simp only [clMs, evJ, szMs, str_sz, obj_sz, e1, e2, e3, e4, e5, e6, e7] at *
 omega
theorem cl_sm {c : Clm} (h : RightC c) : smJ (clJ c) := sm_of _ (by have := cl_sz h; omega)
theorem cl_wr6 {c : Clm} (h : RightC c) : 6 * (wrJ (clJ c)).length ≤ 8000000 := by
 have := wr_of (clJ c)
 have := cl_sz h
 omega
theorem str_wrl (s : ByteArray) : (wrJ (strJ s)).length ≤ 6 * s.size + 2 := by rw [wr_str]; exact quote6 s
theorem ms_wrl : ∀ (ms : Ms) (f : Bool), (wrMs f ms).length ≤ (ms.map fun m => 6 * m.1.size + 4 + (wrJ m.2).length).sum
 | [], f => by simp [wrMs]
 | (s, j) :: r, f => by
  have h2 := ms_wrl r false
  have h4 := quote6 s
  have h3 : (if f then ([] : List UInt8) else [44]).length ≤ 1 := by cases f <;> simp
  simp only [wrMs, List.length_append, List.length_cons, List.length_nil, List.map_cons, List.sum_cons]
  omega
theorem obj_wrl (ms : Ms) : (wrJ (objJ ms)).length ≤ (ms.map fun m => 6 * m.1.size + 4 + (wrJ m.2).length).sum + 2 := by
 have : wrJ (objJ ms) = [123] ++ wrMs true ms ++ [125] := by unfold objJ; simp [wrJ]
 rw [this]
 have := ms_wrl ms true
 simp only [List.length_append, List.length_cons, List.length_nil]
 omega
theorem sub_wrl {x : Sub} (h : subRight x = true) : (wrJ (subJ x)).length ≤ 3300 := by
 have e1 : sFormat.size = 6 := rfl
 have e2 : sOpaque.size = 6 := rfl
 have e3 : sId.size = 2 := rfl
 have e4 : sEmail.size = 5 := rfl
 have e5 : sIssSub.size = 7 := rfl
 have e6 : sIss.size = 3 := rfl
 have e7 : sSub.size = 3 := rfl
 rcases sub_cases h with ⟨id, rfl, h1⟩ | ⟨id, rfl, h1, h2⟩ | ⟨id, own, rfl, h1, h2⟩
 ·have := (word_size h1).1
  have g := obj_wrl [(sFormat, strJ sOpaque), (sId, strJ id)]
  have g1 := str_wrl sOpaque
  have g2 := str_wrl id
  simp only [List.map_cons, List.map_nil, List.sum_cons, List.sum_nil, e1, e2, e3] at g g1
  show (wrJ (objJ [(sFormat, strJ sOpaque), (sId, strJ id)])).length ≤ _
  omega
 ·have := (word_size h1).1
  have g := obj_wrl [(sFormat, strJ sEmail), (sEmail, strJ id)]
  have g1 := str_wrl sEmail
  have g2 := str_wrl id
  simp only [List.map_cons, List.map_nil, List.sum_cons, List.sum_nil, e1, e4] at g g1
  show (wrJ (objJ [(sFormat, strJ sEmail), (sEmail, strJ id)])).length ≤ _
  omega
 ·have := (word_size h1).1
  have := (word_size h2).1
  have g := obj_wrl [(sFormat, strJ sIssSub), (sIss, strJ own), (sSub, strJ id)]
  have g1 := str_wrl sIssSub
  have g2 := str_wrl id
  have g3 := str_wrl own
  simp only [List.map_cons, List.map_nil, List.sum_cons, List.sum_nil, e1, e5, e6, e7] at g g1
  show (wrJ (objJ [(sFormat, strJ sIssSub), (sIss, strJ own), (sSub, strJ id)])).length ≤ _
  omega
theorem cl_wrl {c : Clm} (h : RightC c) : (wrJ (clJ c)).length ≤ 16384 := by
 have e1 : sIss.size = 3 := rfl
 have e2 : sJti.size = 3 := rfl
 have e3 : sIat.size = 3 := rfl
 have e4 : sAud.size = 3 := rfl
 have e5 : sTxn.size = 3 := rfl
 have e6 : sSubId.size = 6 := rfl
 have e7 : sEvents.size = 6 := rfl
 have e8 : sReason.size = 6 := rfl
 have a1 := (word_size h.iss).1
 have a2 := (word_size h.jti).1
 have a3 := (word_size h.aud).1
 have a4 := (word_size h.txn).1
 have a5 : (wrJ (numJ c.iat)).length ≤ 13 := by rw [num_wr _ h.iat.1]; exact dec_len 13 _ (by have := h.iat.2; omega) (by decide)
 have a6 := sub_wrl h.sub
 have a8 := (name_ascii h.kind).2
 have a9 := reason_size h
 have b1 := str_wrl c.iss
 have b2 := str_wrl c.jti
 have b3 := str_wrl c.aud
 have b4 := str_wrl c.txn
 have b5 : (wrJ (objJ (evMs c))).length ≤ 1600 := by
  have g := obj_wrl (evMs c)
  have g1 := str_wrl c.reason
  unfold evMs at g ⊢
  split at g
  ·rename_i hh; rw [if_pos hh]; simp at g; omega
  ·rename_i hh; rw [if_neg hh]; simp only [List.map_cons, List.map_nil, List.sum_cons, List.sum_nil, e8] at g; omega
 have b6 := obj_wrl [(nameK c.kind, objJ (evMs c))]
 have b7 := obj_wrl (clMs c)
 simp only [clMs, evJ, List.map_cons, List.map_nil, List.sum_cons, List.sum_nil, e1, e2, e3, e4, e5, e6, e7] at b6 b7
 unfold clJ clMs evJ
 omega
theorem pl_nil {d : Nat} (i : Nat) (s : ByteArray) (j : J) (h : ([] : Ms)[i]? = some (s, j)) : Pl d j := by simp at h
theorem pl_cons {d : Nat} {s0 : ByteArray} {j0 : J} {ms : Ms} (h1 : Pl d j0) (h2 : ∀ (i : Nat) (s : ByteArray) (j : J), ms[i]? = some (s, j) → Pl d j) (i : Nat) (s : ByteArray) (j : J) (h : ((s0, j0) :: ms)[i]? = some (s, j)) : Pl d j := by
 cases i with
 | zero => simp at h; obtain ⟨rfl, rfl⟩ := h; exact h1
 | succ i => exact h2 i s j (by simpa using h)
theorem num_pl {d : Nat} (n : Int) (h0 : 0 ≤ n) (h1 : n ≤ 1099511627776) : Pl d (numJ n) := by
 unfold numJ
 rw [itoa_nat n h0]
 exact .num _ (by omega)
theorem sub_pl {d : Nat} {x : Sub} (h : subRight x = true) : Pl (d + 1) (subJ x) := by
 rcases sub_cases h with ⟨id, rfl, h1⟩ | ⟨id, rfl, h1, h2⟩ | ⟨id, own, rfl, h1, h2⟩
 ·exact .obj _ (pl_cons (.str _) (pl_cons (.str _) pl_nil)) (show ([sFormat, sId] : List ByteArray).Nodup by decide)
 ·exact .obj _ (pl_cons (.str _) (pl_cons (.str _) pl_nil)) (show ([sFormat, sEmail] : List ByteArray).Nodup by decide)
 ·exact .obj _ (pl_cons (.str _) (pl_cons (.str _) (pl_cons (.str _) pl_nil))) (show ([sFormat, sIss, sSub] : List ByteArray).Nodup by decide)
theorem ev_pl {d : Nat} (c : Clm) : Pl (d + 2) (evJ c) := by
 refine .obj _ (pl_cons (.obj _ ?_ ?_) pl_nil) (by simp)
 ·unfold evMs
  split
  ·exact pl_nil
  ·exact pl_cons (.str _) pl_nil
 ·unfold evMs
  split <;> simp
theorem cl_pl {c : Clm} (h : RightC c) : Pl 4 (clJ c) :=
 .obj _ (pl_cons (.str _) (pl_cons (.str _) (pl_cons (num_pl _ h.iat.1 h.iat.2) (pl_cons (.str _) (pl_cons (.str _) (pl_cons (sub_pl h.sub) (pl_cons (ev_pl c) pl_nil))))))) names_nodup
theorem cl_parse {c : Clm} (h : RightC c) : parseP (wrJ (clJ c)) 4 = (clJ c, 0, 0) := parse_read (cl_pl h) (by decide) (by decide) (cl_wrl h) (cl_told h)
abbrev sType := (⟨#[115, 101, 99, 101, 118, 101, 110, 116, 43, 106, 119, 116]⟩ : ByteArray)
def csignP (c : Clm) (kid : ByteArray) (key : List UInt8) : ByteArray × Int := if clRight c = false then (⟨#[]⟩, 10) else signP kid sType (wrJ (clJ c)) key
def readP (s : ByteArray) (key : List UInt8) : Except Int Clm :=
 match verifyP s key with
 | .error e => .error e
 | .ok t => if t.typ ≠ sType then .error 42 else
  if (parseP t.payload 4).2.1 ≠ 0 then .error 10 else
  if (printP (parseP t.payload 4).1).1 ≠ ⟨t.payload.toArray⟩ then .error 10 else
  match ofP (parseP t.payload 4).1 with
  | none => .error 10
  | some c => .ok c
theorem sign_read {c : Clm} {kid : ByteArray} {key : List UInt8} {s : ByteArray} (h : csignP c kid key = (s, 0)) : readP s key = .ok c := by
 unfold csignP at h
 split at h
 ·cases h
 rename_i hr
 simp only [Bool.not_eq_false] at hr
 have hc := (right_iff c).1 hr
 have hv := sign_verify h
 unfold readP
 rw [hv]
 simp only []
 rw [cl_parse hc, if_neg (by simp), if_neg (by simp)]
 have hp : printP (clJ c) = (⟨(wrJ (clJ c)).toArray⟩, 0) := by unfold printP; rw [if_pos (cl_right hc)]
 rw [hp, if_neg (by simp), of_cl hc]
end Go.Kx.Cl
namespace Go.Kx.Su
open Go.Proofs Go.Kx Go.RowKit Go.Kx.Js Go.Kx.Pr Go.Kx.Rt Go.Kx.Ob Go.Kx.Wo Go.Kx.Cl Go.Kx.Pa
set_option maxRecDepth 20000
set_option linter.unusedSimpArgs false
def T : Tab := [(23, { k := TK.st [(0, 9, 1), (1, 9, 1), (2, 9, 1)], agg := true, size := 3, bytes := 48, zero := [Z.s, Z.s, Z.s] }), (9, { k := TK.string, agg := false, size := 1, bytes := 16, zero := [Z.s] }), (52, { k := TK.st [(0, 9, 1), (1, 34, 5)], agg := true, size := 6, bytes := 96, zero := [Z.s, Z.i IntKind.i64, Z.b, Z.s, Z.sl, Z.sl] }), (34, { k := TK.st [(0, 3, 1), (1, 4, 1), (2, 9, 1), (3, 31, 1), (4, 32, 1)], agg := true, size := 5, bytes := 80, zero := [Z.i IntKind.i64, Z.b, Z.s, Z.sl, Z.sl] }), (4, { k := TK.bool, agg := false, size := 1, bytes := 1, zero := [Z.b] }), (35, { k := TK.int IntKind.i64, agg := false, size := 1, bytes := 8, zero := [Z.i IntKind.i64] }), (32, { k := TK.slice 52, agg := false, size := 1, bytes := 24, zero := [Z.sl] }), (62, { k := TK.slice 9, agg := false, size := 1, bytes := 24, zero := [Z.sl] }), (3, { k := TK.int IntKind.i64, agg := false, size := 1, bytes := 8, zero := [Z.i IntKind.i64] }), (5, { k := TK.int IntKind.u8, agg := false, size := 1, bytes := 1, zero := [Z.i IntKind.u8] }), (31, { k := TK.slice 34, agg := false, size := 1, bytes := 24, zero := [Z.sl] })]
set_option maxRecDepth 100000 in
theorem tab : TabOk Tryz.prog T := tabOk_mk (ts := [23, 9, 52, 34, 4, 35, 32, 62, 3, 5, 31]) (by kernel_rfl)
theorem mixed : Tryz.prog.follows .mixedOrders = true := by kernel_rfl
def agS (x : Sub) : SV := .si (.ag [.val (.string x.fmt), .val (.string x.id), .val (.string x.own)])
theorem count_ (s : ByteArray) (c : UInt8) (H : Hp) : CallO Tryz.prog 101 [pv (.string s), pv (.string ⟨#[c]⟩)] H [] fun e H' G' => e = .ret (pv (.int .i64 ((s.data.toList.count c : Nat) : Int))) ∧ H' = H ∧ G' = [] := by
 refine (CallO.of_calls (args := [.string s, .string ⟨#[c]⟩]) (R := fun v => v = .int .i64 ((s.data.toList.count c : Nat) : Int)) fun w _ _ => ?_).mono ?_
 ·refine (Any.strings_Count_one Tryz.laysCount s c w).mono fun e w' ⟨he, hw⟩ => ⟨_, he, ?_, ?_⟩
  ·rfl
  ·subst hw; exact grown_refl _
 ·rintro e H' G' hle ⟨v, rfl, rfl, rfl, rfl⟩
  exact ⟨rfl, rfl, rfl⟩
theorem address_ (s : ByteArray) (hs : s.size ≤ 1000000) (H : Hp) : CallO Tryz.prog 64 [pv (.string s)] H [] fun e H' G' => e = .ret (pv (.bool (addrP s))) ∧ H' = H ∧ G' = [] := by
 unfold addrP
 refine CallO.of_body tab Tryz.func64 rfl (nt := Tryz.f64.ntmps) rfl (by kernel_rfl) ?_
 (conv => whnf)
 refine ⟨⟨_, Tryz.func100, rfl, by kernel_rfl⟩, CallS.use (indexByte s 64 H []) [] rfl rfl trivial ?_⟩
 rintro e H1 G' hle ⟨rfl, rfl, rfl⟩
 generalize ixB s.data.toList 64 = i
 (conv => whnf)
 refine br.of (fun h1 => ?_) (fun h1 => ?_) <;> (conv => whnf)
 ·have h1' := of_decide_eq_true h1
  rw [decide_eq_true (show 0 < i by omega), Bool.true_and]
  rw [wrap64 (x := (s.size : Int) - 1) (by omega) (by omega)]
  refine br.of (fun h2 => ?_) (fun h2 => ?_) <;> (conv => whnf)
  ·have h2' := of_decide_eq_true h2
   rw [decide_eq_true (show i < (s.size : Int) - 1 by omega), Bool.true_and]
   refine ⟨⟨_, Tryz.func101, rfl, by kernel_rfl⟩, CallS.use (count_ s 64 H1) [] rfl rfl trivial ?_⟩
   rintro e H2 G' hle ⟨rfl, rfl, rfl⟩
   (conv => whnf)
   refine ⟨congrArg (fun b => SE.ret (pv (.bool b))) ?_, rfl, rfl⟩
   rw [Bool.eq_iff_iff, beq_iff_eq, beq_iff_eq]
   omega
  ·have h2' := of_decide_eq_false h2
   rw [decide_eq_false (show ¬ i < (s.size : Int) - 1 by omega), Bool.false_and]
   exact ⟨rfl, rfl, rfl⟩
 ·have h1' := of_decide_eq_false h1
  rw [decide_eq_false (show ¬ 0 < i by omega), Bool.false_and]
  exact ⟨rfl, rfl, rfl⟩
theorem right0 (f id own : ByteArray) (H : Hp) : CallO Tryz.prog 34 [.si (.ag [.val (.string f), .val (.string id), .val (.string own)])] H [] fun e _ G' => e = .ret (pv (.bool (subRight ⟨f, id, own⟩))) ∧ G' = [] := by
 unfold subRight
 dsimp only
 refine CallO.of_body tab Tryz.func34 rfl (nt := Tryz.f34.ntmps) rfl (by kernel_rfl) ?_
 (conv => whnf)
 refine br.of (fun h1 => ?_) (fun h1 => ?_) <;> (conv => whnf)
 ·rw [if_pos ((strEq_iff ..).1 h1)]
  refine ⟨⟨_, Tryz.func63, rfl, by kernel_rfl⟩, CallS.use (subWord id H) [] rfl rfl trivial ?_⟩
  rintro e H1 G' hle ⟨rfl, rfl⟩
  generalize hb : Wo.wordP 256 id = b
  cases b
  all_goals
   (conv => whnf)
   exact ⟨rfl, rfl⟩
 rw [if_neg (fun h => by rw [h, str_refl] at h1; cases h1)]
 refine br.of (fun h2 => ?_) (fun h2 => ?_) <;> (conv => whnf)
 ·rw [if_pos ((strEq_iff ..).1 h2)]
  refine ⟨⟨_, Tryz.func63, rfl, by kernel_rfl⟩, CallS.use (subWord id H) [] rfl rfl trivial ?_⟩
  rintro e H1 G' hle ⟨rfl, rfl⟩
  cases hb : Wo.wordP 256 id
  all_goals (conv => whnf)
  ·exact ⟨rfl, rfl⟩
  refine ⟨⟨_, Tryz.func64, rfl, by kernel_rfl⟩, CallS.use (address_ id (by have := (Jw.word_size hb).1; omega) H1) [] rfl rfl trivial ?_⟩
  rintro e H2 G' hle ⟨rfl, rfl, rfl⟩
  generalize addrP id = c
  cases c
  all_goals
   (conv => whnf)
   exact ⟨rfl, rfl⟩
 rw [if_neg (fun h => by rw [h, str_refl] at h2; cases h2)]
 refine br.of (fun h3 => ?_) (fun h3 => ?_) <;> (conv => whnf)
 ·rw [if_pos ((strEq_iff ..).1 h3)]
  refine ⟨⟨_, Tryz.func63, rfl, by kernel_rfl⟩, CallS.use (subWord id H) [] rfl rfl trivial ?_⟩
  rintro e H1 G' hle ⟨rfl, rfl⟩
  generalize hb : Wo.wordP 256 id = b
  cases b
  all_goals (conv => whnf)
  ·exact ⟨rfl, rfl⟩
  refine ⟨⟨_, Tryz.func63, rfl, by kernel_rfl⟩, CallS.use (subWord own H1) [] rfl rfl trivial ?_⟩
  rintro e H2 G' hle ⟨rfl, rfl⟩
  (conv => whnf)
  exact ⟨rfl, rfl⟩
 rw [if_neg (fun h => by rw [h, str_refl] at h3; cases h3)]
 exact ⟨rfl, rfl⟩
theorem right_ (x : Sub) (H : Hp) : CallO Tryz.prog 34 [agS x] H [] fun e _ G' => e = .ret (pv (.bool (subRight x))) ∧ G' = [] := right0 x.fmt x.id x.own H
def bL (l : List ByteArray) : List (List UInt8) := l.map fun s => s.data.toList
theorem names_ (f : ByteArray) (H : Hp) : CallO Tryz.prog 61 [pv (.string f)] H [] fun e H' G' => RetV (bL (namesOf f)) e H' ∧ G' = [] := by
 unfold namesOf
 refine CallO.of_body tab Tryz.func61 rfl (nt := Tryz.f61.ntmps) rfl (by kernel_rfl) ?_
 (conv => whnf)
 refine br.of (fun h1 => ?_) (fun h1 => ?_) <;> (conv => whnf)
 ·rw [if_pos ((strEq_iff ..).1 h1)]
  refine ⟨by decide, .inl ?_⟩
  intro g H2 hle hrd
  (conv => whnf)
  exact ⟨⟨_, _, _, rfl, rfl, fun e => (nomatch e), fun a e => by injection e with e; subst e; exact hrd⟩, rfl⟩
 rw [if_neg (fun h => by rw [h, str_refl] at h1; cases h1)]
 refine br.of (fun h2 => ?_) (fun h2 => ?_) <;> (conv => whnf)
 ·rw [if_pos ((strEq_iff ..).1 h2)]
  refine ⟨by decide, .inl ?_⟩
  intro g H2 hle hrd
  (conv => whnf)
  exact ⟨⟨_, _, _, rfl, rfl, fun e => (nomatch e), fun a e => by injection e with e; subst e; exact hrd⟩, rfl⟩
 rw [if_neg (fun h => by rw [h, str_refl] at h2; cases h2)]
 refine br.of (fun h3 => ?_) (fun h3 => ?_) <;> (conv => whnf)
 ·rw [if_pos ((strEq_iff ..).1 h3)]
  refine ⟨by decide, .inl ?_⟩
  intro g H2 hle hrd
  (conv => whnf)
  exact ⟨⟨_, _, _, rfl, rfl, fun e => (nomatch e), fun a e => by injection e with e; subst e; exact hrd⟩, rfl⟩
 rw [if_neg (fun h => by rw [h, str_refl] at h3; cases h3)]
 exact ⟨⟨_, _, _, rfl, rfl, fun _ => rfl, fun a e => (nomatch e)⟩, rfl⟩
theorem texts0 (f id own : ByteArray) (H : Hp) : CallO Tryz.prog 60 [.si (.ag [.val (.string f), .val (.string id), .val (.string own)])] H [] fun e H' G' => RetV (bL (textsOf ⟨f, id, own⟩)) e H' ∧ G' = [] := by
 unfold textsOf
 dsimp only
 refine CallO.of_body tab Tryz.func60 rfl (nt := Tryz.f60.ntmps) rfl (by kernel_rfl) ?_
 (conv => whnf)
 refine br.of (fun h1 => ?_) (fun h1 => ?_) <;> (conv => whnf)
 ·rw [if_pos ((strEq_iff ..).1 h1)]
  refine ⟨by decide, .inl ?_⟩
  intro g H2 hle hrd
  (conv => whnf)
  exact ⟨⟨_, _, _, rfl, rfl, fun e => (nomatch e), fun a e => by injection e with e; subst e; exact hrd⟩, rfl⟩
 rw [if_neg (fun h => by rw [h, str_refl] at h1; cases h1)]
 refine ⟨by decide, .inl ?_⟩
 intro g H2 hle hrd
 (conv => whnf)
 exact ⟨⟨_, _, _, rfl, rfl, fun e => (nomatch e), fun a e => by injection e with e; subst e; exact hrd⟩, rfl⟩
end Go.Kx.Su
namespace Go.Kx.Su
open Go.Proofs Go.Kx Go.RowKit Go.Kx.Js Go.Kx.Pr Go.Kx.Rt Go.Kx.Ob Go.Kx.Wo Go.Kx.Cl Go.Kx.Pa
set_option maxRecDepth 20000
set_option linter.unusedSimpArgs false
def RJ2 (x : J × Int) (e : SE) (H' : Hp) : Prop := ∃ k y t A n c B m f, e = .ret (.tu [.ag [.val (.int .i64 k), .val (.bool y), .val (.string t), .val (.slice A n c), .val (.slice B m f)], .ce (.val (.int .i64 x.2))]) ∧ JAt H' x.1 [.int .i64 k, .bool y, .string t, .slice A n c, .slice B m f]
def subValP (x : Sub) : J × Int := if subRight x then (subJ x, 0) else (jNone, 10)
theorem stC_bL (L : List ByteArray) : stC (bL L) = L.map Value.string := by
 unfold stC bL
 rw [List.map_map]
 refine List.map_congr_left fun x _ => ?_
 show Value.string ⟨x.data.toList.toArray⟩ = _
 cases x; simp
theorem names_len {x : Sub} (h : subRight x = true) : (namesOf x.fmt).length = (textsOf x).length ∧ (textsOf x).length ≤ 2 ∧ 0 < (textsOf x).length := by
 rcases sub_cases h with ⟨id, rfl, h1⟩ | ⟨id, rfl, h1, h2⟩ | ⟨id, own, rfl, h1, h2⟩
 ·exact ⟨rfl, Nat.le_succ _, Nat.zero_lt_succ _⟩
 ·exact ⟨rfl, Nat.le_succ _, Nat.zero_lt_succ _⟩
 ·exact ⟨rfl, Nat.le_refl _, Nat.zero_lt_succ _⟩
theorem objO (ms : Ms) (zs : List Value) (h0 : 0 < ms.length) (hml : ms.length ≤ 1000000) (H : Hp) (hm : MsAt H ms zs) : CallO Tryz.prog 18 [.si (.ce (.self 0))] H [.row 52 6 ms.length zs] fun e H' G' =>
  (∃ B d, e = .ret (agJ 6 false ⟨#[]⟩ none 0 0 B ms.length d) ∧ JAt H' (objJ ms) [.int .i64 6, .bool false, .string ⟨#[]⟩, .slice none 0 0, .slice B ms.length d]) ∧ G' = [.dead] := by
 refine CallO.eat 0 (t := 52) (sz := 6) (n := ms.length) (xs := zs) rfl (fun h => by omega) ?_
 intro x H2 hle hfr
 obtain ⟨A, cap, rfl, hv⟩ := Js.RdV.of_frozen hfr
 refine (CallS.use (obj_ ms hml A cap zs H2 (hm.mono hle) hv h0) [] rfl rfl trivial ?_).to
 rintro e H' G' hle2 ⟨⟨B, d, rfl, hj⟩, rfl⟩
 (conv => whnf)
 exact ⟨⟨B, d, rfl, hj⟩, rfl⟩
theorem value0 (f id own : ByteArray) (H : Hp) : CallO Tryz.prog 29 [.si (.ag [.val (.string f), .val (.string id), .val (.string own)])] H [] fun e H' G' => RJ2 (subValP ⟨f, id, own⟩) e H' ∧ H.Le H' ∧ G' = [] := by
 unfold subValP
 refine CallO.of_body tab Tryz.func29 rfl (nt := Tryz.f29.ntmps) rfl (by kernel_rfl) ?_
 (conv => whnf)
 refine ⟨⟨_, Tryz.func34, rfl, by kernel_rfl⟩, CallS.use (right0 f id own H) [] rfl rfl trivial ?_⟩
 rintro e H1 G' hle1 ⟨rfl, rfl⟩
 cases hr : subRight ⟨f, id, own⟩
 all_goals (conv => whnf)
 ·exact ⟨⟨_, _, _, _, _, _, _, _, _, rfl, .bare 0 false ⟨#[]⟩⟩, hle1, rfl⟩
 refine ⟨⟨_, Tryz.func31, rfl, by kernel_rfl⟩, CallS.use (Ob.str_ f H1) [] rfl rfl trivial ?_⟩
 rintro e H2 G' hle2 ⟨rfl, rfl, rfl⟩
 (conv => whnf)
 refine ⟨by decide, .inr ?_⟩
 refine ⟨rfl, ?_⟩
 (conv => whnf)
 refine ⟨⟨_, Tryz.func60, rfl, by kernel_rfl⟩, CallS.use (texts0 f id own H2) [] rfl rfl trivial ?_⟩
 rintro e H3 G' hle3 ⟨⟨B, m, cc, rfl, hv⟩, rfl⟩
 have hm : m = (textsOf ⟨f, id, own⟩).length := by have := hv.1; rw [stC_len] at this; simpa [bL] using this
 subst hm
 rw [stC_bL] at hv
 obtain ⟨n1, n2, n3⟩ := names_len hr
 have hle13 := (hle1.trans hle2).trans hle3
 have hms : subMs ⟨f, id, own⟩ = (sFormat, strJ f) :: List.zip (namesOf f) ((textsOf ⟨f, id, own⟩).map strJ) := rfl
 have hsubJ : subJ ⟨f, id, own⟩ = objJ (subMs ⟨f, id, own⟩) := rfl
 dsimp only at n1 n2 n3
 generalize textsOf ⟨f, id, own⟩ = L at *
 have hlen : (subMs ⟨f, id, own⟩).length = L.length + 1 := by rw [hms]; simp; omega
 (conv => whnf)
 refine WS.loop (fun k' F H4 G => ∃ (i : Nat) (zs : List Value), i ≤ L.length ∧ MsAt H4 ((subMs ⟨f, id, own⟩).take (i + 1)) zs ∧ k' = L.length - i ∧ F = [(1, .si (.ce (.ptr 0 0))), (2, .si (.ce (.ptr 1 0))), (3, pv (.int .i64 0)), (4, .si (.ce (.self 2))), (17, pv (.slice B L.length cc)), (18, pv (.int .i64 L.length)), (19, pv (.int .i64 i))] ∧ H3.Le H4 ∧ G = [.box 23 [.val (.string f), .val (.string id), .val (.string own)], .box 34 [.val (.int .i64 0), .val (.bool false), .val (.string ⟨#[]⟩), .val (.slice none 0 0), .val (.slice none 0 0)], .row 52 6 (i + 1) zs]) (L.length + 1) ?_ ?_
 ·have h0 : MsAt H3 ((subMs ⟨f, id, own⟩).take (0 + 1)) [.string sFormat, .int .i64 4, .bool false, .string f, .slice none 0 0, .slice none 0 0] := by rw [hms]; exact .cons (.bare 4 false f) .nil
  refine ⟨L.length, by omega, _, _, [0, 1, 2], ⟨0, [.string sFormat, .int .i64 4, .bool false, .string f, .slice none 0 0, .slice none 0 0], by omega, h0, rfl, rfl, .refl _, rfl⟩, ?_⟩
  exact ⟨rfl, ⟨rfl, rfl, rfl, trivial⟩, rfl, rfl, rfl, rfl, rfl, rfl, rfl, trivial⟩
 rintro k' F H4 G hle4 ⟨i, zs, hi, hmz, rfl, rfl, hle5, rfl⟩
 refine codeL.go tab ?_
 (conv => whnf)
 refine br.of (fun h7 => ?_) (fun h7 => ?_) <;> (conv => whnf)
 ·have h7 := of_decide_eq_true h7
  have hil : i < L.length := by omega
  have hgetL : (L.map Value.string)[i]? = some (.string (L[i]'hil)) := by simp [hil]
  have hmem : (subMs ⟨f, id, own⟩)[i + 1]? = some ((namesOf f)[i]'(by omega), strJ (L[i]'hil)) := by rw [hms]; simp [hil, List.getElem?_zip_eq_some, n1]
  have hnm : (stC (bL (namesOf f)))[i]? = some (.string ((namesOf f)[i]'(by omega))) := by rw [stC_bL]; simp [n1, hil]
  generalize L[i]'hil = tx at *
  generalize (namesOf f)[i]'(by omega) = nm at *
  have hzl := hmz.length
  have htake : (subMs ⟨f, id, own⟩).take (i + 1 + 1) = (subMs ⟨f, id, own⟩).take (i + 1) ++ [(nm, strJ tx)] := by rw [List.take_add_one, hmem]; rfl
  refine ⟨⟨by omega, by omega⟩, hv.addr (by omega), ?_⟩
  (conv => whnf)
  refine ⟨_, (hv.mono hle5).get hgetL (by show (i : Int).toNat * 1 = i; omega), ?_⟩
  (conv => whnf)
  refine WS.draw tab mixed (.take 0 (.take 1 (.take 2 (.take 4 (.take 7 (.alt 3 (.alt 5 (.alt 6 (.alt 8 (.take 9 (.alt 10 (.alt 11 (.take 12 .done) .no) .no)) .no) (.alt 8 (.alt 6 (.take 9 (.alt 10 (.alt 11 (.take 12 .done) .no) .no)) .no) .no)) (.alt 8 (.alt 5 (.alt 6 (.take 9 (.alt 10 (.alt 11 (.take 12 .done) .no) .no)) .no) .no) .no)) .no)))))) (by kernel_rfl) [2] ?_
  (conv => whnf)
  refine And.intro ?_ ?_ <;> (conv => whnf)
  rotate_left
  ·exact trivial
  refine ⟨⟨_, Tryz.func61, rfl, by kernel_rfl⟩, CallS.use (names_ f H4) [] rfl rfl trivial ?_⟩
  rintro e H5 G' hle6 ⟨⟨B2, m2, c2, rfl, hv2⟩, rfl⟩
  have hm2 : m2 = L.length := by have := hv2.1; rw [stC_len] at this; simpa [bL, n1] using this
  subst hm2
  (conv => whnf)
  have hB : ∀ {m2 : Nat} {B2 : Option Addr} {H5 : Hp}, VAt H5 B2 m2 (stC (bL (namesOf f))) → m2 = L.length := fun h => by have := h.1; rw [stC_len] at this; simpa [bL, n1] using this
  have ho : (i : Int).toNat * 1 = i := by omega
  have hone : ∀ u ∈ [Value.string nm, .int .i64 4, .bool false, .string tx, .slice none 0 0, .slice none 0 0], u.oneCell' = true := fun u hu => by simp only [List.mem_cons, List.mem_nil_iff, or_false] at hu; rcases hu with rfl | rfl | rfl | rfl | rfl | rfl <;> rfl
  repeat' (first
   | exact trivial
   | exact rfl
   | exact ⟨rfl, rfl, rfl, trivial⟩
   | exact ⟨_, Tryz.func61, rfl, by kernel_rfl⟩
   | exact ⟨_, Tryz.func31, rfl, by kernel_rfl⟩
   | (refine CallS.use (names_ f H4) [] rfl rfl trivial ?_; rintro e H5 G' hle6 ⟨⟨B2, m2, c2, rfl, hv2⟩, rfl⟩; obtain rfl := hB hv2; (conv => whnf))
   | (refine CallS.use (Ob.str_ tx _) [] rfl rfl trivial ?_; rintro e H6 G' hle7 ⟨rfl, rfl, rfl⟩; (conv => whnf))
   | exact ⟨by omega, by omega⟩
   | exact hv2.addr (by omega)
   | (refine ⟨_, hv2.get hnm ho, ?_⟩; (conv => whnf))
   | exact Nat.le_of_ble_eq_true rfl
   | (refine .inl ?_; intro g H7 hle8 hrd; (conv => whnf))
   | (refine ⟨_, rfl, hrd, hone, ?_⟩; (conv => whnf))
   | (refine ⟨by show (i + 1 + 1) * 97 ≤ _; omega, ?_⟩; (conv => whnf))
   | (refine And.intro ?_ ?_ <;> (conv => whnf)))
  all_goals
   have hle38 := ((hle5.trans hle6).trans hle7).trans hle8
   have hms2 : MsAt H7 ((subMs ⟨f, id, own⟩).take (i + 1 + 1)) (zs ++ [.string nm, .int .i64 4, .bool false, .string tx, .slice none 0 0, .slice none 0 0]) := by
    rw [htake]
    exact (hmz.mono ((hle6.trans hle7).trans hle8)).snoc (.bare 4 false tx)
   rw [wrap64 (x := (i : Int) + 1) (by omega) (by omega)]
   refine ⟨L.length - (i + 1), by omega, _, _, [0, 1, 3], ⟨i + 1, _, by omega, hms2, rfl, rfl, hle38, rfl⟩, ?_⟩
   exact ⟨rfl, ⟨rfl, rfl, rfl, trivial⟩, rfl, rfl, rfl, rfl, rfl, rfl, rfl, trivial⟩
 ·have h7 := of_decide_eq_false h7
  obtain rfl : i = L.length := by omega
  rw [List.take_of_length_le (by omega)] at hmz
  have hmz2 : MsAt H4 (subMs ⟨f, id, own⟩) zs := hmz
  have hrow : SB.row 52 6 (L.length + 1) zs = .row 52 6 (subMs ⟨f, id, own⟩).length zs := by rw [hlen]
  refine ⟨⟨_, Tryz.func18, rfl, by kernel_rfl⟩, ?_⟩
  rw [hrow]
  refine CallS.use (objO (subMs ⟨f, id, own⟩) zs (by omega) (by omega) H4 hmz2) [2] rfl rfl ⟨rfl, trivial⟩ ?_
  rintro e H8 G' hle9 ⟨⟨B3, d3, rfl, hj⟩, rfl⟩
  (conv => whnf)
  exact ⟨⟨_, _, _, _, _, _, _, _, _, rfl, hj⟩, (hle13.trans hle5).trans hle9, rfl⟩
theorem value_ (x : Sub) (H : Hp) : CallO Tryz.prog 29 [agS x] H [] fun e H' G' => RJ2 (subValP x) e H' ∧ H.Le H' ∧ G' = [] := value0 x.fmt x.id x.own H
end Go.Kx.Su
namespace Go.Kx.Su
open Go.Proofs Go.Kx Go.RowKit Go.Kx.Js Go.Kx.Pr Go.Kx.Rt Go.Kx.Ob Go.Kx.Wo Go.Kx.Cl Go.Kx.Pa
set_option maxRecDepth 20000
set_option linter.unusedSimpArgs false
theorem sm_len {j : J} (h : smJ j) : j.mems.length ≤ 1000000 := by
 obtain ⟨k, y, t, js, ms⟩ := j
 exact h.2.2.1
theorem member_ (j : J) (hl : j.mems.length ≤ 1000000) (s : ByteArray) (k : Int) (y : Bool) (t : ByteArray) (A : Option Addr) (n c : Nat) (B : Option Addr) (m d : Nat) (H : Hp) (hj : JAt H j [.int .i64 k, .bool y, .string t, .slice A n c, .slice B m d]) :
  CallO Tryz.prog 79 [agJ k y t A n c B m d, pv (.string s)] H [] fun e H' G' => e = .ret (.tu [.ce (.val (.string (memT j s).1)), .ce (.val (.bool (memT j s).2))]) ∧ H' = H ∧ G' = [] := by
 unfold memT
 refine CallO.of_body tab Tryz.func79 rfl (nt := Tryz.f79.ntmps) rfl (by kernel_rfl) ?_
 (conv => whnf)
 refine ⟨⟨_, Tryz.func41, rfl, by kernel_rfl⟩, CallS.use (get_ j k y t A n c B m d s H hj hl) [] rfl rfl trivial ?_⟩
 rintro e H1 G' hle1 ⟨rfl, hg, rfl⟩
 cases hgj : j.get s with
 | none =>
  rw [hgj] at hg
  obtain rfl := hg
  (conv => whnf)
  refine WS.draw tab mixed (.take 0 (.take 1 (.take 2 (.take 3 (.take 4 (.take 5 (.take 6 (.take 7 (.take 8 (.take 9 .done)))))))))) (by kernel_rfl) [] ?_
  (conv => whnf)
  repeat' (first
   | exact trivial
   | exact rfl
   | exact ⟨rfl, rfl, rfl⟩
   | (refine And.intro ?_ ?_ <;> (conv => whnf)))
 | some q =>
  rw [hgj] at hg
  obtain ⟨k2, y2, t2, A2, n2, c2, B2, m2, d2, rfl, hj2⟩ := hg
  obtain ⟨rfl, rfl⟩ : k2 = q.kind ∧ t2 = q.text := by cases hj2; exact ⟨rfl, rfl⟩
  (conv => whnf)
  refine WS.draw tab mixed (.take 0 (.take 1 (.take 2 (.take 3 (.take 4 (.take 5 (.take 6 (.take 7 (.take 8 (.take 9 .done)))))))))) (by kernel_rfl) [] ?_
  (conv => whnf)
  repeat' (first
   | exact trivial
   | exact rfl
   | exact ⟨rfl, rfl, rfl⟩
   | (refine And.intro ?_ ?_ <;> (conv => whnf)))
theorem show0 (f id own : ByteArray) (h1 : f.size ≤ 10000) (h2 : id.size ≤ 10000) (h3 : own.size ≤ 10000) (H : Hp) : CallO Tryz.prog 25 [.si (.ag [.val (.string f), .val (.string id), .val (.string own)])] H [] fun e H' G' => e = .ret (pv (.string (if f = sIssSub then f ++ ⟨#[58]⟩ ++ own ++ ⟨#[32]⟩ ++ id else f ++ ⟨#[58]⟩ ++ id))) ∧ H' = H ∧ G' = [] := by
 refine CallO.of_body tab Tryz.func25 rfl (nt := Tryz.f25.ntmps) rfl (by kernel_rfl) ?_
 (conv => whnf)
 have z : ∀ a b : ByteArray, (a ++ b).size = a.size + b.size := fun a b => ByteArray.size_append
 have z1 : (⟨#[58]⟩ : ByteArray).size = 1 := rfl
 have z2 : (⟨#[32]⟩ : ByteArray).size = 1 := rfl
 refine br.of (fun h4 => ?_) (fun h4 => ?_) <;> (conv => whnf)
 ·rw [if_pos ((strEq_iff ..).1 h4)]
  refine ⟨by omega, ?_⟩
  (conv => whnf)
  refine ⟨by rw [z]; omega, ?_⟩
  (conv => whnf)
  refine ⟨by rw [z, z]; omega, ?_⟩
  (conv => whnf)
  refine ⟨by rw [z, z, z]; omega, ?_⟩
  (conv => whnf)
  exact ⟨rfl, rfl, rfl⟩
 ·rw [if_neg (fun h => by rw [h, str_refl] at h4; cases h4)]
  refine ⟨by omega, ?_⟩
  (conv => whnf)
  refine ⟨by rw [z]; omega, ?_⟩
  (conv => whnf)
  exact ⟨rfl, rfl, rfl⟩
def RS (x : Sub × Int) (e : SE) : Prop := e = .ret (.tu [.ag [.val (.string x.1.fmt), .val (.string x.1.id), .val (.string x.1.own)], .ce (.val (.int .i64 x.2))])
theorem of_ (j : J) (hs : smJ j) (k : Int) (y : Bool) (t : ByteArray) (A : Option Addr) (n c : Nat) (B : Option Addr) (m d : Nat) (H : Hp) (hj : JAt H j [.int .i64 k, .bool y, .string t, .slice A n c, .slice B m d]) :
  CallO Tryz.prog 43 [agJ k y t A n c B m d] H [] fun e H' G' => RS (subOf j) e ∧ H.Le H' ∧ G' = [] := by
 have hl := sm_len hs
 have hmd : m = j.mems.length := by cases hj; assumption
 unfold subOf
 refine CallO.of_body tab Tryz.func43 rfl (nt := Tryz.f43.ntmps) rfl (by kernel_rfl) ?_
 (conv => whnf)
 refine ⟨⟨_, Tryz.func79, rfl, by kernel_rfl⟩, CallS.use (member_ j hl sFormat k y t A n c B m d H hj) [] rfl rfl trivial ?_⟩
 rintro e H1 G' hle1 ⟨rfl, rfl, rfl⟩
 generalize (memT j sFormat).1 = f
 cases hok : (memT j sFormat).2
 all_goals (conv => whnf)
 all_goals refine ⟨⟨_, Tryz.func61, rfl, by kernel_rfl⟩, CallS.use (names_ f H1) [] rfl rfl trivial ?_⟩
 all_goals rintro e H2 G' hle2 ⟨⟨B2, m2, c2, rfl, hv2⟩, rfl⟩
 all_goals (conv => whnf)
 ·exact ⟨rfl, hle2, rfl⟩
 have hm2 : m2 = (namesOf f).length := by have := hv2.1; rw [stC_len] at this; simpa [bL] using this
 have hc : f = sOpaque ∨ f = sEmail ∨ f = sIssSub ∨ namesOf f = [] := by
  unfold namesOf
  by_cases h1 : f = sOpaque
  ·exact .inl h1
  by_cases h2 : f = sEmail
  ·exact .inr (.inl h2)
  by_cases h3 : f = sIssSub
  ·exact .inr (.inr (.inl h3))
  rw [if_neg h1, if_neg h2, if_neg h3]
  exact .inr (.inr (.inr rfl))
 rw [if_neg (by decide)]
 have noneed : ∀ {f : ByteArray}, namesOf f = [] → (if namesOf f = [] then (sub0, 42) else
  if rightJ j = false ∨ List.length j.mems ≠ (namesOf f).length + 1 then (sub0, 10) else
  if f = sIssSub then (if ((memT j sSub).snd && (memT j sIss).snd && subRight { fmt := f, id := (memT j sSub).fst, own := (memT j sIss).fst }) = true then ({ fmt := f, id := (memT j sSub).fst, own := (memT j sIss).fst }, 0) else (sub0, 10)) else
  if ((memT j ((namesOf f).getD 0 { data := #[] })).snd && subRight { fmt := f, id := (memT j ((namesOf f).getD 0 { data := #[] })).fst, own := { data := #[] } }) = true then ({ fmt := f, id := (memT j ((namesOf f).getD 0 { data := #[] })).fst, own := { data := #[] } }, 0) else (sub0, 10)) = ((sub0, 42) : Sub × Int) := fun h => if_pos h
 rcases hc with rfl | rfl | rfl | hf
 rotate_right
 ·rw [noneed hf]
  rw [hf] at hm2
  obtain rfl : m2 = 0 := hm2
  (conv => whnf)
  exact ⟨rfl, hle2, rfl⟩
 ·rw [if_neg (by decide), if_neg (show ¬ sOpaque = sIssSub by decide)]
  obtain rfl : m2 = 1 := hm2
  have e0 : (namesOf sOpaque).length + 1 = 2 := rfl
  have w2 : IntKind.i64.wrap (((1 : Nat) : Int) + 1) = 2 := by decide
  have w0 : IntKind.i64.wrap (((1 : Nat) : Int) - 1) = 1 - 1 := by decide
  have hget : (stC (bL (namesOf sOpaque)))[1 - 1]? = some (.string sId) := rfl
  rw [e0, show (namesOf sOpaque).getD 0 ⟨#[]⟩ = sId from rfl]
  (conv => whnf)
  refine ⟨⟨_, Tryz.func37, rfl, by kernel_rfl⟩, CallS.use (Rt.right_ _ j (Nat.lt_succ_self _) hs k y t A n c B m d H2 (hj.mono hle2)) [] rfl rfl trivial ?_⟩
  rintro e H3 G' hle3 ⟨rfl, hle4, rfl⟩
  cases hrj : rightJ j
  all_goals (conv => whnf)
  ·exact ⟨rfl, hle2.trans hle3, rfl⟩
  rw [w2]
  refine br.of (fun h5 => ?_) (fun h5 => ?_) <;> (conv => whnf)
  ·simp only [bne_iff_ne, ne_eq] at h5
   rw [if_pos (.inr (by omega))]
   exact ⟨rfl, hle2.trans hle3, rfl⟩
  simp only [bne_eq_false_iff_eq] at h5
  have hno : ¬ (true = false ∨ j.mems.length ≠ 2) := by
   rintro (h | h)
   ·cases h
   ·omega
  rw [if_neg hno]
  have hmem := fun H3 (hle : H2.Le H3) => member_ j hl sId k y t A n c B m d H3 ((hj.mono hle2).mono hle)
  have hfin := hle2.trans hle3
  generalize memT j sId = p at hmem ⊢
  obtain ⟨q, b⟩ := p
  cases b
  all_goals
   refine WS.draw tab mixed (.take 0 (.take 1 (.take 2 (.take 3 (.take 4 (.take 5 (.take 6 (.alt 7 (.take 8 (.take 9 (.take 10 (.take 11 (.alt 12 (.take 13 .done) .no))))) .no)))))))) (by kernel_rfl) [2] ?_
   (conv => whnf)
   refine ⟨by rw [w0]; decide, hv2.addr (by decide), ?_⟩
   (conv => whnf)
   refine ⟨_, ((hv2.mono hle3).get hget (by show (IntKind.i64.wrap _).toNat * 1 = _; rw [w0]; rfl)), ?_⟩
   (conv => whnf)
   repeat' (first
    | exact trivial
    | exact rfl
    | exact ⟨rfl, rfl, trivial⟩
    | exact ⟨rfl, hfin, rfl⟩
    | exact ⟨_, Tryz.func79, rfl, by kernel_rfl⟩
    | exact ⟨_, Tryz.func34, rfl, by kernel_rfl⟩
    | (refine CallS.use (hmem _ hle3) [] rfl rfl trivial ?_; rintro e H4 G' hle5 ⟨rfl, rfl, rfl⟩; (conv => whnf))
    | (refine CallS.use (right0 sOpaque q ⟨#[]⟩ _) [] rfl rfl trivial ?_; rintro e H5 G' hle6 ⟨rfl, rfl⟩; have hfin := hfin.trans hle6; cases subRight ⟨sOpaque, q, ⟨#[]⟩⟩ <;> (conv => whnf))
    | (refine And.intro ?_ ?_ <;> (conv => whnf)))
 ·rw [if_neg (by decide), if_neg (show ¬ sEmail = sIssSub by decide)]
  obtain rfl : m2 = 1 := hm2
  have e0 : (namesOf sEmail).length + 1 = 2 := rfl
  have w2 : IntKind.i64.wrap (((1 : Nat) : Int) + 1) = 2 := by decide
  have w0 : IntKind.i64.wrap (((1 : Nat) : Int) - 1) = 1 - 1 := by decide
  have hget : (stC (bL (namesOf sEmail)))[1 - 1]? = some (.string sEmail) := rfl
  rw [e0, show (namesOf sEmail).getD 0 ⟨#[]⟩ = sEmail from rfl]
  (conv => whnf)
  refine ⟨⟨_, Tryz.func37, rfl, by kernel_rfl⟩, CallS.use (Rt.right_ _ j (Nat.lt_succ_self _) hs k y t A n c B m d H2 (hj.mono hle2)) [] rfl rfl trivial ?_⟩
  rintro e H3 G' hle3 ⟨rfl, hle4, rfl⟩
  cases hrj : rightJ j
  all_goals (conv => whnf)
  ·exact ⟨rfl, hle2.trans hle3, rfl⟩
  rw [w2]
  refine br.of (fun h5 => ?_) (fun h5 => ?_) <;> (conv => whnf)
  ·simp only [bne_iff_ne, ne_eq] at h5
   rw [if_pos (.inr (by omega))]
   exact ⟨rfl, hle2.trans hle3, rfl⟩
  simp only [bne_eq_false_iff_eq] at h5
  have hno : ¬ (true = false ∨ j.mems.length ≠ 2) := by
   rintro (h | h)
   ·cases h
   ·omega
  rw [if_neg hno]
  have hmem := fun H3 (hle : H2.Le H3) => member_ j hl sEmail k y t A n c B m d H3 ((hj.mono hle2).mono hle)
  have hfin := hle2.trans hle3
  generalize memT j sEmail = p at hmem ⊢
  obtain ⟨q, b⟩ := p
  cases b
  all_goals
   refine WS.draw tab mixed (.take 0 (.take 1 (.take 2 (.take 3 (.take 4 (.take 5 (.take 6 (.alt 7 (.take 8 (.take 9 (.take 10 (.take 11 (.alt 12 (.take 13 .done) .no))))) .no)))))))) (by kernel_rfl) [2] ?_
   (conv => whnf)
   refine ⟨by rw [w0]; decide, hv2.addr (by decide), ?_⟩
   (conv => whnf)
   refine ⟨_, ((hv2.mono hle3).get hget (by show (IntKind.i64.wrap _).toNat * 1 = _; rw [w0]; rfl)), ?_⟩
   (conv => whnf)
   repeat' (first
    | exact trivial
    | exact rfl
    | exact ⟨rfl, rfl, trivial⟩
    | exact ⟨rfl, hfin, rfl⟩
    | exact ⟨_, Tryz.func79, rfl, by kernel_rfl⟩
    | exact ⟨_, Tryz.func34, rfl, by kernel_rfl⟩
    | (refine CallS.use (hmem _ hle3) [] rfl rfl trivial ?_; rintro e H4 G' hle5 ⟨rfl, rfl, rfl⟩; (conv => whnf))
    | (refine CallS.use (right0 sEmail q ⟨#[]⟩ _) [] rfl rfl trivial ?_; rintro e H5 G' hle6 ⟨rfl, rfl⟩; have hfin := hfin.trans hle6; cases subRight ⟨sEmail, q, ⟨#[]⟩⟩ <;> (conv => whnf))
    | (refine And.intro ?_ ?_ <;> (conv => whnf)))
 ·rw [if_neg (by decide), if_pos (show sIssSub = sIssSub from rfl)]
  obtain rfl : m2 = 2 := hm2
  have e0 : (namesOf sIssSub).length + 1 = 3 := rfl
  have w2 : IntKind.i64.wrap (((2 : Nat) : Int) + 1) = 3 := by decide
  have w0 : IntKind.i64.wrap (((2 : Nat) : Int) - 1) = 2 - 1 := by decide
  have hget : (stC (bL (namesOf sIssSub)))[2 - 1]? = some (.string sSub) := rfl
  rw [e0]
  (conv => whnf)
  refine ⟨⟨_, Tryz.func37, rfl, by kernel_rfl⟩, CallS.use (Rt.right_ _ j (Nat.lt_succ_self _) hs k y t A n c B m d H2 (hj.mono hle2)) [] rfl rfl trivial ?_⟩
  rintro e H3 G' hle3 ⟨rfl, hle4, rfl⟩
  cases hrj : rightJ j
  all_goals (conv => whnf)
  ·exact ⟨rfl, hle2.trans hle3, rfl⟩
  rw [w2]
  refine br.of (fun h5 => ?_) (fun h5 => ?_) <;> (conv => whnf)
  ·simp only [bne_iff_ne, ne_eq] at h5
   rw [if_pos (.inr (by omega))]
   exact ⟨rfl, hle2.trans hle3, rfl⟩
  simp only [bne_eq_false_iff_eq] at h5
  have hno : ¬ (true = false ∨ j.mems.length ≠ 3) := by
   rintro (h | h)
   ·cases h
   ·omega
  rw [if_neg hno]
  have hmem := fun H3 (hle : H2.Le H3) => member_ j hl sSub k y t A n c B m d H3 ((hj.mono hle2).mono hle)
  have hfin := hle2.trans hle3
  have hget2 : (stC (bL (namesOf sIssSub)))[0]? = some (.string sIss) := rfl
  have hmem2 := fun H3 (hle : H2.Le H3) => member_ j hl sIss k y t A n c B m d H3 ((hj.mono hle2).mono hle)
  generalize memT j sSub = p at hmem ⊢
  generalize memT j sIss = p2 at hmem2 ⊢
  obtain ⟨q, b⟩ := p
  obtain ⟨q2, b2⟩ := p2
  cases b <;> cases b2
  all_goals
   refine WS.draw tab mixed (.take 0 (.take 1 (.take 2 (.take 3 (.take 4 (.take 5 (.take 6 (.alt 7 (.take 8 (.take 9 (.take 10 (.take 11 (.alt 12 (.take 13 .done) .no))))) .no)))))))) (by kernel_rfl) [2] ?_
   (conv => whnf)
   refine ⟨by rw [w0]; decide, hv2.addr (by decide), ?_⟩
   (conv => whnf)
   refine ⟨_, ((hv2.mono hle3).get hget (by show (IntKind.i64.wrap _).toNat * 1 = _; rw [w0]; rfl)), ?_⟩
   (conv => whnf)
   repeat' (first
    | exact trivial
    | exact rfl
    | exact ⟨rfl, rfl, trivial⟩
    | exact ⟨rfl, hfin, rfl⟩
    | exact ⟨_, Tryz.func79, rfl, by kernel_rfl⟩
    | exact ⟨_, Tryz.func34, rfl, by kernel_rfl⟩
    | (refine CallS.use (hmem _ hle3) [] rfl rfl trivial ?_; rintro e H4 G' hle5 ⟨rfl, rfl, rfl⟩; (conv => whnf))
    | (refine ⟨⟨by decide, by decide⟩, hv2.addr (by decide), ?_⟩; (conv => whnf))
    | (refine ⟨_, ((hv2.mono hle3).get hget2 rfl), ?_⟩; (conv => whnf))
    | (refine WS.draw tab mixed (.take 0 (.take 1 (.take 2 (.take 3 (.alt 4 (.take 5 (.take 6 (.take 7 (.take 8 (.alt 9 (.take 10 .done) .no))))) .no))))) (by kernel_rfl) [2] ?_; (conv => whnf))
    | (refine CallS.use (hmem2 _ hle3) [] rfl rfl trivial ?_; rintro e H4 G' hle5 ⟨rfl, rfl, rfl⟩; (conv => whnf))
    | (refine CallS.use (right0 sIssSub q q2 _) [] rfl rfl trivial ?_; rintro e H5 G' hle6 ⟨rfl, rfl⟩; have hfin := hfin.trans hle6; cases subRight ⟨sIssSub, q, q2⟩ <;> (conv => whnf))
    | (refine And.intro ?_ ?_ <;> (conv => whnf)))
end Go.Kx.Su
namespace Go.Kx.Se
open Go.Proofs Go.Kx Go.RowKit Go.Kx.Js Go.Kx.Pr Go.Kx.Rt Go.Kx.Ob Go.Kx.Wo Go.Kx.Cl Go.Kx.Pa Go.Kx.Su
set_option maxRecDepth 20000
set_option linter.unusedSimpArgs false
def T : Tab := [(25, { k := TK.st [(0, 9, 1), (1, 9, 1), (2, 9, 1), (3, 3, 1), (4, 9, 1), (5, 23, 3), (8, 3, 1), (9, 9, 1)], agg := true, size := 10, bytes := 144, zero := [Z.s, Z.s, Z.s, Z.i IntKind.i64, Z.s, Z.s, Z.s, Z.s, Z.i IntKind.i64, Z.s] }), (23, { k := TK.st [(0, 9, 1), (1, 9, 1), (2, 9, 1)], agg := true, size := 3, bytes := 48, zero := [Z.s, Z.s, Z.s] }), (9, { k := TK.string, agg := false, size := 1, bytes := 16, zero := [Z.s] }), (52, { k := TK.st [(0, 9, 1), (1, 34, 5)], agg := true, size := 6, bytes := 96, zero := [Z.s, Z.i IntKind.i64, Z.b, Z.s, Z.sl, Z.sl] }), (34, { k := TK.st [(0, 3, 1), (1, 4, 1), (2, 9, 1), (3, 31, 1), (4, 32, 1)], agg := true, size := 5, bytes := 80, zero := [Z.i IntKind.i64, Z.b, Z.s, Z.sl, Z.sl] }), (35, { k := TK.int IntKind.i64, agg := false, size := 1, bytes := 8, zero := [Z.i IntKind.i64] }), (4, { k := TK.bool, agg := false, size := 1, bytes := 1, zero := [Z.b] }), (3, { k := TK.int IntKind.i64, agg := false, size := 1, bytes := 8, zero := [Z.i IntKind.i64] }), (32, { k := TK.slice 52, agg := false, size := 1, bytes := 24, zero := [Z.sl] }), (55, { k := TK.slice 5, agg := false, size := 1, bytes := 24, zero := [Z.sl] }), (91, { k := TK.st [(0, 9, 1), (1, 9, 1)], agg := true, size := 2, bytes := 32, zero := [Z.s, Z.s] }), (95, { k := TK.st [(0, 91, 2), (2, 55, 1), (3, 9, 1), (4, 55, 1)], agg := true, size := 5, bytes := 96, zero := [Z.s, Z.s, Z.sl, Z.s, Z.sl] }), (62, { k := TK.slice 9, agg := false, size := 1, bytes := 24, zero := [Z.sl] }), (31, { k := TK.slice 34, agg := false, size := 1, bytes := 24, zero := [Z.sl] }), (5, { k := TK.int IntKind.u8, agg := false, size := 1, bytes := 1, zero := [Z.i IntKind.u8] })]
set_option maxRecDepth 100000 in
theorem tab : TabOk Tryz.prog T := tabOk_mk (ts := [25, 23, 9, 52, 34, 35, 4, 3, 32, 55, 91, 95, 62, 31, 5]) (by kernel_rfl)
theorem mixed : Tryz.prog.follows .mixedOrders = true := by kernel_rfl
def sfxN : List Value := [.string (⟨#[99, 97, 101, 112, 47, 101, 118, 101, 110, 116, 45, 116, 121, 112, 101, 47, 115, 101, 115, 115, 105, 111, 110, 45, 114, 101, 118, 111, 107, 101, 100]⟩ : ByteArray), .string (⟨#[99, 97, 101, 112, 47, 101, 118, 101, 110, 116, 45, 116, 121, 112, 101, 47, 99, 114, 101, 100, 101, 110, 116, 105, 97, 108, 45, 99, 104, 97, 110, 103, 101]⟩ : ByteArray), .string (⟨#[114, 105, 115, 99, 47, 101, 118, 101, 110, 116, 45, 116, 121, 112, 101, 47, 97, 99, 99, 111, 117, 110, 116, 45, 100, 105, 115, 97, 98, 108, 101, 100]⟩ : ByteArray), .string (⟨#[114, 105, 115, 99, 47, 101, 118, 101, 110, 116, 45, 116, 121, 112, 101, 47, 97, 99, 99, 111, 117, 110, 116, 45, 101, 110, 97, 98, 108, 101, 100]⟩ : ByteArray), .string (⟨#[99, 97, 101, 112, 47, 101, 118, 101, 110, 116, 45, 116, 121, 112, 101, 47, 116, 111, 107, 101, 110, 45, 99, 108, 97, 105, 109, 115, 45, 99, 104, 97, 110, 103, 101]⟩ : ByteArray), .string (⟨#[115, 115, 101, 47, 101, 118, 101, 110, 116, 45, 116, 121, 112, 101, 47, 118, 101, 114, 105, 102, 105, 99, 97, 116, 105, 111, 110]⟩ : ByteArray)]
abbrev frontB := (⟨#[104, 116, 116, 112, 115, 58, 47, 47, 115, 99, 104, 101, 109, 97, 115, 46, 111, 112, 101, 110, 105, 100, 46, 110, 101, 116, 47, 115, 101, 99, 101, 118, 101, 110, 116, 47]⟩ : ByteArray)
theorem names0 (H : Hp) : CallO Tryz.prog 59 [] H [] fun e H' G' => e = .ret (.si (.ce (.self 0))) ∧ H.Le H' ∧ G' = [.row 9 1 6 (allN.map Value.string)] := by
 refine CallO.of_body tab Tryz.func59 rfl (nt := Tryz.f59.ntmps) rfl (by kernel_rfl) ?_
 (conv => whnf)
 refine ⟨by decide, .inl ?_⟩
 intro g H2 hle hrd
 (conv => whnf)
 refine WS.nilRow 1 9 1 rfl ?_
 (conv => whnf)
 generalize hA : (some ⟨g, 0, none⟩ : Option Addr) = A at *
 have hv : VAt H2 A 6 sfxN := by
  refine ⟨rfl, ?_, ?_⟩
  ·intro e
   rw [← hA] at e
   cases e
  ·intro a e
   rw [← e]
   exact hrd
 refine WS.loop (fun k' F H3 G => ∃ i : Nat, i ≤ 6 ∧ k' = 6 - i ∧ F = [(1, .si (.ce (.self 0))), (4, pv (.slice A 6 6)), (5, pv (.int .i64 6)), (6, pv (.int .i64 i))] ∧ H2.Le H3 ∧ G = [.row 9 1 i ((allN.take i).map Value.string)]) 7 ?_ ?_
 ·refine ⟨6, by omega, _, _, [0], ⟨0, by omega, rfl, rfl, .refl _, rfl⟩, ?_⟩
  exact ⟨rfl, ⟨rfl, trivial⟩, rfl, rfl, rfl, rfl, trivial⟩
 rintro k' F H3 G hle3 ⟨i, hi, rfl, rfl, hle4, rfl⟩
 refine codeL.go tab ?_
 (conv => whnf)
 refine br.of (fun h7 => ?_) (fun h7 => ?_) <;> (conv => whnf)
 ·have h7 := of_decide_eq_true h7
  obtain ⟨x, hx, hfx, hsz⟩ : ∃ x : ByteArray, sfxN[i]? = some (.string x) ∧ allN[i]? = some (frontB ++ x) ∧ x.size ≤ 100 := by
   obtain rfl | rfl | rfl | rfl | rfl | rfl : i = 0 ∨ i = 1 ∨ i = 2 ∨ i = 3 ∨ i = 4 ∨ i = 5 := by omega
   all_goals exact ⟨_, rfl, by decide +kernel, by decide +kernel⟩
  have htake : (allN.take (i + 1)).map Value.string = (allN.take i).map Value.string ++ [.string (frontB ++ x)] := by rw [List.take_add_one, hfx, List.map_append]; rfl
  have hl : ((allN.take i).map Value.string).length = i := by rw [List.length_map, List.length_take]; show min i 6 = i; omega
  refine ⟨⟨by omega, by omega⟩, hv.addr (by decide), ?_⟩
  (conv => whnf)
  refine ⟨_, (hv.mono hle4).get hx (by show (i : Int).toNat * 1 = i; omega), ?_⟩
  (conv => whnf)
  have hfs : frontB.size ≤ 40 := by decide
  refine ⟨by show frontB.size + x.size ≤ _; omega, ?_⟩
  (conv => whnf)
  refine ⟨by decide, .inl ?_⟩
  intro ga H5 hle5 hrd2
  (conv => whnf)
  refine ⟨_, rfl, hrd2, fun u hu => by rcases List.mem_singleton.1 hu with rfl; rfl, ?_⟩
  (conv => whnf)
  refine ⟨by show (i + 1) * 17 ≤ _; omega, ?_⟩
  (conv => whnf)
  rw [wrap64 (x := (i : Int) + 1) (by omega) (by omega)]
  refine ⟨6 - (i + 1), by omega, _, _, [1], ⟨i + 1, by omega, rfl, rfl, hle4.trans hle5, rfl⟩, ?_⟩
  refine ⟨rfl, ⟨?_, trivial⟩, rfl, rfl, rfl, rfl, trivial⟩
  rw [htake]; rfl
 ·have h7 := of_decide_eq_false h7
  obtain rfl : i = 6 := by omega
  exact ⟨rfl, hle.trans hle4, rfl⟩
theorem names_ (H : Hp) : CallO Tryz.prog 59 [] H [] fun e H' G' => RetV (bL allN) e H' ∧ H.Le H' ∧ G' = [] := by
 refine CallO.sub (CallO.frz (K := fun e H' G' => RetV (bL allN) e H' ∧ H.Le H' ∧ G' = [.dead]) (names0 H) ?_) ?_
 ·rintro e H' G' hle ⟨rfl, hle1, rfl⟩
  refine ⟨0, 9, 1, _, _, rfl, fun h0 => absurd h0 (by decide), fun x H2 hle2 hfr => ?_⟩
  obtain ⟨B, cc, rfl, hv⟩ := VAt.of_frozen (by simp [allN]) hfr
  exact ⟨⟨B, _, cc, rfl, by rw [stC_bL]; exact hv⟩, hle1.trans hle2, rfl⟩
 ·rintro e H' G' hle ⟨⟨B, m, cc, rfl, hv⟩, hle1, rfl⟩
  exact ⟨_, [], [], rfl, trivial, rfl, ⟨B, m, cc, rfl, hv⟩, hle1, rfl⟩
theorem name_ (k : Int) (h0 : -9223372036854775808 ≤ k) (h1 : k ≤ 9223372036854775807) (H : Hp) : CallO Tryz.prog 27 [pv (.int .i64 k)] H [] fun e H' G' => e = .ret (.tu [.ce (.val (.string (nameK k))), .ce (.val (.bool (decide (1 ≤ k) && decide (k ≤ 6))))]) ∧ H.Le H' ∧ G' = [] := by
 unfold nameK
 refine CallO.of_body tab Tryz.func27 rfl (nt := Tryz.f27.ntmps) rfl (by kernel_rfl) ?_
 (conv => whnf)
 refine br.of (fun h2 => ?_) (fun h2 => ?_) <;> (conv => whnf)
 ·have h2 := of_decide_eq_true h2
  rw [if_neg (by omega), decide_eq_false (show ¬ 1 ≤ k by omega), Bool.false_and]
  exact ⟨rfl, .refl _, rfl⟩
 have h2 := of_decide_eq_false h2
 rw [decide_eq_true (show 1 ≤ k by omega), Bool.true_and]
 refine br.of (fun h3 => ?_) (fun h3 => ?_) <;> (conv => whnf)
 ·have h3 := of_decide_eq_true h3
  rw [if_neg (by omega), decide_eq_false (show ¬ k ≤ 6 by omega)]
  exact ⟨rfl, .refl _, rfl⟩
 have h3 := of_decide_eq_false h3
 rw [if_pos (by omega), decide_eq_true (show k ≤ 6 by omega)]
 refine ⟨⟨_, Tryz.func59, rfl, by kernel_rfl⟩, CallS.use (names_ H) [] rfl rfl trivial ?_⟩
 rintro e H2 G' hle ⟨⟨B, m, cc, rfl, hv⟩, hle1, rfl⟩
 have hm : m = 6 := by have := hv.1; rw [stC_len] at this; exact this
 subst hm
 rw [stC_bL] at hv
 (conv => whnf)
 rw [wrap64 (x := k - 1) (by omega) (by omega)]
 refine ⟨⟨by omega, by omega⟩, hv.addr (by decide), ?_⟩
 (conv => whnf)
 have hget : (allN.map Value.string)[(k - 1).toNat]? = some (.string (allN.getD (k - 1).toNat ⟨#[]⟩)) := by
  have : (k - 1).toNat < allN.length := by show _ < 6; omega
  rw [List.getElem?_map, List.getD_eq_getElem?_getD, List.getElem?_eq_getElem this]; rfl
 refine ⟨_, hv.get hget (by show (k - 1).toNat * 1 = _; omega), ?_⟩
 (conv => whnf)
 exact ⟨rfl, hle1, rfl⟩
def ixT (s : ByteArray) : List ByteArray → Int
 | [] => -1
 | t :: r => if s = t then 0 else if ixT s r < 0 then -1 else ixT s r + 1
theorem ixT_ge (s : ByteArray) : ∀ l, -1 ≤ ixT s l ∧ ixT s l < l.length
 | [] => ⟨by simp [ixT], by simp [ixT]⟩
 | t :: r => by
  obtain ⟨h1, h2⟩ := ixT_ge s r
  unfold ixT
  simp only [List.length_cons]
  split
  ·omega
  ·split <;> omega
theorem ixT_front (s : ByteArray) : ∀ (l r : List ByteArray), (∀ t ∈ l, s ≠ t) → ixT s (l ++ r) = if ixT s r < 0 then -1 else ixT s r + l.length
 | [], r, _ => by
  have := ixT_ge s r
  simp only [List.nil_append, List.length_nil]
  split <;> omega
 | t :: l, r, h => by
  have h1 := ixT_front s l r (fun t ht => h t (by simp [ht]))
  have := ixT_ge s r
  simp only [List.cons_append, ixT]
  rw [if_neg (h t (by simp)), h1]
  simp only [List.length_cons]
  by_cases h0 : ixT s r < 0
  ·rw [if_pos h0, if_pos (by omega), if_pos h0]
  ·rw [if_neg h0, if_neg (by omega)]; omega
theorem index_ (s : ByteArray) (L : List ByteArray) (hL : L.length ≤ 1000000) (B : Option Addr) (cc : Nat) (H : Hp) (hv : VAt H B L.length (stC (bL L))) : CallO Tryz.prog 111 [pv (.slice B L.length cc), pv (.string s)] H [] fun e H' G' => e = .ret (pv (.int .i64 (ixT s L))) ∧ H' = H ∧ G' = [] := by
 rw [stC_bL] at hv
 refine CallO.of_body tab Tryz.func111 rfl (nt := Tryz.f111.ntmps) rfl (by kernel_rfl) ?_
 (conv => whnf)
 refine WS.loop (fun k' F H3 G => ∃ i : Nat, i ≤ L.length ∧ (∀ t ∈ L.take i, s ≠ t) ∧ k' = L.length - i ∧ F = [(0, pv (.slice B L.length cc)), (1, pv (.string s)), (7, pv (.int .i64 L.length)), (8, pv (.int .i64 i))] ∧ H3 = H ∧ G = []) (L.length + 1) ?_ ?_
 ·refine ⟨L.length, by omega, _, _, [], ⟨0, by omega, fun t ht => by simp at ht, rfl, rfl, rfl, rfl⟩, ?_⟩
  exact ⟨rfl, trivial, rfl, rfl, rfl, rfl, trivial⟩
 rintro k' F H3 G hle3 ⟨i, hi, hno, rfl, rfl, rfl, rfl⟩
 refine codeL.go tab ?_
 (conv => whnf)
 refine br.of (fun h7 => ?_) (fun h7 => ?_) <;> (conv => whnf)
 ·have h7 := of_decide_eq_true h7
  have hil : i < L.length := by omega
  have hget : (L.map Value.string)[i]? = some (.string (L[i]'hil)) := by simp [hil]
  have hdr : L = L.take i ++ L[i]'hil :: L.drop (i + 1) := by rw [← List.drop_eq_getElem_cons hil, List.take_append_drop]
  have htk : L.take (i + 1) = L.take i ++ [L[i]'hil] := by rw [List.take_add_one, List.getElem?_eq_getElem hil]; rfl
  generalize L[i]'hil = t at hget hdr htk
  refine ⟨⟨by omega, by omega⟩, hv.addr (by omega), ?_⟩
  (conv => whnf)
  refine ⟨_, hv.get hget (by show (i : Int).toNat * 1 = i; omega), ?_⟩
  (conv => whnf)
  refine br.of (fun h8 => ?_) (fun h8 => ?_) <;> (conv => whnf)
  ·have h8 := (strEq_iff ..).1 h8
   refine ⟨?_, rfl, rfl⟩
   have : ixT s L = i := by
    rw [hdr, ixT_front s _ _ hno]
    have : ixT s (t :: L.drop (i + 1)) = 0 := by unfold ixT; rw [if_pos h8]
    rw [this, if_neg (by omega), List.length_take]
    omega
   rw [this]; rfl
  ·have h8 : s ≠ t := fun h => by rw [h, str_refl] at h8; cases h8
   rw [wrap64 (x := (i : Int) + 1) (by omega) (by omega)]
   refine ⟨L.length - (i + 1), by omega, _, _, [], ⟨i + 1, by omega, fun u hu => ?_, rfl, rfl, rfl, rfl⟩, ?_⟩
   ·rw [htk] at hu
    rcases List.mem_append.1 hu with hu | hu
    ·exact hno u hu
    ·rw [List.mem_singleton.1 hu]; exact h8
   ·exact ⟨rfl, trivial, rfl, rfl, rfl, rfl, trivial⟩
 ·have h7 := of_decide_eq_false h7
  obtain rfl : i = L.length := by omega
  rw [List.take_length] at hno
  refine ⟨?_, rfl, rfl⟩
  have : ixT s L = -1 := by
   have := ixT_front s L [] hno
   rw [List.append_nil] at this
   rw [this]
   simp [ixT]
  rw [this]; rfl
theorem kind_ix (s : ByteArray) : kindN s = ixT s allN + 1 ∧ (decide (ixT s allN ≥ 0) = !(kindN s == 0)) := by
 unfold kindN allN
 simp only [ixT]
 repeat' split
 all_goals first | exact ⟨rfl, rfl⟩ | omega | (constructor <;> simp_all)
theorem kind_ (s : ByteArray) (H : Hp) : CallO Tryz.prog 80 [pv (.string s)] H [] fun e H' G' => e = .ret (.tu [.ce (.val (.int .i64 (kindN s))), .ce (.val (.bool (!(kindN s == 0))))]) ∧ H.Le H' ∧ G' = [] := by
 obtain ⟨hk1, hk2⟩ := kind_ix s
 obtain ⟨g1, g2⟩ := ixT_ge s allN
 have g3 : allN.length = 6 := rfl
 rw [← hk2, hk1]
 clear hk1 hk2
 refine CallO.of_body tab Tryz.func80 rfl (nt := Tryz.f80.ntmps) rfl (by kernel_rfl) ?_
 (conv => whnf)
 refine ⟨⟨_, Tryz.func59, rfl, by kernel_rfl⟩, CallS.use (names_ H) [] rfl rfl trivial ?_⟩
 rintro e H2 G' hle ⟨⟨B, m, cc, rfl, hv⟩, hle1, rfl⟩
 have hm : m = allN.length := by have := hv.1; rw [stC_len] at this; exact this
 subst hm
 (conv => whnf)
 refine ⟨⟨_, Tryz.func111, rfl, by kernel_rfl⟩, CallS.use (index_ s allN (by decide) B cc H2 hv) [] rfl rfl trivial ?_⟩
 rintro e H3 G' hle3 ⟨rfl, rfl, rfl⟩
 generalize ixT s allN = i at *
 (conv => whnf)
 rw [wrap64 (x := i + 1) (by omega) (by omega)]
 exact ⟨rfl, hle1, rfl⟩
end Go.Kx.Se
namespace Go.Kx.Se
open Go.Proofs Go.Kx Go.RowKit Go.Kx.Js Go.Kx.Pr Go.Kx.Rt Go.Kx.Ob Go.Kx.Wo Go.Kx.Cl Go.Kx.Pa Go.Kx.Su
set_option maxRecDepth 20000
set_option linter.unusedSimpArgs false
abbrev cs10 (a b c : ByteArray) (n : Int) (t f i o : ByteArray) (k : Int) (r : ByteArray) : List SC := [.val (.string a), .val (.string b), .val (.string c), .val (.int .i64 n), .val (.string t), .val (.string f), .val (.string i), .val (.string o), .val (.int .i64 k), .val (.string r)]
def agC (c : Clm) : SV := .si (.ag (cs10 c.iss c.jti c.aud c.iat c.txn c.sub.fmt c.sub.id c.sub.own c.kind c.reason))
theorem right0 (a b c : ByteArray) (n : Int) (t f i o : ByteArray) (k : Int) (r : ByteArray) (hk : -9223372036854775808 ≤ k ∧ k ≤ 9223372036854775807) (H : Hp) :
  CallO Tryz.prog 11 [.si (.ag (cs10 a b c n t f i o k r))] H [] fun e H' G' => e = .ret (pv (.bool (clRight ⟨a, b, c, n, t, ⟨f, i, o⟩, k, r⟩))) ∧ H.Le H' ∧ G' = [] := by
 unfold clRight
 dsimp only
 refine CallO.of_body tab Tryz.func11 rfl (nt := Tryz.f11.ntmps) rfl (by kernel_rfl) ?_
 (conv => whnf)
 refine ⟨⟨_, Tryz.func27, rfl, by kernel_rfl⟩, CallS.use (name_ k hk.1 hk.2 H) [] rfl rfl trivial ?_⟩
 rintro e H1 G' hle1 ⟨rfl, hle1', rfl⟩
 generalize hb : (decide (1 ≤ k) && decide (k ≤ 6)) = b0
 cases b0
 all_goals (conv => whnf)
 ·exact ⟨rfl, hle1, rfl⟩
 refine ⟨⟨_, Tryz.func33, rfl, by kernel_rfl⟩, CallS.use (setWord a _) [] rfl rfl trivial ?_⟩
 rintro e H2 G' hle2 ⟨rfl, rfl⟩
 have hle2 := hle1.trans hle2
 cases Wo.wordP 256 a
 all_goals (conv => whnf)
 ·exact ⟨rfl, hle2, rfl⟩
 refine ⟨⟨_, Tryz.func33, rfl, by kernel_rfl⟩, CallS.use (setWord b _) [] rfl rfl trivial ?_⟩
 rintro e H3 G' hle3 ⟨rfl, rfl⟩
 have hle3 := hle2.trans hle3
 cases Wo.wordP 256 b
 all_goals (conv => whnf)
 ·exact ⟨rfl, hle3, rfl⟩
 refine ⟨⟨_, Tryz.func33, rfl, by kernel_rfl⟩, CallS.use (setWord c _) [] rfl rfl trivial ?_⟩
 rintro e H4 G' hle4 ⟨rfl, rfl⟩
 have hle4 := hle3.trans hle4
 cases Wo.wordP 256 c
 all_goals (conv => whnf)
 ·exact ⟨rfl, hle4, rfl⟩
 refine ⟨⟨_, Tryz.func33, rfl, by kernel_rfl⟩, CallS.use (setWord t _) [] rfl rfl trivial ?_⟩
 rintro e H5 G' hle5 ⟨rfl, rfl⟩
 have hle5 := hle4.trans hle5
 cases Wo.wordP 256 t
 all_goals (conv => whnf)
 ·exact ⟨rfl, hle5, rfl⟩
 refine br.of (fun h1 => ?_) (fun h1 => ?_) <;> (conv => whnf)
 rotate_left
 ·have h1 := of_decide_eq_false h1
  rw [decide_eq_false (show ¬ 0 ≤ n by omega)]
  exact ⟨rfl, hle5, rfl⟩
 have h1 := of_decide_eq_true h1
 rw [decide_eq_true (show 0 ≤ n by omega)]
 refine br.of (fun h2 => ?_) (fun h2 => ?_) <;> (conv => whnf)
 rotate_left
 ·have h2 := of_decide_eq_false h2
  rw [decide_eq_false (show ¬ n ≤ 1099511627776 by omega)]
  exact ⟨rfl, hle5, rfl⟩
 have h2 := of_decide_eq_true h2
 rw [decide_eq_true (show n ≤ 1099511627776 by omega)]
 refine ⟨⟨_, Tryz.func34, rfl, by kernel_rfl⟩, CallS.use (Su.right0 f i o _) [] rfl rfl trivial ?_⟩
 rintro e H6 G' hle6 ⟨rfl, rfl⟩
 have hle6 := hle5.trans hle6
 cases subRight ⟨f, i, o⟩
 all_goals (conv => whnf)
 ·exact ⟨rfl, hle6, rfl⟩
 refine br.of (fun h3 => ?_) (fun h3 => ?_) <;> (conv => whnf)
 ·have h3' : strEq r ⟨#[]⟩ = true := h3
  rw [h3']
  exact ⟨rfl, hle6, rfl⟩
 have h3' : strEq r ⟨#[]⟩ = false := h3
 rw [h3']
 refine ⟨⟨_, Tryz.func33, rfl, by kernel_rfl⟩, CallS.use (setWord r _) [] rfl rfl trivial ?_⟩
 rintro e H7 G' hle7 ⟨rfl, rfl⟩
 (conv => whnf)
 exact ⟨rfl, hle6.trans hle7, rfl⟩
theorem member_ (s : ByteArray) (k : Int) (y : Bool) (t : ByteArray) (A : Option Addr) (n c : Nat) (B : Option Addr) (m d : Nat) (H : Hp) :
  CallO Tryz.prog 30 [pv (.string s), agJ k y t A n c B m d] H [] fun e H' G' => e = .ret (.si (.ag [.val (.string s), .val (.int .i64 k), .val (.bool y), .val (.string t), .val (.slice A n c), .val (.slice B m d)])) ∧ H' = H ∧ G' = [] := by
 refine CallO.of_body tab Tryz.func30 rfl (nt := Tryz.f30.ntmps) rfl (by kernel_rfl) ?_
 (conv => whnf)
 exact ⟨rfl, rfl, rfl⟩
theorem events0 (a b c : ByteArray) (n : Int) (t f i o : ByteArray) (k : Int) (r : ByteArray) (hk : 1 ≤ k ∧ k ≤ 6) (H : Hp) :
  CallO Tryz.prog 32 [.si (.ag (cs10 a b c n t f i o k r))] H [] fun e H' G' => (∃ k' y' t' A' n' c' B' m' d', e = .ret (agJ k' y' t' A' n' c' B' m' d') ∧ JAt H' (evJ ⟨a, b, c, n, t, ⟨f, i, o⟩, k, r⟩) [.int .i64 k', .bool y', .string t', .slice A' n' c', .slice B' m' d']) ∧ H.Le H' ∧ G' = [] := by
 refine CallO.of_body tab Tryz.func32 rfl (nt := Tryz.f32.ntmps) rfl (by kernel_rfl) ?_
 (conv => whnf)
 refine br.of (fun h1 => ?_) (fun h1 => ?_) <;> (conv => whnf)
 ·refine ⟨⟨_, Tryz.func31, rfl, by kernel_rfl⟩, CallS.use (Ob.str_ r _) [] rfl rfl trivial ?_⟩
  rintro e H2 G' hle2 ⟨rfl, rfl, rfl⟩
  (conv => whnf)
  refine ⟨⟨_, Tryz.func30, rfl, by kernel_rfl⟩, CallS.use (member_ sReason 4 false r none 0 0 none 0 0 _) [] rfl rfl trivial ?_⟩
  rintro e H3 G' hle3 ⟨rfl, rfl, rfl⟩
  (conv => whnf)
  refine ⟨by decide, .inl ?_⟩
  intro g H4 hle4 hrd
  (conv => whnf)
  have hone : ∀ u ∈ [Value.string sReason, .int .i64 4, .bool false, .string r, .slice none 0 0, .slice none 0 0], u.oneCell' = true := fun u hu => by simp only [List.mem_cons, List.mem_nil_iff, or_false] at hu; rcases hu with rfl | rfl | rfl | rfl | rfl | rfl <;> rfl
  refine ⟨_, rfl, hrd, hone, ?_⟩
  (conv => whnf)
  refine ⟨by decide, ?_⟩
  (conv => whnf)
  have hr : ¬ strEq r ⟨#[]⟩ = true := by simpa using h1
  have hev : evMs ⟨a, b, c, n, t, ⟨f, i, o⟩, k, r⟩ = [(sReason, strJ r)] := by unfold evMs; dsimp only; rw [if_neg hr]
  refine ⟨⟨_, Tryz.func27, rfl, by kernel_rfl⟩, CallS.use (name_ k (by omega) (by omega) _) [] rfl rfl trivial ?_⟩
  rintro e H5 G' hle5 ⟨rfl, hle5', rfl⟩
  (conv => whnf)
  refine ⟨⟨_, Tryz.func18, rfl, by kernel_rfl⟩, CallS.use (objO [(sReason, strJ r)] [.string sReason, .int .i64 4, .bool false, .string r, .slice none 0 0, .slice none 0 0] Nat.zero_lt_one (Nat.le_of_ble_eq_true rfl) _ (.cons (.bare 4 false r) .nil)) [2] rfl rfl ⟨rfl, trivial⟩ ?_⟩
  rintro e H6 G' hle6 ⟨⟨B6, d6, rfl, hj6⟩, rfl⟩
  (conv => whnf)
  have hin0 : JAt H6 (objJ (evMs ⟨a, b, c, n, t, ⟨f, i, o⟩, k, r⟩)) [.int .i64 6, .bool false, .string ⟨#[]⟩, .slice none 0 0, .slice B6 1 d6] := by rw [hev]; exact hj6
  refine ⟨⟨_, Tryz.func30, rfl, by kernel_rfl⟩, CallS.use (member_ (nameK k) 6 false ⟨#[]⟩ none 0 0 B6 1 d6 _) [] rfl rfl trivial ?_⟩
  rintro e H7 G' hle7 ⟨rfl, rfl, rfl⟩
  (conv => whnf)
  refine ⟨by decide, .inl ?_⟩
  intro g2 H8 hle8 hrd2
  (conv => whnf)
  have hms8 : MsAt H8 [(nameK k, objJ (evMs ⟨a, b, c, n, t, ⟨f, i, o⟩, k, r⟩))] [.string (nameK k), .int .i64 6, .bool false, .string ⟨#[]⟩, .slice none 0 0, .slice B6 1 d6] := .cons (hin0.mono hle8) .nil
  refine ⟨⟨_, Tryz.func18, rfl, by kernel_rfl⟩, CallS.use (obj_ [(nameK k, objJ (evMs ⟨a, b, c, n, t, ⟨f, i, o⟩, k, r⟩))] (Nat.le_of_ble_eq_true rfl) (some ⟨g2, 0, none⟩) 1 _ H8 hms8 ⟨fun e => (nomatch e), fun a e => by injection e with e; subst e; exact hrd2⟩ Nat.zero_lt_one) [] rfl rfl trivial ?_⟩
  rintro e H9 G' hle9 ⟨⟨B3, d3, rfl, hj⟩, rfl⟩
  (conv => whnf)
  exact ⟨⟨_, _, _, _, _, _, _, _, _, rfl, hj⟩, ((((hle2.trans hle4).trans hle5).trans hle6).trans hle8).trans hle9, rfl⟩
 ·have hr : strEq r ⟨#[]⟩ = true := by simpa using h1
  have hev : evMs ⟨a, b, c, n, t, ⟨f, i, o⟩, k, r⟩ = [] := by unfold evMs; dsimp only; rw [if_pos hr]
  refine ⟨⟨_, Tryz.func27, rfl, by kernel_rfl⟩, CallS.use (name_ k (by omega) (by omega) _) [] rfl rfl trivial ?_⟩
  rintro e H5 G' hle5 ⟨rfl, hle5', rfl⟩
  (conv => whnf)
  refine ⟨⟨_, Tryz.func18, rfl, by kernel_rfl⟩, CallS.use (objNil _) [] rfl rfl trivial ?_⟩
  rintro e H6 G' hle6 ⟨rfl, rfl, rfl⟩
  (conv => whnf)
  have hin0 : JAt H6 (objJ (evMs ⟨a, b, c, n, t, ⟨f, i, o⟩, k, r⟩)) [.int .i64 6, .bool false, .string ⟨#[]⟩, .slice none 0 0, .slice none 0 0] := by rw [hev]; exact .bare 6 false ⟨#[]⟩
  refine ⟨⟨_, Tryz.func30, rfl, by kernel_rfl⟩, CallS.use (member_ (nameK k) 6 false ⟨#[]⟩ none 0 0 none 0 0 _) [] rfl rfl trivial ?_⟩
  rintro e H7 G' hle7 ⟨rfl, rfl, rfl⟩
  (conv => whnf)
  refine ⟨by decide, .inl ?_⟩
  intro g2 H8 hle8 hrd2
  (conv => whnf)
  have hms8 : MsAt H8 [(nameK k, objJ (evMs ⟨a, b, c, n, t, ⟨f, i, o⟩, k, r⟩))] [.string (nameK k), .int .i64 6, .bool false, .string ⟨#[]⟩, .slice none 0 0, .slice none 0 0] := .cons (hin0.mono hle8) .nil
  refine ⟨⟨_, Tryz.func18, rfl, by kernel_rfl⟩, CallS.use (obj_ [(nameK k, objJ (evMs ⟨a, b, c, n, t, ⟨f, i, o⟩, k, r⟩))] (Nat.le_of_ble_eq_true rfl) (some ⟨g2, 0, none⟩) 1 _ H8 hms8 ⟨fun e => (nomatch e), fun a e => by injection e with e; subst e; exact hrd2⟩ Nat.zero_lt_one) [] rfl rfl trivial ?_⟩
  rintro e H9 G' hle9 ⟨⟨B3, d3, rfl, hj⟩, rfl⟩
  (conv => whnf)
  exact ⟨⟨_, _, _, _, _, _, _, _, _, rfl, hj⟩, (hle5.trans hle8).trans hle9, rfl⟩
end Go.Kx.Se
namespace Go.Kx.Se
open Go.Proofs Go.Kx Go.RowKit Go.Kx.Js Go.Kx.Pr Go.Kx.Rt Go.Kx.Ob Go.Kx.Wo Go.Kx.Cl Go.Kx.Pa Go.Kx.Su
set_option maxRecDepth 20000
set_option linter.unusedSimpArgs false
def valP (c : Clm) : J × Int := if clRight c then (clJ c, 0) else (jNone, 10)
theorem value0 (a b c : ByteArray) (n : Int) (t f i o : ByteArray) (k : Int) (r : ByteArray) (hk : -9223372036854775808 ≤ k ∧ k ≤ 9223372036854775807) (H : Hp) :
  CallO Tryz.prog 10 [.si (.ag (cs10 a b c n t f i o k r))] H [] fun e H' G' => RJ2 (valP ⟨a, b, c, n, t, ⟨f, i, o⟩, k, r⟩) e H' ∧ H.Le H' ∧ G' = [] := by
 have hri := right_iff ⟨a, b, c, n, t, ⟨f, i, o⟩, k, r⟩
 unfold valP
 refine CallO.of_body tab Tryz.func10 rfl (nt := Tryz.f10.ntmps) rfl (by kernel_rfl) ?_
 (conv => whnf)
 refine ⟨⟨_, Tryz.func11, rfl, by kernel_rfl⟩, CallS.use (right0 a b c n t f i o k r hk H) [] rfl rfl trivial ?_⟩
 rintro e H1 G' hle1 ⟨rfl, hle1', rfl⟩
 cases hr : clRight ⟨a, b, c, n, t, ⟨f, i, o⟩, k, r⟩
 all_goals (conv => whnf)
 ·exact ⟨⟨_, _, _, _, _, _, _, _, _, rfl, .bare 0 false ⟨#[]⟩⟩, hle1, rfl⟩
 have hR := hri.1 hr
 have hn0 := hR.iat.1
 have hn1 := hR.iat.2
 have hk0 := hR.kind
 have hsub := hR.sub
 dsimp only at hn0 hn1 hk0 hsub
 have hsv : subValP ⟨f, i, o⟩ = (subJ ⟨f, i, o⟩, 0) := by unfold subValP; rw [hsub]; rfl
 refine ⟨⟨_, Tryz.func29, rfl, by kernel_rfl⟩, CallS.use (Su.value0 f i o H1) [] rfl rfl trivial ?_⟩
 rw [hsv]
 rintro e H2 G' hle2 ⟨⟨k2, y2, t2, A2, n2, c2, B2, m2, d2, rfl, hj2⟩, hle2', rfl⟩
 (conv => whnf)
 refine WS.draw tab mixed (.take 0 (.take 1 (.take 4 (.take 5 (.take 8 (.take 9 (.take 12 (.take 13 (.take 16 (.take 17 (.take 20 (.take 22 (.alt 2 (.alt 3 (.alt 6 (.alt 7 (.alt 10 (.alt 11 (.alt 14 (.alt 15 (.alt 18 (.alt 19 (.alt 21 (.alt 23 (.alt 24 (.alt 25 (.alt 26 (.alt 27 (.take 28 .done) .no) .no) .no) .no) .no) .no) .no) .no) .no) .no) .no) .no) .no) .no) .no) .no))))))))))))) (by kernel_rfl) [1] ?_
 (conv => whnf)
 repeat' (first
  | exact trivial
  | exact rfl
  | exact ⟨rfl, rfl, rfl, trivial⟩
  | exact ⟨_, Tryz.func31, rfl, by kernel_rfl⟩
  | exact ⟨_, Tryz.func19, rfl, by kernel_rfl⟩
  | exact ⟨_, Tryz.func18, rfl, by kernel_rfl⟩
  | exact ⟨_, Tryz.func30, rfl, by kernel_rfl⟩
  | exact ⟨_, Tryz.func32, rfl, by kernel_rfl⟩
  | (refine CallS.use (Ob.str_ _ _) [] rfl rfl trivial ?_; rintro e H6 G' hle7 ⟨rfl, rfl, rfl⟩; (conv => whnf))
  | (refine CallS.use (num_ n (by omega) (by omega) _) [] rfl rfl trivial ?_; rintro e H6 G' hle7 ⟨rfl, rfl, rfl⟩; (conv => whnf))
  | (refine CallS.use (member_ _ _ _ _ _ _ _ _ _ _ _) [] rfl rfl trivial ?_; rintro e H6 G' hle7 ⟨rfl, rfl, rfl⟩; (conv => whnf))
  | (refine CallS.use (events0 a b c n t f i o k r hk0 _) [] rfl rfl trivial ?_; rintro e H6 G' hle7 ⟨⟨k6, y6, t6, A6, n6, c6, B6, m6, d6, rfl, hj6⟩, hle6, rfl⟩; (conv => whnf))
  | exact Nat.le_of_ble_eq_true rfl
  | (refine .inl ?_; intro g H7 hle8 hrd; (conv => whnf))
  | (refine And.intro ?_ ?_ <;> (conv => whnf)))
 have hms : MsAt H7 (clMs ⟨a, b, c, n, t, ⟨f, i, o⟩, k, r⟩) _ := .cons (.bare 4 false a) (.cons (.bare 4 false b) (.cons (.bare 3 false (Lb.itoaB n)) (.cons (.bare 4 false c) (.cons (.bare 4 false t) (.cons (hj2.mono (hle6.trans hle8)) (.cons (hj6.mono hle8) .nil))))))
 have hfin := ((hle1.trans hle2).trans hle6).trans hle8
 refine CallS.use (obj_ (clMs ⟨a, b, c, n, t, ⟨f, i, o⟩, k, r⟩) (Nat.le_of_ble_eq_true rfl) (some ⟨g, 0, none⟩) 7 _ H7 hms ⟨fun e => (nomatch e), fun a e => by injection e with e; subst e; exact hrd⟩ (Nat.zero_lt_succ _)) [] rfl rfl trivial ?_
 rintro e H8 G' hle9 ⟨⟨B8, d8, rfl, hj8⟩, rfl⟩
 (conv => whnf)
 repeat' (first
  | exact trivial
  | exact rfl
  | exact ⟨rfl, trivial, rfl, trivial⟩
  | exact ⟨⟨_, _, _, _, _, _, _, _, _, rfl, hj8⟩, hfin.trans hle9, rfl⟩
  | (refine And.intro ?_ ?_ <;> (conv => whnf)))
theorem value_ (c : Clm) (hk : -9223372036854775808 ≤ c.kind ∧ c.kind ≤ 9223372036854775807) (H : Hp) : CallO Tryz.prog 10 [agC c] H [] fun e H' G' => RJ2 (valP c) e H' ∧ H.Le H' ∧ G' = [] :=
 value0 c.iss c.jti c.aud c.iat c.txn c.sub.fmt c.sub.id c.sub.own c.kind c.reason hk H
end Go.Kx.Se
namespace Go.Kx.Se
open Go.Proofs Go.Kx Go.RowKit Go.Kx.Js Go.Kx.Pr Go.Kx.Rt Go.Kx.Ob Go.Kx.Wo Go.Kx.Cl Go.Kx.Pa Go.Kx.Su
set_option maxRecDepth 20000
set_option linter.unusedSimpArgs false
theorem said_ (j : J) (hl : j.mems.length ≤ 1000000) (s : ByteArray) (k : Int) (y : Bool) (t : ByteArray) (A : Option Addr) (n c : Nat) (B : Option Addr) (m d : Nat) (H : Hp) (hj : JAt H j [.int .i64 k, .bool y, .string t, .slice A n c, .slice B m d]) :
  CallO Tryz.prog 40 [agJ k y t A n c B m d, pv (.string s)] H [] fun e H' G' => e = .ret (pv (.string (said j s))) ∧ H' = H ∧ G' = [] := by
 unfold said
 refine CallO.of_body tab Tryz.func40 rfl (nt := Tryz.f40.ntmps) rfl (by kernel_rfl) ?_
 (conv => whnf)
 refine ⟨⟨_, Tryz.func41, rfl, by kernel_rfl⟩, CallS.use (get_ j k y t A n c B m d s H hj hl) [] rfl rfl trivial ?_⟩
 rintro e H1 G' hle1 ⟨rfl, hg, rfl⟩
 cases hgj : j.get s with
 | none =>
  rw [hgj] at hg
  obtain rfl := hg
  (conv => whnf)
  exact ⟨rfl, rfl, rfl⟩
 | some q =>
  rw [hgj] at hg
  obtain ⟨k2, y2, t2, A2, n2, c2, B2, m2, d2, rfl, hj2⟩ := hg
  obtain ⟨rfl, rfl⟩ : k2 = q.kind ∧ t2 = q.text := by cases hj2; exact ⟨rfl, rfl⟩
  (conv => whnf)
  refine br.of (fun h => ?_) (fun h => ?_) <;> (conv => whnf)
  ·simp only [bne_iff_ne, ne_eq] at h
   dsimp only
   rw [if_neg h]
   exact ⟨rfl, rfl, rfl⟩
  ·simp only [bne_eq_false_iff_eq] at h
   dsimp only
   rw [if_pos h]
   exact ⟨rfl, rfl, rfl⟩
theorem event_ (j : J) (hs : smJ j) (k : Int) (y : Bool) (t : ByteArray) (A : Option Addr) (n c : Nat) (B : Option Addr) (m d : Nat) (H : Hp) (hj : JAt H j [.int .i64 k, .bool y, .string t, .slice A n c, .slice B m d]) :
  CallO Tryz.prog 44 [agJ k y t A n c B m d] H [] fun e H' G' => e = .ret (.tu [.ce (.val (.int .i64 (event j).1)), .ce (.val (.string (event j).2))]) ∧ H.Le H' ∧ G' = [] := by
 cases hj with
 | mk h1 h2 h3 h4 h5 h6 =>
 rename_i js ms xs zs
 have hev : event (.mk k y t js ms) = if k = 6 then (match ms with | [(s, m)] => (kindN s, said m sReason) | _ => (0, ⟨#[]⟩)) else (0, ⟨#[]⟩) := rfl
 rw [hev]
 subst h4
 refine CallO.of_body tab Tryz.func44 rfl (nt := Tryz.f44.ntmps) rfl (by kernel_rfl) ?_
 (conv => whnf)
 refine br.of (fun h7 => ?_) (fun h7 => ?_) <;> (conv => whnf)
 ·simp only [bne_iff_ne, ne_eq] at h7
  rw [if_neg h7]
  exact ⟨rfl, .refl _, rfl⟩
 simp only [bne_eq_false_iff_eq] at h7
 rw [if_pos h7]
 refine br.of (fun h8 => ?_) (fun h8 => ?_) <;> (conv => whnf)
 ·simp only [bne_iff_ne, ne_eq] at h8
  have : (match ms with | [(s, m)] => (kindN s, said m sReason) | _ => ((0 : Int), (⟨#[]⟩ : ByteArray))) = (0, ⟨#[]⟩) := by
   cases ms with
   | nil => rfl
   | cons a r =>
    cases r with
    | nil => exact absurd rfl h8
    | cons b r => rfl
  rw [this]
  exact ⟨rfl, .refl _, rfl⟩
 simp only [bne_eq_false_iff_eq] at h8
 obtain ⟨s, q, rfl⟩ : ∃ s q, ms = [(s, q)] := by
  cases ms with
  | nil => simp at h8
  | cons a r =>
   cases r with
   | nil => exact ⟨a.1, a.2, rfl⟩
   | cons b r => simp at h8; omega
 cases h5 with
 | cons hq hnil =>
 rename_i cs zs'
 cases hnil
 obtain ⟨A2, n2, c2, B2, m2, d2, rfl⟩ := hq.cells
 have hsq : smJ q := (smMs_get hs.2.2.2.2 (i := 0) rfl).2
 have hne0 : (Value.string s :: [Value.int .i64 q.kind, .bool q.yes, .string q.text, .slice A2 n2 c2, .slice B2 m2 d2] ++ []) ≠ [] := by simp
 refine ⟨⟨Int.le_refl _, by show (0 : Int) < 1; decide⟩, h6.addr hne0, ?_⟩
 (conv => whnf)
 refine ⟨h6.addr hne0, ?_⟩
 (conv => whnf)
 have hv6 : VAt H B 6 _ := ⟨rfl, h6.1, h6.2⟩
 refine ⟨_, hv6.get (i := 0) rfl rfl, ?_⟩
 (conv => whnf)
 refine ⟨⟨_, Tryz.func80, rfl, by kernel_rfl⟩, CallS.use (kind_ s H) [] rfl rfl trivial ?_⟩
 rintro e H2 G' hle2 ⟨rfl, hle2', rfl⟩
 (conv => whnf)
 refine ⟨⟨Int.le_refl _, by show (0 : Int) < 1; decide⟩, h6.addr hne0, ?_⟩
 (conv => whnf)
 refine ⟨h6.addr hne0, ?_⟩
 (conv => whnf)
 refine ⟨_, rfl, (h6.mono hle2).cells hne0 (a := 1) (m := 5) rfl rfl, ?_⟩
 (conv => whnf)
 refine ⟨⟨_, Tryz.func40, rfl, by kernel_rfl⟩, CallS.use (said_ q (sm_len hsq) sReason q.kind q.yes q.text A2 n2 c2 B2 m2 d2 H2 (hq.mono hle2)) [] rfl rfl trivial ?_⟩
 rintro e H3 G' hle3 ⟨rfl, rfl, rfl⟩
 (conv => whnf)
 exact ⟨rfl, hle2, rfl⟩
end Go.Kx.Se
