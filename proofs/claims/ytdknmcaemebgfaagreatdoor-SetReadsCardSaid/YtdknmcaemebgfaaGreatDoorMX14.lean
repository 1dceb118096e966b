/- Tokens: what they are, plainly. No condition of its own. -/
import Derived.Test.YtdknmcaemebgfaaGreatDoorMX13
namespace Go.Kx.Jw
open Go.Proofs Go.Kx Go.RowKit Go.Kx.Js Go.Kx.Pr Go.Kx.Rt Go.Kx.Ob Go.Kx.Wo Go.Kx.Ro Go.Kx.Pa Go.Kx.En Go.Kx.Cl Go.Kx.Sha
set_option maxRecDepth 20000
set_option linter.unusedSimpArgs false
abbrev sAlg := (⟨#[97, 108, 103]⟩ : ByteArray)
abbrev sKid := (⟨#[107, 105, 100]⟩ : ByteArray)
abbrev sTyp := (⟨#[116, 121, 112]⟩ : ByteArray)
abbrev sCrit := (⟨#[99, 114, 105, 116]⟩ : ByteArray)
abbrev sHs := (⟨#[72, 83, 50, 53, 54]⟩ : ByteArray)
def headJ (kid typ : ByteArray) : J := objJ [(sAlg, strJ sHs), (sKid, strJ kid), (sTyp, strJ typ)]
def signedP (kid typ : ByteArray) (payload : List UInt8) : List UInt8 := encP (wrJ (headJ kid typ)) ++ 46 :: encP payload
def tokenP (kid typ : ByteArray) (payload key : List UInt8) : List UInt8 := signedP kid typ payload ++ 46 :: encP (hmac key (signedP kid typ payload))
def signP (kid typ : ByteArray) (payload key : List UInt8) : ByteArray × Int :=
 if (wordP 40 kid && wordP 40 typ) = false then (⟨#[]⟩, 10) else if payload.length > 16384 then (⟨#[]⟩, 11) else if key.length < 16 then (⟨#[]⟩, 41) else (⟨(tokenP kid typ payload key).toArray⟩, 0)
structure Tok where
 kid : ByteArray
 typ : ByteArray
 payload : List UInt8
 signed : List UInt8
 tag : List UInt8
def wordJ (j : J) (s : ByteArray) : Option ByteArray := match j.get s with
 | some m => if m.kind = 4 ∧ wordP 40 m.text = true then some m.text else none
 | none => none
def methodP (j : J) : Bool := (match j.get sAlg with
 | some m => (m.kind == 4) && strEq m.text sHs
 | none => false) && (j.get sCrit).isNone
def tok3 (a b c : List UInt8) : Except Int Tok :=
 match decP ⟨a.toArray⟩, decP ⟨b.toArray⟩, decP ⟨c.toArray⟩ with
 | some h, some p, some t =>
  if (parseP h 4).2.1 = 0 ∧ (parseP h 4).1.kind = 6 then
   match wordJ (parseP h 4).1 sKid, wordJ (parseP h 4).1 sTyp with
   | some kid, some typ => if p.length ≤ 16384 ∧ t.length = 32 then (if methodP (parseP h 4).1 then .ok ⟨kid, typ, p, a ++ 46 :: b, t⟩ else .error 42) else .error 10
   | _, _ => .error 10
  else .error 10
 | _, _, _ => .error 10
def partsP (s : ByteArray) : Except Int Tok :=
 if s.size > 49152 then .error 11 else
 match partsL 46 [] s.data.toList with
 | [a, b, c] => tok3 a b c
 | _ => .error 10
def verifyP (s : ByteArray) (key : List UInt8) : Except Int Tok :=
 match partsP s with
 | .error e => .error e
 | .ok t => if key.length < 16 then .error 41 else if t.tag = hmac key t.signed then .ok t else .error 40
theorem partsL_last (c : UInt8) : ∀ (l cur : List UInt8), c ∉ l → partsL c cur l = [cur ++ l]
 | [], cur, _ => by simp [partsL]
 | x :: r, cur, h => by
  simp only [List.mem_cons, not_or] at h
  unfold partsL
  rw [if_neg (Ne.symm h.1), partsL_last c r _ h.2]
  simp
theorem partsL_more (c : UInt8) (r : List UInt8) : ∀ (l cur : List UInt8), c ∉ l → partsL c cur (l ++ c :: r) = (cur ++ l) :: partsL c [] r
 | [], cur, _ => by
  show partsL c cur (c :: r) = _
  rw [partsL, if_pos rfl, List.append_nil]
 | x :: l, cur, h => by
  simp only [List.mem_cons, not_or] at h
  show partsL c cur (x :: (l ++ c :: r)) = _
  rw [partsL, if_neg (Ne.symm h.1), partsL_more c r l _ h.2]
  simp
theorem encP_len : ∀ (k : Nat) (l : List UInt8), l.length < k → (encP l).length ≤ 2 * l.length
 | 0, l, h => by omega
 | k + 1, [], _ => by simp [encP_nil]
 | k + 1, [a], _ => by rw [encP_1]; simp [four]
 | k + 1, [a, b], _ => by rw [encP_2]; simp [four]
 | k + 1, a :: b :: c :: l, h => by
  have := encP_len k l (by simp only [List.length_cons] at h; omega)
  rw [encP_3]
  simp only [List.length_append, List.length_cons, four, List.length_nil]
  omega
theorem esc_len : ∀ l : List UInt8, (l.flatMap escB).length ≤ 6 * l.length
 | [] => by simp
 | c :: l => by
  have := esc_len l
  have h1 : ∀ n : Fin 256, (escB (UInt8.ofNat n.val)).length ≤ 6 := by decide +kernel
  have h2 := h1 ⟨c.toNat, c.toNat_lt⟩
  simp only [UInt8.ofNat_toNat] at h2
  simp only [List.flatMap_cons, List.length_append, List.length_cons]
  omega
theorem quote_len (l : List UInt8) : (quoteB l).length ≤ 6 * l.length + 2 := by
 have := esc_len l
 unfold quoteB
 simp only [List.length_append, List.length_cons, List.length_nil]
 omega
theorem wr_str (s : ByteArray) : wrJ (strJ s) = quoteB s.data.toList := by unfold strJ; simp [wrJ]
theorem word_size {m : Nat} {s : ByteArray} (h : wordP m s = true) : s.size ≤ m ∧ toldP s = true ∧ s ≠ ⟨#[]⟩ := by
 unfold Wo.wordP at h
 simp only [Bool.and_eq_true, decide_eq_true_eq, Bool.not_eq_true', strEq_false] at h
 exact ⟨h.2.1, h.2.2, h.1⟩
theorem word_told {m : Nat} {s : ByteArray} (h : wordP m s = true) : Ro.Told s.data.toList := (toldP_iff s).1 (word_size h).2.1
theorem dl (s : ByteArray) : s.data.toList.length = s.size := by rw [Array.length_toList]; rfl
theorem head_wr (kid typ : ByteArray) : wrJ (headJ kid typ) = [123] ++ quoteB sAlg.data.toList ++ [58] ++ quoteB sHs.data.toList ++ [44] ++ quoteB sKid.data.toList ++ [58] ++ quoteB kid.data.toList ++ [44] ++ quoteB sTyp.data.toList ++ [58] ++ quoteB typ.data.toList ++ [125] := by
 unfold headJ objJ
 simp only [wrJ, wrMs, wr_str]
 simp [List.append_assoc]
theorem head_told {kid typ : ByteArray} (h1 : wordP 40 kid = true) (h2 : wordP 40 typ = true) : Ro.Told (wrJ (headJ kid typ)) := by
 have a1 := (word_told h1).quote
 have a2 := (word_told h2).quote
 rw [head_wr]
 have asc : ∀ l : List UInt8, l.all (fun c => decide (c.toNat < 128)) = true → Ro.Told l := fun l h => .ascii h
 refine Ro.Told.append (Ro.Told.append (Ro.Told.append (Ro.Told.append (Ro.Told.append (Ro.Told.append ?_ a1) (asc _ (by decide))) (asc _ (by decide +kernel))) (asc _ (by decide))) a2) (asc _ (by decide))
 exact asc _ (by decide +kernel)
theorem head_len {kid typ : ByteArray} (h1 : wordP 40 kid = true) (h2 : wordP 40 typ = true) : (wrJ (headJ kid typ)).length ≤ 600 := by
 have b1 := quote_len kid.data.toList
 have b2 := quote_len typ.data.toList
 rw [dl] at b1 b2
 have c1 := (word_size h1).1
 have c2 := (word_size h2).1
 have e1 : (quoteB sAlg.data.toList).length = 5 := by decide +kernel
 have e2 : (quoteB sHs.data.toList).length = 7 := by decide +kernel
 have e3 : (quoteB sKid.data.toList).length = 5 := by decide +kernel
 have e4 : (quoteB sTyp.data.toList).length = 5 := by decide +kernel
 rw [head_wr]
 simp only [List.length_append, List.length_cons, List.length_nil, e1, e2, e3, e4]
 omega
theorem head_pl (kid typ : ByteArray) : Pl 4 (headJ kid typ) := by
 refine .obj _ (fun i s j h => ?_) ?_
 ·rcases i with _ | _ | _ | i
  ·simp at h; obtain ⟨_, rfl⟩ := h; exact .str _
  ·simp at h; obtain ⟨_, rfl⟩ := h; exact .str _
  ·simp at h; obtain ⟨_, rfl⟩ := h; exact .str _
  ·simp at h
 ·show ([sAlg, sKid, sTyp] : List ByteArray).Nodup
  decide
theorem head_parse {kid typ : ByteArray} (h1 : wordP 40 kid = true) (h2 : wordP 40 typ = true) : parseP (wrJ (headJ kid typ)) 4 = (headJ kid typ, 0, 0) :=
 parse_read (head_pl kid typ) (by decide) (by decide) (by have := head_len h1 h2; omega) (head_told h1 h2)
theorem token_read {kid typ : ByteArray} {payload key : List UInt8} (h1 : wordP 40 kid = true) (h2 : wordP 40 typ = true) (h3 : payload.length ≤ 16384) :
  partsP ⟨(tokenP kid typ payload key).toArray⟩ = .ok ⟨kid, typ, payload, signedP kid typ payload, hmac key (signedP kid typ payload)⟩ := by
 have l1 := encP_len _ (wrJ (headJ kid typ)) (Nat.lt_succ_self _)
 have l2 := encP_len _ payload (Nat.lt_succ_self _)
 have l3 := encP_len _ (hmac key (signedP kid typ payload)) (Nat.lt_succ_self _)
 have l4 : (hmac key (signedP kid typ payload)).length = 32 := sha_length _
 have l5 := head_len h1 h2
 have hsz : (⟨(tokenP kid typ payload key).toArray⟩ : ByteArray).size ≤ 49152 := by
  show (tokenP kid typ payload key).toArray.size ≤ _
  rw [List.size_toArray]
  unfold tokenP
  rw [List.length_append, List.length_cons]
  have : (signedP kid typ payload).length = (encP (wrJ (headJ kid typ))).length + ((encP payload).length + 1) := by unfold signedP; rw [List.length_append, List.length_cons]
  omega
 unfold partsP
 rw [if_neg (by omega)]
 have hp : partsL 46 [] (⟨(tokenP kid typ payload key).toArray⟩ : ByteArray).data.toList = [encP (wrJ (headJ kid typ)), encP payload, encP (hmac key (signedP kid typ payload))] := by
  show partsL 46 [] (tokenP kid typ payload key) = _
  unfold tokenP
  conv => lhs; unfold signedP
  rw [List.append_assoc, List.cons_append, partsL_more 46 _ _ _ (encP_dot _ _ (Nat.lt_succ_self _)), partsL_more 46 _ _ _ (encP_dot _ _ (Nat.lt_succ_self _)), partsL_last 46 _ _ (encP_dot _ _ (Nat.lt_succ_self _))]
  rfl
 rw [hp]
 show tok3 _ _ _ = _
 unfold tok3
 rw [decP_encP, decP_encP, decP_encP]
 simp only []
 rw [head_parse h1 h2, if_pos ⟨rfl, rfl⟩]
 have g1 : (headJ kid typ).get sKid = some (strJ kid) := rfl
 have g2 : (headJ kid typ).get sTyp = some (strJ typ) := rfl
 have g3 : (headJ kid typ).get sAlg = some (strJ sHs) := rfl
 have g4 : (headJ kid typ).get sCrit = none := rfl
 have w1 : wordJ (headJ kid typ) sKid = some kid := by unfold wordJ; rw [g1]; exact if_pos ⟨rfl, h1⟩
 have w2 : wordJ (headJ kid typ) sTyp = some typ := by unfold wordJ; rw [g2]; exact if_pos ⟨rfl, h2⟩
 have hm : methodP (headJ kid typ) = true := by unfold methodP; rw [g3, g4]; rfl
 simp only [w1, w2, hm]
 rw [if_pos ⟨h3, l4⟩]
 rfl
theorem sign_verify {kid typ : ByteArray} {payload key : List UInt8} {s : ByteArray} (h : signP kid typ payload key = (s, 0)) :
  verifyP s key = .ok ⟨kid, typ, payload, signedP kid typ payload, hmac key (signedP kid typ payload)⟩ := by
 unfold signP at h
 split at h
 ·cases h
 split at h
 ·cases h
 split at h
 ·cases h
 rename_i h1 h2 h3
 simp only [Prod.mk.injEq, and_true] at h
 subst h
 simp only [Bool.not_eq_false, Bool.and_eq_true] at h1
 unfold verifyP
 rw [token_read h1.1 h1.2 (by omega)]
 simp only []
 rw [if_neg (by omega), if_pos trivial]
end Go.Kx.Jw
namespace Go.Kx.Ro
open Go.Proofs Go.Kx Go.RowKit Go.Kx.Js Go.Kx.Pr Go.Kx.Rt
set_option maxRecDepth 20000
set_option linter.unusedSimpArgs false
mutual
def szJ : J → Nat
 | .mk _ _ t js ms => t.size + szJs js + szMs ms
def szJs : List J → Nat
 | [] => 0
 | j :: r => szJ j + 1 + szJs r
def szMs : List (ByteArray × J) → Nat
 | [] => 0
 | (s, j) :: r => s.size + szJ j + 1 + szMs r
end
theorem szJs_snoc (j : J) : ∀ js : List J, szJs (js ++ [j]) = szJs js + (szJ j + 1)
 | [] => by simp [szJs]
 | a :: r => by simp only [List.cons_append, szJs, szJs_snoc j r]; omega
theorem szMs_snoc (s : ByteArray) (j : J) : ∀ ms : List (ByteArray × J), szMs (ms ++ [(s, j)]) = szMs ms + (s.size + szJ j + 1)
 | [] => by simp [szMs]
 | (t, a) :: r => by simp only [List.cons_append, szMs, szMs_snoc s j r]; omega
theorem szJs_len : ∀ js : List J, js.length ≤ szJs js
 | [] => by simp
 | a :: r => by have := szJs_len r; simp only [List.length_cons, szJs]; omega
theorem szMs_len : ∀ ms : List (ByteArray × J), ms.length ≤ szMs ms
 | [] => by simp
 | (t, a) :: r => by have := szMs_len r; simp only [List.length_cons, szMs]; omega
mutual
theorem sm_of : ∀ j : J, szJ j ≤ 190000 → smJ j
 | .mk _ _ t js ms, h => by
  simp only [szJ] at h
  have := szJs_len js
  have := szMs_len ms
  exact ⟨by omega, by omega, by omega, sms_of js (by omega), smms_of ms (by omega)⟩
theorem sms_of : ∀ js : List J, szJs js ≤ 190000 → smJs js
 | [], _ => trivial
 | j :: r, h => by simp only [szJs] at h; exact ⟨sm_of j (by omega), sms_of r (by omega)⟩
theorem smms_of : ∀ ms : List (ByteArray × J), szMs ms ≤ 190000 → smMs ms
 | [], _ => trivial
 | (s, j) :: r, h => by simp only [szMs] at h; exact ⟨by omega, sm_of j (by omega), smms_of r (by omega)⟩
end
theorem esc6 : ∀ l : List UInt8, (l.flatMap escB).length ≤ 6 * l.length
 | [] => by simp
 | c :: l => by
  have := esc6 l
  have h1 : ∀ n : Fin 256, (escB (UInt8.ofNat n.val)).length ≤ 6 := by decide +kernel
  have h2 := h1 ⟨c.toNat, c.toNat_lt⟩
  simp only [UInt8.ofNat_toNat] at h2
  simp only [List.flatMap_cons, List.length_append, List.length_cons]
  omega
theorem quote6 (s : ByteArray) : (quoteB s.data.toList).length ≤ 6 * s.size + 2 := by
 have := esc6 s.data.toList
 have h : s.data.toList.length = s.size := by rw [Array.length_toList]; rfl
 unfold quoteB
 simp only [List.length_append, List.length_cons, List.length_nil]
 omega
mutual
theorem wr_of : ∀ j : J, (wrJ j).length ≤ 10 * szJ j + 6
 | .mk k y t js ms => by
  have h1 := wrs_of js true
  have h2 := wrms_of ms true
  have h3 := quote6 t
  have h : t.data.toList.length = t.size := by rw [Array.length_toList]; rfl
  simp only [wrJ, szJ]
  split
  ·simp
  split
  ·split <;> simp
  split
  ·omega
  split
  ·omega
  split
  ·simp only [List.length_append, List.length_cons, List.length_nil]; omega
  split
  ·simp only [List.length_append, List.length_cons, List.length_nil]; omega
  ·simp
theorem wrs_of : ∀ (js : List J) (f : Bool), (wrJs f js).length ≤ 10 * szJs js
 | [], f => by simp [wrJs]
 | j :: r, f => by
  have h1 := wr_of j
  have h2 := wrs_of r false
  have h3 : (if f then ([] : List UInt8) else [44]).length ≤ 1 := by cases f <;> simp
  simp only [wrJs, szJs, List.length_append]
  omega
theorem wrms_of : ∀ (ms : List (ByteArray × J)) (f : Bool), (wrMs f ms).length ≤ 10 * szMs ms
 | [], f => by simp [wrMs]
 | (s, j) :: r, f => by
  have h1 := wr_of j
  have h2 := wrms_of r false
  have h4 := quote6 s
  have h3 : (if f then ([] : List UInt8) else [44]).length ≤ 1 := by cases f <;> simp
  simp only [wrMs, szMs, List.length_append, List.length_cons, List.length_nil]
  omega
end
theorem tk_len {c : UInt8} {l r : List UInt8} (h : tk c l = some r) : l.length = r.length + 1 := by rw [tk_some h]; rfl
theorem must_len {c : UInt8} {l r : List UInt8} {u : Unit} (h : mustP c l = .ok u r) : l.length = r.length + 1 := by rw [mustP_ok h]; rfl
theorem strP_sz : ∀ (m : Nat) (b l : List UInt8) {x r : List UInt8}, strP m b l = .ok x r → x.length + 4 * r.length + 4 ≤ b.length + 4 * l.length
 | 0, b, l, x, r, h => by cases h
 | m + 1, b, l, x, r, h => by
  cases h34 : tk 34 l with
  | some r2 =>
   rw [strP_end h34] at h
   injection h with h1 h
   subst h h1
   have := tk_len h34
   omega
  | none =>
   cases h92 : tk 92 l with
   | some r2 =>
    rw [strP_esc h34 h92] at h
    obtain ⟨y, r3, h1, h⟩ := bind_ok h
    have i1 := strP_sz m _ _ h
    obtain ⟨i2, i3⟩ := escP_sfx h1
    have i4 := i2.le
    have i5 := tk_len h92
    rw [List.length_append] at i1
    omega
   | none =>
    by_cases hc : (pk l).toNat < 32
    ·rw [strP_ctl h34 h92 hc] at h; cases h
    ·rw [strP_chr h34 h92 hc] at h
     have i1 := strP_sz m _ _ h
     cases l with
     | nil => exact absurd (show (pk []).toNat < 32 by decide) hc
     | cons c t =>
      simp only [List.length_append, List.length_cons, List.length_nil, List.tail_cons] at i1 ⊢
      omega
theorem textP_sz {l r : List UInt8} {t : ByteArray} (h : textP l = .ok t r) : t.size + 4 * r.length + 8 ≤ 4 * l.length := by
 unfold textP at h
 obtain ⟨_, r1, h1, h⟩ := bind_ok h
 obtain ⟨b, r2, h2, h⟩ := bind_ok h
 injection h with h3 h
 subst h h3
 have i1 := must_len h1
 have i2 := strP_sz _ _ _ h2
 have e : (⟨b.toArray⟩ : ByteArray).size = b.length := List.size_toArray
 rw [e]
 simp only [List.length_nil] at i2
 omega
theorem numberP_sz {l r : List UInt8} {t : ByteArray} (h : numberP l = .ok t r) : t.size + 4 * r.length ≤ 4 * l.length := by
 have hs := (numberP_sfx h).le
 unfold numberP at h
 obtain ⟨_, r1, h1, h⟩ := bind_ok h
 obtain ⟨_, r2, h2, h⟩ := bind_ok h
 obtain ⟨_, r3, h3, h⟩ := bind_ok h
 injection h with h4 h
 subst h h4
 have e : (⟨(l.take (l.length - r3.length)).toArray⟩ : ByteArray).size = (l.take (l.length - r3.length)).length := List.size_toArray
 rw [e, List.length_take]
 omega
def SzV (val : List UInt8 → Res J) : Prop := ∀ l j r, val l = .ok j r → szJ j + 4 * r.length ≤ 4 * l.length
theorem rowP_sz {α : Type} (mu : α → Nat) {one : α → List UInt8 → Res α} {en : UInt8} (ho : ∀ x l y r, one x l = .ok y r → mu y + 4 * r.length ≤ mu x + 4 * l.length + 1) : ∀ (m : Nat) (first : Bool) (x : α) (l : List UInt8) {y : α} {r : List UInt8}, rowP one en m first x l = .ok y r → mu y + 4 * r.length ≤ mu x + 4 * l.length
 | 0, first, x, l, y, r, h => by cases h
 | m + 1, first, x, l, y, r, h => by
  cases hf : (if first then tk en l else none) with
  | some r2 =>
   cases first with
   | false => cases hf
   | true =>
    rw [if_pos rfl] at hf
    rw [rowP_end hf] at h
    injection h with h1 h
    subst h h1
    have := tk_len hf
    omega
  | none =>
   rw [rowP_go hf] at h
   obtain ⟨z, r1, h1, h⟩ := bind_ok h
   have i1 := ho _ _ _ _ h1
   have i2 := (blankP_sfx r1).le
   split at h
   ·rename_i r2 ht
    injection h with h3 h
    subst h h3
    have := tk_len ht
    omega
   ·obtain ⟨_, r3, h3, h⟩ := bind_ok h
    have i3 := must_len h3
    have i4 := (blankP_sfx r3).le
    have i5 := rowP_sz mu ho m _ _ _ h
    omega
theorem valS_sz {deeper : Option (List UInt8 → Res J)} (hd : ∀ val, deeper = some val → SzV val) : SzV (valS deeper) := by
 intro l j r h
 rw [valS_eq] at h
 unfold valT at h
 split at h
 ·obtain ⟨_, r1, h1, h⟩ := bind_ok h; injection h with h2 h; subst h h2; have := (wordP_sfx _ _ h1).le; simp only [jNull, szJ, szJs, szMs]; show 0 + 0 + 0 + _ ≤ _; omega
 split at h
 ·obtain ⟨_, r1, h1, h⟩ := bind_ok h; injection h with h2 h; subst h h2; have := (wordP_sfx _ _ h1).le; simp only [jTruth, szJ, szJs, szMs]; show 0 + 0 + 0 + _ ≤ _; omega
 split at h
 ·obtain ⟨_, r1, h1, h⟩ := bind_ok h; injection h with h2 h; subst h h2; have := (wordP_sfx _ _ h1).le; simp only [jTruth, szJ, szJs, szMs]; show 0 + 0 + 0 + _ ≤ _; omega
 split at h
 ·obtain ⟨t, r1, h1, h⟩ := bind_ok h; injection h with h2 h; subst h h2; have := textP_sz h1; simp only [jStr, szJ, szJs, szMs]; omega
 split at h
 ·cases deeper with
  | none => cases h
  | some val =>
   obtain ⟨js, r1, h1, h⟩ := bind_ok h; injection h with h4 h; subst h h4
   obtain ⟨_, r2, h2, h1⟩ := bind_ok h1
   have i1 := rowP_sz szJs (fun x l y r he => by
    obtain ⟨j, r1, h1, h2⟩ := bind_ok he
    injection h2 with h3 h4
    subst h3 h4
    have := hd val rfl _ _ _ h1
    rw [szJs_snoc]; omega) _ _ _ _ h1
   have i2 := (enterP_sfx h2).le
   simp only [szJs] at i1
   simp only [jArr, szJ, szMs]
   show 0 + _ + 0 + _ ≤ _
   omega
 split at h
 ·cases deeper with
  | none => cases h
  | some val =>
   obtain ⟨ms, r1, h1, h⟩ := bind_ok h; injection h with h4 h; subst h h4
   obtain ⟨_, r2, h2, h1⟩ := bind_ok h1
   have i1 := rowP_sz szMs (fun x l y r he => by
    obtain ⟨t, r1, h1, h2⟩ := bind_ok he
    split at h2
    ·cases h2
    ·obtain ⟨_, r2, h3, h2⟩ := bind_ok h2
     obtain ⟨j, r3, h4, h2⟩ := bind_ok h2
     injection h2 with h5 h6
     subst h5 h6
     have a1 := textP_sz h1
     have a2 := (blankP_sfx r1).le
     have a3 := must_len h3
     have a4 := (blankP_sfx r2).le
     have a5 := hd val rfl _ _ _ h4
     rw [szMs_snoc]; omega) _ _ _ _ h1
   have i2 := (enterP_sfx h2).le
   simp only [szMs] at i1
   simp only [jObj, szJ, szJs]
   show 0 + 0 + _ + _ ≤ _
   omega
 split at h
 ·obtain ⟨t, r1, h1, h⟩ := bind_ok h; injection h with h2 h; subst h h2; have := numberP_sz h1; simp only [jNum, szJ, szJs, szMs]; omega
 ·cases h
theorem valP_sz : ∀ d, SzV (valP d)
 | 0 => valS_sz fun _ h => (nomatch h)
 | d + 1 => valS_sz fun _ h => by injection h with h; subst h; exact valP_sz d
theorem parse_sz (bs : List UInt8) (d : Int) : szJ (parseP bs d).1 ≤ 65536 := by
 unfold parseP
 split
 ·exact Nat.zero_le _
 split
 ·exact Nat.zero_le _
 split
 ·exact Nat.zero_le _
 rename_i h1 _ _
 split
 ·rename_i j r h
  unfold wholeP at h
  obtain ⟨j2, r2, h2, h⟩ := bind_ok h
  have i1 := valP_sz _ _ _ _ h2
  have i2 := (blankP_sfx bs).le
  split at h
  ·injection h with h3 h
   subst h3
   show szJ j2 ≤ _
   omega
  ·cases h
 ·exact Nat.zero_le _
end Go.Kx.Ro
namespace Go.Kx.Cl
open Go.Proofs Go.Kx Go.RowKit Go.Kx.Js Go.Kx.Pr Go.Kx.Rt Go.Kx.Ob Go.Kx.Wo Go.Kx.Ro Go.Kx.Jw
set_option maxRecDepth 20000
set_option linter.unusedSimpArgs false
theorem right_obj (ms : Ms) : rightJ (objJ ms) = (rightMs ms && noTwice (ms.map (·.1))) := by
 unfold objJ
 rw [rightJ]
 have h : bareJ (.mk 6 false ⟨#[]⟩ [] ms) = true := rfl
 rw [h]
 simp
theorem right_str (s : ByteArray) : rightJ (strJ s) = toldP s := by
 unfold strJ
 rw [rightJ]
 simp [bareJ, J.kind, J.yes, J.text, J.list, J.mems]
theorem right_num (n : Int) : rightJ (numJ n) = numericP (Lb.itoaB n) := by
 unfold numJ
 rw [rightJ]
 simp [bareJ, J.kind, J.yes, J.text, J.list, J.mems]
theorem itoa_nat (n : Int) (h : 0 ≤ n) : Lb.itoaB n = ⟨(Lib.decDigits n.toNat).toArray⟩ := by
 unfold Lb.itoaB Lib.itoa
 rw [if_neg (by omega)]
theorem numeric_itoa (n : Int) (h : 0 ≤ n) : numericP (Lb.itoaB n) = true := by
 rw [itoa_nat n h]
 unfold numericP
 have := number_read n.toNat [] (fun c hc => by simp at hc)
 rw [List.append_nil] at this
 simp only [List.toList_toArray, this]
 exact str_refl _
theorem int_num (n : Int) (h0 : 0 ≤ n) (h1 : n ≤ 1099511627776) : intP (numJ n) = (n, true) := by
 unfold intP
 have hk : (numJ n).kind = 3 := rfl
 have ht : (numJ n).text = Lb.itoaB n := rfl
 rw [hk, ht, if_pos ⟨rfl, numeric_itoa n h0⟩, itoa_nat n h0]
 have := Lb.atoi_dec n.toNat (by omega)
 simp only [List.toList_toArray, this]
 rw [if_neg (by omega), Int.toNat_of_nonneg h0]
theorem word_refl {m : Nat} {s : ByteArray} (h : wordP m s = true) : toldP s = true := (word_size h).2.1
theorem bool_if {b : Bool} {c : Prop} [Decidable c] (h : (if c then b else false) = true) : c ∧ b = true := by
 split at h
 ·exact ⟨by assumption, h⟩
 ·cases h
theorem sub_cases {x : Sub} (h : subRight x = true) : (∃ id, x = ⟨sOpaque, id, ⟨#[]⟩⟩ ∧ wordP 256 id = true) ∨ (∃ id, x = ⟨sEmail, id, ⟨#[]⟩⟩ ∧ wordP 256 id = true ∧ addrP id = true) ∨ (∃ id own, x = ⟨sIssSub, id, own⟩ ∧ wordP 256 id = true ∧ wordP 256 own = true) := by
 obtain ⟨f, id, own⟩ := x
 unfold subRight at h
 simp only at h
 split at h
 ·rename_i hf
  subst hf
  simp only [Bool.and_eq_true, strEq_iff] at h
  obtain ⟨h1, rfl⟩ := h
  exact .inl ⟨id, rfl, h1⟩
 split at h
 ·rename_i _ hf
  subst hf
  simp only [Bool.and_eq_true, strEq_iff] at h
  obtain ⟨h1, h2, rfl⟩ := h
  exact .inr (.inl ⟨id, rfl, h1, h2⟩)
 ·obtain ⟨hf, h2⟩ := bool_if h
  subst hf
  simp only [Bool.and_eq_true] at h2
  exact .inr (.inr ⟨id, own, rfl, h2.1, h2.2⟩)
theorem right2 {a b : ByteArray} {s t : ByteArray} (hab : a ≠ b) (ha : toldP a = true) (hb : toldP b = true) (hs : toldP s = true) (ht : toldP t = true) : rightJ (objJ [(a, strJ s), (b, strJ t)]) = true := by
 rw [right_obj]
 simp only [rightMs, right_str, ha, hb, hs, ht, Bool.and_true, Bool.true_and]
 exact noTwice_of (by simp [hab])
theorem right3 {a b c : ByteArray} {s t u : ByteArray} (hab : a ≠ b) (hac : a ≠ c) (hbc : b ≠ c) (ha : toldP a = true) (hb : toldP b = true) (hc : toldP c = true) (hs : toldP s = true) (ht : toldP t = true) (hu : toldP u = true) : rightJ (objJ [(a, strJ s), (b, strJ t), (c, strJ u)]) = true := by
 rw [right_obj]
 simp only [rightMs, right_str, ha, hb, hc, hs, ht, hu, Bool.and_true, Bool.true_and]
 exact noTwice_of (by simp [hab, hac, hbc])
theorem told_lit {s : ByteArray} (h : s.data.toList.all (fun c => decide (c.toNat < 128)) = true) : toldP s = true := (toldP_iff s).2 (Ro.Told.ascii h)
theorem sub_right {x : Sub} (h : subRight x = true) : rightJ (subJ x) = true := by
 rcases sub_cases h with ⟨id, rfl, h1⟩ | ⟨id, rfl, h1, h2⟩ | ⟨id, own, rfl, h1, h2⟩
 ·exact right2 (by decide) (told_lit (by decide)) (told_lit (by decide)) (told_lit (s := sOpaque) (by decide)) (word_refl h1)
 ·exact right2 (by decide) (told_lit (by decide)) (told_lit (by decide)) (told_lit (s := sEmail) (by decide)) (word_refl h1)
 ·exact right3 (by decide) (by decide) (by decide) (told_lit (by decide)) (told_lit (by decide)) (told_lit (by decide)) (told_lit (s := sIssSub) (by decide)) (word_refl h2) (word_refl h1)
theorem nb {n : Nat} : ¬ ((true = false) ∨ n ≠ n) := by simp
theorem sub_of {x : Sub} (h : subRight x = true) : subOf (subJ x) = (x, 0) := by
 have hr := sub_right h
 rcases sub_cases h with ⟨id, rfl, h1⟩ | ⟨id, rfl, h1, h2⟩ | ⟨id, own, rfl, h1, h2⟩
 ·have m1 : memT (subJ ⟨sOpaque, id, ⟨#[]⟩⟩) sFormat = (sOpaque, true) := rfl
  have m2 : memT (subJ ⟨sOpaque, id, ⟨#[]⟩⟩) ((namesOf sOpaque).getD 0 ⟨#[]⟩) = (id, true) := rfl
  unfold subOf
  simp only [m1, m2]
  rw [if_neg (by decide), if_neg (by decide), if_neg (by rw [hr]; exact nb), if_neg (by decide), h]
  rfl
 ·have m1 : memT (subJ ⟨sEmail, id, ⟨#[]⟩⟩) sFormat = (sEmail, true) := rfl
  have m2 : memT (subJ ⟨sEmail, id, ⟨#[]⟩⟩) ((namesOf sEmail).getD 0 ⟨#[]⟩) = (id, true) := rfl
  unfold subOf
  simp only [m1, m2]
  rw [if_neg (by decide), if_neg (by decide), if_neg (by rw [hr]; exact nb), if_neg (by decide), h]
  rfl
 ·have m1 : memT (subJ ⟨sIssSub, id, own⟩) sFormat = (sIssSub, true) := rfl
  have m2 : memT (subJ ⟨sIssSub, id, own⟩) sSub = (id, true) := rfl
  have m3 : memT (subJ ⟨sIssSub, id, own⟩) sIss = (own, true) := rfl
  unfold subOf
  simp only [m1, m2, m3]
  rw [if_neg (by decide), if_neg (by decide), if_neg (by rw [hr]; exact nb), if_pos trivial, h]
  rfl
theorem name_some {k : Int} (h : 1 ≤ k ∧ k ≤ 6) : k = 1 ∨ k = 2 ∨ k = 3 ∨ k = 4 ∨ k = 5 ∨ k = 6 := by omega
theorem kind_name {k : Int} (h : 1 ≤ k ∧ k ≤ 6) : kindN (nameK k) = k := by
 rcases name_some h with rfl | rfl | rfl | rfl | rfl | rfl <;> decide +kernel
theorem name_ascii {k : Int} (h : 1 ≤ k ∧ k ≤ 6) : (nameK k).data.toList.all (fun c => decide (c.toNat < 128)) = true ∧ (nameK k).size ≤ 80 := by
 rcases name_some h with rfl | rfl | rfl | rfl | rfl | rfl <;> decide +kernel
structure RightC (c : Clm) : Prop where
 kind : 1 ≤ c.kind ∧ c.kind ≤ 6
 iss : wordP 256 c.iss = true
 jti : wordP 256 c.jti = true
 aud : wordP 256 c.aud = true
 txn : wordP 256 c.txn = true
 iat : 0 ≤ c.iat ∧ c.iat ≤ 1099511627776
 sub : subRight c.sub = true
 reason : c.reason = ⟨#[]⟩ ∨ wordP 256 c.reason = true
theorem right_iff (c : Clm) : clRight c = true ↔ RightC c := by
 unfold clRight
 simp only [Bool.and_eq_true, decide_eq_true_eq, Bool.or_eq_true, strEq_iff]
 constructor
 ·rintro ⟨h1, h2, h3, h4, h5, h6, h7, h8, h9⟩
  exact ⟨h1, h2, h3, h4, h5, ⟨h6, h7⟩, h8, h9⟩
 ·rintro ⟨h1, h2, h3, h4, h5, ⟨h6, h7⟩, h8, h9⟩
  exact ⟨h1, h2, h3, h4, h5, h6, h7, h8, h9⟩
theorem ev_right {c : Clm} (h : RightC c) : rightJ (evJ c) = true := by
 unfold evJ
 rw [right_obj]
 simp only [rightMs, told_lit (name_ascii h.kind).1, Bool.true_and, Bool.and_true, Bool.and_eq_true]
 refine ⟨?_, noTwice_of (by simp)⟩
 rw [right_obj]
 unfold evMs
 split
 ·simp only [rightMs, Bool.true_and]; exact noTwice_of (by simp)
 ·rename_i hr
  have : wordP 256 c.reason = true := by
   rcases h.reason with e | e
   ·rw [e] at hr; exact absurd (str_refl _) hr
   ·exact e
  simp only [rightMs, right_str, told_lit (show sReason.data.toList.all (fun c => decide (c.toNat < 128)) = true by decide), word_refl this, Bool.true_and, Bool.and_true]
  exact noTwice_of (by simp)
theorem names_nodup : ([sIss, sJti, sIat, sAud, sTxn, sSubId, sEvents] : List ByteArray).Nodup := by decide
theorem cl_right {c : Clm} (h : RightC c) : rightJ (clJ c) = true := by
 unfold clJ
 rw [right_obj]
 have hn : noTwice ((clMs c).map (·.1)) = true := noTwice_of names_nodup
 rw [hn, Bool.and_true]
 have l1 : toldP sIss = true := told_lit (by decide)
 have l2 : toldP sJti = true := told_lit (by decide)
 have l3 : toldP sIat = true := told_lit (by decide)
 have l4 : toldP sAud = true := told_lit (by decide)
 have l5 : toldP sTxn = true := told_lit (by decide)
 have l6 : toldP sSubId = true := told_lit (by decide)
 have l7 : toldP sEvents = true := told_lit (by decide)
 simp only [clMs, rightMs, right_str, right_num, l1, l2, l3, l4, l5, l6, l7, word_refl h.iss, word_refl h.jti, word_refl h.aud, word_refl h.txn, numeric_itoa c.iat h.iat.1, sub_right h.sub, ev_right h, Bool.true_and, Bool.and_true]
theorem event_ev {c : Clm} (h : RightC c) : event (evJ c) = (c.kind, c.reason) := by
 have hk := kind_name h.kind
 unfold evMs at *
 have : event (evJ c) = (kindN (nameK c.kind), said (objJ (evMs c)) sReason) := rfl
 rw [this, hk]
 congr 1
 unfold evMs
 split
 ·rename_i hr
  rw [strEq_iff] at hr
  rw [hr]; rfl
 ·rfl
theorem ofC_cl {c : Clm} (h : RightC c) : ofC (clJ c) = c := by
 have e1 : said (clJ c) sIss = c.iss := rfl
 have e2 : said (clJ c) sJti = c.jti := rfl
 have e3 : said (clJ c) sAud = c.aud := rfl
 have e4 : memJ (clJ c) sIat = numJ c.iat := rfl
 have e5 : said (clJ c) sTxn = c.txn := rfl
 have e6 : memJ (clJ c) sSubId = subJ c.sub := rfl
 have e7 : memJ (clJ c) sEvents = evJ c := rfl
 unfold ofC
 rw [e1, e2, e3, e4, e5, e6, e7, int_num c.iat h.iat.1 h.iat.2, sub_of h.sub, event_ev h]
theorem of_cl {c : Clm} (h : RightC c) : ofP (clJ c) = some c := by
 unfold ofP
 rw [ofC_cl h, (right_iff c).2 h]
 unfold sameP
 rw [cl_right h]
 simp
theorem of_some {j : J} {c : Clm} (h : ofP j = some c) : RightC c ∧ sameP (clJ c) j = true := by
 unfold ofP at h
 split at h
 ·rename_i h1
  injection h with h
  subst h
  rw [Bool.and_eq_true] at h1
  exact ⟨(right_iff _).1 h1.1, h1.2⟩
 ·cases h
theorem same_wr {a b : J} (h : sameP a b = true) : rightJ a = true ∧ rightJ b = true ∧ wrJ a = wrJ b := by
 unfold sameP at h
 simp only [Bool.and_eq_true, beq_iff_eq] at h
 exact ⟨h.1.1, h.1.2, h.2⟩
def NTold (ms : Ms) : Prop := ∀ (i : Nat) (s : ByteArray) (j : J), ms[i]? = some (s, j) → Ro.Told s.data.toList ∧ Ro.Told (wrJ j)
theorem ms_told : ∀ (ms : Ms) (f : Bool), NTold ms → Ro.Told (wrMs f ms)
 | [], f, _ => by simp only [wrMs]; exact .nil
 | (s, j) :: r, f, h => by
  obtain ⟨h1, h2⟩ := h 0 s j rfl
  have h3 := ms_told r false fun i s j hi => h (i + 1) s j (by simpa using hi)
  simp only [wrMs]
  refine Ro.Told.append (Ro.Told.append (Ro.Told.append (Ro.Told.append ?_ h1.quote) (.ascii (by decide))) h2) h3
  cases f
  ·exact .ascii (by decide)
  ·exact .nil
theorem obj_told {ms : Ms} (h : NTold ms) : Ro.Told (wrJ (objJ ms)) := by
 have : wrJ (objJ ms) = [123] ++ wrMs true ms ++ [125] := by unfold objJ; simp [wrJ]
 rw [this]
 exact (Ro.Told.append (.ascii (by decide)) (ms_told ms true h)).append (.ascii (by decide))
theorem str_told {s : ByteArray} (h : toldP s = true) : Ro.Told (wrJ (strJ s)) := by rw [wr_str]; exact ((toldP_iff s).1 h).quote
theorem nt_nil : NTold [] := fun i s j h => by simp at h
theorem nt_cons {s : ByteArray} {j : J} {ms : Ms} (h1 : s.data.toList.all (fun c => decide (c.toNat < 128)) = true) (h2 : Ro.Told (wrJ j)) (h3 : NTold ms) : NTold ((s, j) :: ms) := fun i t k h => by
 cases i with
 | zero => simp at h; obtain ⟨rfl, rfl⟩ := h; exact ⟨.ascii h1, h2⟩
 | succ i => exact h3 i t k (by simpa using h)
theorem dig_ascii : ∀ l : List UInt8, l.all isDig = true → l.all (fun c => decide (c.toNat < 128)) = true
 | [], _ => rfl
 | c :: t, h => by
  simp only [List.all_cons, Bool.and_eq_true, isDig, decide_eq_true_eq] at h
  simp only [List.all_cons, Bool.and_eq_true, decide_eq_true_eq]
  exact ⟨by omega, dig_ascii t h.2⟩
theorem num_wr (n : Int) (h : 0 ≤ n) : wrJ (numJ n) = Lib.decDigits n.toNat := by
 unfold numJ
 rw [itoa_nat n h]
 simp [wrJ]
theorem num_told (n : Int) (h : 0 ≤ n) : Ro.Told (wrJ (numJ n)) := by rw [num_wr n h]; exact .ascii (dig_ascii _ (dec_dig _))
theorem sub_told {x : Sub} (h : subRight x = true) : Ro.Told (wrJ (subJ x)) := by
 rcases sub_cases h with ⟨id, rfl, h1⟩ | ⟨id, rfl, h1, h2⟩ | ⟨id, own, rfl, h1, h2⟩
 ·exact obj_told (nt_cons (by decide) (str_told (told_lit (s := sOpaque) (by decide))) (nt_cons (by decide) (str_told (word_refl h1)) nt_nil))
 ·exact obj_told (nt_cons (by decide) (str_told (told_lit (s := sEmail) (by decide))) (nt_cons (by decide) (str_told (word_refl h1)) nt_nil))
 ·exact obj_told (nt_cons (by decide) (str_told (told_lit (s := sIssSub) (by decide))) (nt_cons (by decide) (str_told (word_refl h2)) (nt_cons (by decide) (str_told (word_refl h1)) nt_nil)))
theorem reason_word {c : Clm} (h : RightC c) (hr : ¬ strEq c.reason ⟨#[]⟩ = true) : wordP 256 c.reason = true := by
 rcases h.reason with e | e
 ·rw [e] at hr; exact absurd (str_refl _) hr
 ·exact e
theorem ev_told {c : Clm} (h : RightC c) : Ro.Told (wrJ (evJ c)) := by
 refine obj_told (nt_cons (name_ascii h.kind).1 (obj_told ?_) nt_nil)
 unfold evMs
 split
 ·exact nt_nil
 ·rename_i hr
  exact nt_cons (by decide) (str_told (word_refl (reason_word h hr))) nt_nil
theorem cl_told {c : Clm} (h : RightC c) : Ro.Told (wrJ (clJ c)) :=
 obj_told (nt_cons (by decide) (str_told (word_refl h.iss)) (nt_cons (by decide) (str_told (word_refl h.jti)) (nt_cons (by decide) (num_told _ h.iat.1) (nt_cons (by decide) (str_told (word_refl h.aud)) (nt_cons (by decide) (str_told (word_refl h.txn)) (nt_cons (by decide) (sub_told h.sub) (nt_cons (by decide) (ev_told h) nt_nil)))))))
theorem str_sz (s : ByteArray) : szJ (strJ s) = s.size := by unfold strJ; simp [szJ, szJs, szMs]
theorem obj_sz (ms : Ms) : szJ (objJ ms) = szMs ms := by unfold objJ; simp only [szJ, szJs]; show 0 + 0 + _ = _; omega
theorem dec_len : ∀ (k u : Nat), u < 10 ^ k → 0 < k → (Lib.decDigits u).length ≤ k
 | 0, u, h, h0 => by omega
 | k + 1, u, h, _ => by
  by_cases hu : u < 10
  ·rw [Lib.decDigits_one hu]; simp
  ·rw [Lb.decDigits_big hu]
   have hk : 0 < k := by
    rcases Nat.eq_zero_or_pos k with rfl | h0
    ·simp at h; omega
    ·exact h0
   have := dec_len k (u / 10) (by rw [Nat.pow_succ] at h; omega) hk
   simp only [List.length_append, List.length_cons, List.length_nil]
   omega
theorem num_sz (n : Int) (h0 : 0 ≤ n) (h1 : n ≤ 1099511627776) : szJ (numJ n) ≤ 13 := by
 unfold numJ
 rw [itoa_nat n h0]
 simp only [szJ, szJs, szMs]
 have := dec_len 13 n.toNat (by omega) (by decide)
 show (Lib.decDigits n.toNat).toArray.size + 0 + 0 ≤ 13
 rw [List.size_toArray]; omega
theorem sub_sz {x : Sub} (h : subRight x = true) : szJ (subJ x) ≤ 540 := by
 have e1 : sFormat.size = 6 := rfl
 have e2 : sOpaque.size = 6 := rfl
 have e3 : sId.size = 2 := rfl
 have e4 : sEmail.size = 5 := rfl
 have e5 : sIssSub.size = 7 := rfl
 have e6 : sIss.size = 3 := rfl
 have e7 : sSub.size = 3 := rfl
 rcases sub_cases h with ⟨id, rfl, h1⟩ | ⟨id, rfl, h1, h2⟩ | ⟨id, own, rfl, h1, h2⟩
 ·have := (word_size h1).1
  have : szJ (subJ ⟨sOpaque, id, ⟨#[]⟩⟩) = szMs [(sFormat, strJ sOpaque), (sId, strJ id)] := obj_sz _
  rw [this]
  simp only [szMs, str_sz, e1, e2, e3]
  omega
 ·have := (word_size h1).1
  have : szJ (subJ ⟨sEmail, id, ⟨#[]⟩⟩) = szMs [(sFormat, strJ sEmail), (sEmail, strJ id)] := obj_sz _
  rw [this]
  simp only [szMs, str_sz, e1, e4]
  omega
 ·have := (word_size h1).1
  have := (word_size h2).1
  have : szJ (subJ ⟨sIssSub, id, own⟩) = szMs [(sFormat, strJ sIssSub), (sIss, strJ own), (sSub, strJ id)] := obj_sz _
  rw [this]
  simp only [szMs, str_sz, e1, e5, e6, e7]
  omega
theorem reason_size {c : Clm} (h : RightC c) : c.reason.size ≤ 256 := by
 rcases h.reason with e | e
 ·rw [e]; decide
 ·exact (word_size e).1
theorem evr_sz {c : Clm} (h : RightC c) : szJ (objJ (evMs c)) ≤ 263 := by
 have := reason_size h
 rw [obj_sz]
 unfold evMs
 split
 ·simp [szMs]
 ·have e : sReason.size = 6 := rfl
  simp only [szMs, str_sz, e]
  omega
theorem cl_sz {c : Clm} (h : RightC c) : szJ (clJ c) ≤ 2000 := by
 have e1 : sIss.size = 3 := rfl
 have e2 : sJti.size = 3 := rfl
 have e3 : sIat.size = 3 := rfl
 have e4 : sAud.size = 3 := rfl
 have e5 : sTxn.size = 3 := rfl
 have e6 : sSubId.size = 6 := rfl
 have e7 : sEvents.size = 6 := rfl
 have a1 := (word_size h.iss).1
 have a2 := (word_size h.jti).1
 have a3 := (word_size h.aud).1
 have a4 := (word_size h.txn).1
 have a5 := num_sz c.iat h.iat.1 h.iat.2
 have a6 := sub_sz h.sub
 have a7 := evr_sz h
 have a8 := (name_ascii h.kind).2
 unfold clJ
 rw [obj_sz]
 simp only [clMs, evJ, szMs, str_sz, obj_sz, e1, e2, e3, e4, e5, e6, e7] at *
 omega
theorem cl_sm {c : Clm} (h : RightC c) : smJ (clJ c) := sm_of _ (by have := cl_sz h; omega)
theorem cl_wr6 {c : Clm} (h : RightC c) : 6 * (wrJ (clJ c)).length ≤ 8000000 := by
 have := wr_of (clJ c)
 have := cl_sz h
 omega
theorem str_wrl (s : ByteArray) : (wrJ (strJ s)).length ≤ 6 * s.size + 2 := by rw [wr_str]; exact quote6 s
theorem ms_wrl : ∀ (ms : Ms) (f : Bool), (wrMs f ms).length ≤ (ms.map fun m => 6 * m.1.size + 4 + (wrJ m.2).length).sum
 | [], f => by simp [wrMs]
 | (s, j) :: r, f => by
  have h2 := ms_wrl r false
  have h4 := quote6 s
  have h3 : (if f then ([] : List UInt8) else [44]).length ≤ 1 := by cases f <;> simp
  simp only [wrMs, List.length_append, List.length_cons, List.length_nil, List.map_cons, List.sum_cons]
  omega
theorem obj_wrl (ms : Ms) : (wrJ (objJ ms)).length ≤ (ms.map fun m => 6 * m.1.size + 4 + (wrJ m.2).length).sum + 2 := by
 have : wrJ (objJ ms) = [123] ++ wrMs true ms ++ [125] := by unfold objJ; simp [wrJ]
 rw [this]
 have := ms_wrl ms true
 simp only [List.length_append, List.length_cons, List.length_nil]
 omega
theorem sub_wrl {x : Sub} (h : subRight x = true) : (wrJ (subJ x)).length ≤ 3300 := by
 have e1 : sFormat.size = 6 := rfl
 have e2 : sOpaque.size = 6 := rfl
 have e3 : sId.size = 2 := rfl
 have e4 : sEmail.size = 5 := rfl
 have e5 : sIssSub.size = 7 := rfl
 have e6 : sIss.size = 3 := rfl
 have e7 : sSub.size = 3 := rfl
 rcases sub_cases h with ⟨id, rfl, h1⟩ | ⟨id, rfl, h1, h2⟩ | ⟨id, own, rfl, h1, h2⟩
 ·have := (word_size h1).1
  have g := obj_wrl [(sFormat, strJ sOpaque), (sId, strJ id)]
  have g1 := str_wrl sOpaque
  have g2 := str_wrl id
  simp only [List.map_cons, List.map_nil, List.sum_cons, List.sum_nil, e1, e2, e3] at g g1
  show (wrJ (objJ [(sFormat, strJ sOpaque), (sId, strJ id)])).length ≤ _
  omega
 ·have := (word_size h1).1
  have g := obj_wrl [(sFormat, strJ sEmail), (sEmail, strJ id)]
  have g1 := str_wrl sEmail
  have g2 := str_wrl id
  simp only [List.map_cons, List.map_nil, List.sum_cons, List.sum_nil, e1, e4] at g g1
  show (wrJ (objJ [(sFormat, strJ sEmail), (sEmail, strJ id)])).length ≤ _
  omega
 ·have := (word_size h1).1
  have := (word_size h2).1
  have g := obj_wrl [(sFormat, strJ sIssSub), (sIss, strJ own), (sSub, strJ id)]
  have g1 := str_wrl sIssSub
  have g2 := str_wrl id
  have g3 := str_wrl own
  simp only [List.map_cons, List.map_nil, List.sum_cons, List.sum_nil, e1, e5, e6, e7] at g g1
  show (wrJ (objJ [(sFormat, strJ sIssSub), (sIss, strJ own), (sSub, strJ id)])).length ≤ _
  omega
theorem cl_wrl {c : Clm} (h : RightC c) : (wrJ (clJ c)).length ≤ 16384 := by
 have e1 : sIss.size = 3 := rfl
 have e2 : sJti.size = 3 := rfl
 have e3 : sIat.size = 3 := rfl
 have e4 : sAud.size = 3 := rfl
 have e5 : sTxn.size = 3 := rfl
 have e6 : sSubId.size = 6 := rfl
 have e7 : sEvents.size = 6 := rfl
 have e8 : sReason.size = 6 := rfl
 have a1 := (word_size h.iss).1
 have a2 := (word_size h.jti).1
 have a3 := (word_size h.aud).1
 have a4 := (word_size h.txn).1
 have a5 : (wrJ (numJ c.iat)).length ≤ 13 := by rw [num_wr _ h.iat.1]; exact dec_len 13 _ (by have := h.iat.2; omega) (by decide)
 have a6 := sub_wrl h.sub
 have a8 := (name_ascii h.kind).2
 have a9 := reason_size h
 have b1 := str_wrl c.iss
 have b2 := str_wrl c.jti
 have b3 := str_wrl c.aud
 have b4 := str_wrl c.txn
 have b5 : (wrJ (objJ (evMs c))).length ≤ 1600 := by
  have g := obj_wrl (evMs c)
  have g1 := str_wrl c.reason
  unfold evMs at g ⊢
  split at g
  ·rename_i hh; rw [if_pos hh]; simp at g; omega
  ·rename_i hh; rw [if_neg hh]; simp only [List.map_cons, List.map_nil, List.sum_cons, List.sum_nil, e8] at g; omega
 have b6 := obj_wrl [(nameK c.kind, objJ (evMs c))]
 have b7 := obj_wrl (clMs c)
 simp only [clMs, evJ, List.map_cons, List.map_nil, List.sum_cons, List.sum_nil, e1, e2, e3, e4, e5, e6, e7] at b6 b7
 unfold clJ clMs evJ
 omega
theorem pl_nil {d : Nat} (i : Nat) (s : ByteArray) (j : J) (h : ([] : Ms)[i]? = some (s, j)) : Pl d j := by simp at h
theorem pl_cons {d : Nat} {s0 : ByteArray} {j0 : J} {ms : Ms} (h1 : Pl d j0) (h2 : ∀ (i : Nat) (s : ByteArray) (j : J), ms[i]? = some (s, j) → Pl d j) (i : Nat) (s : ByteArray) (j : J) (h : ((s0, j0) :: ms)[i]? = some (s, j)) : Pl d j := by
 cases i with
 | zero => simp at h; obtain ⟨rfl, rfl⟩ := h; exact h1
 | succ i => exact h2 i s j (by simpa using h)
theorem num_pl {d : Nat} (n : Int) (h0 : 0 ≤ n) (h1 : n ≤ 1099511627776) : Pl d (numJ n) := by
 unfold numJ
 rw [itoa_nat n h0]
 exact .num _ (by omega)
theorem sub_pl {d : Nat} {x : Sub} (h : subRight x = true) : Pl (d + 1) (subJ x) := by
 rcases sub_cases h with ⟨id, rfl, h1⟩ | ⟨id, rfl, h1, h2⟩ | ⟨id, own, rfl, h1, h2⟩
 ·exact .obj _ (pl_cons (.str _) (pl_cons (.str _) pl_nil)) (show ([sFormat, sId] : List ByteArray).Nodup by decide)
 ·exact .obj _ (pl_cons (.str _) (pl_cons (.str _) pl_nil)) (show ([sFormat, sEmail] : List ByteArray).Nodup by decide)
 ·exact .obj _ (pl_cons (.str _) (pl_cons (.str _) (pl_cons (.str _) pl_nil))) (show ([sFormat, sIss, sSub] : List ByteArray).Nodup by decide)
theorem ev_pl {d : Nat} (c : Clm) : Pl (d + 2) (evJ c) := by
 refine .obj _ (pl_cons (.obj _ ?_ ?_) pl_nil) (by simp)
 ·unfold evMs
  split
  ·exact pl_nil
  ·exact pl_cons (.str _) pl_nil
 ·unfold evMs
  split <;> simp
theorem cl_pl {c : Clm} (h : RightC c) : Pl 4 (clJ c) :=
 .obj _ (pl_cons (.str _) (pl_cons (.str _) (pl_cons (num_pl _ h.iat.1 h.iat.2) (pl_cons (.str _) (pl_cons (.str _) (pl_cons (sub_pl h.sub) (pl_cons (ev_pl c) pl_nil))))))) names_nodup
theorem cl_parse {c : Clm} (h : RightC c) : parseP (wrJ (clJ c)) 4 = (clJ c, 0, 0) := parse_read (cl_pl h) (by decide) (by decide) (cl_wrl h) (cl_told h)
abbrev sType := (⟨#[115, 101, 99, 101, 118, 101, 110, 116, 43, 106, 119, 116]⟩ : ByteArray)
def csignP (c : Clm) (kid : ByteArray) (key : List UInt8) : ByteArray × Int := if clRight c = false then (⟨#[]⟩, 10) else signP kid sType (wrJ (clJ c)) key
def readP (s : ByteArray) (key : List UInt8) : Except Int Clm :=
 match verifyP s key with
 | .error e => .error e
 | .ok t => if t.typ ≠ sType then .error 42 else
  if (parseP t.payload 4).2.1 ≠ 0 then .error 10 else
  if (printP (parseP t.payload 4).1).1 ≠ ⟨t.payload.toArray⟩ then .error 10 else
  match ofP (parseP t.payload 4).1 with
  | none => .error 10
  | some c => .ok c
theorem sign_read {c : Clm} {kid : ByteArray} {key : List UInt8} {s : ByteArray} (h : csignP c kid key = (s, 0)) : readP s key = .ok c := by
 unfold csignP at h
 split at h
 ·cases h
 rename_i hr
 simp only [Bool.not_eq_false] at hr
 have hc := (right_iff c).1 hr
 have hv := sign_verify h
 unfold readP
 rw [hv]
 simp only []
 rw [cl_parse hc, if_neg (by simp), if_neg (by simp)]
 have hp : printP (clJ c) = (⟨(wrJ (clJ c)).toArray⟩, 0) := by unfold printP; rw [if_pos (cl_right hc)]
 rw [hp, if_neg (by simp), of_cl hc]
end Go.Kx.Cl
namespace Go.Kx.Su
open Go.Proofs Go.Kx Go.RowKit Go.Kx.Js Go.Kx.Pr Go.Kx.Rt Go.Kx.Ob Go.Kx.Wo Go.Kx.Cl Go.Kx.Pa
set_option maxRecDepth 20000
set_option linter.unusedSimpArgs false
def T : Tab := [(23, { k := TK.st [(0, 9, 1), (1, 9, 1), (2, 9, 1)], agg := true, size := 3, bytes := 48, zero := [Z.s, Z.s, Z.s] }), (9, { k := TK.string, agg := false, size := 1, bytes := 16, zero := [Z.s] }), (52, { k := TK.st [(0, 9, 1), (1, 34, 5)], agg := true, size := 6, bytes := 96, zero := [Z.s, Z.i IntKind.i64, Z.b, Z.s, Z.sl, Z.sl] }), (34, { k := TK.st [(0, 3, 1), (1, 4, 1), (2, 9, 1), (3, 31, 1), (4, 32, 1)], agg := true, size := 5, bytes := 80, zero := [Z.i IntKind.i64, Z.b, Z.s, Z.sl, Z.sl] }), (4, { k := TK.bool, agg := false, size := 1, bytes := 1, zero := [Z.b] }), (35, { k := TK.int IntKind.i64, agg := false, size := 1, bytes := 8, zero := [Z.i IntKind.i64] }), (32, { k := TK.slice 52, agg := false, size := 1, bytes := 24, zero := [Z.sl] }), (62, { k := TK.slice 9, agg := false, size := 1, bytes := 24, zero := [Z.sl] }), (3, { k := TK.int IntKind.i64, agg := false, size := 1, bytes := 8, zero := [Z.i IntKind.i64] }), (5, { k := TK.int IntKind.u8, agg := false, size := 1, bytes := 1, zero := [Z.i IntKind.u8] }), (31, { k := TK.slice 34, agg := false, size := 1, bytes := 24, zero := [Z.sl] })]
set_option maxRecDepth 100000 in
theorem tab : TabOk Tryz.prog T := tabOk_mk (ts := [23, 9, 52, 34, 4, 35, 32, 62, 3, 5, 31]) (by kernel_rfl)
theorem mixed : Tryz.prog.follows .mixedOrders = true := by kernel_rfl
def agS (x : Sub) : SV := .si (.ag [.val (.string x.fmt), .val (.string x.id), .val (.string x.own)])
theorem count_ (s : ByteArray) (c : UInt8) (H : Hp) : CallO Tryz.prog 101 [pv (.string s), pv (.string ⟨#[c]⟩)] H [] fun e H' G' => e = .ret (pv (.int .i64 ((s.data.toList.count c : Nat) : Int))) ∧ H' = H ∧ G' = [] := by
 refine (CallO.of_calls (args := [.string s, .string ⟨#[c]⟩]) (R := fun v => v = .int .i64 ((s.data.toList.count c : Nat) : Int)) fun w _ _ => ?_).mono ?_
 ·refine (Any.strings_Count_one Tryz.laysCount s c w).mono fun e w' ⟨he, hw⟩ => ⟨_, he, ?_, ?_⟩
  ·rfl
  ·subst hw; exact grown_refl _
 ·rintro e H' G' hle ⟨v, rfl, rfl, rfl, rfl⟩
  exact ⟨rfl, rfl, rfl⟩
theorem address_ (s : ByteArray) (hs : s.size ≤ 1000000) (H : Hp) : CallO Tryz.prog 64 [pv (.string s)] H [] fun e H' G' => e = .ret (pv (.bool (addrP s))) ∧ H' = H ∧ G' = [] := by
 unfold addrP
 refine CallO.of_body tab Tryz.func64 rfl (nt := Tryz.f64.ntmps) rfl (by kernel_rfl) ?_
 (conv => whnf)
 refine ⟨⟨_, Tryz.func100, rfl, by kernel_rfl⟩, CallS.use (indexByte s 64 H []) [] rfl rfl trivial ?_⟩
 rintro e H1 G' hle ⟨rfl, rfl, rfl⟩
 generalize ixB s.data.toList 64 = i
 (conv => whnf)
 refine br.of (fun h1 => ?_) (fun h1 => ?_) <;> (conv => whnf)
 ·have h1' := of_decide_eq_true h1
  rw [decide_eq_true (show 0 < i by omega), Bool.true_and]
  rw [wrap64 (x := (s.size : Int) - 1) (by omega) (by omega)]
  refine br.of (fun h2 => ?_) (fun h2 => ?_) <;> (conv => whnf)
  ·have h2' := of_decide_eq_true h2
   rw [decide_eq_true (show i < (s.size : Int) - 1 by omega), Bool.true_and]
   refine ⟨⟨_, Tryz.func101, rfl, by kernel_rfl⟩, CallS.use (count_ s 64 H1) [] rfl rfl trivial ?_⟩
   rintro e H2 G' hle ⟨rfl, rfl, rfl⟩
   (conv => whnf)
   refine ⟨congrArg (fun b => SE.ret (pv (.bool b))) ?_, rfl, rfl⟩
   rw [Bool.eq_iff_iff, beq_iff_eq, beq_iff_eq]
   omega
  ·have h2' := of_decide_eq_false h2
   rw [decide_eq_false (show ¬ i < (s.size : Int) - 1 by omega), Bool.false_and]
   exact ⟨rfl, rfl, rfl⟩
 ·have h1' := of_decide_eq_false h1
  rw [decide_eq_false (show ¬ 0 < i by omega), Bool.false_and]
  exact ⟨rfl, rfl, rfl⟩
theorem right0 (f id own : ByteArray) (H : Hp) : CallO Tryz.prog 34 [.si (.ag [.val (.string f), .val (.string id), .val (.string own)])] H [] fun e _ G' => e = .ret (pv (.bool (subRight ⟨f, id, own⟩))) ∧ G' = [] := by
 unfold subRight
 dsimp only
 refine CallO.of_body tab Tryz.func34 rfl (nt := Tryz.f34.ntmps) rfl (by kernel_rfl) ?_
 (conv => whnf)
 refine br.of (fun h1 => ?_) (fun h1 => ?_) <;> (conv => whnf)
 ·rw [if_pos ((strEq_iff ..).1 h1)]
  refine ⟨⟨_, Tryz.func63, rfl, by kernel_rfl⟩, CallS.use (subWord id H) [] rfl rfl trivial ?_⟩
  rintro e H1 G' hle ⟨rfl, rfl⟩
  generalize hb : Wo.wordP 256 id = b
  cases b
  all_goals
   (conv => whnf)
   exact ⟨rfl, rfl⟩
 rw [if_neg (fun h => by rw [h, str_refl] at h1; cases h1)]
 refine br.of (fun h2 => ?_) (fun h2 => ?_) <;> (conv => whnf)
 ·rw [if_pos ((strEq_iff ..).1 h2)]
  refine ⟨⟨_, Tryz.func63, rfl, by kernel_rfl⟩, CallS.use (subWord id H) [] rfl rfl trivial ?_⟩
  rintro e H1 G' hle ⟨rfl, rfl⟩
  cases hb : Wo.wordP 256 id
  all_goals (conv => whnf)
  ·exact ⟨rfl, rfl⟩
  refine ⟨⟨_, Tryz.func64, rfl, by kernel_rfl⟩, CallS.use (address_ id (by have := (Jw.word_size hb).1; omega) H1) [] rfl rfl trivial ?_⟩
  rintro e H2 G' hle ⟨rfl, rfl, rfl⟩
  generalize addrP id = c
  cases c
  all_goals
   (conv => whnf)
   exact ⟨rfl, rfl⟩
 rw [if_neg (fun h => by rw [h, str_refl] at h2; cases h2)]
 refine br.of (fun h3 => ?_) (fun h3 => ?_) <;> (conv => whnf)
 ·rw [if_pos ((strEq_iff ..).1 h3)]
  refine ⟨⟨_, Tryz.func63, rfl, by kernel_rfl⟩, CallS.use (subWord id H) [] rfl rfl trivial ?_⟩
  rintro e H1 G' hle ⟨rfl, rfl⟩
  generalize hb : Wo.wordP 256 id = b
  cases b
  all_goals (conv => whnf)
  ·exact ⟨rfl, rfl⟩
  refine ⟨⟨_, Tryz.func63, rfl, by kernel_rfl⟩, CallS.use (subWord own H1) [] rfl rfl trivial ?_⟩
  rintro e H2 G' hle ⟨rfl, rfl⟩
  (conv => whnf)
  exact ⟨rfl, rfl⟩
 rw [if_neg (fun h => by rw [h, str_refl] at h3; cases h3)]
 exact ⟨rfl, rfl⟩
theorem right_ (x : Sub) (H : Hp) : CallO Tryz.prog 34 [agS x] H [] fun e _ G' => e = .ret (pv (.bool (subRight x))) ∧ G' = [] := right0 x.fmt x.id x.own H
def bL (l : List ByteArray) : List (List UInt8) := l.map fun s => s.data.toList
theorem names_ (f : ByteArray) (H : Hp) : CallO Tryz.prog 61 [pv (.string f)] H [] fun e H' G' => RetV (bL (namesOf f)) e H' ∧ G' = [] := by
 unfold namesOf
 refine CallO.of_body tab Tryz.func61 rfl (nt := Tryz.f61.ntmps) rfl (by kernel_rfl) ?_
 (conv => whnf)
 refine br.of (fun h1 => ?_) (fun h1 => ?_) <;> (conv => whnf)
 ·rw [if_pos ((strEq_iff ..).1 h1)]
  refine ⟨by decide, .inl ?_⟩
  intro g H2 hle hrd
  (conv => whnf)
  exact ⟨⟨_, _, _, rfl, rfl, fun e => (nomatch e), fun a e => by injection e with e; subst e; exact hrd⟩, rfl⟩
 rw [if_neg (fun h => by rw [h, str_refl] at h1; cases h1)]
 refine br.of (fun h2 => ?_) (fun h2 => ?_) <;> (conv => whnf)
 ·rw [if_pos ((strEq_iff ..).1 h2)]
  refine ⟨by decide, .inl ?_⟩
  intro g H2 hle hrd
  (conv => whnf)
  exact ⟨⟨_, _, _, rfl, rfl, fun e => (nomatch e), fun a e => by injection e with e; subst e; exact hrd⟩, rfl⟩
 rw [if_neg (fun h => by rw [h, str_refl] at h2; cases h2)]
 refine br.of (fun h3 => ?_) (fun h3 => ?_) <;> (conv => whnf)
 ·rw [if_pos ((strEq_iff ..).1 h3)]
  refine ⟨by decide, .inl ?_⟩
  intro g H2 hle hrd
  (conv => whnf)
  exact ⟨⟨_, _, _, rfl, rfl, fun e => (nomatch e), fun a e => by injection e with e; subst e; exact hrd⟩, rfl⟩
 rw [if_neg (fun h => by rw [h, str_refl] at h3; cases h3)]
 exact ⟨⟨_, _, _, rfl, rfl, fun _ => rfl, fun a e => (nomatch e)⟩, rfl⟩
theorem texts0 (f id own : ByteArray) (H : Hp) : CallO Tryz.prog 60 [.si (.ag [.val (.string f), .val (.string id), .val (.string own)])] H [] fun e H' G' => RetV (bL (textsOf ⟨f, id, own⟩)) e H' ∧ G' = [] := by
 unfold textsOf
 dsimp only
 refine CallO.of_body tab Tryz.func60 rfl (nt := Tryz.f60.ntmps) rfl (by kernel_rfl) ?_
 (conv => whnf)
 refine br.of (fun h1 => ?_) (fun h1 => ?_) <;> (conv => whnf)
 ·rw [if_pos ((strEq_iff ..).1 h1)]
  refine ⟨by decide, .inl ?_⟩
  intro g H2 hle hrd
  (conv => whnf)
  exact ⟨⟨_, _, _, rfl, rfl, fun e => (nomatch e), fun a e => by injection e with e; subst e; exact hrd⟩, rfl⟩
 rw [if_neg (fun h => by rw [h, str_refl] at h1; cases h1)]
 refine ⟨by decide, .inl ?_⟩
 intro g H2 hle hrd
 (conv => whnf)
 exact ⟨⟨_, _, _, rfl, rfl, fun e => (nomatch e), fun a e => by injection e with e; subst e; exact hrd⟩, rfl⟩
end Go.Kx.Su
namespace Go.Kx.Su
open Go.Proofs Go.Kx Go.RowKit Go.Kx.Js Go.Kx.Pr Go.Kx.Rt Go.Kx.Ob Go.Kx.Wo Go.Kx.Cl Go.Kx.Pa
set_option maxRecDepth 20000
set_option linter.unusedSimpArgs false
def RJ2 (x : J × Int) (e : SE) (H' : Hp) : Prop := ∃ k y t A n c B m f, e = .ret (.tu [.ag [.val (.int .i64 k), .val (.bool y), .val (.string t), .val (.slice A n c), .val (.slice B m f)], .ce (.val (.int .i64 x.2))]) ∧ JAt H' x.1 [.int .i64 k, .bool y, .string t, .slice A n c, .slice B m f]
def subValP (x : Sub) : J × Int := if subRight x then (subJ x, 0) else (jNone, 10)
theorem stC_bL (L : List ByteArray) : stC (bL L) = L.map Value.string := by
 unfold stC bL
 rw [List.map_map]
 refine List.map_congr_left fun x _ => ?_
 show Value.string ⟨x.data.toList.toArray⟩ = _
 cases x; simp
theorem names_len {x : Sub} (h : subRight x = true) : (namesOf x.fmt).length = (textsOf x).length ∧ (textsOf x).length ≤ 2 ∧ 0 < (textsOf x).length := by
 rcases sub_cases h with ⟨id, rfl, h1⟩ | ⟨id, rfl, h1, h2⟩ | ⟨id, own, rfl, h1, h2⟩
 ·exact ⟨rfl, Nat.le_succ _, Nat.zero_lt_succ _⟩
 ·exact ⟨rfl, Nat.le_succ _, Nat.zero_lt_succ _⟩
 ·exact ⟨rfl, Nat.le_refl _, Nat.zero_lt_succ _⟩
theorem objO (ms : Ms) (zs : List Value) (h0 : 0 < ms.length) (hml : ms.length ≤ 1000000) (H : Hp) (hm : MsAt H ms zs) : CallO Tryz.prog 18 [.si (.ce (.self 0))] H [.row 52 6 ms.length zs] fun e H' G' =>
  (∃ B d, e = .ret (agJ 6 false ⟨#[]⟩ none 0 0 B ms.length d) ∧ JAt H' (objJ ms) [.int .i64 6, .bool false, .string ⟨#[]⟩, .slice none 0 0, .slice B ms.length d]) ∧ G' = [.dead] := by
 refine CallO.eat 0 (t := 52) (sz := 6) (n := ms.length) (xs := zs) rfl (fun h => by omega) ?_
 intro x H2 hle hfr
 obtain ⟨A, cap, rfl, hv⟩ := Js.RdV.of_frozen hfr
 refine (CallS.use (obj_ ms hml A cap zs H2 (hm.mono hle) hv h0) [] rfl rfl trivial ?_).to
 rintro e H' G' hle2 ⟨⟨B, d, rfl, hj⟩, rfl⟩
 (conv => whnf)
 exact ⟨⟨B, d, rfl, hj⟩, rfl⟩
theorem value0 (f id own : ByteArray) (H : Hp) : CallO Tryz.prog 29 [.si (.ag [.val (.string f), .val (.string id), .val (.string own)])] H [] fun e H' G' => RJ2 (subValP ⟨f, id, own⟩) e H' ∧ H.Le H' ∧ G' = [] := by
 unfold subValP
 refine CallO.of_body tab Tryz.func29 rfl (nt := Tryz.f29.ntmps) rfl (by kernel_rfl) ?_
 (conv => whnf)
 refine ⟨⟨_, Tryz.func34, rfl, by kernel_rfl⟩, CallS.use (right0 f id own H) [] rfl rfl trivial ?_⟩
 rintro e H1 G' hle1 ⟨rfl, rfl⟩
 cases hr : subRight ⟨f, id, own⟩
 all_goals (conv => whnf)
 ·exact ⟨⟨_, _, _, _, _, _, _, _, _, rfl, .bare 0 false ⟨#[]⟩⟩, hle1, rfl⟩
 refine ⟨⟨_, Tryz.func31, rfl, by kernel_rfl⟩, CallS.use (Ob.str_ f H1) [] rfl rfl trivial ?_⟩
 rintro e H2 G' hle2 ⟨rfl, rfl, rfl⟩
 (conv => whnf)
 refine ⟨by decide, .inr ?_⟩
 refine ⟨rfl, ?_⟩
 (conv => whnf)
 refine ⟨⟨_, Tryz.func60, rfl, by kernel_rfl⟩, CallS.use (texts0 f id own H2) [] rfl rfl trivial ?_⟩
 rintro e H3 G' hle3 ⟨⟨B, m, cc, rfl, hv⟩, rfl⟩
 have hm : m = (textsOf ⟨f, id, own⟩).length := by have := hv.1; rw [stC_len] at this; simpa [bL] using this
 subst hm
 rw [stC_bL] at hv
 obtain ⟨n1, n2, n3⟩ := names_len hr
 have hle13 := (hle1.trans hle2).trans hle3
 have hms : subMs ⟨f, id, own⟩ = (sFormat, strJ f) :: List.zip (namesOf f) ((textsOf ⟨f, id, own⟩).map strJ) := rfl
 have hsubJ : subJ ⟨f, id, own⟩ = objJ (subMs ⟨f, id, own⟩) := rfl
 dsimp only at n1 n2 n3
 generalize textsOf ⟨f, id, own⟩ = L at *
 have hlen : (subMs ⟨f, id, own⟩).length = L.length + 1 := by rw [hms]; simp; omega
 (conv => whnf)
 refine WS.loop (fun k' F H4 G => ∃ (i : Nat) (zs : List Value), i ≤ L.length ∧ MsAt H4 ((subMs ⟨f, id, own⟩).take (i + 1)) zs ∧ k' = L.length - i ∧ F = [(1, .si (.ce (.ptr 0 0))), (2, .si (.ce (.ptr 1 0))), (3, pv (.int .i64 0)), (4, .si (.ce (.self 2))), (17, pv (.slice B L.length cc)), (18, pv (.int .i64 L.length)), (19, pv (.int .i64 i))] ∧ H3.Le H4 ∧ G = [.box 23 [.val (.string f), .val (.string id), .val (.string own)], .box 34 [.val (.int .i64 0), .val (.bool false), .val (.string ⟨#[]⟩), .val (.slice none 0 0), .val (.slice none 0 0)], .row 52 6 (i + 1) zs]) (L.length + 1) ?_ ?_
 ·have h0 : MsAt H3 ((subMs ⟨f, id, own⟩).take (0 + 1)) [.string sFormat, .int .i64 4, .bool false, .string f, .slice none 0 0, .slice none 0 0] := by rw [hms]; exact .cons (.bare 4 false f) .nil
  refine ⟨L.length, by omega, _, _, [0, 1, 2], ⟨0, [.string sFormat, .int .i64 4, .bool false, .string f, .slice none 0 0, .slice none 0 0], by omega, h0, rfl, rfl, .refl _, rfl⟩, ?_⟩
  exact ⟨rfl, ⟨rfl, rfl, rfl, trivial⟩, rfl, rfl, rfl, rfl, rfl, rfl, rfl, trivial⟩
 rintro k' F H4 G hle4 ⟨i, zs, hi, hmz, rfl, rfl, hle5, rfl⟩
 refine codeL.go tab ?_
 (conv => whnf)
 refine br.of (fun h7 => ?_) (fun h7 => ?_) <;> (conv => whnf)
 ·have h7 := of_decide_eq_true h7
  have hil : i < L.length := by omega
  have hgetL : (L.map Value.string)[i]? = some (.string (L[i]'hil)) := by simp [hil]
  have hmem : (subMs ⟨f, id, own⟩)[i + 1]? = some ((namesOf f)[i]'(by omega), strJ (L[i]'hil)) := by rw [hms]; simp [hil, List.getElem?_zip_eq_some, n1]
  have hnm : (stC (bL (namesOf f)))[i]? = some (.string ((namesOf f)[i]'(by omega))) := by rw [stC_bL]; simp [n1, hil]
  generalize L[i]'hil = tx at *
  generalize (namesOf f)[i]'(by omega) = nm at *
  have hzl := hmz.length
  have htake : (subMs ⟨f, id, own⟩).take (i + 1 + 1) = (subMs ⟨f, id, own⟩).take (i + 1) ++ [(nm, strJ tx)] := by rw [List.take_add_one, hmem]; rfl
  refine ⟨⟨by omega, by omega⟩, hv.addr (by omega), ?_⟩
  (conv => whnf)
  refine ⟨_, (hv.mono hle5).get hgetL (by show (i : Int).toNat * 1 = i; omega), ?_⟩
  (conv => whnf)
  refine WS.draw tab mixed (.take 0 (.take 1 (.take 2 (.take 4 (.take 7 (.alt 3 (.alt 5 (.alt 6 (.alt 8 (.take 9 (.alt 10 (.alt 11 (.take 12 .done) .no) .no)) .no) (.alt 8 (.alt 6 (.take 9 (.alt 10 (.alt 11 (.take 12 .done) .no) .no)) .no) .no)) (.alt 8 (.alt 5 (.alt 6 (.take 9 (.alt 10 (.alt 11 (.take 12 .done) .no) .no)) .no) .no) .no)) .no)))))) (by kernel_rfl) [2] ?_
  (conv => whnf)
  refine And.intro ?_ ?_ <;> (conv => whnf)
  rotate_left
  ·exact trivial
  refine ⟨⟨_, Tryz.func61, rfl, by kernel_rfl⟩, CallS.use (names_ f H4) [] rfl rfl trivial ?_⟩
  rintro e H5 G' hle6 ⟨⟨B2, m2, c2, rfl, hv2⟩, rfl⟩
  have hm2 : m2 = L.length := by have := hv2.1; rw [stC_len] at this; simpa [bL, n1] using this
  subst hm2
  (conv => whnf)
  have hB : ∀ {m2 : Nat} {B2 : Option Addr} {H5 : Hp}, VAt H5 B2 m2 (stC (bL (namesOf f))) → m2 = L.length := fun h => by have := h.1; rw [stC_len] at this; simpa [bL, n1] using this
  have ho : (i : Int).toNat * 1 = i := by omega
  have hone : ∀ u ∈ [Value.string nm, .int .i64 4, .bool false, .string tx, .slice none 0 0, .slice none 0 0], u.oneCell' = true := fun u hu => by simp only [List.mem_cons, List.mem_nil_iff, or_false] at hu; rcases hu with rfl | rfl | rfl | rfl | rfl | rfl <;> rfl
  repeat' (first
   | exact trivial
   | exact rfl
   | exact ⟨rfl, rfl, rfl, trivial⟩
   | exact ⟨_, Tryz.func61, rfl, by kernel_rfl⟩
   | exact ⟨_, Tryz.func31, rfl, by kernel_rfl⟩
   | (refine CallS.use (names_ f H4) [] rfl rfl trivial ?_; rintro e H5 G' hle6 ⟨⟨B2, m2, c2, rfl, hv2⟩, rfl⟩; obtain rfl := hB hv2; (conv => whnf))
   | (refine CallS.use (Ob.str_ tx _) [] rfl rfl trivial ?_; rintro e H6 G' hle7 ⟨rfl, rfl, rfl⟩; (conv => whnf))
   | exact ⟨by omega, by omega⟩
   | exact hv2.addr (by omega)
   | (refine ⟨_, hv2.get hnm ho, ?_⟩; (conv => whnf))
   | exact Nat.le_of_ble_eq_true rfl
   | (refine .inl ?_; intro g H7 hle8 hrd; (conv => whnf))
   | (refine ⟨_, rfl, hrd, hone, ?_⟩; (conv => whnf))
   | (refine ⟨by show (i + 1 + 1) * 97 ≤ _; omega, ?_⟩; (conv => whnf))
   | (refine And.intro ?_ ?_ <;> (conv => whnf)))
  all_goals
   have hle38 := ((hle5.trans hle6).trans hle7).trans hle8
   have hms2 : MsAt H7 ((subMs ⟨f, id, own⟩).take (i + 1 + 1)) (zs ++ [.string nm, .int .i64 4, .bool false, .string tx, .slice none 0 0, .slice none 0 0]) := by
    rw [htake]
    exact (hmz.mono ((hle6.trans hle7).trans hle8)).snoc (.bare 4 false tx)
   rw [wrap64 (x := (i : Int) + 1) (by omega) (by omega)]
   refine ⟨L.length - (i + 1), by omega, _, _, [0, 1, 3], ⟨i + 1, _, by omega, hms2, rfl, rfl, hle38, rfl⟩, ?_⟩
   exact ⟨rfl, ⟨rfl, rfl, rfl, trivial⟩, rfl, rfl, rfl, rfl, rfl, rfl, rfl, trivial⟩
 ·have h7 := of_decide_eq_false h7
  obtain rfl : i = L.length := by omega
  rw [List.take_of_length_le (by omega)] at hmz
  have hmz2 : MsAt H4 (subMs ⟨f, id, own⟩) zs := hmz
  have hrow : SB.row 52 6 (L.length + 1) zs = .row 52 6 (subMs ⟨f, id, own⟩).length zs := by rw [hlen]
  refine ⟨⟨_, Tryz.func18, rfl, by kernel_rfl⟩, ?_⟩
  rw [hrow]
  refine CallS.use (objO (subMs ⟨f, id, own⟩) zs (by omega) (by omega) H4 hmz2) [2] rfl rfl ⟨rfl, trivial⟩ ?_
  rintro e H8 G' hle9 ⟨⟨B3, d3, rfl, hj⟩, rfl⟩
  (conv => whnf)
  exact ⟨⟨_, _, _, _, _, _, _, _, _, rfl, hj⟩, (hle13.trans hle5).trans hle9, rfl⟩
theorem value_ (x : Sub) (H : Hp) : CallO Tryz.prog 29 [agS x] H [] fun e H' G' => RJ2 (subValP x) e H' ∧ H.Le H' ∧ G' = [] := value0 x.fmt x.id x.own H
end Go.Kx.Su
namespace Go.Kx.Su
open Go.Proofs Go.Kx Go.RowKit Go.Kx.Js Go.Kx.Pr Go.Kx.Rt Go.Kx.Ob Go.Kx.Wo Go.Kx.Cl Go.Kx.Pa
set_option maxRecDepth 20000
set_option linter.unusedSimpArgs false
theorem sm_len {j : J} (h : smJ j) : j.mems.length ≤ 1000000 := by
 obtain ⟨k, y, t, js, ms⟩ := j
 exact h.2.2.1
theorem member_ (j : J) (hl : j.mems.length ≤ 1000000) (s : ByteArray) (k : Int) (y : Bool) (t : ByteArray) (A : Option Addr) (n c : Nat) (B : Option Addr) (m d : Nat) (H : Hp) (hj : JAt H j [.int .i64 k, .bool y, .string t, .slice A n c, .slice B m d]) :
  CallO Tryz.prog 79 [agJ k y t A n c B m d, pv (.string s)] H [] fun e H' G' => e = .ret (.tu [.ce (.val (.string (memT j s).1)), .ce (.val (.bool (memT j s).2))]) ∧ H' = H ∧ G' = [] := by
 unfold memT
 refine CallO.of_body tab Tryz.func79 rfl (nt := Tryz.f79.ntmps) rfl (by kernel_rfl) ?_
 (conv => whnf)
 refine ⟨⟨_, Tryz.func41, rfl, by kernel_rfl⟩, CallS.use (get_ j k y t A n c B m d s H hj hl) [] rfl rfl trivial ?_⟩
 rintro e H1 G' hle1 ⟨rfl, hg, rfl⟩
 cases hgj : j.get s with
 | none =>
  rw [hgj] at hg
  obtain rfl := hg
  (conv => whnf)
  refine WS.draw tab mixed (.take 0 (.take 1 (.take 2 (.take 3 (.take 4 (.take 5 (.take 6 (.take 7 (.take 8 (.take 9 .done)))))))))) (by kernel_rfl) [] ?_
  (conv => whnf)
  repeat' (first
   | exact trivial
   | exact rfl
   | exact ⟨rfl, rfl, rfl⟩
   | (refine And.intro ?_ ?_ <;> (conv => whnf)))
 | some q =>
  rw [hgj] at hg
  obtain ⟨k2, y2, t2, A2, n2, c2, B2, m2, d2, rfl, hj2⟩ := hg
  obtain ⟨rfl, rfl⟩ : k2 = q.kind ∧ t2 = q.text := by cases hj2; exact ⟨rfl, rfl⟩
  (conv => whnf)
  refine WS.draw tab mixed (.take 0 (.take 1 (.take 2 (.take 3 (.take 4 (.take 5 (.take 6 (.take 7 (.take 8 (.take 9 .done)))))))))) (by kernel_rfl) [] ?_
  (conv => whnf)
  repeat' (first
   | exact trivial
   | exact rfl
   | exact ⟨rfl, rfl, rfl⟩
   | (refine And.intro ?_ ?_ <;> (conv => whnf)))
theorem show0 (f id own : ByteArray) (h1 : f.size ≤ 10000) (h2 : id.size ≤ 10000) (h3 : own.size ≤ 10000) (H : Hp) : CallO Tryz.prog 25 [.si (.ag [.val (.string f), .val (.string id), .val (.string own)])] H [] fun e H' G' => e = .ret (pv (.string (if f = sIssSub then f ++ ⟨#[58]⟩ ++ own ++ ⟨#[32]⟩ ++ id else f ++ ⟨#[58]⟩ ++ id))) ∧ H' = H ∧ G' = [] := by
 refine CallO.of_body tab Tryz.func25 rfl (nt := Tryz.f25.ntmps) rfl (by kernel_rfl) ?_
 (conv => whnf)
 have z : ∀ a b : ByteArray, (a ++ b).size = a.size + b.size := fun a b => ByteArray.size_append
 have z1 : (⟨#[58]⟩ : ByteArray).size = 1 := rfl
 have z2 : (⟨#[32]⟩ : ByteArray).size = 1 := rfl
 refine br.of (fun h4 => ?_) (fun h4 => ?_) <;> (conv => whnf)
 ·rw [if_pos ((strEq_iff ..).1 h4)]
  refine ⟨by omega, ?_⟩
  (conv => whnf)
  refine ⟨by rw [z]; omega, ?_⟩
  (conv => whnf)
  refine ⟨by rw [z, z]; omega, ?_⟩
  (conv => whnf)
  refine ⟨by rw [z, z, z]; omega, ?_⟩
  (conv => whnf)
  exact ⟨rfl, rfl, rfl⟩
 ·rw [if_neg (fun h => by rw [h, str_refl] at h4; cases h4)]
  refine ⟨by omega, ?_⟩
  (conv => whnf)
  refine ⟨by rw [z]; omega, ?_⟩
  (conv => whnf)
  exact ⟨rfl, rfl, rfl⟩
def RS (x : Sub × Int) (e : SE) : Prop := e = .ret (.tu [.ag [.val (.string x.1.fmt), .val (.string x.1.id), .val (.string x.1.own)], .ce (.val (.int .i64 x.2))])
theorem of_ (j : J) (hs : smJ j) (k : Int) (y : Bool) (t : ByteArray) (A : Option Addr) (n c : Nat) (B : Option Addr) (m d : Nat) (H : Hp) (hj : JAt H j [.int .i64 k, .bool y, .string t, .slice A n c, .slice B m d]) :
  CallO Tryz.prog 43 [agJ k y t A n c B m d] H [] fun e H' G' => RS (subOf j) e ∧ H.Le H' ∧ G' = [] := by
 have hl := sm_len hs
 have hmd : m = j.mems.length := by cases hj; assumption
 unfold subOf
 refine CallO.of_body tab Tryz.func43 rfl (nt := Tryz.f43.ntmps) rfl (by kernel_rfl) ?_
 (conv => whnf)
 refine ⟨⟨_, Tryz.func79, rfl, by kernel_rfl⟩, CallS.use (member_ j hl sFormat k y t A n c B m d H hj) [] rfl rfl trivial ?_⟩
 rintro e H1 G' hle1 ⟨rfl, rfl, rfl⟩
 generalize (memT j sFormat).1 = f
 cases hok : (memT j sFormat).2
 all_goals (conv => whnf)
 all_goals refine ⟨⟨_, Tryz.func61, rfl, by kernel_rfl⟩, CallS.use (names_ f H1) [] rfl rfl trivial ?_⟩
 all_goals rintro e H2 G' hle2 ⟨⟨B2, m2, c2, rfl, hv2⟩, rfl⟩
 all_goals (conv => whnf)
 ·exact ⟨rfl, hle2, rfl⟩
 have hm2 : m2 = (namesOf f).length := by have := hv2.1; rw [stC_len] at this; simpa [bL] using this
 have hc : f = sOpaque ∨ f = sEmail ∨ f = sIssSub ∨ namesOf f = [] := by
  unfold namesOf
  by_cases h1 : f = sOpaque
  ·exact .inl h1
  by_cases h2 : f = sEmail
  ·exact .inr (.inl h2)
  by_cases h3 : f = sIssSub
  ·exact .inr (.inr (.inl h3))
  rw [if_neg h1, if_neg h2, if_neg h3]
  exact .inr (.inr (.inr rfl))
 rw [if_neg (by decide)]
 have noneed : ∀ {f : ByteArray}, namesOf f = [] → (if namesOf f = [] then (sub0, 42) else
  if rightJ j = false ∨ List.length j.mems ≠ (namesOf f).length + 1 then (sub0, 10) else
  if f = sIssSub then (if ((memT j sSub).snd && (memT j sIss).snd && subRight { fmt := f, id := (memT j sSub).fst, own := (memT j sIss).fst }) = true then ({ fmt := f, id := (memT j sSub).fst, own := (memT j sIss).fst }, 0) else (sub0, 10)) else
  if ((memT j ((namesOf f).getD 0 { data := #[] })).snd && subRight { fmt := f, id := (memT j ((namesOf f).getD 0 { data := #[] })).fst, own := { data := #[] } }) = true then ({ fmt := f, id := (memT j ((namesOf f).getD 0 { data := #[] })).fst, own := { data := #[] } }, 0) else (sub0, 10)) = ((sub0, 42) : Sub × Int) := fun h => if_pos h
 rcases hc with rfl | rfl | rfl | hf
 rotate_right
 ·rw [noneed hf]
  rw [hf] at hm2
  obtain rfl : m2 = 0 := hm2
  (conv => whnf)
  exact ⟨rfl, hle2, rfl⟩
 ·rw [if_neg (by decide), if_neg (show ¬ sOpaque = sIssSub by decide)]
  obtain rfl : m2 = 1 := hm2
  have e0 : (namesOf sOpaque).length + 1 = 2 := rfl
  have w2 : IntKind.i64.wrap (((1 : Nat) : Int) + 1) = 2 := by decide
  have w0 : IntKind.i64.wrap (((1 : Nat) : Int) - 1) = 1 - 1 := by decide
  have hget : (stC (bL (namesOf sOpaque)))[1 - 1]? = some (.string sId) := rfl
  rw [e0, show (namesOf sOpaque).getD 0 ⟨#[]⟩ = sId from rfl]
  (conv => whnf)
  refine ⟨⟨_, Tryz.func37, rfl, by kernel_rfl⟩, CallS.use (Rt.right_ _ j (Nat.lt_succ_self _) hs k y t A n c B m d H2 (hj.mono hle2)) [] rfl rfl trivial ?_⟩
  rintro e H3 G' hle3 ⟨rfl, hle4, rfl⟩
  cases hrj : rightJ j
  all_goals (conv => whnf)
  ·exact ⟨rfl, hle2.trans hle3, rfl⟩
  rw [w2]
  refine br.of (fun h5 => ?_) (fun h5 => ?_) <;> (conv => whnf)
  ·simp only [bne_iff_ne, ne_eq] at h5
   rw [if_pos (.inr (by omega))]
   exact ⟨rfl, hle2.trans hle3, rfl⟩
  simp only [bne_eq_false_iff_eq] at h5
  have hno : ¬ (true = false ∨ j.mems.length ≠ 2) := by
   rintro (h | h)
   ·cases h
   ·omega
  rw [if_neg hno]
  have hmem := fun H3 (hle : H2.Le H3) => member_ j hl sId k y t A n c B m d H3 ((hj.mono hle2).mono hle)
  have hfin := hle2.trans hle3
  generalize memT j sId = p at hmem ⊢
  obtain ⟨q, b⟩ := p
  cases b
  all_goals
   refine WS.draw tab mixed (.take 0 (.take 1 (.take 2 (.take 3 (.take 4 (.take 5 (.take 6 (.alt 7 (.take 8 (.take 9 (.take 10 (.take 11 (.alt 12 (.take 13 .done) .no))))) .no)))))))) (by kernel_rfl) [2] ?_
   (conv => whnf)
   refine ⟨by rw [w0]; decide, hv2.addr (by decide), ?_⟩
   (conv => whnf)
   refine ⟨_, ((hv2.mono hle3).get hget (by show (IntKind.i64.wrap _).toNat * 1 = _; rw [w0]; rfl)), ?_⟩
   (conv => whnf)
   repeat' (first
    | exact trivial
    | exact rfl
    | exact ⟨rfl, rfl, trivial⟩
    | exact ⟨rfl, hfin, rfl⟩
    | exact ⟨_, Tryz.func79, rfl, by kernel_rfl⟩
    | exact ⟨_, Tryz.func34, rfl, by kernel_rfl⟩
    | (refine CallS.use (hmem _ hle3) [] rfl rfl trivial ?_; rintro e H4 G' hle5 ⟨rfl, rfl, rfl⟩; (conv => whnf))
    | (refine CallS.use (right0 sOpaque q ⟨#[]⟩ _) [] rfl rfl trivial ?_; rintro e H5 G' hle6 ⟨rfl, rfl⟩; have hfin := hfin.trans hle6; cases subRight ⟨sOpaque, q, ⟨#[]⟩⟩ <;> (conv => whnf))
    | (refine And.intro ?_ ?_ <;> (conv => whnf)))
 ·rw [if_neg (by decide), if_neg (show ¬ sEmail = sIssSub by decide)]
  obtain rfl : m2 = 1 := hm2
  have e0 : (namesOf sEmail).length + 1 = 2 := rfl
  have w2 : IntKind.i64.wrap (((1 : Nat) : Int) + 1) = 2 := by decide
  have w0 : IntKind.i64.wrap (((1 : Nat) : Int) - 1) = 1 - 1 := by decide
  have hget : (stC (bL (namesOf sEmail)))[1 - 1]? = some (.string sEmail) := rfl
  rw [e0, show (namesOf sEmail).getD 0 ⟨#[]⟩ = sEmail from rfl]
  (conv => whnf)
  refine ⟨⟨_, Tryz.func37, rfl, by kernel_rfl⟩, CallS.use (Rt.right_ _ j (Nat.lt_succ_self _) hs k y t A n c B m d H2 (hj.mono hle2)) [] rfl rfl trivial ?_⟩
  rintro e H3 G' hle3 ⟨rfl, hle4, rfl⟩
  cases hrj : rightJ j
  all_goals (conv => whnf)
  ·exact ⟨rfl, hle2.trans hle3, rfl⟩
  rw [w2]
  refine br.of (fun h5 => ?_) (fun h5 => ?_) <;> (conv => whnf)
  ·simp only [bne_iff_ne, ne_eq] at h5
   rw [if_pos (.inr (by omega))]
   exact ⟨rfl, hle2.trans hle3, rfl⟩
  simp only [bne_eq_false_iff_eq] at h5
  have hno : ¬ (true = false ∨ j.mems.length ≠ 2) := by
   rintro (h | h)
   ·cases h
   ·omega
  rw [if_neg hno]
  have hmem := fun H3 (hle : H2.Le H3) => member_ j hl sEmail k y t A n c B m d H3 ((hj.mono hle2).mono hle)
  have hfin := hle2.trans hle3
  generalize memT j sEmail = p at hmem ⊢
  obtain ⟨q, b⟩ := p
  cases b
  all_goals
   refine WS.draw tab mixed (.take 0 (.take 1 (.take 2 (.take 3 (.take 4 (.take 5 (.take 6 (.alt 7 (.take 8 (.take 9 (.take 10 (.take 11 (.alt 12 (.take 13 .done) .no))))) .no)))))))) (by kernel_rfl) [2] ?_
   (conv => whnf)
   refine ⟨by rw [w0]; decide, hv2.addr (by decide), ?_⟩
   (conv => whnf)
   refine ⟨_, ((hv2.mono hle3).get hget (by show (IntKind.i64.wrap _).toNat * 1 = _; rw [w0]; rfl)), ?_⟩
   (conv => whnf)
   repeat' (first
    | exact trivial
    | exact rfl
    | exact ⟨rfl, rfl, trivial⟩
    | exact ⟨rfl, hfin, rfl⟩
    | exact ⟨_, Tryz.func79, rfl, by kernel_rfl⟩
    | exact ⟨_, Tryz.func34, rfl, by kernel_rfl⟩
    | (refine CallS.use (hmem _ hle3) [] rfl rfl trivial ?_; rintro e H4 G' hle5 ⟨rfl, rfl, rfl⟩; (conv => whnf))
    | (refine CallS.use (right0 sEmail q ⟨#[]⟩ _) [] rfl rfl trivial ?_; rintro e H5 G' hle6 ⟨rfl, rfl⟩; have hfin := hfin.trans hle6; cases subRight ⟨sEmail, q, ⟨#[]⟩⟩ <;> (conv => whnf))
    | (refine And.intro ?_ ?_ <;> (conv => whnf)))
 ·rw [if_neg (by decide), if_pos (show sIssSub = sIssSub from rfl)]
  obtain rfl : m2 = 2 := hm2
  have e0 : (namesOf sIssSub).length + 1 = 3 := rfl
  have w2 : IntKind.i64.wrap (((2 : Nat) : Int) + 1) = 3 := by decide
  have w0 : IntKind.i64.wrap (((2 : Nat) : Int) - 1) = 2 - 1 := by decide
  have hget : (stC (bL (namesOf sIssSub)))[2 - 1]? = some (.string sSub) := rfl
  rw [e0]
  (conv => whnf)
  refine ⟨⟨_, Tryz.func37, rfl, by kernel_rfl⟩, CallS.use (Rt.right_ _ j (Nat.lt_succ_self _) hs k y t A n c B m d H2 (hj.mono hle2)) [] rfl rfl trivial ?_⟩
  rintro e H3 G' hle3 ⟨rfl, hle4, rfl⟩
  cases hrj : rightJ j
  all_goals (conv => whnf)
  ·exact ⟨rfl, hle2.trans hle3, rfl⟩
  rw [w2]
  refine br.of (fun h5 => ?_) (fun h5 => ?_) <;> (conv => whnf)
  ·simp only [bne_iff_ne, ne_eq] at h5
   rw [if_pos (.inr (by omega))]
   exact ⟨rfl, hle2.trans hle3, rfl⟩
  simp only [bne_eq_false_iff_eq] at h5
  have hno : ¬ (true = false ∨ j.mems.length ≠ 3) := by
   rintro (h | h)
   ·cases h
   ·omega
  rw [if_neg hno]
  have hmem := fun H3 (hle : H2.Le H3) => member_ j hl sSub k y t A n c B m d H3 ((hj.mono hle2).mono hle)
  have hfin := hle2.trans hle3
  have hget2 : (stC (bL (namesOf sIssSub)))[0]? = some (.string sIss) := rfl
  have hmem2 := fun H3 (hle : H2.Le H3) => member_ j hl sIss k y t A n c B m d H3 ((hj.mono hle2).mono hle)
  generalize memT j sSub = p at hmem ⊢
  generalize memT j sIss = p2 at hmem2 ⊢
  obtain ⟨q, b⟩ := p
  obtain ⟨q2, b2⟩ := p2
  cases b <;> cases b2
  all_goals
   refine WS.draw tab mixed (.take 0 (.take 1 (.take 2 (.take 3 (.take 4 (.take 5 (.take 6 (.alt 7 (.take 8 (.take 9 (.take 10 (.take 11 (.alt 12 (.take 13 .done) .no))))) .no)))))))) (by kernel_rfl) [2] ?_
   (conv => whnf)
   refine ⟨by rw [w0]; decide, hv2.addr (by decide), ?_⟩
   (conv => whnf)
   refine ⟨_, ((hv2.mono hle3).get hget (by show (IntKind.i64.wrap _).toNat * 1 = _; rw [w0]; rfl)), ?_⟩
   (conv => whnf)
   repeat' (first
    | exact trivial
    | exact rfl
    | exact ⟨rfl, rfl, trivial⟩
    | exact ⟨rfl, hfin, rfl⟩
    | exact ⟨_, Tryz.func79, rfl, by kernel_rfl⟩
    | exact ⟨_, Tryz.func34, rfl, by kernel_rfl⟩
    | (refine CallS.use (hmem _ hle3) [] rfl rfl trivial ?_; rintro e H4 G' hle5 ⟨rfl, rfl, rfl⟩; (conv => whnf))
    | (refine ⟨⟨by decide, by decide⟩, hv2.addr (by decide), ?_⟩; (conv => whnf))
    | (refine ⟨_, ((hv2.mono hle3).get hget2 rfl), ?_⟩; (conv => whnf))
    | (refine WS.draw tab mixed (.take 0 (.take 1 (.take 2 (.take 3 (.alt 4 (.take 5 (.take 6 (.take 7 (.take 8 (.alt 9 (.take 10 .done) .no))))) .no))))) (by kernel_rfl) [2] ?_; (conv => whnf))
    | (refine CallS.use (hmem2 _ hle3) [] rfl rfl trivial ?_; rintro e H4 G' hle5 ⟨rfl, rfl, rfl⟩; (conv => whnf))
    | (refine CallS.use (right0 sIssSub q q2 _) [] rfl rfl trivial ?_; rintro e H5 G' hle6 ⟨rfl, rfl⟩; have hfin := hfin.trans hle6; cases subRight ⟨sIssSub, q, q2⟩ <;> (conv => whnf))
    | (refine And.intro ?_ ?_ <;> (conv => whnf)))
end Go.Kx.Su
