/- Values as texts: what is told stays told when it is written; what is written is read again. No condition of its own. -/
import Derived.Test.YthffabmjfnnnaaaGreatDoorMQ11
import Derived.Test.YthffabmjfnnnaaaGreatDoorProg
namespace Go.Kx.Ro
open Go.Proofs Go.Kx Go.RowKit Go.Kx.Js Go.Kx.Pr
set_option maxRecDepth 20000
set_option linter.unusedSimpArgs false
inductive Told : List UInt8 → Prop
 | nil : Told []
 | step {l : List UInt8} {n : Nat} : charP l = n + 1 → Told (l.drop (n + 1)) → Told l
theorem charP_nil : charP [] = 0 := rfl
theorem Told.wrong : ∀ {l : List UInt8}, Told l → ∀ k, l.length < k → wrongP k l = none
 | _, .nil, k, h => by
  cases k with
  | zero => omega
  | succ k => rfl
 | l, .step (n := n) h1 h2, k, h => by
  cases l with
  | nil => rw [charP_nil] at h1; omega
  | cons c t =>
   cases k with
   | zero => omega
   | succ k =>
    unfold wrongP
    rw [h1, if_neg (by omega)]
    exact h2.wrong k (by simp only [List.length_drop, List.length_cons] at h ⊢; omega)
theorem told_of : ∀ (k : Nat) (l : List UInt8), l.length < k → wrongP k l = none → Told l
 | 0, l, h, _ => by omega
 | k + 1, [], _, _ => .nil
 | k + 1, c :: t, h, hw => by
  unfold wrongP at hw
  by_cases h0 : charP (c :: t) = 0
  ·rw [if_pos h0] at hw; cases hw
  ·rw [if_neg h0] at hw
   obtain ⟨n, hn⟩ : ∃ n, charP (c :: t) = n + 1 := ⟨charP (c :: t) - 1, by omega⟩
   rw [hn] at hw
   exact .step hn (told_of k _ (by simp only [List.length_drop, List.length_cons] at h ⊢; omega) hw)
theorem toldP_iff (s : ByteArray) : toldP s = true ↔ Told (tL s) := by
 unfold toldP wrongI
 rw [decide_eq_true_eq]
 cases h : wrongP ((tL s).length + 1) (tL s) with
 | none => exact ⟨fun _ => told_of _ _ (by omega) h, fun _ => by show (-1 : Int) < 0; omega⟩
 | some r =>
  constructor
  ·intro h2
   have : ((Js.pos s r : Nat) : Int) < 0 := h2
   omega
  ·intro h2
   rw [h2.wrong _ (by omega)] at h
   cases h
theorem inSp_app : ∀ (sp : Spans) (t x : List UInt8), inSp sp t = true → inSp sp (t.take sp.length ++ x) = true
 | [], t, x, _ => by simp [inSp]
 | p :: r, [], x, h => by simp [inSp] at h
 | p :: r, c :: t, x, h => by
  simp only [inSp, Bool.and_eq_true] at h
  simp only [List.length_cons, List.take_succ_cons, List.cons_append, inSp, Bool.and_eq_true]
  exact ⟨h.1, inSp_app r t x h.2⟩
theorem charP_cons (c : UInt8) (t : List UInt8) : charP (c :: t) = match behindP c.toNat with
 | none => 0
 | some sp => if t.length + 1 ≤ sp.length then 0 else if inSp sp t then 1 + sp.length else 0 := rfl
theorem charP_take {l : List UInt8} {n : Nat} (h : charP l = n + 1) (x : List UInt8) : charP (l.take (n + 1) ++ x) = n + 1 := by
 cases l with
 | nil => rw [charP_nil] at h; omega
 | cons c t =>
  rw [List.take_succ_cons, List.cons_append, charP_cons]
  rw [charP_cons] at h
  cases hb : behindP c.toNat with
  | none => rw [hb] at h; simp at h
  | some sp =>
   rw [hb] at h
   simp only at h ⊢
   by_cases hl : t.length + 1 ≤ sp.length
   ·rw [if_pos hl] at h; omega
   ·rw [if_neg hl] at h
    by_cases hi : inSp sp t = true
    ·rw [if_pos hi] at h
     obtain rfl : n = sp.length := by omega
     rw [if_neg (by simp only [List.length_cons, List.length_append, List.length_take]; omega), if_pos (inSp_app sp t x hi)]
     omega
    ·rw [if_neg hi] at h; omega
theorem Told.app_take {l : List UInt8} {n : Nat} (h : charP l = n + 1) {x : List UInt8} (hx : Told x) : Told (l.take (n + 1) ++ x) := by
 have hle := charP_le l
 refine .step (charP_take h x) ?_
 have : (l.take (n + 1)).length = n + 1 := by rw [List.length_take]; omega
 rw [List.drop_append_of_le_length (by omega), List.drop_of_length_le (by omega)]
 exact hx
theorem Told.append : ∀ {a : List UInt8}, Told a → ∀ {b : List UInt8}, Told b → Told (a ++ b)
 | _, .nil, b, hb => hb
 | l, .step (n := n) h1 h2, b, hb => by
  have := Told.app_take h1 (h2.append hb)
  rwa [← List.append_assoc, List.take_append_drop] at this
theorem charP_one {c : UInt8} (h : c.toNat < 128) (t : List UInt8) : charP (c :: t) = 0 + 1 := by
 have hb : behindP c.toNat = some [] := by unfold behindP; rw [if_pos h]
 rw [charP_cons, hb]
 simp [inSp]
theorem Told.cons {c : UInt8} (h : c.toNat < 128) {t : List UInt8} (ht : Told t) : Told (c :: t) := .step (charP_one h t) ht
theorem Told.ascii : ∀ {l : List UInt8}, l.all (fun c => decide (c.toNat < 128)) = true → Told l
 | [], _ => .nil
 | c :: t, h => by
  simp only [List.all_cons, Bool.and_eq_true, decide_eq_true_eq] at h
  exact .cons h.1 (.ascii h.2)
theorem escB_ascii (c : UInt8) (h : c.toNat < 128) : (escB c).all (fun c => decide (c.toNat < 128)) = true := by
 have h1 : ∀ n : Fin 256, n.val < 128 → (escB (UInt8.ofNat n.val)).all (fun c => decide (c.toNat < 128)) = true := by decide +kernel
 have h2 := h1 ⟨c.toNat, c.toNat_lt⟩ h
 simpa using h2
theorem escB_self (c : UInt8) (h : 128 ≤ c.toNat) : escB c = [c] := by
 have h1 : ∀ n : Fin 256, 128 ≤ n.val → escB (UInt8.ofNat n.val) = [UInt8.ofNat n.val] := by decide +kernel
 have h2 := h1 ⟨c.toNat, c.toNat_lt⟩ h
 simpa using h2
theorem inSp_big : ∀ (sp : Spans) (t : List UInt8), (∀ p ∈ sp, 128 ≤ p.1) → inSp sp t = true → ∀ c ∈ t.take sp.length, 128 ≤ c.toNat
 | [], t, _, _, c, hc => by simp at hc
 | p :: r, [], _, h, c, hc => by simp at hc
 | p :: r, d :: t, hp, h, c, hc => by
  simp only [inSp, Bool.and_eq_true, decide_eq_true_eq] at h
  simp only [List.length_cons, List.take_succ_cons, List.mem_cons] at hc
  rcases hc with rfl | hc
  ·have := hp p (by simp); omega
  ·exact inSp_big r t (fun q hq => hp q (by simp [hq])) h.2 c hc
theorem behind_big {c : Nat} {sp : Spans} (h : behindP c = some sp) (_ : 128 ≤ c) : ∀ p ∈ sp, 128 ≤ p.1 := by
 unfold behindP at h
 repeat' split at h
 all_goals first
  | (cases h; done)
  | (injection h with h; subst h; decide)
theorem flat_self : ∀ (l : List UInt8), (∀ c ∈ l, 128 ≤ c.toNat) → l.flatMap escB = l
 | [], _ => rfl
 | c :: t, h => by
  rw [List.flatMap_cons, escB_self c (h c (by simp)), flat_self t (fun d hd => h d (by simp [hd]))]; rfl
theorem Told.esc : ∀ {l : List UInt8}, Told l → Told (l.flatMap escB)
 | _, .nil => .nil
 | l, .step (n := n) h1 h2 => by
  have ih := h2.esc
  cases l with
  | nil => rw [charP_nil] at h1; omega
  | cons c t =>
   by_cases hc : c.toNat < 128
   ·rw [charP_one hc] at h1
    obtain rfl : n = 0 := by omega
    rw [List.flatMap_cons]
    exact (Told.ascii (escB_ascii c hc)).append ih
   ·have hbig : ∀ d ∈ (c :: t).take (n + 1), 128 ≤ d.toNat := by
     rw [charP_cons] at h1
     cases hb : behindP c.toNat with
     | none => rw [hb] at h1; simp at h1
     | some sp =>
      rw [hb] at h1
      simp only at h1
      by_cases hl : t.length + 1 ≤ sp.length
      ·rw [if_pos hl] at h1; omega
      ·rw [if_neg hl] at h1
       by_cases hi : inSp sp t = true
       ·rw [if_pos hi] at h1
        obtain rfl : n = sp.length := by omega
        intro d hd
        rw [List.take_succ_cons, List.mem_cons] at hd
        rcases hd with rfl | hd
        ·omega
        ·exact inSp_big sp t (behind_big hb (by omega)) hi d hd
       ·rw [if_neg hi] at h1; omega
    have : (c :: t).flatMap escB = (c :: t).take (n + 1) ++ ((c :: t).drop (n + 1)).flatMap escB := by
     conv => lhs; rw [← List.take_append_drop (n + 1) (c :: t)]
     rw [List.flatMap_append, flat_self _ hbig]
    rw [this]
    exact Told.app_take h1 ih
theorem Told.quote {l : List UInt8} (h : Told l) : Told (quoteB l) := by
 unfold quoteB
 exact ((Told.ascii (l := [34]) rfl).append h.esc).append (Told.ascii (l := [34]) rfl)
def escOk (c : UInt8) : Bool :=
 (match escB c with
  | [x, d] => x == 92 && shortB d == some c
  | [a, b, x, y, h1, h2] => a == 92 && b == 117 && x == 48 && y == 48 && hexD h1 == some (c.toNat / 16) && hexD h2 == some (c.toNat % 16) && decide (c.toNat < 32)
  | [x] => x == c && c != 34 && c != 92 && decide (32 ≤ c.toNat)
  | _ => false)
theorem escOk_all (c : UInt8) : escOk c = true := by
 have h1 : ∀ n : Fin 256, escOk (UInt8.ofNat n.val) = true := by decide +kernel
 have h2 := h1 ⟨c.toNat, c.toNat_lt⟩
 simpa using h2
theorem rune_low (n : Nat) (h : n < 32) : runeB (n : Int) = [UInt8.ofNat n] := by
 have h1 : ∀ n : Fin 32, runeB (n.val : Int) = [UInt8.ofNat n.val] := by decide +kernel
 exact h1 ⟨n, h⟩
theorem tk_no {c x : UInt8} {r : List UInt8} (h : x ≠ c) : tk c (x :: r) = none := by simp only [tk]; rw [if_neg h]
theorem tk_yes (c : UInt8) (r : List UInt8) : tk c (c :: r) = some r := by simp [tk]
theorem strP_step (c : UInt8) (k : Nat) (b r : List UInt8) : strP (k + 1) b (escB c ++ r) = strP k (b ++ [c]) r := by
 have h := escOk_all c
 unfold escOk at h
 split at h
 ·rename_i x d he
  simp only [Bool.and_eq_true, beq_iff_eq] at h
  obtain ⟨rfl, h⟩ := h
  rw [he]
  show strP (k + 1) b (92 :: d :: r) = _
  rw [strP_esc (tk_no (by decide)) (tk_yes _ _)]
  simp only [escP, pk, h, Res.bind, List.tail_cons]
 ·rename_i x1 x2 x3 x4 h1 h2 he
  simp only [Bool.and_eq_true, beq_iff_eq, decide_eq_true_eq] at h
  obtain ⟨⟨⟨⟨⟨⟨rfl, rfl⟩, rfl⟩, rfl⟩, e1⟩, e2⟩, h32⟩ := h
  rw [he]
  show strP (k + 1) b (92 :: 117 :: 48 :: 48 :: h1 :: h2 :: r) = _
  rw [strP_esc (tk_no (by decide)) (tk_yes _ _)]
  have hu : unitP (92 :: 117 :: 48 :: 48 :: h1 :: h2 :: r) (48 :: 48 :: h1 :: h2 :: r) = .ok c.toNat r := by
   unfold unitP
   have hx : hexP 4 0 (48 :: 48 :: h1 :: h2 :: r) = .ok c.toNat r := by
    have e0 : hexD 48 = some 0 := rfl
    simp only [hexP, pk, List.tail_cons, e0, e1, e2]
    congr 1
    omega
   rw [hx]
   simp only [Res.bind]
   rw [if_pos (by omega)]
  have hs : shortB 117 = none := by decide
  simp only [escP, pk, hs, tk_no (show (117 : UInt8) ≠ 47 by decide), tk_yes, hu, Res.bind, rune_low _ h32, UInt8.ofNat_toNat]
 ·rename_i x he
  simp only [Bool.and_eq_true, beq_iff_eq, bne_iff_ne, ne_eq, decide_eq_true_eq] at h
  obtain ⟨⟨⟨rfl, h34⟩, h92⟩, h32⟩ := h
  rw [he]
  show strP (k + 1) b (x :: r) = _
  rw [strP_chr (tk_no h34) (tk_no h92) (show ¬ x.toNat < 32 by omega)]
  rfl
 ·cases h
theorem strP_read : ∀ (s : List UInt8) (k : Nat) (b r : List UInt8), s.length < k → strP k b (s.flatMap escB ++ 34 :: r) = .ok (b ++ s) r
 | [], k, b, r, h => by
  cases k with
  | zero => simp at h
  | succ k =>
   show strP (k + 1) b (34 :: r) = _
   rw [strP_end (tk_yes _ _), List.append_nil]
 | c :: s, k, b, r, h => by
  cases k with
  | zero => simp at h
  | succ k =>
   rw [List.flatMap_cons, List.append_assoc, strP_step, strP_read s k _ r (by simpa using h)]
   simp
theorem esc_pos (c : UInt8) : 1 ≤ (escB c).length := by
 have h := escOk_all c
 unfold escOk at h
 cases he : escB c with
 | nil => rw [he] at h; cases h
 | cons a t => simp
theorem flat_len : ∀ s : List UInt8, s.length ≤ (s.flatMap escB).length
 | [] => by simp
 | c :: s => by
  have := esc_pos c
  have := flat_len s
  simp only [List.flatMap_cons, List.length_append, List.length_cons]
  omega
theorem quote_cons (s r : List UInt8) : quoteB s ++ r = 34 :: (s.flatMap escB ++ 34 :: r) := by simp [quoteB]
theorem textP_read (s r : List UInt8) : textP (quoteB s ++ r) = .ok ⟨s.toArray⟩ r := by
 unfold textP mustP
 rw [quote_cons, tk_yes]
 simp only [Res.bind]
 rw [strP_read s _ [] r (by have := flat_len s; simp only [List.length_append]; omega)]
 rfl
def okEnd (r : List UInt8) : Prop := ∀ c, r.head? = some c → c = 44 ∨ c = 125
inductive Pl : Nat → J → Prop
 | str {d : Nat} (s : ByteArray) : Pl d (.mk 4 false s [] [])
 | num {d : Nat} (n : Nat) : n < 9000000000000000000 → Pl d (.mk 3 false ⟨(Lib.decDigits n).toArray⟩ [] [])
 | obj {d : Nat} (ms : List (ByteArray × J)) : (∀ (i : Nat) (s : ByteArray) (j : J), ms[i]? = some (s, j) → Pl d j) → (ms.map (·.1)).Nodup → Pl (d + 1) (.mk 6 false ⟨#[]⟩ [] ms)
theorem digs_all : ∀ (l : List UInt8) (r : List UInt8), l.all isDig = true → (∀ c, r.head? = some c → isDig c = false) → digsP (l ++ r) = r
 | [], [], _, _ => rfl
 | [], c :: r, _, h => by show digsP (c :: r) = _; unfold digsP; rw [h c rfl]; rfl
 | c :: l, r, h, h2 => by
  simp only [List.all_cons, Bool.and_eq_true] at h
  show digsP (c :: (l ++ r)) = _
  unfold digsP
  rw [if_pos h.1]
  exact digs_all l r h.2 h2
theorem dec_dig (u : Nat) : (Lib.decDigits u).all isDig = true := by
 have one : ∀ k, k < 10 → isDig (UInt8.ofNat (48 + k)) = true := by
  have h1 : ∀ n : Fin 10, isDig (UInt8.ofNat (48 + n.val)) = true := by decide
  exact fun k hk => h1 ⟨k, hk⟩
 induction u using Nat.strongRecOn with
 | _ u ih =>
  by_cases h : u < 10
  ·rw [Lib.decDigits_one h]; show (isDig _ && true) = true; rw [one u h]; rfl
  ·rw [Lb.decDigits_big h, List.all_append, ih (u / 10) (by omega)]
   show (true && (isDig _ && true)) = true
   rw [one (u % 10) (by omega)]; rfl
theorem dec_head (u : Nat) (h0 : 0 < u) : ∃ c t, Lib.decDigits u = c :: t ∧ c ≠ 48 := by
 induction u using Nat.strongRecOn with
 | _ u ih =>
  by_cases h : u < 10
  ·refine ⟨_, [], Lib.decDigits_one h, fun hc => ?_⟩
   have := congrArg UInt8.toNat hc
   rw [UInt8.toNat_ofNat'] at this
   have : (48 : UInt8).toNat = 48 := rfl
   omega
  ·obtain ⟨c, t, h1, h2⟩ := ih (u / 10) (by omega) (by omega)
   exact ⟨c, _, by rw [Lb.decDigits_big h, h1]; rfl, h2⟩
theorem isDig_not {c : UInt8} (h : isDig c = true) : c ≠ 45 ∧ c ≠ 110 ∧ c ≠ 116 ∧ c ≠ 102 ∧ c ≠ 34 ∧ c ≠ 91 ∧ c ≠ 123 ∧ isBlank c = false ∧ c.toNat ≠ 110 ∧ c.toNat ≠ 116 ∧ c.toNat ≠ 102 ∧ c.toNat ≠ 34 ∧ c.toNat ≠ 91 ∧ c.toNat ≠ 123 := by
 have h1 : ∀ n : Fin 256, isDig (UInt8.ofNat n.val) = true → (UInt8.ofNat n.val) ≠ 45 ∧ (UInt8.ofNat n.val) ≠ 110 ∧ (UInt8.ofNat n.val) ≠ 116 ∧ (UInt8.ofNat n.val) ≠ 102 ∧ (UInt8.ofNat n.val) ≠ 34 ∧ (UInt8.ofNat n.val) ≠ 91 ∧ (UInt8.ofNat n.val) ≠ 123 ∧ isBlank (UInt8.ofNat n.val) = false ∧ (UInt8.ofNat n.val).toNat ≠ 110 ∧ (UInt8.ofNat n.val).toNat ≠ 116 ∧ (UInt8.ofNat n.val).toNat ≠ 102 ∧ (UInt8.ofNat n.val).toNat ≠ 34 ∧ (UInt8.ofNat n.val).toNat ≠ 91 ∧ (UInt8.ofNat n.val).toNat ≠ 123 := by decide +kernel
 have h2 := h1 ⟨c.toNat, c.toNat_lt⟩
 simp only [UInt8.ofNat_toNat] at h2
 exact h2 h
theorem tkB_end {c : UInt8} {r : List UInt8} (h : okEnd r) (hc : c ≠ 44) (hc2 : c ≠ 125) : tk c r = none := by
 cases r with
 | nil => rfl
 | cons x t =>
  refine tk_no fun hx => ?_
  rcases h x rfl with h1 | h1
  ·exact hc (hx ▸ h1)
  ·exact hc2 (hx ▸ h1)
theorem end_dig {r : List UInt8} (h : okEnd r) : ∀ c, r.head? = some c → isDig c = false := fun c hc => by
 rcases h c hc with rfl | rfl <;> rfl
theorem num_rest {r : List UInt8} (h : okEnd r) (s : List UInt8) (hl : num1 (optP 45 s) = .ok () r) : numberP s = .ok ⟨(s.take (s.length - r.length)).toArray⟩ r := by
 unfold numberP
 rw [hl]
 have h46 : tk 46 r = none := tkB_end h (by decide) (by decide)
 have h101 : tk 101 r = none := tkB_end h (by decide) (by decide)
 have h69 : tk 69 r = none := tkB_end h (by decide) (by decide)
 simp only [Res.bind, num2, tkB, optP, h46, Option.isSome_none, Option.getD_none, Bool.false_eq_true, if_false, num3, h101, h69]
theorem number_read (u : Nat) (r : List UInt8) (h : okEnd r) : numberP (Lib.decDigits u ++ r) = .ok ⟨(Lib.decDigits u).toArray⟩ r := by
 have hd := dec_dig u
 have hfin : num1 (optP 45 (Lib.decDigits u ++ r)) = .ok () r := by
  rcases Nat.eq_zero_or_pos u with rfl | hu
  ·rw [Lib.decDigits_one (by omega)]
   show num1 (optP 45 (48 :: r)) = _
   unfold optP
   rw [tk_no (by decide)]
   simp [num1, tkB, optP, tk_yes]
  ·obtain ⟨c, t, h1, h2⟩ := dec_head u hu
   rw [h1] at hd ⊢
   simp only [List.all_cons, Bool.and_eq_true] at hd
   obtain ⟨n1, _⟩ := isDig_not hd.1
   show num1 (optP 45 (c :: (t ++ r))) = _
   unfold optP
   rw [tk_no n1]
   simp only [Option.getD_none, num1, tkB, optP, tk_no h2, Option.isSome_none, Bool.false_eq_true, if_false, digitsP, pk, hd.1, if_true]
   congr 1
   exact digs_all (c :: t) r (by simp [hd.1, hd.2]) (end_dig h)
 rw [num_rest h _ hfin]
 congr 3
 rw [List.length_append, Nat.add_sub_cancel, List.take_left]
theorem blank_no {c : UInt8} {r : List UInt8} (h : isBlank c = false) : blankP (c :: r) = c :: r := by unfold blankP; rw [h]; rfl
theorem wr_head : ∀ {d : Nat} {j : J}, Pl d j → ∃ c t, wrJ j = c :: t ∧ isBlank c = false
 | _, _, .str s => ⟨34, s.data.toList.flatMap escB ++ [34], by simp [wrJ, quoteB], rfl⟩
 | _, _, .num n _ => by
  obtain ⟨c, t, h1, h2, h3⟩ := Lb.decDigits_head n
  have hd := dec_dig n
  rw [h1] at hd
  simp only [List.all_cons, Bool.and_eq_true] at hd
  exact ⟨c, t, by simp [wrJ, h1], (isDig_not hd.1).2.2.2.2.2.2.2.1⟩
 | _, _, .obj ms _ _ => ⟨123, wrMs true ms ++ [125], by simp [wrJ], rfl⟩
theorem getP_none : ∀ {ms : Ms} {s : ByteArray}, s ∉ ms.map (·.1) → getP ms s = none
 | [], s, _ => rfl
 | (t, j) :: r, s, h => by
  simp only [List.map_cons, List.mem_cons, not_or] at h
  unfold getP
  rw [if_neg (Ne.symm h.1)]
  exact getP_none h.2
theorem row_read (val : List UInt8 → Res J) (r : List UInt8) : ∀ (ms : List (ByteArray × J)) (s : ByteArray) (j : J) (k : Nat) (first : Bool) (acc : Ms),
  (∀ (i : Nat) (s' : ByteArray) (j' : J), ((s, j) :: ms)[i]? = some (s', j') → (∃ c t, wrJ j' = c :: t ∧ isBlank c = false) ∧ ∀ r', okEnd r' → val (wrJ j' ++ r') = .ok j' r') →
  ((acc ++ (s, j) :: ms).map (·.1)).Nodup → ms.length < k →
  rowP (memP val) 125 k first acc (quoteB s.data.toList ++ ([58] ++ (wrJ j ++ (wrMs false ms ++ 125 :: r)))) = .ok (acc ++ (s, j) :: ms) r
 | ms, s, j, 0, first, acc, _, _, h => by omega
 | ms, s, j, k + 1, first, acc, hv, hnd, hk => by
  have hq : ∀ x, quoteB s.data.toList ++ x = 34 :: (s.data.toList.flatMap escB ++ 34 :: x) := quote_cons _
  obtain ⟨⟨c, t, hc, hcb⟩, hval⟩ := hv 0 s j rfl
  have hnot : s ∉ acc.map (·.1) := by
   rw [List.map_append, List.map_cons, List.nodup_append] at hnd
   exact fun h => hnd.2.2 s h s (by simp) rfl
  have hone : ∀ r', okEnd r' → memP val acc (quoteB s.data.toList ++ ([58] ++ (wrJ j ++ r'))) = .ok (acc ++ [(s, j)]) r' := fun r' hr' => by
   unfold memP
   rw [textP_read]
   simp only [Res.bind]
   rw [show (⟨s.data.toList.toArray⟩ : ByteArray) = s by simp]
   rw [getP_none hnot]
   simp only []
   rw [show blankP ([58] ++ (wrJ j ++ r')) = 58 :: (wrJ j ++ r') from blank_no rfl]
   unfold mustP
   rw [tk_yes]
   simp only [Res.bind]
   rw [hc, List.cons_append, blank_no hcb, ← List.cons_append, ← hc, hval r' hr']
  unfold rowP
  have htk : (if first = true then tk 125 (quoteB s.data.toList ++ ([58] ++ (wrJ j ++ (wrMs false ms ++ 125 :: r)))) else none) = none := by
   split
   ·rw [hq]; exact tk_no (by decide)
   ·rfl
  rw [htk]
  simp only []
  cases ms with
  | nil =>
   rw [hone (wrMs false [] ++ 125 :: r) (fun c hc => by simp [wrMs] at hc; exact .inr hc.symm)]
   simp only [Res.bind, wrMs, List.nil_append]
   rw [blank_no rfl, tk_yes]
  | cons m2 ms2 =>
   obtain ⟨s2, j2⟩ := m2
   rw [hone (wrMs false ((s2, j2) :: ms2) ++ 125 :: r) (fun c hc => by simp [wrMs] at hc; exact .inl hc.symm)]
   have hw : wrMs false ((s2, j2) :: ms2) ++ 125 :: r = 44 :: (quoteB s2.data.toList ++ ([58] ++ (wrJ j2 ++ (wrMs false ms2 ++ 125 :: r)))) := by
    simp [wrMs, List.append_assoc]
   simp only [Res.bind]
   rw [hw, blank_no rfl, tk_no (by decide)]
   simp only []
   unfold mustP
   rw [tk_yes]
   simp only []
   have hb2 : blankP (quoteB s2.data.toList ++ ([58] ++ (wrJ j2 ++ (wrMs false ms2 ++ 125 :: r)))) = quoteB s2.data.toList ++ ([58] ++ (wrJ j2 ++ (wrMs false ms2 ++ 125 :: r))) := by
    rw [quote_cons, blank_no rfl]
   rw [hb2]
   have := row_read val r ms2 s2 j2 k false (acc ++ [(s, j)]) (fun i s' j' h => hv (i + 1) s' j' (by simpa using h)) (by simpa using hnd) (by simpa using hk)
   rw [this]
   simp
theorem wrMs_len : ∀ (ms : List (ByteArray × J)) (f : Bool), ms.length ≤ (wrMs f ms).length
 | [], f => by simp
 | (s, j) :: r, f => by
  have := wrMs_len r false
  simp only [wrMs, List.length_append, List.length_cons, quoteB]
  omega
theorem val_read : ∀ {d : Nat} {j : J}, Pl d j → ∀ r, okEnd r → valP d (wrJ j ++ r) = .ok j r
 | d, _, .str s, r, _ => by
  have hw : wrJ (.mk 4 false s [] []) = quoteB s.data.toList := by simp [wrJ]
  have hp : pk (quoteB s.data.toList ++ r) = 34 := by rw [quote_cons]; rfl
  have key : ∀ dp, valS dp (quoteB s.data.toList ++ r) = .ok (.mk 4 false s [] []) r := fun dp => by
   unfold valS
   rw [hp, textP_read]
   simp [Res.bind, jStr]
  rw [hw]
  cases d with
  | zero => exact key _
  | succ d => exact key _
 | d, _, .num n hn, r, hr => by
  have hw : wrJ (.mk 3 false ⟨(Lib.decDigits n).toArray⟩ [] []) = Lib.decDigits n := by simp [wrJ]
  obtain ⟨c, t, h1, h2, h3⟩ := Lb.decDigits_head n
  have hd := dec_dig n
  rw [h1] at hd
  simp only [List.all_cons, Bool.and_eq_true] at hd
  obtain ⟨_, _, _, _, _, _, _, _, e1, e2, e3, e4, e5, e6⟩ := isDig_not hd.1
  have hp : pk (Lib.decDigits n ++ r) = c := by rw [h1]; rfl
  have key : ∀ dp, valS dp (Lib.decDigits n ++ r) = .ok (.mk 3 false ⟨(Lib.decDigits n).toArray⟩ [] []) r := fun dp => by
   unfold valS
   rw [hp, number_read n r hr]
   simp only [if_neg e1, if_neg e2, if_neg e3, if_neg e4, if_neg e5, if_neg e6, hd.1]
   simp [Res.bind, jNum]
  rw [hw]
  cases d with
  | zero => exact key _
  | succ d => exact key _
 | _, _, .obj (d := d) ms hms hnd, r, hr => by
  have hw : wrJ (.mk 6 false ⟨#[]⟩ [] ms) ++ r = 123 :: (wrMs true ms ++ 125 :: r) := by simp [wrJ]
  rw [hw]
  show valS (some (valP d)) _ = _
  unfold valS
  have e : (pk (123 :: (wrMs true ms ++ 125 :: r))).toNat = 123 := rfl
  simp only [e]
  rw [if_neg (by decide), if_neg (by decide), if_neg (by decide), if_neg (by decide), if_neg (by decide), if_pos trivial]
  unfold enterP mustP
  rw [tk_yes]
  simp only [Res.bind]
  cases ms with
  | nil =>
   simp only [wrMs, List.nil_append]
   rw [blank_no rfl]
   simp only [rowP, if_true, tk_yes, jObj]
  | cons m ms =>
   obtain ⟨s, j⟩ := m
   have hq : wrMs true ((s, j) :: ms) ++ 125 :: r = quoteB s.data.toList ++ ([58] ++ (wrJ j ++ (wrMs false ms ++ 125 :: r))) := by simp [wrMs, List.append_assoc]
   have hb : blankP (quoteB s.data.toList ++ ([58] ++ (wrJ j ++ (wrMs false ms ++ 125 :: r)))) = quoteB s.data.toList ++ ([58] ++ (wrJ j ++ (wrMs false ms ++ 125 :: r))) := by rw [quote_cons, blank_no rfl]
   rw [hq, hb]
   have := row_read (valP d) r ms s j ((quoteB s.data.toList ++ ([58] ++ (wrJ j ++ (wrMs false ms ++ 125 :: r)))).length + 1) true [] (fun i s' j' h => ⟨wr_head (hms i s' j' h), fun r' hr' => val_read (hms i s' j' h) r' hr'⟩) (by simpa using hnd) (by
    have := wrMs_len ms false
    simp only [List.length_append, List.length_cons]; omega)
   rw [this]
   simp [jObj]
theorem whole_read {d : Nat} {j : J} (h : Pl d j) : wholeP d (wrJ j) = .ok j [] := by
 obtain ⟨c, t, hc, hcb⟩ := wr_head h
 have h1 := val_read h [] (fun c hc => by simp at hc)
 unfold wholeP
 rw [List.append_nil] at h1
 rw [show blankP (wrJ j) = wrJ j by rw [hc, blank_no hcb], h1]
 rfl
theorem parse_read {d : Nat} {j : J} (h : Pl d j) (h1 : 1 ≤ d) (h2 : d ≤ 32) (hlen : (wrJ j).length ≤ 16384) (ht : Told (wrJ j)) : parseP (wrJ j) (d : Int) = (j, 0, 0) := by
 unfold parseP
 have htold := (toldP_iff (strOf (wrJ j))).2 (by rw [strOf_tL]; exact ht)
 unfold toldP at htold
 rw [decide_eq_true_eq] at htold
 rw [if_neg (by omega), if_neg (by omega), if_neg (by omega), Int.toNat_natCast, whole_read h]
end Go.Kx.Ro
namespace Go.Kx.Wo
open Go.Proofs Go.Kx Go.RowKit Go.Kx.Js Go.Kx.Pr Go.Kx.Rt
set_option maxRecDepth 20000
set_option linter.unusedSimpArgs false
def T : Tab := [(9, { k := TK.string, agg := false, size := 1, bytes := 16, zero := [Z.s] }), (65, { k := TK.st [(0, 9, 1), (1, 9, 1)], agg := true, size := 2, bytes := 32, zero := [Z.s, Z.s] }), (4, { k := TK.bool, agg := false, size := 1, bytes := 1, zero := [Z.b] }), (3, { k := TK.int IntKind.i64, agg := false, size := 1, bytes := 8, zero := [Z.i IntKind.i64] })]
set_option maxRecDepth 100000 in
theorem tab : TabOk Tryz.prog T := tabOk_mk (ts := [9, 65, 4, 3]) (by kernel_rfl)
def wordP (m : Nat) (s : ByteArray) : Bool := !strEq s ⟨#[]⟩ && (decide (s.size ≤ m) && toldP s)
theorem setWord (s : ByteArray) (H : Hp) : CallO Tryz.prog 119 [pv (.string s)] H [] fun e _ G' => e = .ret (pv (.bool (wordP 256 s))) ∧ G' = [] := by
 unfold wordP
 refine CallO.of_body tab Tryz.func119 rfl (nt := Tryz.f119.ntmps) rfl (by kernel_rfl) ?_
 (conv => whnf)
 refine br.of (fun h1 => ?_) (fun h1 => ?_) <;> (conv => whnf)
 ·rw [h1, Bool.true_and]
  refine br.of (fun h2 => ?_) (fun h2 => ?_) <;> (conv => whnf)
  ·have h2 := of_decide_eq_true h2
   rw [decide_eq_true (show s.size ≤ 256 by omega), Bool.true_and]
   refine ⟨⟨_, Tryz.func67, rfl, by kernel_rfl⟩, CallS.use (told_ s (by omega) H) [] rfl rfl trivial ?_⟩
   rintro e H2 G' hle ⟨rfl, rfl⟩
   (conv => whnf)
   exact ⟨rfl, rfl⟩
  ·have h2 := of_decide_eq_false h2
   rw [decide_eq_false (show ¬ s.size ≤ 256 by omega), Bool.false_and]
   exact ⟨rfl, rfl⟩
 ·rw [h1, Bool.false_and]
  exact ⟨rfl, rfl⟩
theorem subWord (s : ByteArray) (H : Hp) : CallO Tryz.prog 164 [pv (.string s)] H [] fun e _ G' => e = .ret (pv (.bool (wordP 256 s))) ∧ G' = [] := by
 unfold wordP
 refine CallO.of_body tab Tryz.func164 rfl (nt := Tryz.f164.ntmps) rfl (by kernel_rfl) ?_
 (conv => whnf)
 refine br.of (fun h1 => ?_) (fun h1 => ?_) <;> (conv => whnf)
 ·rw [h1, Bool.true_and]
  refine br.of (fun h2 => ?_) (fun h2 => ?_) <;> (conv => whnf)
  ·have h2 := of_decide_eq_true h2
   rw [decide_eq_true (show s.size ≤ 256 by omega), Bool.true_and]
   refine ⟨⟨_, Tryz.func67, rfl, by kernel_rfl⟩, CallS.use (told_ s (by omega) H) [] rfl rfl trivial ?_⟩
   rintro e H2 G' hle ⟨rfl, rfl⟩
   (conv => whnf)
   exact ⟨rfl, rfl⟩
  ·have h2 := of_decide_eq_false h2
   rw [decide_eq_false (show ¬ s.size ≤ 256 by omega), Bool.false_and]
   exact ⟨rfl, rfl⟩
 ·rw [h1, Bool.false_and]
  exact ⟨rfl, rfl⟩
theorem jwsWord (s : ByteArray) (H : Hp) : CallO Tryz.prog 142 [pv (.string s)] H [] fun e _ G' => e = .ret (pv (.bool (wordP 40 s))) ∧ G' = [] := by
 unfold wordP
 refine CallO.of_body tab Tryz.func142 rfl (nt := Tryz.f142.ntmps) rfl (by kernel_rfl) ?_
 (conv => whnf)
 refine br.of (fun h1 => ?_) (fun h1 => ?_) <;> (conv => whnf)
 ·rw [h1, Bool.true_and]
  refine br.of (fun h2 => ?_) (fun h2 => ?_) <;> (conv => whnf)
  ·have h2 := of_decide_eq_true h2
   rw [decide_eq_true (show s.size ≤ 40 by omega), Bool.true_and]
   refine ⟨⟨_, Tryz.func67, rfl, by kernel_rfl⟩, CallS.use (told_ s (by omega) H) [] rfl rfl trivial ?_⟩
   rintro e H2 G' hle ⟨rfl, rfl⟩
   (conv => whnf)
   exact ⟨rfl, rfl⟩
  ·have h2 := of_decide_eq_false h2
   rw [decide_eq_false (show ¬ s.size ≤ 40 by omega), Bool.false_and]
   exact ⟨rfl, rfl⟩
 ·rw [h1, Bool.false_and]
  exact ⟨rfl, rfl⟩
end Go.Kx.Wo
namespace Go.Kx.Cl
open Go.Proofs Go.Kx Go.RowKit Go.Kx.Js Go.Kx.Pr Go.Kx.Rt Go.Kx.Ob Go.Kx.Wo Go.Kx.Ro
set_option maxRecDepth 20000
set_option linter.unusedSimpArgs false
abbrev sOpaque := (⟨#[111, 112, 97, 113, 117, 101]⟩ : ByteArray)
abbrev sEmail := (⟨#[101, 109, 97, 105, 108]⟩ : ByteArray)
abbrev sIssSub := (⟨#[105, 115, 115, 95, 115, 117, 98]⟩ : ByteArray)
abbrev sId := (⟨#[105, 100]⟩ : ByteArray)
abbrev sIss := (⟨#[105, 115, 115]⟩ : ByteArray)
abbrev sSub := (⟨#[115, 117, 98]⟩ : ByteArray)
abbrev sFormat := (⟨#[102, 111, 114, 109, 97, 116]⟩ : ByteArray)
structure Sub where
 fmt : ByteArray
 id : ByteArray
 own : ByteArray
abbrev sub0 : Sub := ⟨⟨#[]⟩, ⟨#[]⟩, ⟨#[]⟩⟩
def addrP (s : ByteArray) : Bool := decide (0 < ixB s.data.toList 64) && (decide (ixB s.data.toList 64 < (s.size : Int) - 1) && (s.data.toList.count 64 == 1))
def subRight (x : Sub) : Bool :=
 if x.fmt = sOpaque then wordP 256 x.id && strEq x.own ⟨#[]⟩ else
 if x.fmt = sEmail then wordP 256 x.id && (addrP x.id && strEq x.own ⟨#[]⟩) else
 if x.fmt = sIssSub then wordP 256 x.id && wordP 256 x.own else false
def namesOf (f : ByteArray) : List ByteArray := if f = sOpaque then [sId] else if f = sEmail then [sEmail] else if f = sIssSub then [sIss, sSub] else []
def textsOf (x : Sub) : List ByteArray := if x.fmt = sIssSub then [x.own, x.id] else [x.id]
def subMs (x : Sub) : Ms := (sFormat, strJ x.fmt) :: (List.zip (namesOf x.fmt) ((textsOf x).map strJ))
def subJ (x : Sub) : J := objJ (subMs x)
def memT (j : J) (s : ByteArray) : ByteArray × Bool := match j.get s with
 | some m => (m.text, m.kind == 4)
 | none => (⟨#[]⟩, false)
def subOf (j : J) : Sub × Int :=
 if (memT j sFormat).2 = false then (sub0, 10) else
 if namesOf (memT j sFormat).1 = [] then (sub0, 42) else
 if rightJ j = false ∨ j.mems.length ≠ (namesOf (memT j sFormat).1).length + 1 then (sub0, 10) else
 if (memT j sFormat).1 = sIssSub then
  if (memT j sSub).2 && (memT j sIss).2 && subRight ⟨(memT j sFormat).1, (memT j sSub).1, (memT j sIss).1⟩ then (⟨(memT j sFormat).1, (memT j sSub).1, (memT j sIss).1⟩, 0) else (sub0, 10)
 else
  if (memT j ((namesOf (memT j sFormat).1).getD 0 ⟨#[]⟩)).2 && subRight ⟨(memT j sFormat).1, (memT j ((namesOf (memT j sFormat).1).getD 0 ⟨#[]⟩)).1, ⟨#[]⟩⟩ then (⟨(memT j sFormat).1, (memT j ((namesOf (memT j sFormat).1).getD 0 ⟨#[]⟩)).1, ⟨#[]⟩⟩, 0) else (sub0, 10)
structure Clm where
 iss : ByteArray
 jti : ByteArray
 aud : ByteArray
 iat : Int
 txn : ByteArray
 sub : Sub
 kind : Int
 reason : ByteArray
abbrev clm0 : Clm := ⟨⟨#[]⟩, ⟨#[]⟩, ⟨#[]⟩, 0, ⟨#[]⟩, sub0, 0, ⟨#[]⟩⟩
abbrev sJti := (⟨#[106, 116, 105]⟩ : ByteArray)
abbrev sIat := (⟨#[105, 97, 116]⟩ : ByteArray)
abbrev sAud := (⟨#[97, 117, 100]⟩ : ByteArray)
abbrev sTxn := (⟨#[116, 120, 110]⟩ : ByteArray)
abbrev sSubId := (⟨#[115, 117, 98, 95, 105, 100]⟩ : ByteArray)
abbrev sEvents := (⟨#[101, 118, 101, 110, 116, 115]⟩ : ByteArray)
abbrev sReason := (⟨#[114, 101, 97, 115, 111, 110]⟩ : ByteArray)
abbrev nm1 := (⟨#[104, 116, 116, 112, 115, 58, 47, 47, 115, 99, 104, 101, 109, 97, 115, 46, 111, 112, 101, 110, 105, 100, 46, 110, 101, 116, 47, 115, 101, 99, 101, 118, 101, 110, 116, 47, 99, 97, 101, 112, 47, 101, 118, 101, 110, 116, 45, 116, 121, 112, 101, 47, 115, 101, 115, 115, 105, 111, 110, 45, 114, 101, 118, 111, 107, 101, 100]⟩ : ByteArray)
abbrev nm2 := (⟨#[104, 116, 116, 112, 115, 58, 47, 47, 115, 99, 104, 101, 109, 97, 115, 46, 111, 112, 101, 110, 105, 100, 46, 110, 101, 116, 47, 115, 101, 99, 101, 118, 101, 110, 116, 47, 99, 97, 101, 112, 47, 101, 118, 101, 110, 116, 45, 116, 121, 112, 101, 47, 99, 114, 101, 100, 101, 110, 116, 105, 97, 108, 45, 99, 104, 97, 110, 103, 101]⟩ : ByteArray)
abbrev nm3 := (⟨#[104, 116, 116, 112, 115, 58, 47, 47, 115, 99, 104, 101, 109, 97, 115, 46, 111, 112, 101, 110, 105, 100, 46, 110, 101, 116, 47, 115, 101, 99, 101, 118, 101, 110, 116, 47, 114, 105, 115, 99, 47, 101, 118, 101, 110, 116, 45, 116, 121, 112, 101, 47, 97, 99, 99, 111, 117, 110, 116, 45, 100, 105, 115, 97, 98, 108, 101, 100]⟩ : ByteArray)
abbrev nm4 := (⟨#[104, 116, 116, 112, 115, 58, 47, 47, 115, 99, 104, 101, 109, 97, 115, 46, 111, 112, 101, 110, 105, 100, 46, 110, 101, 116, 47, 115, 101, 99, 101, 118, 101, 110, 116, 47, 114, 105, 115, 99, 47, 101, 118, 101, 110, 116, 45, 116, 121, 112, 101, 47, 97, 99, 99, 111, 117, 110, 116, 45, 101, 110, 97, 98, 108, 101, 100]⟩ : ByteArray)
abbrev nm5 := (⟨#[104, 116, 116, 112, 115, 58, 47, 47, 115, 99, 104, 101, 109, 97, 115, 46, 111, 112, 101, 110, 105, 100, 46, 110, 101, 116, 47, 115, 101, 99, 101, 118, 101, 110, 116, 47, 99, 97, 101, 112, 47, 101, 118, 101, 110, 116, 45, 116, 121, 112, 101, 47, 116, 111, 107, 101, 110, 45, 99, 108, 97, 105, 109, 115, 45, 99, 104, 97, 110, 103, 101]⟩ : ByteArray)
abbrev nm6 := (⟨#[104, 116, 116, 112, 115, 58, 47, 47, 115, 99, 104, 101, 109, 97, 115, 46, 111, 112, 101, 110, 105, 100, 46, 110, 101, 116, 47, 115, 101, 99, 101, 118, 101, 110, 116, 47, 115, 115, 101, 47, 101, 118, 101, 110, 116, 45, 116, 121, 112, 101, 47, 118, 101, 114, 105, 102, 105, 99, 97, 116, 105, 111, 110]⟩ : ByteArray)
def allN : List ByteArray := [nm1, nm2, nm3, nm4, nm5, nm6]
def nameK (k : Int) : ByteArray := if 1 ≤ k ∧ k ≤ 6 then allN.getD (k - 1).toNat ⟨#[]⟩ else ⟨#[]⟩
def kindN (s : ByteArray) : Int := if s = nm1 then 1 else if s = nm2 then 2 else if s = nm3 then 3 else if s = nm4 then 4 else if s = nm5 then 5 else if s = nm6 then 6 else 0
def clRight (c : Clm) : Bool :=
 (decide (1 ≤ c.kind) && decide (c.kind ≤ 6)) && (wordP 256 c.iss && (wordP 256 c.jti && (wordP 256 c.aud && (wordP 256 c.txn && (decide (0 ≤ c.iat) && (decide (c.iat ≤ 1099511627776) && (subRight c.sub && (strEq c.reason ⟨#[]⟩ || wordP 256 c.reason))))))))
def evMs (c : Clm) : Ms := if strEq c.reason ⟨#[]⟩ then [] else [(sReason, strJ c.reason)]
def evJ (c : Clm) : J := objJ [(nameK c.kind, objJ (evMs c))]
def clMs (c : Clm) : Ms := [(sIss, strJ c.iss), (sJti, strJ c.jti), (sIat, numJ c.iat), (sAud, strJ c.aud), (sTxn, strJ c.txn), (sSubId, subJ c.sub), (sEvents, evJ c)]
def clJ (c : Clm) : J := objJ (clMs c)
def said (j : J) (s : ByteArray) : ByteArray := match j.get s with
 | some m => if m.kind = 4 then m.text else ⟨#[]⟩
 | none => ⟨#[]⟩
def memJ (j : J) (s : ByteArray) : J := (j.get s).getD jNone
def event (j : J) : Int × ByteArray :=
 if j.kind = 6 then match j.mems with
  | [(s, m)] => (kindN s, said m sReason)
  | _ => (0, ⟨#[]⟩)
 else (0, ⟨#[]⟩)
def ofC (j : J) : Clm := ⟨said j sIss, said j sJti, said j sAud, (intP (memJ j sIat)).1, said j sTxn, (subOf (memJ j sSubId)).1, (event (memJ j sEvents)).1, (event (memJ j sEvents)).2⟩
def ofP (j : J) : Option Clm := if clRight (ofC j) && sameP (clJ (ofC j)) j then some (ofC j) else none
theorem str_refl (s : ByteArray) : strEq s s = true := (strEq_iff ..).2 rfl
theorem compact_len {α : Type} [BEq α] [LawfulBEq α] [DecidableEq α] [Inhabited α] (zs : List α) (h : zs.Nodup) : (Lib.compact zs).length = zs.length := by
 unfold Lib.compact Lib.compactUpTo
 rw [List.length_map]
 have : (List.range zs.length).filter (Lib.keeps zs.toArray) = List.range zs.length := by
  rw [List.filter_eq_self]
  intro m hm
  rw [List.mem_range] at hm
  rcases Nat.eq_zero_or_pos m with rfl | h0
  ·exact Lib.keeps_lt_one _ _ (by omega)
  ·refine Lib.keeps_pos fun he => ?_
   rw [getElem!_pos zs.toArray m (by simpa using hm), getElem!_pos zs.toArray (m - 1) (by simp; omega)] at he
   simp only [List.getElem_toArray] at he
   exact (List.pairwise_iff_getElem.1 h (m - 1) m (by omega) (by omega) (by omega)) he.symm
 rw [this, List.length_range]
theorem noTwice_of {l : List ByteArray} (h : l.Nodup) : noTwice l = true := by
 unfold noTwice
 rw [beq_iff_eq]
 have hn : (l.map fun s => s.data.toList).Nodup := by
  refine List.pairwise_map.2 (h.imp fun {a b} hne hab => hne ?_)
  have : a.data = b.data := Array.toList_inj.1 hab
  cases a; cases b; simpa using this
 have hp := List.mergeSort_perm (l.map fun s => s.data.toList) (fun x y => decide (x ≤ y))
 rw [compact_len _ (hp.nodup_iff.2 hn), List.length_mergeSort, List.length_map]
end Go.Kx.Cl
namespace Go.Kx.Sha
open Go.Proofs Go.Kx
set_option maxRecDepth 20000

def T : Tab := [(198, { k := TK.ptr 227, agg := false, size := 1, bytes := 8, zero := [Z.p] }), (225, { k := TK.ar 8 191 1, agg := true, size := 8, bytes := 32, zero := [Z.i IntKind.u32, Z.i IntKind.u32, Z.i IntKind.u32, Z.i IntKind.u32, Z.i IntKind.u32, Z.i IntKind.u32, Z.i IntKind.u32, Z.i IntKind.u32] }), (227, { k := TK.st [(0, 225, 8), (8, 32, 1), (9, 3, 1)], agg := true, size := 10, bytes := 64, zero := [Z.i IntKind.u32, Z.i IntKind.u32, Z.i IntKind.u32, Z.i IntKind.u32, Z.i IntKind.u32, Z.i IntKind.u32, Z.i IntKind.u32, Z.i IntKind.u32, Z.sl, Z.i IntKind.i64] }), (32, { k := TK.slice 5, agg := false, size := 1, bytes := 24, zero := [Z.sl] }), (3, { k := TK.int IntKind.i64, agg := false, size := 1, bytes := 8, zero := [Z.i IntKind.i64] }), (4, { k := TK.bool, agg := false, size := 1, bytes := 1, zero := [Z.b] }), (197, { k := TK.slice 32, agg := false, size := 1, bytes := 24, zero := [Z.sl] }), (5, { k := TK.int IntKind.u8, agg := false, size := 1, bytes := 1, zero := [Z.i IntKind.u8] }), (191, { k := TK.int IntKind.u32, agg := false, size := 1, bytes := 4, zero := [Z.i IntKind.u32] }), (254, { k := TK.ar 64 191 1, agg := true, size := 64, bytes := 256, zero := [Z.i IntKind.u32, Z.i IntKind.u32, Z.i IntKind.u32, Z.i IntKind.u32, Z.i IntKind.u32, Z.i IntKind.u32, Z.i IntKind.u32, Z.i IntKind.u32, Z.i IntKind.u32, Z.i IntKind.u32, Z.i IntKind.u32, Z.i IntKind.u32, Z.i IntKind.u32, Z.i IntKind.u32, Z.i IntKind.u32, Z.i IntKind.u32, Z.i IntKind.u32, Z.i IntKind.u32, Z.i IntKind.u32, Z.i IntKind.u32, Z.i IntKind.u32, Z.i IntKind.u32, Z.i IntKind.u32, Z.i IntKind.u32, Z.i IntKind.u32, Z.i IntKind.u32, Z.i IntKind.u32, Z.i IntKind.u32, Z.i IntKind.u32, Z.i IntKind.u32, Z.i IntKind.u32, Z.i IntKind.u32, Z.i IntKind.u32, Z.i IntKind.u32, Z.i IntKind.u32, Z.i IntKind.u32, Z.i IntKind.u32, Z.i IntKind.u32, Z.i IntKind.u32, Z.i IntKind.u32, Z.i IntKind.u32, Z.i IntKind.u32, Z.i IntKind.u32, Z.i IntKind.u32, Z.i IntKind.u32, Z.i IntKind.u32, Z.i IntKind.u32, Z.i IntKind.u32, Z.i IntKind.u32, Z.i IntKind.u32, Z.i IntKind.u32, Z.i IntKind.u32, Z.i IntKind.u32, Z.i IntKind.u32, Z.i IntKind.u32, Z.i IntKind.u32, Z.i IntKind.u32, Z.i IntKind.u32, Z.i IntKind.u32, Z.i IntKind.u32, Z.i IntKind.u32, Z.i IntKind.u32, Z.i IntKind.u32, Z.i IntKind.u32] }), (145, { k := TK.int IntKind.u64, agg := false, size := 1, bytes := 8, zero := [Z.i IntKind.u64] })]
set_option maxRecDepth 100000 in
theorem tab : TabOk Tryz.prog T := tabOk_mk (ts := [198, 225, 227, 32, 3, 4, 197, 5, 191, 254, 145]) (by kernel_rfl)
theorem mixed : Tryz.prog.follows .mixedOrders = true := by kernel_rfl


def u (b : BitVec 32) : Int := (b.toNat : Int)
def uV (b : BitVec 32) : SV := pv (.int .u32 (u b))
theorem u_lt (b : BitVec 32) : 0 ≤ u b ∧ u b < 4294967296 := by unfold u; have := b.isLt; omega
theorem wrap32 {x : Int} (h : 0 ≤ x) (h' : x < 4294967296) : IntKind.u32.wrap x = x := by
 simp only [IntKind.wrap, IntKind.bits, IntKind.signed]; simp; omega
theorem wrap32' (x : Int) : IntKind.u32.wrap x = x % 4294967296 := by
 simp [IntKind.wrap, IntKind.bits, IntKind.signed]
theorem ofInt_u (b : BitVec 32) : BitVec.ofInt IntKind.u32.bits (u b) = b := by
 show BitVec.ofInt 32 (u b) = b
 unfold u; simp
theorem u_add (a b : BitVec 32) : IntKind.u32.wrap (u a + u b) = u (a + b) := by
 rw [wrap32']; unfold u; rw [BitVec.toNat_add]; omega
theorem u_xor (a b : BitVec 32) : IntKind.u32.wrap ((BitVec.ofInt IntKind.u32.bits (u a) ^^^ BitVec.ofInt IntKind.u32.bits (u b)).toNat : Int) = u (a ^^^ b) := by
 rw [ofInt_u, ofInt_u]; exact wrap32 (u_lt _).1 (u_lt (a ^^^ b)).2
theorem u_and (a b : BitVec 32) : IntKind.u32.wrap ((BitVec.ofInt IntKind.u32.bits (u a) &&& BitVec.ofInt IntKind.u32.bits (u b)).toNat : Int) = u (a &&& b) := by
 rw [ofInt_u, ofInt_u]; exact wrap32 (u_lt _).1 (u_lt (a &&& b)).2
theorem u_or (a b : BitVec 32) : IntKind.u32.wrap ((BitVec.ofInt IntKind.u32.bits (u a) ||| BitVec.ofInt IntKind.u32.bits (u b)).toNat : Int) = u (a ||| b) := by
 rw [ofInt_u, ofInt_u]; exact wrap32 (u_lt _).1 (u_lt (a ||| b)).2
theorem u_shl (a : BitVec 32) (k : Nat) (hk : k < 32) : IntKind.u32.wrap (u a * 2 ^ min k IntKind.u32.bits) = u (a <<< k) := by
 rw [wrap32', show min k IntKind.u32.bits = k from Nat.min_eq_left (by show k ≤ 32; omega)]
 unfold u
 rw [BitVec.toNat_shiftLeft, Nat.shiftLeft_eq, Int.natCast_emod, Int.natCast_mul, Int.natCast_pow]
 rfl
theorem u_shr (a : BitVec 32) (k : Nat) (hk : k < 32) : (u a).fdiv (2 ^ min k IntKind.u32.bits) = u (a >>> k) := by
 rw [show min k IntKind.u32.bits = k from Nat.min_eq_left (by show k ≤ 32; omega)]
 unfold u
 rw [BitVec.toNat_ushiftRight, Nat.shiftRight_eq_div_pow, Int.fdiv_eq_ediv_of_nonneg _ (by exact Int.le_of_lt (Int.pow_pos (by decide))), Int.natCast_ediv, Int.natCast_pow]
 rfl
theorem lefts : ∀ n : Fin 32, n.val ≠ 0 → IntKind.u64.wrap ((BitVec.ofInt IntKind.u64.bits (IntKind.u64.wrap (IntKind.i64.wrap (-(n.val : Int)))) &&& BitVec.ofInt IntKind.u64.bits 31).toNat : Int) = 32 - (n.val : Int) := by decide
theorem rot (x : BitVec 32) (n : Nat) (h1 : 1 ≤ n) (h2 : n ≤ 31) (H : Hp) : CallO Tryz.prog 237 [uV x, pv (.int .i64 (IntKind.i64.wrap (-(n : Int))))] H [] fun e H' G' => e = .ret (uV (x.rotateRight n)) ∧ H' = H ∧ G' = [] := by
 refine CallO.of_body tab Tryz.func237 rfl (nt := Tryz.f237.ntmps) rfl (by kernel_rfl) ?_
 conv => whnf
 have hl := lefts ⟨n, by omega⟩ (by show n ≠ 0; omega)
 simp only at hl
 rw [hl]
 refine ⟨by omega, ?_⟩
 conv => whnf
 have hw : IntKind.u64.wrap (32 - (32 - (n : Int))) = (n : Int) := by simp only [IntKind.wrap, IntKind.bits, IntKind.signed]; simp; omega
 rw [hw]
 refine ⟨by omega, ?_⟩
 conv => whnf
 have e1 : (32 - (n : Int)).toNat = 32 - n := by omega
 rw [e1, Int.toNat_natCast]
 refine ⟨?_, rfl, rfl⟩
 rw [u_shl x (32 - n) (by omega), u_shr x n (by omega), u_or]
 have e2 : x.rotateRight n = x <<< (32 - n) ||| x >>> n := by
  rw [BitVec.rotateRight_def, Nat.mod_eq_of_lt (by omega), BitVec.or_comm]
 rw [e2]; rfl
theorem right (x : BitVec 32) (n : Nat) (h1 : 1 ≤ n) (h2 : n ≤ 31) (H : Hp) : CallO Tryz.prog 207 [uV x, pv (.int .i64 (n : Int))] H [] fun e H' G' => e = .ret (uV (x.rotateRight n)) ∧ H' = H ∧ G' = [] := by
 refine CallO.of_body tab Tryz.func207 rfl (nt := Tryz.f207.ntmps) rfl (by kernel_rfl) ?_
 conv => whnf
 rw [Int.zero_sub]
 refine ⟨⟨_, Tryz.func237, rfl, by kernel_rfl⟩, CallS.use (rot x n h1 h2 H) [] rfl rfl trivial ?_⟩
 rintro e H' G' hle ⟨rfl, rfl, rfl⟩
 conv => whnf
 exact ⟨rfl, rfl, rfl⟩
end Go.Kx.Sha
namespace Go.Kx.Sha
open Go.Proofs Go.Kx
set_option maxRecDepth 20000

def kTab : List (BitVec 32) := [1116352408, 1899447441, 3049323471, 3921009573, 961987163, 1508970993, 2453635748, 2870763221, 3624381080, 310598401, 607225278, 1426881987, 1925078388, 2162078206, 2614888103, 3248222580, 3835390401, 4022224774, 264347078, 604807628, 770255983, 1249150122, 1555081692, 1996064986, 2554220882, 2821834349, 2952996808, 3210313671, 3336571891, 3584528711, 113926993, 338241895, 666307205, 773529912, 1294757372, 1396182291, 1695183700, 1986661051, 2177026350, 2456956037, 2730485921, 2820302411, 3259730800, 3345764771, 3516065817, 3600352804, 4094571909, 275423344, 430227734, 506948616, 659060556, 883997877, 958139571, 1322822218, 1537002063, 1747873779, 1955562222, 2024104815, 2227730452, 2361852424, 2428436474, 2756734187, 3204031479, 3329325298]
def kAt (t : Nat) : BitVec 32 := kTab.getD t 0
theorem kTab_get (t : Nat) (ht : t < 64) (i : Nat) (hi : i = t) : (kTab.map fun k => SC.val (.int .u32 (u k)))[i]? = some (.val (.int .u32 (u (kAt t)))) := by
 subst hi
 have hl : kTab.length = 64 := rfl
 rw [List.getElem?_map, kAt, List.getD_eq_getElem?_getD, List.getElem?_eq_getElem (by omega)]
 rfl
theorem kOf (t : Nat) (ht : t < 64) (H : Hp) : CallO Tryz.prog 208 [pv (.int .i64 (t : Int))] H [] fun e H' G' => e = .ret (uV (kAt t)) ∧ H' = H ∧ G' = [] := by
 refine CallO.of_body tab Tryz.func208 rfl (nt := Tryz.f208.ntmps) rfl (by kernel_rfl) ?_
 conv => whnf
 refine ⟨⟨by omega, by omega⟩, _, kTab_get t ht _ (by simp), ?_⟩
 conv => whnf
 exact ⟨rfl, rfl, rfl⟩
end Go.Kx.Sha
namespace Go.Kx.Sha
open Go.Proofs Go.Kx
set_option maxRecDepth 20000

def by32 (bs : List UInt8) (i : Nat) : BitVec 32 := BitVec.ofNat 32 (byteN bs i)
def word (bs : List UInt8) (j : Nat) : BitVec 32 := by32 bs (4 * j) <<< 24 ||| by32 bs (4 * j + 1) <<< 16 ||| by32 bs (4 * j + 2) <<< 8 ||| by32 bs (4 * j + 3)
def sg0 (x : BitVec 32) : BitVec 32 := x.rotateRight 7 ^^^ x.rotateRight 18 ^^^ x >>> 3
def sg1 (y : BitVec 32) : BitVec 32 := y.rotateRight 17 ^^^ y.rotateRight 19 ^^^ y >>> 10
def schedN (bs : List UInt8) : Nat → List (BitVec 32)
 | 0 => []
 | t + 1 => schedN bs t ++ [if t < 16 then word bs t else sg1 ((schedN bs t).getD (t - 2) 0) + (schedN bs t).getD (t - 7) 0 + sg0 ((schedN bs t).getD (t - 15) 0) + (schedN bs t).getD (t - 16) 0]
theorem schedN_length (bs : List UInt8) : ∀ t, (schedN bs t).length = t
 | 0 => rfl
 | t + 1 => by simp [schedN, schedN_length bs t]
def cellW (b : BitVec 32) : Value := .int .u32 (u b)
def wCells (bs : List UInt8) (t : Nat) : List Value := (schedN bs t).map cellW ++ List.replicate (64 - t) (.int .u32 0)
theorem u_by (bs : List UInt8) (i : Nat) : IntKind.u32.wrap (byteN bs i : Int) = u (by32 bs i) := by
 have h : byteN bs i < 256 := by unfold byteN; exact (bs.getD i 0).toNat_lt
 rw [wrap32 (by omega) (by omega)]
 unfold u by32
 rw [BitVec.toNat_ofNat, Nat.mod_eq_of_lt (by omega)]

theorem wCells_length (bs : List UInt8) {t : Nat} (ht : t ≤ 64) : (wCells bs t).length = 64 := by simp [wCells, schedN_length]; omega
theorem wCells_succ (bs : List UInt8) {t off : Nat} (ht : t < 64) (ho : off = t) {w : BitVec 32} (hw : schedN bs (t + 1) = schedN bs t ++ [w]) {x : Int} (hx : x = u w) : splice (wCells bs t) off [.int .u32 x] = wCells bs (t + 1) := by
 subst ho hx
 unfold splice wCells
 rw [hw, List.take_append_of_le_length (by simp [schedN_length]), List.take_of_length_le (by simp [schedN_length])]
 rw [List.drop_append, List.drop_of_length_le (by simp [schedN_length])]
 rw [show off + [Value.int IntKind.u32 (u w)].length - (List.map cellW (schedN bs off)).length = 1 by simp [schedN_length], List.drop_replicate, show 64 - off - 1 = 64 - (off + 1) by omega, List.map_append]
 rfl
theorem wget {bs : List UInt8} {t i off : Nat} (hi : i < t) (ho : off = i) : (wCells bs t)[off]? = some (.int .u32 (u ((schedN bs t).getD i 0))) := by
 subst ho
 have hl := schedN_length bs t
 unfold wCells
 rw [List.getElem?_append_left (by simp [hl]; exact hi), List.getElem?_map, List.getElem?_eq_getElem (by omega), List.getD_eq_getElem?_getD, List.getElem?_eq_getElem (by omega)]
 rfl
theorem pget {bs : List UInt8} {t i off : Nat} (hi : i < t) (ho : off = i) : ((schedN bs t).map cellW)[off]? = some (.int .u32 (u ((schedN bs t).getD i 0))) := by
 subst ho
 have hl := schedN_length bs t
 rw [List.getElem?_map, List.getElem?_eq_getElem (by omega), List.getD_eq_getElem?_getD, List.getElem?_eq_getElem (by omega)]
 rfl
theorem word_eq (bs : List UInt8) (t : Nat) : IntKind.u32.wrap ((BitVec.ofInt IntKind.u32.bits (IntKind.u32.wrap ((BitVec.ofInt IntKind.u32.bits (IntKind.u32.wrap ((BitVec.ofInt IntKind.u32.bits (IntKind.u32.wrap (u (by32 bs (4 * t)) * 2 ^ min (Int.toNat 24) IntKind.u32.bits)) |||
   BitVec.ofInt IntKind.u32.bits (IntKind.u32.wrap (u (by32 bs (4 * t + 1)) * 2 ^ min (Int.toNat 16) IntKind.u32.bits))).toNat : Int)) ||| BitVec.ofInt IntKind.u32.bits (IntKind.u32.wrap (u (by32 bs (4 * t + 2)) * 2 ^ min (Int.toNat 8) IntKind.u32.bits))).toNat : Int)) |||
   BitVec.ofInt IntKind.u32.bits (u (by32 bs (4 * t + 3)))).toNat : Int) = u (word bs t) := by
 rw [show Int.toNat 24 = 24 from rfl, show Int.toNat 16 = 16 from rfl, show Int.toNat 8 = 8 from rfl, u_shl _ 24 (by decide), u_shl _ 16 (by decide), u_shl _ 8 (by decide), u_or, u_or, u_or]
 rfl
theorem sig_eq (x2 x7 x15 x16 : BitVec 32) : IntKind.u32.wrap (IntKind.u32.wrap (IntKind.u32.wrap (IntKind.u32.wrap ((BitVec.ofInt IntKind.u32.bits (IntKind.u32.wrap ((BitVec.ofInt IntKind.u32.bits (u (x2.rotateRight 17)) ^^^ BitVec.ofInt IntKind.u32.bits (u (x2.rotateRight 19))).toNat : Int)) ^^^
   BitVec.ofInt IntKind.u32.bits ((u x2).fdiv (2 ^ min (Int.toNat 10) IntKind.u32.bits))).toNat : Int) + u x7) + IntKind.u32.wrap ((BitVec.ofInt IntKind.u32.bits (IntKind.u32.wrap ((BitVec.ofInt IntKind.u32.bits (u (x15.rotateRight 7)) ^^^ BitVec.ofInt IntKind.u32.bits (u (x15.rotateRight 18))).toNat : Int)) ^^^
   BitVec.ofInt IntKind.u32.bits ((u x15).fdiv (2 ^ min (Int.toNat 3) IntKind.u32.bits))).toNat : Int)) + u x16) = u (sg1 x2 + x7 + sg0 x15 + x16) := by
 rw [show Int.toNat 10 = 10 from rfl, show Int.toNat 3 = 3 from rfl, u_shr _ 10 (by decide), u_shr _ 3 (by decide)]
 simp only [u_xor, u_add]
 rfl
def lit64 {α : Type} (f : Nat → α) : List α := [f 0, f 1, f 2, f 3, f 4, f 5, f 6, f 7, f 8, f 9, f 10, f 11, f 12, f 13, f 14, f 15, f 16, f 17, f 18, f 19, f 20, f 21, f 22, f 23, f 24, f 25, f 26, f 27, f 28, f 29, f 30, f 31, f 32, f 33, f 34, f 35, f 36, f 37, f 38, f 39, f 40, f 41, f 42, f 43, f 44, f 45, f 46, f 47, f 48, f 49, f 50, f 51, f 52, f 53, f 54, f 55, f 56, f 57, f 58, f 59, f 60, f 61, f 62, f 63]
theorem lit64_eq {α : Type} (f : Nat → α) : lit64 f = (List.range 64).map f := rfl
theorem lit64_get {α : Type} (f : Nat → α) {j : Nat} {x : α} (h : (lit64 f)[j]? = some x) : j < 64 ∧ x = f j := by
 rw [lit64_eq] at h
 have hj : j < 64 := by have := (List.getElem?_eq_some_iff.1 h).1; simpa using this
 rw [List.getElem?_map, List.getElem?_range hj] at h
 exact ⟨hj, (Option.some.inj h).symm⟩
def wAt (bs : List UInt8) (i : Nat) : BitVec 32 := (schedN bs 64).getD i 0
theorem schedule (n : Nat) (bs : List UInt8) (hn : 64 ≤ n) (hl : bs.length = n) (H : Hp) : CallO Tryz.prog 206 [.si (.ce (.self 0))] H [.row 5 1 n (bCells bs)] fun e H' G' =>
  e = .ret (.si (.ag (lit64 fun i => SC.val (cellW (wAt bs i))))) ∧ H' = H ∧ G' = [.row 5 1 n (bCells bs)] := by
 refine CallO.of_body tab Tryz.func206 rfl (nt := Tryz.f206.ntmps) rfl (by kernel_rfl) ?_
 conv => whnf
 refine WS.loop (fun m F H2 G => ∃ t : Nat, t ≤ 64 ∧ m = 64 - t ∧ F = [(0, .si (.ce (.self 0))), (2, .si (.ce (.ptr 1 0))), (3, .si (.ce (.ptr 2 0))), (7, pv (.int .i64 t))] ∧ H2 = H ∧
   G = [.row 5 1 n (bCells bs), .arr 254 (List.replicate 64 (.int .u32 0)), .arr 254 (wCells bs t)]) 65
  ⟨64, by omega, _, _, [0, 1, 2], ⟨0, by omega, rfl, rfl, rfl, rfl⟩, rfl, ⟨rfl, .inr rfl, .inr rfl, trivial⟩, rfl, rfl, rfl, rfl, trivial⟩ ?_
 rintro m F H2 G hle2 ⟨t, h2, rfl, rfl, rfl, rfl⟩
 refine codeL.go tab ?_
 conv => whnf
 refine br.of (fun h1 => ?_) (fun h1 => ?_) <;> conv => whnf
 ·simp only [decide_eq_true_eq] at h1
  refine br.of (fun h3 => ?_) (fun h3 => ?_) <;> conv => whnf
  ·simp only [decide_eq_true_eq] at h3
   refine WS.drawH tab mixed (.take 0 (.take 1 (.take 2 (.take 3 (.take 4 (.take 5 (.take 6 (.take 7 (.take 8 (.take 9 (.take 10 (.take 11 (.take 12 (.take 13 (.take 14 (.take 15 (.take 16 (.take 17 (.take 18 (.take 19 (.take 20 (.take 21 (.take 22 (.take 23 (.take 24 (.take 25 (.take 26 (.take 27 (.take 28 (.take 29 (.take 30 (.take 31 (.take 32 (.take 33 (.take 34 (.alt 35 .done .no)))))))))))))))))))))))))))))))))))) (by kernel_rfl) [.row 5 1 n (bCells bs), .dead, .dead] ⟨rfl, trivial, trivial, trivial⟩ rfl ?_
   conv => whnf
   have q0 : IntKind.i64.wrap (4 * (t : Int)) = ((4 * t : Nat) : Int) := by rw [wrap64 (by omega) (by omega)]; omega
   have q1 : IntKind.i64.wrap (((4 * t : Nat) : Int) + 1) = ((4 * t + 1 : Nat) : Int) := by rw [wrap64 (by omega) (by omega)]; omega
   have q2 : IntKind.i64.wrap (((4 * t : Nat) : Int) + 2) = ((4 * t + 2 : Nat) : Int) := by rw [wrap64 (by omega) (by omega)]; omega
   have q3 : IntKind.i64.wrap (((4 * t : Nat) : Int) + 3) = ((4 * t + 3 : Nat) : Int) := by rw [wrap64 (by omega) (by omega)]; omega
   rw [q0]
   refine ⟨⟨by omega, by omega⟩, ?_⟩
   conv => whnf
   refine ⟨_, bget (i := 4 * t) (by omega) (by simp; omega), ?_⟩
   conv => whnf
   rw [u_by]
   refine ⟨by decide, ?_⟩
   conv => whnf
   rw [q0, q1]
   refine ⟨⟨by omega, by omega⟩, ?_⟩
   conv => whnf
   refine ⟨_, bget (i := 4 * t + 1) (by omega) (by simp; omega), ?_⟩
   conv => whnf
   rw [u_by]
   refine ⟨by decide, ?_⟩
   conv => whnf
   rw [q0, q2]
   refine ⟨⟨by omega, by omega⟩, ?_⟩
   conv => whnf
   refine ⟨_, bget (i := 4 * t + 2) (by omega) (by simp; omega), ?_⟩
   conv => whnf
   rw [u_by]
   refine ⟨by decide, ?_⟩
   conv => whnf
   rw [q0, q3]
   refine ⟨⟨by omega, by omega⟩, ?_⟩
   conv => whnf
   refine ⟨_, bget (i := 4 * t + 3) (by omega) (by simp; omega), ?_⟩
   conv => whnf
   rw [u_by]
   refine ⟨⟨by omega, by omega⟩, ?_⟩
   conv => whnf
   refine ⟨⟨?_, ?_⟩, trivial⟩
   rotate_left
   ·conv => whnf
    refine ⟨⟨rfl, trivial, trivial, trivial⟩, ?_⟩
    conv => whnf
    rw [wrap64 (x := (t : Int) + 1) (by omega) (by omega)]
    refine ⟨64 - (t + 1), by omega, _, _, [0, 1, 2], ⟨t + 1, by omega, rfl, rfl, rfl, rfl⟩, rfl, ⟨rfl, .inl rfl, .inl ?_, trivial⟩, rfl, rfl, rfl, rfl, trivial⟩
    have hw : schedN bs (t + 1) = schedN bs t ++ [word bs t] := by
     show schedN bs t ++ [if t < 16 then _ else _] = _
     rw [if_pos (by omega)]
    rw [wCells_succ bs (by omega) (by simp) hw (word_eq bs t)]
   ·rw [wCells_length bs h2]
    show 0 + (t : Int).toNat * 1 + 1 ≤ 64
    omega
  ·simp only [decide_eq_false_iff_not] at h3
   refine WS.drawH tab mixed (.take 0 (.take 1 (.take 2 (.take 3 (.take 4 (.take 5 (.take 6 (.take 7 (.take 8 (.take 9 .done)))))))))) (by kernel_rfl) [.dead, .dead, .arr 254 (wCells bs t)] ⟨trivial, trivial, rfl, trivial⟩ rfl ?_
   conv => whnf
   have q15 : IntKind.i64.wrap ((t : Int) - 15) = ((t - 15 : Nat) : Int) := by rw [wrap64 (by omega) (by omega)]; omega
   have q2 : IntKind.i64.wrap ((t : Int) - 2) = ((t - 2 : Nat) : Int) := by rw [wrap64 (by omega) (by omega)]; omega
   have q7 : IntKind.i64.wrap ((t : Int) - 7) = ((t - 7 : Nat) : Int) := by rw [wrap64 (by omega) (by omega)]; omega
   have q16 : IntKind.i64.wrap ((t : Int) - 16) = ((t - 16 : Nat) : Int) := by rw [wrap64 (by omega) (by omega)]; omega
   rw [q15]
   refine ⟨⟨by omega, by omega⟩, ?_⟩
   conv => whnf
   refine ⟨_, wget (i := t - 15) (by omega) (by simp), ?_⟩
   conv => whnf
   rw [q2]
   refine ⟨⟨by omega, by omega⟩, ?_⟩
   conv => whnf
   refine ⟨_, wget (i := t - 2) (by omega) (by simp), ?_⟩
   conv => whnf
   refine WS.drawH tab mixed (.take 0 (.take 1 (.take 3 (.take 6 (.take 7 (.take 9 (.take 10 (.take 11 (.take 12 (.take 14 (.take 16 (.take 19 (.take 20 (.take 23 (.take 24 (.take 25 (.take 26 (.alt 2 (.alt 4 (.take 5 (.take 8 (.take 13 (.alt 15 (.alt 17 (.take 18 (.take 21 (.take 22 (.take 27 (.take 28 (.alt 29 .done .no)))))) .no) .no)))) .no) .no)))))))))))))))))) (by kernel_rfl) [.dead, .dead, .pre 254 ((schedN bs t).map cellW)] ⟨trivial, trivial, ⟨_, rfl, by unfold wCells; exact List.take_left⟩, trivial⟩ rfl ?_
   conv => whnf
   refine ⟨by decide, ?_⟩
   conv => whnf
   rw [q7]
   refine ⟨⟨by omega, by omega⟩, ?_⟩
   conv => whnf
   refine ⟨_, pget (i := t - 7) (by omega) (by simp), ?_⟩
   conv => whnf
   refine ⟨by decide, ?_⟩
   conv => whnf
   rw [q16]
   refine ⟨⟨by omega, by omega⟩, ?_⟩
   conv => whnf
   refine ⟨_, pget (i := t - 16) (by omega) (by simp), ?_⟩
   conv => whnf
   generalize hx2 : (schedN bs t).getD (t - 2) 0 = x2
   generalize hx7 : (schedN bs t).getD (t - 7) 0 = x7
   generalize hx15 : (schedN bs t).getD (t - 15) 0 = x15
   generalize hx16 : (schedN bs t).getD (t - 16) 0 = x16
   refine ⟨⟨⟨_, Tryz.func207, rfl, by kernel_rfl⟩, CallS.use (right x2 17 (by decide) (by decide) H2) [] rfl rfl trivial ?_⟩, trivial⟩
   rintro e H3 G' hle3 ⟨rfl, rfl, rfl⟩
   conv => whnf
   refine ⟨⟨trivial, trivial, ⟨_, rfl, by unfold wCells; exact List.take_left⟩, trivial⟩, ?_⟩
   conv => whnf
   refine ⟨⟨⟨_, Tryz.func207, rfl, by kernel_rfl⟩, CallS.use (right x2 19 (by decide) (by decide) H3) [] rfl rfl trivial ?_⟩, trivial⟩
   rintro e H4 G' hle4 ⟨rfl, rfl, rfl⟩
   conv => whnf
   refine ⟨⟨trivial, trivial, ⟨_, rfl, by unfold wCells; exact List.take_left⟩, trivial⟩, ?_⟩
   conv => whnf
   refine ⟨⟨⟨_, Tryz.func207, rfl, by kernel_rfl⟩, CallS.use (right x15 7 (by decide) (by decide) H4) [] rfl rfl trivial ?_⟩, trivial⟩
   rintro e H5 G' hle5 ⟨rfl, rfl, rfl⟩
   conv => whnf
   refine ⟨⟨trivial, trivial, ⟨_, rfl, by unfold wCells; exact List.take_left⟩, trivial⟩, ?_⟩
   conv => whnf
   refine ⟨⟨⟨_, Tryz.func207, rfl, by kernel_rfl⟩, CallS.use (right x15 18 (by decide) (by decide) H5) [] rfl rfl trivial ?_⟩, trivial⟩
   rintro e H6 G' hle6 ⟨rfl, rfl, rfl⟩
   conv => whnf
   refine ⟨⟨trivial, trivial, ⟨_, rfl, by unfold wCells; exact List.take_left⟩, trivial⟩, ?_⟩
   conv => whnf
   refine ⟨⟨by omega, by omega⟩, ?_⟩
   conv => whnf
   have hw : schedN bs (t + 1) = schedN bs t ++ [sg1 x2 + x7 + sg0 x15 + x16] := by
    show schedN bs t ++ [if t < 16 then _ else _] = _
    rw [if_neg (by omega), hx2, hx7, hx15, hx16]
   refine ⟨⟨?_, ?_⟩, trivial⟩
   rotate_left
   ·conv => whnf
    rw [wCells_succ bs (by omega) (by simp) hw (sig_eq x2 x7 x15 x16)]
    refine ⟨⟨trivial, trivial, ⟨_, rfl, by unfold wCells; rw [hw, List.map_append, List.append_assoc]; exact List.take_left⟩, trivial⟩, ?_⟩
    conv => whnf
    rw [wrap64 (x := (t : Int) + 1) (by omega) (by omega)]
    exact ⟨64 - (t + 1), by omega, _, _, [0, 1, 2], ⟨t + 1, by omega, rfl, rfl, rfl, rfl⟩, rfl, ⟨rfl, .inl rfl, .inl rfl, trivial⟩, rfl, rfl, rfl, rfl, trivial⟩
   ·rw [wCells_length bs h2]
    show 0 + (t : Int).toNat * 1 + 1 ≤ 64
    omega
 ·simp only [decide_eq_false_iff_not] at h1
  obtain rfl : t = 64 := by omega
  refine ⟨lit64 fun i => cellW (wAt bs i), rfl, fun j x hj => ?_, ?_⟩
  ·obtain ⟨hj1, rfl⟩ := lit64_get _ hj
   exact wget hj1 (by omega)
  conv => whnf
  refine ⟨by simp, ?_⟩
  conv => whnf
  refine ⟨lit64 fun i => cellW (wAt bs i), rfl, fun j x hj => ?_, ?_⟩
  ·obtain ⟨hj1, rfl⟩ := lit64_get _ hj
   show (splice (List.replicate 64 (Value.int .u32 0)) 0 (lit64 fun i => cellW (wAt bs i)))[0 + j]? = _
   unfold splice
   rw [List.take_zero, List.nil_append, List.getElem?_append_left (by show 0 + j < 64; omega), Nat.zero_add]
   exact hj
  conv => whnf
  exact ⟨rfl, rfl, rfl⟩
end Go.Kx.Sha
namespace Go.Kx.Sha
open Go.Proofs Go.Kx
set_option maxRecDepth 20000

def s8 (s : Fin 8 → BitVec 32) : List SC := [.val (cellW (s 0)), .val (cellW (s 1)), .val (cellW (s 2)), .val (cellW (s 3)), .val (cellW (s 4)), .val (cellW (s 5)), .val (cellW (s 6)), .val (cellW (s 7))]
def Sg0 (a : BitVec 32) : BitVec 32 := a.rotateRight 2 ^^^ a.rotateRight 13 ^^^ a.rotateRight 22
def Sg1 (e : BitVec 32) : BitVec 32 := e.rotateRight 6 ^^^ e.rotateRight 11 ^^^ e.rotateRight 25
structure St8 where
  a : BitVec 32
  b : BitVec 32
  c : BitVec 32
  d : BitVec 32
  e : BitVec 32
  f : BitVec 32
  g : BitVec 32
  h : BitVec 32
def St8.t1 (s : St8) (k w : BitVec 32) : BitVec 32 := s.h + Sg1 s.e + ((s.e &&& s.f) ^^^ (~~~ s.e &&& s.g)) + k + w
def St8.t2 (s : St8) : BitVec 32 := Sg0 s.a + ((s.a &&& s.b) ^^^ (s.a &&& s.c) ^^^ (s.b &&& s.c))
def St8.round (s : St8) (k w : BitVec 32) : St8 := ⟨s.t1 k w + s.t2, s.a, s.b, s.c, s.d + s.t1 k w, s.e, s.f, s.g⟩
def rounds (bs : List UInt8) (s : St8) : Nat → St8
  | 0 => s
  | t + 1 => (rounds bs s t).round (kAt t) (wAt bs t)
def St8.cells (s : St8) : List SC := [.val (cellW s.a), .val (cellW s.b), .val (cellW s.c), .val (cellW s.d), .val (cellW s.e), .val (cellW s.f), .val (cellW s.g), .val (cellW s.h)]
def St8.vals (s : St8) : List Value := [cellW s.a, cellW s.b, cellW s.c, cellW s.d, cellW s.e, cellW s.f, cellW s.g, cellW s.h]
def wVals (bs : List UInt8) : List Value := lit64 fun i => cellW (wAt bs i)
def RI (st : St8) (n : Nat) (bs : List UInt8) (H : Hp) (m : Nat) (F : Fr) (H2 : Hp) (G : List SB) : Prop :=
  ∃ t : Nat, t < 64 ∧ m = 64 - t ∧ F = [(2, .si (.ce (.ptr 1 0))), (4, .si (.ce (.ptr 2 0))), (5, .si (.ce (.ptr 3 0))), (6, .si (.ce (.ptr 4 0))), (7, pv (.int .i64 t))] ∧ H2 = H ∧
    G = [.row 5 1 n (bCells bs), .box 225 st.cells, .box 225 [.val (.int .u32 0), .val (.int .u32 0), .val (.int .u32 0), .val (.int .u32 0), .val (.int .u32 0), .val (.int .u32 0), .val (.int .u32 0), .val (.int .u32 0)], .arr 254 (wVals bs), .box 225 (rounds bs st t).cells]
theorem wVals_get {bs : List UInt8} {t off : Nat} (ht : t < 64) (ho : off = t) : (wVals bs)[off]? = some (.int .u32 (u (wAt bs t))) := by
  subst ho
  unfold wVals
  rw [lit64_eq, List.getElem?_map, List.getElem?_range ht]
  rfl
theorem u_not (a : BitVec 32) : IntKind.u32.wrap ((BitVec.ofInt IntKind.u32.bits (if IntKind.u32.signed = true then -1 else IntKind.u32.max) ^^^ BitVec.ofInt IntKind.u32.bits (u a)).toNat : Int) = u (~~~ a) := by
  have h : ((BitVec.ofInt 32 (-1 + 4294967296)) : BitVec 32) = BitVec.allOnes 32 := by decide
  have h1 : IntKind.u32.max = (-1 + 4294967296 : Int) := by decide
  rw [show (if IntKind.u32.signed = true then (-1 : Int) else IntKind.u32.max) = (-1 + 4294967296 : Int) by rw [if_neg (by decide), h1]]
  show IntKind.u32.wrap ((BitVec.ofInt 32 (-1 + 4294967296) ^^^ BitVec.ofInt 32 (u a)).toNat : Int) = _
  rw [h, show BitVec.ofInt 32 (u a) = a from ofInt_u a, BitVec.allOnes_xor]
  exact wrap32 (u_lt _).1 (u_lt (~~~ a)).2
def St8.add (s t : St8) : St8 := ⟨s.a + t.a, s.b + t.b, s.c + t.c, s.d + t.d, s.e + t.e, s.f + t.f, s.g + t.g, s.h + t.h⟩
def addC (s t : St8) : Nat → List SC
  | 0 => s.cells
  | 1 => (St8.mk (s.a + t.a) s.b s.c s.d s.e s.f s.g s.h).cells
  | 2 => (St8.mk (s.a + t.a) (s.b + t.b) s.c s.d s.e s.f s.g s.h).cells
  | 3 => (St8.mk (s.a + t.a) (s.b + t.b) (s.c + t.c) s.d s.e s.f s.g s.h).cells
  | 4 => (St8.mk (s.a + t.a) (s.b + t.b) (s.c + t.c) (s.d + t.d) s.e s.f s.g s.h).cells
  | 5 => (St8.mk (s.a + t.a) (s.b + t.b) (s.c + t.c) (s.d + t.d) (s.e + t.e) s.f s.g s.h).cells
  | 6 => (St8.mk (s.a + t.a) (s.b + t.b) (s.c + t.c) (s.d + t.d) (s.e + t.e) (s.f + t.f) s.g s.h).cells
  | 7 => (St8.mk (s.a + t.a) (s.b + t.b) (s.c + t.c) (s.d + t.d) (s.e + t.e) (s.f + t.f) (s.g + t.g) s.h).cells
  | _ => (s.add t).cells
def zero8 : List SC := [.val (.int .u32 0), .val (.int .u32 0), .val (.int .u32 0), .val (.int .u32 0), .val (.int .u32 0), .val (.int .u32 0), .val (.int .u32 0), .val (.int .u32 0)]
def compressP (bs : List UInt8) (st : St8) : St8 := (rounds bs st 64).add st
theorem compress (st : St8) (n : Nat) (bs : List UInt8) (hn : 64 ≤ n) (hl : bs.length = n) (H : Hp) : CallO Tryz.prog 178 [.si (.ag st.cells), .si (.ce (.self 0))] H [.row 5 1 n (bCells bs)] fun e H' G' =>
    e = .ret (.si (.ag (compressP bs st).cells)) ∧ H' = H ∧ G' = [.row 5 1 n (bCells bs)] := by
  refine CallO.of_bodyW tab Tryz.func178 rfl (nt := Tryz.f178.ntmps) rfl (by kernel_rfl) ?_
  refine W.seqS (codeX_ok tab _ ?_)
  conv => whnf
  refine WS.scopeR (l := 0) rfl (RI st n bs H) 64 ?_ ?_
  · rintro m F H2 G hle ⟨t, ht, rfl, rfl, rfl, rfl⟩
    refine codeL.go tab ?_
    conv => whnf
    refine WS.draw tab mixed (.take 0 (.take 1 (.take 2 (.take 3 (.take 5 (.take 6 (.take 9 (.take 10 (.take 14 (.take 15 (.take 16 (.take 17 (.take 18 (.take 19 (.take 20 (.take 21 (.take 22 (.take 23 (.take 24 (.take 25 (.take 27 (.take 30 (.take 31 (.take 32 (.alt 4 (.alt 7 (.take 8 (.alt 11 (.take 12 (.take 13 (.take 26 (.alt 28 (.take 29 (.take 33 (.take 34 .done))) .no)))) .no)) .no) .no))))))))))))))))))))))))) (by kernel_rfl) [] ?_
    conv => whnf
    generalize hR : rounds bs st t = R
    iterate 8 (refine ⟨by decide, ?_⟩; conv => whnf)
    refine ⟨⟨by omega, by omega⟩, ?_⟩
    conv => whnf
    refine ⟨_, wVals_get ht (by simp), ?_⟩
    conv => whnf
    refine ⟨⟨⟨_, Tryz.func207, rfl, by kernel_rfl⟩, CallS.use (right R.e 6 (by decide) (by decide) H2) [] rfl rfl trivial ?_⟩, trivial⟩
    rintro e H3 G' hle3 ⟨rfl, rfl, rfl⟩
    conv => whnf
    refine ⟨⟨rfl, rfl, rfl, rfl, rfl, trivial⟩, ?_⟩
    conv => whnf
    refine ⟨⟨⟨_, Tryz.func207, rfl, by kernel_rfl⟩, CallS.use (right R.e 11 (by decide) (by decide) H3) [] rfl rfl trivial ?_⟩, trivial⟩
    rintro e H4 G' hle4 ⟨rfl, rfl, rfl⟩
    conv => whnf
    refine ⟨⟨rfl, rfl, rfl, rfl, rfl, trivial⟩, ?_⟩
    conv => whnf
    refine ⟨⟨⟨_, Tryz.func207, rfl, by kernel_rfl⟩, CallS.use (right R.e 25 (by decide) (by decide) H4) [] rfl rfl trivial ?_⟩, trivial⟩
    rintro e H5 G' hle5 ⟨rfl, rfl, rfl⟩
    conv => whnf
    refine ⟨⟨rfl, rfl, rfl, rfl, rfl, trivial⟩, ?_⟩
    conv => whnf
    refine ⟨⟨⟨_, Tryz.func208, rfl, by kernel_rfl⟩, CallS.use (kOf t ht H5) [] rfl rfl trivial ?_⟩, trivial⟩
    rintro e H6 G' hle6 ⟨rfl, rfl, rfl⟩
    conv => whnf
    refine ⟨⟨rfl, rfl, rfl, rfl, rfl, trivial⟩, ?_⟩
    conv => whnf
    refine WS.draw tab mixed (.take 0 (.take 1 (.take 3 (.take 4 (.take 7 (.take 8 (.take 11 (.take 12 (.take 13 (.take 14 (.take 15 (.take 16 (.take 17 (.take 18 (.take 19 (.take 20 (.take 21 (.take 22 (.take 23 (.take 24 (.take 25 (.take 26 (.take 27 (.alt 2 (.alt 5 (.take 6 (.alt 9 (.take 10 (.take 28 (.take 29 .done))) .no)) .no) .no)))))))))))))))))))))))) (by kernel_rfl) [] ?_
    conv => whnf
    iterate 9 (refine ⟨by decide, ?_⟩; conv => whnf)
    refine ⟨⟨⟨_, Tryz.func207, rfl, by kernel_rfl⟩, CallS.use (right R.a 2 (by decide) (by decide) H6) [] rfl rfl trivial ?_⟩, trivial⟩
    rintro e H7 G' hle7 ⟨rfl, rfl, rfl⟩
    conv => whnf
    refine ⟨⟨rfl, rfl, rfl, rfl, rfl, trivial⟩, ?_⟩
    conv => whnf
    refine ⟨⟨⟨_, Tryz.func207, rfl, by kernel_rfl⟩, CallS.use (right R.a 13 (by decide) (by decide) H7) [] rfl rfl trivial ?_⟩, trivial⟩
    rintro e H8 G' hle8 ⟨rfl, rfl, rfl⟩
    conv => whnf
    refine ⟨⟨rfl, rfl, rfl, rfl, rfl, trivial⟩, ?_⟩
    conv => whnf
    refine ⟨⟨⟨_, Tryz.func207, rfl, by kernel_rfl⟩, CallS.use (right R.a 22 (by decide) (by decide) H8) [] rfl rfl trivial ?_⟩, trivial⟩
    rintro e H9 G' hle9 ⟨rfl, rfl, rfl⟩
    conv => whnf
    refine ⟨⟨rfl, rfl, rfl, rfl, rfl, trivial⟩, ?_⟩
    conv => whnf
    iterate 7 (refine ⟨by decide, ?_⟩; conv => whnf)
    rw [wrap64 (x := (t : Int) + 1) (by omega) (by omega)]
    refine br.of (fun h1 => ?_) (fun h1 => ?_) <;> conv => whnf
    · simp only [decide_eq_true_eq] at h1
      simp only [u_not, u_xor, u_and, u_add]
      refine ⟨64 - (t + 1), by omega, _, _, [0, 1, 2, 3, 4], ⟨t + 1, by omega, rfl, rfl, rfl, rfl⟩, rfl, ⟨rfl, rfl, rfl, .inl rfl, ?_, trivial⟩, rfl, rfl, rfl, rfl, rfl, trivial⟩
      show _ = SB.box 225 (((rounds bs st t).round (kAt t) (wAt bs t)).cells.map (SC.ren [0, 1, 2, 3, 4]))
      rw [hR]
      rfl
    · simp only [decide_eq_false_iff_not] at h1
      obtain rfl : t = 63 := by omega
      simp only [u_not, u_xor, u_and, u_add]
      refine WS.loop (fun m F H3 G => ∃ k : Nat, k ≤ 8 ∧ m = 8 - k ∧ F = [(4, .si (.ce (.ptr 2 0))), (6, .si (.ce (.ptr 4 0))), (102, .si (.ag st.cells)), (103, pv (.int .i64 k))] ∧ H3 = H9 ∧
          G = [.row 5 1 n (bCells bs), .box 225 st.cells, .box 225 zero8, .arr 254 (wVals bs), .box 225 (addC (rounds bs st 64) st k)]) 9
        ⟨8, by decide, _, _, [0, 1, 2, 3, 4], ⟨0, by decide, rfl, rfl, rfl, rfl⟩, rfl, ⟨rfl, rfl, rfl, .inl rfl, ?_, trivial⟩, rfl, rfl, rfl, rfl, trivial⟩ ?_
      · show _ = SB.box _ (((rounds bs st 63).round (kAt 63) (wAt bs 63)).cells.map (SC.ren [0, 1, 2, 3, 4]))
        rw [hR]; rfl
      clear hR
      rintro m F H3 G hle10 ⟨k, hk, rfl, rfl, rfl, rfl⟩
      refine codeL.go tab ?_
      unfold compressP
      generalize rounds bs st 64 = R2
      have hk9 : k = 0 ∨ k = 1 ∨ k = 2 ∨ k = 3 ∨ k = 4 ∨ k = 5 ∨ k = 6 ∨ k = 7 ∨ k = 8 := by omega
      rcases hk9 with rfl | rfl | rfl | rfl | rfl | rfl | rfl | rfl | rfl
      all_goals conv => whnf
      all_goals first
        | exact ⟨rfl, rfl, rfl⟩
        | (iterate 4 (first | (refine ⟨by decide, ?_⟩; conv => whnf) | (refine ⟨_, rfl, ?_⟩; conv => whnf))
           rw [u_add]
           first | exact ⟨7, by decide, _, _, [0, 1, 2, 3, 4], ⟨1, by decide, rfl, rfl, rfl, rfl⟩, rfl, ⟨rfl, rfl, rfl, .inl rfl, rfl, trivial⟩, rfl, rfl, rfl, rfl, trivial⟩ | exact ⟨6, by decide, _, _, [0, 1, 2, 3, 4], ⟨2, by decide, rfl, rfl, rfl, rfl⟩, rfl, ⟨rfl, rfl, rfl, .inl rfl, rfl, trivial⟩, rfl, rfl, rfl, rfl, trivial⟩ | exact ⟨5, by decide, _, _, [0, 1, 2, 3, 4], ⟨3, by decide, rfl, rfl, rfl, rfl⟩, rfl, ⟨rfl, rfl, rfl, .inl rfl, rfl, trivial⟩, rfl, rfl, rfl, rfl, trivial⟩ | exact ⟨4, by decide, _, _, [0, 1, 2, 3, 4], ⟨4, by decide, rfl, rfl, rfl, rfl⟩, rfl, ⟨rfl, rfl, rfl, .inl rfl, rfl, trivial⟩, rfl, rfl, rfl, rfl, trivial⟩ | exact ⟨3, by decide, _, _, [0, 1, 2, 3, 4], ⟨5, by decide, rfl, rfl, rfl, rfl⟩, rfl, ⟨rfl, rfl, rfl, .inl rfl, rfl, trivial⟩, rfl, rfl, rfl, rfl, trivial⟩ | exact ⟨2, by decide, _, _, [0, 1, 2, 3, 4], ⟨6, by decide, rfl, rfl, rfl, rfl⟩, rfl, ⟨rfl, rfl, rfl, .inl rfl, rfl, trivial⟩, rfl, rfl, rfl, rfl, trivial⟩ | exact ⟨1, by decide, _, _, [0, 1, 2, 3, 4], ⟨7, by decide, rfl, rfl, rfl, rfl⟩, rfl, ⟨rfl, rfl, rfl, .inl rfl, rfl, trivial⟩, rfl, rfl, rfl, rfl, trivial⟩ | exact ⟨0, by decide, _, _, [0, 1, 2, 3, 4], ⟨8, by decide, rfl, rfl, rfl, rfl⟩, rfl, ⟨rfl, rfl, rfl, .inl rfl, rfl, trivial⟩, rfl, rfl, rfl, rfl, trivial⟩)
  · intro hr
    refine codeL.seqTo tab (fun F H2 G => H2 = H ∧ F = [(2, .si (.ce (.ptr 1 0))), (4, .si (.ce (.ptr 2 0))), (5, .si (.ce (.ptr 3 0))), (6, .si (.ce (.ptr 4 0))), (7, pv (.int .i64 0))] ∧ G = [.row 5 1 n (bCells bs), .box 225 st.cells, .box 225 zero8, .arr 254 (wVals bs), .box 225 st.cells]) ?_ ?_
    · conv => whnf
      refine WS.draw tab mixed (.take 0 (.take 2 (.alt 1 (.alt 3 (.alt 4 (.alt 5 (.alt 6 (.take 7 .done) .no) .no) .no) (.alt 4 (.alt 3 (.alt 5 (.alt 6 (.take 7 .done) .no) .no) .no) .no)) (.alt 3 (.alt 1 (.alt 4 (.alt 5 (.alt 6 (.take 7 .done) .no) .no) .no) (.alt 4 (.alt 1 (.alt 5 (.alt 6 (.take 7 .done) .no) .no) .no) .no)) (.alt 4 (.alt 1 (.alt 3 (.alt 5 (.alt 6 (.take 7 .done) .no) .no) .no) (.alt 3 (.alt 1 (.alt 5 (.alt 6 (.take 7 .done) .no) .no) .no) .no)) .no))))) (by kernel_rfl) [] ?_
      conv => whnf
      repeat' (first
        | exact trivial
        | exact rfl
        | exact ⟨_, Tryz.func206, rfl, by kernel_rfl⟩
        | exact ⟨_, _, [0, 1, 2, 3, 4], ⟨rfl, rfl, rfl⟩, rfl, ⟨rfl, rfl, rfl, .inr rfl, rfl, trivial⟩, rfl, rfl, rfl, rfl, rfl, trivial⟩
        | exact ⟨_, _, [0, 1, 2, 4, 3], ⟨rfl, rfl, rfl⟩, rfl, ⟨rfl, rfl, rfl, .inr rfl, rfl, trivial⟩, rfl, rfl, rfl, rfl, rfl, trivial⟩
        | (refine CallS.use (schedule n bs hn hl _) [0] rfl rfl ⟨rfl, trivial⟩ ?_; rintro e H' G' hle ⟨rfl, rfl, rfl⟩; conv => whnf)
        | (refine And.intro ?_ ?_ <;> conv => whnf))
    · rintro F H2 G hle ⟨rfl, rfl, rfl⟩
      refine codeL.seqTo tab (RI st n bs H2 64) ?_ fun F' H' G' hle hI => codeL.label (hr F' H' G' hle hI)
      conv => whnf
      exact ⟨_, _, [0, 1, 2, 3, 4], ⟨0, by decide, rfl, rfl, rfl, rfl⟩, rfl, ⟨rfl, rfl, rfl, .inl rfl, rfl, trivial⟩, rfl, rfl, rfl, rfl, rfl, trivial⟩
end Go.Kx.Sha
namespace Go.Kx.Sha
open Go.Proofs Go.Kx

def blocks : Nat → St8 → List UInt8 → St8
 | 0, s, _ => s
 | n + 1, s, b => blocks n (compressP b s) (b.drop 64)
theorem schedN_ext {a b : List UInt8} (h : ∀ i, i < 64 → byteN a i = byteN b i) : ∀ t, schedN a t = schedN b t := by
 have hw : ∀ j, j < 16 → word a j = word b j := by
  intro j hj
  unfold word by32
  rw [h _ (by omega), h _ (by omega), h _ (by omega), h _ (by omega)]
 intro t
 induction t with
 | zero => rfl
 | succ t ih =>
  simp only [schedN, ih]
  by_cases ht : t < 16
  ·rw [if_pos ht, if_pos ht, hw t ht]
  ·rw [if_neg ht, if_neg ht]
theorem compressP_ext {a b : List UInt8} (h : ∀ i, i < 64 → byteN a i = byteN b i) (s : St8) : compressP a s = compressP b s := by
 have hr : ∀ t, rounds a s t = rounds b s t := by
  intro t
  induction t with
  | zero => rfl
  | succ t ih => unfold rounds wAt; rw [ih, schedN_ext h]
 unfold compressP
 rw [hr]
theorem compressP_append {a : List UInt8} (b : List UInt8) (h : 64 ≤ a.length) (s : St8) : compressP (a ++ b) s = compressP a s := by
 refine compressP_ext (fun i hi => ?_) s
 unfold byteN
 rw [List.getD_eq_getElem?_getD, List.getElem?_append_left (by omega), ← List.getD_eq_getElem?_getD]
theorem blocks_append (y : List UInt8) : ∀ (n : Nat) (s : St8) (x : List UInt8), n * 64 ≤ x.length → blocks n s (x ++ y) = blocks n s x
 | 0, _, _, _ => rfl
 | n + 1, s, x, h => by
  unfold blocks
  rw [compressP_append y (by omega), List.drop_append_of_le_length (by omega)]
  exact blocks_append y n _ _ (by simp; omega)
theorem blocks_add : ∀ (a b : Nat) (s : St8) (x : List UInt8), blocks (a + b) s x = blocks b (blocks a s x) (x.drop (64 * a))
 | 0, b, s, x => by simp [blocks]
 | a + 1, b, s, x => by
  rw [show a + 1 + b = (a + b) + 1 by omega]
  show blocks (a + b) (compressP x s) (x.drop 64) = blocks b (blocks a (compressP x s) (x.drop 64)) (x.drop (64 * (a + 1)))
  rw [blocks_add a b, List.drop_drop, show 64 + 64 * a = 64 * (a + 1) by omega]
theorem blocks_succ (n : Nat) (s : St8) (x : List UInt8) : blocks (n + 1) s x = compressP (x.drop (64 * n)) (blocks n s x) := by
 rw [blocks_add n 1]; rfl

def init8 : St8 := ⟨1779033703, 3144134277, 1013904242, 2773480762, 1359893119, 2600822924, 528734635, 1541459225⟩
def hst (m : List UInt8) : St8 := blocks (m.length / 64) init8 m
def rst (m : List UInt8) : List UInt8 := m.drop (64 * (m.length / 64))
theorem rst_length (m : List UInt8) : (rst m).length = m.length % 64 := by unfold rst; rw [List.length_drop]; omega
theorem split_rst (m : List UInt8) : m.take (64 * (m.length / 64)) ++ rst m = m := List.take_append_drop _ _
theorem hst_append (m b : List UInt8) : hst (m ++ b) = blocks ((rst m ++ b).length / 64) (hst m) (rst m ++ b) := by
 have hl : (m ++ b).length / 64 = m.length / 64 + (rst m ++ b).length / 64 := by
  rw [List.length_append, List.length_append, rst_length]; omega
 have hd : (m ++ b).drop (64 * (m.length / 64)) = rst m ++ b := by
  rw [List.drop_append_of_le_length (by omega)]; rfl
 unfold hst
 rw [hl, blocks_add, hd, blocks_append b (m.length / 64) init8 m (by omega)]
theorem rst_append (m b : List UInt8) : rst (m ++ b) = (rst m ++ b).drop (64 * ((rst m ++ b).length / 64)) := by
 have hl : (m ++ b).length / 64 = m.length / 64 + (rst m ++ b).length / 64 := by
  rw [List.length_append, List.length_append, rst_length]; omega
 have hd : (m ++ b).drop (64 * (m.length / 64)) = rst m ++ b := by
  rw [List.drop_append_of_le_length (by omega)]; rfl
 show (m ++ b).drop (64 * ((m ++ b).length / 64)) = _
 rw [hl, Nat.mul_add, ← List.drop_drop, hd]

def byteOf (n : Int) : UInt8 := UInt8.ofNat (n % 256).toNat
def be8 (n : Nat) : List UInt8 := [byteOf (n / 2 ^ 56 : Nat), byteOf (n / 2 ^ 48 : Nat), byteOf (n / 2 ^ 40 : Nat), byteOf (n / 2 ^ 32 : Nat), byteOf (n / 2 ^ 24 : Nat), byteOf (n / 2 ^ 16 : Nat), byteOf (n / 2 ^ 8 : Nat), byteOf (n : Nat)]
def padN (n : Nat) : Nat := (119 - n % 64) % 64
def tailOf (r : List UInt8) (n : Nat) : List UInt8 := r ++ 128 :: (List.replicate (padN r.length) 0 ++ be8 (8 * n))
def be4 (x : BitVec 32) : List UInt8 := [byteOf (x.toNat / 2 ^ 24 : Nat), byteOf (x.toNat / 2 ^ 16 : Nat), byteOf (x.toNat / 2 ^ 8 : Nat), byteOf (x.toNat : Nat)]
def outB (s : St8) : List UInt8 := be4 s.a ++ (be4 s.b ++ (be4 s.c ++ (be4 s.d ++ (be4 s.e ++ (be4 s.f ++ (be4 s.g ++ be4 s.h))))))
def sha (m : List UInt8) : List UInt8 := outB (hst (tailOf m m.length))
theorem sha_length (m : List UInt8) : (sha m).length = 32 := rfl
theorem tailOf_length (r : List UInt8) (n : Nat) : (tailOf r n).length = r.length + 1 + padN r.length + 8 := by
 unfold tailOf; simp [be8]; omega
theorem tailOf_mod (r : List UInt8) (n : Nat) : (tailOf r n).length % 64 = 0 := by
 rw [tailOf_length]; unfold padN; omega
theorem padN_mod (n : Nat) : padN (n % 64) = padN n := by unfold padN; omega
theorem sha_eq (m : List UInt8) : sha m = outB (blocks ((tailOf (rst m) m.length).length / 64) (hst m) (tailOf (rst m) m.length)) := by
 have h : tailOf m m.length = m ++ (128 :: (List.replicate (padN m.length) 0 ++ be8 (8 * m.length))) := rfl
 have h2 : rst m ++ (128 :: (List.replicate (padN m.length) 0 ++ be8 (8 * m.length))) = tailOf (rst m) m.length := by
  unfold tailOf; rw [rst_length, padN_mod]
 unfold sha
 rw [h, hst_append, h2]
end Go.Kx.Sha
namespace Go.Kx.Sha
open Go.Proofs Go.Kx
set_option maxRecDepth 20000

def hBox (k : Nat) (m : List UInt8) : SB := .box 227 ((hst m).cells ++ [.self k, .val (.int .i64 m.length)])
def hRow (m : List UInt8) : SB := .row 5 1 (rst m).length (bCells (rst m))
theorem new_ (H : Hp) : CallO Tryz.prog 143 [] H [] fun e H' G' => e = .ret (.si (.ce (.ptr 0 0))) ∧ H' = H ∧ G' = [hBox 1 [], hRow []] := by
 refine CallO.nilCell (K0 := fun e H' G' => e = .ret (.si (.ce (.ptr 0 0))) ∧ H' = H ∧ G' = [.box 227 (init8.cells ++ [.val (.slice none 0 0), .val (.int .i64 0)])]) ?_ ?_
 ·refine CallO.of_body tab Tryz.func143 rfl (nt := Tryz.f143.ntmps) rfl (by kernel_rfl) ?_
  (conv => whnf)
  exact ⟨rfl, rfl, rfl⟩
 ·rintro e H' G' hle ⟨rfl, rfl, rfl⟩
  exact .inr ⟨0, 8, _, _, 5, 1, rfl, rfl, rfl, rfl, rfl⟩
theorem row_cut (all : List UInt8) (i : Nat) : SB.row 5 1 ((all.drop (64 * i)).length - Int.toNat 64) ((bCells (all.drop (64 * i))).drop (Int.toNat 64 * 1)) = SB.row 5 1 (all.drop (64 * (i + 1))).length (bCells (all.drop (64 * (i + 1)))) := by
 have e : Int.toNat 64 = 64 := rfl
 rw [e, Nat.mul_one, bCells_drop, List.drop_drop, ← List.length_drop, List.drop_drop, Nat.mul_succ]
def WI (m bs : List UInt8) (n : Nat) (H : Hp) (k : Nat) (F : Fr) (H3 : Hp) (G : List SB) : Prop :=
 ∃ i : Nat, i ≤ (rst m ++ bs).length / 64 ∧ k = (rst m ++ bs).length / 64 - i ∧ F = [(0, .si (.ce (.ptr 0 0)))] ∧ H3 = H ∧
    G = [.box 227 ((blocks i (hst m) (rst m ++ bs)).cells ++ [.self 2, .val (.int .i64 ((m.length : Int) + n))]), .dead, .row 5 1 ((rst m ++ bs).drop (64 * i)).length (bCells ((rst m ++ bs).drop (64 * i)))]
theorem write (m bs : List UInt8) (A : Option Addr) (n cap : Nat) (H : Hp) (hb : BytesAt H A n bs) (hl : m.length + n ≤ 1000000000) :
  CallO Tryz.prog 144 [.si (.ce (.ptr 0 0)), pv (.slice A n cap)] H [hBox 1 m, hRow m] fun e H' G' => e = .ret (.tu []) ∧ H' = H ∧ G' = [hBox 2 (m ++ bs), .dead, hRow (m ++ bs)] := by
 have hr := rst_length m
 obtain ⟨hn, hA, hrd⟩ := hb
 have fin : ∀ i, i = (rst m ++ bs).length / 64 → (SB.box 227 ((blocks i (hst m) (rst m ++ bs)).cells ++ [.self 2, .val (.int .i64 ((m.length : Int) + n))]) = hBox 2 (m ++ bs)) ∧ (SB.row 5 1 ((rst m ++ bs).drop (64 * i)).length (bCells ((rst m ++ bs).drop (64 * i))) = hRow (m ++ bs)) := by
  intro i hi
  subst hi
  refine ⟨?_, ?_⟩
  ·unfold hBox
   have hlen : (m ++ bs).length = m.length + bs.length := List.length_append
   rw [hst_append, hlen, hn, Int.natCast_add]
  ·unfold hRow
   rw [rst_append]
 have hal : (rst m ++ bs).length = (rst m).length + n := by rw [List.length_append, hn]
 refine CallO.of_body tab Tryz.func144 rfl (nt := Tryz.f144.ntmps) rfl (by kernel_rfl) ?_
 (conv => whnf)
 rw [wrap64 (by omega) (by omega)]
 cases A with
 | none =>
  have hbs := hA rfl
  obtain rfl : n = 0 := by rw [hn, hbs]; rfl
  (conv => whnf)
  refine ⟨by show ((rst m).length + 0) * 2 ≤ _; omega, ?_⟩
  (conv => whnf)
  refine WS.loop (WI m bs 0 H) ((rst m ++ bs).length / 64 + 1) ?_ ?_
  ·refine ⟨(rst m ++ bs).length / 64, by omega, _, _, [0, 1, 2], ⟨0, by omega, rfl, rfl, rfl, rfl⟩, ?_⟩
   refine ⟨rfl, ⟨rfl, trivial, ?_, trivial⟩, rfl, trivial⟩
   show SB.row 5 1 ((rst m).length + 0) (bCells (rst m) ++ []) = SB.row 5 1 ((rst m ++ bs).drop (64 * 0)).length (bCells ((rst m ++ bs).drop (64 * 0)))
   rw [hbs, Nat.mul_zero, List.drop_zero, List.append_nil, List.append_nil]; rfl
  ·unfold WI
   generalize rst m ++ bs = all at *
   generalize hst m = s0 at *
   rintro k F H3 G hle ⟨i, hi, rfl, rfl, rfl, rfl⟩
   refine codeL.go tab ?_
   (conv => whnf)
   have hdl : (all.drop (64 * i)).length = all.length - 64 * i := List.length_drop
   refine br.of (fun h1 => ?_) (fun h1 => ?_) <;> (conv => whnf)
   ·simp only [ge_iff_le, decide_eq_true_eq] at h1
    refine WS.draw tab mixed (.take 0 (.take 1 (.take 2 (.take 3 (.take 5 (.take 6 (.take 7 (.alt 4 (.alt 8 (.alt 9 (.take 10 (.take 11 (.alt 12 .done .no))) .no) .no) (.alt 8 (.alt 4 (.alt 9 (.take 10 (.take 11 (.alt 12 .done .no))) .no) .no) .no))))))))) (by kernel_rfl) [0, 1, 2] ?_
    (conv => whnf)
    refine ⟨?_, ?_, trivial⟩ <;> (conv => whnf)
    all_goals
     refine ⟨⟨trivial, trivial, trivial, trivial⟩, ?_⟩
     (conv => whnf)
     refine ⟨?_, trivial⟩
     (conv => whnf)
     refine ⟨⟨trivial, trivial, trivial, trivial⟩, ?_⟩
     (conv => whnf)
     refine ⟨⟨⟨_, Tryz.func178, rfl, by kernel_rfl⟩, CallS.use (compress (blocks i s0 all) (all.drop (64 * i)).length (all.drop (64 * i)) (by omega) rfl H3) [2] rfl rfl ⟨rfl, trivial⟩ ?_⟩, trivial⟩
     rintro e H' G' hle2 ⟨rfl, rfl, rfl⟩
     (conv => whnf)
     refine ⟨⟨trivial, trivial, trivial, trivial⟩, ?_⟩
     (conv => whnf)
     refine ⟨?_, trivial⟩
     (conv => whnf)
     refine ⟨⟨trivial, trivial, trivial, trivial⟩, ?_⟩
     (conv => whnf)
     refine ⟨⟨by omega, by omega⟩, ?_⟩
     (conv => whnf)
     refine ⟨all.length / 64 - (i + 1), by omega, _, _, [0, 1, 3], ⟨i + 1, by omega, rfl, rfl, rfl, rfl⟩, ?_⟩
     refine ⟨rfl, ⟨?_, trivial, ?_, trivial⟩, rfl, trivial⟩
     ·rw [blocks_succ]; rfl
     ·exact row_cut all i
   ·simp only [ge_iff_le, decide_eq_false_iff_not] at h1
    obtain ⟨f1, f2⟩ := fin i (by omega)
    exact ⟨rfl, rfl, by rw [← f1, ← f2]⟩
 | some a =>
  refine ⟨bCells bs, by rw [bCells_length, hn]; exact (Nat.mul_one _).symm, hrd a rfl, bCells_one bs, ?_⟩
  (conv => whnf)
  refine ⟨by show ((rst m).length + n) * 2 ≤ _; omega, ?_⟩
  (conv => whnf)
  refine WS.loop (WI m bs n H) ((rst m ++ bs).length / 64 + 1) ?_ ?_
  ·refine ⟨(rst m ++ bs).length / 64, by omega, _, _, [0, 1, 2], ⟨0, by omega, rfl, rfl, rfl, rfl⟩, ?_⟩
   refine ⟨rfl, ⟨rfl, trivial, ?_, trivial⟩, rfl, trivial⟩
   show SB.row 5 1 ((rst m).length + n) (bCells (rst m) ++ bCells bs) = SB.row 5 1 ((rst m ++ bs).drop (64 * 0)).length (bCells ((rst m ++ bs).drop (64 * 0)))
   rw [bCells_append, Nat.mul_zero, List.drop_zero, List.length_append, hn]
  ·unfold WI
   generalize rst m ++ bs = all at *
   generalize hst m = s0 at *
   rintro k F H3 G hle ⟨i, hi, rfl, rfl, rfl, rfl⟩
   refine codeL.go tab ?_
   (conv => whnf)
   have hdl : (all.drop (64 * i)).length = all.length - 64 * i := List.length_drop
   refine br.of (fun h1 => ?_) (fun h1 => ?_) <;> (conv => whnf)
   ·simp only [ge_iff_le, decide_eq_true_eq] at h1
    refine WS.draw tab mixed (.take 0 (.take 1 (.take 2 (.take 3 (.take 5 (.take 6 (.take 7 (.alt 4 (.alt 8 (.alt 9 (.take 10 (.take 11 (.alt 12 .done .no))) .no) .no) (.alt 8 (.alt 4 (.alt 9 (.take 10 (.take 11 (.alt 12 .done .no))) .no) .no) .no))))))))) (by kernel_rfl) [0, 1, 2] ?_
    (conv => whnf)
    refine ⟨?_, ?_, trivial⟩ <;> (conv => whnf)
    all_goals
     refine ⟨⟨trivial, trivial, trivial, trivial⟩, ?_⟩
     (conv => whnf)
     refine ⟨?_, trivial⟩
     (conv => whnf)
     refine ⟨⟨trivial, trivial, trivial, trivial⟩, ?_⟩
     (conv => whnf)
     refine ⟨⟨⟨_, Tryz.func178, rfl, by kernel_rfl⟩, CallS.use (compress (blocks i s0 all) (all.drop (64 * i)).length (all.drop (64 * i)) (by omega) rfl H3) [2] rfl rfl ⟨rfl, trivial⟩ ?_⟩, trivial⟩
     rintro e H' G' hle2 ⟨rfl, rfl, rfl⟩
     (conv => whnf)
     refine ⟨⟨trivial, trivial, trivial, trivial⟩, ?_⟩
     (conv => whnf)
     refine ⟨?_, trivial⟩
     (conv => whnf)
     refine ⟨⟨trivial, trivial, trivial, trivial⟩, ?_⟩
     (conv => whnf)
     refine ⟨⟨by omega, by omega⟩, ?_⟩
     (conv => whnf)
     refine ⟨all.length / 64 - (i + 1), by omega, _, _, [0, 1, 3], ⟨i + 1, by omega, rfl, rfl, rfl, rfl⟩, ?_⟩
     refine ⟨rfl, ⟨?_, trivial, ?_, trivial⟩, rfl, trivial⟩
     ·rw [blocks_succ]; rfl
     ·exact row_cut all i
   ·simp only [ge_iff_le, decide_eq_false_iff_not] at h1
    obtain ⟨f1, f2⟩ := fin i (by omega)
    exact ⟨rfl, rfl, by rw [← f1, ← f2]⟩
end Go.Kx.Sha
