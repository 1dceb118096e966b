/- Values as texts: what is told stays told when it is written; what is written is read again. No condition of its own. -/
import Derived.Test.YtfchdibbjaeocaaGreatDoorMS14
namespace Go.Kx.Ro
open Go.Proofs Go.Kx Go.RowKit Go.Kx.Js Go.Kx.Pr
set_option maxRecDepth 20000
set_option linter.unusedSimpArgs false
inductive Told : List UInt8 → Prop
  | nil : Told []
  | step {l : List UInt8} {n : Nat} : charP l = n + 1 → Told (l.drop (n + 1)) → Told l
theorem charP_nil : charP [] = 0 := rfl
theorem Told.wrong : ∀ {l : List UInt8}, Told l → ∀ k, l.length < k → wrongP k l = none
  | _, .nil, k, h => by
    cases k with
    | zero => omega
    | succ k => rfl
  | l, .step (n := n) h1 h2, k, h => by
    cases l with
    | nil => rw [charP_nil] at h1; omega
    | cons c t =>
      cases k with
      | zero => omega
      | succ k =>
        unfold wrongP
        rw [h1, if_neg (by omega)]
        exact h2.wrong k (by simp only [List.length_drop, List.length_cons] at h ⊢; omega)
theorem told_of : ∀ (k : Nat) (l : List UInt8), l.length < k → wrongP k l = none → Told l
  | 0, l, h, _ => by omega
  | k + 1, [], _, _ => .nil
  | k + 1, c :: t, h, hw => by
    unfold wrongP at hw
    by_cases h0 : charP (c :: t) = 0
    · rw [if_pos h0] at hw; cases hw
    · rw [if_neg h0] at hw
      obtain ⟨n, hn⟩ : ∃ n, charP (c :: t) = n + 1 := ⟨charP (c :: t) - 1, by omega⟩
      rw [hn] at hw
      exact .step hn (told_of k _ (by simp only [List.length_drop, List.length_cons] at h ⊢; omega) hw)
theorem toldP_iff (s : ByteArray) : toldP s = true ↔ Told (tL s) := by
  unfold toldP wrongI
  rw [decide_eq_true_eq]
  cases h : wrongP ((tL s).length + 1) (tL s) with
  | none => exact ⟨fun _ => told_of _ _ (by omega) h, fun _ => by show (-1 : Int) < 0; omega⟩
  | some r =>
    constructor
    · intro h2
      have : ((Js.pos s r : Nat) : Int) < 0 := h2
      omega
    · intro h2
      rw [h2.wrong _ (by omega)] at h
      cases h
theorem inSp_app : ∀ (sp : Spans) (t x : List UInt8), inSp sp t = true → inSp sp (t.take sp.length ++ x) = true
  | [], t, x, _ => by simp [inSp]
  | p :: r, [], x, h => by simp [inSp] at h
  | p :: r, c :: t, x, h => by
    simp only [inSp, Bool.and_eq_true] at h
    simp only [List.length_cons, List.take_succ_cons, List.cons_append, inSp, Bool.and_eq_true]
    exact ⟨h.1, inSp_app r t x h.2⟩
theorem charP_cons (c : UInt8) (t : List UInt8) : charP (c :: t) = match behindP c.toNat with
  | none => 0
  | some sp => if t.length + 1 ≤ sp.length then 0 else if inSp sp t then 1 + sp.length else 0 := rfl
theorem charP_take {l : List UInt8} {n : Nat} (h : charP l = n + 1) (x : List UInt8) : charP (l.take (n + 1) ++ x) = n + 1 := by
  cases l with
  | nil => rw [charP_nil] at h; omega
  | cons c t =>
    rw [List.take_succ_cons, List.cons_append, charP_cons]
    rw [charP_cons] at h
    cases hb : behindP c.toNat with
    | none => rw [hb] at h; simp at h
    | some sp =>
      rw [hb] at h
      simp only at h ⊢
      by_cases hl : t.length + 1 ≤ sp.length
      · rw [if_pos hl] at h; omega
      · rw [if_neg hl] at h
        by_cases hi : inSp sp t = true
        · rw [if_pos hi] at h
          obtain rfl : n = sp.length := by omega
          rw [if_neg (by simp only [List.length_cons, List.length_append, List.length_take]; omega), if_pos (inSp_app sp t x hi)]
          omega
        · rw [if_neg hi] at h; omega
theorem Told.app_take {l : List UInt8} {n : Nat} (h : charP l = n + 1) {x : List UInt8} (hx : Told x) : Told (l.take (n + 1) ++ x) := by
  have hle := charP_le l
  refine .step (charP_take h x) ?_
  have : (l.take (n + 1)).length = n + 1 := by rw [List.length_take]; omega
  rw [List.drop_append_of_le_length (by omega), List.drop_of_length_le (by omega)]
  exact hx
theorem Told.append : ∀ {a : List UInt8}, Told a → ∀ {b : List UInt8}, Told b → Told (a ++ b)
  | _, .nil, b, hb => hb
  | l, .step (n := n) h1 h2, b, hb => by
    have := Told.app_take h1 (h2.append hb)
    rwa [← List.append_assoc, List.take_append_drop] at this
theorem charP_one {c : UInt8} (h : c.toNat < 128) (t : List UInt8) : charP (c :: t) = 0 + 1 := by
  have hb : behindP c.toNat = some [] := by unfold behindP; rw [if_pos h]
  rw [charP_cons, hb]
  simp [inSp]
theorem Told.cons {c : UInt8} (h : c.toNat < 128) {t : List UInt8} (ht : Told t) : Told (c :: t) := .step (charP_one h t) ht
theorem Told.ascii : ∀ {l : List UInt8}, l.all (fun c => decide (c.toNat < 128)) = true → Told l
  | [], _ => .nil
  | c :: t, h => by
    simp only [List.all_cons, Bool.and_eq_true, decide_eq_true_eq] at h
    exact .cons h.1 (.ascii h.2)
theorem escB_ascii (c : UInt8) (h : c.toNat < 128) : (escB c).all (fun c => decide (c.toNat < 128)) = true := by
  have h1 : ∀ n : Fin 256, n.val < 128 → (escB (UInt8.ofNat n.val)).all (fun c => decide (c.toNat < 128)) = true := by decide +kernel
  have h2 := h1 ⟨c.toNat, c.toNat_lt⟩ h
  simpa using h2
theorem escB_self (c : UInt8) (h : 128 ≤ c.toNat) : escB c = [c] := by
  have h1 : ∀ n : Fin 256, 128 ≤ n.val → escB (UInt8.ofNat n.val) = [UInt8.ofNat n.val] := by decide +kernel
  have h2 := h1 ⟨c.toNat, c.toNat_lt⟩ h
  simpa using h2
theorem inSp_big : ∀ (sp : Spans) (t : List UInt8), (∀ p ∈ sp, 128 ≤ p.1) → inSp sp t = true → ∀ c ∈ t.take sp.length, 128 ≤ c.toNat
  | [], t, _, _, c, hc => by simp at hc
  | p :: r, [], _, h, c, hc => by simp at hc
  | p :: r, d :: t, hp, h, c, hc => by
    simp only [inSp, Bool.and_eq_true, decide_eq_true_eq] at h
    simp only [List.length_cons, List.take_succ_cons, List.mem_cons] at hc
    rcases hc with rfl | hc
    · have := hp p (by simp); omega
    · exact inSp_big r t (fun q hq => hp q (by simp [hq])) h.2 c hc
theorem behind_big {c : Nat} {sp : Spans} (h : behindP c = some sp) (_ : 128 ≤ c) : ∀ p ∈ sp, 128 ≤ p.1 := by
  unfold behindP at h
  repeat' split at h
  all_goals first
    | (cases h; done)
    | (injection h with h; subst h; decide)
theorem flat_self : ∀ (l : List UInt8), (∀ c ∈ l, 128 ≤ c.toNat) → l.flatMap escB = l
  | [], _ => rfl
  | c :: t, h => by
    rw [List.flatMap_cons, escB_self c (h c (by simp)), flat_self t (fun d hd => h d (by simp [hd]))]; rfl
theorem Told.esc : ∀ {l : List UInt8}, Told l → Told (l.flatMap escB)
  | _, .nil => .nil
  | l, .step (n := n) h1 h2 => by
    have ih := h2.esc
    cases l with
    | nil => rw [charP_nil] at h1; omega
    | cons c t =>
      by_cases hc : c.toNat < 128
      · rw [charP_one hc] at h1
        obtain rfl : n = 0 := by omega
        rw [List.flatMap_cons]
        exact (Told.ascii (escB_ascii c hc)).append ih
      · have hbig : ∀ d ∈ (c :: t).take (n + 1), 128 ≤ d.toNat := by
          rw [charP_cons] at h1
          cases hb : behindP c.toNat with
          | none => rw [hb] at h1; simp at h1
          | some sp =>
            rw [hb] at h1
            simp only at h1
            by_cases hl : t.length + 1 ≤ sp.length
            · rw [if_pos hl] at h1; omega
            · rw [if_neg hl] at h1
              by_cases hi : inSp sp t = true
              · rw [if_pos hi] at h1
                obtain rfl : n = sp.length := by omega
                intro d hd
                rw [List.take_succ_cons, List.mem_cons] at hd
                rcases hd with rfl | hd
                · omega
                · exact inSp_big sp t (behind_big hb (by omega)) hi d hd
              · rw [if_neg hi] at h1; omega
        have : (c :: t).flatMap escB = (c :: t).take (n + 1) ++ ((c :: t).drop (n + 1)).flatMap escB := by
          conv => lhs; rw [← List.take_append_drop (n + 1) (c :: t)]
          rw [List.flatMap_append, flat_self _ hbig]
        rw [this]
        exact Told.app_take h1 ih
theorem Told.quote {l : List UInt8} (h : Told l) : Told (quoteB l) := by
  unfold quoteB
  exact ((Told.ascii (l := [34]) rfl).append h.esc).append (Told.ascii (l := [34]) rfl)
def escOk (c : UInt8) : Bool :=
  (match escB c with
   | [x, d] => x == 92 && shortB d == some c
   | [a, b, x, y, h1, h2] => a == 92 && b == 117 && x == 48 && y == 48 && hexD h1 == some (c.toNat / 16) && hexD h2 == some (c.toNat % 16) && decide (c.toNat < 32)
   | [x] => x == c && c != 34 && c != 92 && decide (32 ≤ c.toNat)
   | _ => false)
theorem escOk_all (c : UInt8) : escOk c = true := by
  have h1 : ∀ n : Fin 256, escOk (UInt8.ofNat n.val) = true := by decide +kernel
  have h2 := h1 ⟨c.toNat, c.toNat_lt⟩
  simpa using h2
theorem rune_low (n : Nat) (h : n < 32) : runeB (n : Int) = [UInt8.ofNat n] := by
  have h1 : ∀ n : Fin 32, runeB (n.val : Int) = [UInt8.ofNat n.val] := by decide +kernel
  exact h1 ⟨n, h⟩
theorem tk_no {c x : UInt8} {r : List UInt8} (h : x ≠ c) : tk c (x :: r) = none := by simp only [tk]; rw [if_neg h]
theorem tk_yes (c : UInt8) (r : List UInt8) : tk c (c :: r) = some r := by simp [tk]
theorem strP_step (c : UInt8) (k : Nat) (b r : List UInt8) : strP (k + 1) b (escB c ++ r) = strP k (b ++ [c]) r := by
  have h := escOk_all c
  unfold escOk at h
  split at h
  · rename_i x d he
    simp only [Bool.and_eq_true, beq_iff_eq] at h
    obtain ⟨rfl, h⟩ := h
    rw [he]
    show strP (k + 1) b (92 :: d :: r) = _
    rw [strP_esc (tk_no (by decide)) (tk_yes _ _)]
    simp only [escP, pk, h, Res.bind, List.tail_cons]
  · rename_i x1 x2 x3 x4 h1 h2 he
    simp only [Bool.and_eq_true, beq_iff_eq, decide_eq_true_eq] at h
    obtain ⟨⟨⟨⟨⟨⟨rfl, rfl⟩, rfl⟩, rfl⟩, e1⟩, e2⟩, h32⟩ := h
    rw [he]
    show strP (k + 1) b (92 :: 117 :: 48 :: 48 :: h1 :: h2 :: r) = _
    rw [strP_esc (tk_no (by decide)) (tk_yes _ _)]
    have hu : unitP (92 :: 117 :: 48 :: 48 :: h1 :: h2 :: r) (48 :: 48 :: h1 :: h2 :: r) = .ok c.toNat r := by
      unfold unitP
      have hx : hexP 4 0 (48 :: 48 :: h1 :: h2 :: r) = .ok c.toNat r := by
        have e0 : hexD 48 = some 0 := rfl
        simp only [hexP, pk, List.tail_cons, e0, e1, e2]
        congr 1
        omega
      rw [hx]
      simp only [Res.bind]
      rw [if_pos (by omega)]
    have hs : shortB 117 = none := by decide
    simp only [escP, pk, hs, tk_no (show (117 : UInt8) ≠ 47 by decide), tk_yes, hu, Res.bind, rune_low _ h32, UInt8.ofNat_toNat]
  · rename_i x he
    simp only [Bool.and_eq_true, beq_iff_eq, bne_iff_ne, ne_eq, decide_eq_true_eq] at h
    obtain ⟨⟨⟨rfl, h34⟩, h92⟩, h32⟩ := h
    rw [he]
    show strP (k + 1) b (x :: r) = _
    rw [strP_chr (tk_no h34) (tk_no h92) (show ¬ x.toNat < 32 by omega)]
    rfl
  · cases h
theorem strP_read : ∀ (s : List UInt8) (k : Nat) (b r : List UInt8), s.length < k → strP k b (s.flatMap escB ++ 34 :: r) = .ok (b ++ s) r
  | [], k, b, r, h => by
    cases k with
    | zero => simp at h
    | succ k =>
      show strP (k + 1) b (34 :: r) = _
      rw [strP_end (tk_yes _ _), List.append_nil]
  | c :: s, k, b, r, h => by
    cases k with
    | zero => simp at h
    | succ k =>
      rw [List.flatMap_cons, List.append_assoc, strP_step, strP_read s k _ r (by simpa using h)]
      simp
theorem esc_pos (c : UInt8) : 1 ≤ (escB c).length := by
  have h := escOk_all c
  unfold escOk at h
  cases he : escB c with
  | nil => rw [he] at h; cases h
  | cons a t => simp
theorem flat_len : ∀ s : List UInt8, s.length ≤ (s.flatMap escB).length
  | [] => by simp
  | c :: s => by
    have := esc_pos c
    have := flat_len s
    simp only [List.flatMap_cons, List.length_append, List.length_cons]
    omega
theorem quote_cons (s r : List UInt8) : quoteB s ++ r = 34 :: (s.flatMap escB ++ 34 :: r) := by simp [quoteB]
theorem textP_read (s r : List UInt8) : textP (quoteB s ++ r) = .ok ⟨s.toArray⟩ r := by
  unfold textP mustP
  rw [quote_cons, tk_yes]
  simp only [Res.bind]
  rw [strP_read s _ [] r (by have := flat_len s; simp only [List.length_append]; omega)]
  rfl
def okEnd (r : List UInt8) : Prop := ∀ c, r.head? = some c → c = 44 ∨ c = 125
inductive Pl : Nat → J → Prop
  | str {d : Nat} (s : ByteArray) : Pl d (.mk 4 false s [] [])
  | num {d : Nat} (n : Nat) : n < 9000000000000000000 → Pl d (.mk 3 false ⟨(Lib.decDigits n).toArray⟩ [] [])
  | obj {d : Nat} (ms : List (ByteArray × J)) : (∀ (i : Nat) (s : ByteArray) (j : J), ms[i]? = some (s, j) → Pl d j) → (ms.map (·.1)).Nodup → Pl (d + 1) (.mk 6 false ⟨#[]⟩ [] ms)
theorem digs_all : ∀ (l : List UInt8) (r : List UInt8), l.all isDig = true → (∀ c, r.head? = some c → isDig c = false) → digsP (l ++ r) = r
  | [], [], _, _ => rfl
  | [], c :: r, _, h => by show digsP (c :: r) = _; unfold digsP; rw [h c rfl]; rfl
  | c :: l, r, h, h2 => by
    simp only [List.all_cons, Bool.and_eq_true] at h
    show digsP (c :: (l ++ r)) = _
    unfold digsP
    rw [if_pos h.1]
    exact digs_all l r h.2 h2
theorem dec_dig (u : Nat) : (Lib.decDigits u).all isDig = true := by
  have one : ∀ k, k < 10 → isDig (UInt8.ofNat (48 + k)) = true := by
    have h1 : ∀ n : Fin 10, isDig (UInt8.ofNat (48 + n.val)) = true := by decide
    exact fun k hk => h1 ⟨k, hk⟩
  induction u using Nat.strongRecOn with
  | _ u ih =>
    by_cases h : u < 10
    · rw [Lib.decDigits_one h]; show (isDig _ && true) = true; rw [one u h]; rfl
    · rw [Lb.decDigits_big h, List.all_append, ih (u / 10) (by omega)]
      show (true && (isDig _ && true)) = true
      rw [one (u % 10) (by omega)]; rfl
theorem dec_head (u : Nat) (h0 : 0 < u) : ∃ c t, Lib.decDigits u = c :: t ∧ c ≠ 48 := by
  induction u using Nat.strongRecOn with
  | _ u ih =>
    by_cases h : u < 10
    · refine ⟨_, [], Lib.decDigits_one h, fun hc => ?_⟩
      have := congrArg UInt8.toNat hc
      rw [UInt8.toNat_ofNat'] at this
      have : (48 : UInt8).toNat = 48 := rfl
      omega
    · obtain ⟨c, t, h1, h2⟩ := ih (u / 10) (by omega) (by omega)
      exact ⟨c, _, by rw [Lb.decDigits_big h, h1]; rfl, h2⟩
theorem isDig_not {c : UInt8} (h : isDig c = true) : c ≠ 45 ∧ c ≠ 110 ∧ c ≠ 116 ∧ c ≠ 102 ∧ c ≠ 34 ∧ c ≠ 91 ∧ c ≠ 123 ∧ isBlank c = false ∧ c.toNat ≠ 110 ∧ c.toNat ≠ 116 ∧ c.toNat ≠ 102 ∧ c.toNat ≠ 34 ∧ c.toNat ≠ 91 ∧ c.toNat ≠ 123 := by
  have h1 : ∀ n : Fin 256, isDig (UInt8.ofNat n.val) = true → (UInt8.ofNat n.val) ≠ 45 ∧ (UInt8.ofNat n.val) ≠ 110 ∧ (UInt8.ofNat n.val) ≠ 116 ∧ (UInt8.ofNat n.val) ≠ 102 ∧ (UInt8.ofNat n.val) ≠ 34 ∧ (UInt8.ofNat n.val) ≠ 91 ∧ (UInt8.ofNat n.val) ≠ 123 ∧ isBlank (UInt8.ofNat n.val) = false ∧ (UInt8.ofNat n.val).toNat ≠ 110 ∧ (UInt8.ofNat n.val).toNat ≠ 116 ∧ (UInt8.ofNat n.val).toNat ≠ 102 ∧ (UInt8.ofNat n.val).toNat ≠ 34 ∧ (UInt8.ofNat n.val).toNat ≠ 91 ∧ (UInt8.ofNat n.val).toNat ≠ 123 := by decide +kernel
  have h2 := h1 ⟨c.toNat, c.toNat_lt⟩
  simp only [UInt8.ofNat_toNat] at h2
  exact h2 h
theorem tkB_end {c : UInt8} {r : List UInt8} (h : okEnd r) (hc : c ≠ 44) (hc2 : c ≠ 125) : tk c r = none := by
  cases r with
  | nil => rfl
  | cons x t =>
    refine tk_no fun hx => ?_
    rcases h x rfl with h1 | h1
    · exact hc (hx ▸ h1)
    · exact hc2 (hx ▸ h1)
theorem end_dig {r : List UInt8} (h : okEnd r) : ∀ c, r.head? = some c → isDig c = false := fun c hc => by
  rcases h c hc with rfl | rfl <;> rfl
theorem num_rest {r : List UInt8} (h : okEnd r) (s : List UInt8) (hl : num1 (optP 45 s) = .ok () r) : numberP s = .ok ⟨(s.take (s.length - r.length)).toArray⟩ r := by
  unfold numberP
  rw [hl]
  have h46 : tk 46 r = none := tkB_end h (by decide) (by decide)
  have h101 : tk 101 r = none := tkB_end h (by decide) (by decide)
  have h69 : tk 69 r = none := tkB_end h (by decide) (by decide)
  simp only [Res.bind, num2, tkB, optP, h46, Option.isSome_none, Option.getD_none, Bool.false_eq_true, if_false, num3, h101, h69]
theorem number_read (u : Nat) (r : List UInt8) (h : okEnd r) : numberP (Lib.decDigits u ++ r) = .ok ⟨(Lib.decDigits u).toArray⟩ r := by
  have hd := dec_dig u
  have hfin : num1 (optP 45 (Lib.decDigits u ++ r)) = .ok () r := by
    rcases Nat.eq_zero_or_pos u with rfl | hu
    · rw [Lib.decDigits_one (by omega)]
      show num1 (optP 45 (48 :: r)) = _
      unfold optP
      rw [tk_no (by decide)]
      simp [num1, tkB, optP, tk_yes]
    · obtain ⟨c, t, h1, h2⟩ := dec_head u hu
      rw [h1] at hd ⊢
      simp only [List.all_cons, Bool.and_eq_true] at hd
      obtain ⟨n1, _⟩ := isDig_not hd.1
      show num1 (optP 45 (c :: (t ++ r))) = _
      unfold optP
      rw [tk_no n1]
      simp only [Option.getD_none, num1, tkB, optP, tk_no h2, Option.isSome_none, Bool.false_eq_true, if_false, digitsP, pk, hd.1, if_true]
      congr 1
      exact digs_all (c :: t) r (by simp [hd.1, hd.2]) (end_dig h)
  rw [num_rest h _ hfin]
  congr 3
  rw [List.length_append, Nat.add_sub_cancel, List.take_left]
theorem blank_no {c : UInt8} {r : List UInt8} (h : isBlank c = false) : blankP (c :: r) = c :: r := by unfold blankP; rw [h]; rfl
theorem wr_head : ∀ {d : Nat} {j : J}, Pl d j → ∃ c t, wrJ j = c :: t ∧ isBlank c = false
  | _, _, .str s => ⟨34, s.data.toList.flatMap escB ++ [34], by simp [wrJ, quoteB], rfl⟩
  | _, _, .num n _ => by
    obtain ⟨c, t, h1, h2, h3⟩ := Lb.decDigits_head n
    have hd := dec_dig n
    rw [h1] at hd
    simp only [List.all_cons, Bool.and_eq_true] at hd
    exact ⟨c, t, by simp [wrJ, h1], (isDig_not hd.1).2.2.2.2.2.2.2.1⟩
  | _, _, .obj ms _ _ => ⟨123, wrMs true ms ++ [125], by simp [wrJ], rfl⟩
theorem getP_none : ∀ {ms : Ms} {s : ByteArray}, s ∉ ms.map (·.1) → getP ms s = none
  | [], s, _ => rfl
  | (t, j) :: r, s, h => by
    simp only [List.map_cons, List.mem_cons, not_or] at h
    unfold getP
    rw [if_neg (Ne.symm h.1)]
    exact getP_none h.2
theorem row_read (val : List UInt8 → Res J) (r : List UInt8) : ∀ (ms : List (ByteArray × J)) (s : ByteArray) (j : J) (k : Nat) (first : Bool) (acc : Ms),
    (∀ (i : Nat) (s' : ByteArray) (j' : J), ((s, j) :: ms)[i]? = some (s', j') → (∃ c t, wrJ j' = c :: t ∧ isBlank c = false) ∧ ∀ r', okEnd r' → val (wrJ j' ++ r') = .ok j' r') →
    ((acc ++ (s, j) :: ms).map (·.1)).Nodup → ms.length < k →
    rowP (memP val) 125 k first acc (quoteB s.data.toList ++ ([58] ++ (wrJ j ++ (wrMs false ms ++ 125 :: r)))) = .ok (acc ++ (s, j) :: ms) r
  | ms, s, j, 0, first, acc, _, _, h => by omega
  | ms, s, j, k + 1, first, acc, hv, hnd, hk => by
    have hq : ∀ x, quoteB s.data.toList ++ x = 34 :: (s.data.toList.flatMap escB ++ 34 :: x) := quote_cons _
    obtain ⟨⟨c, t, hc, hcb⟩, hval⟩ := hv 0 s j rfl
    have hnot : s ∉ acc.map (·.1) := by
      rw [List.map_append, List.map_cons, List.nodup_append] at hnd
      exact fun h => hnd.2.2 s h s (by simp) rfl
    have hone : ∀ r', okEnd r' → memP val acc (quoteB s.data.toList ++ ([58] ++ (wrJ j ++ r'))) = .ok (acc ++ [(s, j)]) r' := fun r' hr' => by
      unfold memP
      rw [textP_read]
      simp only [Res.bind]
      rw [show (⟨s.data.toList.toArray⟩ : ByteArray) = s by simp]
      rw [getP_none hnot]
      simp only []
      rw [show blankP ([58] ++ (wrJ j ++ r')) = 58 :: (wrJ j ++ r') from blank_no rfl]
      unfold mustP
      rw [tk_yes]
      simp only [Res.bind]
      rw [hc, List.cons_append, blank_no hcb, ← List.cons_append, ← hc, hval r' hr']
    unfold rowP
    have htk : (if first = true then tk 125 (quoteB s.data.toList ++ ([58] ++ (wrJ j ++ (wrMs false ms ++ 125 :: r)))) else none) = none := by
      split
      · rw [hq]; exact tk_no (by decide)
      · rfl
    rw [htk]
    simp only []
    cases ms with
    | nil =>
      rw [hone (wrMs false [] ++ 125 :: r) (fun c hc => by simp [wrMs] at hc; exact .inr hc.symm)]
      simp only [Res.bind, wrMs, List.nil_append]
      rw [blank_no rfl, tk_yes]
    | cons m2 ms2 =>
      obtain ⟨s2, j2⟩ := m2
      rw [hone (wrMs false ((s2, j2) :: ms2) ++ 125 :: r) (fun c hc => by simp [wrMs] at hc; exact .inl hc.symm)]
      have hw : wrMs false ((s2, j2) :: ms2) ++ 125 :: r = 44 :: (quoteB s2.data.toList ++ ([58] ++ (wrJ j2 ++ (wrMs false ms2 ++ 125 :: r)))) := by
        simp [wrMs, List.append_assoc]
      simp only [Res.bind]
      rw [hw, blank_no rfl, tk_no (by decide)]
      simp only []
      unfold mustP
      rw [tk_yes]
      simp only []
      have hb2 : blankP (quoteB s2.data.toList ++ ([58] ++ (wrJ j2 ++ (wrMs false ms2 ++ 125 :: r)))) = quoteB s2.data.toList ++ ([58] ++ (wrJ j2 ++ (wrMs false ms2 ++ 125 :: r))) := by
        rw [quote_cons, blank_no rfl]
      rw [hb2]
      have := row_read val r ms2 s2 j2 k false (acc ++ [(s, j)]) (fun i s' j' h => hv (i + 1) s' j' (by simpa using h)) (by simpa using hnd) (by simpa using hk)
      rw [this]
      simp
theorem wrMs_len : ∀ (ms : List (ByteArray × J)) (f : Bool), ms.length ≤ (wrMs f ms).length
  | [], f => by simp
  | (s, j) :: r, f => by
    have := wrMs_len r false
    simp only [wrMs, List.length_append, List.length_cons, quoteB]
    omega
theorem val_read : ∀ {d : Nat} {j : J}, Pl d j → ∀ r, okEnd r → valP d (wrJ j ++ r) = .ok j r
  | d, _, .str s, r, _ => by
    have hw : wrJ (.mk 4 false s [] []) = quoteB s.data.toList := by simp [wrJ]
    have hp : pk (quoteB s.data.toList ++ r) = 34 := by rw [quote_cons]; rfl
    have key : ∀ dp, valS dp (quoteB s.data.toList ++ r) = .ok (.mk 4 false s [] []) r := fun dp => by
      unfold valS
      rw [hp, textP_read]
      simp [Res.bind, jStr]
    rw [hw]
    cases d with
    | zero => exact key _
    | succ d => exact key _
  | d, _, .num n hn, r, hr => by
    have hw : wrJ (.mk 3 false ⟨(Lib.decDigits n).toArray⟩ [] []) = Lib.decDigits n := by simp [wrJ]
    obtain ⟨c, t, h1, h2, h3⟩ := Lb.decDigits_head n
    have hd := dec_dig n
    rw [h1] at hd
    simp only [List.all_cons, Bool.and_eq_true] at hd
    obtain ⟨_, _, _, _, _, _, _, _, e1, e2, e3, e4, e5, e6⟩ := isDig_not hd.1
    have hp : pk (Lib.decDigits n ++ r) = c := by rw [h1]; rfl
    have key : ∀ dp, valS dp (Lib.decDigits n ++ r) = .ok (.mk 3 false ⟨(Lib.decDigits n).toArray⟩ [] []) r := fun dp => by
      unfold valS
      rw [hp, number_read n r hr]
      simp only [if_neg e1, if_neg e2, if_neg e3, if_neg e4, if_neg e5, if_neg e6, hd.1]
      simp [Res.bind, jNum]
    rw [hw]
    cases d with
    | zero => exact key _
    | succ d => exact key _
  | _, _, .obj (d := d) ms hms hnd, r, hr => by
    have hw : wrJ (.mk 6 false ⟨#[]⟩ [] ms) ++ r = 123 :: (wrMs true ms ++ 125 :: r) := by simp [wrJ]
    rw [hw]
    show valS (some (valP d)) _ = _
    unfold valS
    have e : (pk (123 :: (wrMs true ms ++ 125 :: r))).toNat = 123 := rfl
    simp only [e]
    rw [if_neg (by decide), if_neg (by decide), if_neg (by decide), if_neg (by decide), if_neg (by decide), if_pos trivial]
    unfold enterP mustP
    rw [tk_yes]
    simp only [Res.bind]
    cases ms with
    | nil =>
      simp only [wrMs, List.nil_append]
      rw [blank_no rfl]
      simp only [rowP, if_true, tk_yes, jObj]
    | cons m ms =>
      obtain ⟨s, j⟩ := m
      have hq : wrMs true ((s, j) :: ms) ++ 125 :: r = quoteB s.data.toList ++ ([58] ++ (wrJ j ++ (wrMs false ms ++ 125 :: r))) := by simp [wrMs, List.append_assoc]
      have hb : blankP (quoteB s.data.toList ++ ([58] ++ (wrJ j ++ (wrMs false ms ++ 125 :: r)))) = quoteB s.data.toList ++ ([58] ++ (wrJ j ++ (wrMs false ms ++ 125 :: r))) := by rw [quote_cons, blank_no rfl]
      rw [hq, hb]
      have := row_read (valP d) r ms s j ((quoteB s.data.toList ++ ([58] ++ (wrJ j ++ (wrMs false ms ++ 125 :: r)))).length + 1) true [] (fun i s' j' h => ⟨wr_head (hms i s' j' h), fun r' hr' => val_read (hms i s' j' h) r' hr'⟩) (by simpa using hnd) (by
        have := wrMs_len ms false
        simp only [List.length_append, List.length_cons]; omega)
      rw [this]
      simp [jObj]
theorem whole_read {d : Nat} {j : J} (h : Pl d j) : wholeP d (wrJ j) = .ok j [] := by
  obtain ⟨c, t, hc, hcb⟩ := wr_head h
  have h1 := val_read h [] (fun c hc => by simp at hc)
  unfold wholeP
  rw [List.append_nil] at h1
  rw [show blankP (wrJ j) = wrJ j by rw [hc, blank_no hcb], h1]
  rfl
theorem parse_read {d : Nat} {j : J} (h : Pl d j) (h1 : 1 ≤ d) (h2 : d ≤ 32) (hlen : (wrJ j).length ≤ 16384) (ht : Told (wrJ j)) : parseP (wrJ j) (d : Int) = (j, 0, 0) := by
  unfold parseP
  have htold := (toldP_iff (strOf (wrJ j))).2 (by rw [strOf_tL]; exact ht)
  unfold toldP at htold
  rw [decide_eq_true_eq] at htold
  rw [if_neg (by omega), if_neg (by omega), if_neg (by omega), Int.toNat_natCast, whole_read h]
end Go.Kx.Ro
namespace Go.Kx.En
open Go.Proofs Go.Kx Go.RowKit Go.Kx.Js Go.Kx.Pr Go.Kx.Bu
set_option maxRecDepth 20000
set_option linter.unusedSimpArgs false
theorem byte_at {H : Hp} {A : Option Addr} {bs : List UInt8} (hb : BytesAt H A bs.length bs) {i : Nat} {x : UInt8} (hget : bs[i]? = some x) {off : Nat} (ho : off = i) : (∃ b o, A = some ⟨b, o, none⟩) ∧ RdC H A off (.int .u8 x.toNat) := by
  subst ho
  obtain ⟨q1, q2, q3⟩ := hb
  have hil := (List.getElem?_eq_some_iff.1 hget).1
  cases A with
  | none => rw [q2 rfl] at hil; simp at hil
  | some a =>
    obtain ⟨b, o, e1, e2⟩ := q3 a rfl
    refine ⟨⟨b, o, e1⟩, b, o, e1, ?_⟩
    have := e2 off (.int .u8 x.toNat) (by unfold bCells; simp [hget])
    rw [← this, Nat.add_zero]
def sL (l : List UInt8) : ByteArray := ⟨l.toArray⟩
namespace Ref04
theorem enc_ (bs : List UInt8) (A : Option Addr) (c : Nat) (hn : bs.length ≤ 1000000) (H : Hp) (hb : BytesAt H A bs.length bs) :
    CallO Tryz.prog 68 [pv (.slice A bs.length c)] H [] fun e H' G' => e = .ret (pv (.string ⟨(encP bs).toArray⟩)) ∧ H.Le H' ∧ G' = [] := by
  refine CallO.of_body tab Tryz.func68 rfl (nt := Tryz.f68.ntmps) rfl (by kernel_rfl) ?_
  (conv => whnf)
  refine WS.nilRow 3 5 1 rfl ?_
  (conv => whnf)
  refine WS.loop (fun k' F H3 G => ∃ (i : Nat) (out : List UInt8), i ≤ bs.length + 2 ∧ out.length ≤ 2 * i ∧ out ++ encP (bs.drop i) = encP bs ∧ k' = bs.length - i ∧ F = [(0, pv (.slice A bs.length c)), (3, .si (.ce (.self 0))), (4, pv (.int .i64 i))] ∧ H.Le H3 ∧ G = [rB out]) (bs.length + 1) ?_ ?_
  · refine ⟨bs.length, by omega, _, _, [0], ⟨0, [], by omega, by simp, rfl, rfl, rfl, .refl _, rfl⟩, ?_⟩
    exact ⟨rfl, ⟨rfl, trivial⟩, rfl, rfl, rfl, trivial⟩
  rintro k' F H3 G hle3 ⟨i, out, hi, hol, henc, rfl, rfl, hle4, rfl⟩
  refine codeL.go tab ?_
  (conv => whnf)
  refine br.of (fun h1 => ?_) (fun h1 => ?_) <;> (conv => whnf)
  · have h1 := of_decide_eq_true h1
    have hil : i < bs.length := by omega
    have hdr : bs.drop i = bs[i]'hil :: bs.drop (i + 1) := List.drop_eq_getElem_cons hil
    have hget : bs[i]? = some (bs[i]'hil) := List.getElem?_eq_getElem _
    generalize bs[i]'hil = x at hget hdr
    have hx : x.toNat < 256 := x.toNat_lt
    obtain ⟨hadr, hcell⟩ := byte_at (hb.mono hle4) hget (off := (i : Int).toNat * 1) (by omega)
    refine ⟨⟨by omega, by omega⟩, hadr, ?_⟩
    (conv => whnf)
    refine ⟨_, hcell, ?_⟩
    (conv => whnf)
    rw [wrap64 (x := (x.toNat : Int)) (by omega) (by omega), wrap64 (x := (x.toNat : Int) * 65536) (by omega) (by omega), wrap64 (x := (i : Int) + 1) (by omega) (by omega)]
    refine br.of (fun h2 => ?_) (fun h2 => ?_) <;> (conv => whnf)
    · have h2 := of_decide_eq_true h2
      have hil2 : i + 1 < bs.length := by omega
      have hdr2 : bs.drop (i + 1) = bs[i + 1]'hil2 :: bs.drop (i + 1 + 1) := List.drop_eq_getElem_cons hil2
      have hget2 : bs[i + 1]? = some (bs[i + 1]'hil2) := List.getElem?_eq_getElem _
      generalize bs[i + 1]'hil2 = y at hget2 hdr2
      have hy : y.toNat < 256 := y.toNat_lt
      rw [wrap64 (x := (i : Int) + 1) (by omega) (by omega)]
      obtain ⟨_, hcell2⟩ := byte_at (hb.mono hle4) hget2 (off := ((i : Int) + 1).toNat * 1) (by omega)
      refine ⟨⟨by omega, by omega⟩, hadr, ?_⟩
      (conv => whnf)
      refine ⟨_, hcell2, ?_⟩
      (conv => whnf)
      rw [wrap64 (x := (y.toNat : Int)) (by omega) (by omega), wrap64 (x := (y.toNat : Int) * 256) (by omega) (by omega), wrap64 (x := (x.toNat : Int) * 65536 + (y.toNat : Int) * 256) (by omega) (by omega), wrap64 (x := (i : Int) + 2) (by omega) (by omega)]
      refine br.of (fun h3 => ?_) (fun h3 => ?_) <;> (conv => whnf)
      · have h3 := of_decide_eq_true h3
        have hil3 : i + 1 + 1 < bs.length := by omega
        have hdr3 : bs.drop (i + 1 + 1) = bs[i + 1 + 1]'hil3 :: bs.drop (i + 1 + 1 + 1) := List.drop_eq_getElem_cons hil3
        have hget3 : bs[i + 1 + 1]? = some (bs[i + 1 + 1]'hil3) := List.getElem?_eq_getElem _
        generalize bs[i + 1 + 1]'hil3 = z at hget3 hdr3
        have hz : z.toNat < 256 := z.toNat_lt
        rw [wrap64 (x := (i : Int) + 2) (by omega) (by omega)]
        obtain ⟨_, hcell3⟩ := byte_at (hb.mono hle4) hget3 (off := ((i : Int) + 2).toNat * 1) (by omega)
        refine ⟨⟨by omega, by omega⟩, hadr, ?_⟩
        (conv => whnf)
        refine ⟨_, hcell3, ?_⟩
        (conv => whnf)
        rw [wrap64 (x := (z.toNat : Int)) (by omega) (by omega), wrap64 (x := (x.toNat : Int) * 65536 + (y.toNat : Int) * 256 + (z.toNat : Int)) (by omega) (by omega)]
        have hNi : (x.toNat : Int) * 65536 + (y.toNat : Int) * 256 + (z.toNat : Int) = ((x.toNat * 65536 + y.toNat * 256 + z.toNat : Nat) : Int) := by omega
        have hN24 : x.toNat * 65536 + y.toNat * 256 + z.toNat < 16777216 := by omega
        rw [hNi]
        generalize hNx : x.toNat * 65536 + y.toNat * 256 + z.toNat = N at *
        (conv => whnf)
        --TAIL4
        have q0 : IntKind.i64.wrap (Int.tdiv (N : Int) 262144) = ((N / 262144 : Nat) : Int) := by
          rw [show Int.tdiv (N : Int) 262144 = ((N / 262144 : Nat) : Int) from rfl, wrap64 (by omega) (by omega)]
        have q1 : Int.tmod (IntKind.i64.wrap (Int.tdiv (N : Int) 4096)) 64 = ((N / 4096 % 64 : Nat) : Int) := by
          rw [show Int.tdiv (N : Int) 4096 = ((N / 4096 : Nat) : Int) from rfl, wrap64 (by omega) (by omega)]; rfl
        have q2 : Int.tmod (IntKind.i64.wrap (Int.tdiv (N : Int) 64)) 64 = ((N / 64 % 64 : Nat) : Int) := by
          rw [show Int.tdiv (N : Int) 64 = ((N / 64 : Nat) : Int) from rfl, wrap64 (by omega) (by omega)]; rfl
        have q3 : Int.tmod (N : Int) 64 = ((N % 64 : Nat) : Int) := rfl
        refine ⟨by decide, ?_⟩
        (conv => whnf)
        refine ⟨by decide, ?_⟩
        (conv => whnf)
        refine ⟨by decide, ?_⟩
        (conv => whnf)
        refine ⟨by decide, ?_⟩
        (conv => whnf)
        refine ⟨by decide, ?_⟩
        (conv => whnf)
        refine ⟨by decide, ?_⟩
        (conv => whnf)
        rw [q0, q1, q2, q3]
        refine WS.loop (fun k' F H5 G => ∃ j : Nat, j ≤ 4 ∧ k' = 4 - j ∧ F = [(0, pv (.slice A bs.length c)), (3, .si (.ce (.self 0))), (4, pv (.int .i64 i)), (6, pv (.int .i64 4)), (7, .si (.ce (.ptr 1 0))), (8, pv (.int .i64 j))] ∧ H3.Le H5 ∧ G = [rB (out ++ (four N).take j), .box 149 [.val (.int .i64 (N / 262144 : Nat)), .val (.int .i64 (N / 4096 % 64 : Nat)), .val (.int .i64 (N / 64 % 64 : Nat)), .val (.int .i64 (N % 64 : Nat))]]) 5 ?_ ?_
        · refine ⟨4, by omega, _, _, [0, 1], ⟨0, by omega, rfl, rfl, .refl _, by rw [List.take_zero, List.append_nil]⟩, ?_⟩
          exact ⟨rfl, ⟨rfl, rfl, trivial⟩, rfl, rfl, rfl, rfl, rfl, rfl, trivial⟩
        rintro k2 F H5 G hle6 ⟨j, hj, rfl, rfl, hle7, rfl⟩
        refine codeL.go tab ?_
        rcases (by omega : j = 0 ∨ j = 1 ∨ j = 2 ∨ j = 3 ∨ j = 4) with rfl | rfl | rfl | rfl | rfl
        · (conv => whnf)
          refine ⟨⟨by decide, by decide⟩, ?_⟩
          (conv => whnf)
          refine ⟨⟨_, Tryz.func111, rfl, by kernel_rfl⟩, CallS.use (letter_ (N / 262144) (by omega) H5) [] rfl rfl trivial ?_⟩
          rintro e H6 G' hle8 ⟨rfl, rfl, rfl⟩
          (conv => whnf)
          refine ⟨by decide, ?_⟩
          (conv => whnf)
          refine .inl ?_
          intro g H7 hle9 hrd
          (conv => whnf)
          refine ⟨_, rfl, hrd, one_int _ _, ?_⟩
          (conv => whnf)
          refine ⟨by show ((out ++ (four N).take 0).length + 1) * 2 ≤ _; rw [List.length_append, List.length_take]; omega, ?_⟩
          (conv => whnf)
          refine ⟨4 - (0 + 1), by omega, _, [rB (out ++ (four N).take (0 + 1)), .box 149 [.val (.int .i64 (N / 262144 : Nat)), .val (.int .i64 (N / 4096 % 64 : Nat)), .val (.int .i64 (N / 64 % 64 : Nat)), .val (.int .i64 (N % 64 : Nat))]], [2, 1], ⟨0 + 1, by omega, rfl, rfl, hle7.trans hle9, rfl⟩, ?_⟩
          refine ⟨rfl, ⟨?_, rfl, trivial⟩, rfl, rfl, rfl, rfl, rfl, rfl, trivial⟩
          rw [show rB (out ++ (four N).take (0 + 1)) = SB.row 5 1 ((out ++ (four N).take 0).length + 1) (bCells (out ++ (four N).take 0) ++ [.int .u8 (letterP (N / 262144)).toNat]) by
            unfold Bu.rB
            rw [bCells_snoc _ (letterP (N / 262144)) rfl]
            show SB.row _ 1 (out ++ (four N).take (0 + 1)).length (bCells (out ++ (four N).take (0 + 1))) = _
            rw [show (four N).take (0 + 1) = (four N).take 0 ++ [letterP (N / 262144)] from rfl, ← List.append_assoc]
            generalize out ++ (four N).take 0 = o4
            rw [List.length_append]
            rfl]
          rfl
        · (conv => whnf)
          refine ⟨⟨by decide, by decide⟩, ?_⟩
          (conv => whnf)
          refine ⟨⟨_, Tryz.func111, rfl, by kernel_rfl⟩, CallS.use (letter_ (N / 4096 % 64) (by omega) H5) [] rfl rfl trivial ?_⟩
          rintro e H6 G' hle8 ⟨rfl, rfl, rfl⟩
          (conv => whnf)
          refine ⟨by decide, ?_⟩
          (conv => whnf)
          refine .inl ?_
          intro g H7 hle9 hrd
          (conv => whnf)
          refine ⟨_, rfl, hrd, one_int _ _, ?_⟩
          (conv => whnf)
          refine ⟨by show ((out ++ (four N).take 1).length + 1) * 2 ≤ _; rw [List.length_append, List.length_take]; omega, ?_⟩
          (conv => whnf)
          refine ⟨4 - (1 + 1), by omega, _, [rB (out ++ (four N).take (1 + 1)), .box 149 [.val (.int .i64 (N / 262144 : Nat)), .val (.int .i64 (N / 4096 % 64 : Nat)), .val (.int .i64 (N / 64 % 64 : Nat)), .val (.int .i64 (N % 64 : Nat))]], [2, 1], ⟨1 + 1, by omega, rfl, rfl, hle7.trans hle9, rfl⟩, ?_⟩
          refine ⟨rfl, ⟨?_, rfl, trivial⟩, rfl, rfl, rfl, rfl, rfl, rfl, trivial⟩
          rw [show rB (out ++ (four N).take (1 + 1)) = SB.row 5 1 ((out ++ (four N).take 1).length + 1) (bCells (out ++ (four N).take 1) ++ [.int .u8 (letterP (N / 4096 % 64)).toNat]) by
            unfold Bu.rB
            rw [bCells_snoc _ (letterP (N / 4096 % 64)) rfl]
            show SB.row _ 1 (out ++ (four N).take (1 + 1)).length (bCells (out ++ (four N).take (1 + 1))) = _
            rw [show (four N).take (1 + 1) = (four N).take 1 ++ [letterP (N / 4096 % 64)] from rfl, ← List.append_assoc]
            generalize out ++ (four N).take 1 = o4
            rw [List.length_append]
            rfl]
          rfl
        · (conv => whnf)
          refine ⟨⟨by decide, by decide⟩, ?_⟩
          (conv => whnf)
          refine ⟨⟨_, Tryz.func111, rfl, by kernel_rfl⟩, CallS.use (letter_ (N / 64 % 64) (by omega) H5) [] rfl rfl trivial ?_⟩
          rintro e H6 G' hle8 ⟨rfl, rfl, rfl⟩
          (conv => whnf)
          refine ⟨by decide, ?_⟩
          (conv => whnf)
          refine .inl ?_
          intro g H7 hle9 hrd
          (conv => whnf)
          refine ⟨_, rfl, hrd, one_int _ _, ?_⟩
          (conv => whnf)
          refine ⟨by show ((out ++ (four N).take 2).length + 1) * 2 ≤ _; rw [List.length_append, List.length_take]; omega, ?_⟩
          (conv => whnf)
          refine ⟨4 - (2 + 1), by omega, _, [rB (out ++ (four N).take (2 + 1)), .box 149 [.val (.int .i64 (N / 262144 : Nat)), .val (.int .i64 (N / 4096 % 64 : Nat)), .val (.int .i64 (N / 64 % 64 : Nat)), .val (.int .i64 (N % 64 : Nat))]], [2, 1], ⟨2 + 1, by omega, rfl, rfl, hle7.trans hle9, rfl⟩, ?_⟩
          refine ⟨rfl, ⟨?_, rfl, trivial⟩, rfl, rfl, rfl, rfl, rfl, rfl, trivial⟩
          rw [show rB (out ++ (four N).take (2 + 1)) = SB.row 5 1 ((out ++ (four N).take 2).length + 1) (bCells (out ++ (four N).take 2) ++ [.int .u8 (letterP (N / 64 % 64)).toNat]) by
            unfold Bu.rB
            rw [bCells_snoc _ (letterP (N / 64 % 64)) rfl]
            show SB.row _ 1 (out ++ (four N).take (2 + 1)).length (bCells (out ++ (four N).take (2 + 1))) = _
            rw [show (four N).take (2 + 1) = (four N).take 2 ++ [letterP (N / 64 % 64)] from rfl, ← List.append_assoc]
            generalize out ++ (four N).take 2 = o4
            rw [List.length_append]
            rfl]
          rfl
        · (conv => whnf)
          refine ⟨⟨by decide, by decide⟩, ?_⟩
          (conv => whnf)
          refine ⟨⟨_, Tryz.func111, rfl, by kernel_rfl⟩, CallS.use (letter_ (N % 64) (by omega) H5) [] rfl rfl trivial ?_⟩
          rintro e H6 G' hle8 ⟨rfl, rfl, rfl⟩
          (conv => whnf)
          refine ⟨by decide, ?_⟩
          (conv => whnf)
          refine .inl ?_
          intro g H7 hle9 hrd
          (conv => whnf)
          refine ⟨_, rfl, hrd, one_int _ _, ?_⟩
          (conv => whnf)
          refine ⟨by show ((out ++ (four N).take 3).length + 1) * 2 ≤ _; rw [List.length_append, List.length_take]; omega, ?_⟩
          (conv => whnf)
          refine ⟨4 - (3 + 1), by omega, _, [rB (out ++ (four N).take (3 + 1)), .box 149 [.val (.int .i64 (N / 262144 : Nat)), .val (.int .i64 (N / 4096 % 64 : Nat)), .val (.int .i64 (N / 64 % 64 : Nat)), .val (.int .i64 (N % 64 : Nat))]], [2, 1], ⟨3 + 1, by omega, rfl, rfl, hle7.trans hle9, rfl⟩, ?_⟩
          refine ⟨rfl, ⟨?_, rfl, trivial⟩, rfl, rfl, rfl, rfl, rfl, rfl, trivial⟩
          rw [show rB (out ++ (four N).take (3 + 1)) = SB.row 5 1 ((out ++ (four N).take 3).length + 1) (bCells (out ++ (four N).take 3) ++ [.int .u8 (letterP (N % 64)).toNat]) by
            unfold Bu.rB
            rw [bCells_snoc _ (letterP (N % 64)) rfl]
            show SB.row _ 1 (out ++ (four N).take (3 + 1)).length (bCells (out ++ (four N).take (3 + 1))) = _
            rw [show (four N).take (3 + 1) = (four N).take 3 ++ [letterP (N % 64)] from rfl, ← List.append_assoc]
            generalize out ++ (four N).take 3 = o4
            rw [List.length_append]
            rfl]
          rfl
        · (conv => whnf)
          rw [wrap64 (x := (i : Int) + 3) (by omega) (by omega)]
          refine ⟨bs.length - (i + 3), by omega, _, [rB (out ++ (four N).take 4)], [0], ⟨i + 3, out ++ (four N).take 4, by omega, by rw [List.length_append, List.length_take]; omega, ?_, rfl, rfl, hle4.trans hle7, rfl⟩, ?_⟩
          · rw [hdr, hdr2, hdr3, encP_3, hNx, ← List.append_assoc] at henc
            exact henc
          · exact ⟨rfl, ⟨rfl, trivial⟩, rfl, rfl, rfl, trivial⟩
        --END4
      · have h3 := of_decide_eq_false h3
        have hNi : (x.toNat : Int) * 65536 + (y.toNat : Int) * 256 = ((x.toNat * 65536 + y.toNat * 256 : Nat) : Int) := by omega
        have hN24 : x.toNat * 65536 + y.toNat * 256 < 16777216 := by omega
        rw [hNi]
        generalize hNx : x.toNat * 65536 + y.toNat * 256 = N at *
        --TAIL3
        have q0 : IntKind.i64.wrap (Int.tdiv (N : Int) 262144) = ((N / 262144 : Nat) : Int) := by
          rw [show Int.tdiv (N : Int) 262144 = ((N / 262144 : Nat) : Int) from rfl, wrap64 (by omega) (by omega)]
        have q1 : Int.tmod (IntKind.i64.wrap (Int.tdiv (N : Int) 4096)) 64 = ((N / 4096 % 64 : Nat) : Int) := by
          rw [show Int.tdiv (N : Int) 4096 = ((N / 4096 : Nat) : Int) from rfl, wrap64 (by omega) (by omega)]; rfl
        have q2 : Int.tmod (IntKind.i64.wrap (Int.tdiv (N : Int) 64)) 64 = ((N / 64 % 64 : Nat) : Int) := by
          rw [show Int.tdiv (N : Int) 64 = ((N / 64 : Nat) : Int) from rfl, wrap64 (by omega) (by omega)]; rfl
        have q3 : Int.tmod (N : Int) 64 = ((N % 64 : Nat) : Int) := rfl
        refine ⟨by decide, ?_⟩
        (conv => whnf)
        refine ⟨by decide, ?_⟩
        (conv => whnf)
        refine ⟨by decide, ?_⟩
        (conv => whnf)
        refine ⟨by decide, ?_⟩
        (conv => whnf)
        refine ⟨by decide, ?_⟩
        (conv => whnf)
        refine ⟨by decide, ?_⟩
        (conv => whnf)
        rw [q0, q1, q2, q3]
        refine WS.loop (fun k' F H5 G => ∃ j : Nat, j ≤ 3 ∧ k' = 3 - j ∧ F = [(0, pv (.slice A bs.length c)), (3, .si (.ce (.self 0))), (4, pv (.int .i64 i)), (6, pv (.int .i64 3)), (7, .si (.ce (.ptr 1 0))), (8, pv (.int .i64 j))] ∧ H3.Le H5 ∧ G = [rB (out ++ (four N).take j), .box 149 [.val (.int .i64 (N / 262144 : Nat)), .val (.int .i64 (N / 4096 % 64 : Nat)), .val (.int .i64 (N / 64 % 64 : Nat)), .val (.int .i64 (N % 64 : Nat))]]) 5 ?_ ?_
        · refine ⟨3, by omega, _, _, [0, 1], ⟨0, by omega, rfl, rfl, .refl _, by rw [List.take_zero, List.append_nil]⟩, ?_⟩
          exact ⟨rfl, ⟨rfl, rfl, trivial⟩, rfl, rfl, rfl, rfl, rfl, rfl, trivial⟩
        rintro k2 F H5 G hle6 ⟨j, hj, rfl, rfl, hle7, rfl⟩
        refine codeL.go tab ?_
        rcases (by omega : j = 0 ∨ j = 1 ∨ j = 2 ∨ j = 3) with rfl | rfl | rfl | rfl
        · (conv => whnf)
          refine ⟨⟨by decide, by decide⟩, ?_⟩
          (conv => whnf)
          refine ⟨⟨_, Tryz.func111, rfl, by kernel_rfl⟩, CallS.use (letter_ (N / 262144) (by omega) H5) [] rfl rfl trivial ?_⟩
          rintro e H6 G' hle8 ⟨rfl, rfl, rfl⟩
          (conv => whnf)
          refine ⟨by decide, ?_⟩
          (conv => whnf)
          refine .inl ?_
          intro g H7 hle9 hrd
          (conv => whnf)
          refine ⟨_, rfl, hrd, one_int _ _, ?_⟩
          (conv => whnf)
          refine ⟨by show ((out ++ (four N).take 0).length + 1) * 2 ≤ _; rw [List.length_append, List.length_take]; omega, ?_⟩
          (conv => whnf)
          refine ⟨3 - (0 + 1), by omega, _, [rB (out ++ (four N).take (0 + 1)), .box 149 [.val (.int .i64 (N / 262144 : Nat)), .val (.int .i64 (N / 4096 % 64 : Nat)), .val (.int .i64 (N / 64 % 64 : Nat)), .val (.int .i64 (N % 64 : Nat))]], [2, 1], ⟨0 + 1, by omega, rfl, rfl, hle7.trans hle9, rfl⟩, ?_⟩
          refine ⟨rfl, ⟨?_, rfl, trivial⟩, rfl, rfl, rfl, rfl, rfl, rfl, trivial⟩
          rw [show rB (out ++ (four N).take (0 + 1)) = SB.row 5 1 ((out ++ (four N).take 0).length + 1) (bCells (out ++ (four N).take 0) ++ [.int .u8 (letterP (N / 262144)).toNat]) by
            unfold Bu.rB
            rw [bCells_snoc _ (letterP (N / 262144)) rfl]
            show SB.row _ 1 (out ++ (four N).take (0 + 1)).length (bCells (out ++ (four N).take (0 + 1))) = _
            rw [show (four N).take (0 + 1) = (four N).take 0 ++ [letterP (N / 262144)] from rfl, ← List.append_assoc]
            generalize out ++ (four N).take 0 = o4
            rw [List.length_append]
            rfl]
          rfl
        · (conv => whnf)
          refine ⟨⟨by decide, by decide⟩, ?_⟩
          (conv => whnf)
          refine ⟨⟨_, Tryz.func111, rfl, by kernel_rfl⟩, CallS.use (letter_ (N / 4096 % 64) (by omega) H5) [] rfl rfl trivial ?_⟩
          rintro e H6 G' hle8 ⟨rfl, rfl, rfl⟩
          (conv => whnf)
          refine ⟨by decide, ?_⟩
          (conv => whnf)
          refine .inl ?_
          intro g H7 hle9 hrd
          (conv => whnf)
          refine ⟨_, rfl, hrd, one_int _ _, ?_⟩
          (conv => whnf)
          refine ⟨by show ((out ++ (four N).take 1).length + 1) * 2 ≤ _; rw [List.length_append, List.length_take]; omega, ?_⟩
          (conv => whnf)
          refine ⟨3 - (1 + 1), by omega, _, [rB (out ++ (four N).take (1 + 1)), .box 149 [.val (.int .i64 (N / 262144 : Nat)), .val (.int .i64 (N / 4096 % 64 : Nat)), .val (.int .i64 (N / 64 % 64 : Nat)), .val (.int .i64 (N % 64 : Nat))]], [2, 1], ⟨1 + 1, by omega, rfl, rfl, hle7.trans hle9, rfl⟩, ?_⟩
          refine ⟨rfl, ⟨?_, rfl, trivial⟩, rfl, rfl, rfl, rfl, rfl, rfl, trivial⟩
          rw [show rB (out ++ (four N).take (1 + 1)) = SB.row 5 1 ((out ++ (four N).take 1).length + 1) (bCells (out ++ (four N).take 1) ++ [.int .u8 (letterP (N / 4096 % 64)).toNat]) by
            unfold Bu.rB
            rw [bCells_snoc _ (letterP (N / 4096 % 64)) rfl]
            show SB.row _ 1 (out ++ (four N).take (1 + 1)).length (bCells (out ++ (four N).take (1 + 1))) = _
            rw [show (four N).take (1 + 1) = (four N).take 1 ++ [letterP (N / 4096 % 64)] from rfl, ← List.append_assoc]
            generalize out ++ (four N).take 1 = o4
            rw [List.length_append]
            rfl]
          rfl
        · (conv => whnf)
          refine ⟨⟨by decide, by decide⟩, ?_⟩
          (conv => whnf)
          refine ⟨⟨_, Tryz.func111, rfl, by kernel_rfl⟩, CallS.use (letter_ (N / 64 % 64) (by omega) H5) [] rfl rfl trivial ?_⟩
          rintro e H6 G' hle8 ⟨rfl, rfl, rfl⟩
          (conv => whnf)
          refine ⟨by decide, ?_⟩
          (conv => whnf)
          refine .inl ?_
          intro g H7 hle9 hrd
          (conv => whnf)
          refine ⟨_, rfl, hrd, one_int _ _, ?_⟩
          (conv => whnf)
          refine ⟨by show ((out ++ (four N).take 2).length + 1) * 2 ≤ _; rw [List.length_append, List.length_take]; omega, ?_⟩
          (conv => whnf)
          refine ⟨3 - (2 + 1), by omega, _, [rB (out ++ (four N).take (2 + 1)), .box 149 [.val (.int .i64 (N / 262144 : Nat)), .val (.int .i64 (N / 4096 % 64 : Nat)), .val (.int .i64 (N / 64 % 64 : Nat)), .val (.int .i64 (N % 64 : Nat))]], [2, 1], ⟨2 + 1, by omega, rfl, rfl, hle7.trans hle9, rfl⟩, ?_⟩
          refine ⟨rfl, ⟨?_, rfl, trivial⟩, rfl, rfl, rfl, rfl, rfl, rfl, trivial⟩
          rw [show rB (out ++ (four N).take (2 + 1)) = SB.row 5 1 ((out ++ (four N).take 2).length + 1) (bCells (out ++ (four N).take 2) ++ [.int .u8 (letterP (N / 64 % 64)).toNat]) by
            unfold Bu.rB
            rw [bCells_snoc _ (letterP (N / 64 % 64)) rfl]
            show SB.row _ 1 (out ++ (four N).take (2 + 1)).length (bCells (out ++ (four N).take (2 + 1))) = _
            rw [show (four N).take (2 + 1) = (four N).take 2 ++ [letterP (N / 64 % 64)] from rfl, ← List.append_assoc]
            generalize out ++ (four N).take 2 = o4
            rw [List.length_append]
            rfl]
          rfl
        · (conv => whnf)
          rw [wrap64 (x := (i : Int) + 3) (by omega) (by omega)]
          refine ⟨bs.length - (i + 3), by omega, _, [rB (out ++ (four N).take 3)], [0], ⟨i + 3, out ++ (four N).take 3, by omega, by rw [List.length_append, List.length_take]; omega, ?_, rfl, rfl, hle4.trans hle7, rfl⟩, ?_⟩
          · rw [hdr, hdr2, List.drop_of_length_le (show bs.length ≤ i + 1 + 1 by omega), encP_2, hNx] at henc
            rw [List.drop_of_length_le (by omega), encP_nil, List.append_nil, henc]
          · exact ⟨rfl, ⟨rfl, trivial⟩, rfl, rfl, rfl, trivial⟩
        --END3
    · have h2 := of_decide_eq_false h2
      rw [wrap64 (x := (i : Int) + 2) (by omega) (by omega)]
      refine br.of (fun h3 => absurd (of_decide_eq_true h3) (by omega)) (fun _ => ?_) <;> (conv => whnf)
      have hNi : (x.toNat : Int) * 65536 = ((x.toNat * 65536 : Nat) : Int) := by omega
      have hN24 : x.toNat * 65536 < 16777216 := by omega
      rw [hNi]
      generalize hNx : x.toNat * 65536 = N at *
      --TAIL2
      have q0 : IntKind.i64.wrap (Int.tdiv (N : Int) 262144) = ((N / 262144 : Nat) : Int) := by
        rw [show Int.tdiv (N : Int) 262144 = ((N / 262144 : Nat) : Int) from rfl, wrap64 (by omega) (by omega)]
      have q1 : Int.tmod (IntKind.i64.wrap (Int.tdiv (N : Int) 4096)) 64 = ((N / 4096 % 64 : Nat) : Int) := by
        rw [show Int.tdiv (N : Int) 4096 = ((N / 4096 : Nat) : Int) from rfl, wrap64 (by omega) (by omega)]; rfl
      have q2 : Int.tmod (IntKind.i64.wrap (Int.tdiv (N : Int) 64)) 64 = ((N / 64 % 64 : Nat) : Int) := by
        rw [show Int.tdiv (N : Int) 64 = ((N / 64 : Nat) : Int) from rfl, wrap64 (by omega) (by omega)]; rfl
      have q3 : Int.tmod (N : Int) 64 = ((N % 64 : Nat) : Int) := rfl
      refine ⟨by decide, ?_⟩
      (conv => whnf)
      refine ⟨by decide, ?_⟩
      (conv => whnf)
      refine ⟨by decide, ?_⟩
      (conv => whnf)
      refine ⟨by decide, ?_⟩
      (conv => whnf)
      refine ⟨by decide, ?_⟩
      (conv => whnf)
      refine ⟨by decide, ?_⟩
      (conv => whnf)
      rw [q0, q1, q2, q3]
      refine WS.loop (fun k' F H5 G => ∃ j : Nat, j ≤ 2 ∧ k' = 2 - j ∧ F = [(0, pv (.slice A bs.length c)), (3, .si (.ce (.self 0))), (4, pv (.int .i64 i)), (6, pv (.int .i64 2)), (7, .si (.ce (.ptr 1 0))), (8, pv (.int .i64 j))] ∧ H3.Le H5 ∧ G = [rB (out ++ (four N).take j), .box 149 [.val (.int .i64 (N / 262144 : Nat)), .val (.int .i64 (N / 4096 % 64 : Nat)), .val (.int .i64 (N / 64 % 64 : Nat)), .val (.int .i64 (N % 64 : Nat))]]) 5 ?_ ?_
      · refine ⟨2, by omega, _, _, [0, 1], ⟨0, by omega, rfl, rfl, .refl _, by rw [List.take_zero, List.append_nil]⟩, ?_⟩
        exact ⟨rfl, ⟨rfl, rfl, trivial⟩, rfl, rfl, rfl, rfl, rfl, rfl, trivial⟩
      rintro k2 F H5 G hle6 ⟨j, hj, rfl, rfl, hle7, rfl⟩
      refine codeL.go tab ?_
      rcases (by omega : j = 0 ∨ j = 1 ∨ j = 2) with rfl | rfl | rfl
      · (conv => whnf)
        refine ⟨⟨by decide, by decide⟩, ?_⟩
        (conv => whnf)
        refine ⟨⟨_, Tryz.func111, rfl, by kernel_rfl⟩, CallS.use (letter_ (N / 262144) (by omega) H5) [] rfl rfl trivial ?_⟩
        rintro e H6 G' hle8 ⟨rfl, rfl, rfl⟩
        (conv => whnf)
        refine ⟨by decide, ?_⟩
        (conv => whnf)
        refine .inl ?_
        intro g H7 hle9 hrd
        (conv => whnf)
        refine ⟨_, rfl, hrd, one_int _ _, ?_⟩
        (conv => whnf)
        refine ⟨by show ((out ++ (four N).take 0).length + 1) * 2 ≤ _; rw [List.length_append, List.length_take]; omega, ?_⟩
        (conv => whnf)
        refine ⟨2 - (0 + 1), by omega, _, [rB (out ++ (four N).take (0 + 1)), .box 149 [.val (.int .i64 (N / 262144 : Nat)), .val (.int .i64 (N / 4096 % 64 : Nat)), .val (.int .i64 (N / 64 % 64 : Nat)), .val (.int .i64 (N % 64 : Nat))]], [2, 1], ⟨0 + 1, by omega, rfl, rfl, hle7.trans hle9, rfl⟩, ?_⟩
        refine ⟨rfl, ⟨?_, rfl, trivial⟩, rfl, rfl, rfl, rfl, rfl, rfl, trivial⟩
        rw [show rB (out ++ (four N).take (0 + 1)) = SB.row 5 1 ((out ++ (four N).take 0).length + 1) (bCells (out ++ (four N).take 0) ++ [.int .u8 (letterP (N / 262144)).toNat]) by
          unfold Bu.rB
          rw [bCells_snoc _ (letterP (N / 262144)) rfl]
          show SB.row _ 1 (out ++ (four N).take (0 + 1)).length (bCells (out ++ (four N).take (0 + 1))) = _
          rw [show (four N).take (0 + 1) = (four N).take 0 ++ [letterP (N / 262144)] from rfl, ← List.append_assoc]
          generalize out ++ (four N).take 0 = o4
          rw [List.length_append]
          rfl]
        rfl
      · (conv => whnf)
        refine ⟨⟨by decide, by decide⟩, ?_⟩
        (conv => whnf)
        refine ⟨⟨_, Tryz.func111, rfl, by kernel_rfl⟩, CallS.use (letter_ (N / 4096 % 64) (by omega) H5) [] rfl rfl trivial ?_⟩
        rintro e H6 G' hle8 ⟨rfl, rfl, rfl⟩
        (conv => whnf)
        refine ⟨by decide, ?_⟩
        (conv => whnf)
        refine .inl ?_
        intro g H7 hle9 hrd
        (conv => whnf)
        refine ⟨_, rfl, hrd, one_int _ _, ?_⟩
        (conv => whnf)
        refine ⟨by show ((out ++ (four N).take 1).length + 1) * 2 ≤ _; rw [List.length_append, List.length_take]; omega, ?_⟩
        (conv => whnf)
        refine ⟨2 - (1 + 1), by omega, _, [rB (out ++ (four N).take (1 + 1)), .box 149 [.val (.int .i64 (N / 262144 : Nat)), .val (.int .i64 (N / 4096 % 64 : Nat)), .val (.int .i64 (N / 64 % 64 : Nat)), .val (.int .i64 (N % 64 : Nat))]], [2, 1], ⟨1 + 1, by omega, rfl, rfl, hle7.trans hle9, rfl⟩, ?_⟩
        refine ⟨rfl, ⟨?_, rfl, trivial⟩, rfl, rfl, rfl, rfl, rfl, rfl, trivial⟩
        rw [show rB (out ++ (four N).take (1 + 1)) = SB.row 5 1 ((out ++ (four N).take 1).length + 1) (bCells (out ++ (four N).take 1) ++ [.int .u8 (letterP (N / 4096 % 64)).toNat]) by
          unfold Bu.rB
          rw [bCells_snoc _ (letterP (N / 4096 % 64)) rfl]
          show SB.row _ 1 (out ++ (four N).take (1 + 1)).length (bCells (out ++ (four N).take (1 + 1))) = _
          rw [show (four N).take (1 + 1) = (four N).take 1 ++ [letterP (N / 4096 % 64)] from rfl, ← List.append_assoc]
          generalize out ++ (four N).take 1 = o4
          rw [List.length_append]
          rfl]
        rfl
      · (conv => whnf)
        rw [wrap64 (x := (i : Int) + 3) (by omega) (by omega)]
        refine ⟨bs.length - (i + 3), by omega, _, [rB (out ++ (four N).take 2)], [0], ⟨i + 3, out ++ (four N).take 2, by omega, by rw [List.length_append, List.length_take]; omega, ?_, rfl, rfl, hle4.trans hle7, rfl⟩, ?_⟩
        · rw [hdr, List.drop_of_length_le (show bs.length ≤ i + 1 by omega), encP_1, hNx] at henc
          rw [List.drop_of_length_le (by omega), encP_nil, List.append_nil, henc]
        · exact ⟨rfl, ⟨rfl, trivial⟩, rfl, rfl, rfl, trivial⟩
      --END2
  · have h1 := of_decide_eq_false h1
    rw [List.drop_of_length_le (by omega), encP_nil, List.append_nil] at henc
    refine ⟨sL out, by rw [byteCells_eq]; rfl, ?_⟩
    (conv => whnf)
    exact ⟨by rw [henc]; rfl, hle4, rfl⟩
end Ref04
end Go.Kx.En
namespace Go.Kx.Wo
open Go.Proofs Go.Kx Go.RowKit Go.Kx.Js Go.Kx.Pr Go.Kx.Rt
set_option maxRecDepth 20000
set_option linter.unusedSimpArgs false
def T : Tab := [(9, { k := TK.string, agg := false, size := 1, bytes := 16, zero := [Z.s] }), (4, { k := TK.bool, agg := false, size := 1, bytes := 1, zero := [Z.b] }), (3, { k := TK.int IntKind.i64, agg := false, size := 1, bytes := 8, zero := [Z.i IntKind.i64] }), (63, { k := TK.st [(0, 9, 1), (1, 9, 1)], agg := true, size := 2, bytes := 32, zero := [Z.s, Z.s] })]
set_option maxRecDepth 100000 in
theorem tab : TabOk Tryz.prog T := tabOk_mk (ts := [9, 4, 3, 63]) (by kernel_rfl)
def wordP (m : Nat) (s : ByteArray) : Bool := !strEq s ⟨#[]⟩ && (decide (s.size ≤ m) && toldP s)
theorem setWord (s : ByteArray) (H : Hp) : CallO Tryz.prog 50 [pv (.string s)] H [] fun e _ G' => e = .ret (pv (.bool (wordP 256 s))) ∧ G' = [] := by
  unfold wordP
  refine CallO.of_body tab Tryz.func50 rfl (nt := Tryz.f50.ntmps) rfl (by kernel_rfl) ?_
  (conv => whnf)
  refine br.of (fun h1 => ?_) (fun h1 => ?_) <;> (conv => whnf)
  · rw [h1, Bool.true_and]
    refine br.of (fun h2 => ?_) (fun h2 => ?_) <;> (conv => whnf)
    · have h2 := of_decide_eq_true h2
      rw [decide_eq_true (show s.size ≤ 256 by omega), Bool.true_and]
      refine ⟨⟨_, Tryz.func92, rfl, by kernel_rfl⟩, CallS.use (told_ s (by omega) H) [] rfl rfl trivial ?_⟩
      rintro e H2 G' hle ⟨rfl, rfl⟩
      (conv => whnf)
      exact ⟨rfl, rfl⟩
    · have h2 := of_decide_eq_false h2
      rw [decide_eq_false (show ¬ s.size ≤ 256 by omega), Bool.false_and]
      exact ⟨rfl, rfl⟩
  · rw [h1, Bool.false_and]
    exact ⟨rfl, rfl⟩
theorem subWord (s : ByteArray) (H : Hp) : CallO Tryz.prog 93 [pv (.string s)] H [] fun e _ G' => e = .ret (pv (.bool (wordP 256 s))) ∧ G' = [] := by
  unfold wordP
  refine CallO.of_body tab Tryz.func93 rfl (nt := Tryz.f93.ntmps) rfl (by kernel_rfl) ?_
  (conv => whnf)
  refine br.of (fun h1 => ?_) (fun h1 => ?_) <;> (conv => whnf)
  · rw [h1, Bool.true_and]
    refine br.of (fun h2 => ?_) (fun h2 => ?_) <;> (conv => whnf)
    · have h2 := of_decide_eq_true h2
      rw [decide_eq_true (show s.size ≤ 256 by omega), Bool.true_and]
      refine ⟨⟨_, Tryz.func92, rfl, by kernel_rfl⟩, CallS.use (told_ s (by omega) H) [] rfl rfl trivial ?_⟩
      rintro e H2 G' hle ⟨rfl, rfl⟩
      (conv => whnf)
      exact ⟨rfl, rfl⟩
    · have h2 := of_decide_eq_false h2
      rw [decide_eq_false (show ¬ s.size ≤ 256 by omega), Bool.false_and]
      exact ⟨rfl, rfl⟩
  · rw [h1, Bool.false_and]
    exact ⟨rfl, rfl⟩
theorem jwsWord (s : ByteArray) (H : Hp) : CallO Tryz.prog 118 [pv (.string s)] H [] fun e _ G' => e = .ret (pv (.bool (wordP 40 s))) ∧ G' = [] := by
  unfold wordP
  refine CallO.of_body tab Tryz.func118 rfl (nt := Tryz.f118.ntmps) rfl (by kernel_rfl) ?_
  (conv => whnf)
  refine br.of (fun h1 => ?_) (fun h1 => ?_) <;> (conv => whnf)
  · rw [h1, Bool.true_and]
    refine br.of (fun h2 => ?_) (fun h2 => ?_) <;> (conv => whnf)
    · have h2 := of_decide_eq_true h2
      rw [decide_eq_true (show s.size ≤ 40 by omega), Bool.true_and]
      refine ⟨⟨_, Tryz.func92, rfl, by kernel_rfl⟩, CallS.use (told_ s (by omega) H) [] rfl rfl trivial ?_⟩
      rintro e H2 G' hle ⟨rfl, rfl⟩
      (conv => whnf)
      exact ⟨rfl, rfl⟩
    · have h2 := of_decide_eq_false h2
      rw [decide_eq_false (show ¬ s.size ≤ 40 by omega), Bool.false_and]
      exact ⟨rfl, rfl⟩
  · rw [h1, Bool.false_and]
    exact ⟨rfl, rfl⟩
end Go.Kx.Wo
namespace Go.Kx.Cl
open Go.Proofs Go.Kx Go.RowKit Go.Kx.Js Go.Kx.Pr Go.Kx.Rt Go.Kx.Ob Go.Kx.Wo Go.Kx.Ro
set_option maxRecDepth 20000
set_option linter.unusedSimpArgs false
abbrev sOpaque := (⟨#[111, 112, 97, 113, 117, 101]⟩ : ByteArray)
abbrev sEmail := (⟨#[101, 109, 97, 105, 108]⟩ : ByteArray)
abbrev sIssSub := (⟨#[105, 115, 115, 95, 115, 117, 98]⟩ : ByteArray)
abbrev sId := (⟨#[105, 100]⟩ : ByteArray)
abbrev sIss := (⟨#[105, 115, 115]⟩ : ByteArray)
abbrev sSub := (⟨#[115, 117, 98]⟩ : ByteArray)
abbrev sFormat := (⟨#[102, 111, 114, 109, 97, 116]⟩ : ByteArray)
structure Sub where
  fmt : ByteArray
  id : ByteArray
  own : ByteArray
abbrev sub0 : Sub := ⟨⟨#[]⟩, ⟨#[]⟩, ⟨#[]⟩⟩
def addrP (s : ByteArray) : Bool := decide (0 < ixB s.data.toList 64) && (decide (ixB s.data.toList 64 < (s.size : Int) - 1) && (s.data.toList.count 64 == 1))
def subRight (x : Sub) : Bool :=
  if x.fmt = sOpaque then wordP 256 x.id && strEq x.own ⟨#[]⟩ else
  if x.fmt = sEmail then wordP 256 x.id && (addrP x.id && strEq x.own ⟨#[]⟩) else
  if x.fmt = sIssSub then wordP 256 x.id && wordP 256 x.own else false
def namesOf (f : ByteArray) : List ByteArray := if f = sOpaque then [sId] else if f = sEmail then [sEmail] else if f = sIssSub then [sIss, sSub] else []
def textsOf (x : Sub) : List ByteArray := if x.fmt = sIssSub then [x.own, x.id] else [x.id]
def subMs (x : Sub) : Ms := (sFormat, strJ x.fmt) :: (List.zip (namesOf x.fmt) ((textsOf x).map strJ))
def subJ (x : Sub) : J := objJ (subMs x)
def memT (j : J) (s : ByteArray) : ByteArray × Bool := match j.get s with
  | some m => (m.text, m.kind == 4)
  | none => (⟨#[]⟩, false)
def subOf (j : J) : Sub × Int :=
  if (memT j sFormat).2 = false then (sub0, 10) else
  if namesOf (memT j sFormat).1 = [] then (sub0, 42) else
  if rightJ j = false ∨ j.mems.length ≠ (namesOf (memT j sFormat).1).length + 1 then (sub0, 10) else
  if (memT j sFormat).1 = sIssSub then
    if (memT j sSub).2 && (memT j sIss).2 && subRight ⟨(memT j sFormat).1, (memT j sSub).1, (memT j sIss).1⟩ then (⟨(memT j sFormat).1, (memT j sSub).1, (memT j sIss).1⟩, 0) else (sub0, 10)
  else
    if (memT j ((namesOf (memT j sFormat).1).getD 0 ⟨#[]⟩)).2 && subRight ⟨(memT j sFormat).1, (memT j ((namesOf (memT j sFormat).1).getD 0 ⟨#[]⟩)).1, ⟨#[]⟩⟩ then (⟨(memT j sFormat).1, (memT j ((namesOf (memT j sFormat).1).getD 0 ⟨#[]⟩)).1, ⟨#[]⟩⟩, 0) else (sub0, 10)
structure Clm where
  iss : ByteArray
  jti : ByteArray
  aud : ByteArray
  iat : Int
  txn : ByteArray
  sub : Sub
  kind : Int
  reason : ByteArray
abbrev clm0 : Clm := ⟨⟨#[]⟩, ⟨#[]⟩, ⟨#[]⟩, 0, ⟨#[]⟩, sub0, 0, ⟨#[]⟩⟩
abbrev sJti := (⟨#[106, 116, 105]⟩ : ByteArray)
abbrev sIat := (⟨#[105, 97, 116]⟩ : ByteArray)
abbrev sAud := (⟨#[97, 117, 100]⟩ : ByteArray)
abbrev sTxn := (⟨#[116, 120, 110]⟩ : ByteArray)
abbrev sSubId := (⟨#[115, 117, 98, 95, 105, 100]⟩ : ByteArray)
abbrev sEvents := (⟨#[101, 118, 101, 110, 116, 115]⟩ : ByteArray)
abbrev sReason := (⟨#[114, 101, 97, 115, 111, 110]⟩ : ByteArray)
abbrev nm1 := (⟨#[104, 116, 116, 112, 115, 58, 47, 47, 115, 99, 104, 101, 109, 97, 115, 46, 111, 112, 101, 110, 105, 100, 46, 110, 101, 116, 47, 115, 101, 99, 101, 118, 101, 110, 116, 47, 99, 97, 101, 112, 47, 101, 118, 101, 110, 116, 45, 116, 121, 112, 101, 47, 115, 101, 115, 115, 105, 111, 110, 45, 114, 101, 118, 111, 107, 101, 100]⟩ : ByteArray)
abbrev nm2 := (⟨#[104, 116, 116, 112, 115, 58, 47, 47, 115, 99, 104, 101, 109, 97, 115, 46, 111, 112, 101, 110, 105, 100, 46, 110, 101, 116, 47, 115, 101, 99, 101, 118, 101, 110, 116, 47, 99, 97, 101, 112, 47, 101, 118, 101, 110, 116, 45, 116, 121, 112, 101, 47, 99, 114, 101, 100, 101, 110, 116, 105, 97, 108, 45, 99, 104, 97, 110, 103, 101]⟩ : ByteArray)
abbrev nm3 := (⟨#[104, 116, 116, 112, 115, 58, 47, 47, 115, 99, 104, 101, 109, 97, 115, 46, 111, 112, 101, 110, 105, 100, 46, 110, 101, 116, 47, 115, 101, 99, 101, 118, 101, 110, 116, 47, 114, 105, 115, 99, 47, 101, 118, 101, 110, 116, 45, 116, 121, 112, 101, 47, 97, 99, 99, 111, 117, 110, 116, 45, 100, 105, 115, 97, 98, 108, 101, 100]⟩ : ByteArray)
abbrev nm4 := (⟨#[104, 116, 116, 112, 115, 58, 47, 47, 115, 99, 104, 101, 109, 97, 115, 46, 111, 112, 101, 110, 105, 100, 46, 110, 101, 116, 47, 115, 101, 99, 101, 118, 101, 110, 116, 47, 114, 105, 115, 99, 47, 101, 118, 101, 110, 116, 45, 116, 121, 112, 101, 47, 97, 99, 99, 111, 117, 110, 116, 45, 101, 110, 97, 98, 108, 101, 100]⟩ : ByteArray)
abbrev nm5 := (⟨#[104, 116, 116, 112, 115, 58, 47, 47, 115, 99, 104, 101, 109, 97, 115, 46, 111, 112, 101, 110, 105, 100, 46, 110, 101, 116, 47, 115, 101, 99, 101, 118, 101, 110, 116, 47, 99, 97, 101, 112, 47, 101, 118, 101, 110, 116, 45, 116, 121, 112, 101, 47, 116, 111, 107, 101, 110, 45, 99, 108, 97, 105, 109, 115, 45, 99, 104, 97, 110, 103, 101]⟩ : ByteArray)
abbrev nm6 := (⟨#[104, 116, 116, 112, 115, 58, 47, 47, 115, 99, 104, 101, 109, 97, 115, 46, 111, 112, 101, 110, 105, 100, 46, 110, 101, 116, 47, 115, 101, 99, 101, 118, 101, 110, 116, 47, 115, 115, 101, 47, 101, 118, 101, 110, 116, 45, 116, 121, 112, 101, 47, 118, 101, 114, 105, 102, 105, 99, 97, 116, 105, 111, 110]⟩ : ByteArray)
def allN : List ByteArray := [nm1, nm2, nm3, nm4, nm5, nm6]
def nameK (k : Int) : ByteArray := if 1 ≤ k ∧ k ≤ 6 then allN.getD (k - 1).toNat ⟨#[]⟩ else ⟨#[]⟩
def kindN (s : ByteArray) : Int := if s = nm1 then 1 else if s = nm2 then 2 else if s = nm3 then 3 else if s = nm4 then 4 else if s = nm5 then 5 else if s = nm6 then 6 else 0
def clRight (c : Clm) : Bool :=
  (decide (1 ≤ c.kind) && decide (c.kind ≤ 6)) && (wordP 256 c.iss && (wordP 256 c.jti && (wordP 256 c.aud && (wordP 256 c.txn && (decide (0 ≤ c.iat) && (decide (c.iat ≤ 1099511627776) && (subRight c.sub && (strEq c.reason ⟨#[]⟩ || wordP 256 c.reason))))))))
def evMs (c : Clm) : Ms := if strEq c.reason ⟨#[]⟩ then [] else [(sReason, strJ c.reason)]
def evJ (c : Clm) : J := objJ [(nameK c.kind, objJ (evMs c))]
def clMs (c : Clm) : Ms := [(sIss, strJ c.iss), (sJti, strJ c.jti), (sIat, numJ c.iat), (sAud, strJ c.aud), (sTxn, strJ c.txn), (sSubId, subJ c.sub), (sEvents, evJ c)]
def clJ (c : Clm) : J := objJ (clMs c)
def said (j : J) (s : ByteArray) : ByteArray := match j.get s with
  | some m => if m.kind = 4 then m.text else ⟨#[]⟩
  | none => ⟨#[]⟩
def memJ (j : J) (s : ByteArray) : J := (j.get s).getD jNone
def event (j : J) : Int × ByteArray :=
  if j.kind = 6 then match j.mems with
    | [(s, m)] => (kindN s, said m sReason)
    | _ => (0, ⟨#[]⟩)
  else (0, ⟨#[]⟩)
def ofC (j : J) : Clm := ⟨said j sIss, said j sJti, said j sAud, (intP (memJ j sIat)).1, said j sTxn, (subOf (memJ j sSubId)).1, (event (memJ j sEvents)).1, (event (memJ j sEvents)).2⟩
def ofP (j : J) : Option Clm := if clRight (ofC j) && sameP (clJ (ofC j)) j then some (ofC j) else none
theorem str_refl (s : ByteArray) : strEq s s = true := (strEq_iff ..).2 rfl
theorem compact_len {α : Type} [BEq α] [LawfulBEq α] [DecidableEq α] [Inhabited α] (zs : List α) (h : zs.Nodup) : (Lib.compact zs).length = zs.length := by
  unfold Lib.compact Lib.compactUpTo
  rw [List.length_map]
  have : (List.range zs.length).filter (Lib.keeps zs.toArray) = List.range zs.length := by
    rw [List.filter_eq_self]
    intro m hm
    rw [List.mem_range] at hm
    rcases Nat.eq_zero_or_pos m with rfl | h0
    · exact Lib.keeps_lt_one _ _ (by omega)
    · refine Lib.keeps_pos fun he => ?_
      rw [getElem!_pos zs.toArray m (by simpa using hm), getElem!_pos zs.toArray (m - 1) (by simp; omega)] at he
      simp only [List.getElem_toArray] at he
      exact (List.pairwise_iff_getElem.1 h (m - 1) m (by omega) (by omega) (by omega)) he.symm
  rw [this, List.length_range]
theorem noTwice_of {l : List ByteArray} (h : l.Nodup) : noTwice l = true := by
  unfold noTwice
  rw [beq_iff_eq]
  have hn : (l.map fun s => s.data.toList).Nodup := by
    refine List.pairwise_map.2 (h.imp fun {a b} hne hab => hne ?_)
    have : a.data = b.data := Array.toList_inj.1 hab
    cases a; cases b; simpa using this
  have hp := List.mergeSort_perm (l.map fun s => s.data.toList) (fun x y => decide (x ≤ y))
  rw [compact_len _ (hp.nodup_iff.2 hn), List.length_mergeSort, List.length_map]
end Go.Kx.Cl
namespace Go.Kx.Jw
open Go.Proofs Go.Kx Go.RowKit Go.Kx.Js Go.Kx.Pr Go.Kx.Rt Go.Kx.Ob Go.Kx.Wo Go.Kx.Ro Go.Kx.Pa Go.Kx.En Go.Kx.Cl Go.Kx.Sha
set_option maxRecDepth 20000
set_option linter.unusedSimpArgs false
abbrev sAlg := (⟨#[97, 108, 103]⟩ : ByteArray)
abbrev sKid := (⟨#[107, 105, 100]⟩ : ByteArray)
abbrev sTyp := (⟨#[116, 121, 112]⟩ : ByteArray)
abbrev sCrit := (⟨#[99, 114, 105, 116]⟩ : ByteArray)
abbrev sHs := (⟨#[72, 83, 50, 53, 54]⟩ : ByteArray)
def headJ (kid typ : ByteArray) : J := objJ [(sAlg, strJ sHs), (sKid, strJ kid), (sTyp, strJ typ)]
def signedP (kid typ : ByteArray) (payload : List UInt8) : List UInt8 := encP (wrJ (headJ kid typ)) ++ 46 :: encP payload
def tokenP (kid typ : ByteArray) (payload key : List UInt8) : List UInt8 := signedP kid typ payload ++ 46 :: encP (hmac key (signedP kid typ payload))
def signP (kid typ : ByteArray) (payload key : List UInt8) : ByteArray × Int :=
  if (wordP 40 kid && wordP 40 typ) = false then (⟨#[]⟩, 10) else if payload.length > 16384 then (⟨#[]⟩, 11) else if key.length < 16 then (⟨#[]⟩, 41) else (⟨(tokenP kid typ payload key).toArray⟩, 0)
structure Tok where
  kid : ByteArray
  typ : ByteArray
  payload : List UInt8
  signed : List UInt8
  tag : List UInt8
def wordJ (j : J) (s : ByteArray) : Option ByteArray := match j.get s with
  | some m => if m.kind = 4 ∧ wordP 40 m.text = true then some m.text else none
  | none => none
def methodP (j : J) : Bool := (match j.get sAlg with
  | some m => (m.kind == 4) && strEq m.text sHs
  | none => false) && (j.get sCrit).isNone
def tok3 (a b c : List UInt8) : Except Int Tok :=
  match decP ⟨a.toArray⟩, decP ⟨b.toArray⟩, decP ⟨c.toArray⟩ with
  | some h, some p, some t =>
    if (parseP h 4).2.1 = 0 ∧ (parseP h 4).1.kind = 6 then
      match wordJ (parseP h 4).1 sKid, wordJ (parseP h 4).1 sTyp with
      | some kid, some typ => if p.length ≤ 16384 ∧ t.length = 32 then (if methodP (parseP h 4).1 then .ok ⟨kid, typ, p, a ++ 46 :: b, t⟩ else .error 42) else .error 10
      | _, _ => .error 10
    else .error 10
  | _, _, _ => .error 10
def partsP (s : ByteArray) : Except Int Tok :=
  if s.size > 49152 then .error 11 else
  match partsL 46 [] s.data.toList with
  | [a, b, c] => tok3 a b c
  | _ => .error 10
def verifyP (s : ByteArray) (key : List UInt8) : Except Int Tok :=
  match partsP s with
  | .error e => .error e
  | .ok t => if key.length < 16 then .error 41 else if t.tag = hmac key t.signed then .ok t else .error 40
theorem partsL_last (c : UInt8) : ∀ (l cur : List UInt8), c ∉ l → partsL c cur l = [cur ++ l]
  | [], cur, _ => by simp [partsL]
  | x :: r, cur, h => by
    simp only [List.mem_cons, not_or] at h
    unfold partsL
    rw [if_neg (Ne.symm h.1), partsL_last c r _ h.2]
    simp
theorem partsL_more (c : UInt8) (r : List UInt8) : ∀ (l cur : List UInt8), c ∉ l → partsL c cur (l ++ c :: r) = (cur ++ l) :: partsL c [] r
  | [], cur, _ => by
    show partsL c cur (c :: r) = _
    rw [partsL, if_pos rfl, List.append_nil]
  | x :: l, cur, h => by
    simp only [List.mem_cons, not_or] at h
    show partsL c cur (x :: (l ++ c :: r)) = _
    rw [partsL, if_neg (Ne.symm h.1), partsL_more c r l _ h.2]
    simp
theorem encP_len : ∀ (k : Nat) (l : List UInt8), l.length < k → (encP l).length ≤ 2 * l.length
  | 0, l, h => by omega
  | k + 1, [], _ => by simp [encP_nil]
  | k + 1, [a], _ => by rw [encP_1]; simp [four]
  | k + 1, [a, b], _ => by rw [encP_2]; simp [four]
  | k + 1, a :: b :: c :: l, h => by
    have := encP_len k l (by simp only [List.length_cons] at h; omega)
    rw [encP_3]
    simp only [List.length_append, List.length_cons, four, List.length_nil]
    omega
theorem esc_len : ∀ l : List UInt8, (l.flatMap escB).length ≤ 6 * l.length
  | [] => by simp
  | c :: l => by
    have := esc_len l
    have h1 : ∀ n : Fin 256, (escB (UInt8.ofNat n.val)).length ≤ 6 := by decide +kernel
    have h2 := h1 ⟨c.toNat, c.toNat_lt⟩
    simp only [UInt8.ofNat_toNat] at h2
    simp only [List.flatMap_cons, List.length_append, List.length_cons]
    omega
theorem quote_len (l : List UInt8) : (quoteB l).length ≤ 6 * l.length + 2 := by
  have := esc_len l
  unfold quoteB
  simp only [List.length_append, List.length_cons, List.length_nil]
  omega
theorem wr_str (s : ByteArray) : wrJ (strJ s) = quoteB s.data.toList := by unfold strJ; simp [wrJ]
theorem word_size {m : Nat} {s : ByteArray} (h : wordP m s = true) : s.size ≤ m ∧ toldP s = true ∧ s ≠ ⟨#[]⟩ := by
  unfold Wo.wordP at h
  simp only [Bool.and_eq_true, decide_eq_true_eq, Bool.not_eq_true', strEq_false] at h
  exact ⟨h.2.1, h.2.2, h.1⟩
theorem word_told {m : Nat} {s : ByteArray} (h : wordP m s = true) : Ro.Told s.data.toList := (toldP_iff s).1 (word_size h).2.1
theorem dl (s : ByteArray) : s.data.toList.length = s.size := by rw [Array.length_toList]; rfl
theorem head_wr (kid typ : ByteArray) : wrJ (headJ kid typ) = [123] ++ quoteB sAlg.data.toList ++ [58] ++ quoteB sHs.data.toList ++ [44] ++ quoteB sKid.data.toList ++ [58] ++ quoteB kid.data.toList ++ [44] ++ quoteB sTyp.data.toList ++ [58] ++ quoteB typ.data.toList ++ [125] := by
  unfold headJ objJ
  simp only [wrJ, wrMs, wr_str]
  simp [List.append_assoc]
theorem head_told {kid typ : ByteArray} (h1 : wordP 40 kid = true) (h2 : wordP 40 typ = true) : Ro.Told (wrJ (headJ kid typ)) := by
  have a1 := (word_told h1).quote
  have a2 := (word_told h2).quote
  rw [head_wr]
  have asc : ∀ l : List UInt8, l.all (fun c => decide (c.toNat < 128)) = true → Ro.Told l := fun l h => .ascii h
  refine Ro.Told.append (Ro.Told.append (Ro.Told.append (Ro.Told.append (Ro.Told.append (Ro.Told.append ?_ a1) (asc _ (by decide))) (asc _ (by decide +kernel))) (asc _ (by decide))) a2) (asc _ (by decide))
  exact asc _ (by decide +kernel)
theorem head_len {kid typ : ByteArray} (h1 : wordP 40 kid = true) (h2 : wordP 40 typ = true) : (wrJ (headJ kid typ)).length ≤ 600 := by
  have b1 := quote_len kid.data.toList
  have b2 := quote_len typ.data.toList
  rw [dl] at b1 b2
  have c1 := (word_size h1).1
  have c2 := (word_size h2).1
  have e1 : (quoteB sAlg.data.toList).length = 5 := by decide +kernel
  have e2 : (quoteB sHs.data.toList).length = 7 := by decide +kernel
  have e3 : (quoteB sKid.data.toList).length = 5 := by decide +kernel
  have e4 : (quoteB sTyp.data.toList).length = 5 := by decide +kernel
  rw [head_wr]
  simp only [List.length_append, List.length_cons, List.length_nil, e1, e2, e3, e4]
  omega
theorem head_pl (kid typ : ByteArray) : Pl 4 (headJ kid typ) := by
  refine .obj _ (fun i s j h => ?_) ?_
  · rcases i with _ | _ | _ | i
    · simp at h; obtain ⟨_, rfl⟩ := h; exact .str _
    · simp at h; obtain ⟨_, rfl⟩ := h; exact .str _
    · simp at h; obtain ⟨_, rfl⟩ := h; exact .str _
    · simp at h
  · show ([sAlg, sKid, sTyp] : List ByteArray).Nodup
    decide
theorem head_parse {kid typ : ByteArray} (h1 : wordP 40 kid = true) (h2 : wordP 40 typ = true) : parseP (wrJ (headJ kid typ)) 4 = (headJ kid typ, 0, 0) :=
  parse_read (head_pl kid typ) (by decide) (by decide) (by have := head_len h1 h2; omega) (head_told h1 h2)
theorem token_read {kid typ : ByteArray} {payload key : List UInt8} (h1 : wordP 40 kid = true) (h2 : wordP 40 typ = true) (h3 : payload.length ≤ 16384) :
    partsP ⟨(tokenP kid typ payload key).toArray⟩ = .ok ⟨kid, typ, payload, signedP kid typ payload, hmac key (signedP kid typ payload)⟩ := by
  have l1 := encP_len _ (wrJ (headJ kid typ)) (Nat.lt_succ_self _)
  have l2 := encP_len _ payload (Nat.lt_succ_self _)
  have l3 := encP_len _ (hmac key (signedP kid typ payload)) (Nat.lt_succ_self _)
  have l4 : (hmac key (signedP kid typ payload)).length = 32 := sha_length _
  have l5 := head_len h1 h2
  have hsz : (⟨(tokenP kid typ payload key).toArray⟩ : ByteArray).size ≤ 49152 := by
    show (tokenP kid typ payload key).toArray.size ≤ _
    rw [List.size_toArray]
    unfold tokenP
    rw [List.length_append, List.length_cons]
    have : (signedP kid typ payload).length = (encP (wrJ (headJ kid typ))).length + ((encP payload).length + 1) := by unfold signedP; rw [List.length_append, List.length_cons]
    omega
  unfold partsP
  rw [if_neg (by omega)]
  have hp : partsL 46 [] (⟨(tokenP kid typ payload key).toArray⟩ : ByteArray).data.toList = [encP (wrJ (headJ kid typ)), encP payload, encP (hmac key (signedP kid typ payload))] := by
    show partsL 46 [] (tokenP kid typ payload key) = _
    unfold tokenP
    conv => lhs; unfold signedP
    rw [List.append_assoc, List.cons_append, partsL_more 46 _ _ _ (encP_dot _ _ (Nat.lt_succ_self _)), partsL_more 46 _ _ _ (encP_dot _ _ (Nat.lt_succ_self _)), partsL_last 46 _ _ (encP_dot _ _ (Nat.lt_succ_self _))]
    rfl
  rw [hp]
  show tok3 _ _ _ = _
  unfold tok3
  rw [decP_encP, decP_encP, decP_encP]
  simp only []
  rw [head_parse h1 h2, if_pos ⟨rfl, rfl⟩]
  have g1 : (headJ kid typ).get sKid = some (strJ kid) := rfl
  have g2 : (headJ kid typ).get sTyp = some (strJ typ) := rfl
  have g3 : (headJ kid typ).get sAlg = some (strJ sHs) := rfl
  have g4 : (headJ kid typ).get sCrit = none := rfl
  have w1 : wordJ (headJ kid typ) sKid = some kid := by unfold wordJ; rw [g1]; exact if_pos ⟨rfl, h1⟩
  have w2 : wordJ (headJ kid typ) sTyp = some typ := by unfold wordJ; rw [g2]; exact if_pos ⟨rfl, h2⟩
  have hm : methodP (headJ kid typ) = true := by unfold methodP; rw [g3, g4]; rfl
  simp only [w1, w2, hm]
  rw [if_pos ⟨h3, l4⟩]
  rfl
theorem sign_verify {kid typ : ByteArray} {payload key : List UInt8} {s : ByteArray} (h : signP kid typ payload key = (s, 0)) :
    verifyP s key = .ok ⟨kid, typ, payload, signedP kid typ payload, hmac key (signedP kid typ payload)⟩ := by
  unfold signP at h
  split at h
  · cases h
  split at h
  · cases h
  split at h
  · cases h
  rename_i h1 h2 h3
  simp only [Prod.mk.injEq, and_true] at h
  subst h
  simp only [Bool.not_eq_false, Bool.and_eq_true] at h1
  unfold verifyP
  rw [token_read h1.1 h1.2 (by omega)]
  simp only []
  rw [if_neg (by omega), if_pos trivial]
end Go.Kx.Jw
namespace Go.Kx.Ro
open Go.Proofs Go.Kx Go.RowKit Go.Kx.Js Go.Kx.Pr Go.Kx.Rt
set_option maxRecDepth 20000
set_option linter.unusedSimpArgs false
mutual
def szJ : J → Nat
  | .mk _ _ t js ms => t.size + szJs js + szMs ms
def szJs : List J → Nat
  | [] => 0
  | j :: r => szJ j + 1 + szJs r
def szMs : List (ByteArray × J) → Nat
  | [] => 0
  | (s, j) :: r => s.size + szJ j + 1 + szMs r
end
theorem szJs_snoc (j : J) : ∀ js : List J, szJs (js ++ [j]) = szJs js + (szJ j + 1)
  | [] => by simp [szJs]
  | a :: r => by simp only [List.cons_append, szJs, szJs_snoc j r]; omega
theorem szMs_snoc (s : ByteArray) (j : J) : ∀ ms : List (ByteArray × J), szMs (ms ++ [(s, j)]) = szMs ms + (s.size + szJ j + 1)
  | [] => by simp [szMs]
  | (t, a) :: r => by simp only [List.cons_append, szMs, szMs_snoc s j r]; omega
theorem szJs_len : ∀ js : List J, js.length ≤ szJs js
  | [] => by simp
  | a :: r => by have := szJs_len r; simp only [List.length_cons, szJs]; omega
theorem szMs_len : ∀ ms : List (ByteArray × J), ms.length ≤ szMs ms
  | [] => by simp
  | (t, a) :: r => by have := szMs_len r; simp only [List.length_cons, szMs]; omega
mutual
theorem sm_of : ∀ j : J, szJ j ≤ 190000 → smJ j
  | .mk _ _ t js ms, h => by
    simp only [szJ] at h
    have := szJs_len js
    have := szMs_len ms
    exact ⟨by omega, by omega, by omega, sms_of js (by omega), smms_of ms (by omega)⟩
theorem sms_of : ∀ js : List J, szJs js ≤ 190000 → smJs js
  | [], _ => trivial
  | j :: r, h => by simp only [szJs] at h; exact ⟨sm_of j (by omega), sms_of r (by omega)⟩
theorem smms_of : ∀ ms : List (ByteArray × J), szMs ms ≤ 190000 → smMs ms
  | [], _ => trivial
  | (s, j) :: r, h => by simp only [szMs] at h; exact ⟨by omega, sm_of j (by omega), smms_of r (by omega)⟩
end
theorem esc6 : ∀ l : List UInt8, (l.flatMap escB).length ≤ 6 * l.length
  | [] => by simp
  | c :: l => by
    have := esc6 l
    have h1 : ∀ n : Fin 256, (escB (UInt8.ofNat n.val)).length ≤ 6 := by decide +kernel
    have h2 := h1 ⟨c.toNat, c.toNat_lt⟩
    simp only [UInt8.ofNat_toNat] at h2
    simp only [List.flatMap_cons, List.length_append, List.length_cons]
    omega
theorem quote6 (s : ByteArray) : (quoteB s.data.toList).length ≤ 6 * s.size + 2 := by
  have := esc6 s.data.toList
  have h : s.data.toList.length = s.size := by rw [Array.length_toList]; rfl
  unfold quoteB
  simp only [List.length_append, List.length_cons, List.length_nil]
  omega
mutual
theorem wr_of : ∀ j : J, (wrJ j).length ≤ 10 * szJ j + 6
  | .mk k y t js ms => by
    have h1 := wrs_of js true
    have h2 := wrms_of ms true
    have h3 := quote6 t
    have h : t.data.toList.length = t.size := by rw [Array.length_toList]; rfl
    simp only [wrJ, szJ]
    split
    · simp
    split
    · split <;> simp
    split
    · omega
    split
    · omega
    split
    · simp only [List.length_append, List.length_cons, List.length_nil]; omega
    split
    · simp only [List.length_append, List.length_cons, List.length_nil]; omega
    · simp
theorem wrs_of : ∀ (js : List J) (f : Bool), (wrJs f js).length ≤ 10 * szJs js
  | [], f => by simp [wrJs]
  | j :: r, f => by
    have h1 := wr_of j
    have h2 := wrs_of r false
    have h3 : (if f then ([] : List UInt8) else [44]).length ≤ 1 := by cases f <;> simp
    simp only [wrJs, szJs, List.length_append]
    omega
theorem wrms_of : ∀ (ms : List (ByteArray × J)) (f : Bool), (wrMs f ms).length ≤ 10 * szMs ms
  | [], f => by simp [wrMs]
  | (s, j) :: r, f => by
    have h1 := wr_of j
    have h2 := wrms_of r false
    have h4 := quote6 s
    have h3 : (if f then ([] : List UInt8) else [44]).length ≤ 1 := by cases f <;> simp
    simp only [wrMs, szMs, List.length_append, List.length_cons, List.length_nil]
    omega
end
theorem tk_len {c : UInt8} {l r : List UInt8} (h : tk c l = some r) : l.length = r.length + 1 := by rw [tk_some h]; rfl
theorem must_len {c : UInt8} {l r : List UInt8} {u : Unit} (h : mustP c l = .ok u r) : l.length = r.length + 1 := by rw [mustP_ok h]; rfl
theorem strP_sz : ∀ (m : Nat) (b l : List UInt8) {x r : List UInt8}, strP m b l = .ok x r → x.length + 4 * r.length + 4 ≤ b.length + 4 * l.length
  | 0, b, l, x, r, h => by cases h
  | m + 1, b, l, x, r, h => by
    cases h34 : tk 34 l with
    | some r2 =>
      rw [strP_end h34] at h
      injection h with h1 h
      subst h h1
      have := tk_len h34
      omega
    | none =>
      cases h92 : tk 92 l with
      | some r2 =>
        rw [strP_esc h34 h92] at h
        obtain ⟨y, r3, h1, h⟩ := bind_ok h
        have i1 := strP_sz m _ _ h
        obtain ⟨i2, i3⟩ := escP_sfx h1
        have i4 := i2.le
        have i5 := tk_len h92
        rw [List.length_append] at i1
        omega
      | none =>
        by_cases hc : (pk l).toNat < 32
        · rw [strP_ctl h34 h92 hc] at h; cases h
        · rw [strP_chr h34 h92 hc] at h
          have i1 := strP_sz m _ _ h
          cases l with
          | nil => exact absurd (show (pk []).toNat < 32 by decide) hc
          | cons c t =>
            simp only [List.length_append, List.length_cons, List.length_nil, List.tail_cons] at i1 ⊢
            omega
theorem textP_sz {l r : List UInt8} {t : ByteArray} (h : textP l = .ok t r) : t.size + 4 * r.length + 8 ≤ 4 * l.length := by
  unfold textP at h
  obtain ⟨_, r1, h1, h⟩ := bind_ok h
  obtain ⟨b, r2, h2, h⟩ := bind_ok h
  injection h with h3 h
  subst h h3
  have i1 := must_len h1
  have i2 := strP_sz _ _ _ h2
  have e : (⟨b.toArray⟩ : ByteArray).size = b.length := List.size_toArray
  rw [e]
  simp only [List.length_nil] at i2
  omega
theorem numberP_sz {l r : List UInt8} {t : ByteArray} (h : numberP l = .ok t r) : t.size + 4 * r.length ≤ 4 * l.length := by
  have hs := (numberP_sfx h).le
  unfold numberP at h
  obtain ⟨_, r1, h1, h⟩ := bind_ok h
  obtain ⟨_, r2, h2, h⟩ := bind_ok h
  obtain ⟨_, r3, h3, h⟩ := bind_ok h
  injection h with h4 h
  subst h h4
  have e : (⟨(l.take (l.length - r3.length)).toArray⟩ : ByteArray).size = (l.take (l.length - r3.length)).length := List.size_toArray
  rw [e, List.length_take]
  omega
def SzV (val : List UInt8 → Res J) : Prop := ∀ l j r, val l = .ok j r → szJ j + 4 * r.length ≤ 4 * l.length
theorem rowP_sz {α : Type} (mu : α → Nat) {one : α → List UInt8 → Res α} {en : UInt8} (ho : ∀ x l y r, one x l = .ok y r → mu y + 4 * r.length ≤ mu x + 4 * l.length + 1) : ∀ (m : Nat) (first : Bool) (x : α) (l : List UInt8) {y : α} {r : List UInt8}, rowP one en m first x l = .ok y r → mu y + 4 * r.length ≤ mu x + 4 * l.length
  | 0, first, x, l, y, r, h => by cases h
  | m + 1, first, x, l, y, r, h => by
    cases hf : (if first then tk en l else none) with
    | some r2 =>
      cases first with
      | false => cases hf
      | true =>
        rw [if_pos rfl] at hf
        rw [rowP_end hf] at h
        injection h with h1 h
        subst h h1
        have := tk_len hf
        omega
    | none =>
      rw [rowP_go hf] at h
      obtain ⟨z, r1, h1, h⟩ := bind_ok h
      have i1 := ho _ _ _ _ h1
      have i2 := (blankP_sfx r1).le
      split at h
      · rename_i r2 ht
        injection h with h3 h
        subst h h3
        have := tk_len ht
        omega
      · obtain ⟨_, r3, h3, h⟩ := bind_ok h
        have i3 := must_len h3
        have i4 := (blankP_sfx r3).le
        have i5 := rowP_sz mu ho m _ _ _ h
        omega
theorem valS_sz {deeper : Option (List UInt8 → Res J)} (hd : ∀ val, deeper = some val → SzV val) : SzV (valS deeper) := by
  intro l j r h
  rw [valS_eq] at h
  unfold valT at h
  split at h
  · obtain ⟨_, r1, h1, h⟩ := bind_ok h; injection h with h2 h; subst h h2; have := (wordP_sfx _ _ h1).le; simp only [jNull, szJ, szJs, szMs]; show 0 + 0 + 0 + _ ≤ _; omega
  split at h
  · obtain ⟨_, r1, h1, h⟩ := bind_ok h; injection h with h2 h; subst h h2; have := (wordP_sfx _ _ h1).le; simp only [jTruth, szJ, szJs, szMs]; show 0 + 0 + 0 + _ ≤ _; omega
  split at h
  · obtain ⟨_, r1, h1, h⟩ := bind_ok h; injection h with h2 h; subst h h2; have := (wordP_sfx _ _ h1).le; simp only [jTruth, szJ, szJs, szMs]; show 0 + 0 + 0 + _ ≤ _; omega
  split at h
  · obtain ⟨t, r1, h1, h⟩ := bind_ok h; injection h with h2 h; subst h h2; have := textP_sz h1; simp only [jStr, szJ, szJs, szMs]; omega
  split at h
  · cases deeper with
    | none => cases h
    | some val =>
      obtain ⟨js, r1, h1, h⟩ := bind_ok h; injection h with h4 h; subst h h4
      obtain ⟨_, r2, h2, h1⟩ := bind_ok h1
      have i1 := rowP_sz szJs (fun x l y r he => by
        obtain ⟨j, r1, h1, h2⟩ := bind_ok he
        injection h2 with h3 h4
        subst h3 h4
        have := hd val rfl _ _ _ h1
        rw [szJs_snoc]; omega) _ _ _ _ h1
      have i2 := (enterP_sfx h2).le
      simp only [szJs] at i1
      simp only [jArr, szJ, szMs]
      show 0 + _ + 0 + _ ≤ _
      omega
  split at h
  · cases deeper with
    | none => cases h
    | some val =>
      obtain ⟨ms, r1, h1, h⟩ := bind_ok h; injection h with h4 h; subst h h4
      obtain ⟨_, r2, h2, h1⟩ := bind_ok h1
      have i1 := rowP_sz szMs (fun x l y r he => by
        obtain ⟨t, r1, h1, h2⟩ := bind_ok he
        split at h2
        · cases h2
        · obtain ⟨_, r2, h3, h2⟩ := bind_ok h2
          obtain ⟨j, r3, h4, h2⟩ := bind_ok h2
          injection h2 with h5 h6
          subst h5 h6
          have a1 := textP_sz h1
          have a2 := (blankP_sfx r1).le
          have a3 := must_len h3
          have a4 := (blankP_sfx r2).le
          have a5 := hd val rfl _ _ _ h4
          rw [szMs_snoc]; omega) _ _ _ _ h1
      have i2 := (enterP_sfx h2).le
      simp only [szMs] at i1
      simp only [jObj, szJ, szJs]
      show 0 + 0 + _ + _ ≤ _
      omega
  split at h
  · obtain ⟨t, r1, h1, h⟩ := bind_ok h; injection h with h2 h; subst h h2; have := numberP_sz h1; simp only [jNum, szJ, szJs, szMs]; omega
  · cases h
theorem valP_sz : ∀ d, SzV (valP d)
  | 0 => valS_sz fun _ h => (nomatch h)
  | d + 1 => valS_sz fun _ h => by injection h with h; subst h; exact valP_sz d
theorem parse_sz (bs : List UInt8) (d : Int) : szJ (parseP bs d).1 ≤ 65536 := by
  unfold parseP
  split
  · exact Nat.zero_le _
  split
  · exact Nat.zero_le _
  split
  · exact Nat.zero_le _
  rename_i h1 _ _
  split
  · rename_i j r h
    unfold wholeP at h
    obtain ⟨j2, r2, h2, h⟩ := bind_ok h
    have i1 := valP_sz _ _ _ _ h2
    have i2 := (blankP_sfx bs).le
    split at h
    · injection h with h3 h
      subst h3
      show szJ j2 ≤ _
      omega
    · cases h
  · exact Nat.zero_le _
end Go.Kx.Ro
