/- Values as texts: a character of a number, out of a reader. No condition of its own. -/
import Derived.Test.YtbjiioclhgdeeaaGreatDoorMB07
import Derived.Lib.SlicesCompact
namespace Go.Kx.Js
open Go.Proofs Go.Kx Go.RowKit
set_option maxRecDepth 20000
theorem hasPrefix_ (s p : ByteArray) (hp : p.size ≤ 100) (H : Hp) : CallO Tryz.prog 225 [pv (.string s), pv (.string p)] H [] fun e H' G' => H' = H ∧ e = .ret (pv (.bool (decide ((p.size : Int) ≤ (s.size : Int)) && strEq (s.extract 0 p.size) p))) ∧ G' = [] := by
 refine CallO.of_body tab Tryz.func225 rfl (nt := Tryz.f225.ntmps) rfl (by kernel_rfl) ?_
 (conv => whnf)
 refine ⟨⟨_, Tryz.func290, rfl, by kernel_rfl⟩, CallS.use (hasPrefixL s p hp H) [] rfl rfl trivial ?_⟩
 rintro e H' G' hle ⟨rfl, rfl, rfl⟩
 (conv => whnf)
 exact ⟨rfl, rfl, rfl⟩
def signU : ByteArray := ⟨#[92, 117]⟩
def hasU : List UInt8 → Bool
 | c :: d :: _ => c == 92 && d == 117
 | _ => false
theorem hasU_eq {s : ByteArray} {l : List UInt8} (hl : Sfx l (tL s)) : (decide ((signU.size : Int) ≤ ((s.extract (((pos s l : Nat) : Int)).toNat s.size).size : Int)) && strEq ((s.extract (((pos s l : Nat) : Int)).toNat s.size).extract 0 signU.size) signU) = hasU l := by
 have hE : (s.extract (((pos s l : Nat) : Int)).toNat s.size) = ⟨l.toArray⟩ := by
  have := cut_eq hl (⟨l, by simp⟩ : Sfx [] l)
  rw [pos_nil, Int.toNat_natCast s.size] at this
  rw [this]; simp
 rw [hE]
 have h2 : ((⟨l.toArray⟩ : ByteArray).extract 0 signU.size) = ⟨(l.take 2).toArray⟩ := by
  apply ByteArray.ext
  apply Array.ext'
  rw [ByteArray.data_extract, Array.toList_extract, List.extract_eq_take_drop]
  rfl
 rw [h2]
 have h3 : ((⟨l.toArray⟩ : ByteArray).size : Int) = l.length := by show ((l.toArray.size : Nat) : Int) = _; rw [List.size_toArray]
 rw [h3]
 have h4 : ((signU.size : Nat) : Int) = 2 := rfl
 rw [h4]
 unfold strEq
 show (decide ((2 : Int) ≤ (l.length : Int)) && eqB (l.take 2) [92, 117]) = hasU l
 match l with
 | [] => rfl
 | [c] => rfl
 | c :: d :: r =>
  have : decide ((2 : Int) ≤ ((c :: d :: r).length : Int)) = true := decide_eq_true (by rw [List.length_cons, List.length_cons]; omega)
  rw [this, eqB_iff]
  show (true && ([c, d] == [92, 117])) = (c == 92 && d == 117)
  simp only [Bool.true_and, List.cons_beq_cons, BEq.rfl, Bool.and_true]
theorem hasU_no {l : List UInt8} (h : hasU l = false) : behindU l = none := by
 unfold behindU
 match l with
 | [] => rfl
 | [c] =>
  by_cases hc : c = 92
  ·rw [show tk 92 [c] = some [] from if_pos hc]; rfl
  ·rw [show tk 92 [c] = none from if_neg hc]
 | c :: d :: r =>
  by_cases hc : c = 92
  ·rw [show tk 92 (c :: d :: r) = some (d :: r) from if_pos hc]
   by_cases hd : d = 117
   ·simp [hasU, hc, hd] at h
   ·exact if_neg hd
  ·rw [show tk 92 (c :: d :: r) = none from if_neg hc]
theorem hasU_yes {l : List UInt8} (h : hasU l = true) : l = 92 :: 117 :: l.tail.tail := by
 match l with
 | [] => cases h
 | [c] => cases h
 | c :: d :: r =>
  simp only [hasU, Bool.and_eq_true, beq_iff_eq] at h
  rw [h.1, h.2]; rfl
theorem unit_ (s : ByteArray) (fr l : List UInt8) (hl : Sfx l (tL s)) (hs : s.size ≤ 1000000) (d o : Int) (H : Hp) : CallO Tryz.prog 398 [me, pv (.int .i64 ((pos s fr : Nat) : Int))] H [rdB s l d o] fun e H' G' => H' = H ∧ Out s d o (fun (_ : Hp) (n : Nat) (sv : SV) => n < 1114112 ∧ (n < 55296 ∨ 57344 ≤ n) ∧ sv = pv (.int .i32 (n : Int))) (unitP fr l) e H' G' := by
 refine CallO.of_body tab Tryz.func398 rfl (nt := Tryz.f398.ntmps) rfl (by kernel_rfl) ?_
 (conv => whnf)
 refine ⟨⟨_, Tryz.func402, rfl, by kernel_rfl⟩, CallS.use (hex_ s l hl hs d o _) [0] rfl rfl ⟨rfl, trivial⟩ ?_⟩
 rintro e H' G' hle ⟨rfl, hout⟩
 unfold unitP
 cases hx : hexP 4 0 l with
 | no er r =>
  rw [hx] at hout
  obtain ⟨rfl, l2, o2, rfl⟩ := hout
  (conv => whnf)
  exact ⟨rfl, rfl, l2, o2, rfl⟩
 | ok a l1 =>
  rw [hx] at hout
  obtain ⟨hl1, ⟨sv, rfl, ha, rfl⟩, rfl⟩ := hout
  generalize hax : ((a : Nat) : Int) = x
  (conv => whnf)
  refine br.of (fun h1 => ?_) (fun h1 => ?_) <;> (conv => whnf)
  ·have h1 := of_decide_eq_true h1
   refine ⟨rfl, ?_⟩
   show Out s d o _ (if a < 55296 ∨ 57344 ≤ a then _ else _) _ _ _
   rw [if_pos (by omega)]
   exact ⟨hl1, ⟨_, rfl, by omega, by omega, by rw [hax]; rfl⟩, rfl⟩
  ·have h1 := of_decide_eq_false h1
   refine br.of (fun h2 => ?_) (fun h2 => ?_) <;> (conv => whnf)
   ·have h2 := of_decide_eq_true h2
    refine ⟨rfl, ?_⟩
    show Out s d o _ (if a < 55296 ∨ 57344 ≤ a then _ else _) _ _ _
    rw [if_pos (by omega)]
    exact ⟨hl1, ⟨_, rfl, by omega, by omega, by rw [hax]; rfl⟩, rfl⟩
   ·have h2 := of_decide_eq_false h2
    have hn1 : ¬ (a < 55296 ∨ 57344 ≤ a) := by omega
    refine br.of (fun h3 => ?_) (fun h3 => ?_) <;> (conv => whnf)
    ·have h3 := of_decide_eq_true h3
     refine ⟨⟨_, Tryz.func359, rfl, by kernel_rfl⟩, CallS.use (fail_ 31 (pos s fr : Nat) s l1 d o _) [0] rfl rfl ⟨rfl, trivial⟩ ?_⟩
     rintro e H2 G' hle2 ⟨rfl, rfl, rfl⟩
     (conv => whnf)
     refine ⟨rfl, ?_⟩
     show Out s d o _ (if a < 55296 ∨ 57344 ≤ a then _ else _) _ _ _
     rw [if_neg hn1, if_pos (by omega)]
     exact ⟨rfl, l1, o, rfl⟩
    ·have h3 := of_decide_eq_false h3
     have hn2 : ¬ 56320 ≤ a := by omega
     refine WS.draw tab mixed (.take 0 (.take 1 (.take 2 (.take 3 (.take 4 (.take 5 (.take 6 (.take 7 (.take 8 (.alt 9 (.take 10 .done) .no)))))))))) (by kernel_rfl) [] ?_
     (conv => whnf)
     refine ⟨⟨by omega, by have := pos_le s l1; omega⟩, ?_⟩
     (conv => whnf)
     repeat' (first
      | exact trivial
      | exact ⟨_, Tryz.func225, rfl, by kernel_rfl⟩
      | (refine CallS.use (hasPrefix_ _ signU (by decide) _) [] rfl rfl trivial ?_; rintro e H2 G' hle2 ⟨rfl, rfl, rfl⟩; rw [hasU_eq hl1]; (conv => whnf))
      | (refine And.intro ?_ ?_ <;> (conv => whnf)))
     cases hU : hasU l1 <;> (conv => whnf)
     ·refine ⟨⟨_, Tryz.func359, rfl, by kernel_rfl⟩, CallS.use (fail_ 31 (pos s fr : Nat) s l1 d o _) [0] rfl rfl ⟨rfl, trivial⟩ ?_⟩
      rintro e H2 G' hle2 ⟨rfl, rfl, rfl⟩
      (conv => whnf)
      refine ⟨rfl, ?_⟩
      show Out s d o _ (if a < 55296 ∨ 57344 ≤ a then _ else _) _ _ _
      rw [if_neg hn1, if_neg hn2, hasU_no hU]
      exact ⟨rfl, l1, o, rfl⟩
     ·have hl1e := hasU_yes hU
      generalize l1.tail.tail = l3 at hl1e
      subst hl1e
      have hl3 : Sfx l3 (tL s) := hl1.tail.tail
      have hp2 : ((pos s (92 :: 117 :: l3) : Nat) : Int) + 2 = ((pos s l3 : Nat) : Int) := by
       have := pos_int hl1; have := pos_int hl1.tail; omega
      have hq := pos_lt hl1
      rw [wrap64 (x := ((pos s (92 :: 117 :: l3) : Nat) : Int) + 2) (by omega) (by omega), hp2]
      have hst : SB.box 360 [.val (.string s), .val (.int .i64 ((pos s l3 : Nat) : Int)), .val (.int .i64 d), .val (.int .i64 o)] = rdB s l3 d o := rfl
      refine ⟨⟨_, Tryz.func402, rfl, by kernel_rfl⟩, CallS.use (hex_ s l3 hl3 hs d o _) [0] rfl rfl ⟨rfl, trivial⟩ ?_⟩
      rintro e H2 G' hle2 ⟨rfl, hout⟩
      have hun : ∀ r : Res Nat, (if a < 55296 ∨ 57344 ≤ a then (Res.ok a (92 :: 117 :: l3)) else if 56320 ≤ a then (Res.no 31 fr) else r) = r := fun r => by rw [if_neg hn1, if_neg hn2]
      cases hx2 : hexP 4 0 l3 with
      | no er r =>
       rw [hx2] at hout
       obtain ⟨rfl, l2, o2, rfl⟩ := hout
       (conv => whnf)
       refine ⟨rfl, ?_⟩
       show Out s d o _ (if a < 55296 ∨ 57344 ≤ a then _ else _) _ _ _
       rw [if_neg hn1, if_neg hn2]
       show Out s d o _ ((hexP 4 0 l3).bind _) _ _ _
       rw [hx2]
       exact ⟨rfl, l2, o2, rfl⟩
      | ok b l4 =>
       rw [hx2] at hout
       obtain ⟨hl4, ⟨sv, rfl, hb, rfl⟩, rfl⟩ := hout
       generalize hby : ((b : Nat) : Int) = y
       (conv => whnf)
       have hfail : ∀ (x' : SE) (G' : List SB), (b < 56320 ∨ 57344 ≤ b) → x' = .pan [{ v := faultV 31 (pos s fr), recovered := false }] → G' = [rdB s l4 d o] → Out s d o (fun (_ : Hp) (n : Nat) (sv : SV) => n < 1114112 ∧ (n < 55296 ∨ 57344 ≤ n) ∧ sv = pv (.int .i32 (n : Int))) (if a < 55296 ∨ 57344 ≤ a then (Res.ok a (92 :: 117 :: l3)) else if 56320 ≤ a then (Res.no 31 fr) else ((hexP 4 0 l3).bind fun b l4 => if b < 56320 ∨ 57344 ≤ b then .no 31 fr else .ok (65536 + (a - 55296) * 1024 + (b - 56320)) l4)) x' H2 G' := by
        rintro _ _ hbb rfl rfl
        rw [hun, hx2]
        show Out s d o _ (if b < 56320 ∨ 57344 ≤ b then _ else _) _ _ _
        rw [if_pos hbb]
        exact ⟨rfl, l4, o, rfl⟩
       refine br.of (fun h4 => ?_) (fun h4 => ?_) <;> (conv => whnf)
       ·have h4 := of_decide_eq_true h4
        refine ⟨⟨_, Tryz.func359, rfl, by kernel_rfl⟩, CallS.use (fail_ 31 (pos s fr : Nat) s l4 d o _) [0] rfl rfl ⟨rfl, trivial⟩ ?_⟩
        rintro e H2 G' hle2 ⟨rfl, rfl, rfl⟩
        (conv => whnf)
        exact ⟨rfl, hfail _ _ (by omega) rfl rfl⟩
       ·have h4 := of_decide_eq_false h4
        refine br.of (fun h5 => ?_) (fun h5 => ?_) <;> (conv => whnf)
        ·have h5 := of_decide_eq_true h5
         refine ⟨⟨_, Tryz.func359, rfl, by kernel_rfl⟩, CallS.use (fail_ 31 (pos s fr : Nat) s l4 d o _) [0] rfl rfl ⟨rfl, trivial⟩ ?_⟩
         rintro e H2 G' hle2 ⟨rfl, rfl, rfl⟩
         (conv => whnf)
         exact ⟨rfl, hfail _ _ (by omega) rfl rfl⟩
        ·have h5 := of_decide_eq_false h5
         refine ⟨by decide, ?_⟩
         (conv => whnf)
         refine ⟨rfl, ?_⟩
         show Out s d o _ (if a < 55296 ∨ 57344 ≤ a then _ else _) _ _ _
         rw [if_neg hn1, if_neg hn2]
         show Out s d o _ ((hexP 4 0 l3).bind _) _ _ _
         rw [hx2]
         show Out s d o _ (if b < 56320 ∨ 57344 ≤ b then _ else _) _ _ _
         rw [if_neg (by omega)]
         refine ⟨hl4, ⟨_, rfl, by omega, by omega, ?_⟩, rfl⟩
         have e10 : (2 : Int) ^ min (Int.toNat 10) IntKind.i32.bits = 1024 := by decide
         rw [wrap32 (x := x - 55296) (by omega) (by omega), e10, wrap32 (x := (x - 55296) * 1024) (by omega) (by omega), wrap32 (x := y - 56320) (by omega) (by omega), wrap32 (x := 65536 + (x - 55296) * 1024) (by omega) (by omega), wrap32 (by omega) (by omega)]
         have e : 65536 + (x - 55296) * 1024 + (y - 56320) = ((65536 + (a - 55296) * 1024 + (b - 56320) : Nat) : Int) := by omega
         rw [e]; rfl
end Go.Kx.Js
namespace Go.Kx.Js
open Go.Proofs Go.Kx Go.RowKit
set_option maxRecDepth 20000
def namesS : List UInt8 := [98, 102, 110, 114, 116, 34, 92]
def shortsS : ByteArray := ⟨#[8, 12, 10, 13, 9, 34, 92]⟩
theorem ix_short (c : UInt8) : ixB namesS c = match shortB c with
  | some _ => ixB namesS c
  | none => -1 := by
 have h : ∀ n : Fin 256, ixB namesS (UInt8.ofNat n.val) = (match shortB (UInt8.ofNat n.val) with
  | some _ => ixB namesS (UInt8.ofNat n.val)
  | none => -1) := by decide +kernel
 have := h ⟨c.toNat, c.toNat_lt⟩
 simpa using this
theorem short_some {c b : UInt8} (h : shortB c = some b) : c ≠ 0 ∧ 0 ≤ ixB namesS c ∧ ixB namesS c < 7 ∧ byteAt shortsS (ixB namesS c) = (b.toNat : Int) := by
 have h0 : ∀ n : Fin 256, (match shortB (UInt8.ofNat n.val) with
  | some b => decide (UInt8.ofNat n.val ≠ 0) && decide (0 ≤ ixB namesS (UInt8.ofNat n.val)) && decide (ixB namesS (UInt8.ofNat n.val) < 7) && decide (byteAt shortsS (ixB namesS (UInt8.ofNat n.val)) = (b.toNat : Int))
  | none => true) = true := by decide +kernel
 have := h0 ⟨c.toNat, c.toNat_lt⟩
 simp only [UInt8.ofNat_toNat, h, Bool.and_eq_true, decide_eq_true_eq] at this
 exact ⟨this.1.1.1, this.1.1.2, this.1.2, this.2⟩
def OutE (s : ByteArray) (d o : Int) (bs : List UInt8) (res : Res (List UInt8)) (e : SE) (G' : List SB) : Prop :=
 match res with
 | .ok x r => Sfx r (tL s) ∧ e = .ret (.si (.ce (.self 2))) ∧ G' = [rdB s r d o, .dead, .row 5 1 (bs ++ x).length (bCells (bs ++ x))]
 | .no er r => e = .pan [{ v := faultV er (pos s r), recovered := false }] ∧ ∃ l' o', G' = [rdB s l' d o', .row 5 1 bs.length (bCells bs)]
theorem Sfx.tl (l : List UInt8) : Sfx l.tail l := by
 cases l with
 | nil => exact .refl _
 | cons c r => exact ⟨[c], rfl⟩
theorem hexP_sfx : ∀ (k n : Nat) (l : List UInt8) {a : Nat} {r : List UInt8}, hexP k n l = .ok a r → Sfx r l
 | 0, n, l, a, r, h => by injection h with _ h; subst h; exact .refl _
 | k + 1, n, l, a, r, h => by
  cases hd : hexD (pk l) with
  | some d => rw [hexP_some hd] at h; exact (hexP_sfx k _ _ h).trans (.tl l)
  | none => rw [hexP_none hd] at h; cases h
theorem unitP_sfx {fr l : List UInt8} {n : Nat} {r : List UInt8} (h : unitP fr l = .ok n r) : Sfx r l := by
 unfold unitP at h
 obtain ⟨a, r1, h1, h⟩ := bind_ok h
 have hs := hexP_sfx _ _ _ h1
 split at h
 ·injection h with _ h; subst h; exact hs
 ·split at h
  ·cases h
  ·split at h
   ·cases h
   ·rename_i l3 hb
    obtain ⟨b, r2, h2, h⟩ := bind_ok h
    have hs2 := hexP_sfx _ _ _ h2
    split at h
    ·cases h
    ·injection h with _ h
     subst h
     unfold behindU at hb
     split at hb
     ·cases hb
     ·rename_i l2 h92
      exact (hs2.trans (tk_sfx hb)).trans ((tk_sfx h92).trans hs)
theorem runeB_len (x : Int) : (runeB x).length ≤ 4 := by
 unfold runeB
 split
 ·exact Nat.le_of_ble_eq_true rfl
 ·split
  ·exact Nat.le_of_ble_eq_true rfl
  ·split <;> exact Nat.le_of_ble_eq_true rfl
theorem escP_sfx {fr l : List UInt8} {x : List UInt8} {r : List UInt8} (h : escP fr l = .ok x r) : Sfx r l ∧ x.length ≤ 4 := by
 unfold escP at h
 split at h
 ·injection h with h1 h; subst h h1; exact ⟨.tl l, Nat.le_of_ble_eq_true rfl⟩
 ·split at h
  ·rename_i r' ht
   injection h with h1 h; subst h h1; exact ⟨tk_sfx ht, by decide⟩
  ·split at h
   ·rename_i r' ht
    obtain ⟨n, r1, h1, h⟩ := bind_ok h
    injection h with h2 h; subst h h2
    exact ⟨(unitP_sfx h1).trans (tk_sfx ht), runeB_len _⟩
   ·cases h
theorem strP_end {m : Nat} {b r r2 : List UInt8} (h : tk 34 r = some r2) : strP (m + 1) b r = .ok b r2 := by
 show (match tk 34 r with | some r => _ | none => _) = _
 rw [h]
theorem strP_esc {m : Nat} {b r r2 : List UInt8} (h : tk 34 r = none) (h2 : tk 92 r = some r2) : strP (m + 1) b r = (escP r r2).bind fun x r3 => strP m (b ++ x) r3 := by
 show (match tk 34 r with | some r => _ | none => match tk 92 r with | some r => _ | none => _) = _
 rw [h, h2]
theorem strP_ctl {m : Nat} {b r : List UInt8} (h : tk 34 r = none) (h2 : tk 92 r = none) (h3 : (pk r).toNat < 32) : strP (m + 1) b r = .no 31 r := by
 show (match tk 34 r with | some r => _ | none => match tk 92 r with | some r => _ | none => if (pk r).toNat < 32 then _ else _) = _
 rw [h, h2]
 exact if_pos h3
theorem strP_chr {m : Nat} {b r : List UInt8} (h : tk 34 r = none) (h2 : tk 92 r = none) (h3 : ¬ (pk r).toNat < 32) : strP (m + 1) b r = strP m (b ++ [pk r]) r.tail := by
 show (match tk 34 r with | some r => _ | none => match tk 92 r with | some r => _ | none => if (pk r).toNat < 32 then _ else _) = _
 rw [h, h2]
 exact if_neg h3
theorem escape_ (s : ByteArray) (fr l : List UInt8) (bs : List UInt8) (hn : bs.length ≤ 1000000) (hl : Sfx l (tL s)) (hs : s.size ≤ 1000000) (d o : Int) (H : Hp) : CallO Tryz.prog 384 [me, .si (.ce (.self 1)), pv (.int .i64 ((pos s fr : Nat) : Int))] H [rdB s l d o, .row 5 1 bs.length (bCells bs)] fun e H' G' => H.Le H' ∧ OutE s d o bs (escP fr l) e G' := by
 refine CallO.of_body tab Tryz.func384 rfl (nt := Tryz.f384.ntmps) rfl (by kernel_rfl) ?_
 (conv => whnf)
 refine ⟨⟨_, Tryz.func353, rfl, by kernel_rfl⟩, CallS.use (peek_ s l hl d o H) [0] rfl rfl ⟨rfl, trivial⟩ ?_⟩
 rintro e H' G' hle ⟨rfl, rfl, rfl⟩
 (conv => whnf)
 refine ⟨⟨_, Tryz.func189, rfl, by kernel_rfl⟩, CallS.use (indexByte ⟨namesS.toArray⟩ (pk l) _ []) [] rfl rfl trivial ?_⟩
 rintro e H' G' hle ⟨rfl, rfl, rfl⟩
 (conv => whnf)
 unfold escP
 cases hsb : shortB (pk l) with
 | some b =>
  obtain ⟨h1, h2, h3, h4⟩ := short_some hsb
  have hz : ((((pk l).toNat : Nat) : Int) != 0) = true := by
   simp only [bne_iff_ne, ne_eq]
   intro h
   exact h1 (UInt8.toNat_inj.1 (by show (pk l).toNat = 0; omega))
  rw [hz]
  (conv => whnf)
  change match decide (ixB namesS (pk l) ≥ 0) with | true => _ | false => _
  rw [decide_eq_true (show ixB namesS (pk l) ≥ 0 from h2)]
  (conv => whnf)
  refine ⟨⟨h2, by show ixB namesS (pk l) < 7; exact h3⟩, ?_⟩
  have h5 : byteAt (⟨#[8, 12, 10, 13, 9, 34, 92]⟩ : ByteArray) (ixB (⟨namesS.toArray⟩ : ByteArray).data.toList (pk l)) = (b.toNat : Int) := h4
  rw [h5]
  (conv => whnf)
  refine ⟨by decide, .inl ?_⟩
  intro g H2 hle hrd
  (conv => whnf)
  refine ⟨_, rfl, hrd, ones_u8 [_], ?_⟩
  (conv => whnf)
  refine ⟨by show _ * 2 ≤ _; omega, ?_⟩
  (conv => whnf)
  have hle1 : l = pk l :: l.tail := by
   cases l with
   | nil => exact absurd rfl h1
   | cons c r => rfl
  have hr : Sfx l.tail (tL s) := by rw [hle1] at hl; exact hl.tail
  refine ⟨hle, hr, rfl, ?_⟩
  rw [hle1] at hl
  have hst := rd_step hl hs d o
  rw [← hle1] at hst
  rw [← hst, bCells_snoc bs b rfl]
  show [_, _, _] = [_, _, _]
  rw [List.length_append]; rfl
 | none =>
  have hix : ixB namesS (pk l) = -1 := by have := ix_short (pk l); rw [hsb] at this; exact this
  have hix2 : ixB (⟨namesS.toArray⟩ : ByteArray).data.toList (pk l) = -1 := hix
  rw [hix2]
  refine br.of (fun h1 => ?_) (fun h1 => ?_) <;> (conv => whnf)
  all_goals
   refine ⟨⟨_, Tryz.func342, rfl, by kernel_rfl⟩, CallS.use (next_ 47 (by decide) s l hl hs d o _) [0] rfl rfl ⟨rfl, trivial⟩ ?_⟩
   rintro e H' G' hle ⟨rfl, h⟩
   cases h47 : tk 47 l with
   | some r =>
    rw [h47] at h
    obtain ⟨hr, rfl, rfl⟩ := h
    (conv => whnf)
    refine ⟨by decide, .inl ?_⟩
    intro g H2 hle hrd
    (conv => whnf)
    refine ⟨_, rfl, hrd, ones_u8 [_], ?_⟩
    (conv => whnf)
    refine ⟨by show _ * 2 ≤ _; omega, ?_⟩
    (conv => whnf)
    refine ⟨hle, hr, rfl, ?_⟩
    rw [bCells_snoc bs 47 (x := 47) rfl]
    show [_, _, _] = [_, _, _]
    rw [List.length_append]; rfl
   | none =>
    rw [h47] at h
    obtain ⟨rfl, rfl⟩ := h
    (conv => whnf)
    refine ⟨⟨_, Tryz.func342, rfl, by kernel_rfl⟩, CallS.use (next_ 117 (by decide) s l hl hs d o _) [0] rfl rfl ⟨rfl, trivial⟩ ?_⟩
    rintro e H' G' hle ⟨rfl, h⟩
    cases h117 : tk 117 l with
    | some r =>
     rw [h117] at h
     obtain ⟨hr, rfl, rfl⟩ := h
     (conv => whnf)
     refine ⟨⟨_, Tryz.func398, rfl, by kernel_rfl⟩, CallS.use (unit_ s fr r hr hs d o _) [0] rfl rfl ⟨rfl, trivial⟩ ?_⟩
     rintro e H' G' hle ⟨rfl, hout⟩
     cases hu : unitP fr r with
     | no er r2 =>
      rw [hu] at hout
      obtain ⟨rfl, l2, o2, rfl⟩ := hout
      (conv => whnf)
      refine ⟨.refl _, ?_⟩
      show OutE s d o bs ((unitP fr r).bind _) _ _
      rw [hu]
      exact ⟨rfl, l2, o2, rfl⟩
     | ok n r2 =>
      rw [hu] at hout
      obtain ⟨hr2, ⟨sv, rfl, hn1, hn2, rfl⟩, rfl⟩ := hout
      generalize hx : ((n : Nat) : Int) = x
      (conv => whnf)
      refine ⟨⟨_, Tryz.func397, rfl, by kernel_rfl⟩, CallS.use (appendRune x (by omega) (by omega) (by omega) bs hn _) [1] rfl rfl ⟨rfl, trivial⟩ ?_⟩
      rintro e H2 G' hle2 ⟨rfl, rfl⟩
      (conv => whnf)
      refine ⟨hle2, ?_⟩
      show OutE s d o bs ((unitP fr r).bind _) _ _
      rw [hu]
      show Sfx r2 (tL s) ∧ _ ∧ [_, _, _] = [rdB s r2 d o, .dead, .row _ 1 (bs ++ runeB ((n : Nat) : Int)).length (bCells (bs ++ runeB ((n : Nat) : Int)))]
      rw [hx]
      exact ⟨hr2, rfl, rfl⟩
    | none =>
     rw [h117] at h
     obtain ⟨rfl, rfl⟩ := h
     (conv => whnf)
     refine ⟨⟨_, Tryz.func328, rfl, by kernel_rfl⟩, CallS.use (stop_ s l d o _) [0] rfl rfl ⟨rfl, trivial⟩ ?_⟩
     rintro e H2 G' hle2 ⟨rfl, rfl, rfl⟩
     (conv => whnf)
     exact ⟨.refl _, rfl, l, o, rfl⟩
def RT : Hp → ByteArray → SV → Prop := fun _ t sv => sv = pv (.string t)
theorem text_ (s : ByteArray) (l : List UInt8) (hl : Sfx l (tL s)) (hs : s.size ≤ 200000) (d o : Int) (H : Hp) : CallO Tryz.prog 355 [me] H [rdB s l d o] fun e H' G' => Out s d o RT (textP l) e H' G' := by
 refine CallO.of_body tab Tryz.func355 rfl (nt := Tryz.f355.ntmps) rfl (by kernel_rfl) ?_
 (conv => whnf)
 refine ⟨⟨_, Tryz.func383, rfl, by kernel_rfl⟩, CallS.use (must_ 34 (by decide) s l hl (by omega) d o _) [0] rfl rfl ⟨rfl, trivial⟩ ?_⟩
 rintro e H' G' hle ⟨rfl, hout⟩
 unfold textP
 cases hm : mustP 34 l with
 | no er r =>
  rw [hm] at hout
  obtain ⟨rfl, l2, o2, rfl⟩ := hout
  (conv => whnf)
  exact ⟨rfl, l2, o2, rfl⟩
 | ok u l1 =>
  rw [hm] at hout
  obtain ⟨hl1, ⟨sv, rfl, rfl⟩, rfl⟩ := hout
  (conv => whnf)
  refine WS.nilRow 3 5 1 rfl ?_
  (conv => whnf)
  refine WS.loop (fun k F H2 G => ∃ (m : Nat) (b r : List UInt8), Sfx r (tL s) ∧ r.length < m ∧ strP m b r = strP (l1.length + 1) [] l1 ∧ b.length + 4 * r.length ≤ 4 * s.size ∧ k = r.length ∧ F = [(0, me), (3, .si (.ce (.self 1)))] ∧ H'.Le H2 ∧ G = [rdB s r d o, .row 5 1 b.length (bCells b)]) (l1.length + 1) ?_ ?_
  ·refine ⟨l1.length, by omega, _, _, [0, 1], ⟨l1.length + 1, [], l1, hl1, by omega, rfl, by have := hl1.le; rw [← size_eq] at this; simp; omega, rfl, rfl, .refl _, rfl⟩, ?_⟩
   exact ⟨rfl, ⟨rfl, rfl, trivial⟩, rfl, rfl, trivial⟩
  rintro k F H2 G hle ⟨m, b, r, hr, hm2, hb, hlen, rfl, rfl, hle2, rfl⟩
  refine codeL.go tab ?_
  (conv => whnf)
  refine ⟨⟨_, Tryz.func353, rfl, by kernel_rfl⟩, CallS.use (peek_ s r hr d o _) [0] rfl rfl ⟨rfl, trivial⟩ ?_⟩
  rintro e H3 G' hle3 ⟨rfl, rfl, rfl⟩
  (conv => whnf)
  refine ⟨⟨_, Tryz.func342, rfl, by kernel_rfl⟩, CallS.use (next_ 34 (by decide) s r hr (by omega) d o _) [0] rfl rfl ⟨rfl, trivial⟩ ?_⟩
  rintro e H4 G' hle4 ⟨rfl, h⟩
  cases m with
  | zero => omega
  | succ m =>
  cases h34 : tk 34 r with
  | some r2 =>
   rw [h34] at h
   obtain ⟨hr2, rfl, rfl⟩ := h
   (conv => whnf)
   refine ⟨strOf b, cells_str b, ?_⟩
   (conv => whnf)
   show Out s d o RT ((strP (l1.length + 1) [] l1).bind _) _ _ _
   rw [← hb, strP_end h34]
   exact ⟨hr2, ⟨_, rfl, rfl⟩, rfl⟩
  | none =>
   rw [h34] at h
   obtain ⟨rfl, rfl⟩ := h
   (conv => whnf)
   refine ⟨⟨_, Tryz.func342, rfl, by kernel_rfl⟩, CallS.use (next_ 92 (by decide) s r hr (by omega) d o _) [0] rfl rfl ⟨rfl, trivial⟩ ?_⟩
   rintro e H4 G' hle4 ⟨rfl, h⟩
   cases h92 : tk 92 r with
   | some r2 =>
    rw [h92] at h
    obtain ⟨hr2, rfl, rfl⟩ := h
    (conv => whnf)
    rw [strP_esc h34 h92] at hb
    have hlr : r.length = r2.length + 1 := by rw [tk_some h92]; rfl
    refine ⟨⟨_, Tryz.func384, rfl, by kernel_rfl⟩, CallS.use (escape_ s r r2 b (by omega) hr2 (by omega) d o _) [0, 1] rfl rfl ⟨rfl, rfl, trivial⟩ ?_⟩
    rintro e H5 G' hle5 ⟨_, hout⟩
    cases he : escP r r2 with
    | no er r3 =>
     rw [he] at hout hb
     obtain ⟨rfl, l2, o2, rfl⟩ := hout
     (conv => whnf)
     show Out s d o RT ((strP (l1.length + 1) [] l1).bind _) _ _ _
     rw [← hb]
     exact ⟨rfl, l2, o2, rfl⟩
    | ok x r3 =>
     rw [he] at hout hb
     obtain ⟨hr3, rfl, rfl⟩ := hout
     obtain ⟨hs3, hx4⟩ := escP_sfx he
     have hl3 := hs3.le
     (conv => whnf)
     refine ⟨r3.length, by omega, _, _, [0, 2], ⟨m, b ++ x, r3, hr3, by omega, hb, by rw [List.length_append]; omega, rfl, rfl, hle2.trans hle5, rfl⟩, ?_⟩
     exact ⟨rfl, ⟨rfl, rfl, trivial⟩, rfl, rfl, trivial⟩
   | none =>
    rw [h92] at h
    obtain ⟨rfl, rfl⟩ := h
    generalize hx : (((pk r).toNat : Nat) : Int) = x
    (conv => whnf)
    refine br.of (fun h5 => ?_) (fun h5 => ?_) <;> (conv => whnf)
    ·have h5 := of_decide_eq_true h5
     refine ⟨⟨_, Tryz.func328, rfl, by kernel_rfl⟩, CallS.use (stop_ s r d o _) [0] rfl rfl ⟨rfl, trivial⟩ ?_⟩
     rintro e H2 G' hle2 ⟨rfl, rfl, rfl⟩
     (conv => whnf)
     show Out s d o RT ((strP (l1.length + 1) [] l1).bind _) _ _ _
     rw [← hb, strP_ctl h34 h92 (by omega)]
     exact ⟨rfl, r, o, rfl⟩
    ·have h5 := of_decide_eq_false h5
     rw [strP_chr h34 h92 (by omega)] at hb
     have hre : r = pk r :: r.tail := by
      cases r with
      | nil => simp only [pk] at hx; exact absurd (show (0 : UInt8).toNat = 0 from rfl) (by omega)
      | cons c r => rfl
     have hrl : r.length = r.tail.length + 1 := by rw [hre]; rfl
     have hrt : Sfx r.tail (tL s) := by rw [hre] at hr; exact hr.tail
     have hst : SB.box 360 [.val (.string s), .val (.int .i64 (IntKind.i64.wrap (((pos s r : Nat) : Int) + 1))), .val (.int .i64 d), .val (.int .i64 o)] = rdB s r.tail d o := by
      rw [hre] at hr
      have := rd_step hr (by omega) d o
      rw [← hre] at this
      exact this
     refine ⟨by decide, .inl ?_⟩
     intro g H5 hle5 hrd
     (conv => whnf)
     refine ⟨_, rfl, hrd, ones_u8 [_], ?_⟩
     (conv => whnf)
     refine ⟨by show _ * 2 ≤ _; omega, ?_⟩
     (conv => whnf)
     rw [hst, bCells_snoc b (pk r) hx.symm]
     refine ⟨r.tail.length, by omega, _, _, [0, 2], ⟨m, b ++ [pk r], r.tail, hrt, by omega, hb, by rw [List.length_append]; simp only [List.length_cons, List.length_nil]; omega, rfl, rfl, hle2.trans hle5, by rw [List.length_append]⟩, ?_⟩
     exact ⟨rfl, ⟨rfl, rfl, trivial⟩, rfl, rfl, trivial⟩
end Go.Kx.Js
namespace Go.Kx.Pr
open Go.Proofs Go.Kx Go.RowKit Go.Kx.Js Go.Kx.Bu
set_option maxRecDepth 20000
def T : Tab := [(114, { k := TK.st [(0, 3, 1), (1, 4, 1), (2, 9, 1), (3, 111, 1), (4, 112, 1)], agg := true, size := 5, bytes := 80, zero := [Z.i IntKind.i64, Z.b, Z.s, Z.sl, Z.sl] }), (313, { k := TK.st [(0, 9, 1), (1, 114, 5)], agg := true, size := 6, bytes := 96, zero := [Z.s, Z.i IntKind.i64, Z.b, Z.s, Z.sl, Z.sl] }), (242, { k := TK.st [(0, 240, 1), (1, 94, 1)], agg := true, size := 2, bytes := 32, zero := [Z.p, Z.sl] }), (5, { k := TK.int IntKind.u8, agg := false, size := 1, bytes := 1, zero := [Z.i IntKind.u8] }), (9, { k := TK.string, agg := false, size := 1, bytes := 16, zero := [Z.s] }), (30, { k := TK.int IntKind.i64, agg := false, size := 1, bytes := 8, zero := [Z.i IntKind.i64] }), (4, { k := TK.bool, agg := false, size := 1, bytes := 1, zero := [Z.b] }), (240, { k := TK.ptr 242, agg := false, size := 1, bytes := 8, zero := [Z.p] }), (3, { k := TK.int IntKind.i64, agg := false, size := 1, bytes := 8, zero := [Z.i IntKind.i64] }), (149, { k := TK.ifc, agg := false, size := 1, bytes := 16, zero := [Z.ifc] }), (111, { k := TK.slice 114, agg := false, size := 1, bytes := 24, zero := [Z.sl] }), (112, { k := TK.slice 313, agg := false, size := 1, bytes := 24, zero := [Z.sl] }), (94, { k := TK.slice 5, agg := false, size := 1, bytes := 24, zero := [Z.sl] })]
set_option maxRecDepth 100000 in
theorem tab : TabOk Tryz.prog T := tabOk_mk (ts := [114, 313, 242, 5, 9, 30, 4, 240, 3, 149, 111, 112, 94]) (by kernel_rfl)
theorem mixed : Tryz.prog.follows .mixedOrders = true := by kernel_rfl
def hexL (n : Nat) : UInt8 := UInt8.ofNat (if n < 10 then 48 + n else 87 + n)
def escB (c : UInt8) : List UInt8 :=
  if c = 8 then [92, 98] else if c = 12 then [92, 102] else if c = 10 then [92, 110] else if c = 13 then [92, 114] else if c = 9 then [92, 116] else if c = 34 then [92, 34] else if c = 92 then [92, 92] else
  if c.toNat < 32 then [92, 117, 48, 48, hexL (c.toNat / 16), hexL (c.toNat % 16)] else [c]
def quoteB (l : List UInt8) : List UInt8 := [34] ++ l.flatMap escB ++ [34]
def shortsL : List UInt8 := [8, 12, 10, 13, 9, 34, 92]
theorem esc_short {c : UInt8} : 0 ≤ ixB shortsL c → ixB shortsL c < 7 ∧ ∃ d : UInt8, byteAt ⟨#[98, 102, 110, 114, 116, 34, 92]⟩ (ixB shortsL c) = (d.toNat : Int) ∧ escB c = [92, d] := by
  have h : ∀ n : Fin 256, 0 ≤ ixB shortsL (UInt8.ofNat n.val) → ixB shortsL (UInt8.ofNat n.val) < 7 ∧ byteAt ⟨#[98, 102, 110, 114, 116, 34, 92]⟩ (ixB shortsL (UInt8.ofNat n.val)) = (((escB (UInt8.ofNat n.val)).getD 1 0).toNat : Int) ∧ escB (UInt8.ofNat n.val) = [92, (escB (UInt8.ofNat n.val)).getD 1 0] := by decide +kernel
  intro h0
  have h1 := h ⟨c.toNat, c.toNat_lt⟩
  simp only [UInt8.ofNat_toNat] at h1
  obtain ⟨h2, h3, h4⟩ := h1 h0
  exact ⟨h2, _, h3, h4⟩
theorem esc_long {c : UInt8} : ixB shortsL c < 0 → escB c = if c.toNat < 32 then [92, 117, 48, 48, hexL (c.toNat / 16), hexL (c.toNat % 16)] else [c] := by
  have h : ∀ n : Fin 256, ixB shortsL (UInt8.ofNat n.val) < 0 → escB (UInt8.ofNat n.val) = if (UInt8.ofNat n.val).toNat < 32 then [92, 117, 48, 48, hexL ((UInt8.ofNat n.val).toNat / 16), hexL ((UInt8.ofNat n.val).toNat % 16)] else [UInt8.ofNat n.val] := by decide +kernel
  have h1 := h ⟨c.toNat, c.toNat_lt⟩
  simpa using h1
theorem comma0 (b : Bool) (bs : List UInt8) (H : Hp) : CallO Tryz.prog 240 [Bu.me, pv (.int .i64 0)] H [bB b (.self 1), rB bs] fun e H' G' => e = .ret (.tu []) ∧ H' = H ∧ G' = [bB b (.self 1), rB bs] := by
  refine CallO.of_body tab Tryz.func240 rfl (nt := Tryz.f240.ntmps) rfl (by kernel_rfl) ?_
  cases b
  all_goals
    (conv => whnf)
    exact ⟨rfl, rfl, rfl⟩
theorem comma1 (b : Bool) (i : Int) (hi : 0 < i) (bs : List UInt8) (hn : bs.length ≤ 10000000) (H : Hp) : CallO Tryz.prog 240 [Bu.me, pv (.int .i64 i)] H [bB b (.self 1), rB bs] fun e H' G' => e = .ret (.tu []) ∧ H.Le H' ∧ G' = [bB true (.self 2), .dead, rB (bs ++ [44])] := by
  refine CallO.of_body tab Tryz.func240 rfl (nt := Tryz.f240.ntmps) rfl (by kernel_rfl) ?_
  cases b
  all_goals
    (conv => whnf)
    refine br.of (fun h => ?_) (fun h => ?_) <;> (conv => whnf)
    · first
        | refine ⟨⟨_, Tryz.func239, rfl, by kernel_rfl⟩, CallS.use (writeByte true bs 44 44 rfl hn H) [0, 1] rfl rfl ⟨rfl, rfl, trivial⟩ ?_⟩
        | refine ⟨⟨_, Tryz.func239, rfl, by kernel_rfl⟩, CallS.use (writeByte false bs 44 44 rfl hn H) [0, 1] rfl rfl ⟨rfl, rfl, trivial⟩ ?_⟩
      rintro e H2 G' hle ⟨rfl, hl, rfl⟩
      (conv => whnf)
      exact ⟨rfl, hl, rfl⟩
    · have h := of_decide_eq_false h
      exact absurd hi h
theorem hexc (c : UInt8) {n : Nat} (h : c.toNat = n) : [(92 : UInt8), 117, 48, 48, hexL (c.toNat / 16), hexL (c.toNat % 16)] = [92, 117, 48, 48, hexL (n / 16), hexL (n % 16)] := by rw [h]
theorem flatMap_len (l : List UInt8) : (l.flatMap escB).length ≤ 6 * l.length := by
  induction l with
  | nil => simp
  | cons c r ih =>
    have h : (escB c).length ≤ 6 := by
      have h : ∀ n : Fin 256, (escB (UInt8.ofNat n.val)).length ≤ 6 := by decide +kernel
      have h1 := h ⟨c.toNat, c.toNat_lt⟩
      simpa using h1
    rw [List.flatMap_cons, List.length_append, List.length_cons]; omega
set_option maxHeartbeats 16000000 in
theorem quote0 (b : Bool) (bs : List UInt8) (s : ByteArray) (hn : bs.length + 6 * s.size ≤ 9000000) (H : Hp) : CallO Tryz.prog 238 [Bu.me, pv (.string s)] H [bB b (.self 1), rB bs] fun e H' G' => e = .ret (.tu []) ∧ H.Le H' ∧ G' = [bB true (.self 3), .dead, .dead, rB (bs ++ quoteB s.data.toList)] := by
  refine CallO.of_body tab Tryz.func238 rfl (nt := Tryz.f238.ntmps) rfl (by kernel_rfl) ?_
  cases b
  all_goals
    (conv => whnf)
    first
      | refine ⟨⟨_, Tryz.func239, rfl, by kernel_rfl⟩, CallS.use (writeByte true bs 34 34 rfl (by omega) H) [0, 1] rfl rfl ⟨rfl, rfl, trivial⟩ ?_⟩
      | refine ⟨⟨_, Tryz.func239, rfl, by kernel_rfl⟩, CallS.use (writeByte false bs 34 34 rfl (by omega) H) [0, 1] rfl rfl ⟨rfl, rfl, trivial⟩ ?_⟩
    rintro e H2 G' hle ⟨rfl, hl, rfl⟩
    (conv => whnf)
    intro g cap H3 hle3 hcap hrd
    (conv => whnf)
    refine WS.loop (fun k F H4 G => ∃ i : Nat, i ≤ s.size ∧ k = s.size - i ∧ F = [(0, Bu.me), (10, pv (.slice (some ⟨g, 0, none⟩) s.size cap)), (11, pv (.int .i64 s.size)), (12, pv (.int .i64 i))] ∧ H3.Le H4 ∧ G = [bB true (.self 2), .dead, rB (bs ++ [34] ++ (s.data.toList.take i).flatMap escB)]) (s.size + 1) ?_ ?_
    · refine ⟨s.size, by omega, _, _, [0, 1, 2], ⟨0, by omega, rfl, rfl, .refl _, by rw [List.take_zero, List.flatMap_nil, List.append_nil]⟩, ?_⟩
      exact ⟨rfl, ⟨rfl, trivial, rfl, trivial⟩, rfl, rfl, rfl, rfl, trivial⟩
    rintro k F H4 G hle4 ⟨i, hi, rfl, rfl, hle5, rfl⟩
    have hll : s.data.toList.length = s.size := by rw [Array.length_toList]; rfl
    have hfl := flatMap_len (s.data.toList.take i)
    rw [List.length_take, hll] at hfl
    have hnow : (bs ++ [34] ++ (s.data.toList.take i).flatMap escB).length ≤ 9500000 := by simp only [List.length_append, List.length_cons, List.length_nil]; omega
    have hst : ∀ (c : UInt8), s.data.toList[i]? = some c → bs ++ [34] ++ (s.data.toList.take (i + 1)).flatMap escB = (bs ++ [34] ++ (s.data.toList.take i).flatMap escB) ++ escB c := fun c hc => by
      rw [List.take_add_one, hc, List.flatMap_append]
      simp
    have hend : i = s.size → (bs ++ [34] ++ (s.data.toList.take i).flatMap escB) ++ [34] = bs ++ quoteB s.data.toList := fun h => by
      rw [List.take_of_length_le (by omega)]
      unfold quoteB
      simp
    generalize (bs ++ [34] ++ (s.data.toList.take i).flatMap escB) = cur at *
    refine codeL.go tab ?_
    (conv => whnf)
    refine br.of (fun h1 => ?_) (fun h1 => ?_) <;> (conv => whnf)
    · have h1 := of_decide_eq_true h1
      have hget : s.data.toList[i]? = some (s.data.toList[i]'(by omega)) := List.getElem?_eq_getElem _
      generalize s.data.toList[i]'(by omega) = c at hget
      refine ⟨⟨by omega, by omega⟩, ⟨g, 0, rfl⟩, ?_⟩
      (conv => whnf)
      have hcell : RdC H4 (some ⟨g, 0, none⟩) ((i : Int).toNat * 1) (.int .u8 (c.toNat : Int)) := by
        refine ⟨g, 0, rfl, ?_⟩
        obtain ⟨b', o', e1, e2⟩ := hrd.mono hle5
        injection e1 with e1; injection e1 with e1 e3
        subst e1 e3
        have := e2 i (.int .u8 (c.toNat : Int)) (by rw [byteCells_map]; simp [hget])
        rw [Int.toNat_natCast, Nat.mul_one]
        simpa using this
      refine ⟨_, hcell, ?_⟩
      have hst2 := hst c hget
      generalize hx : ((c.toNat : Nat) : Int) = x
      (conv => whnf)
      have hix := Js.indexByte ⟨shortsL.toArray⟩ c H4 []
      rw [hx] at hix
      refine ⟨⟨_, Tryz.func189, rfl, by kernel_rfl⟩, CallS.use hix [] rfl rfl trivial ?_⟩
      rintro e H5 G' hle6 ⟨rfl, rfl, rfl⟩
      replace hst2 : bs ++ [34] ++ List.flatMap escB (List.take (i + 1) s.data.toList) = cur ++ escB c := hst2
      have nxt : ∀ (H' : Hp) (out : List UInt8), H5.Le H' → out = cur ++ escB c → ∃ i' : Nat, i' ≤ s.size ∧ s.size - (i + 1) = s.size - i' ∧ [(0, Bu.me), (10, pv (.slice (some ⟨g, 0, none⟩) s.size cap)), (11, pv (.int .i64 s.size)), (12, pv (.int .i64 ((i : Int) + 1)))] = [(0, Bu.me), (10, pv (.slice (some ⟨g, 0, none⟩) s.size cap)), (11, pv (.int .i64 s.size)), (12, pv (.int .i64 i'))] ∧ H3.Le H' ∧ [bB true (.self 2), .dead, rB out] = [bB true (.self 2), .dead, rB (bs ++ [34] ++ (s.data.toList.take i').flatMap escB)] := fun H' out h1 h2 =>
        ⟨i + 1, by omega, rfl, by rw [show ((i + 1 : Nat) : Int) = (i : Int) + 1 by omega], hle5.trans h1, by rw [h2, hst2]⟩
      have hxi : ixB (⟨shortsL.toArray⟩ : ByteArray).data.toList c = ixB shortsL c := rfl
      rw [hxi]
      generalize hiv : ixB shortsL c = iv
      (conv => whnf)
      refine br.of (fun h2 => ?_) (fun h2 => ?_) <;> (conv => whnf)
      · have h2 := of_decide_eq_true h2
        obtain ⟨h3, d, h4, h5⟩ := esc_short (c := c) (by rw [hiv]; exact h2)
        rw [hiv] at h3 h4
        refine ⟨⟨_, Tryz.func239, rfl, by kernel_rfl⟩, CallS.use (writeByte true cur 92 92 rfl (by omega) _) [0, 2] rfl rfl ⟨rfl, rfl, trivial⟩ ?_⟩
        rintro e H6 G' hle7 ⟨rfl, hl6, rfl⟩
        (conv => whnf)
        refine ⟨⟨h2, by show iv < 7; exact h3⟩, ?_⟩
        rw [h4]
        (conv => whnf)
        refine ⟨⟨_, Tryz.func239, rfl, by kernel_rfl⟩, CallS.use (writeByte true (cur ++ [92]) d _ rfl (by rw [List.length_append]; simp only [List.length_cons, List.length_nil]; omega) _) [0, 3] rfl rfl ⟨rfl, rfl, trivial⟩ ?_⟩
        rintro e H7 G' hle8 ⟨rfl, hl7, rfl⟩
        (conv => whnf)
        rw [wrap64 (x := (i : Int) + 1) (by omega) (by omega)]
        refine ⟨s.size - (i + 1), by omega, _, _, [0, 1, 4], nxt H7 (cur ++ [92] ++ [d]) (hl6.trans hl7) (by rw [h5, List.append_assoc]; rfl), ?_⟩
        exact ⟨rfl, ⟨rfl, trivial, rfl, trivial⟩, rfl, rfl, rfl, rfl, trivial⟩
      · have h2 := of_decide_eq_false h2
        have hel := esc_long (c := c) (by rw [hiv]; omega)
        refine br.of (fun h3 => ?_) (fun h3 => ?_) <;> (conv => whnf)
        · have h3 := of_decide_eq_true h3
          rw [if_pos (by omega)] at hel
          have hcases : x = 0 ∨ x = 1 ∨ x = 2 ∨ x = 3 ∨ x = 4 ∨ x = 5 ∨ x = 6 ∨ x = 7 ∨ x = 8 ∨ x = 9 ∨ x = 10 ∨ x = 11 ∨ x = 12 ∨ x = 13 ∨ x = 14 ∨ x = 15 ∨ x = 16 ∨ x = 17 ∨ x = 18 ∨ x = 19 ∨ x = 20 ∨ x = 21 ∨ x = 22 ∨ x = 23 ∨ x = 24 ∨ x = 25 ∨ x = 26 ∨ x = 27 ∨ x = 28 ∨ x = 29 ∨ x = 30 ∨ x = 31 := by omega
          rcases hcases with rfl | rfl | rfl | rfl | rfl | rfl | rfl | rfl | rfl | rfl | rfl | rfl | rfl | rfl | rfl | rfl | rfl | rfl | rfl | rfl | rfl | rfl | rfl | rfl | rfl | rfl | rfl | rfl | rfl | rfl | rfl | rfl
          all_goals
            refine WS.draw tab mixed (.take 0 (.take 1 (.take 2 (.take 3 (.take 4 (.take 5 (.take 6 (.take 7 (.take 8 (.take 9 (.take 10 (.take 11 (.take 12 (.take 13 (.take 14 (.alt 15 .done .no)))))))))))))))) (by kernel_rfl) [0, 2] ?_
            (conv => whnf)
            repeat' (first
              | exact trivial
              | exact rfl
              | exact ⟨_, Tryz.func167, rfl, by kernel_rfl⟩
              | (refine ⟨by decide, ?_⟩; (conv => whnf))
              | (refine CallS.use (writeString true cur _ (by omega) (by decide) _) [0, 2] rfl rfl ⟨rfl, rfl, trivial⟩ ?_; rintro e H6 G' hle7 ⟨rfl, hl6, hG⟩
                 have hG2 : G' = [bB true (.self 2), .dead, rB (cur ++ escB c)] := by rw [hG, hel, (Int.toNat_natCast c.toNat).symm.trans (congrArg Int.toNat hx)]; exact congrArg (fun z => [bB true (.self 2), SB.dead, rB (cur ++ z)]) (by decide +kernel)
                 clear hG
                 subst hG2
                 (conv => whnf))
              | (rw [wrap64 (x := (i : Int) + 1) (by omega) (by omega)]; exact ⟨s.size - (i + 1), by omega, _, _, [0, 1, 3], nxt H6 (cur ++ escB c) hl6 rfl, rfl, ⟨rfl, trivial, rfl, trivial⟩, rfl, rfl, rfl, rfl, trivial⟩)
              | (refine And.intro ?_ ?_ <;> (conv => whnf)))
        · have h3 := of_decide_eq_false h3
          rw [if_neg (by omega)] at hel
          refine ⟨⟨_, Tryz.func239, rfl, by kernel_rfl⟩, CallS.use (writeByte true cur c x hx.symm (by omega) _) [0, 2] rfl rfl ⟨rfl, rfl, trivial⟩ ?_⟩
          rintro e H6 G' hle7 ⟨rfl, hl6, rfl⟩
          (conv => whnf)
          rw [wrap64 (x := (i : Int) + 1) (by omega) (by omega)]
          refine ⟨s.size - (i + 1), by omega, _, _, [0, 1, 3], nxt H6 (cur ++ [c]) hl6 (by rw [hel]), ?_⟩
          exact ⟨rfl, ⟨rfl, trivial, rfl, trivial⟩, rfl, rfl, rfl, rfl, trivial⟩
    · have h1 := of_decide_eq_false h1
      refine ⟨⟨_, Tryz.func239, rfl, by kernel_rfl⟩, CallS.use (writeByte true cur 34 34 rfl (by omega) _) [0, 2] rfl rfl ⟨rfl, rfl, trivial⟩ ?_⟩
      rintro e H6 G' hle7 ⟨rfl, hl6, rfl⟩
      (conv => whnf)
      rw [hend (by omega)]
      exact ⟨rfl, ((hl.trans hle3).trans hle5).trans hl6, rfl⟩
theorem quote_ (b : Bool) (bs : List UInt8) (s : ByteArray) (hn : bs.length + 6 * s.size ≤ 9000000) (H : Hp) : CallO Tryz.prog 238 [Bu.me, pv (.string s)] H [bB b (.self 1), rB bs] fun e H' G' => e = .ret (.tu []) ∧ H.Le H' ∧ G' = [bB true (.self 2), .dead, rB (bs ++ quoteB s.data.toList)] := by
  refine CallO.sub (quote0 b bs s hn H) ?_
  rintro e H' G' hle ⟨rfl, hl, rfl⟩
  exact ⟨.tu [], [bB true (.self 2), .dead, rB (bs ++ quoteB s.data.toList)], [0, 1, 3], rfl, ⟨rfl, trivial, rfl, trivial⟩, rfl, rfl, hl, rfl⟩
end Go.Kx.Pr
namespace Go.Kx.Js
open Go.Proofs Go.Kx Go.RowKit
set_option maxRecDepth 20000
abbrev Spans := List (Nat × Nat)
def any1 : Nat × Nat := (128, 191)
def behindP (c : Nat) : Option Spans :=
 if c < 128 then some [] else if c < 194 then none else if c < 224 then some [any1] else if c = 224 then some [(160, 191), any1] else if c = 237 then some [(128, 159), any1] else
 if c < 240 then some [any1, any1] else if c = 240 then some [(144, 191), any1, any1] else if c < 244 then some [any1, any1, any1] else if c = 244 then some [(128, 143), any1, any1] else none
def spCells (l : Spans) : List Value := l.flatMap fun p => [.int .u8 (p.1 : Int), .int .u8 (p.2 : Int)]
def inSp : Spans → List UInt8 → Bool
 | [], _ => true
 | _ :: _, [] => false
 | p :: r, c :: l => (decide (p.1 ≤ c.toNat) && decide (c.toNat ≤ p.2)) && inSp r l
def charP (l : List UInt8) : Nat :=
 match behindP (pk l).toNat with
 | none => 0
 | some sp => if l.length ≤ sp.length then 0 else if inSp sp l.tail then 1 + sp.length else 0
def wrongP : Nat → List UInt8 → Option (List UInt8)
 | 0, _ => none
 | _ + 1, [] => none
 | k + 1, c :: l => if charP (c :: l) = 0 then some (c :: l) else wrongP k ((c :: l).drop (charP (c :: l)))
def wrongI (s : ByteArray) : Int :=
 match wrongP ((tL s).length + 1) (tL s) with
 | none => -1
 | some r => ((pos s r : Nat) : Int)
theorem further_ (H : Hp) : CallO Tryz.prog 382 [] H [] fun e H' G' => H' = H ∧ e = .ret (.si (.ag [.val (.int .u8 128), .val (.int .u8 191)])) ∧ G' = [] := by
 refine CallO.of_body tab Tryz.func382 rfl (nt := Tryz.f382.ntmps) rfl (by kernel_rfl) ?_
 (conv => whnf)
 exact ⟨rfl, rfl, rfl⟩
def RB (o : Option Spans) (e : SE) (H' : Hp) : Prop :=
 match o with
 | some sp => ∃ A cap, e = .ret (.tu [.ce (.val (.slice A sp.length cap)), .ce (.val (.bool true))]) ∧ RdV H' A (spCells sp)
 | none => ∃ A n cap, e = .ret (.tu [.ce (.val (.slice A n cap)), .ce (.val (.bool false))])
theorem behind_ (c : Nat) (hc : c < 256) (x : Int) (hx : x = (c : Int)) (H : Hp) : CallO Tryz.prog 351 [pv (.int .u8 x)] H [] fun e H' G' => RB (behindP c) e H' ∧ G' = [] := by
 refine CallO.of_body tab Tryz.func351 rfl (nt := Tryz.f351.ntmps) rfl (by kernel_rfl) ?_
 (conv => whnf)
 refine ⟨⟨_, Tryz.func382, rfl, by kernel_rfl⟩, CallS.use (further_ H) [] rfl rfl trivial ?_⟩
 rintro e H2 G' hle2 ⟨rfl, rfl, rfl⟩
 (conv => whnf)
 have lit : ∀ (sp : Spans) (g : Nat) (H' : Hp), sp.length ≠ 0 → RdN H' (some ⟨g, 0, none⟩) 0 (spCells sp) → RdV H' (some ⟨g, 0, none⟩) (spCells sp) := fun sp g H' h0 h => ⟨fun e => (nomatch e), fun a e => by injection e with e; subst e; exact h⟩
 have done : ∀ (sp : Spans) (e : SE) (H' : Hp), behindP c = some sp → RB (some sp) e H' → RB (behindP c) e H' := fun sp e H' h1 h2 => by rw [h1]; exact h2
 refine br.of (fun h1 => ?_) (fun h1 => ?_) <;> (conv => whnf)
 ·have h1 := of_decide_eq_true h1
  refine ⟨done [] _ _ (if_pos (by omega)) ⟨none, 0, rfl, .nil _⟩, rfl⟩
 have h1 := of_decide_eq_false h1
 refine br.of (fun h2 => ?_) (fun h2 => ?_) <;> (conv => whnf)
 ·have h2 := of_decide_eq_true h2
  have : behindP c = none := by unfold behindP; rw [if_neg (by omega), if_pos (by omega)]
  rw [this]
  exact ⟨⟨_, _, _, rfl⟩, rfl⟩
 have h2 := of_decide_eq_false h2
 refine br.of (fun h3 => ?_) (fun h3 => ?_) <;> (conv => whnf)
 ·have h3 := of_decide_eq_true h3
  refine ⟨by decide, .inl ?_⟩
  intro g H3 hle3 hrd
  (conv => whnf)
  exact ⟨done [any1] _ _ (by unfold behindP; rw [if_neg (by omega), if_neg (by omega), if_pos (by omega)]) ⟨_, _, rfl, lit _ _ _ (by decide) hrd⟩, rfl⟩
 have h3 := of_decide_eq_false h3
 refine br.of (fun h4 => ?_) (fun h4 => ?_) <;> (conv => whnf)
 ·simp only [beq_iff_eq] at h4
  refine ⟨by decide, .inl ?_⟩
  intro g H3 hle3 hrd
  (conv => whnf)
  exact ⟨done [(160, 191), any1] _ _ (by unfold behindP; rw [if_neg (by omega), if_neg (by omega), if_neg (by omega), if_pos (by omega)]) ⟨_, _, rfl, lit _ _ _ (by decide) hrd⟩, rfl⟩
 simp only [beq_eq_false_iff_ne, ne_eq] at h4
 refine br.of (fun h5 => ?_) (fun h5 => ?_) <;> (conv => whnf)
 ·simp only [beq_iff_eq] at h5
  refine ⟨by decide, .inl ?_⟩
  intro g H3 hle3 hrd
  (conv => whnf)
  exact ⟨done [(128, 159), any1] _ _ (by unfold behindP; rw [if_neg (by omega), if_neg (by omega), if_neg (by omega), if_neg (by omega), if_pos (by omega)]) ⟨_, _, rfl, lit _ _ _ (by decide) hrd⟩, rfl⟩
 simp only [beq_eq_false_iff_ne, ne_eq] at h5
 refine br.of (fun h6 => ?_) (fun h6 => ?_) <;> (conv => whnf)
 ·have h6 := of_decide_eq_true h6
  refine ⟨by decide, .inl ?_⟩
  intro g H3 hle3 hrd
  (conv => whnf)
  exact ⟨done [any1, any1] _ _ (by unfold behindP; rw [if_neg (by omega), if_neg (by omega), if_neg (by omega), if_neg (by omega), if_neg (by omega), if_pos (by omega)]) ⟨_, _, rfl, lit _ _ _ (by decide) hrd⟩, rfl⟩
 have h6 := of_decide_eq_false h6
 refine br.of (fun h7 => ?_) (fun h7 => ?_) <;> (conv => whnf)
 ·simp only [beq_iff_eq] at h7
  refine ⟨by decide, .inl ?_⟩
  intro g H3 hle3 hrd
  (conv => whnf)
  exact ⟨done [(144, 191), any1, any1] _ _ (by unfold behindP; rw [if_neg (by omega), if_neg (by omega), if_neg (by omega), if_neg (by omega), if_neg (by omega), if_neg (by omega), if_pos (by omega)]) ⟨_, _, rfl, lit _ _ _ (by decide) hrd⟩, rfl⟩
 simp only [beq_eq_false_iff_ne, ne_eq] at h7
 refine br.of (fun h8 => ?_) (fun h8 => ?_) <;> (conv => whnf)
 ·have h8 := of_decide_eq_true h8
  refine ⟨by decide, .inl ?_⟩
  intro g H3 hle3 hrd
  (conv => whnf)
  exact ⟨done [any1, any1, any1] _ _ (by unfold behindP; rw [if_neg (by omega), if_neg (by omega), if_neg (by omega), if_neg (by omega), if_neg (by omega), if_neg (by omega), if_neg (by omega), if_pos (by omega)]) ⟨_, _, rfl, lit _ _ _ (by decide) hrd⟩, rfl⟩
 have h8 := of_decide_eq_false h8
 refine br.of (fun h9 => ?_) (fun h9 => ?_) <;> (conv => whnf)
 ·simp only [beq_iff_eq] at h9
  refine ⟨by decide, .inl ?_⟩
  intro g H3 hle3 hrd
  (conv => whnf)
  exact ⟨done [(128, 143), any1, any1] _ _ (by unfold behindP; rw [if_neg (by omega), if_neg (by omega), if_neg (by omega), if_neg (by omega), if_neg (by omega), if_neg (by omega), if_neg (by omega), if_neg (by omega), if_pos (by omega)]) ⟨_, _, rfl, lit _ _ _ (by decide) hrd⟩, rfl⟩
 simp only [beq_eq_false_iff_ne, ne_eq] at h9
 have : behindP c = none := by unfold behindP; rw [if_neg (by omega), if_neg (by omega), if_neg (by omega), if_neg (by omega), if_neg (by omega), if_neg (by omega), if_neg (by omega), if_neg (by omega), if_neg (by omega)]
 rw [this]
 exact ⟨⟨_, _, _, rfl⟩, rfl⟩
theorem has_ (a b : Nat) (x : Int) (c : UInt8) (hx : x = (c.toNat : Int)) (H : Hp) : CallO Tryz.prog 352 [.si (.ag [.val (.int .u8 (a : Int)), .val (.int .u8 (b : Int))]), pv (.int .u8 x)] H [] fun e H' G' => H' = H ∧ e = .ret (pv (.bool (decide (a ≤ c.toNat) && decide (c.toNat ≤ b)))) ∧ G' = [] := by
 refine CallO.of_body tab Tryz.func352 rfl (nt := Tryz.f352.ntmps) rfl (by kernel_rfl) ?_
 (conv => whnf)
 refine br.of (fun h1 => ?_) (fun h1 => ?_) <;> (conv => whnf)
 ·have h1 := of_decide_eq_true h1
  rw [decide_eq_true (show a ≤ c.toNat by omega), Bool.true_and]
  refine ⟨rfl, ?_, rfl⟩
  show SE.ret (pv (.bool _)) = SE.ret (pv (.bool _))
  congr 3
  exact decide_eq_decide.2 (by omega)
 ·have h1 := of_decide_eq_false h1
  rw [decide_eq_false (show ¬ a ≤ c.toNat by omega), Bool.false_and]
  exact ⟨rfl, rfl, rfl⟩
end Go.Kx.Js
namespace Go.Kx.Js
open Go.Proofs Go.Kx Go.RowKit
set_option maxRecDepth 20000
theorem spCells_length (sp : Spans) : (spCells sp).length = sp.length * 2 := by
 induction sp with
 | nil => rfl
 | cons p r ih =>
  show (_ :: _ :: spCells r).length = _
  rw [List.length_cons, List.length_cons, ih, List.length_cons]; omega
theorem spCells_get {sp : Spans} {i : Nat} {p : Nat × Nat} (h : sp[i]? = some p) : ((spCells sp).drop (i * 2)).take 2 = [.int .u8 (p.1 : Int), .int .u8 (p.2 : Int)] := by
 induction sp generalizing i with
 | nil => simp at h
 | cons q r ih =>
  cases i with
  | zero => simp at h; subst h; rfl
  | succ i =>
   have := ih (i := i) (by simpa using h)
   rw [← this, show (i + 1) * 2 = i * 2 + 2 by omega]
   rfl
theorem RdV.addr2 {H : Hp} {B : Option Addr} {xs : List Value} (h : RdV H B xs) (hx : xs.length ≠ 0) : ∃ b o, B = some ⟨b, o, none⟩ := by
 cases B with
 | none => rw [h.1 rfl] at hx; exact absurd rfl hx
 | some a => obtain ⟨b, o, h1, _⟩ := h.2 a rfl; exact ⟨b, o, h1⟩
theorem RdV.cells2 {H : Hp} {B : Option Addr} {xs ys : List Value} {a m : Nat} (h : RdV H B xs) (hx : xs.length ≠ 0) (hc : (xs.drop a).take m = ys) {off : Nat} (ho : off = a) : RdN H B off ys := by
 cases B with
 | none => rw [h.1 rfl] at hx; exact absurd rfl hx
 | some q =>
  obtain ⟨b, o, h1, h2⟩ := h.2 q rfl
  refine ⟨b, o, h1, fun j x hj => ?_⟩
  have := h2 _ _ (cells_at hc rfl j x hj)
  rw [ho, ← this]
  congr 1; omega
theorem inSp_take {sp : Spans} {l : List UInt8} (hl : sp.length ≤ l.length) : inSp sp l = true ↔ ∀ (i : Nat) (p : Nat × Nat) (c : UInt8), sp[i]? = some p → l[i]? = some c → p.1 ≤ c.toNat ∧ c.toNat ≤ p.2 := by
 induction sp generalizing l with
 | nil => simp [inSp]
 | cons q r ih =>
  cases l with
  | nil => simp at hl
  | cons c l =>
   simp only [inSp, Bool.and_eq_true, decide_eq_true_eq]
   rw [ih (by simpa using hl)]
   constructor
   ·rintro ⟨h1, h2⟩ i p x hp hx
    cases i with
    | zero => simp at hp hx; subst hp hx; exact h1
    | succ i => exact h2 i p x (by simpa using hp) (by simpa using hx)
   ·intro h
    exact ⟨h 0 q c rfl rfl, fun i p x hp hx => h (i + 1) p x (by simpa using hp) (by simpa using hx)⟩
def strL (l : List UInt8) : ByteArray := ⟨l.toArray⟩
theorem strL_size (l : List UInt8) : (strL l).size = l.length := by show l.toArray.size = _; rw [List.size_toArray]
theorem byteAt_strL {l : List UInt8} {i : Nat} {c : UInt8} (h : l[i]? = some c) : byteAt (strL l) (i : Int) = (c.toNat : Int) := by
 unfold byteAt strL
 rw [Int.toNat_natCast, List.getD_eq_getElem?_getD]
 show (((l.toArray.toList)[i]?.getD 0).toNat : Int) = _
 rw [List.toList_toArray, h]; rfl
theorem behindP_len (c : UInt8) {sp : Spans} (h : behindP c.toNat = some sp) : sp.length ≤ 3 := by
 have h0 : ∀ n : Fin 256, (match behindP n.val with
  | some sp => decide (sp.length ≤ 3)
  | none => true) = true := by decide +kernel
 have := h0 ⟨c.toNat, c.toNat_lt⟩
 simp only [h, decide_eq_true_eq] at this
 exact this
theorem character_ (c : UInt8) (l : List UInt8) (hs : (c :: l).length ≤ 1000000) (H : Hp) : CallO Tryz.prog 324 [pv (.string (strL (c :: l)))] H [] fun e _ G' => e = .ret (pv (.int .i64 ((charP (c :: l) : Nat) : Int))) ∧ G' = [] := by
 have hsz := strL_size (c :: l)
 have hs2 := hs
 rw [List.length_cons] at hsz hs2
 refine CallO.of_body tab Tryz.func324 rfl (nt := Tryz.f324.ntmps) rfl (by kernel_rfl) ?_
 (conv => whnf)
 refine ⟨⟨by decide, by omega⟩, ?_⟩
 have hb := byteAt_strL (l := c :: l) (i := 0) (c := c) rfl
 generalize byteAt (strL (c :: l)) 0 = x at *
 (conv => whnf)
 refine ⟨⟨_, Tryz.func351, rfl, by kernel_rfl⟩, CallS.use (behind_ c.toNat c.toNat_lt x hb H) [] rfl rfl trivial ?_⟩
 rintro e H2 G' hle2 ⟨hrb, rfl⟩
 have hch : charP (c :: l) = match behindP c.toNat with
  | none => 0
  | some sp => if (c :: l).length ≤ sp.length then 0 else if inSp sp l then 1 + sp.length else 0 := rfl
 rw [hch]
 cases hbe : behindP c.toNat with
 | none =>
  rw [hbe] at hrb
  obtain ⟨A, n, cap, rfl⟩ := hrb
  (conv => whnf)
  exact ⟨rfl, rfl⟩
 | some sp =>
  rw [hbe] at hrb
  obtain ⟨A, cap, rfl, hrv⟩ := hrb
  have hspl : sp.length ≤ 3 := behindP_len c hbe
  (conv => whnf)
  refine br.of (fun h1 => ?_) (fun h1 => ?_) <;> (conv => whnf)
  ·have h1 := of_decide_eq_true h1
   show SE.ret _ = SE.ret (pv (.int .i64 ((if (c :: l).length ≤ sp.length then 0 else _ : Nat) : Int))) ∧ _
   rw [if_pos (by rw [List.length_cons]; omega)]
   exact ⟨rfl, rfl⟩
  ·have h1 := of_decide_eq_false h1
   have h1' : ¬ (c :: l).length ≤ sp.length := by rw [List.length_cons]; omega
   have hgo : ∀ (v : Int) (e : SE) (G' : List SB), v = ((if inSp sp l then 1 + sp.length else 0 : Nat) : Int) → e = .ret (pv (.int .i64 v)) → G' = [] → e = .ret (pv (.int .i64 (((match some sp with
     | none => 0
     | some sp => if (c :: l).length ≤ sp.length then 0 else if inSp sp l then 1 + sp.length else 0) : Nat) : Int))) ∧ G' = [] := by
    rintro v e G' hv rfl rfl
    show SE.ret _ = SE.ret (pv (.int .i64 ((if (c :: l).length ≤ sp.length then 0 else _ : Nat) : Int))) ∧ _
    rw [if_neg h1', ← hv]
    exact ⟨rfl, rfl⟩
   refine WS.loop (fun k F H3 G => ∃ i : Nat, i ≤ sp.length ∧ (∀ (j : Nat) (p : Nat × Nat) (x : UInt8), j < i → sp[j]? = some p → l[j]? = some x → p.1 ≤ x.toNat ∧ x.toNat ≤ p.2) ∧ k = sp.length - i ∧ F = [(0, pv (.string (strL (c :: l)))), (3, pv (.slice A sp.length cap)), (22, pv (.slice A sp.length cap)), (23, pv (.int .i64 sp.length)), (24, pv (.int .i64 i))] ∧ H2.Le H3 ∧ G = []) (sp.length + 1) ?_ ?_
   ·refine ⟨sp.length, by omega, _, _, [], ⟨0, by omega, fun j p x hj => absurd hj (by omega), rfl, rfl, .refl _, rfl⟩, ?_⟩
    exact ⟨rfl, trivial, rfl, rfl, rfl, rfl, rfl, trivial⟩
   rintro k F H3 G hle3 ⟨i, hi, hall, rfl, rfl, hle4, rfl⟩
   refine codeL.go tab ?_
   (conv => whnf)
   refine br.of (fun h2 => ?_) (fun h2 => ?_) <;> (conv => whnf)
   ·have h2 := of_decide_eq_true h2
    have hil : i < sp.length := by omega
    have hget : sp[i]? = some sp[i] := List.getElem?_eq_getElem hil
    generalize sp[i] = p at hget
    obtain ⟨a, b⟩ := p
    have hlen0 : (spCells sp).length ≠ 0 := by rw [spCells_length]; omega
    refine ⟨⟨by omega, by omega⟩, hrv.addr2 hlen0, ?_⟩
    (conv => whnf)
    refine ⟨_, rfl, (hrv.mono hle4).cells2 hlen0 (spCells_get hget) (by show (i : Int).toNat * 2 = _; omega), ?_⟩
    (conv => whnf)
    refine WS.draw tab mixed (.take 0 (.take 1 (.take 2 (.take 3 (.take 4 (.alt 5 (.take 6 .done) .no)))))) (by kernel_rfl) [] ?_
    (conv => whnf)
    have hw := wrap64 (x := (i : Int) + 1) (by omega) (by omega)
    rw [hw]
    refine ⟨⟨by omega, by omega⟩, ?_⟩
    have hx0 : (c :: l)[i + 1]? = some ((c :: l)[i + 1]'(by rw [List.length_cons]; omega)) := List.getElem?_eq_getElem _
    generalize ((c :: l)[i + 1]'(by rw [List.length_cons]; omega)) = x0 at hx0
    have hx1 : l[i]? = some x0 := by simpa using hx0
    have hby := byteAt_strL (l := c :: l) (i := i + 1) (c := x0) hx0
    rw [show ((i + 1 : Nat) : Int) = (i : Int) + 1 by omega] at hby
    generalize byteAt (strL (c :: l)) ((i : Int) + 1) = y at *
    (conv => whnf)
    repeat' (first
     | exact trivial
     | exact rfl
     | exact ⟨_, Tryz.func352, rfl, by kernel_rfl⟩
     | (refine CallS.use (has_ a b y x0 hby _) [] rfl rfl trivial ?_; rintro e H5 G' hle5 ⟨rfl, rfl, rfl⟩; (conv => whnf))
     | (refine And.intro ?_ ?_ <;> (conv => whnf)))
    rcases hin : (decide (a ≤ x0.toNat) && decide (x0.toNat ≤ b)) with _ | _ <;> (conv => whnf)
    ·refine hgo 0 _ [] ?_ rfl rfl
     rw [if_neg]
     ·rfl
     ·intro hh
      have := (inSp_take (by omega)).1 hh i (a, b) x0 hget hx1
      simp only [Bool.and_eq_false_iff, decide_eq_false_iff_not] at hin
      rcases hin with hin | hin
      ·exact hin this.1
      ·exact hin this.2
    ·rw [hw]
     simp only [Bool.and_eq_true, decide_eq_true_eq] at hin
     refine ⟨sp.length - (i + 1), by omega, _, _, [], ⟨i + 1, by omega, fun j p x hj hp hxx => ?_, rfl, rfl, hle4, rfl⟩, ?_⟩
     ·rcases Nat.lt_or_ge j i with hji | hji
      ·exact hall j p x hji hp hxx
      ·obtain rfl : j = i := by omega
       rw [hget] at hp
       rw [hx1] at hxx
       injection hp with hp
       injection hxx with hxx
       subst hp hxx
       exact hin
     ·exact ⟨rfl, trivial, rfl, rfl, rfl, rfl, rfl, trivial⟩
   ·have h2 := of_decide_eq_false h2
    refine hgo _ _ [] ?_ rfl rfl
    rw [wrap64 (by omega) (by omega), if_pos]
    ·omega
    ·refine (inSp_take (by omega)).2 fun j p x hp hx => hall j p x ?_ hp hx
     have := (List.getElem?_eq_some_iff.1 hp).1
     omega
theorem drop_pos {s : ByteArray} {l : List UInt8} (h : Sfx l (tL s)) {k : Nat} (hk : k ≤ l.length) : ((pos s l : Nat) : Int) + (k : Int) = ((pos s (l.drop k) : Nat) : Int) := by
 have := h.le
 unfold pos
 rw [List.length_drop]
 omega
theorem drop_sfx {l t : List UInt8} (h : Sfx l t) (k : Nat) : Sfx (l.drop k) t := Sfx.trans ⟨l.take k, (List.take_append_drop k l).symm⟩ h
theorem charP_le (l : List UInt8) : charP l ≤ l.length := by
 unfold charP
 split
 ·omega
 ·split
  ·omega
  ·split
   ·omega
   ·omega
theorem wrong_ (s : ByteArray) (hs : s.size ≤ 1000000) (H : Hp) : CallO Tryz.prog 281 [pv (.string s)] H [] fun e _ G' => e = .ret (pv (.int .i64 (wrongI s))) ∧ G' = [] := by
 have hsz := size_eq s
 refine CallO.of_body tab Tryz.func281 rfl (nt := Tryz.f281.ntmps) rfl (by kernel_rfl) ?_
 (conv => whnf)
 refine WS.loop (fun k F H3 G => ∃ (m : Nat) (r : List UInt8), Sfx r (tL s) ∧ r.length < m ∧ wrongP m r = wrongP ((tL s).length + 1) (tL s) ∧ k = r.length ∧ F = [(0, pv (.string s)), (3, pv (.int .i64 ((pos s r : Nat) : Int)))] ∧ H.Le H3 ∧ G = []) ((tL s).length + 1) ?_ ?_
 ·refine ⟨(tL s).length, by omega, _, _, [], ⟨(tL s).length + 1, tL s, .refl _, by omega, rfl, rfl, rfl, .refl _, rfl⟩, ?_⟩
  refine ⟨rfl, trivial, rfl, ?_, trivial⟩
  show pv _ = pv (.int .i64 ((pos s (tL s) : Nat) : Int))
  unfold pos
  rw [Nat.sub_self]; rfl
 rintro k F H3 G hle3 ⟨m, r, hr, hm, hw, rfl, rfl, hle4, rfl⟩
 refine codeL.go tab ?_
 (conv => whnf)
 have hpl := pos_le s r
 refine br.of (fun h2 => ?_) (fun h2 => ?_) <;> (conv => whnf)
 ·have h2 := of_decide_eq_true h2
  cases m with
  | zero => omega
  | succ m =>
  cases r with
  | nil => rw [pos_nil] at h2; omega
  | cons c l =>
   refine ⟨⟨by omega, by omega⟩, ?_⟩
   (conv => whnf)
   have hE : (s.extract (((pos s (c :: l) : Nat) : Int)).toNat s.size) = strL (c :: l) := by
    have := cut_eq hr (⟨c :: l, by simp⟩ : Sfx [] (c :: l))
    rw [pos_nil, Int.toNat_natCast s.size] at this
    rw [this]; simp [strL]
   rw [hE]
   have hlen := hr.le
   refine ⟨⟨_, Tryz.func324, rfl, by kernel_rfl⟩, CallS.use (character_ c l (by omega) H3) [] rfl rfl trivial ?_⟩
   rintro e H4 G' hle5 ⟨rfl, rfl⟩
   have hcl := charP_le (c :: l)
   generalize hcp : charP (c :: l) = n at *
   (conv => whnf)
   refine br.of (fun h5 => ?_) (fun h5 => ?_) <;> (conv => whnf)
   ·simp only [beq_iff_eq] at h5
    have hn0 : n = 0 := by omega
    refine ⟨?_, rfl⟩
    have : wrongP (m + 1) (c :: l) = some (c :: l) := by
     show (if charP (c :: l) = 0 then _ else _) = _
     rw [if_pos (by rw [hcp]; exact hn0)]
    unfold wrongI
    rw [← hw, this]; rfl
   ·simp only [beq_eq_false_iff_ne, ne_eq] at h5
    have hn0 : n ≠ 0 := by omega
    have hst : wrongP (m + 1) (c :: l) = wrongP m ((c :: l).drop n) := by
     show (if charP (c :: l) = 0 then _ else _) = _
     rw [if_neg (by rw [hcp]; exact hn0), hcp]
    rw [hst] at hw
    have hdp := drop_pos hr hcl
    have hpl2 := pos_le s ((c :: l).drop n)
    rw [wrap64 (x := ((pos s (c :: l) : Nat) : Int) + (n : Int)) (by omega) (by omega), hdp]
    have hlt : ((c :: l).drop n).length < (c :: l).length := by rw [List.length_drop]; omega
    refine ⟨((c :: l).drop n).length, hlt, _, _, [], ⟨m, (c :: l).drop n, drop_sfx hr n, by omega, hw, rfl, rfl, hle4.trans hle5, rfl⟩, ?_⟩
    exact ⟨rfl, trivial, rfl, rfl, trivial⟩
 ·have h2 := of_decide_eq_false h2
  have hr0 : r = [] := by
   cases r with
   | nil => rfl
   | cons c l => have := pos_lt hr; omega
  subst hr0
  have : wrongP m [] = none := by cases m <;> rfl
  refine ⟨?_, rfl⟩
  unfold wrongI
  rw [← hw, this]; rfl
end Go.Kx.Js
namespace Go.Kx.Pr
open Go.Proofs Go.Kx Go.RowKit Go.Kx.Js Go.Kx.Bu
mutual
def wrJ : J → List UInt8
 | .mk k y t js ms => if k = 1 then [110, 117, 108, 108] else if k = 2 then (if y then [116, 114, 117, 101] else [102, 97, 108, 115, 101]) else if k = 3 then t.data.toList else if k = 4 then quoteB t.data.toList else
  if k = 5 then [91] ++ wrJs true js ++ [93] else if k = 6 then [123] ++ wrMs true ms ++ [125] else []
def wrJs : Bool → List J → List UInt8
 | _, [] => []
 | first, j :: r => (if first then [] else [44]) ++ wrJ j ++ wrJs false r
def wrMs : Bool → List (ByteArray × J) → List UInt8
 | _, [] => []
 | first, (s, j) :: r => (if first then [] else [44]) ++ quoteB s.data.toList ++ [58] ++ wrJ j ++ wrMs false r
end
def toldP (t : ByteArray) : Bool := decide (wrongI t < 0)
def numericP (t : ByteArray) : Bool :=
 match numberP t.data.toList with
 | .ok v _ => strEq v t
 | .no _ _ => false
def bareJ (j : J) : Bool := (j.kind == 2 || !j.yes) && (j.kind == 3 || j.kind == 4 || strEq j.text ⟨#[]⟩) && (j.kind == 5 || j.list.length == 0) && (j.kind == 6 || j.mems.length == 0)
def noTwice (l : List ByteArray) : Bool := ((Lib.compact ((l.map fun s => s.data.toList).mergeSort fun x y => decide (x ≤ y))).length == l.length)
mutual
def rightJ : J → Bool
 | .mk k y t js ms => bareJ (.mk k y t js ms) && (if k = 1 then true else if k = 2 then true else if k = 3 then numericP t else if k = 4 then toldP t else if k = 5 then rightJs js else if k = 6 then rightMs ms && noTwice (ms.map (·.1)) else false)
def rightJs : List J → Bool
 | [] => true
 | j :: r => rightJ j && rightJs r
def rightMs : List (ByteArray × J) → Bool
 | [] => true
 | (s, j) :: r => toldP s && rightJ j && rightMs r
end
theorem wrJs_len {first : Bool} {js : List J} {i : Nat} {j : J} (h : js[i]? = some j) : (wrJ j).length ≤ (wrJs first js).length := by
 induction js generalizing first i with
 | nil => simp at h
 | cons a r ih =>
  unfold wrJs
  cases i with
  | zero => simp at h; subst h; simp only [List.length_append]; omega
  | succ i =>
   have := ih (first := false) (i := i) (by simpa using h)
   simp only [List.length_append]; omega
theorem wrJs_take {js : List J} {i : Nat} {j : J} (h : js[i]? = some j) : ∀ first, wrJs first (js.take (i + 1)) = wrJs first (js.take i) ++ ((if (first && Nat.beq i 0) then [] else [44]) ++ wrJ j) := by
 induction js generalizing i with
 | nil => simp at h
 | cons a r ih =>
  intro first
  cases i with
  | zero =>
   simp at h; subst h
   cases first <;> simp [wrJs]
  | succ i =>
   have := ih (i := i) (by simpa using h) false
   simp only [List.take_succ_cons, wrJs]
   rw [this]
   cases first <;> simp [List.append_assoc]
theorem wrMs_take {ms : List (ByteArray × J)} {i : Nat} {s : ByteArray} {j : J} (h : ms[i]? = some (s, j)) : ∀ first, wrMs first (ms.take (i + 1)) = wrMs first (ms.take i) ++ ((if (first && Nat.beq i 0) then [] else [44]) ++ quoteB s.data.toList ++ [58] ++ wrJ j) := by
 induction ms generalizing i with
 | nil => simp at h
 | cons a r ih =>
  intro first
  cases i with
  | zero =>
   simp at h; subst h
   cases first <;> simp [wrMs]
  | succ i =>
   have := ih (i := i) (by simpa using h) false
   simp only [List.take_succ_cons, wrMs]
   rw [this]
   cases first <;> simp [List.append_assoc]
theorem wrJs_pre (js : List J) (first : Bool) (i : Nat) : (wrJs first (js.take i)).length ≤ (wrJs first js).length := by
 induction js generalizing first i with
 | nil => simp
 | cons a r ih =>
  cases i with
  | zero => simp [wrJs]
  | succ i =>
   simp only [List.take_succ_cons, wrJs, List.length_append]
   have := ih false i
   omega
theorem wrMs_pre (ms : List (ByteArray × J)) (first : Bool) (i : Nat) : (wrMs first (ms.take i)).length ≤ (wrMs first ms).length := by
 induction ms generalizing first i with
 | nil => simp
 | cons a r ih =>
  cases i with
  | zero => simp [wrMs]
  | succ i =>
   simp only [List.take_succ_cons, wrMs, List.length_append]
   have := ih false i
   omega
theorem rightJs_get {js : List J} (h : rightJs js = true) {i : Nat} {j : J} (hi : js[i]? = some j) : rightJ j = true := by
 induction js generalizing i with
 | nil => simp at hi
 | cons a r ih =>
  simp only [rightJs, Bool.and_eq_true] at h
  cases i with
  | zero => simp at hi; subst hi; exact h.1
  | succ i => exact ih h.2 (i := i) (by simpa using hi)
theorem rightMs_get {ms : List (ByteArray × J)} (h : rightMs ms = true) {i : Nat} {s : ByteArray} {j : J} (hi : ms[i]? = some (s, j)) : rightJ j = true ∧ toldP s = true := by
 induction ms generalizing i with
 | nil => simp at hi
 | cons a r ih =>
  obtain ⟨s0, j0⟩ := a
  simp only [rightMs, Bool.and_eq_true] at h
  cases i with
  | zero => simp at hi; obtain ⟨rfl, rfl⟩ := hi; exact ⟨h.1.2, h.1.1⟩
  | succ i => exact ih h.2 (i := i) (by simpa using hi)
theorem quoteB_len (l : List UInt8) : l.length + 2 ≤ (quoteB l).length := by
 unfold quoteB
 have : l.length ≤ (l.flatMap escB).length := by
  induction l with
  | nil => simp
  | cons c r ih =>
   have h : 1 ≤ (escB c).length := by
    have h : ∀ n : Fin 256, 1 ≤ (escB (UInt8.ofNat n.val)).length := by decide +kernel
    have h1 := h ⟨c.toNat, c.toNat_lt⟩
    simpa using h1
   rw [List.flatMap_cons, List.length_append, List.length_cons]; omega
 simp only [List.length_append, List.length_cons, List.length_nil]; omega
end Go.Kx.Pr
namespace Go.Kx.Js
open Go.Proofs Go.Kx Go.RowKit
set_option maxRecDepth 20000
theorem enter_ (c : UInt8) (hc : c ≠ 0) (s : ByteArray) (l : List UInt8) (hl : Sfx l (tL s)) (hs : s.size ≤ 200000) (d o : Int) (ho : 0 ≤ o ∧ o ≤ 1000) (H : Hp) : CallO Tryz.prog 385 [me, pv (.int .u8 (c.toNat : Int))] H [rdB s l d o] fun e H' G' => H' = H ∧
  (o = d → e = .pan [{ v := faultV 32 (pos s l), recovered := false }] ∧ G' = [rdB s l d o]) ∧ (o ≠ d → Out s d (o + 1) RU (enterP c l) e H' G') := by
 refine CallO.of_body tab Tryz.func385 rfl (nt := Tryz.f385.ntmps) rfl (by kernel_rfl) ?_
 (conv => whnf)
 refine WS.draw tab mixed (.take 0 (.take 1 (.take 2 (.take 3 (.take 4 (.take 5 (.take 6 (.take 7 (.take 8 .done))))))))) (by kernel_rfl) [] ?_
 (conv => whnf)
 refine br.of (fun h1 => ?_) (fun h1 => ?_) <;> (conv => whnf)
 ·simp only [beq_iff_eq] at h1
  refine ⟨⟨_, Tryz.func359, rfl, by kernel_rfl⟩, CallS.use (fail_ 32 (pos s l : Nat) s l d o _) [0] rfl rfl ⟨rfl, trivial⟩ ?_⟩
  rintro e H2 G' hle2 ⟨rfl, rfl, rfl⟩
  (conv => whnf)
  exact ⟨rfl, fun _ => ⟨rfl, rfl⟩, fun h => absurd h1 h⟩
 ·simp only [beq_eq_false_iff_ne, ne_eq] at h1
  refine ⟨⟨_, Tryz.func383, rfl, by kernel_rfl⟩, CallS.use (must_ c hc s l hl (by omega) d o _) [0] rfl rfl ⟨rfl, trivial⟩ ?_⟩
  rintro e H' G' hle ⟨rfl, hout⟩
  unfold enterP
  cases hm : mustP c l with
  | no er r =>
   rw [hm] at hout
   obtain ⟨rfl, l2, o2, rfl⟩ := hout
   (conv => whnf)
   exact ⟨rfl, fun h => absurd h h1, fun _ => ⟨rfl, l2, o2, rfl⟩⟩
  | ok u l1 =>
   rw [hm] at hout
   obtain ⟨hl1, ⟨sv, rfl, rfl⟩, rfl⟩ := hout
   (conv => whnf)
   rw [wrap64 (x := o + 1) (by omega) (by omega)]
   refine ⟨⟨_, Tryz.func326, rfl, by kernel_rfl⟩, CallS.use (blank_ s l1 hl1 (by omega) d (o + 1) _) [0] rfl rfl ⟨rfl, trivial⟩ ?_⟩
   rintro e H2 G' hle2 ⟨rfl, rfl, rfl⟩
   (conv => whnf)
   exact ⟨rfl, fun h => absurd h h1, fun _ => ⟨(blankP_sfx l1).trans hl1, ⟨_, rfl, rfl⟩, rfl⟩⟩
abbrev agJ (k : Int) (y : Bool) (t : ByteArray) (A : Option Addr) (n c : Nat) (B : Option Addr) (m e : Nat) : SV := .si (.ag [.val (.int .i64 k), .val (.bool y), .val (.string t), .val (.slice A n c), .val (.slice B m e)])
theorem str_ (t : ByteArray) (H : Hp) : CallO Tryz.prog 58 [pv (.string t)] H [] fun e H' G' => H' = H ∧ e = .ret (agJ 4 false t none 0 0 none 0 0) ∧ G' = [] := by
 refine CallO.of_body tab Tryz.func58 rfl (nt := Tryz.f58.ntmps) rfl (by kernel_rfl) ?_
 (conv => whnf)
 exact ⟨rfl, rfl, rfl⟩
theorem bool_ (y : Bool) (H : Hp) : CallO Tryz.prog 60 [pv (.bool y)] H [] fun e H' G' => H' = H ∧ e = .ret (agJ 2 y ⟨#[]⟩ none 0 0 none 0 0) ∧ G' = [] := by
 refine CallO.of_body tab Tryz.func60 rfl (nt := Tryz.f60.ntmps) rfl (by kernel_rfl) ?_
 (conv => whnf)
 exact ⟨rfl, rfl, rfl⟩
end Go.Kx.Js
namespace Go.Kx.Js
open Go.Proofs Go.Kx Go.RowKit
set_option maxRecDepth 20000
def rowO (ms : Ms) (xs : List Value) : SB := .row 313 6 ms.length xs
theorem getP_none {ms : Ms} {s : ByteArray} (h : ∀ (i : Nat) (t : ByteArray) (j : J), (ms : List (ByteArray × J))[i]? = some (t, j) → t ≠ s) : getP ms s = none := by
 induction ms with
 | nil => rfl
 | cons x r ih =>
  obtain ⟨t, j⟩ := x
  show (if t = s then some j else getP r s) = none
  rw [if_neg (h 0 t j rfl)]
  exact ih fun i t j hi => h (i + 1) t j (by simpa using hi)
theorem getP_at {ms : List (ByteArray × J)} {s : ByteArray} {i : Nat} {j : J} (h0 : ∀ (k : Nat) (t : ByteArray) (j : J), k < i → ms[k]? = some (t, j) → t ≠ s) (h : ms[i]? = some (s, j)) : getP ms s = some j := by
 induction ms generalizing i with
 | nil => simp at h
 | cons x r ih =>
  obtain ⟨t, j'⟩ := x
  cases i with
  | zero =>
   simp at h
   obtain ⟨rfl, rfl⟩ := h
   exact if_pos rfl
  | succ i =>
   show (if t = s then some j' else getP r s) = _
   rw [if_neg (h0 0 t j' (by omega) rfl)]
   exact ih (i := i) (fun k t j hk hi => h0 (k + 1) t j (by omega) (by simpa using hi)) (by simpa using h)
theorem getOwn (ms : List (ByteArray × J)) (xs : List Value) (s : ByteArray) (hn : ms.length ≤ 1000000) (H : Hp) (hm : MsAt H ms xs) : CallO Tryz.prog 381 [.si (.ag [.val (.int .i64 6), .val (.bool false), .val (.string ⟨#[]⟩), .val (.slice none 0 0), .self 0]), pv (.string s)] H [rowO ms xs] fun e H' G' => H' = H ∧
  (∃ k y t A n c B m f, e = .ret (.tu [.ag [.val (.int .i64 k), .val (.bool y), .val (.string t), .val (.slice A n c), .val (.slice B m f)], .ce (.val (.bool (getP ms s).isSome))])) ∧ G' = [rowO ms xs] := by
 refine CallO.of_body tab Tryz.func381 rfl (nt := Tryz.f381.ntmps) rfl (by kernel_rfl) ?_
 (conv => whnf)
 refine WS.loop (fun k F H2 G => ∃ i : Nat, i ≤ ms.length ∧ (∀ (k : Nat) (t : ByteArray) (j : J), k < i → ms[k]? = some (t, j) → t ≠ s) ∧ k = ms.length - i ∧ F = [(1, pv (.string s)), (4, .si (.ce (.ptr 2 0))), (13, .si (.ce (.self 0))), (14, pv (.int .i64 ms.length)), (15, pv (.int .i64 i))] ∧ H2 = H ∧ G = [rowO ms xs, .dead, .box 114 [.val (.int .i64 0), .val (.bool false), .val (.string ⟨#[]⟩), .val (.slice none 0 0), .val (.slice none 0 0)]]) (ms.length + 1) ?_ ?_
 ·refine ⟨ms.length, by omega, _, _, [0, 1, 2], ⟨0, by omega, fun k t j hk => absurd hk (by omega), rfl, rfl, rfl, rfl⟩, ?_⟩
  exact ⟨rfl, ⟨rfl, trivial, rfl, trivial⟩, rfl, rfl, rfl, rfl, rfl, trivial⟩
 rintro k F H2 G hle ⟨i, hi, hne, rfl, rfl, rfl, rfl⟩
 refine codeL.go tab ?_
 (conv => whnf)
 refine br.of (fun h1 => ?_) (fun h1 => ?_) <;> (conv => whnf)
 ·have h1 := of_decide_eq_true h1
  refine ⟨⟨by omega, by omega⟩, ?_⟩
  (conv => whnf)
  have hil : i < ms.length := by omega
  have hget : ms[i]? = some ms[i] := List.getElem?_eq_getElem hil
  generalize ms[i] = tj at hget
  obtain ⟨t, j⟩ := tj
  obtain ⟨cs, hj, hcs⟩ := hm.get hget
  obtain ⟨A, n, c, B, m, d, rfl⟩ := hj.cells
  refine ⟨_, rfl, cells_at hcs (by show (i : Int).toNat * 6 = _; omega), ?_⟩
  (conv => whnf)
  refine br.of (fun h2 => ?_) (fun h2 => ?_) <;> (conv => whnf)
  ·obtain rfl := strEq_iff.1 h2
   rw [getP_at hne hget]
   exact ⟨rfl, ⟨_, _, _, _, _, _, _, _, _, rfl⟩, rfl⟩
  ·have h2 := strEq_false.1 h2
   rw [wrap64 (x := (i : Int) + 1) (by omega) (by omega)]
   refine ⟨ms.length - (i + 1), by omega, _, _, [0, 1, 2], ⟨i + 1, by omega, fun k t' j' hk hkt => ?_, rfl, rfl, rfl, rfl⟩, ?_⟩
   ·rcases Nat.lt_or_ge k i with hki | hki
    ·exact hne k t' j' hki hkt
    ·obtain rfl : k = i := by omega
     rw [hget] at hkt
     injection hkt with hkt
     injection hkt with h3 h4
     subst h3; exact h2
   ·exact ⟨rfl, ⟨rfl, trivial, rfl, trivial⟩, rfl, rfl, rfl, rfl, rfl, trivial⟩
 ·have h1 := of_decide_eq_false h1
  rw [getP_none fun k t j hk => hne k t j (by have := (List.getElem?_eq_some_iff.1 hk).1; omega) hk]
  exact ⟨rfl, ⟨_, _, _, _, _, _, _, _, _, rfl⟩, rfl⟩
theorem RdV.addr {H : Hp} {B : Option Addr} {xs : List Value} (h : RdV H B xs) (hx : xs ≠ []) : ∃ b o, B = some ⟨b, o, none⟩ := by
 cases B with
 | none => exact absurd (h.1 rfl) hx
 | some a => obtain ⟨b, o, h1, _⟩ := h.2 a rfl; exact ⟨b, o, h1⟩
theorem RdV.cells {H : Hp} {B : Option Addr} {xs ys : List Value} {a m : Nat} (h : RdV H B xs) (hx : xs ≠ []) (hc : (xs.drop a).take m = ys) {off : Nat} (ho : off = a) : RdN H B off ys := by
 cases B with
 | none => exact absurd (h.1 rfl) hx
 | some q =>
  obtain ⟨b, o, h1, h2⟩ := h.2 q rfl
  refine ⟨b, o, h1, fun j x hj => ?_⟩
  have := h2 _ _ (cells_at hc rfl j x hj)
  rw [ho]
  rw [← this]
  congr 1; omega
def RG (o : Option J) (e : SE) (H' : Hp) : Prop :=
 match o with
 | some j => ∃ k y t A n c B m d, e = .ret (.tu [.ag [.val (.int .i64 k), .val (.bool y), .val (.string t), .val (.slice A n c), .val (.slice B m d)], .ce (.val (.bool true))]) ∧ JAt H' j [.int .i64 k, .bool y, .string t, .slice A n c, .slice B m d]
 | none => e = .ret (.tu [.ag [.val (.int .i64 0), .val (.bool false), .val (.string ⟨#[]⟩), .val (.slice none 0 0), .val (.slice none 0 0)], .ce (.val (.bool false))])
def J.get (j : J) (s : ByteArray) : Option J := if j.kind = 6 then getP j.mems s else none
theorem get_ (j : J) (k : Int) (y : Bool) (t : ByteArray) (A : Option Addr) (n c : Nat) (B : Option Addr) (m d : Nat) (s : ByteArray) (H : Hp) (hj : JAt H j [.int .i64 k, .bool y, .string t, .slice A n c, .slice B m d]) (hn : j.mems.length ≤ 1000000) :
  CallO Tryz.prog 381 [agJ k y t A n c B m d, pv (.string s)] H [] fun e H' G' => H' = H ∧ RG (j.get s) e H' ∧ G' = [] := by
 cases hj with
 | mk h1 h2 h3 h4 h5 h6 =>
 rename_i js ms xs zs
 change ms.length ≤ 1000000 at hn
 refine CallO.of_body tab Tryz.func381 rfl (nt := Tryz.f381.ntmps) rfl (by kernel_rfl) ?_
 (conv => whnf)
 unfold J.get
 refine br.of (fun h7 => ?_) (fun h7 => ?_) <;> (conv => whnf)
 ·simp only [bne_iff_ne, ne_eq] at h7
  refine ⟨rfl, ?_, rfl⟩
  show RG (if k = 6 then _ else _) _ _
  rw [if_neg h7]; rfl
 ·simp only [bne_eq_false_iff_eq] at h7
  have hgo : ∀ (e : SE) (H' : Hp) (G' : List SB), RG (getP ms s) e H' → RG (if (J.mk k y t js ms).kind = 6 then getP (J.mk k y t js ms).mems s else none) e H' := fun e H' G' h => by
   show RG (if k = 6 then getP ms s else none) e H'
   rw [if_pos h7]; exact h
  subst h4
  refine WS.loop (fun k' F H2 G => ∃ i : Nat, i ≤ ms.length ∧ (∀ (k : Nat) (t : ByteArray) (j : J), k < i → ms[k]? = some (t, j) → t ≠ s) ∧ k' = ms.length - i ∧ F = [(1, pv (.string s)), (4, .si (.ce (.ptr 1 0))), (13, pv (.slice B ms.length d)), (14, pv (.int .i64 ms.length)), (15, pv (.int .i64 i))] ∧ H2 = H ∧ G = [.dead, .box 114 [.val (.int .i64 0), .val (.bool false), .val (.string ⟨#[]⟩), .val (.slice none 0 0), .val (.slice none 0 0)]]) (ms.length + 1) ?_ ?_
  ·refine ⟨ms.length, by omega, _, _, [0, 1], ⟨0, by omega, fun k t j hk => absurd hk (by omega), rfl, rfl, rfl, rfl⟩, ?_⟩
   exact ⟨rfl, ⟨trivial, rfl, trivial⟩, rfl, rfl, rfl, rfl, rfl, trivial⟩
  rintro k' F H2 G hle ⟨i, hi, hne, rfl, rfl, rfl, rfl⟩
  refine codeL.go tab ?_
  (conv => whnf)
  refine br.of (fun h1 => ?_) (fun h1 => ?_) <;> (conv => whnf)
  ·have h1 := of_decide_eq_true h1
   have hil : i < ms.length := by omega
   have hget : ms[i]? = some ms[i] := List.getElem?_eq_getElem hil
   generalize ms[i] = tj at hget
   obtain ⟨t', j⟩ := tj
   obtain ⟨cs, hj, hcs⟩ := h5.get hget
   obtain ⟨A2, n2, c2, B2, m2, d2, rfl⟩ := hj.cells
   have hne0 : zs ≠ [] := fun h0 => by have := h5.length; rw [h0] at this; simp at this; omega
   refine ⟨⟨by omega, by omega⟩, h6.addr hne0, ?_⟩
   (conv => whnf)
   refine ⟨_, rfl, h6.cells hne0 hcs (by show (i : Int).toNat * 6 = _; omega), ?_⟩
   (conv => whnf)
   refine br.of (fun h2 => ?_) (fun h2 => ?_) <;> (conv => whnf)
   ·obtain rfl := strEq_iff.1 h2
    refine ⟨rfl, hgo _ _ [] ?_, rfl⟩
    rw [getP_at hne hget]
    exact ⟨_, _, _, _, _, _, _, _, _, rfl, hj⟩
   ·have h2 := strEq_false.1 h2
    rw [wrap64 (x := (i : Int) + 1) (by omega) (by omega)]
    refine ⟨ms.length - (i + 1), by omega, _, _, [0, 1], ⟨i + 1, by omega, fun k t' j' hk hkt => ?_, rfl, rfl, rfl, rfl⟩, ?_⟩
    ·rcases Nat.lt_or_ge k i with hki | hki
     ·exact hne k t' j' hki hkt
     ·obtain rfl : k = i := by omega
      rw [hget] at hkt
      injection hkt with hkt
      injection hkt with h3 h4
      subst h3; exact h2
    ·exact ⟨rfl, ⟨trivial, rfl, trivial⟩, rfl, rfl, rfl, rfl, rfl, trivial⟩
  ·have h1 := of_decide_eq_false h1
   refine ⟨rfl, hgo _ _ [] ?_, rfl⟩
   rw [getP_none fun k t j hk => hne k t j (by have := (List.getElem?_eq_some_iff.1 hk).1; omega) hk]
   exact rfl
end Go.Kx.Js
