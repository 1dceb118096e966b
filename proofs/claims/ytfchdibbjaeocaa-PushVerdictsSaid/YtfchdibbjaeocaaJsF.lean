/- Values as texts: a character of a number, out of a reader. No condition of its own. -/
import Derived.Test.YtfchdibbjaeocaaJsE
namespace Go.Kx.Js
open Go.Proofs Go.Kx Go.RowKit
set_option maxRecDepth 20000
theorem hasPrefix_ (s p : ByteArray) (hp : p.size ≤ 100) (H : Hp) : CallO Try.prog 55 [pv (.string s), pv (.string p)] H [] fun e H' G' => H' = H ∧ e = .ret (pv (.bool (decide ((p.size : Int) ≤ (s.size : Int)) && strEq (s.extract 0 p.size) p))) ∧ G' = [] := by
  refine CallO.of_body tab Try.func55 rfl (nt := Try.f55.ntmps) rfl (by kernel_rfl) ?_
  (conv => whnf)
  refine ⟨⟨_, Try.func56, rfl, by kernel_rfl⟩, CallS.use (hasPrefixL s p hp H) [] rfl rfl trivial ?_⟩
  rintro e H' G' hle ⟨rfl, rfl, rfl⟩
  (conv => whnf)
  exact ⟨rfl, rfl, rfl⟩
def signU : ByteArray := ⟨#[92, 117]⟩
def hasU : List UInt8 → Bool
  | c :: d :: _ => c == 92 && d == 117
  | _ => false
theorem hasU_eq {s : ByteArray} {l : List UInt8} (hl : Sfx l (tL s)) : (decide ((signU.size : Int) ≤ ((s.extract (((pos s l : Nat) : Int)).toNat s.size).size : Int)) && strEq ((s.extract (((pos s l : Nat) : Int)).toNat s.size).extract 0 signU.size) signU) = hasU l := by
  have hE : (s.extract (((pos s l : Nat) : Int)).toNat s.size) = ⟨l.toArray⟩ := by
    have := cut_eq hl (⟨l, by simp⟩ : Sfx [] l)
    rw [pos_nil, Int.toNat_natCast s.size] at this
    rw [this]; simp
  rw [hE]
  have h2 : ((⟨l.toArray⟩ : ByteArray).extract 0 signU.size) = ⟨(l.take 2).toArray⟩ := by
    apply ByteArray.ext
    apply Array.ext'
    rw [ByteArray.data_extract, Array.toList_extract, List.extract_eq_take_drop]
    rfl
  rw [h2]
  have h3 : ((⟨l.toArray⟩ : ByteArray).size : Int) = l.length := by show ((l.toArray.size : Nat) : Int) = _; rw [List.size_toArray]
  rw [h3]
  have h4 : ((signU.size : Nat) : Int) = 2 := rfl
  rw [h4]
  unfold strEq
  show (decide ((2 : Int) ≤ (l.length : Int)) && eqB (l.take 2) [92, 117]) = hasU l
  match l with
  | [] => rfl
  | [c] => rfl
  | c :: d :: r =>
    have : decide ((2 : Int) ≤ ((c :: d :: r).length : Int)) = true := decide_eq_true (by rw [List.length_cons, List.length_cons]; omega)
    rw [this, eqB_iff]
    show (true && ([c, d] == [92, 117])) = (c == 92 && d == 117)
    simp only [Bool.true_and, List.cons_beq_cons, BEq.rfl, Bool.and_true]
theorem hasU_no {l : List UInt8} (h : hasU l = false) : behindU l = none := by
  unfold behindU
  match l with
  | [] => rfl
  | [c] =>
    by_cases hc : c = 92
    · rw [show tk 92 [c] = some [] from if_pos hc]; rfl
    · rw [show tk 92 [c] = none from if_neg hc]
  | c :: d :: r =>
    by_cases hc : c = 92
    · rw [show tk 92 (c :: d :: r) = some (d :: r) from if_pos hc]
      by_cases hd : d = 117
      · simp [hasU, hc, hd] at h
      · exact if_neg hd
    · rw [show tk 92 (c :: d :: r) = none from if_neg hc]
theorem hasU_yes {l : List UInt8} (h : hasU l = true) : l = 92 :: 117 :: l.tail.tail := by
  match l with
  | [] => cases h
  | [c] => cases h
  | c :: d :: r =>
    simp only [hasU, Bool.and_eq_true, beq_iff_eq] at h
    rw [h.1, h.2]; rfl
theorem unit_ (s : ByteArray) (fr l : List UInt8) (hl : Sfx l (tL s)) (hs : s.size ≤ 1000000) (d o : Int) (H : Hp) : CallO Try.prog 52 [me, pv (.int .i64 ((pos s fr : Nat) : Int))] H [rdB s l d o] fun e H' G' => H' = H ∧ Out s d o (fun (_ : Hp) (n : Nat) (sv : SV) => n < 1114112 ∧ (n < 55296 ∨ 57344 ≤ n) ∧ sv = pv (.int .i32 (n : Int))) (unitP fr l) e H' G' := by
  refine CallO.of_body tab Try.func52 rfl (nt := Try.f52.ntmps) rfl (by kernel_rfl) ?_
  (conv => whnf)
  refine ⟨⟨_, Try.func54, rfl, by kernel_rfl⟩, CallS.use (hex_ s l hl hs d o _) [0] rfl rfl ⟨rfl, trivial⟩ ?_⟩
  rintro e H' G' hle ⟨rfl, hout⟩
  unfold unitP
  cases hx : hexP 4 0 l with
  | no er r =>
    rw [hx] at hout
    obtain ⟨rfl, l2, o2, rfl⟩ := hout
    (conv => whnf)
    exact ⟨rfl, rfl, l2, o2, rfl⟩
  | ok a l1 =>
    rw [hx] at hout
    obtain ⟨hl1, ⟨sv, rfl, ha, rfl⟩, rfl⟩ := hout
    generalize hax : ((a : Nat) : Int) = x
    (conv => whnf)
    refine br.of (fun h1 => ?_) (fun h1 => ?_) <;> (conv => whnf)
    · have h1 := of_decide_eq_true h1
      refine ⟨rfl, ?_⟩
      show Out s d o _ (if a < 55296 ∨ 57344 ≤ a then _ else _) _ _ _
      rw [if_pos (by omega)]
      exact ⟨hl1, ⟨_, rfl, by omega, by omega, by rw [hax]; rfl⟩, rfl⟩
    · have h1 := of_decide_eq_false h1
      refine br.of (fun h2 => ?_) (fun h2 => ?_) <;> (conv => whnf)
      · have h2 := of_decide_eq_true h2
        refine ⟨rfl, ?_⟩
        show Out s d o _ (if a < 55296 ∨ 57344 ≤ a then _ else _) _ _ _
        rw [if_pos (by omega)]
        exact ⟨hl1, ⟨_, rfl, by omega, by omega, by rw [hax]; rfl⟩, rfl⟩
      · have h2 := of_decide_eq_false h2
        have hn1 : ¬ (a < 55296 ∨ 57344 ≤ a) := by omega
        refine br.of (fun h3 => ?_) (fun h3 => ?_) <;> (conv => whnf)
        · have h3 := of_decide_eq_true h3
          refine ⟨⟨_, Try.func37, rfl, by kernel_rfl⟩, CallS.use (fail_ 31 (pos s fr : Nat) s l1 d o _) [0] rfl rfl ⟨rfl, trivial⟩ ?_⟩
          rintro e H2 G' hle2 ⟨rfl, rfl, rfl⟩
          (conv => whnf)
          refine ⟨rfl, ?_⟩
          show Out s d o _ (if a < 55296 ∨ 57344 ≤ a then _ else _) _ _ _
          rw [if_neg hn1, if_pos (by omega)]
          exact ⟨rfl, l1, o, rfl⟩
        · have h3 := of_decide_eq_false h3
          have hn2 : ¬ 56320 ≤ a := by omega
          refine WS.draw tab mixed (.take 0 (.take 1 (.take 2 (.take 3 (.take 4 (.take 5 (.take 6 (.take 7 (.take 8 (.alt 9 (.take 10 .done) .no)))))))))) (by kernel_rfl) [] ?_
          (conv => whnf)
          refine ⟨⟨by omega, by have := pos_le s l1; omega⟩, ?_⟩
          (conv => whnf)
          repeat' (first
            | exact trivial
            | exact ⟨_, Try.func55, rfl, by kernel_rfl⟩
            | (refine CallS.use (hasPrefix_ _ signU (by decide) _) [] rfl rfl trivial ?_; rintro e H2 G' hle2 ⟨rfl, rfl, rfl⟩; rw [hasU_eq hl1]; (conv => whnf))
            | (refine And.intro ?_ ?_ <;> (conv => whnf)))
          cases hU : hasU l1 <;> (conv => whnf)
          · refine ⟨⟨_, Try.func37, rfl, by kernel_rfl⟩, CallS.use (fail_ 31 (pos s fr : Nat) s l1 d o _) [0] rfl rfl ⟨rfl, trivial⟩ ?_⟩
            rintro e H2 G' hle2 ⟨rfl, rfl, rfl⟩
            (conv => whnf)
            refine ⟨rfl, ?_⟩
            show Out s d o _ (if a < 55296 ∨ 57344 ≤ a then _ else _) _ _ _
            rw [if_neg hn1, if_neg hn2, hasU_no hU]
            exact ⟨rfl, l1, o, rfl⟩
          · have hl1e := hasU_yes hU
            generalize l1.tail.tail = l3 at hl1e
            subst hl1e
            have hl3 : Sfx l3 (tL s) := hl1.tail.tail
            have hp2 : ((pos s (92 :: 117 :: l3) : Nat) : Int) + 2 = ((pos s l3 : Nat) : Int) := by
              have := pos_int hl1; have := pos_int hl1.tail; omega
            have hq := pos_lt hl1
            rw [wrap64 (x := ((pos s (92 :: 117 :: l3) : Nat) : Int) + 2) (by omega) (by omega), hp2]
            have hst : SB.box 49 [.val (.string s), .val (.int .i64 ((pos s l3 : Nat) : Int)), .val (.int .i64 d), .val (.int .i64 o)] = rdB s l3 d o := rfl
            refine ⟨⟨_, Try.func54, rfl, by kernel_rfl⟩, CallS.use (hex_ s l3 hl3 hs d o _) [0] rfl rfl ⟨rfl, trivial⟩ ?_⟩
            rintro e H2 G' hle2 ⟨rfl, hout⟩
            have hun : ∀ r : Res Nat, (if a < 55296 ∨ 57344 ≤ a then (Res.ok a (92 :: 117 :: l3)) else if 56320 ≤ a then (Res.no 31 fr) else r) = r := fun r => by rw [if_neg hn1, if_neg hn2]
            cases hx2 : hexP 4 0 l3 with
            | no er r =>
              rw [hx2] at hout
              obtain ⟨rfl, l2, o2, rfl⟩ := hout
              (conv => whnf)
              refine ⟨rfl, ?_⟩
              show Out s d o _ (if a < 55296 ∨ 57344 ≤ a then _ else _) _ _ _
              rw [if_neg hn1, if_neg hn2]
              show Out s d o _ ((hexP 4 0 l3).bind _) _ _ _
              rw [hx2]
              exact ⟨rfl, l2, o2, rfl⟩
            | ok b l4 =>
              rw [hx2] at hout
              obtain ⟨hl4, ⟨sv, rfl, hb, rfl⟩, rfl⟩ := hout
              generalize hby : ((b : Nat) : Int) = y
              (conv => whnf)
              have hfail : ∀ (x' : SE) (G' : List SB), (b < 56320 ∨ 57344 ≤ b) → x' = .pan [{ v := faultV 31 (pos s fr), recovered := false }] → G' = [rdB s l4 d o] → Out s d o (fun (_ : Hp) (n : Nat) (sv : SV) => n < 1114112 ∧ (n < 55296 ∨ 57344 ≤ n) ∧ sv = pv (.int .i32 (n : Int))) (if a < 55296 ∨ 57344 ≤ a then (Res.ok a (92 :: 117 :: l3)) else if 56320 ≤ a then (Res.no 31 fr) else ((hexP 4 0 l3).bind fun b l4 => if b < 56320 ∨ 57344 ≤ b then .no 31 fr else .ok (65536 + (a - 55296) * 1024 + (b - 56320)) l4)) x' H2 G' := by
                rintro _ _ hbb rfl rfl
                rw [hun, hx2]
                show Out s d o _ (if b < 56320 ∨ 57344 ≤ b then _ else _) _ _ _
                rw [if_pos hbb]
                exact ⟨rfl, l4, o, rfl⟩
              refine br.of (fun h4 => ?_) (fun h4 => ?_) <;> (conv => whnf)
              · have h4 := of_decide_eq_true h4
                refine ⟨⟨_, Try.func37, rfl, by kernel_rfl⟩, CallS.use (fail_ 31 (pos s fr : Nat) s l4 d o _) [0] rfl rfl ⟨rfl, trivial⟩ ?_⟩
                rintro e H2 G' hle2 ⟨rfl, rfl, rfl⟩
                (conv => whnf)
                exact ⟨rfl, hfail _ _ (by omega) rfl rfl⟩
              · have h4 := of_decide_eq_false h4
                refine br.of (fun h5 => ?_) (fun h5 => ?_) <;> (conv => whnf)
                · have h5 := of_decide_eq_true h5
                  refine ⟨⟨_, Try.func37, rfl, by kernel_rfl⟩, CallS.use (fail_ 31 (pos s fr : Nat) s l4 d o _) [0] rfl rfl ⟨rfl, trivial⟩ ?_⟩
                  rintro e H2 G' hle2 ⟨rfl, rfl, rfl⟩
                  (conv => whnf)
                  exact ⟨rfl, hfail _ _ (by omega) rfl rfl⟩
                · have h5 := of_decide_eq_false h5
                  refine ⟨by decide, ?_⟩
                  (conv => whnf)
                  refine ⟨rfl, ?_⟩
                  show Out s d o _ (if a < 55296 ∨ 57344 ≤ a then _ else _) _ _ _
                  rw [if_neg hn1, if_neg hn2]
                  show Out s d o _ ((hexP 4 0 l3).bind _) _ _ _
                  rw [hx2]
                  show Out s d o _ (if b < 56320 ∨ 57344 ≤ b then _ else _) _ _ _
                  rw [if_neg (by omega)]
                  refine ⟨hl4, ⟨_, rfl, by omega, by omega, ?_⟩, rfl⟩
                  have e10 : (2 : Int) ^ min (Int.toNat 10) IntKind.i32.bits = 1024 := by decide
                  rw [wrap32 (x := x - 55296) (by omega) (by omega), e10, wrap32 (x := (x - 55296) * 1024) (by omega) (by omega), wrap32 (x := y - 56320) (by omega) (by omega), wrap32 (x := 65536 + (x - 55296) * 1024) (by omega) (by omega), wrap32 (by omega) (by omega)]
                  have e : 65536 + (x - 55296) * 1024 + (y - 56320) = ((65536 + (a - 55296) * 1024 + (b - 56320) : Nat) : Int) := by omega
                  rw [e]; rfl
end Go.Kx.Js
