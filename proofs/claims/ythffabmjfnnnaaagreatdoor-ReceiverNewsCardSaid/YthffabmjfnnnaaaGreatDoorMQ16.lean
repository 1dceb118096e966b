/- A receiver: what is thrown; a text that is looked at. No condition of its own. -/
import Derived.Test.YthffabmjfnnnaaaGreatDoorMQ15
import Derived.Test.YthffabmjfnnnaaaGreatDoorProg
namespace Go.Kx.Re
open Go.Proofs Go.Kx Go.RowKit Go.Kx.Js Go.Kx.Pr Go.Kx.Rt Go.Kx.Ob Go.Kx.Wo Go.Kx.Cl Go.Kx.Pa Go.Kx.Su Go.Kx.Se Go.Kx.Jw Go.Kx.L13
set_option maxRecDepth 20000
set_option linter.unusedSimpArgs false
def T : Tab := [(9, { k := TK.string, agg := false, size := 1, bytes := 16, zero := [Z.s] }), (28, { k := TK.st [(0, 9, 1), (1, 9, 1), (2, 9, 1), (3, 3, 1), (4, 9, 1), (5, 26, 3), (8, 3, 1), (9, 9, 1)], agg := true, size := 10, bytes := 144, zero := [Z.s, Z.s, Z.s, Z.i IntKind.i64, Z.s, Z.s, Z.s, Z.s, Z.i IntKind.i64, Z.s] }), (67, { k := TK.st [(0, 65, 2), (2, 32, 1), (3, 9, 1), (4, 32, 1)], agg := true, size := 5, bytes := 96, zero := [Z.s, Z.s, Z.sl, Z.s, Z.sl] }), (65, { k := TK.st [(0, 9, 1), (1, 9, 1)], agg := true, size := 2, bytes := 32, zero := [Z.s, Z.s] }), (83, { k := TK.st [(0, 9, 1), (1, 9, 1), (2, 80, 1), (3, 36, 1), (4, 81, 1)], agg := true, size := 5, bytes := 72, zero := [Z.s, Z.s, Z.m, Z.sl, Z.m] }), (123, { k := TK.st [(0, 9, 1)], agg := true, size := 1, bytes := 16, zero := [Z.s] }), (80, { k := TK.map 9 32, agg := false, size := 1, bytes := 8, zero := [Z.m] }), (81, { k := TK.map 9 4, agg := false, size := 1, bytes := 8, zero := [Z.m] }), (32, { k := TK.slice 5, agg := false, size := 1, bytes := 24, zero := [Z.sl] }), (5, { k := TK.int IntKind.u8, agg := false, size := 1, bytes := 1, zero := [Z.i IntKind.u8] }), (40, { k := TK.int IntKind.i64, agg := false, size := 1, bytes := 8, zero := [Z.i IntKind.i64] }), (23, { k := TK.ptr 83, agg := false, size := 1, bytes := 8, zero := [Z.p] }), (63, { k := TK.func, agg := false, size := 1, bytes := 8, zero := [Z.fn] }), (1, { k := TK.func, agg := false, size := 1, bytes := 8, zero := [Z.fn] }), (4, { k := TK.bool, agg := false, size := 1, bytes := 1, zero := [Z.b] }), (3, { k := TK.int IntKind.i64, agg := false, size := 1, bytes := 8, zero := [Z.i IntKind.i64] }), (20, { k := TK.ifc, agg := false, size := 1, bytes := 16, zero := [Z.ifc] }), (26, { k := TK.st [(0, 9, 1), (1, 9, 1), (2, 9, 1)], agg := true, size := 3, bytes := 48, zero := [Z.s, Z.s, Z.s] }), (36, { k := TK.slice 28, agg := false, size := 1, bytes := 24, zero := [Z.sl] })]
set_option maxRecDepth 100000 in
theorem tab : TabOk Tryz.prog T := tabOk_mk (ts := [9, 28, 67, 65, 83, 123, 80, 81, 32, 5, 40, 23, 63, 1, 4, 3, 20, 26, 36]) (by kernel_rfl)
theorem mixed : Tryz.prog.follows .mixedOrders = true := by kernel_rfl
def sReq : ByteArray := (⟨#[105, 110, 118, 97, 108, 105, 100, 95, 114, 101, 113, 117, 101, 115, 116]⟩ : ByteArray)
def sKey : ByteArray := (⟨#[105, 110, 118, 97, 108, 105, 100, 95, 107, 101, 121]⟩ : ByteArray)
def sFail : ByteArray := (⟨#[97, 117, 116, 104, 101, 110, 116, 105, 99, 97, 116, 105, 111, 110, 95, 102, 97, 105, 108, 101, 100]⟩ : ByteArray)
def sIssr : ByteArray := (⟨#[105, 110, 118, 97, 108, 105, 100, 95, 105, 115, 115, 117, 101, 114]⟩ : ByteArray)
def sAudc : ByteArray := (⟨#[105, 110, 118, 97, 108, 105, 100, 95, 97, 117, 100, 105, 101, 110, 99, 101]⟩ : ByteArray)
theorem word_ (s : ByteArray) (H : Hp) : CallO Tryz.prog 36 [pv (.string s)] H [] fun e _ G' => e = .ret (pv (.bool (wordP 256 s))) ∧ G' = [] := by
 unfold Wo.wordP
 refine CallO.of_body tab Tryz.func36 rfl (nt := Tryz.f36.ntmps) rfl (by kernel_rfl) ?_
 (conv => whnf)
 refine br.of (fun h1 => ?_) (fun h1 => ?_) <;> (conv => whnf)
 ·rw [h1, Bool.true_and]
  refine br.of (fun h2 => ?_) (fun h2 => ?_) <;> (conv => whnf)
  ·have h2 := of_decide_eq_true h2
   rw [decide_eq_true (show s.size ≤ 256 by omega), Bool.true_and]
   refine ⟨⟨_, Tryz.func67, rfl, by kernel_rfl⟩, CallS.use (told_ s (by omega) H) [] rfl rfl trivial ?_⟩
   rintro e H2 G' hle ⟨rfl, rfl⟩
   (conv => whnf)
   exact ⟨rfl, rfl⟩
  ·have h2 := of_decide_eq_false h2
   rw [decide_eq_false (show ¬ s.size ≤ 256 by omega), Bool.false_and]
   exact ⟨rfl, rfl⟩
 ·rw [h1, Bool.false_and]
  exact ⟨rfl, rfl⟩
def findV (nm : ByteArray) : Value := .iface 123 (.agg #[.string nm])
def panF (nm : ByteArray) : SE := .pan [{ v := findV nm, recovered := false }]
theorem mustY (x : ByteArray) (H : Hp) : CallO Tryz.prog 59 [pv (.bool true), pv (.string x)] H [] fun e H' G' => e = .ret (.tu []) ∧ H' = H ∧ G' = [] := by
 refine CallO.of_body tab Tryz.func59 rfl (nt := Tryz.f59.ntmps) rfl (by kernel_rfl) ?_
 (conv => whnf)
 exact ⟨rfl, rfl, rfl⟩
theorem mustN (x : ByteArray) (H : Hp) : CallO Tryz.prog 59 [pv (.bool false), pv (.string x)] H [] fun e H' G' => e = panF x ∧ H' = H ∧ G' = [] := by
 refine CallO.of_body tab Tryz.func59 rfl (nt := Tryz.f59.ntmps) rfl (by kernel_rfl) ?_
 (conv => whnf)
 exact ⟨rfl, rfl, rfl⟩
def lookP (s iss aud : ByteArray) (K : ByteArray → Option (List UInt8)) : Except ByteArray Clm :=
 match partsP s with
 | .error _ => .error sReq
 | .ok t => match K t.kid with
  | none => .error sKey
  | some key => match readP s key with
   | .error x => if x = 40 then .error sFail else .error sReq
   | .ok c => if strEq c.iss iss = false then .error sIssr else if strEq c.aud aud = false then .error sAudc else .ok c
def KeysM (H : Hp) (f : Value → Option Value) (K : ByteArray → Option (List UInt8)) : Prop :=
 ∀ kid, match K kid with
  | none => f (.string kid) = none
  | some key => key.length ≤ 1000000 ∧ ∃ A n c, f (.string kid) = some (.slice A n c) ∧ BytesAt H A n key
theorem KeysM.mono {H H' : Hp} {f : Value → Option Value} {K : ByteArray → Option (List UInt8)} (h : KeysM H f K) (hle : H.Le H') : KeysM H' f K := by
 intro kid
 have := h kid
 cases hk : K kid with
 | none => rw [hk] at this; exact this
 | some key =>
  rw [hk] at this
  obtain ⟨h1, A, n, c, h2, h3⟩ := this
  exact ⟨h1, A, n, c, h2, h3.mono hle⟩
def rB (iss aud : ByteArray) (c : SC) : SB := .box 83 [.val (.string iss), .val (.string aud), .self 0, c, .self 1]
def nB (iss aud : ByteArray) : SB := rB iss aud (.val (.slice none 0 0))
def cRow (L : List Clm) : SB := .row 28 10 L.length (L.flatMap cellsC)
abbrev meR : SV := .si (.ce (.ptr 2 0))
def reG (iss aud : ByteArray) (nk : Nat) (f : Value → Option Value) (nn : Nat) (g : Value → Option Value) : List Clm → List SB
 | [] => [.map .string nk f, .map .string nn g, nB iss aud]
 | c :: L => [.map .string nk f, .map .string nn g, rB iss aud (.self 3), cRow (c :: L)]
def RLk (x : Except ByteArray Clm) (e : SE) : Prop := match x with
 | .ok c => e = .ret (.si (.ag (csC c)))
 | .error nm => e = panF nm
theorem read_err {s : ByteArray} {key : List UInt8} {x : Int} (h : readP s key = .error x) : x ≠ 0 := by
 unfold readP at h
 split at h
 ·rename_i hv
  injection h with h
  subst h
  exact verify_err hv
 ·split at h
  ·injection h with h; omega
  split at h
  ·injection h with h; omega
  split at h
  ·injection h with h; omega
  split at h
  ·injection h with h; omega
  ·cases h
theorem look_ (s iss aud : ByteArray) (hs : s.size ≤ 1000000) (K : ByteArray → Option (List UInt8)) (nk : Nat) (f : Value → Option Value) (nn : Nat) (g : Value → Option Value) (L : List Clm) (H : Hp) (hE : ErrH H) (hK : KeysM H f K) :
  CallO Tryz.prog 29 [meR, pv (.string s)] H (reG iss aud nk f nn g L) fun e H' G' => RLk (lookP s iss aud K) e ∧ H.Le H' ∧ G' = reG iss aud nk f nn g L := by
 have hp := Jw.parse_ s hs H
 have hpe := fun x => parts_err (s := s) (x := x)
 have hre0 := fun key x => read_err (s := s) (key := key) (x := x)
 unfold lookP
 generalize partsP s = X at hp hpe ⊢
 cases L
 all_goals
  refine CallO.of_body tab Tryz.func29 rfl (nt := Tryz.f29.ntmps) rfl (by kernel_rfl) ?_
  (conv => whnf)
  refine ⟨⟨_, Tryz.func30, rfl, by kernel_rfl⟩, CallS.use hp [] rfl rfl trivial ?_⟩
  rintro e H2 G' hle2 ⟨hout, hle2', rfl⟩
  cases X with
  | error x =>
   obtain rfl := hout
   have hx : (x == 0) = false := by rcases hpe x rfl with h | h | h <;> subst h <;> rfl
   (conv => whnf)
   rw [hx]
   refine ⟨⟨_, Tryz.func59, rfl, by kernel_rfl⟩, CallS.use (mustN sReq _) [] rfl rfl trivial ?_⟩
   rintro e H3 G' hle3 ⟨rfl, rfl, rfl⟩
   (conv => whnf)
   exact ⟨rfl, hle2, rfl⟩
  | ok tk =>
   obtain ⟨A, n, c, B, m, d, rfl, hb1, hb2⟩ := hout
   (conv => whnf)
   refine ⟨⟨_, Tryz.func59, rfl, by kernel_rfl⟩, CallS.use (mustY sReq _) [] rfl rfl trivial ?_⟩
   rintro e H3 G' hle3 ⟨rfl, rfl, rfl⟩
   (conv => whnf)
   have hk := hK.mono hle2 tk.kid
   dsimp only
   refine WS.draw tab mixed (.take 0 (.take 1 (.take 2 (.take 3 (.take 4 (.take 5 (.take 6 (.take 7 (.take 8 (.take 9 (.take 10 (.take 11 (.take 12 .done))))))))))))) (by kernel_rfl) [] ?_
   (conv => whnf)
   cases hkk : K tk.kid with
   | none =>
    rw [hkk] at hk
    refine ⟨_, hk, ?_⟩
    (conv => whnf)
    refine ⟨⟨_, Tryz.func59, rfl, by kernel_rfl⟩, CallS.use (mustN sKey _) [] rfl rfl trivial ?_⟩
    rintro e H4 G' hle4 ⟨rfl, rfl, rfl⟩
    (conv => whnf)
    exact ⟨rfl, hle2, rfl⟩
   | some key =>
    rw [hkk] at hk
    obtain ⟨hl, A2, n2, c2, hf, hb⟩ := hk
    refine ⟨_, hf, ?_⟩
    (conv => whnf)
    refine ⟨⟨_, Tryz.func59, rfl, by kernel_rfl⟩, CallS.use (mustY sKey _) [] rfl rfl trivial ?_⟩
    rintro e H4 G' hle4 ⟨rfl, rfl, rfl⟩
    (conv => whnf)
    have hr := read_ s hs key A2 n2 c2 (by have := hb.1; omega) H4 (hE.mono hle2) hb
    have hre := hre0 key
    dsimp only
    generalize readP s key = Y at hr hre ⊢
    refine ⟨⟨_, Tryz.func31, rfl, by kernel_rfl⟩, CallS.use hr [] rfl rfl trivial ?_⟩
    rintro e H5 G' hle5 ⟨hout, hle5', rfl⟩
    have hleA := hle2.trans hle5
    cases Y with
    | error x =>
     obtain rfl := hout
     have hx0 := hre x rfl
     by_cases hx : x = 40
     ·subst hx
      (conv => whnf)
      refine ⟨⟨_, Tryz.func59, rfl, by kernel_rfl⟩, CallS.use (mustN sFail _) [] rfl rfl trivial ?_⟩
      rintro e H6 G' hle6 ⟨rfl, rfl, rfl⟩
      (conv => whnf)
      exact ⟨rfl, hleA, rfl⟩
     ·have hx1 : (x != 40) = true := by simpa using hx
      have hx2 : (x == 0) = false := by simpa using hx0
      (conv => whnf)
      rw [hx1]
      refine ⟨⟨_, Tryz.func59, rfl, by kernel_rfl⟩, CallS.use (mustY sFail _) [] rfl rfl trivial ?_⟩
      rintro e H6 G' hle6 ⟨rfl, rfl, rfl⟩
      (conv => whnf)
      rw [hx2]
      refine ⟨⟨_, Tryz.func59, rfl, by kernel_rfl⟩, CallS.use (mustN sReq _) [] rfl rfl trivial ?_⟩
      rintro e H7 G' hle7 ⟨rfl, rfl, rfl⟩
      (conv => whnf)
      refine ⟨?_, hleA, rfl⟩
      dsimp only
      rw [if_neg hx]
      exact rfl
    | ok c =>
     obtain rfl := hout
     (conv => whnf)
     refine ⟨⟨_, Tryz.func59, rfl, by kernel_rfl⟩, CallS.use (mustY sFail _) [] rfl rfl trivial ?_⟩
     rintro e H6 G' hle6 ⟨rfl, rfl, rfl⟩
     (conv => whnf)
     refine ⟨⟨_, Tryz.func59, rfl, by kernel_rfl⟩, CallS.use (mustY sReq _) [] rfl rfl trivial ?_⟩
     rintro e H7 G' hle7 ⟨rfl, rfl, rfl⟩
     dsimp only
     cases hi : strEq c.iss iss
     ·(conv => whnf)
      refine WS.draw tab mixed (.take 0 (.take 1 (.take 2 (.take 3 (.take 4 (.take 5 (.take 6 (.alt 7 .done .no)))))))) (by kernel_rfl) [] ?_
      (conv => whnf)
      repeat' (first
       | exact trivial
       | exact rfl
       | exact ⟨_, Tryz.func59, rfl, by kernel_rfl⟩
       | (rw [hi]; refine CallS.use (mustN sIssr _) [] rfl rfl trivial ?_; rintro e H8 G' hle8 ⟨rfl, rfl, rfl⟩; (conv => whnf))
       | exact ⟨rfl, hleA, rfl⟩
       | (refine And.intro ?_ ?_ <;> (conv => whnf)))
     ·cases ha : strEq c.aud aud
      ·(conv => whnf)
       refine WS.draw tab mixed (.take 0 (.take 1 (.take 2 (.take 3 (.take 4 (.take 5 (.take 6 (.alt 7 .done .no)))))))) (by kernel_rfl) [] ?_
       (conv => whnf)
       repeat' (first
        | exact trivial
        | exact rfl
        | exact ⟨_, Tryz.func59, rfl, by kernel_rfl⟩
        | (rw [hi]; refine CallS.use (mustY sIssr _) [] rfl rfl trivial ?_; rintro e H8 G' hle8 ⟨rfl, rfl, rfl⟩; (conv => whnf))
        | (rw [ha]; refine CallS.use (mustN sAudc _) [] rfl rfl trivial ?_; rintro e H8 G' hle8 ⟨rfl, rfl, rfl⟩; (conv => whnf))
        | (refine WS.draw tab mixed (.take 0 (.take 1 (.take 2 (.take 3 (.take 4 (.take 5 (.take 6 (.alt 7 .done .no)))))))) (by kernel_rfl) [] ?_; (conv => whnf))
        | exact ⟨rfl, hleA, rfl⟩
        | (refine And.intro ?_ ?_ <;> (conv => whnf)))
      ·(conv => whnf)
       refine WS.draw tab mixed (.take 0 (.take 1 (.take 2 (.take 3 (.take 4 (.take 5 (.take 6 (.alt 7 .done .no)))))))) (by kernel_rfl) [] ?_
       (conv => whnf)
       repeat' (first
        | exact trivial
        | exact rfl
        | exact ⟨_, Tryz.func59, rfl, by kernel_rfl⟩
        | (rw [hi]; refine CallS.use (mustY sIssr _) [] rfl rfl trivial ?_; rintro e H8 G' hle8 ⟨rfl, rfl, rfl⟩; (conv => whnf))
        | (rw [ha]; refine CallS.use (mustY sAudc _) [] rfl rfl trivial ?_; rintro e H8 G' hle8 ⟨rfl, rfl, rfl⟩; (conv => whnf))
        | (refine WS.draw tab mixed (.take 0 (.take 1 (.take 2 (.take 3 (.take 4 (.take 5 (.take 6 (.alt 7 .done .no)))))))) (by kernel_rfl) [] ?_; (conv => whnf))
        | exact ⟨rfl, hleA, rfl⟩
        | (refine And.intro ?_ ?_ <;> (conv => whnf)))
end Go.Kx.Re
namespace Go.Kx.Re
open Go.Proofs Go.Kx Go.RowKit
set_option maxRecDepth 20000
set_option linter.unusedSimpArgs false
namespace Cz
def T : Tab := [(32, { k := TK.slice 5, agg := false, size := 1, bytes := 24, zero := [Z.sl] }), (5, { k := TK.int IntKind.u8, agg := false, size := 1, bytes := 1, zero := [Z.i IntKind.u8] }), (4, { k := TK.bool, agg := false, size := 1, bytes := 1, zero := [Z.b] })]
set_option maxRecDepth 100000 in
theorem tab : TabOk Tryz.prog T := tabOk_mk (ts := [32, 5, 4]) (by kernel_rfl)
end Cz
section
variable {P : Program} {n e : Nat} {D : Pin}
theorem veilS {c : Code} {K : KT} {F : Fr} {H : Hp} {G : List SB} (i : Nat) (x : Value) (hi : getX F i fun sv => sv = pv x) (h : codeL P n e D c K ((i, .si (.ce (.self G.length))) :: F) H (G ++ [.frz x])) : codeL P n e D c K F H G := by
 obtain ⟨sv, h1, h2⟩ := getX_ok hi
 subst h2
 refine ⟨fun w0 M hgd H0 ρ a w hs hf hd hn => ?_⟩
 have hs' := hs.adopt (s := .frz x) (r := x) rfl (fun g hg => by cases hg)
 obtain ⟨v, h3, h4⟩ := hf i _ h1
 have h4' : v = x := h4
 subst h4'
 refine wp_mono (h.to w0 M hgd H0 _ a w hs' ?_ hd hn) (PostX.le (Pre.append _ _).toE (.refl _))
 intro j sv hm
 rcases List.mem_cons.1 hm with hm | hm
 ·injection hm with e1 e2; subst e1 e2
  refine ⟨_, h3, ?_⟩
  show (ρ ++ [v])[G.length]? = some _
  rw [← hs.len]; simp
 ·exact (hf.mono (Pre.append _ _)) j sv hm
end
theorem room_ (n : Nat) (hn : n ≤ 140737488355328) : (0 + n) * (1 + 1) ≤ 140737488355328 + (0 + n) * Nat.min 1 1 := by
 have : Nat.min 1 1 = 1 := rfl
 rw [this]
 omega
theorem cloneZ (bs : List UInt8) (A : Option Addr) (n cap : Nat) (H : Hp) (hb : BytesZ H A n bs) (hn : n ≤ 140737488355328) :
  CallO Tryz.prog 37 [pv (.slice A n cap)] H [] fun e H' G' => RetB bs e H' ∧ G' = [] := by
 obtain ⟨h1, h2, h3⟩ := hb
 cases A with
 | none =>
  obtain rfl := h2 rfl
  refine CallO.of_body Cz.tab Tryz.func37 rfl (nt := Tryz.f37.ntmps) rfl (by kernel_rfl) ?_
  (conv => whnf)
  exact ⟨⟨none, 0, 0, rfl, rfl, fun _ => rfl, fun a e => (nomatch e)⟩, rfl⟩
 | some a =>
  by_cases h0 : n = 0
  ·subst h0
   obtain rfl : bs = [] := List.eq_nil_of_length_eq_zero h1.symm
   refine CallO.of_bodyW Cz.tab Tryz.func37 rfl (nt := Tryz.f37.ntmps) rfl (by kernel_rfl) ?_
   refine (codeL.cutTo Cz.tab 2 (fun F H' G => H' = H ∧ F = [(0, pv (.slice (some a) 0 cap))] ∧ G = []) ?_ ?_).to
   ·(conv => whnf)
    exact ⟨_, _, [], ⟨rfl, rfl, rfl⟩, rfl, trivial, rfl, trivial⟩
   rintro F H1 G _ ⟨rfl, rfl, rfl⟩
   refine veilS 0 (.slice (some a) 0 cap) rfl ?_
   refine codeL.go Cz.tab ?_
   (conv => whnf)
   refine ⟨by decide, .inl ?_⟩
   intro g H2 hle hrd
   (conv => whnf)
   refine ⟨fun _ => ⟨by decide, ⟨_, _, rfl⟩, ?_⟩, fun h => absurd h (by decide)⟩
   (conv => whnf)
   exact ⟨⟨_, _, _, rfl, .lit rfl hrd⟩, rfl⟩
  ·refine CallO.bytes (t := 5) h1 ?_
   refine CallO.of_body Cz.tab Tryz.func37 rfl (nt := Tryz.f37.ntmps) rfl (by kernel_rfl) ?_
   (conv => whnf)
   refine ⟨by decide, .inl ?_⟩
   intro g H2 hle hrd
   (conv => whnf)
   refine ⟨bCells bs, by rw [bCells_length, h1]; exact (Nat.mul_one _).symm, ((h3 a rfl).resolve_left h0).mono hle, bCells_one bs, fun h => absurd h (by omega), fun _ => ⟨rfl, [], rfl, hrd, room_ n hn, ?_⟩⟩
   (conv => whnf)
   exact ⟨rfl, by rw [Nat.zero_add]; rfl⟩
end Go.Kx.Re
namespace Go.Kx.Re
open Go.Proofs Go.Kx Go.RowKit Go.Kx.Wo
set_option maxRecDepth 20000
set_option linter.unusedSimpArgs false
namespace Nw
def T : Tab := [(9, { k := TK.string, agg := false, size := 1, bytes := 16, zero := [Z.s] }), (83, { k := TK.st [(0, 9, 1), (1, 9, 1), (2, 80, 1), (3, 36, 1), (4, 81, 1)], agg := true, size := 5, bytes := 72, zero := [Z.s, Z.s, Z.m, Z.sl, Z.m] }), (44, { k := TK.st [(0, 9, 1), (1, 32, 1)], agg := true, size := 2, bytes := 40, zero := [Z.s, Z.sl] }), (80, { k := TK.map 9 32, agg := false, size := 1, bytes := 8, zero := [Z.m] }), (81, { k := TK.map 9 4, agg := false, size := 1, bytes := 8, zero := [Z.m] }), (32, { k := TK.slice 5, agg := false, size := 1, bytes := 24, zero := [Z.sl] }), (5, { k := TK.int IntKind.u8, agg := false, size := 1, bytes := 1, zero := [Z.i IntKind.u8] }), (39, { k := TK.slice 44, agg := false, size := 1, bytes := 24, zero := [Z.sl] }), (4, { k := TK.bool, agg := false, size := 1, bytes := 1, zero := [Z.b] }), (23, { k := TK.ptr 83, agg := false, size := 1, bytes := 8, zero := [Z.p] }), (40, { k := TK.int IntKind.i64, agg := false, size := 1, bytes := 8, zero := [Z.i IntKind.i64] }), (3, { k := TK.int IntKind.i64, agg := false, size := 1, bytes := 8, zero := [Z.i IntKind.i64] }), (36, { k := TK.slice 28, agg := false, size := 1, bytes := 24, zero := [Z.sl] }), (28, { k := TK.st [(0, 9, 1), (1, 9, 1), (2, 9, 1), (3, 3, 1), (4, 9, 1), (5, 26, 3), (8, 3, 1), (9, 9, 1)], agg := true, size := 10, bytes := 144, zero := [Z.s, Z.s, Z.s, Z.i IntKind.i64, Z.s, Z.s, Z.s, Z.s, Z.i IntKind.i64, Z.s] }), (26, { k := TK.st [(0, 9, 1), (1, 9, 1), (2, 9, 1)], agg := true, size := 3, bytes := 48, zero := [Z.s, Z.s, Z.s] })]
set_option maxRecDepth 100000 in
theorem tab : TabOk Tryz.prog T := tabOk_mk (ts := [9, 83, 44, 80, 81, 32, 5, 39, 4, 23, 40, 3, 36, 28, 26]) (by kernel_rfl)
end Nw
structure KS where
 kid : ByteArray
 A : Option Addr
 n : Nat
 c : Nat
 bs : List UInt8
def kCs (x : KS) : List Value := [.string x.kid, .slice x.A x.n x.c]
def kCells (ks : List KS) : List Value := ks.flatMap kCs
def KsOk (H : Hp) (ks : List KS) : Prop := ∀ x ∈ ks, BytesZ H x.A x.n x.bs ∧ x.n ≤ 140737488355328
theorem KsOk.mono {H H' : Hp} {ks : List KS} (h : KsOk H ks) (hle : H.Le H') : KsOk H' ks := fun x hx => ⟨(h x hx).1.mono hle, (h x hx).2⟩
theorem kCells_get : ∀ {ks : List KS} {i : Nat} {x : KS}, ks[i]? = some x → ∀ (j : Nat) (v : Value), (kCs x)[j]? = some v → (kCells ks)[i * 2 + j]? = some v
 | y :: ks, 0, x, h, j, v, hv => by
  simp at h; subst h
  have hj : j < 2 := by have := (List.getElem?_eq_some_iff.1 hv).1; simpa [kCs] using this
  show (kCs y ++ kCells ks)[0 * 2 + j]? = _
  rw [List.getElem?_append_left (by simp [kCs]; omega), Nat.zero_mul, Nat.zero_add]; exact hv
 | y :: ks, i + 1, x, h, j, v, hv => by
  show (kCs y ++ kCells ks)[(i + 1) * 2 + j]? = _
  rw [List.getElem?_append_right (by simp [kCs]; omega)]
  have : (i + 1) * 2 + j - (kCs y).length = i * 2 + j := by simp [kCs]; omega
  rw [this]
  exact kCells_get (ks := ks) (by simpa using h) j v hv
def KsAt (H : Hp) (A : Option Addr) (n : Nat) (ks : List KS) : Prop := n = ks.length ∧ (0 < n → ∃ b o, A = some ⟨b, o, none⟩ ∧ ∀ (j : Nat) (v : Value), (kCells ks)[j]? = some v → H b (o + j) = some v)
theorem KsAt.mono {H H' : Hp} {A : Option Addr} {n : Nat} {ks : List KS} (h : KsAt H A n ks) (hle : H.Le H') : KsAt H' A n ks :=
 ⟨h.1, fun h0 => let ⟨b, o, h1, h2⟩ := h.2 h0; ⟨b, o, h1, fun j v hv => hle _ _ _ (h2 j v hv)⟩⟩
theorem KsAt.addr {H : Hp} {A : Option Addr} {n : Nat} {ks : List KS} (h : KsAt H A n ks) (h0 : 0 < n) : ∃ b o, A = some ⟨b, o, none⟩ := let ⟨b, o, h1, _⟩ := h.2 h0; ⟨b, o, h1⟩
theorem KsAt.rd {H : Hp} {A : Option Addr} {n : Nat} {ks : List KS} (h : KsAt H A n ks) {i off : Nat} {x : KS} (hx : ks[i]? = some x) (ho : off = i * 2) : RdN H A off (kCs x) := by
 subst ho
 have hi := (List.getElem?_eq_some_iff.1 hx).1
 obtain ⟨b, o, h1, h2⟩ := h.2 (by rw [h.1]; omega)
 refine ⟨b, o, h1, fun j v hv => ?_⟩
 rw [Nat.add_assoc]
 exact h2 _ _ (kCells_get hx j v hv)
def badK (x : KS) : Bool := strEq x.kid ⟨#[]⟩ || decide ((x.kid.size : Int) > 40)
def shortK (x : KS) : Bool := decide ((x.n : Int) < 16)
def kidsOf (ks : List KS) : List ByteArray := ks.map (·.kid)
def newP (iss aud : ByteArray) (ks : List KS) : Int :=
 if wordP 256 iss = false ∨ wordP 256 aud = false then 10 else if ks.any badK = true then 10 else if ¬ (kidsOf ks).Nodup then 15 else if ks.any shortK = true then 41 else 0
def keyOf (ks : List KS) (kid : ByteArray) : Option (List UInt8) := (ks.find? fun x => decide (x.kid = kid)).map (·.bs)
def zMap : Value → Option Value := fun _ => none
def RNw (iss aud : ByteArray) (ks : List KS) (e : SE) (H' : Hp) (G' : List SB) : Prop :=
 (newP iss aud ks ≠ 0 → e = .ret (.tu [.ce (.val (.pointer none)), .ce (.val (.int .i64 (newP iss aud ks)))]) ∧ G' = []) ∧
 (newP iss aud ks = 0 → e = .ret (.tu [.ce (.ptr 2 0), .ce (.val (.int .i64 0))]) ∧ ∃ f, ((∀ x ∈ ks, x.bs.length ≤ 1000000) → KeysM H' f (keyOf ks)) ∧ G' = [.map .string ks.length f, .map .string 0 zMap, nB iss aud])
theorem RNw.no {iss aud : ByteArray} {ks : List KS} {x : Int} {H' : Hp} (h : newP iss aud ks = x) (hx : x ≠ 0) : RNw iss aud ks (.ret (.tu [.ce (.val (.pointer none)), .ce (.val (.int .i64 x))])) H' [] := by
 subst h
 exact ⟨fun _ => ⟨rfl, rfl⟩, fun h => absurd h hx⟩
theorem any_take {ks : List KS} {p : KS → Bool} {i : Nat} (hi : i = ks.length) (h : ∀ x ∈ ks.take i, p x = false) : ks.any p = false := by
 rw [hi, List.take_length] at h
 rw [List.any_eq_false]
 exact fun x hx => by rw [h x hx]; decide
theorem any_get {ks : List KS} {p : KS → Bool} {i : Nat} {x : KS} (hi : ks[i]? = some x) (h : p x = true) : ks.any p = true := List.any_eq_true.2 ⟨x, List.mem_of_getElem? hi, h⟩
theorem take_next {ks : List KS} {p : KS → Prop} {i : Nat} {x : KS} (hi : ks[i]? = some x) (h : ∀ x ∈ ks.take i, p x) (hx : p x) : ∀ x ∈ ks.take (i + 1), p x := by
 intro y hy
 rw [List.take_add_one, hi] at hy
 rcases List.mem_append.1 hy with hy | hy
 ·exact h y hy
 ·simp at hy; subst hy; exact hx
def KeysUp (H : Hp) (f : Value → Option Value) (l : List KS) : Prop :=
 ∀ kid, match l.find? fun x => decide (x.kid = kid) with
  | none => f (.string kid) = none
  | some x => x.bs.length ≤ 140737488355328 ∧ ∃ A n c, f (.string kid) = some (.slice A n c) ∧ BytesAt H A n x.bs
theorem KeysUp.mono {H H' : Hp} {f : Value → Option Value} {l : List KS} (h : KeysUp H f l) (hle : H.Le H') : KeysUp H' f l := by
 intro kid
 have := h kid
 cases hk : l.find? fun x => decide (x.kid = kid) with
 | none => rw [hk] at this; exact this
 | some x =>
  rw [hk] at this
  obtain ⟨h1, A, n, c, h2, h3⟩ := this
  exact ⟨h1, A, n, c, h2, h3.mono hle⟩
theorem KeysUp.push {H : Hp} {f : Value → Option Value} {l : List KS} (h : KeysUp H f l) {x : KS} (hf : f (.string x.kid) = none) (hl : x.bs.length ≤ 140737488355328) {A : Option Addr} {n c : Nat} (hb : BytesAt H A n x.bs) : KeysUp H (updM f (.string x.kid) (.slice A n c)) (l ++ [x]) := by
 intro kid
 have := h kid
 rw [List.find?_append]
 cases hk : l.find? fun x => decide (x.kid = kid) with
 | none =>
  rw [hk] at this
  by_cases he : x.kid = kid
  ·subst he
   simp only [Option.none_or, List.find?_cons, decide_true]
   exact ⟨hl, A, n, c, updM_self .., hb⟩
  ·simp only [Option.none_or, List.find?_cons, he, decide_false, List.find?_nil]
   rw [updM_ne _ (fun e => he (by injection e with e; exact e.symm))]
   exact this
 | some y =>
  rw [hk] at this
  obtain ⟨h1, A2, n2, c2, h2, h3⟩ := this
  simp only [Option.some_or]
  refine ⟨h1, A2, n2, c2, ?_, h3⟩
  rw [updM_ne _ (fun e => by rw [e] at h2; rw [hf] at h2; cases h2)]
  exact h2
theorem KeysUp.of {H : Hp} {f : Value → Option Value} {ks : List KS} (h : KeysUp H f ks) (hs : ∀ x ∈ ks, x.bs.length ≤ 1000000) : KeysM H f (keyOf ks) := by
 intro kid
 have := h kid
 unfold keyOf
 cases hk : ks.find? fun x => decide (x.kid = kid) with
 | none => rw [hk] at this; simpa using this
 | some x =>
  rw [hk] at this
  obtain ⟨_, h2⟩ := this
  exact ⟨hs x (List.mem_of_find?_eq_some hk), h2⟩
theorem KeysUp.none {H : Hp} {f : Value → Option Value} {l : List KS} (h : KeysUp H f l) {kid : ByteArray} : (f (.string kid) = none ∧ kid ∉ kidsOf l) ∨ (kid ∈ kidsOf l ∧ ∃ A n c, f (.string kid) = some (.slice A n c)) := by
 have := h kid
 cases hk : l.find? fun x => decide (x.kid = kid) with
 | none =>
  rw [hk] at this
  refine .inl ⟨this, fun hm => ?_⟩
  obtain ⟨x, hx, rfl⟩ := List.mem_map.1 hm
  have := List.find?_eq_none.1 hk x hx
  simp at this
 | some x =>
  rw [hk] at this
  obtain ⟨_, A, n, c, h2, _⟩ := this
  have hx := List.mem_of_find?_eq_some hk
  have he : x.kid = kid := by simpa using List.find?_some hk
  exact .inr ⟨he ▸ List.mem_map.2 ⟨x, hx, rfl⟩, _, _, _, h2⟩
theorem kids_take {ks : List KS} {i : Nat} {x : KS} (hi : ks[i]? = some x) : kidsOf (ks.take (i + 1)) = kidsOf (ks.take i) ++ [x.kid] := by
 unfold kidsOf
 rw [List.take_add_one, hi]
 simp
theorem nodup_next {ks : List KS} {i : Nat} {x : KS} (hi : ks[i]? = some x) (h : (kidsOf (ks.take i)).Nodup) (hx : x.kid ∉ kidsOf (ks.take i)) : (kidsOf (ks.take (i + 1))).Nodup := by
 rw [kids_take hi]
 exact List.nodup_append.2 ⟨h, by simp, fun a ha b hb => by simp at hb; subst hb; exact fun e => hx (e ▸ ha)⟩
theorem nodup_not {ks : List KS} {i : Nat} {x : KS} (hi : ks[i]? = some x) (hx : x.kid ∈ kidsOf (ks.take i)) : ¬ (kidsOf ks).Nodup := by
 intro h
 have h2 : (kidsOf (ks.take (i + 1))).Nodup := by
  unfold kidsOf at h ⊢
  exact h.sublist ((List.take_sublist _ _).map _)
 rw [kids_take hi] at h2
 exact (List.nodup_append.1 h2).2.2 _ hx _ (by simp) rfl
theorem new_ (iss aud : ByteArray) (ks : List KS) (A : Option Addr) (n cap : Nat) (hn : n ≤ 1000000) (H : Hp) (hA : KsAt H A n ks) (hks : KsOk H ks) :
  CallO Tryz.prog 14 [pv (.string iss), pv (.string aud), pv (.slice A n cap)] H [] fun e H' G' => RNw iss aud ks e H' G' ∧ H.Le H' := by
 refine CallO.of_body Nw.tab Tryz.func14 rfl (nt := Tryz.f14.ntmps) rfl (by kernel_rfl) ?_
 (conv => whnf)
 refine ⟨⟨_, Tryz.func36, rfl, by kernel_rfl⟩, CallS.use (word_ iss H) [] rfl rfl trivial ?_⟩
 rintro e H2 G' hle2 ⟨rfl, rfl⟩
 cases hw : wordP 256 iss
 ·(conv => whnf)
  exact ⟨RNw.no (by unfold newP; rw [if_pos (.inl hw)]) (by decide), hle2⟩
 (conv => whnf)
 refine ⟨⟨_, Tryz.func36, rfl, by kernel_rfl⟩, CallS.use (word_ aud H2) [] rfl rfl trivial ?_⟩
 rintro e H3 G' hle3 ⟨rfl, rfl⟩
 cases hw2 : wordP 256 aud
 ·(conv => whnf)
  exact ⟨RNw.no (by unfold newP; rw [if_pos (.inr hw2)]) (by decide), hle2.trans hle3⟩
 (conv => whnf)
 have hleA := hle2.trans hle3
 have hA3 := hA.mono hleA
 have hks3 := hks.mono hleA
 have hnk : n = ks.length := hA.1
 have hwp : ¬ (wordP 256 iss = false ∨ wordP 256 aud = false) := by rw [hw, hw2]; simp
 refine WS.loop (fun k' F H4 G => ∃ i : Nat, i ≤ n ∧ (∀ x ∈ ks.take i, badK x = false) ∧ k' = n - i ∧ F = [(2, pv (.slice A n cap)), (8, .si (.ce (.ptr 2 0))), (31, pv (.slice A n cap)), (32, pv (.int .i64 n)), (33, pv (.int .i64 i))] ∧ H4 = H3 ∧ G = [.map .string 0 zMap, .map .string 0 zMap, nB iss aud]) (n + 1) ?_ ?_
 ·refine ⟨n, by omega, _, _, [0, 1, 2], ⟨0, by omega, fun x hx => by simp at hx, rfl, rfl, rfl, rfl⟩, ?_⟩
  exact ⟨rfl, ⟨rfl, rfl, rfl, trivial⟩, rfl, rfl, rfl, rfl, rfl, trivial⟩
 rintro k' F H4 G hle4 ⟨i, hi, hbad, rfl, rfl, rfl, rfl⟩
 refine codeL.go Nw.tab ?_
 (conv => whnf)
 refine br.of (fun h1 => ?_) (fun h1 => ?_) <;> (conv => whnf)
 ·have h1 := of_decide_eq_true h1
  refine ⟨⟨by omega, by omega⟩, ?_⟩
  (conv => whnf)
  have hil : i < ks.length := by omega
  have hget : ks[i]? = some ks[i] := List.getElem?_eq_getElem hil
  generalize ks[i] = x at hget
  refine ⟨hA3.addr (by omega), ?_⟩
  (conv => whnf)
  refine ⟨kCs x, rfl, hA3.rd hget (by show (i : Int).toNat * 2 = _; omega), ?_⟩
  (conv => whnf)
  refine br.of (fun h2 => ?_) (fun h2 => ?_) <;> (conv => whnf)
  ·exact ⟨RNw.no (by unfold newP; rw [if_neg hwp, if_pos (any_get hget (by unfold badK; rw [h2, Bool.true_or]))]) (by decide), hleA⟩
  refine br.of (fun h3 => ?_) (fun h3 => ?_) <;> (conv => whnf)
  ·exact ⟨RNw.no (by unfold newP; rw [if_neg hwp, if_pos (any_get hget (by unfold badK; rw [h3, Bool.or_true]))]) (by decide), hleA⟩
  rw [wrap64 (x := (i : Int) + 1) (by omega) (by omega)]
  refine ⟨n - (i + 1), by omega, _, _, [0, 1, 2], ⟨i + 1, by omega, take_next hget hbad (by unfold badK; rw [h2, h3]; rfl), rfl, rfl, rfl, rfl⟩, ?_⟩
  exact ⟨rfl, ⟨rfl, rfl, rfl, trivial⟩, rfl, rfl, rfl, rfl, rfl, trivial⟩
 ·have h1 := of_decide_eq_false h1
  obtain rfl : i = n := by omega
  have hnb : ¬ ks.any badK = true := by rw [any_take hnk hbad]; decide
  refine WS.loop (fun k' F H6 G => ∃ (j : Nat) (f : Value → Option Value), j ≤ i ∧ KeysUp H6 f (ks.take j) ∧ (kidsOf (ks.take j)).Nodup ∧ k' = i - j ∧ F = [(2, pv (.slice A i cap)), (8, .si (.ce (.ptr 2 0))), (47, pv (.slice A i cap)), (48, pv (.int .i64 i)), (49, pv (.int .i64 j))] ∧ H4.Le H6 ∧ G = [.map .string j f, .map .string 0 zMap, nB iss aud]) (i + 1) ?_ ?_
  ·refine ⟨i, by omega, _, _, [0, 1, 2], ⟨0, zMap, by omega, fun kid => rfl, List.nodup_nil, rfl, rfl, .refl _, rfl⟩, ?_⟩
   exact ⟨rfl, ⟨rfl, rfl, rfl, trivial⟩, rfl, rfl, rfl, rfl, rfl, trivial⟩
  rintro k' F H5 G hle5 ⟨j, f, hj, hup, hnd, rfl, rfl, hle35, rfl⟩
  refine codeL.go Nw.tab ?_
  (conv => whnf)
  refine br.of (fun h2 => ?_) (fun h2 => ?_) <;> (conv => whnf)
  ·have h2 := of_decide_eq_true h2
   refine ⟨⟨by omega, by omega⟩, ?_⟩
   (conv => whnf)
   have hil : j < ks.length := by omega
   have hget : ks[j]? = some ks[j] := List.getElem?_eq_getElem hil
   generalize ks[j] = x at hget
   have hA5 := hA3.mono hle35
   refine ⟨hA5.addr (by omega), ?_⟩
   (conv => whnf)
   refine ⟨kCs x, rfl, hA5.rd hget (by show (j : Int).toNat * 2 = _; omega), ?_⟩
   (conv => whnf)
   refine WS.draw Nw.tab mixed (.take 0 (.take 1 (.take 2 (.take 3 (.take 4 (.take 5 (.take 6 (.take 7 (.take 8 (.take 9 (.take 10 (.take 11 .done)))))))))))) (by kernel_rfl) [] ?_
   (conv => whnf)
   rcases hup.none (kid := x.kid) with ⟨hf, hni⟩ | ⟨hmem, B, m, d, hf⟩
   ·refine ⟨_, hf, ?_⟩
    (conv => whnf)
    have hcl := cloneZ x.bs x.A x.n x.c H5 ((hks3.mono hle35) x (List.mem_of_getElem? hget)).1 ((hks3.mono hle35) x (List.mem_of_getElem? hget)).2
    refine WS.draw Nw.tab mixed (.take 0 (.take 1 (.take 2 (.take 3 (.take 4 (.take 5 (.take 6 (.take 7 (.alt 8 (.alt 9 .done .no) .no))))))))) (by kernel_rfl) [0] ?_
    (conv => whnf)
    repeat' (first
     | exact trivial
     | exact rfl
     | exact ⟨_, Tryz.func37, rfl, by kernel_rfl⟩
     | (refine And.intro ?_ ?_ <;> (conv => whnf)))
    refine CallS.use hcl [] rfl rfl trivial ?_
    rintro e H7 G' hle7 ⟨⟨B, m, d, rfl, hb⟩, rfl⟩
    (conv => whnf)
    refine ⟨⟨trivial, rfl, rfl, rfl, trivial⟩, ?_⟩
    (conv => whnf)
    repeat' (first
     | exact trivial
     | exact rfl
     | (refine ⟨fun _ => ?_, fun h => absurd hf h⟩; (conv => whnf))
     | (refine And.intro ?_ ?_ <;> (conv => whnf)))
    have hup2 : KeysUp H7 (updM f (.string x.kid) (.slice B m d)) (ks.take (j + 1)) := by
     rw [List.take_add_one, hget]
     exact (hup.mono hle7).push hf (by have := ((hks3.mono hle35) x (List.mem_of_getElem? hget)); rw [← this.1.1]; exact this.2) hb
    rw [wrap64 (x := (j : Int) + 1) (by omega) (by omega)]
    refine ⟨i - (j + 1), by omega, _, _, [0, 1, 2], ⟨j + 1, _, by omega, hup2, nodup_next hget hnd hni, rfl, rfl, hle35.trans hle7, rfl⟩, ?_⟩
    exact ⟨rfl, ⟨rfl, rfl, rfl, trivial⟩, rfl, rfl, rfl, rfl, rfl, trivial⟩
   ·refine ⟨_, hf, ?_⟩
    (conv => whnf)
    exact ⟨RNw.no (by unfold newP; rw [if_neg hwp, if_neg hnb, if_pos (nodup_not hget hmem)]) (by decide), hleA.trans hle35⟩
  ·have h2 := of_decide_eq_false h2
   obtain rfl : j = i := by omega
   have hnd' : ¬ ¬ (kidsOf ks).Nodup := by rw [hnk, List.take_length] at hnd; exact fun h => h hnd
   have hup' : (∀ x ∈ ks, x.bs.length ≤ 1000000) → KeysM H5 f (keyOf ks) := by rw [hnk, List.take_length] at hup; exact hup.of
   refine WS.loop (fun k' F H6 G => ∃ i : Nat, i ≤ j ∧ (∀ x ∈ ks.take i, shortK x = false) ∧ k' = j - i ∧ F = [(8, .si (.ce (.ptr 2 0))), (74, pv (.slice A j cap)), (75, pv (.int .i64 j)), (76, pv (.int .i64 i))] ∧ H6 = H5 ∧ G = [.map .string j f, .map .string 0 zMap, nB iss aud]) (j + 1) ?_ ?_
   ·refine ⟨j, by omega, _, _, [0, 1, 2], ⟨0, by omega, fun x hx => by simp at hx, rfl, rfl, rfl, rfl⟩, ?_⟩
    exact ⟨rfl, ⟨rfl, rfl, rfl, trivial⟩, rfl, rfl, rfl, rfl, trivial⟩
   rintro k' F H6 G hle6 ⟨i, hi, hsh, rfl, rfl, rfl, rfl⟩
   have hA6 := hA3.mono hle35
   refine codeL.go Nw.tab ?_
   (conv => whnf)
   refine br.of (fun h3 => ?_) (fun h3 => ?_) <;> (conv => whnf)
   ·have h3 := of_decide_eq_true h3
    refine ⟨⟨by omega, by omega⟩, ?_⟩
    (conv => whnf)
    have hil : i < ks.length := by omega
    have hget : ks[i]? = some ks[i] := List.getElem?_eq_getElem hil
    generalize ks[i] = x at hget
    refine ⟨hA6.addr (by omega), ?_⟩
    (conv => whnf)
    refine ⟨kCs x, rfl, hA6.rd hget (by show (i : Int).toNat * 2 = _; omega), ?_⟩
    (conv => whnf)
    refine br.of (fun h4 => ?_) (fun h4 => ?_) <;> (conv => whnf)
    ·exact ⟨RNw.no (by unfold newP; rw [if_neg hwp, if_neg hnb, if_neg hnd', if_pos (any_get hget h4)]) (by decide), hleA.trans hle35⟩
    rw [wrap64 (x := (i : Int) + 1) (by omega) (by omega)]
    refine ⟨j - (i + 1), by omega, _, _, [0, 1, 2], ⟨i + 1, by omega, take_next hget hsh h4, rfl, rfl, rfl, rfl⟩, ?_⟩
    exact ⟨rfl, ⟨rfl, rfl, rfl, trivial⟩, rfl, rfl, rfl, rfl, trivial⟩
   ·have h3 := of_decide_eq_false h3
    obtain rfl : i = j := by omega
    have hns : ¬ ks.any shortK = true := by rw [any_take hnk hsh]; decide
    have hz : newP iss aud ks = 0 := by unfold newP; rw [if_neg hwp, if_neg hnb, if_neg hnd', if_neg hns]
    exact ⟨⟨fun h => absurd hz h, fun _ => ⟨rfl, f, hup', by rw [← hnk]⟩⟩, hleA.trans hle35⟩
end Go.Kx.Re
namespace Go.Kx.L30
open Go.Proofs Go.Kx Go.RowKit Go.Kx.Js Go.Kx.Pr Go.Kx.Rt Go.Kx.Ob Go.Kx.Wo Go.Kx.Cl Go.Kx.Pa Go.Kx.Su Go.Kx.Se Go.Kx.Jw Go.Kx.L13 Go.Kx.Re
set_option maxRecDepth 20000
set_option linter.unusedSimpArgs false
def T : Tab := [(28, { k := TK.st [(0, 9, 1), (1, 9, 1), (2, 9, 1), (3, 3, 1), (4, 9, 1), (5, 26, 3), (8, 3, 1), (9, 9, 1)], agg := true, size := 10, bytes := 144, zero := [Z.s, Z.s, Z.s, Z.i IntKind.i64, Z.s, Z.s, Z.s, Z.s, Z.i IntKind.i64, Z.s] }), (26, { k := TK.st [(0, 9, 1), (1, 9, 1), (2, 9, 1)], agg := true, size := 3, bytes := 48, zero := [Z.s, Z.s, Z.s] }), (44, { k := TK.st [(0, 9, 1), (1, 32, 1)], agg := true, size := 2, bytes := 40, zero := [Z.s, Z.sl] }), (39, { k := TK.slice 44, agg := false, size := 1, bytes := 24, zero := [Z.sl] }), (83, { k := TK.st [(0, 9, 1), (1, 9, 1), (2, 80, 1), (3, 36, 1), (4, 81, 1)], agg := true, size := 5, bytes := 72, zero := [Z.s, Z.s, Z.m, Z.sl, Z.m] }), (32, { k := TK.slice 5, agg := false, size := 1, bytes := 24, zero := [Z.sl] }), (5, { k := TK.int IntKind.u8, agg := false, size := 1, bytes := 1, zero := [Z.i IntKind.u8] }), (9, { k := TK.string, agg := false, size := 1, bytes := 16, zero := [Z.s] }), (40, { k := TK.int IntKind.i64, agg := false, size := 1, bytes := 8, zero := [Z.i IntKind.i64] }), (23, { k := TK.ptr 83, agg := false, size := 1, bytes := 8, zero := [Z.p] }), (4, { k := TK.bool, agg := false, size := 1, bytes := 1, zero := [Z.b] }), (80, { k := TK.map 9 32, agg := false, size := 1, bytes := 8, zero := [Z.m] }), (81, { k := TK.map 9 4, agg := false, size := 1, bytes := 8, zero := [Z.m] }), (3, { k := TK.int IntKind.i64, agg := false, size := 1, bytes := 8, zero := [Z.i IntKind.i64] }), (36, { k := TK.slice 28, agg := false, size := 1, bytes := 24, zero := [Z.sl] })]
set_option maxRecDepth 100000 in
theorem tab : TabOk Tryz.prog T := tabOk_mk (ts := [28, 26, 44, 39, 83, 32, 5, 9, 40, 23, 4, 80, 81, 3, 36]) (by kernel_rfl)
theorem mixed : Tryz.prog.follows .mixedOrders = true := by kernel_rfl
def sAs : ByteArray := (⟨#[104, 116, 116, 112, 115, 58, 47, 47, 97, 115]⟩ : ByteArray)
def sRx : ByteArray := (⟨#[114, 120]⟩ : ByteArray)
def sSub : ByteArray := (⟨#[105, 115, 115, 95, 115, 117, 98]⟩ : ByteArray)
def kid1 : ByteArray := ⟨#[107, 49]⟩
def kid2 : ByteArray := ⟨#[107, 50]⟩
def kL1 : List UInt8 := ([48, 49, 50, 51, 52, 53, 54, 55, 56, 57, 97, 98, 99, 100, 101, 102] : List UInt8)
def kL2 : List UInt8 := ([102, 101, 100, 99, 98, 97, 57, 56, 55, 54, 53, 52, 51, 50, 49, 48] : List UInt8)
def K30 (kid : ByteArray) : Option (List UInt8) := if kid1 = kid then some kL1 else if kid2 = kid then some kL2 else none
def ks30 (A1 : Option Addr) (c1 : Nat) (A2 : Option Addr) (c2 : Nat) : List KS := [⟨kid1, A1, 16, c1, kL1⟩, ⟨kid2, A2, 16, c2, kL2⟩]
theorem keyOf30 (A1 : Option Addr) (c1 : Nat) (A2 : Option Addr) (c2 : Nat) : Re.keyOf (ks30 A1 c1 A2 c2) = K30 := by
 funext kid
 unfold Re.keyOf ks30 K30
 by_cases h1 : kid1 = kid
 ·simp [h1]
 ·by_cases h2 : kid2 = kid
  ·simp [h1, h2]
  ·simp [h1, h2]
theorem new30 (A1 : Option Addr) (c1 : Nat) (A2 : Option Addr) (c2 : Nat) : newP sAs sRx (ks30 A1 c1 A2 c2) = 0 := by
 unfold newP
 have h1 : Wo.wordP 256 sAs = true := by decide +kernel
 have h2 : Wo.wordP 256 sRx = true := by decide +kernel
 have b1 : badK ⟨kid1, A1, 16, c1, kL1⟩ = false := by show (strEq kid1 ⟨#[]⟩ || decide ((kid1.size : Int) > 40)) = false; decide +kernel
 have b2 : badK ⟨kid2, A2, 16, c2, kL2⟩ = false := by show (strEq kid2 ⟨#[]⟩ || decide ((kid2.size : Int) > 40)) = false; decide +kernel
 have b3 : shortK ⟨kid1, A1, 16, c1, kL1⟩ = false := by show decide (((16 : Nat) : Int) < 16) = false; decide
 have b4 : shortK ⟨kid2, A2, 16, c2, kL2⟩ = false := by show decide (((16 : Nat) : Int) < 16) = false; decide
 have b5 : (kidsOf (ks30 A1 c1 A2 c2)).Nodup := by
  show ([kid1, kid2] : List ByteArray).Nodup
  decide +kernel
 rw [h1, h2, if_neg (by simp), if_neg (by simp only [ks30, List.any_cons, List.any_nil, b1, b2]; decide), if_neg (fun h => h b5), if_neg (by simp only [ks30, List.any_cons, List.any_nil, b3, b4]; decide)]
def clm30 (jti txn name : ByteArray) (kind iat : Int) : Clm := ⟨sAs, jti, sRx, iat, txn, ⟨sSub, name, sAs⟩, kind, ⟨#[]⟩⟩
theorem look_sign {c : Clm} {kid : ByteArray} {key : List UInt8} {s iss aud : ByteArray} {K : ByteArray → Option (List UInt8)} (h : csignP c kid key = (s, 0)) (hk : K kid = some key) (hi : c.iss = iss) (ha : c.aud = aud) : lookP s iss aud K = .ok c := by
 have hr := sign_read h
 have hv : ∃ t, partsP s = .ok t ∧ t.kid = kid := by
  unfold csignP at h
  split at h
  ·cases h
  have hv := Jw.sign_verify h
  unfold verifyP at hv
  split at hv
  ·cases hv
  ·rename_i t ht
   split at hv
   ·cases hv
   split at hv
   ·injection hv with hv; exact ⟨t, ht, by rw [hv]⟩
   ·cases hv
 obtain ⟨t, ht, hk2⟩ := hv
 unfold lookP
 rw [ht]
 simp only []
 rw [hk2, hk]
 simp only []
 rw [hr]
 subst hi ha
 simp only [str_refl, if_neg (by decide : ¬ true = false)]
theorem sign_of {c : Clm} {kid : ByteArray} {key : List UInt8} (hr : clRight c = true) (hk : wordP 40 kid = true) (hl : 16 ≤ key.length) : ∃ s, csignP c kid key = (s, 0) := by
 unfold csignP
 rw [hr, if_neg (by decide)]
 unfold Jw.signP
 have h1 : (Wo.wordP 40 kid && Wo.wordP 40 sType) = true := by rw [hk, Bool.true_and]; decide +kernel
 rw [h1, if_neg (by decide), if_neg (by have := cl_wrl ((right_iff _).1 hr); omega), if_neg (by omega)]
 exact ⟨_, rfl⟩
theorem claims_ (jti txn name : ByteArray) (kind iat : Int) (H : Hp) : CallO Tryz.prog 17 [pv (.string jti), pv (.string txn), pv (.string name), pv (.int .i64 kind), pv (.int .i64 iat)] H [] fun e H' G' => e = .ret (.si (.ag (csC (clm30 jti txn name kind iat)))) ∧ H' = H ∧ G' = [] := by
 refine CallO.of_body tab Tryz.func17 rfl (nt := Tryz.f17.ntmps) rfl (by kernel_rfl) ?_
 (conv => whnf)
 exact ⟨rfl, rfl, rfl⟩
theorem keys_ (H : Hp) : CallO Tryz.prog 27 [] H [] fun e H' G' => (∃ A c A1 c1 A2 c2, e = .ret (pv (.slice A 2 c)) ∧ KsAt H' A 2 (ks30 A1 c1 A2 c2) ∧ KsOk H' (ks30 A1 c1 A2 c2)) ∧ H.Le H' ∧ G' = [] := by
 refine CallO.of_body tab Tryz.func27 rfl (nt := Tryz.f27.ntmps) rfl (by kernel_rfl) ?_
 (conv => whnf)
 refine ⟨by decide, .inr ?_⟩
 refine ⟨rfl, ?_⟩
 (conv => whnf)
 change LO _ _ _ _ _ _ _
 refine LO.convOwn (t := 32) (e := 5) (et := 5) (x := .tmp 1) (n := 16) (xs := bCells kL1) ?_ 0 ?_ ?_ (by decide) (by kernel_rfl) (by kernel_rfl) ?_
 ·rfl
 ·rfl
 ·rfl
 intro g c2 H2 hle2 hkr
 (conv => whnf)
 refine ⟨by decide, .inr ?_⟩
 refine ⟨rfl, ?_⟩
 (conv => whnf)
 change LO _ _ _ _ _ _ _
 refine LO.convOwn (t := 32) (e := 5) (et := 5) (x := .tmp 4) (n := 16) (xs := bCells kL2) ?_ 1 ?_ ?_ (by decide) (by kernel_rfl) (by kernel_rfl) ?_
 ·rfl
 ·rfl
 ·rfl
 intro g3 c3 H3 hle3 hkr3
 (conv => whnf)
 refine ⟨by decide, .inl ?_⟩
 intro g4 H4 hle4 hrd
 (conv => whnf)
 refine ⟨⟨_, _, some g, c2, some g3, c3, rfl, ⟨rfl, fun _ => ⟨g4, 0, rfl, ?_⟩⟩, ?_⟩, (hle2.trans hle3).trans hle4, rfl⟩
 ·obtain ⟨b, o, e1, h⟩ := hrd
  injection e1 with e1; injection e1 with e1 e2
  subst e1 e2
  intro j v hv
  have := h j v hv
  simpa using this
 ·intro x hx
  rcases List.mem_cons.1 hx with rfl | hx
  ·exact ⟨(BytesAt.lit rfl ((hkr.mono hle3).mono hle4)).z, by show 16 ≤ 140737488355328; decide⟩
  ·rcases List.mem_cons.1 hx with rfl | hx
   ·exact ⟨(BytesAt.lit rfl (hkr3.mono hle4)).z, by show 16 ≤ 140737488355328; decide⟩
   ·simp at hx
theorem opened_ (H : Hp) : CallO Tryz.prog 9 [] H [] fun e H' G' => e = .ret (.si (.ce (.ptr 2 0))) ∧ H.Le H' ∧ ∃ f, KeysM H' f K30 ∧ G' = reG sAs sRx 2 f 0 zMap [] := by
 refine CallO.of_body tab Tryz.func9 rfl (nt := Tryz.f9.ntmps) rfl (by kernel_rfl) ?_
 (conv => whnf)
 refine ⟨⟨_, Tryz.func27, rfl, by kernel_rfl⟩, CallS.use (keys_ H) [] rfl rfl trivial ?_⟩
 rintro e H2 G' hle2 ⟨⟨A, c, A1, c1, A2, c2, rfl, h1, h2⟩, hle2', rfl⟩
 (conv => whnf)
 have hn := new_ sAs sRx (ks30 A1 c1 A2 c2) A 2 c (by decide) H2 h1 h2
 refine ⟨⟨_, Tryz.func14, rfl, by kernel_rfl⟩, CallS.use hn [] rfl rfl trivial ?_⟩
 rintro e H3 G' hle3 ⟨⟨_, hr⟩, hle3'⟩
 obtain ⟨rfl, f, hf, rfl⟩ := hr (new30 A1 c1 A2 c2)
 rw [keyOf30] at hf
 have hf := hf (fun x hx => by
  rcases List.mem_cons.1 hx with rfl | hx
  ·show kL1.length ≤ 1000000; decide
  ·rcases List.mem_cons.1 hx with rfl | hx
   ·show kL2.length ≤ 1000000; decide
   ·simp at hx)
 (conv => whnf)
 exact ⟨rfl, hle2.trans hle3, f, hf, rfl⟩
theorem kid_wf {c : Clm} (h : clRight c = true) : -9223372036854775808 ≤ c.kind ∧ c.kind ≤ 9223372036854775807 := by
 have := ((right_iff c).1 h).kind
 omega
def kidB (b : Bool) : ByteArray := if b then kid2 else kid1
def keyB (b : Bool) : List UInt8 := if b then kL2 else kL1
theorem signed_ (c : Clm) (hk : -9223372036854775808 ≤ c.kind ∧ c.kind ≤ 9223372036854775807) (b : Bool) (H : Hp) : CallO Tryz.prog 16 [.si (.ag (csC c)), pv (.bool b)] H [] fun e H' G' => e = .ret (pv (.string (csignP c (kidB b) (keyB b)).1)) ∧ H.Le H' ∧ G' = [] := by
 refine CallO.of_body tab Tryz.func16 rfl (nt := Tryz.f16.ntmps) rfl (by kernel_rfl) ?_
 (conv => whnf)
 refine ⟨⟨_, Tryz.func27, rfl, by kernel_rfl⟩, CallS.use (keys_ H) [] rfl rfl trivial ?_⟩
 rintro e H2 G' hle2 ⟨⟨A, cap, A1, c1, A2, c2, rfl, h1, h2⟩, hle2', rfl⟩
 (conv => whnf)
 refine ⟨⟨by decide, by decide⟩, ?_⟩
 refine ⟨h1.addr (by decide), ?_⟩
 (conv => whnf)
 refine ⟨kCs ⟨kid1, A1, 16, c1, kL1⟩, rfl, h1.rd rfl rfl, ?_⟩
 cases b
 ·(conv => whnf)
  have hs := sign_ c hk kid1 kL1 A1 c1 (by decide) H2 ((h2 _ (List.mem_cons_self)).1.full (by show (16 : Nat) ≠ 0; decide))
  refine ⟨⟨_, Tryz.func38, rfl, by kernel_rfl⟩, CallS.use hs [] rfl rfl trivial ?_⟩
  rintro e H3 G' hle3 ⟨rfl, hle3', rfl⟩
  (conv => whnf)
  exact ⟨rfl, hle2.trans hle3, rfl⟩
 ·(conv => whnf)
  refine ⟨⟨_, Tryz.func27, rfl, by kernel_rfl⟩, CallS.use (keys_ H2) [] rfl rfl trivial ?_⟩
  rintro e H3 G' hle3 ⟨⟨B, cap2, B1, d1, B2, d2, rfl, h3, h4⟩, hle3', rfl⟩
  (conv => whnf)
  refine ⟨⟨by decide, by decide⟩, ?_⟩
  refine ⟨h3.addr (by decide), ?_⟩
  (conv => whnf)
  refine ⟨kCs ⟨kid2, B2, 16, d2, kL2⟩, rfl, h3.rd rfl rfl, ?_⟩
  (conv => whnf)
  have hs := sign_ c hk kid2 kL2 B2 d2 (by decide) H3 ((h4 _ (List.mem_cons_of_mem _ List.mem_cons_self)).1.full (by show (16 : Nat) ≠ 0; decide))
  refine ⟨⟨_, Tryz.func38, rfl, by kernel_rfl⟩, CallS.use hs [] rfl rfl trivial ?_⟩
  rintro e H4 G' hle4 ⟨rfl, hle4', rfl⟩
  (conv => whnf)
  exact ⟨rfl, (hle2.trans hle3).trans hle4, rfl⟩
end Go.Kx.L30
namespace Go.Proofs
open Go.Shelf
def Tryz.laysAtoi_ren : Go.Shelf.Ren := ⟨fun | 172 => 128 | 244 => 168 | 245 => 169 | 247 => 188 | 279 => 197 | 280 => 198 | 281 => 199 | 282 => 200 | 287 => 217 | 316 => 231 | 171 => 81 | 205 => 232 | 321 => 240 | 322 => 241 | 243 => 126 | 246 => 167 | 283 => 193 | 284 => 194 | 285 => 195 | 286 => 196 | 129 => 138 | 317 => 227 | 318 => 228 | 319 => 229 | 320 => 230 | 337 => 246 | 338 => 247 | n => n, fun | 9 => 9 | 3 => 3 | 75 => 93 | 76 => 94 | 4 => 4 | 5 => 5 | 167 => 245 | 37 => 32 | 0 => 0 | 85 => 205 | 2 => 2 | 168 => 246 | 53 => 193 | 175 => 264 | 46 => 145 | 210 => 277 | 127 => 134 | 145 => 286 | 143 => 284 | 21 => 21 | 171 => 241 | 173 => 243 | 212 => 273 | 51 => 191 | 20 => 20 | 213 => 274 | 232 => 295 | 233 => 296 | 80 => 48 | n => n, fun | 15 => 2 | 16 => 3 | 17 => 1 | 18 => 6 | 19 => 7 | n => n⟩
theorem Tryz.laysAtoi : Go.Proofs.LaysC.n172 Tryz.prog Tryz.laysAtoi_ren where
 mixed := by kernel_rfl
 f129 := Tryz.func138.trans (congrArg some (by kernel_rfl))
 f171 := Tryz.func81.trans (congrArg some (by kernel_rfl))
 f172 := Tryz.func128.trans (congrArg some (by kernel_rfl))
 f205 := Tryz.func232.trans (congrArg some (by kernel_rfl))
 f243 := Tryz.func126.trans (congrArg some (by kernel_rfl))
 f244 := Tryz.func168.trans (congrArg some (by kernel_rfl))
 f245 := Tryz.func169.trans (congrArg some (by kernel_rfl))
 f246 := Tryz.func167.trans (congrArg some (by kernel_rfl))
 f247 := Tryz.func188.trans (congrArg some (by kernel_rfl))
 f279 := Tryz.func197.trans (congrArg some (by kernel_rfl))
 f280 := Tryz.func198.trans (congrArg some (by kernel_rfl))
 f281 := Tryz.func199.trans (congrArg some (by kernel_rfl))
 f282 := Tryz.func200.trans (congrArg some (by kernel_rfl))
 f283 := Tryz.func193.trans (congrArg some (by kernel_rfl))
 f284 := Tryz.func194.trans (congrArg some (by kernel_rfl))
 f285 := Tryz.func195.trans (congrArg some (by kernel_rfl))
 f286 := Tryz.func196.trans (congrArg some (by kernel_rfl))
 f287 := Tryz.func217.trans (congrArg some (by kernel_rfl))
 f316 := Tryz.func231.trans (congrArg some (by kernel_rfl))
 f317 := Tryz.func227.trans (congrArg some (by kernel_rfl))
 f318 := Tryz.func228.trans (congrArg some (by kernel_rfl))
 f319 := Tryz.func229.trans (congrArg some (by kernel_rfl))
 f320 := Tryz.func230.trans (congrArg some (by kernel_rfl))
 f321 := Tryz.func240.trans (congrArg some (by kernel_rfl))
 f322 := Tryz.func241.trans (congrArg some (by kernel_rfl))
 f337 := Tryz.func246.trans (congrArg some (by kernel_rfl))
 f338 := Tryz.func247.trans (congrArg some (by kernel_rfl))
 t0 := Tryz.underlying0
 a0 := Tryz.isAgg0
 z0 := Tryz.sizeOf0
 v0 := Tryz.zeroValue0
 t2 := Tryz.underlying2
 a2 := Tryz.isAgg2
 z2 := Tryz.sizeOf2
 v2 := Tryz.zeroValue2
 t3 := Tryz.underlying3
 a3 := Tryz.isAgg3
 z3 := Tryz.sizeOf3
 v3 := Tryz.zeroValue3
 t4 := Tryz.underlying4
 a4 := Tryz.isAgg4
 z4 := Tryz.sizeOf4
 v4 := Tryz.zeroValue4
 t5 := Tryz.underlying5
 a5 := Tryz.isAgg5
 z5 := Tryz.sizeOf5
 v5 := Tryz.zeroValue5
 t9 := Tryz.underlying9
 a9 := Tryz.isAgg9
 z9 := Tryz.sizeOf9
 v9 := Tryz.zeroValue9
 t20 := Tryz.underlying20
 a20 := Tryz.isAgg20
 z20 := Tryz.sizeOf20
 v20 := Tryz.zeroValue20
 t21 := Tryz.underlying21
 a21 := Tryz.isAgg21
 z21 := Tryz.sizeOf21
 v21 := Tryz.zeroValue21
 t37 := Tryz.underlying32
 a37 := Tryz.isAgg32
 z37 := Tryz.sizeOf32
 v37 := Tryz.zeroValue32
 t46 := Tryz.underlying145
 a46 := Tryz.isAgg145
 z46 := Tryz.sizeOf145
 v46 := Tryz.zeroValue145
 t51 := Tryz.underlying191
 a51 := Tryz.isAgg191
 z51 := Tryz.sizeOf191
 v51 := Tryz.zeroValue191
 t53 := Tryz.underlying193
 a53 := Tryz.isAgg193
 z53 := Tryz.sizeOf193
 v53 := Tryz.zeroValue193
 t75 := Tryz.underlying93
 a75 := Tryz.isAgg93
 z75 := Tryz.sizeOf93
 v75 := Tryz.zeroValue93
 t76 := Tryz.underlying94
 a76 := Tryz.isAgg94
 z76 := Tryz.sizeOf94
 v76 := Tryz.zeroValue94
 t85 := Tryz.underlying205
 a85 := Tryz.isAgg205
 z85 := Tryz.sizeOf205
 v85 := Tryz.zeroValue205
 t127 := Tryz.underlying134
 a127 := Tryz.isAgg134
 z127 := Tryz.sizeOf134
 v127 := Tryz.zeroValue134
 t143 := Tryz.underlying284
 a143 := Tryz.isAgg284
 z143 := Tryz.sizeOf284
 v143 := Tryz.zeroValue284
 t145 := Tryz.underlying286
 a145 := Tryz.isAgg286
 z145 := Tryz.sizeOf286
 v145 := Tryz.zeroValue286
 t167 := Tryz.underlying245
 a167 := Tryz.isAgg245
 z167 := Tryz.sizeOf245
 v167 := Tryz.zeroValue245
 t168 := Tryz.underlying246
 a168 := Tryz.isAgg246
 z168 := Tryz.sizeOf246
 v168 := Tryz.zeroValue246
 t171 := Tryz.underlying241
 a171 := Tryz.isAgg241
 z171 := Tryz.sizeOf241
 v171 := Tryz.zeroValue241
 t173 := Tryz.underlying243
 a173 := Tryz.isAgg243
 z173 := Tryz.sizeOf243
 v173 := Tryz.zeroValue243
 t175 := Tryz.underlying264
 a175 := Tryz.isAgg264
 z175 := Tryz.sizeOf264
 v175 := Tryz.zeroValue264
 t210 := Tryz.underlying277
 a210 := Tryz.isAgg277
 z210 := Tryz.sizeOf277
 v210 := Tryz.zeroValue277
 t212 := Tryz.underlying273
 a212 := Tryz.isAgg273
 z212 := Tryz.sizeOf273
 v212 := Tryz.zeroValue273
 t213 := Tryz.underlying274
 a213 := Tryz.isAgg274
 z213 := Tryz.sizeOf274
 t232 := Tryz.underlying295
 a232 := Tryz.isAgg295
 z232 := Tryz.sizeOf295
 v232 := Tryz.zeroValue295
 t233 := Tryz.underlying296
 a233 := Tryz.isAgg296
 z233 := Tryz.sizeOf296
 v233 := Tryz.zeroValue296
 g15 := by kernel_rfl
 g16 := by kernel_rfl
 g17 := by kernel_rfl
 g18 := by kernel_rfl
 g19 := by kernel_rfl
 t80 := Tryz.underlying48
 a80 := Tryz.isAgg48
 z80 := Tryz.sizeOf48
 v80 := Tryz.zeroValue48
 i0 := by kernel_rfl
 i2 := by kernel_rfl
 i3 := by kernel_rfl
 i4 := by kernel_rfl
 i5 := by kernel_rfl
 i9 := by kernel_rfl
 i20 := by kernel_rfl
 i21 := by kernel_rfl
 i37 := by kernel_rfl
 i46 := by kernel_rfl
 i51 := by kernel_rfl
 i53 := by kernel_rfl
 i75 := by kernel_rfl
 i76 := by kernel_rfl
 i80 := by kernel_rfl
 i85 := by kernel_rfl
 i127 := by kernel_rfl
 i143 := by kernel_rfl
 i145 := by kernel_rfl
 i167 := by kernel_rfl
 i168 := by kernel_rfl
 i171 := by kernel_rfl
 i173 := by kernel_rfl
 i175 := by kernel_rfl
 i210 := by kernel_rfl
 i212 := by kernel_rfl
 i232 := by kernel_rfl
 i233 := by kernel_rfl
 m15 := by kernel_rfl
 m16 := by kernel_rfl
 m17 := by kernel_rfl
 m18 := by kernel_rfl
 m19 := by kernel_rfl
 c0 := by kernel_rfl
 c2 := by kernel_rfl
 c3 := by kernel_rfl
 c4 := by kernel_rfl
 c5 := by kernel_rfl
 c9 := by kernel_rfl
 c20 := by kernel_rfl
 c21 := by kernel_rfl
 c37 := by kernel_rfl
 c46 := by kernel_rfl
 c51 := by kernel_rfl
 c53 := by kernel_rfl
 c75 := by kernel_rfl
 c76 := by kernel_rfl
 c80 := by kernel_rfl
 c85 := by kernel_rfl
 c127 := by kernel_rfl
 c143 := by kernel_rfl
 c145 := by kernel_rfl
 c167 := by kernel_rfl
 c168 := by kernel_rfl
 c171 := by kernel_rfl
 c173 := by kernel_rfl
 c175 := by kernel_rfl
 c210 := by kernel_rfl
 c212 := by kernel_rfl
 c213 := by kernel_rfl
 c232 := by kernel_rfl
 c233 := by kernel_rfl

end Go.Proofs
namespace Go.Kx.Lb
open Go.Proofs Go.Kx Go.RowKit
set_option maxRecDepth 20000
theorem atoi (s : ByteArray) (hs : s.size ≤ 1000000) (H : Hp) (G : List SB) (hv : ∀ g, (g = 2 ∨ g = 3) → ∃ te pe, H g 0 = some (.iface te pe)) :
  CallO Tryz.prog 128 [pv (.string s)] H G fun e H' G' => (∃ (v : Int) (x : Value), e = .ret (.tu [.ce (.val (.int .i64 v)), .ce (.val x)]) ∧ ((Lib.atoiAll s.data.toList = .ok v ∧ x = .nilIface) ∨ ((∀ u, Lib.atoiAll s.data.toList ≠ .ok u) ∧ ∃ te pe, x = .iface te pe))) ∧ H' = H ∧ G' = G := by
 refine (CallO.of_calls (args := [.string s]) (R := fun y => ∃ (v : Int) (x : Value), y = .tuple #[.int .i64 v, x] ∧ ((Lib.atoiAll s.data.toList = .ok v ∧ x = .nilIface) ∨ ((∀ u, Lib.atoiAll s.data.toList ≠ .ok u) ∧ ∃ te pe, x = .iface te pe))) fun w hg hin => ?_).mono ?_
 ·cases h : Lib.atoiAll s.data.toList
  ·rename_i v
   refine (Any.strconv_Atoi_ok Tryz.laysAtoi s (by omega) v h w).mono fun e w' ⟨he, hw⟩ => ⟨_, he, ⟨v, _, rfl, .inl ⟨rfl, rfl⟩⟩, ?_⟩
   rcases hw with rfl | ⟨t, rfl⟩
   ·exact grown_refl _
   ·exact ⟨rfl, rfl, rfl, by rw [Lib.bytesWorld_size]; omega, fun j hj _ => Lib.bytesWorld_at_old w _ t j hj⟩
  ·obtain ⟨te, pe, he⟩ := hv 2 (.inl rfl)
   refine (Any.strconv_Atoi_syntax Tryz.laysAtoi s (by omega) h _ w (hin _ _ _ he) (.inr ⟨te, pe, rfl⟩)).mono fun e w' ⟨N, he, _, _, hb⟩ => ⟨_, he, ⟨_, _, rfl, .inr ⟨fun u e => (nomatch e), _, _, rfl⟩⟩, grown_of_below hb⟩
  ·obtain ⟨te, pe, he⟩ := hv 3 (.inr rfl)
   refine (Any.strconv_Atoi_range Tryz.laysAtoi s (by omega) h _ w (hin _ _ _ he) (.inr ⟨te, pe, rfl⟩)).mono fun e w' ⟨N, he, _, _, hb⟩ => ⟨_, he, ⟨_, _, rfl, .inr ⟨fun u e => (nomatch e), _, _, rfl⟩⟩, grown_of_below hb⟩
 ·rintro e H' G' hle ⟨y, ⟨v, x, rfl, h⟩, rfl, rfl, rfl⟩
  exact ⟨⟨v, x, rfl, h⟩, rfl, rfl⟩
end Go.Kx.Lb
namespace Go.Kx.Re
open Go.Proofs Go.Kx Go.RowKit Go.Kx.Ob Go.Kx.Cl
set_option maxRecDepth 20000
set_option linter.unusedSimpArgs false
namespace Pe
def T : Tab := [(9, { k := TK.string, agg := false, size := 1, bytes := 16, zero := [Z.s] }), (28, { k := TK.st [(0, 9, 1), (1, 9, 1), (2, 9, 1), (3, 3, 1), (4, 9, 1), (5, 26, 3), (8, 3, 1), (9, 9, 1)], agg := true, size := 10, bytes := 144, zero := [Z.s, Z.s, Z.s, Z.i IntKind.i64, Z.s, Z.s, Z.s, Z.s, Z.i IntKind.i64, Z.s] }), (83, { k := TK.st [(0, 9, 1), (1, 9, 1), (2, 80, 1), (3, 36, 1), (4, 81, 1)], agg := true, size := 5, bytes := 72, zero := [Z.s, Z.s, Z.m, Z.sl, Z.m] }), (60, { k := TK.st [(0, 9, 1), (1, 4, 1), (2, 3, 1), (3, 3, 1), (4, 3, 1)], agg := true, size := 5, bytes := 48, zero := [Z.s, Z.b, Z.i IntKind.i64, Z.i IntKind.i64, Z.i IntKind.i64] }), (117, { k := TK.st [(0, 60, 5), (5, 3, 1)], agg := true, size := 6, bytes := 56, zero := [Z.s, Z.b, Z.i IntKind.i64, Z.i IntKind.i64, Z.i IntKind.i64, Z.i IntKind.i64] }), (57, { k := TK.slice 60, agg := false, size := 1, bytes := 24, zero := [Z.sl] }), (113, { k := TK.map 9 114, agg := false, size := 1, bytes := 8, zero := [Z.m] }), (4, { k := TK.bool, agg := false, size := 1, bytes := 1, zero := [Z.b] }), (36, { k := TK.slice 28, agg := false, size := 1, bytes := 24, zero := [Z.sl] }), (26, { k := TK.st [(0, 9, 1), (1, 9, 1), (2, 9, 1)], agg := true, size := 3, bytes := 48, zero := [Z.s, Z.s, Z.s] }), (145, { k := TK.int IntKind.u64, agg := false, size := 1, bytes := 8, zero := [Z.i IntKind.u64] }), (193, { k := TK.int IntKind.u64, agg := false, size := 1, bytes := 8, zero := [Z.i IntKind.u64] }), (5, { k := TK.int IntKind.u8, agg := false, size := 1, bytes := 1, zero := [Z.i IntKind.u8] }), (114, { k := TK.ptr 117, agg := false, size := 1, bytes := 8, zero := [Z.p] }), (93, { k := TK.ifc, agg := false, size := 1, bytes := 16, zero := [Z.ifc] }), (3, { k := TK.int IntKind.i64, agg := false, size := 1, bytes := 8, zero := [Z.i IntKind.i64] }), (23, { k := TK.ptr 83, agg := false, size := 1, bytes := 8, zero := [Z.p] }), (121, { k := TK.func, agg := false, size := 1, bytes := 8, zero := [Z.fn] }), (184, { k := TK.int IntKind.i64, agg := false, size := 1, bytes := 8, zero := [Z.i IntKind.i64] }), (191, { k := TK.int IntKind.u32, agg := false, size := 1, bytes := 4, zero := [Z.i IntKind.u32] }), (80, { k := TK.map 9 32, agg := false, size := 1, bytes := 8, zero := [Z.m] }), (81, { k := TK.map 9 4, agg := false, size := 1, bytes := 8, zero := [Z.m] }), (32, { k := TK.slice 5, agg := false, size := 1, bytes := 24, zero := [Z.sl] })]
set_option maxRecDepth 100000 in
theorem tab : TabOk Tryz.prog T := tabOk_mk (ts := [9, 28, 83, 60, 117, 57, 113, 4, 36, 26, 145, 193, 5, 114, 93, 3, 23, 121, 184, 191, 80, 81, 32]) (by kernel_rfl)
theorem mixed : Tryz.prog.follows .mixedOrders = true := by kernel_rfl
end Pe
noncomputable def numP (t : ByteArray) : Int := match Lib.atoiAll t.data.toList with
 | .ok v => if v < 0 then 0 else if strEq (Lb.itoaB v) t = false then 0 else v
 | _ => 0
theorem number_ (t : ByteArray) (ht : t.size ≤ 1000000) (H : Hp) (hE : ErrH H) : CallO Tryz.prog 86 [pv (.string t)] H [] fun e H' G' => e = .ret (pv (.int .i64 (numP t))) ∧ H' = H ∧ G' = [] := by
 refine CallO.of_body Pe.tab Tryz.func86 rfl (nt := Tryz.f86.ntmps) rfl (by kernel_rfl) ?_
 (conv => whnf)
 refine ⟨⟨_, Tryz.func128, rfl, by kernel_rfl⟩, CallS.use (Lb.atoi t ht H [] hE) [] rfl rfl trivial ?_⟩
 rintro e H1 G' hle1 ⟨⟨v, x, rfl, hv⟩, rfl, rfl⟩
 unfold numP
 rcases hv with ⟨ha, rfl⟩ | ⟨ha, te, pe, rfl⟩
 ·rw [ha]
  obtain ⟨vb0, vb1⟩ := Lib.atoiAll_bounds ha
  dsimp only
  (conv => whnf)
  refine br.of (fun h1 => ?_) (fun h1 => ?_) <;> (conv => whnf)
  ·rw [if_pos (of_decide_eq_true h1)]
   exact ⟨rfl, rfl, rfl⟩
  ·rw [if_neg (of_decide_eq_false h1)]
   refine ⟨⟨_, Tryz.func81, rfl, by kernel_rfl⟩, CallS.use (Lb.itoa v (by omega) (by omega) _ []) [] rfl rfl trivial ?_⟩
   rintro e H2 G' hle2 ⟨rfl, rfl, rfl⟩
   (conv => whnf)
   cases h2 : strEq (Lb.itoaB v) t
   ·(conv => whnf)
    exact ⟨rfl, rfl, rfl⟩
   ·(conv => whnf)
    exact ⟨rfl, rfl, rfl⟩
 ·have e0 : (match Lib.atoiAll t.data.toList with
   | .ok v => if v < 0 then (0 : Int) else if strEq (Lb.itoaB v) t = false then 0 else v
   | _ => 0) = 0 := by
   split
   ·rename_i v h; exact absurd h (ha v)
   ·rfl
  rw [e0]
  (conv => whnf)
  exact ⟨rfl, rfl, rfl⟩
def clCs (c : Clm) : List SC := [.val (.string c.iss), .val (.string c.jti), .val (.string c.aud), .val (.int .i64 c.iat), .val (.string c.txn), .val (.string c.sub.fmt), .val (.string c.sub.id), .val (.string c.sub.own), .val (.int .i64 c.kind), .val (.string c.reason)]
structure Pic where
 name : ByteArray
 on : Bool
 sess : Int
 chg : Int
 last : Int
 turned : Int
def picB (p : Pic) : SB := .box 117 [.val (.string p.name), .val (.bool p.on), .val (.int .i64 p.sess), .val (.int .i64 p.chg), .val (.int .i64 p.last), .val (.int .i64 p.turned)]
noncomputable def learnP (p : Pic) (c : Clm) : Pic :=
 let q : Pic := if c.kind = 1 then { p with sess := p.sess + 1 } else if c.kind = 2 then { p with chg := p.chg + 1 } else if c.kind = 3 ∨ c.kind = 4 then (if p.turned ≤ numP c.txn then { p with turned := numP c.txn, on := decide (c.kind = 4) } else p) else p
 { q with last := maxB p.last c.iat }
theorem learn_ (p : Pic) (c : Clm) (ht : c.txn.size ≤ 1000000) (hs : 0 ≤ p.sess ∧ p.sess ≤ 1000000) (hc : 0 ≤ p.chg ∧ p.chg ≤ 1000000) (H : Hp) (hE : ErrH H) : CallO Tryz.prog 54 [.si (.ce (.ptr 0 0)), .si (.ag (clCs c))] H [picB p] fun e H' G' => e = .ret (.tu []) ∧ H' = H ∧ G' = [picB (learnP p c)] := by
 refine CallO.of_body Pe.tab Tryz.func54 rfl (nt := Tryz.f54.ntmps) rfl (by kernel_rfl) ?_
 (conv => whnf)
 refine br.of (fun h1 => ?_) (fun h1 => ?_) <;> (conv => whnf)
 ·have hq : learnP p c = { p with sess := p.sess + 1, last := maxB p.last c.iat } := by
   unfold learnP; rw [if_pos (by simpa using h1)]
  rw [wrap64 (x := p.sess + 1) (by omega) (by omega)]
  refine WS.draw Pe.tab Pe.mixed (.take 0 (.take 1 (.take 2 (.take 3 (.take 4 (.take 6 (.take 7 (.alt 5 (.take 8 (.take 9 (.take 10 (.take 11 (.alt 12 .done .no))))) .no)))))))) (by kernel_rfl) [0] ?_
  (conv => whnf)
  repeat' (first
   | exact trivial
   | exact rfl
   | exact ⟨rfl, rfl, by rw [hq]; rfl⟩
   | (refine And.intro ?_ ?_ <;> (conv => whnf)))
 have h1 : ¬ c.kind = 1 := by simpa using h1
 refine br.of (fun h2 => ?_) (fun h2 => ?_) <;> (conv => whnf)
 ·have hq : learnP p c = { p with chg := p.chg + 1, last := maxB p.last c.iat } := by
   unfold learnP; rw [if_neg h1, if_pos (by simpa using h2)]
  rw [wrap64 (x := p.chg + 1) (by omega) (by omega)]
  refine WS.draw Pe.tab Pe.mixed (.take 0 (.take 1 (.take 2 (.take 3 (.take 4 (.take 6 (.take 7 (.alt 5 (.take 8 (.take 9 (.take 10 (.take 11 (.alt 12 .done .no))))) .no)))))))) (by kernel_rfl) [0] ?_
  (conv => whnf)
  repeat' (first
   | exact trivial
   | exact rfl
   | exact ⟨rfl, rfl, by rw [hq]; rfl⟩
   | (refine And.intro ?_ ?_ <;> (conv => whnf)))
 have h2 : ¬ c.kind = 2 := by simpa using h2
 refine br.of (fun h3 => ?_) (fun h3 => ?_) <;> (conv => whnf)
 ·refine br.of (fun _ => ?_) (fun hx => absurd h3 (by rw [hx]; decide)) <;> (conv => whnf)
  have h3 : c.kind = 3 := by simpa using h3
  refine ⟨⟨_, Tryz.func86, rfl, by kernel_rfl⟩, CallS.use (number_ c.txn ht H hE) [] rfl rfl trivial ?_⟩
  rintro e H2 G' hle2 ⟨rfl, rfl, rfl⟩
  (conv => whnf)
  refine br.of (fun h5 => ?_) (fun h5 => ?_) <;> (conv => whnf)
  ·have h5 : p.turned ≤ numP c.txn := of_decide_eq_true h5
   have hq : learnP p c = { p with turned := numP c.txn, on := decide (c.kind = 4), last := maxB p.last c.iat } := by
    unfold learnP; rw [if_neg h1, if_neg h2, if_pos (by omega), if_pos h5]
   refine WS.draw Pe.tab Pe.mixed (.take 0 (.take 1 (.take 2 (.take 3 (.take 4 (.take 5 (.take 6 (.take 7 (.alt 8 (.take 9 (.take 10 (.take 11 (.alt 12 .done .no)))) .no))))))))) (by kernel_rfl) [0] ?_
   (conv => whnf)
   repeat' (first
    | exact trivial
    | exact rfl
    | exact ⟨rfl, rfl, by rw [hq]; rfl⟩
    | (refine WS.draw Pe.tab Pe.mixed (.take 0 (.take 1 (.take 2 (.take 3 (.take 4 (.take 6 (.take 7 (.alt 5 (.take 8 (.take 9 (.take 10 (.take 11 (.alt 12 .done .no))))) .no)))))))) (by kernel_rfl) [0] ?_; (conv => whnf))
    | (refine And.intro ?_ ?_ <;> (conv => whnf)))
  ·have h5 : ¬ p.turned ≤ numP c.txn := of_decide_eq_false h5
   have hq : learnP p c = { p with last := maxB p.last c.iat } := by
    unfold learnP; rw [if_neg h1, if_neg h2, if_pos (by omega), if_neg h5]
   refine WS.draw Pe.tab Pe.mixed (.take 0 (.take 1 (.take 2 (.take 3 (.take 4 (.take 6 (.take 7 (.alt 5 (.take 8 (.take 9 (.take 10 (.take 11 (.alt 12 .done .no))))) .no)))))))) (by kernel_rfl) [0] ?_
   (conv => whnf)
   repeat' (first
    | exact trivial
    | exact rfl
    | exact ⟨rfl, rfl, by rw [hq]; rfl⟩
    | (refine And.intro ?_ ?_ <;> (conv => whnf)))
 have h3 : ¬ c.kind = 3 := by simpa using h3
 refine br.of (fun h4 => ?_) (fun h4 => ?_) <;> (conv => whnf)
 ·have h4 : c.kind = 4 := by simpa using h4
  refine ⟨⟨_, Tryz.func86, rfl, by kernel_rfl⟩, CallS.use (number_ c.txn ht H hE) [] rfl rfl trivial ?_⟩
  rintro e H2 G' hle2 ⟨rfl, rfl, rfl⟩
  (conv => whnf)
  refine br.of (fun h5 => ?_) (fun h5 => ?_) <;> (conv => whnf)
  ·have h5 : p.turned ≤ numP c.txn := of_decide_eq_true h5
   have hq : learnP p c = { p with turned := numP c.txn, on := decide (c.kind = 4), last := maxB p.last c.iat } := by
    unfold learnP; rw [if_neg h1, if_neg h2, if_pos (by omega), if_pos h5]
   refine WS.draw Pe.tab Pe.mixed (.take 0 (.take 1 (.take 2 (.take 3 (.take 4 (.take 5 (.take 6 (.take 7 (.alt 8 (.take 9 (.take 10 (.take 11 (.alt 12 .done .no)))) .no))))))))) (by kernel_rfl) [0] ?_
   (conv => whnf)
   repeat' (first
    | exact trivial
    | exact rfl
    | exact ⟨rfl, rfl, by rw [hq]; rfl⟩
    | (refine WS.draw Pe.tab Pe.mixed (.take 0 (.take 1 (.take 2 (.take 3 (.take 4 (.take 6 (.take 7 (.alt 5 (.take 8 (.take 9 (.take 10 (.take 11 (.alt 12 .done .no))))) .no)))))))) (by kernel_rfl) [0] ?_; (conv => whnf))
    | (refine And.intro ?_ ?_ <;> (conv => whnf)))
  ·have h5 : ¬ p.turned ≤ numP c.txn := of_decide_eq_false h5
   have hq : learnP p c = { p with last := maxB p.last c.iat } := by
    unfold learnP; rw [if_neg h1, if_neg h2, if_pos (by omega), if_neg h5]
   refine WS.draw Pe.tab Pe.mixed (.take 0 (.take 1 (.take 2 (.take 3 (.take 4 (.take 6 (.take 7 (.alt 5 (.take 8 (.take 9 (.take 10 (.take 11 (.alt 12 .done .no))))) .no)))))))) (by kernel_rfl) [0] ?_
   (conv => whnf)
   repeat' (first
    | exact trivial
    | exact rfl
    | exact ⟨rfl, rfl, by rw [hq]; rfl⟩
    | (refine And.intro ?_ ?_ <;> (conv => whnf)))
 ·have h4 : ¬ c.kind = 4 := by simpa using h4
  have hq : learnP p c = { p with last := maxB p.last c.iat } := by
   unfold learnP; rw [if_neg h1, if_neg h2, if_neg (by omega)]
  refine WS.draw Pe.tab Pe.mixed (.take 0 (.take 1 (.take 2 (.take 3 (.take 4 (.take 6 (.take 7 (.alt 5 (.take 8 (.take 9 (.take 10 (.take 11 (.alt 12 .done .no))))) .no)))))))) (by kernel_rfl) [0] ?_
  (conv => whnf)
  repeat' (first
   | exact trivial
   | exact rfl
   | exact ⟨rfl, rfl, by rw [hq]; rfl⟩
   | (refine And.intro ?_ ?_ <;> (conv => whnf)))
theorem len1 (H : Hp) : CallO Tryz.prog 88 [pv (.int .u64 1)] H [] fun e H' G' => e = .ret (pv (.int .i64 1)) ∧ H' = H ∧ G' = [] := by
 refine CallO.of_body Pe.tab Tryz.func88 rfl (nt := Tryz.f88.ntmps) rfl (by kernel_rfl) ?_
 (conv => whnf)
 refine ⟨⟨_, Tryz.func138, rfl, by kernel_rfl⟩, ?_⟩
 have h64 : CallO Tryz.prog 138 [pv (.int .u64 1)] H [] fun e H' G' => e = .ret (pv (.int .i64 1)) ∧ H' = H ∧ G' = [] := by
  refine CallO.of_body Pe.tab Tryz.func138 rfl (nt := Tryz.f138.ntmps) rfl (by kernel_rfl) ?_
  (conv => whnf)
  refine ⟨⟨by decide, by decide⟩, ?_⟩
  (conv => whnf)
  exact ⟨rfl, rfl, rfl⟩
 refine CallS.use h64 [] rfl rfl trivial ?_
 rintro e H2 G' hle2 ⟨rfl, rfl, rfl⟩
 (conv => whnf)
 exact ⟨rfl, rfl, rfl⟩
end Go.Kx.Re
