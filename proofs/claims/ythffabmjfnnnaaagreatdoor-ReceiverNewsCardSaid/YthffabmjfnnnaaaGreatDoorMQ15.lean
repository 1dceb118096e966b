/- Tokens: what is thrown; a part's bytes; a header's members. No condition of its own. -/
import Derived.Test.YthffabmjfnnnaaaGreatDoorMQ14
import Derived.DeepKeys
import Derived.Laws.StructEq
import Derived.Lib.SlBytesConst
import Derived.Maps.RangeRun
namespace Go.Kx.Jw
open Go.Proofs Go.Kx Go.RowKit Go.Kx.Js Go.Kx.Pr Go.Kx.Rt Go.Kx.Ob Go.Kx.Wo Go.Kx.Cl Go.Kx.Pa Go.Kx.En Go.Kx.Sha Go.Kx.Ro Go.Kx.Su
set_option maxRecDepth 20000
set_option linter.unusedSimpArgs false
def brokenV (e : Int) : Value := .iface 147 (.agg #[.int .i64 e])
def panE (e : Int) : SE := .pan [{ v := brokenV e, recovered := false }]
theorem mustY (x : Int) (H : Hp) : CallO Tryz.prog 91 [pv (.bool true), pv (.int .i64 x)] H [] fun e H' G' => e = .ret (.tu []) ∧ H' = H ∧ G' = [] := by
 refine CallO.of_body tab Tryz.func91 rfl (nt := Tryz.f91.ntmps) rfl (by kernel_rfl) ?_
 (conv => whnf)
 exact ⟨rfl, rfl, rfl⟩
theorem mustN (x : Int) (H : Hp) : CallO Tryz.prog 91 [pv (.bool false), pv (.int .i64 x)] H [] fun e H' G' => e = panE x ∧ H' = H ∧ G' = [] := by
 refine CallO.of_body tab Tryz.func91 rfl (nt := Tryz.f91.ntmps) rfl (by kernel_rfl) ?_
 (conv => whnf)
 exact ⟨rfl, rfl, rfl⟩
def RBy (s : ByteArray) (e : SE) (H' : Hp) : Prop := match decP s with
 | some L => ∃ B m c, e = .ret (pv (.slice B m c)) ∧ BytesAt H' B m L
 | none => e = panE 10
theorem bytes_ (s : ByteArray) (hs : s.size ≤ 1000000) (H : Hp) : CallO Tryz.prog 93 [pv (.string s)] H [] fun e H' G' => RBy s e H' ∧ H.Le H' ∧ G' = [] := by
 unfold RBy
 refine CallO.of_body tab Tryz.func93 rfl (nt := Tryz.f93.ntmps) rfl (by kernel_rfl) ?_
 (conv => whnf)
 refine ⟨⟨_, Tryz.func141, rfl, by kernel_rfl⟩, CallS.use (dec_ s hs H) [] rfl rfl trivial ?_⟩
 rintro e H1 G' hle1 ⟨hd, rfl⟩
 rcases hd with ⟨hd, rfl⟩ | ⟨L, B, m, c, hd, rfl, hb⟩
 all_goals
  rw [hd]
  (conv => whnf)
 ·refine ⟨⟨_, Tryz.func91, rfl, by kernel_rfl⟩, CallS.use (mustN 10 H1) [] rfl rfl trivial ?_⟩
  rintro e H2 G' hle2 ⟨rfl, rfl, rfl⟩
  (conv => whnf)
  exact ⟨rfl, hle1, rfl⟩
 ·refine ⟨⟨_, Tryz.func91, rfl, by kernel_rfl⟩, CallS.use (mustY 10 H1) [] rfl rfl trivial ?_⟩
  rintro e H2 G' hle2 ⟨rfl, rfl, rfl⟩
  (conv => whnf)
  exact ⟨⟨_, _, _, rfl, hb⟩, hle1, rfl⟩
def RW (o : Option ByteArray) (e : SE) : Prop := match o with
 | some s => e = .ret (pv (.string s))
 | none => e = panE 10
theorem member_ (j : J) (hl : j.mems.length ≤ 1000000) (s : ByteArray) (k : Int) (y : Bool) (t : ByteArray) (A : Option Addr) (n c : Nat) (B : Option Addr) (m d : Nat) (H : Hp) (hj : JAt H j [.int .i64 k, .bool y, .string t, .slice A n c, .slice B m d]) :
  CallO Tryz.prog 94 [agJ k y t A n c B m d, pv (.string s)] H [] fun e H' G' => RW (wordJ j s) e ∧ H.Le H' ∧ G' = [] := by
 unfold wordJ
 refine CallO.of_body tab Tryz.func94 rfl (nt := Tryz.f94.ntmps) rfl (by kernel_rfl) ?_
 (conv => whnf)
 refine ⟨⟨_, Tryz.func102, rfl, by kernel_rfl⟩, CallS.use (get_ j k y t A n c B m d s H hj hl) [] rfl rfl trivial ?_⟩
 rintro e H1 G' hle1 ⟨rfl, hg, rfl⟩
 cases hgj : j.get s with
 | none =>
  rw [hgj] at hg
  obtain rfl := hg
  (conv => whnf)
  refine ⟨⟨_, Tryz.func91, rfl, by kernel_rfl⟩, CallS.use (mustN 10 _) [] rfl rfl trivial ?_⟩
  rintro e H2 G' hle2 ⟨rfl, rfl, rfl⟩
  (conv => whnf)
  exact ⟨rfl, hle1, rfl⟩
 | some q =>
  rw [hgj] at hg
  obtain ⟨k2, y2, t2, A2, n2, c2, B2, m2, d2, rfl, hj2⟩ := hg
  obtain ⟨rfl, rfl⟩ : k2 = q.kind ∧ t2 = q.text := by cases hj2; exact ⟨rfl, rfl⟩
  dsimp only
  (conv => whnf)
  refine br.of (fun h => ?_) (fun h => ?_) <;> (conv => whnf)
  ·simp only [beq_iff_eq] at h
   refine ⟨⟨_, Tryz.func142, rfl, by kernel_rfl⟩, CallS.use (jwsWord q.text _) [] rfl rfl trivial ?_⟩
   rintro e H2 G' hle2 ⟨rfl, rfl⟩
   cases hw : Wo.wordP 40 q.text
   all_goals (conv => whnf)
   ·rw [if_neg (by simp)]
    refine ⟨⟨_, Tryz.func91, rfl, by kernel_rfl⟩, CallS.use (mustN 10 _) [] rfl rfl trivial ?_⟩
    rintro e H3 G' hle3 ⟨rfl, rfl, rfl⟩
    (conv => whnf)
    exact ⟨rfl, hle2, rfl⟩
   ·rw [if_pos ⟨h, rfl⟩]
    refine ⟨⟨_, Tryz.func91, rfl, by kernel_rfl⟩, CallS.use (mustY 10 _) [] rfl rfl trivial ?_⟩
    rintro e H3 G' hle3 ⟨rfl, rfl, rfl⟩
    (conv => whnf)
    exact ⟨rfl, hle2, rfl⟩
  ·simp only [beq_eq_false_iff_ne, ne_eq] at h
   rw [if_neg (fun h2 => h h2.1)]
   refine ⟨⟨_, Tryz.func91, rfl, by kernel_rfl⟩, CallS.use (mustN 10 _) [] rfl rfl trivial ?_⟩
   rintro e H3 G' hle3 ⟨rfl, rfl, rfl⟩
   (conv => whnf)
   exact ⟨rfl, hle1, rfl⟩
def RMt (b : Bool) : SE := match b with
 | true => .ret (.tu [])
 | false => panE 42
theorem method_ (j : J) (hl : j.mems.length ≤ 1000000) (k : Int) (y : Bool) (t : ByteArray) (A : Option Addr) (n c : Nat) (B : Option Addr) (m d : Nat) (H : Hp) (hj : JAt H j [.int .i64 k, .bool y, .string t, .slice A n c, .slice B m d]) :
  CallO Tryz.prog 95 [agJ k y t A n c B m d] H [] fun e H' G' => e = RMt (methodP j) ∧ H.Le H' ∧ G' = [] := by
 unfold methodP
 refine CallO.of_body tab Tryz.func95 rfl (nt := Tryz.f95.ntmps) rfl (by kernel_rfl) ?_
 (conv => whnf)
 refine ⟨⟨_, Tryz.func102, rfl, by kernel_rfl⟩, CallS.use (get_ j k y t A n c B m d sAlg H hj hl) [] rfl rfl trivial ?_⟩
 rintro e H1 G' hle1 ⟨rfl, hg, rfl⟩
 cases hgj : j.get sAlg with
 | none =>
  rw [hgj] at hg
  obtain rfl := hg
  (conv => whnf)
  refine ⟨⟨_, Tryz.func91, rfl, by kernel_rfl⟩, CallS.use (mustN 42 _) [] rfl rfl trivial ?_⟩
  rintro e H2 G' hle2 ⟨rfl, rfl, rfl⟩
  (conv => whnf)
  exact ⟨rfl, hle1, rfl⟩
 | some q =>
  rw [hgj] at hg
  obtain ⟨k2, y2, t2, A2, n2, c2, B2, m2, d2, rfl, hj2⟩ := hg
  obtain ⟨rfl, rfl⟩ : k2 = q.kind ∧ t2 = q.text := by cases hj2; exact ⟨rfl, rfl⟩
  dsimp only
  (conv => whnf)
  refine br.of (fun h => ?_) (fun h => ?_) <;> (conv => whnf)
  rotate_left
  ·have h' : (q.kind == 4) = false := h
   rw [h', Bool.false_and, Bool.false_and]
   refine ⟨⟨_, Tryz.func91, rfl, by kernel_rfl⟩, CallS.use (mustN 42 _) [] rfl rfl trivial ?_⟩
   rintro e H3 G' hle3 ⟨rfl, rfl, rfl⟩
   (conv => whnf)
   exact ⟨rfl, hle1, rfl⟩
  have h' : (q.kind == 4) = true := h
  rw [h', Bool.true_and]
  generalize strEq q.text sHs = b
  cases b
  all_goals (conv => whnf)
  ·refine ⟨⟨_, Tryz.func91, rfl, by kernel_rfl⟩, CallS.use (mustN 42 _) [] rfl rfl trivial ?_⟩
   rintro e H3 G' hle3 ⟨rfl, rfl, rfl⟩
   (conv => whnf)
   exact ⟨rfl, hle1, rfl⟩
  refine ⟨⟨_, Tryz.func91, rfl, by kernel_rfl⟩, CallS.use (mustY 42 _) [] rfl rfl trivial ?_⟩
  rintro e H3 G' hle3 ⟨rfl, rfl, rfl⟩
  (conv => whnf)
  refine ⟨⟨_, Tryz.func102, rfl, by kernel_rfl⟩, CallS.use (get_ j k y t A n c B m d sCrit _ hj hl) [] rfl rfl trivial ?_⟩
  rintro e H4 G' hle4 ⟨rfl, hg4, rfl⟩
  cases hgc : j.get sCrit with
  | none =>
   rw [hgc] at hg4
   obtain rfl := hg4
   (conv => whnf)
   refine ⟨⟨_, Tryz.func91, rfl, by kernel_rfl⟩, CallS.use (mustY 42 _) [] rfl rfl trivial ?_⟩
   rintro e H5 G' hle5 ⟨rfl, rfl, rfl⟩
   (conv => whnf)
   exact ⟨rfl, hle1, rfl⟩
  | some q4 =>
   rw [hgc] at hg4
   obtain ⟨k3, y3, t3, A3, n3, c3, B3, m3, d3, rfl, hj3⟩ := hg4
   (conv => whnf)
   refine ⟨⟨_, Tryz.func91, rfl, by kernel_rfl⟩, CallS.use (mustN 42 _) [] rfl rfl trivial ?_⟩
   rintro e H5 G' hle5 ⟨rfl, rfl, rfl⟩
   (conv => whnf)
   exact ⟨rfl, hle1, rfl⟩
end Go.Kx.Jw
namespace Go.Kx.Jw
open Go.Proofs Go.Kx Go.RowKit Go.Kx.Js Go.Kx.Pr Go.Kx.Rt Go.Kx.Ob Go.Kx.Wo Go.Kx.Cl Go.Kx.Pa Go.Kx.En Go.Kx.Sha Go.Kx.Ro Go.Kx.Su
set_option maxRecDepth 20000
set_option linter.unusedSimpArgs false
theorem partsL_mem (c : UInt8) : ∀ (r cur : List UInt8), ∀ p ∈ partsL c cur r, p.length ≤ cur.length + r.length
 | [], cur => fun p hp => by simp [partsL] at hp; subst hp; simp
 | x :: r, cur => fun p hp => by
  unfold partsL at hp
  split at hp
  ·rcases List.mem_cons.1 hp with rfl | hp
   ·simp only [List.length_cons]; omega
   ·have := partsL_mem c r [] p hp; simp only [List.length_cons, List.length_nil] at *; omega
  ·have := partsL_mem c r (cur ++ [x]) p hp; simp only [List.length_append, List.length_cons, List.length_nil] at *; omega
theorem decG_len : ∀ (l : List UInt8) (r n : Nat) {o : List UInt8}, decG r n l = some o → o.length ≤ l.length
 | [], r, n, o, h => by
  unfold decG at h
  split at h
  ·cases h
  ·injection h with h; rw [← h]; simp
 | c :: l, r, n, o, h => by
  unfold decG at h
  split at h
  ·cases h
  split at h
  ·have := decG_len l _ _ h
   simp only [List.length_cons]; omega
  ·cases hd : decG ((r * 64 + (numL c).toNat) % 2 ^ (n - 2)) (n - 2) l with
   | none => rw [hd] at h; cases h
   | some o2 =>
    rw [hd] at h
    injection h with h
    have := decG_len l _ _ hd
    rw [← h]
    simp only [List.length_cons]; omega
theorem decP_len {l o : List UInt8} (h : decP ⟨l.toArray⟩ = some o) : o.length ≤ l.length := decG_len l 0 0 h
def RTok (x : Except Int Tok) (e : SE) (H' : Hp) : Prop := match x with
 | .ok t => ∃ A n c B m d, e = .ret (.si (.ag [.val (.string t.kid), .val (.string t.typ), .val (.slice A n c), .val (.string ⟨t.signed.toArray⟩), .val (.slice B m d)])) ∧ BytesAt H' A n t.payload ∧ BytesAt H' B m t.tag
 | .error x => e = panE x
theorem parts_ (s : ByteArray) (hs : s.size ≤ 1000000) (H : Hp) : CallO Tryz.prog 61 [pv (.string s)] H [] fun e H' G' => RTok (partsP s) e H' ∧ H.Le H' ∧ G' = [] := by
 have hpl := partsL_len 46 s.data.toList []
 have hsl : s.data.toList.length = s.size := by rw [Array.length_toList]; rfl
 have hpd : partsP s = if s.size > 49152 then .error 11 else
  match partsL 46 [] s.data.toList with
  | [a, b, c] => tok3 a b c
  | _ => .error 10 := rfl
 refine CallO.of_body tab Tryz.func61 rfl (nt := Tryz.f61.ntmps) rfl (by kernel_rfl) ?_
 (conv => whnf)
 cases hsz : decide ((s.size : Int) ≤ 49152)
 all_goals (conv => whnf)
 ·have hsz := of_decide_eq_false hsz
  rw [hpd, if_pos (by omega)]
  refine ⟨⟨_, Tryz.func91, rfl, by kernel_rfl⟩, CallS.use (mustN 11 _) [] rfl rfl trivial ?_⟩
  rintro e H2 G' hle2 ⟨rfl, rfl, rfl⟩
  (conv => whnf)
  exact ⟨rfl, .refl _, rfl⟩
 have hsz := of_decide_eq_true hsz
 rw [hpd, if_neg (by omega)]
 refine ⟨⟨_, Tryz.func91, rfl, by kernel_rfl⟩, CallS.use (mustY 11 _) [] rfl rfl trivial ?_⟩
 rintro e H2 G' hle2 ⟨rfl, rfl, rfl⟩
 (conv => whnf)
 refine ⟨⟨_, Tryz.func92, rfl, by kernel_rfl⟩, CallS.use (split_ s hs _) [] rfl rfl trivial ?_⟩
 rintro e H3 G' hle3 ⟨rfl, rfl, rfl⟩
 generalize hP : partsL 46 [] s.data.toList = P at hpl
 (conv => whnf)
 by_cases h3 : P.length = 3
 rotate_left
 ·have e1 : (((P.length : Nat) : Int) == 3) = false := beq_eq_false_iff_ne.2 (by omega)
  have e2 : (match P with | [a, b, c] => tok3 a b c | _ => Except.error (10 : Int)) = .error 10 := by
   match P, h3 with
   | [], _ => rfl
   | [_], _ => rfl
   | [_, _], _ => rfl
   | [_, _, _], h => exact absurd rfl h
   | _ :: _ :: _ :: _ :: _, _ => rfl
  rw [e1, e2]
  refine ⟨⟨_, Tryz.func91, rfl, by kernel_rfl⟩, CallS.use (mustN 10 _) [] rfl rfl trivial ?_⟩
  rintro e H4 G' hle4 ⟨rfl, rfl, rfl⟩
  (conv => whnf)
  exact ⟨rfl, .refl _, rfl⟩
 obtain ⟨a, b, c, rfl⟩ : ∃ a b c, P = [a, b, c] := by
  match P, h3 with
  | [a, b, c], _ => exact ⟨a, b, c, rfl⟩
 have hpm := partsL_mem 46 s.data.toList []
 rw [hP] at hpm
 have la := hpm a (by simp)
 have lb := hpm b (by simp)
 have lc := hpm c (by simp)
 simp only [List.length_nil] at la lb lc
 have sa : (⟨a.toArray⟩ : ByteArray).size ≤ 1000000 := by rw [bs_size]; omega
 have sb : (⟨b.toArray⟩ : ByteArray).size ≤ 1000000 := by rw [bs_size]; omega
 have sc : (⟨c.toArray⟩ : ByteArray).size ≤ 1000000 := by rw [bs_size]; omega
 have ba := bytes_ ⟨a.toArray⟩ sa
 have bb := bytes_ ⟨b.toArray⟩ sb
 have bc := bytes_ ⟨c.toArray⟩ sc
 unfold RBy at ba bb bc
 have e1 : (((([a, b, c] : List (List UInt8)).length : Nat) : Int) == 3) = true := rfl
 have e3 : (match [a, b, c] with | [a, b, c] => tok3 a b c | _ => Except.error (10 : Int)) = tok3 a b c := rfl
 rw [e1, e3]
 clear hpl hpm hP hpd
 unfold tok3
 refine ⟨⟨_, Tryz.func91, rfl, by kernel_rfl⟩, CallS.use (mustY 10 _) [] rfl rfl trivial ?_⟩
 rintro e H4 G' hle4 ⟨rfl, rfl, rfl⟩
 (conv => whnf)
 refine WS.draw tab mixed (.take 0 (.take 1 (.take 2 (.take 4 (.take 5 (.take 6 (.take 8 (.take 9 (.take 10 (.alt 3 (.alt 7 (.alt 11 (.take 12 (.take 13 (.take 14 .done))) .no) .no) .no)))))))))) (by kernel_rfl) [] ?_
 (conv => whnf)
 refine ⟨⟨by decide, by show (0 : Int) < 3; decide⟩, ?_⟩
 (conv => whnf)
 refine ⟨_, rfl, ?_⟩
 (conv => whnf)
 refine ⟨⟨by decide, by show (1 : Int) < 3; decide⟩, ?_⟩
 (conv => whnf)
 refine ⟨_, rfl, ?_⟩
 (conv => whnf)
 refine ⟨⟨by decide, by show (2 : Int) < 3; decide⟩, ?_⟩
 (conv => whnf)
 refine ⟨_, rfl, ?_⟩
 (conv => whnf)
 refine And.intro ?_ ?_ <;> (conv => whnf)
 rotate_left
 ·exact trivial
 refine ⟨⟨_, Tryz.func93, rfl, by kernel_rfl⟩, CallS.use (ba H4) [] rfl rfl trivial ?_⟩
 rintro e H5 G' hle5 ⟨hx, hle5', rfl⟩
 cases hda : decP ⟨a.toArray⟩ with
 | none =>
  rw [hda] at hx
  obtain rfl := hx
  (conv => whnf)
  exact ⟨rfl, hle5, rfl⟩
 | some La =>
 rw [hda] at hx
 obtain ⟨B1, m1, c1, rfl, hb1⟩ := hx
 have hl1 := decP_len hda
 (conv => whnf)
 refine ⟨⟨rfl, rfl, trivial⟩, ?_⟩
 (conv => whnf)
 refine And.intro ?_ ?_ <;> (conv => whnf)
 rotate_left
 ·exact trivial
 refine ⟨⟨_, Tryz.func93, rfl, by kernel_rfl⟩, CallS.use (bb H5) [] rfl rfl trivial ?_⟩
 rintro e H6 G' hle6 ⟨hx, hle6', rfl⟩
 have hle6 := hle5.trans hle6
 cases hdb : decP ⟨b.toArray⟩ with
 | none =>
  rw [hdb] at hx
  obtain rfl := hx
  (conv => whnf)
  exact ⟨rfl, hle6, rfl⟩
 | some Lb =>
 rw [hdb] at hx
 obtain ⟨B2, m2, c2, rfl, hb2⟩ := hx
 have hl2 := decP_len hdb
 (conv => whnf)
 refine ⟨⟨rfl, rfl, trivial⟩, ?_⟩
 (conv => whnf)
 refine And.intro ?_ ?_ <;> (conv => whnf)
 rotate_left
 ·exact trivial
 refine ⟨⟨_, Tryz.func93, rfl, by kernel_rfl⟩, CallS.use (bc H6) [] rfl rfl trivial ?_⟩
 rintro e H7 G' hle7 ⟨hx, hle7', rfl⟩
 have hle67 := hle6'.trans hle7
 have hle7 := hle6.trans hle7
 cases hdc : decP ⟨c.toArray⟩ with
 | none =>
  rw [hdc] at hx
  obtain rfl := hx
  (conv => whnf)
  exact ⟨rfl, hle7, rfl⟩
 | some Lc =>
 rw [hdc] at hx
 obtain ⟨B3, m3, c3, rfl, hb3⟩ := hx
 have hl3 := decP_len hdc
 (conv => whnf)
 refine ⟨⟨rfl, rfl, trivial⟩, ?_⟩
 (conv => whnf)
 have hm1 := hb1.1
 have hm2 := hb2.1
 have hm3 := hb3.1
 have hb1' := hb1.mono hle67
 have hb2' := hb2.mono hle7'
 dsimp only
 have hszJ := parse_sz La 4
 have hpar := parse_ La B1 m1 c1 4 H7 hb1'.z (by omega)
 generalize parseP La 4 = X at hszJ hpar ⊢
 obtain ⟨J0, er, at0⟩ := X
 dsimp only at hszJ hpar ⊢
 have hlm := sm_len (sm_of J0 (by omega))
 refine ⟨⟨_, Tryz.func63, rfl, by kernel_rfl⟩, CallS.use hpar [] rfl rfl trivial ?_⟩
 rintro e H8 G' hle8 ⟨⟨k, y, t, A0, n0, c0, B0, m0, f0, rfl, hj⟩, rfl⟩
 have hk0 : k = J0.kind := by cases hj; rfl
 have hle8' := hle7.trans hle8
 (conv => whnf)
 refine br.of (fun h5 => ?_) (fun h5 => ?_) <;> (conv => whnf)
 rotate_left
 ·have h5 : ¬ er = 0 := by simpa using h5
  rw [if_neg (fun h => h5 h.1)]
  refine ⟨⟨_, Tryz.func91, rfl, by kernel_rfl⟩, CallS.use (mustN 10 _) [] rfl rfl trivial ?_⟩
  rintro e H9 G' hle9 ⟨rfl, rfl, rfl⟩
  (conv => whnf)
  exact ⟨rfl, hle8', rfl⟩
 have h5 : er = 0 := by simpa using h5
 generalize hk6 : ((k : Int) == 6) = b6
 cases b6
 all_goals (conv => whnf)
 ·have hk6 : ¬ k = 6 := by simpa using hk6
  rw [if_neg (fun h => hk6 (by rw [hk0]; exact h.2))]
  refine ⟨⟨_, Tryz.func91, rfl, by kernel_rfl⟩, CallS.use (mustN 10 _) [] rfl rfl trivial ?_⟩
  rintro e H9 G' hle9 ⟨rfl, rfl, rfl⟩
  (conv => whnf)
  exact ⟨rfl, hle8', rfl⟩
 have hk6 : k = 6 := by simpa using hk6
 rw [if_pos ⟨h5, by rw [← hk0]; exact hk6⟩]
 refine ⟨⟨_, Tryz.func91, rfl, by kernel_rfl⟩, CallS.use (mustY 10 _) [] rfl rfl trivial ?_⟩
 rintro e H9 G' hle9 ⟨rfl, rfl, rfl⟩
 (conv => whnf)
 clear hpar h5 ba bb bc
 have hmk := fun H' (hle : H9.Le H') => member_ J0 hlm sKid k y t A0 n0 c0 B0 m0 f0 H' (hj.mono hle)
 have hmt := fun H' (hle : H9.Le H') => member_ J0 hlm sTyp k y t A0 n0 c0 B0 m0 f0 H' (hj.mono hle)
 have hbP := hb2'.mono hle8
 have hbT := hb3.mono hle8
 unfold RW at hmk hmt
 cases hwk : wordJ J0 sKid with
 | none =>
  rw [hwk] at hmk
  refine WS.draw tab mixed (.take 0 (.take 2 (.alt 1 (.alt 3 (.take 4 (.alt 5 (.alt 6 .done .no) .no)) (.alt 5 (.alt 3 (.take 4 (.alt 6 .done .no)) .no) .no)) (.alt 5 (.alt 1 (.alt 3 (.take 4 (.alt 6 .done .no)) .no) .no) .no)))) (by kernel_rfl) [] ?_
  (conv => whnf)
  repeat' (first
   | exact trivial
   | exact ⟨rfl, rfl, rfl, trivial⟩
   | exact ⟨_, Tryz.func94, rfl, by kernel_rfl⟩
   | (refine CallS.use (hmk H9 (.refl _)) [] rfl rfl trivial ?_; rintro e H10 G' hle10 ⟨rfl, hle10', rfl⟩; (conv => whnf))
   | exact ⟨rfl, hle8'.trans hle10, rfl⟩
   | (refine And.intro ?_ ?_ <;> (conv => whnf)))
 | some kid =>
 rw [hwk] at hmk
 cases hwt : wordJ J0 sTyp with
 | none =>
  rw [hwt] at hmt
  refine WS.draw tab mixed (.take 0 (.take 2 (.alt 1 (.alt 3 (.take 4 (.alt 5 (.alt 6 .done .no) .no)) (.alt 5 (.alt 3 (.take 4 (.alt 6 .done .no)) .no) .no)) (.alt 5 (.alt 1 (.alt 3 (.take 4 (.alt 6 .done .no)) .no) .no) .no)))) (by kernel_rfl) [] ?_
  (conv => whnf)
  repeat' (first
   | exact trivial
   | exact ⟨rfl, rfl, rfl, trivial⟩
   | exact ⟨_, Tryz.func94, rfl, by kernel_rfl⟩
   | (refine CallS.use (hmk H9 (.refl _)) [] rfl rfl trivial ?_; rintro e H10 G' hle10 ⟨rfl, hle10', rfl⟩; (conv => whnf))
   | (refine CallS.use (hmt _ hle10) [] rfl rfl trivial ?_; rintro e H11 G' hle11 ⟨rfl, hle11', rfl⟩; (conv => whnf))
   | exact ⟨rfl, (hle8'.trans hle10).trans hle11, rfl⟩
   | (refine And.intro ?_ ?_ <;> (conv => whnf)))
 | some typ =>
 rw [hwt] at hmt
 dsimp only
 refine WS.draw tab mixed (.take 0 (.take 2 (.alt 1 (.alt 3 (.take 4 (.alt 5 (.alt 6 .done .no) .no)) (.alt 5 (.alt 3 (.take 4 (.alt 6 .done .no)) .no) .no)) (.alt 5 (.alt 1 (.alt 3 (.take 4 (.alt 6 .done .no)) .no) .no) .no)))) (by kernel_rfl) [] ?_
 (conv => whnf)
 repeat' (first
  | exact trivial
  | exact ⟨rfl, rfl, rfl, trivial⟩
  | exact ⟨_, Tryz.func94, rfl, by kernel_rfl⟩
  | (refine CallS.use (hmk H9 (.refl _)) [] rfl rfl trivial ?_; rintro e H10 G' hle10 ⟨rfl, hle10', rfl⟩; (conv => whnf))
  | (refine CallS.use (hmt _ hle10) [] rfl rfl trivial ?_; rintro e H11 G' hle11 ⟨rfl, hle11', rfl⟩; (conv => whnf))
  | (refine And.intro ?_ ?_ <;> (conv => whnf)))
 all_goals
  have hleE := (hle8'.trans hle10).trans hle11
  refine br.of (fun h6 => ?_) (fun h6 => ?_) <;> (conv => whnf)
  rotate_left
  ·have h6 := of_decide_eq_false h6
   rw [if_neg (fun h => h6 (by have := h.1; omega))]
   refine ⟨⟨_, Tryz.func91, rfl, by kernel_rfl⟩, CallS.use (mustN 10 _) [] rfl rfl trivial ?_⟩
   rintro e H12 G' hle12 ⟨rfl, rfl, rfl⟩
   (conv => whnf)
   exact ⟨rfl, hleE, rfl⟩
  have h6 := of_decide_eq_true h6
  generalize hk7 : ((m3 : Int) == 32) = b7
  cases b7
  all_goals (conv => whnf)
  ·have hk7 : ¬ (m3 : Int) = 32 := by simpa using hk7
   rw [if_neg (fun h => hk7 (by have := h.2; omega))]
   refine ⟨⟨_, Tryz.func91, rfl, by kernel_rfl⟩, CallS.use (mustN 10 _) [] rfl rfl trivial ?_⟩
   rintro e H12 G' hle12 ⟨rfl, rfl, rfl⟩
   (conv => whnf)
   exact ⟨rfl, hleE, rfl⟩
  have hk7 : (m3 : Int) = 32 := by simpa using hk7
  rw [if_pos ⟨by omega, by omega⟩]
  refine ⟨⟨_, Tryz.func91, rfl, by kernel_rfl⟩, CallS.use (mustY 10 _) [] rfl rfl trivial ?_⟩
  rintro e H12 G' hle12 ⟨rfl, rfl, rfl⟩
  (conv => whnf)
  refine ⟨⟨_, Tryz.func95, rfl, by kernel_rfl⟩, CallS.use (method_ J0 hlm k y t A0 n0 c0 B0 m0 f0 _ (hj.mono (hle10.trans hle11))) [] rfl rfl trivial ?_⟩
  rintro e H13 G' hle13 ⟨rfl, hle13', rfl⟩
  cases methodP J0
  all_goals (conv => whnf)
  ·rw [if_neg (by decide)]
   exact ⟨rfl, hleE.trans hle13, rfl⟩
  rw [if_pos rfl]
  have hbP2 := ((hbP.mono hle10).mono hle11).mono hle13
  have hbT2 := ((hbT.mono hle10).mono hle11).mono hle13
  have zd : (⟨#[46]⟩ : ByteArray) = ⟨([46] : List UInt8).toArray⟩ := rfl
  have hsd : (⟨a.toArray⟩ : ByteArray) ++ ⟨#[46]⟩ ++ ⟨b.toArray⟩ = ⟨(a ++ 46 :: b).toArray⟩ := by
   rw [zd, bs_app, bs_app]; simp
  have z1 : ∀ a b : ByteArray, (a ++ b).size = a.size + b.size := fun a b => ByteArray.size_append
  have q1 : (⟨a.toArray⟩ : ByteArray).size + 1 ≤ 9223372036854775807 := by omega
  have q2 : ((⟨a.toArray⟩ : ByteArray) ++ ⟨#[46]⟩).size + (⟨b.toArray⟩ : ByteArray).size ≤ 9223372036854775807 := by rw [z1]; show _ + 1 + _ ≤ _; omega
  refine WS.draw tab mixed (.take 0 (.take 1 (.take 2 (.take 3 (.take 4 (.take 5 (.take 6 (.take 7 (.take 8 (.take 9 (.take 10 (.take 11 (.alt 12 .done .no))))))))))))) (by kernel_rfl) [0] ?_
  (conv => whnf)
  refine ⟨⟨by decide, by show (0 : Int) < 3; decide⟩, ?_⟩
  (conv => whnf)
  refine ⟨_, rfl, ?_⟩
  (conv => whnf)
  refine ⟨q1, ?_⟩
  (conv => whnf)
  refine ⟨⟨by decide, by show (1 : Int) < 3; decide⟩, ?_⟩
  (conv => whnf)
  refine ⟨_, rfl, ?_⟩
  (conv => whnf)
  refine ⟨q2, ?_⟩
  (conv => whnf)
  rw [hsd]
  refine And.intro ?_ ?_ <;> (conv => whnf)
  rotate_left
  ·exact trivial
  refine ⟨⟨trivial, rfl, rfl, rfl, trivial⟩, ?_⟩
  (conv => whnf)
  exact ⟨⟨_, _, _, _, _, _, rfl, hbP2, hbT2⟩, hleE.trans hle13, rfl⟩
end Go.Kx.Jw
namespace Go.Kx.Jw
open Go.Proofs Go.Kx Go.RowKit Go.Kx.Js Go.Kx.Pr Go.Kx.Rt Go.Kx.Ob Go.Kx.Wo Go.Kx.Cl Go.Kx.Pa Go.Kx.En Go.Kx.Sha Go.Kx.Ro Go.Kx.Su
set_option maxRecDepth 20000
set_option linter.unusedSimpArgs false
def pB (cs : List SC) : SB := .box 67 cs
def eB (e : Int) : SB := .box 40 [.val (.int .i64 e)]
def zP : List SC := [.val (.string ⟨#[]⟩), .val (.string ⟨#[]⟩), .val (.slice none 0 0), .val (.string ⟨#[]⟩), .val (.slice none 0 0)]
theorem catchYes (e : Int) (H : Hp) : CallDO Tryz.prog 90 [.si (.ce (.ptr 0 0)), .si (.ce (.ptr 1 0))] (.panicking [⟨brokenV e, false, false⟩]) H [pB zP, eB 0] fun u H' G' => u = .panicking [⟨brokenV e, true, false⟩] ∧ H' = H ∧ G' = [pB zP, eB e] := by
 refine CallDO.of_body tab Tryz.func90 rfl rfl rfl rfl (nt := Tryz.f90.ntmps) rfl (by kernel_rfl) ?_
 (conv => whnf)
 refine WS.draw tab mixed (.take 0 (.take 1 (.take 2 (.alt 3 (.alt 4 .done .no) .no)))) (by kernel_rfl) [0, 1] ?_
 (conv => whnf)
 repeat' (first
  | exact trivial
  | exact rfl
  | exact ⟨trivial, trivial, rfl, trivial⟩
  | exact ⟨rfl, rfl, rfl⟩
  | (refine And.intro ?_ ?_ <;> (conv => whnf)))
theorem catchNo (b : List SC) (H : Hp) : CallDO Tryz.prog 90 [.si (.ce (.ptr 0 0)), .si (.ce (.ptr 1 0))] .returning H [pB b, eB 0] fun u H' G' => u = .returning ∧ H' = H ∧ G' = [pB b, eB 0] := by
 refine CallDO.of_body tab Tryz.func90 rfl rfl rfl rfl (nt := Tryz.f90.ntmps) rfl (by kernel_rfl) ?_
 (conv => whnf)
 try split
 all_goals exact ⟨rfl, rfl, rfl⟩
def RTk (x : Except Int Tok) (e : SE) (H' : Hp) : Prop := match x with
 | .ok t => ∃ A n c B m d, e = .ret (.tu [.ag [.val (.string t.kid), .val (.string t.typ), .val (.slice A n c), .val (.string ⟨t.signed.toArray⟩), .val (.slice B m d)], .ce (.val (.int .i64 0))]) ∧ BytesAt H' A n t.payload ∧ BytesAt H' B m t.tag
 | .error x => e = .ret (.tu [.ag zP, .ce (.val (.int .i64 x))])
theorem caught_ (s : ByteArray) (hs : s.size ≤ 1000000) (H : Hp) : CallO Tryz.prog 60 [.si (.ce (.fn (.func 61) 0 [])), pv (.string s)] H [] fun e H' G' => RTk (partsP s) e H' ∧ H.Le H' ∧ G' = [] := by
 have hp := parts_ s hs
 generalize partsP s = X at hp ⊢
 refine CallO.of_bodyD tab Tryz.func60 rfl (pre := [_]) rfl rfl rfl (nt := Tryz.f60.ntmps) rfl (by kernel_rfl) [4, 5] ?_
 (conv => whnf)
 refine ⟨⟨_, Tryz.func90, rfl, by kernel_rfl⟩, ?_⟩
 (conv => whnf)
 intro ds vs
 (conv => whnf)
 refine ⟨⟨_, Tryz.func61, rfl, by kernel_rfl⟩, CallS.use (hp H) [] rfl rfl trivial ?_⟩
 rintro e H2 G' hle2 ⟨hout, hle2', rfl⟩
 cases X with
 | error x =>
  obtain rfl := hout
  (conv => whnf)
  refine CallDS.use (catchYes x H2) ?_
  rintro u' H3 G' hle3 ⟨rfl, rfl, rfl⟩
  (conv => whnf)
  exact ⟨rfl, hle2, rfl⟩
 | ok tk =>
  obtain ⟨A, n, c, B, m, d, rfl, hb1, hb2⟩ := hout
  (conv => whnf)
  refine CallDS.use (catchNo _ H2) ?_
  rintro u' H3 G' hle3 ⟨rfl, rfl, rfl⟩
  (conv => whnf)
  exact ⟨⟨_, _, _, _, _, _, rfl, hb1, hb2⟩, hle2, rfl⟩
theorem parse_ (s : ByteArray) (hs : s.size ≤ 1000000) (H : Hp) : CallO Tryz.prog 30 [pv (.string s)] H [] fun e H' G' => RTk (partsP s) e H' ∧ H.Le H' ∧ G' = [] := by
 have hp := caught_ s hs
 generalize partsP s = X at hp ⊢
 refine CallO.of_body tab Tryz.func30 rfl (nt := Tryz.f30.ntmps) rfl (by kernel_rfl) ?_
 (conv => whnf)
 refine ⟨⟨_, Tryz.func60, rfl, by kernel_rfl⟩, CallS.use (hp H) [] rfl rfl trivial ?_⟩
 rintro e H2 G' hle2 ⟨hout, hle2', rfl⟩
 cases X with
 | error x =>
  obtain rfl := hout
  (conv => whnf)
  exact ⟨rfl, hle2, rfl⟩
 | ok tk =>
  obtain ⟨A, n, c, B, m, d, rfl, hb1, hb2⟩ := hout
  (conv => whnf)
  exact ⟨⟨_, _, _, _, _, _, rfl, hb1, hb2⟩, hle2, rfl⟩
end Go.Kx.Jw
namespace Go.Kx.Jw
open Go.Proofs Go.Kx Go.RowKit Go.Kx.Js Go.Kx.Pr Go.Kx.Rt Go.Kx.Ob Go.Kx.Wo Go.Kx.Cl Go.Kx.Pa Go.Kx.En Go.Kx.Sha Go.Kx.Ro Go.Kx.Su
set_option maxRecDepth 20000
set_option linter.unusedSimpArgs false
namespace Eq
def T : Tab := [(5, { k := TK.int IntKind.u8, agg := false, size := 1, bytes := 1, zero := [Z.i IntKind.u8] }), (67, { k := TK.st [(0, 65, 2), (2, 32, 1), (3, 9, 1), (4, 32, 1)], agg := true, size := 5, bytes := 96, zero := [Z.s, Z.s, Z.sl, Z.s, Z.sl] }), (65, { k := TK.st [(0, 9, 1), (1, 9, 1)], agg := true, size := 2, bytes := 32, zero := [Z.s, Z.s] }), (9, { k := TK.string, agg := false, size := 1, bytes := 16, zero := [Z.s] }), (32, { k := TK.slice 5, agg := false, size := 1, bytes := 24, zero := [Z.sl] }), (40, { k := TK.int IntKind.i64, agg := false, size := 1, bytes := 8, zero := [Z.i IntKind.i64] }), (4, { k := TK.bool, agg := false, size := 1, bytes := 1, zero := [Z.b] }), (3, { k := TK.int IntKind.i64, agg := false, size := 1, bytes := 8, zero := [Z.i IntKind.i64] }), (197, { k := TK.slice 32, agg := false, size := 1, bytes := 24, zero := [Z.sl] })]
set_option maxRecDepth 100000 in
theorem tab : TabOk Tryz.prog T := tabOk_mk (ts := [5, 67, 65, 9, 32, 40, 4, 3, 197]) (by kernel_rfl)
end Eq
theorem bytesV {H : Hp} {A : Option Addr} {n : Nat} {a : List UInt8} (h : BytesAt H A n a) : VAt H A n (bCells a) := ⟨by rw [bCells_length]; exact h.1, fun e => by rw [h.2.1 e]; rfl, h.2.2⟩
theorem bCells_at (a : List UInt8) (i : Nat) (h : i < a.length) : (bCells a)[i]? = some (.int .u8 (a[i]'h).toNat) := by unfold bCells; simp [h]
theorem or8' (a b : UInt8) : IntKind.u8.wrap ((BitVec.ofInt IntKind.u8.bits (a.toNat : Int) ||| BitVec.ofInt IntKind.u8.bits (b.toNat : Int)).toNat : Int) = ((a ||| b).toNat : Int) := by
 have h1 : BitVec.ofInt IntKind.u8.bits (a.toNat : Int) = a.toBitVec := by
  show BitVec.ofInt 8 _ = _
  rw [BitVec.ofInt_natCast]; simp
 have h2 : BitVec.ofInt IntKind.u8.bits (b.toNat : Int) = b.toBitVec := by
  show BitVec.ofInt 8 _ = _
  rw [BitVec.ofInt_natCast]; simp
 rw [h1, h2]
 have := (a ||| b).toNat_lt
 show ((a ||| b).toNat : Int) % 256 = _
 omega
theorem or_zero (a b : UInt8) : a ||| b = 0 ↔ a = 0 ∧ b = 0 := by
 constructor
 ·intro h
  have h1 := congrArg UInt8.toBitVec h
  simp only [UInt8.toBitVec_or] at h1
  have h2 : (0 : UInt8).toBitVec = 0#8 := rfl
  rw [h2, BitVec.or_eq_zero_iff] at h1
  exact ⟨UInt8.eq_of_toBitVec_eq h1.1, UInt8.eq_of_toBitVec_eq h1.2⟩
 ·rintro ⟨rfl, rfl⟩; rfl
theorem xor_zero (a b : UInt8) : a ^^^ b = 0 ↔ a = b := by
 constructor
 ·intro h
  have h1 := congrArg UInt8.toBitVec h
  simp only [UInt8.toBitVec_xor] at h1
  have h2 : (0 : UInt8).toBitVec = 0#8 := rfl
  rw [h2, BitVec.xor_eq_zero_iff] at h1
  exact UInt8.eq_of_toBitVec_eq h1
 ·rintro rfl; simp
theorem equal_ (a b : List UInt8) (A : Option Addr) (n c : Nat) (B : Option Addr) (m d : Nat) (hn : n ≤ 1000000) (hm : m ≤ 1000000) (H : Hp) (ha : BytesAt H A n a) (hb : BytesAt H B m b) :
  CallO Tryz.prog 96 [pv (.slice A n c), pv (.slice B m d)] H [] fun e H' G' => e = .ret (pv (.bool (decide (a = b)))) ∧ H' = H ∧ G' = [] := by
 have ha1 := ha.1
 have hb1 := hb.1
 refine CallO.of_body Eq.tab Tryz.func96 rfl (nt := Tryz.f96.ntmps) rfl (by kernel_rfl) ?_
 (conv => whnf)
 refine br.of (fun h1 => ?_) (fun h1 => ?_) <;> (conv => whnf)
 ·simp only [bne_iff_ne, ne_eq] at h1
  rw [decide_eq_false (fun h => h1 (by rw [ha1, hb1, h]))]
  exact ⟨rfl, rfl, rfl⟩
 simp only [bne_eq_false_iff_eq] at h1
 refine WS.loop (fun k' F H3 G => ∃ (i : Nat) (x : UInt8), i ≤ n ∧ (x = 0 ↔ a.take i = b.take i) ∧ k' = n - i ∧ F = [(0, pv (.slice A n c)), (1, pv (.slice B m d)), (5, pv (.int .u8 x.toNat)), (13, pv (.int .i64 n)), (14, pv (.int .i64 i))] ∧ H3 = H ∧ G = []) (n + 1) ?_ ?_
 ·refine ⟨n, by omega, _, _, [], ⟨0, 0, by omega, ⟨fun _ => by simp, fun _ => rfl⟩, rfl, rfl, rfl, rfl⟩, ?_⟩
  exact ⟨rfl, trivial, rfl, rfl, rfl, rfl, rfl, trivial⟩
 rintro k' F H3 G hle3 ⟨i, x, hi, hx, rfl, rfl, rfl, rfl⟩
 refine codeL.go Eq.tab ?_
 (conv => whnf)
 refine br.of (fun h7 => ?_) (fun h7 => ?_) <;> (conv => whnf)
 ·have h7 := of_decide_eq_true h7
  refine WS.draw Eq.tab mixed (.take 0 (.take 1 (.take 2 (.take 3 (.take 4 (.take 5 (.take 6 (.take 7 (.take 8 (.take 9 (.take 10 (.take 11 .done)))))))))))) (by kernel_rfl) [] ?_
  (conv => whnf)
  have hin : i < n := by omega
  have hia : i < a.length := by omega
  have hib : i < b.length := by omega
  have ga := bCells_at a i hia
  have gb := bCells_at b i hib
  have ta : a.take (i + 1) = a.take i ++ [a[i]'hia] := by rw [List.take_add_one, List.getElem?_eq_getElem hia]; rfl
  have tb : b.take (i + 1) = b.take i ++ [b[i]'hib] := by rw [List.take_add_one, List.getElem?_eq_getElem hib]; rfl
  generalize a[i]'hia = p at ga ta
  generalize b[i]'hib = q at gb tb
  have ho : (i : Int).toNat * 1 = i := by omega
  refine ⟨⟨by omega, by omega⟩, (bytesV ha).addr (by omega), ?_⟩
  (conv => whnf)
  refine ⟨_, (bytesV ha).get ga ho, ?_⟩
  (conv => whnf)
  refine ⟨⟨by omega, by omega⟩, (bytesV hb).addr (by omega), ?_⟩
  (conv => whnf)
  refine ⟨_, (bytesV hb).get gb ho, ?_⟩
  (conv => whnf)
  rw [xor8]
  (conv => whnf)
  rw [or8', wrap64 (x := (i : Int) + 1) (by omega) (by omega)]
  refine ⟨n - (i + 1), by omega, _, _, [], ⟨i + 1, x ||| (p ^^^ q), by omega, ?_, rfl, rfl, rfl, rfl⟩, ?_⟩
  ·rw [or_zero, xor_zero, hx, ta, tb]
   constructor
   ·rintro ⟨h1, h2⟩; rw [h1, h2]
   ·intro h
    have := List.append_inj h (by simp only [List.length_take]; omega)
    exact ⟨this.1, by simpa using this.2⟩
  ·exact ⟨rfl, trivial, rfl, rfl, rfl, rfl, rfl, trivial⟩
 ·have h7 := of_decide_eq_false h7
  obtain rfl : i = n := by omega
  rw [List.take_of_length_le (by omega), List.take_of_length_le (by omega)] at hx
  refine ⟨congrArg (fun b => SE.ret (pv (.bool b))) ?_, rfl, rfl⟩
  rw [Bool.eq_iff_iff, beq_iff_eq, decide_eq_true_eq, ← hx]
  constructor
  ·intro h; exact UInt8.toNat_inj.1 (by show x.toNat = 0; omega)
  ·intro h; subst h; rfl
theorem tok3_err {a b c : List UInt8} {x : Int} (h : tok3 a b c = .error x) : x = 10 ∨ x = 42 := by
 unfold tok3 at h
 split at h
 ·split at h
  ·split at h
   ·split at h
    ·split at h
     ·cases h
     ·injection h with h; exact .inr h.symm
    ·injection h with h; exact .inl h.symm
   ·injection h with h; exact .inl h.symm
  ·injection h with h; exact .inl h.symm
 ·injection h with h; exact .inl h.symm
theorem parts_err {s : ByteArray} {x : Int} (h : partsP s = .error x) : x = 10 ∨ x = 11 ∨ x = 42 := by
 unfold partsP at h
 split at h
 ·injection h with h; exact .inr (.inl h.symm)
 split at h
 ·rcases tok3_err h with h | h
  ·exact .inl h
  ·exact .inr (.inr h)
 ·injection h with h; exact .inl h.symm
theorem verify_ (s : ByteArray) (hs : s.size ≤ 1000000) (key : List UInt8) (B : Option Addr) (m d : Nat) (hm : m ≤ 1000000) (H : Hp) (hk : BytesAt H B m key) :
  CallO Tryz.prog 62 [pv (.string s), pv (.slice B m d)] H [] fun e H' G' => RTk (verifyP s key) e H' ∧ H.Le H' ∧ G' = [] := by
 have hp := parse_ s hs
 have hk1 := hk.1
 have hsz : ∀ t, partsP s = .ok t → t.signed.length ≤ 1000000 ∧ t.tag.length = 32 := by
  intro t ht
  have hpl := partsL_mem 46 s.data.toList []
  have hsl : s.data.toList.length = s.size := by rw [Array.length_toList]; rfl
  unfold partsP at ht
  split at ht
  ·cases ht
  split at ht
  ·rename_i a b c hP
   rw [hP] at hpl
   have h1 := hpl a (by simp)
   have h2 := hpl b (by simp)
   simp only [List.length_nil] at h1 h2
   unfold tok3 at ht
   split at ht
   ·split at ht
    ·split at ht
     ·split at ht
      ·split at ht
       ·injection ht with ht
        rename_i hlen _
        rw [← ht]
        simp only [List.length_append, List.length_cons]
        exact ⟨by omega, hlen.2⟩
       ·cases ht
      ·cases ht
     ·cases ht
    ·cases ht
   ·cases ht
  ·cases ht
 have herr : ∀ x, partsP s = .error x → x ≠ 0 := fun x hx => by rcases parts_err hx with h | h | h <;> omega
 unfold verifyP
 generalize partsP s = X at hp hsz herr ⊢
 refine CallO.of_body Eq.tab Tryz.func62 rfl (nt := Tryz.f62.ntmps) rfl (by kernel_rfl) ?_
 (conv => whnf)
 refine ⟨⟨_, Tryz.func30, rfl, by kernel_rfl⟩, CallS.use (hp H) [] rfl rfl trivial ?_⟩
 rintro e H2 G' hle2 ⟨hout, hle2', rfl⟩
 cases X with
 | error x =>
  have hx := herr x rfl
  obtain rfl := hout
  (conv => whnf)
  refine br.of (fun h1 => ?_) (fun h1 => ?_) <;> (conv => whnf)
  ·exact ⟨rfl, hle2, rfl⟩
  ·simp only [bne_eq_false_iff_eq] at h1
   exact absurd h1 hx
 | ok tk =>
  have hsg := (hsz tk rfl).1
  have htg := (hsz tk rfl).2
  obtain ⟨A, n, c, B1, m1, d1, rfl, hb1, hb2⟩ := hout
  dsimp only
  (conv => whnf)
  refine br.of (fun h1 => ?_) (fun h1 => ?_) <;> (conv => whnf)
  ·have h1 := of_decide_eq_true h1
   rw [if_pos (by omega)]
   exact ⟨rfl, hle2, rfl⟩
  have h1 := of_decide_eq_false h1
  rw [if_neg (by omega)]
  refine WS.draw Eq.tab mixed (.take 0 (.take 1 (.take 2 (.take 3 (.take 4 (.alt 5 (.alt 6 (.alt 7 (.alt 8 (.take 9 (.take 10 .done)) .no) .no) .no) .no)))))) (by kernel_rfl) [] ?_
  (conv => whnf)
  repeat' (first
   | exact trivial
   | exact rfl
   | exact ⟨rfl, rfl, trivial⟩
   | exact ⟨_, Tryz.func97, rfl, by kernel_rfl⟩
   | exact ⟨_, Tryz.func96, rfl, by kernel_rfl⟩
   | exact Nat.le_of_ble_eq_true rfl
   | (intro g2 cap2 H6 hle6 hcap2 hrd2; rw [bs_cells] at hrd2; (conv => whnf))
   | (refine .inl ?_; intro g3 H7 hle7 hrd3; (conv => whnf))
   | (refine And.intro ?_ ?_ <;> (conv => whnf)))
  have hleA := (hle2.trans hle6).trans hle7
  refine CallS.use (Sha.code key [tk.signed] B (some ⟨g3, 0, none⟩) m d 1 1 H7 (hk.mono hleA) ⟨_, rfl, hrd3, .cons ⟨_, _, _, rfl, (BytesAt.lit (bs_size _) hrd2).mono hle7⟩ .nil⟩ hm (by decide) (by simp only [List.flatten_cons, List.flatten_nil, List.append_nil]; omega)) [] rfl rfl trivial ?_
  rintro e H8 G' hle8 ⟨⟨B8, m8, c8, rfl, hb8⟩, rfl⟩
  have hm8 := hb8.1
  simp only [List.flatten_cons, List.flatten_nil, List.append_nil] at hb8 hm8
  have l4 : (hmac key tk.signed).length = 32 := sha_length _
  have hleB := (hle6.trans hle7).trans hle8
  have hleC := hle2.trans hleB
  have hb2' := hb2.mono hleB
  have hb1' := hb1.mono hleB
  have heq := equal_ tk.tag (hmac key tk.signed) B1 m1 d1 B8 m8 c8 (by have := hb2.1; omega) (by omega) H8 hb2' hb8
  have hd : decide (tk.tag = hmac key tk.signed) = true ∨ decide (tk.tag = hmac key tk.signed) = false := by cases decide (tk.tag = hmac key tk.signed) <;> simp
  rcases hd with hd | hd
  ·rw [hd] at heq
   rw [if_pos (of_decide_eq_true hd)]
   (conv => whnf)
   repeat' (first
    | exact trivial
    | exact rfl
    | exact ⟨rfl, rfl, trivial⟩
    | exact ⟨_, Tryz.func96, rfl, by kernel_rfl⟩
    | (refine CallS.use heq [] rfl rfl trivial ?_; rintro e H9 G' hle9 ⟨rfl, rfl, rfl⟩; (conv => whnf))
    | exact ⟨⟨_, _, _, _, _, _, rfl, hb1', hb2'⟩, hleC, rfl⟩
    | (refine And.intro ?_ ?_ <;> (conv => whnf)))
  ·rw [hd] at heq
   rw [if_neg (of_decide_eq_false hd)]
   (conv => whnf)
   repeat' (first
    | exact trivial
    | exact rfl
    | exact ⟨rfl, rfl, trivial⟩
    | exact ⟨_, Tryz.func96, rfl, by kernel_rfl⟩
    | (refine CallS.use heq [] rfl rfl trivial ?_; rintro e H9 G' hle9 ⟨rfl, rfl, rfl⟩; (conv => whnf))
    | exact ⟨rfl, hleC, rfl⟩
    | (refine And.intro ?_ ?_ <;> (conv => whnf)))
end Go.Kx.Jw
namespace Go.Kx.Se
open Go.Proofs Go.Kx Go.RowKit Go.Kx.Js Go.Kx.Pr Go.Kx.Rt Go.Kx.Ob Go.Kx.Wo Go.Kx.Cl Go.Kx.Pa Go.Kx.Su Go.Kx.Jw
set_option maxRecDepth 20000
set_option linter.unusedSimpArgs false
namespace Sg
def T : Tab := [(28, { k := TK.st [(0, 9, 1), (1, 9, 1), (2, 9, 1), (3, 3, 1), (4, 9, 1), (5, 26, 3), (8, 3, 1), (9, 9, 1)], agg := true, size := 10, bytes := 144, zero := [Z.s, Z.s, Z.s, Z.i IntKind.i64, Z.s, Z.s, Z.s, Z.s, Z.i IntKind.i64, Z.s] }), (77, { k := TK.st [(0, 3, 1), (1, 4, 1), (2, 9, 1), (3, 74, 1), (4, 75, 1)], agg := true, size := 5, bytes := 80, zero := [Z.i IntKind.i64, Z.b, Z.s, Z.sl, Z.sl] }), (67, { k := TK.st [(0, 65, 2), (2, 32, 1), (3, 9, 1), (4, 32, 1)], agg := true, size := 5, bytes := 96, zero := [Z.s, Z.s, Z.sl, Z.s, Z.sl] }), (65, { k := TK.st [(0, 9, 1), (1, 9, 1)], agg := true, size := 2, bytes := 32, zero := [Z.s, Z.s] }), (5, { k := TK.int IntKind.u8, agg := false, size := 1, bytes := 1, zero := [Z.i IntKind.u8] }), (9, { k := TK.string, agg := false, size := 1, bytes := 16, zero := [Z.s] }), (26, { k := TK.st [(0, 9, 1), (1, 9, 1), (2, 9, 1)], agg := true, size := 3, bytes := 48, zero := [Z.s, Z.s, Z.s] }), (32, { k := TK.slice 5, agg := false, size := 1, bytes := 24, zero := [Z.sl] }), (40, { k := TK.int IntKind.i64, agg := false, size := 1, bytes := 8, zero := [Z.i IntKind.i64] }), (4, { k := TK.bool, agg := false, size := 1, bytes := 1, zero := [Z.b] }), (3, { k := TK.int IntKind.i64, agg := false, size := 1, bytes := 8, zero := [Z.i IntKind.i64] }), (74, { k := TK.slice 77, agg := false, size := 1, bytes := 24, zero := [Z.sl] }), (75, { k := TK.slice 107, agg := false, size := 1, bytes := 24, zero := [Z.sl] }), (107, { k := TK.st [(0, 9, 1), (1, 77, 5)], agg := true, size := 6, bytes := 96, zero := [Z.s, Z.i IntKind.i64, Z.b, Z.s, Z.sl, Z.sl] })]
set_option maxRecDepth 100000 in
theorem tab : TabOk Tryz.prog T := tabOk_mk (ts := [28, 77, 67, 65, 5, 9, 26, 32, 40, 4, 3, 74, 75, 107]) (by kernel_rfl)
end Sg
theorem print_cl {c : Clm} (h : RightC c) : printP (clJ c) = (⟨(wrJ (clJ c)).toArray⟩, 0) := by unfold printP; rw [if_pos (cl_right h)]
theorem sign0 (a b c : ByteArray) (n : Int) (t f i o : ByteArray) (k : Int) (r : ByteArray) (hk : -9223372036854775808 ≤ k ∧ k ≤ 9223372036854775807) (kid : ByteArray) (key : List UInt8) (B : Option Addr) (d : Nat) (hm : key.length ≤ 1000000) (H : Hp) (hb : BytesZ H B key.length key) :
  CallO Tryz.prog 38 [.si (.ag (cs10 a b c n t f i o k r)), pv (.string kid), pv (.slice B key.length d)] H [] fun e H' G' => e = .ret (.tu [.ce (.val (.string (csignP ⟨a, b, c, n, t, ⟨f, i, o⟩, k, r⟩ kid key).1)), .ce (.val (.int .i64 (csignP ⟨a, b, c, n, t, ⟨f, i, o⟩, k, r⟩ kid key).2))]) ∧ H.Le H' ∧ G' = [] := by
 have hv := value0 a b c n t f i o k r hk
 have hri := right_iff ⟨a, b, c, n, t, ⟨f, i, o⟩, k, r⟩
 unfold valP at hv
 unfold csignP
 generalize (⟨a, b, c, n, t, ⟨f, i, o⟩, k, r⟩ : Clm) = C at hv hri ⊢
 refine CallO.of_body Sg.tab Tryz.func38 rfl (nt := Tryz.f38.ntmps) rfl (by kernel_rfl) ?_
 (conv => whnf)
 refine ⟨⟨_, Tryz.func39, rfl, by kernel_rfl⟩, CallS.use (hv H) [] rfl rfl trivial ?_⟩
 rintro e H1 G' hle1 ⟨⟨k2, y2, t2, A2, n2, c2, B2, m2, d2, rfl, hj2⟩, hle1', rfl⟩
 cases hr : clRight C
 all_goals
  rw [hr] at hj2
  (conv => whnf)
 ·exact ⟨rfl, hle1, rfl⟩
 rw [if_neg (show ¬ (true = false) by decide)]
 have hR := hri.1 hr
 have hpr := print_ (clJ C) (cl_sm hR) (cl_wr6 hR) k2 y2 t2 A2 n2 c2 B2 m2 d2 H1 hj2
 rw [print_cl hR] at hpr
 have hl := cl_wrl hR
 refine ⟨⟨_, Tryz.func33, rfl, by kernel_rfl⟩, CallS.use hpr [] rfl rfl trivial ?_⟩
 rintro e H2 G' hle2 ⟨rfl, hle2', rfl⟩
 (conv => whnf)
 intro g cap H3 hle3 hcap hrd
 rw [bs_cells] at hrd
 rw [bs_size]
 (conv => whnf)
 have hleA := (hle1.trans hle2).trans hle3
 refine ⟨⟨_, Tryz.func68, rfl, by kernel_rfl⟩, CallS.use (Jw.signZ_ kid sType (wrJ (clJ C)) key (some ⟨g, 0, none⟩) cap B d (by omega) hm H3 (BytesAt.lit rfl hrd).z (hb.mono hleA)) [] rfl rfl trivial ?_⟩
 rintro e H4 G' hle4 ⟨rfl, hle4', rfl⟩
 (conv => whnf)
 exact ⟨rfl, hleA.trans hle4, rfl⟩
theorem signZ_ (C : Clm) (hk : -9223372036854775808 ≤ C.kind ∧ C.kind ≤ 9223372036854775807) (kid : ByteArray) (key : List UInt8) (B : Option Addr) (d : Nat) (hm : key.length ≤ 1000000) (H : Hp) (hb : BytesZ H B key.length key) :
  CallO Tryz.prog 38 [agC C, pv (.string kid), pv (.slice B key.length d)] H [] fun e H' G' => e = .ret (.tu [.ce (.val (.string (csignP C kid key).1)), .ce (.val (.int .i64 (csignP C kid key).2))]) ∧ H.Le H' ∧ G' = [] :=
 sign0 C.iss C.jti C.aud C.iat C.txn C.sub.fmt C.sub.id C.sub.own C.kind C.reason hk kid key B d hm H hb
theorem sign_ (C : Clm) (hk : -9223372036854775808 ≤ C.kind ∧ C.kind ≤ 9223372036854775807) (kid : ByteArray) (key : List UInt8) (B : Option Addr) (d : Nat) (hm : key.length ≤ 1000000) (H : Hp) (hb : BytesAt H B key.length key) :
  CallO Tryz.prog 38 [agC C, pv (.string kid), pv (.slice B key.length d)] H [] fun e H' G' => e = .ret (.tu [.ce (.val (.string (csignP C kid key).1)), .ce (.val (.int .i64 (csignP C kid key).2))]) ∧ H.Le H' ∧ G' = [] :=
 signZ_ C hk kid key B d hm H hb.z
def RCl (x : Except Int Clm) (e : SE) : Prop := match x with
 | .ok c => e = .ret (.tu [.ag (csC c), .ce (.val (.int .i64 0))])
 | .error x => e = .ret (.tu [.ag (csC clm0), .ce (.val (.int .i64 x))])
theorem verify_err {s : ByteArray} {key : List UInt8} {x : Int} (h : verifyP s key = .error x) : x ≠ 0 := by
 unfold verifyP at h
 split at h
 ·rename_i e he
  injection h with h
  rcases parts_err he with h1 | h1 | h1 <;> omega
 ·split at h
  ·injection h with h; omega
  ·split at h
   ·cases h
   ·injection h with h; omega
theorem verify_len {s : ByteArray} {key : List UInt8} {t : Tok} (h : verifyP s key = .ok t) : t.payload.length ≤ 16384 := by
 unfold verifyP at h
 split at h
 ·cases h
 ·rename_i t' ht
  split at h
  ·cases h
  split at h
  ·injection h with h
   subst h
   unfold partsP at ht
   split at ht
   ·cases ht
   split at ht
   ·unfold tok3 at ht
    split at ht
    ·split at ht
     ·split at ht
      ·split at ht
       ·rename_i hlen
        split at ht
        ·injection ht with ht
         rw [← ht]; exact hlen.1
        ·cases ht
       ·cases ht
      ·cases ht
     ·cases ht
    ·cases ht
   ·cases ht
  ·cases h
theorem read_ (s : ByteArray) (hs : s.size ≤ 1000000) (key : List UInt8) (B : Option Addr) (m d : Nat) (hm : m ≤ 1000000) (H : Hp) (hE : ErrH H) (hk : BytesAt H B m key) :
  CallO Tryz.prog 31 [pv (.string s), pv (.slice B m d)] H [] fun e H' G' => RCl (readP s key) e ∧ H.Le H' ∧ G' = [] := by
 have hv := verify_ s hs key B m d hm H hk
 have herr := fun x => verify_err (s := s) (key := key) (x := x)
 have hlen := fun t => verify_len (s := s) (key := key) (t := t)
 unfold readP
 generalize verifyP s key = X at hv herr hlen ⊢
 refine CallO.of_body Sg.tab Tryz.func31 rfl (nt := Tryz.f31.ntmps) rfl (by kernel_rfl) ?_
 (conv => whnf)
 refine ⟨⟨_, Tryz.func62, rfl, by kernel_rfl⟩, CallS.use hv [] rfl rfl trivial ?_⟩
 rintro e H2 G' hle2 ⟨hout, hle2', rfl⟩
 cases X with
 | error x =>
  have hx := herr x rfl
  obtain rfl := hout
  (conv => whnf)
  refine br.of (fun h1 => ?_) (fun h1 => ?_) <;> (conv => whnf)
  ·exact ⟨rfl, hle2, rfl⟩
  ·simp only [bne_eq_false_iff_eq] at h1
   exact absurd h1 hx
 | ok tk =>
  have hlp := hlen tk rfl
  obtain ⟨A, n, c, B1, m1, d1, rfl, hb1, hb2⟩ := hout
  have hn1 := hb1.1
  dsimp only
  (conv => whnf)
  refine br.of (fun h1 => ?_) (fun h1 => ?_) <;> (conv => whnf)
  ·have h1' : ¬ strEq tk.typ sType = true := by simpa using h1
   rw [if_pos (fun h => h1' (by rw [h]; exact str_refl _))]
   exact ⟨rfl, hle2, rfl⟩
  have h1' : strEq tk.typ sType = true := by simpa using h1
  rw [if_neg (fun h => h ((strEq_iff ..).1 h1'))]
  have hszJ := Ro.parse_sz tk.payload 4
  have hpar := Js.parse_ tk.payload A n c 4 H2 hb1.z (by omega)
  generalize parseP tk.payload 4 = X at hszJ hpar ⊢
  obtain ⟨J0, er, at0⟩ := X
  dsimp only at hszJ hpar ⊢
  have hsm := Ro.sm_of J0 (by omega)
  have hwr := Ro.wr_of J0
  refine ⟨⟨_, Tryz.func63, rfl, by kernel_rfl⟩, CallS.use hpar [] rfl rfl trivial ?_⟩
  rintro e H3 G' hle3 ⟨⟨k, y, t, A0, n0, c0, B0, m0, f0, rfl, hj⟩, rfl⟩
  have hle23 := hle2.trans hle3
  (conv => whnf)
  refine br.of (fun h2 => ?_) (fun h2 => ?_) <;> (conv => whnf)
  ·have h2' : er ≠ 0 := by simpa using h2
   rw [if_pos h2']
   exact ⟨rfl, hle23, rfl⟩
  have h2' : er = 0 := by simpa using h2
  rw [if_neg (fun h => h h2')]
  refine ⟨⟨_, Tryz.func33, rfl, by kernel_rfl⟩, CallS.use (print_ J0 hsm (by omega) k y t A0 n0 c0 B0 m0 f0 H3 hj) [] rfl rfl trivial ?_⟩
  rintro e H4 G' hle4 ⟨rfl, hle4', rfl⟩
  have hle24 := hle23.trans hle4
  (conv => whnf)
  have hconv : (A = none ∧ strOf tk.payload = ⟨#[]⟩) ∨ ∃ a, A = some a ∧ RdN H4 (some a) 0 (byteCells (strOf tk.payload)) := by
   cases A with
   | none => exact .inl ⟨rfl, by rw [hb1.2.1 rfl]; rfl⟩
   | some a => exact .inr ⟨a, rfl, by rw [← cells_str]; exact ((hb1.mono hle3).mono hle4).2.2 a rfl⟩
  rcases hconv with ⟨rfl, hso⟩ | ⟨a, rfl, hrd⟩
  ·(conv => whnf)
   rw [← hso]
   refine br.of (fun h3 => ?_) (fun h3 => ?_) <;> (conv => whnf)
   ·have h3' : ¬ strEq (printP J0).1 (strOf tk.payload) = true := by simpa using h3
    rw [if_pos (fun h => h3' (by rw [h]; exact str_refl _))]
    exact ⟨rfl, hle24, rfl⟩
   have h3' : strEq (printP J0).1 (strOf tk.payload) = true := by simpa using h3
   rw [if_neg (fun h => h ((strEq_iff ..).1 h3'))]
   refine ⟨⟨_, Tryz.func64, rfl, by kernel_rfl⟩, CallS.use (of_ J0 hsm (by omega) k y t A0 n0 c0 B0 m0 f0 H4 (hE.mono hle24) (hj.mono hle4)) [] rfl rfl trivial ?_⟩
   rintro e H5 G' hle5 ⟨hro, hle5', rfl⟩
   cases ho : ofP J0 with
   | none =>
    rw [ho] at hro
    obtain rfl := hro
    (conv => whnf)
    exact ⟨rfl, hle24.trans hle5, rfl⟩
   | some cc =>
    rw [ho] at hro
    obtain rfl := hro
    (conv => whnf)
    exact ⟨rfl, hle24.trans hle5, rfl⟩
  ·(conv => whnf)
   refine ⟨strOf tk.payload, (strOf_size _).trans hn1.symm, .inr hrd, ?_⟩
   (conv => whnf)
   refine br.of (fun h3 => ?_) (fun h3 => ?_) <;> (conv => whnf)
   ·have h3' : ¬ strEq (printP J0).1 (strOf tk.payload) = true := by simpa using h3
    rw [if_pos (fun h => h3' (by rw [h]; exact str_refl _))]
    exact ⟨rfl, hle24, rfl⟩
   have h3' : strEq (printP J0).1 (strOf tk.payload) = true := by simpa using h3
   rw [if_neg (fun h => h ((strEq_iff ..).1 h3'))]
   refine ⟨⟨_, Tryz.func64, rfl, by kernel_rfl⟩, CallS.use (of_ J0 hsm (by omega) k y t A0 n0 c0 B0 m0 f0 H4 (hE.mono hle24) (hj.mono hle4)) [] rfl rfl trivial ?_⟩
   rintro e H5 G' hle5 ⟨hro, hle5', rfl⟩
   cases ho : ofP J0 with
   | none =>
    rw [ho] at hro
    obtain rfl := hro
    (conv => whnf)
    exact ⟨rfl, hle24.trans hle5, rfl⟩
   | some cc =>
    rw [ho] at hro
    obtain rfl := hro
    (conv => whnf)
    exact ⟨rfl, hle24.trans hle5, rfl⟩
end Go.Kx.Se
namespace Go.Kx
open Go.RowKit
section
variable {P : Program}
inductive CK
 | b | s
 | i (k : IntKind)
def ckLit : CK → Value → Option Lit
 | .b, .bool x => some (.bool x)
 | .s, .string s => if s.size ≤ maxLen then some (.string s.data.toList) else none
 | .i k, .int k' n => if k' = k ∧ (Lit.int k n).wf = true then some (.int k n) else none
 | _, _ => none
def litsK : List CK → List Value → Option (List Lit)
 | [], [] => some []
 | c :: cs, v :: vs => (ckLit c v).bind fun l => (litsK cs vs).map fun r => l :: r
 | _, _ => none
def shapeFs (P : Program) (sh : TypeId → Option (List CK)) : List Field → Nat → Option (List CK)
 | [], _ => some []
 | f :: fs, off => if Nat.beq f.offset off then (sh f.type).bind fun ks => if Nat.beq ks.length (P.cellsOf f.type) then (shapeFs P sh fs (off + ks.length)).map fun r => ks ++ r else none else none
def shapeK (P : Program) : Nat → TypeId → Option (List CK)
 | 0, _ => none
 | d + 1, t => match P.underlying t with
  | some .bool => some [.b]
  | some (.int k) => some [.i k]
  | some .string => some [.s]
  | some (.struct fs) => if fs.all (·.name != "_") then (shapeFs P (shapeK P d) fs.toList 0).bind fun ks => if Nat.beq ks.length (P.cellsOf t) then some ks else none else none
  | _ => none
theorem litsK_len : ∀ {ks : List CK} {vs : List Value} {la : List Lit}, litsK ks vs = some la → vs.length = ks.length
 | [], [], _, _ => rfl
 | [], _ :: _, _, h => by simp [litsK] at h
 | _ :: _, [], _, h => by simp [litsK] at h
 | c :: cs, v :: vs, la, h => by
  unfold litsK at h
  simp only [Option.bind_eq_some_iff, Option.map_eq_some_iff] at h
  obtain ⟨l, _, r, h2, _⟩ := h
  simp [litsK_len h2]
theorem litsK_split : ∀ {k1 k2 : List CK} {vs : List Value} {la : List Lit}, litsK (k1 ++ k2) vs = some la → ∃ l1 l2, litsK k1 (vs.take k1.length) = some l1 ∧ litsK k2 (vs.drop k1.length) = some l2 ∧ la = l1 ++ l2
 | [], k2, vs, la, h => ⟨[], la, by simp [litsK], by simpa using h, rfl⟩
 | c :: k1, k2, [], la, h => by simp [litsK] at h
 | c :: k1, k2, v :: vs, la, h => by
  simp only [List.cons_append, litsK, Option.bind_eq_some_iff, Option.map_eq_some_iff] at h
  obtain ⟨l, h1, r, h2, rfl⟩ := h
  obtain ⟨l1, l2, h3, h4, rfl⟩ := litsK_split h2
  refine ⟨l :: l1, l2, ?_, by simpa using h4, rfl⟩
  simp [litsK, h1, h3]
theorem bytes_ext {a b : ByteArray} (h : a.data.toList = b.data.toList) : a = b := by
 have := Array.toList_inj.1 h
 cases a; cases b; simpa using this
theorem ckLit_inj {c : CK} {u v : Value} {l : Lit} (h1 : ckLit c u = some l) (h2 : ckLit c v = some l) : u = v := by
 cases c <;> cases u <;> simp only [ckLit] at h1 <;> first | (cases h1; done) | skip
 all_goals cases v <;> simp only [ckLit] at h2 <;> first | (cases h2; done) | skip
 ·injection h1 with h1; injection h2 with h2; rw [← h1] at h2; injection h2 with h2; rw [h2]
 ·split at h1
  ·split at h2
   ·injection h1 with h1; injection h2 with h2
    rw [← h1] at h2
    injection h2 with h2
    exact congrArg Value.string (bytes_ext h2.symm)
   ·cases h2
  ·cases h1
 ·split at h1
  ·rename_i e1
   split at h2
   ·rename_i e2
    injection h1 with h1; injection h2 with h2
    rw [← h1] at h2
    injection h2 with _ h2
    rw [e1.1, e2.1, h2]
   ·cases h2
  ·cases h1
theorem litsK_inj : ∀ {ks : List CK} {us vs : List Value} {l : List Lit}, litsK ks us = some l → litsK ks vs = some l → us = vs
 | [], [], [], _, _, _ => rfl
 | [], _ :: _, _, _, h, _ => by simp [litsK] at h
 | [], [], _ :: _, _, _, h => by simp [litsK] at h
 | _ :: _, [], _, _, h, _ => by simp [litsK] at h
 | _ :: _, _ :: _, [], _, _, h => by simp [litsK] at h
 | c :: ks, u :: us, v :: vs, l, h1, h2 => by
  simp only [litsK, Option.bind_eq_some_iff, Option.map_eq_some_iff] at h1 h2
  obtain ⟨a, a1, r, a2, rfl⟩ := h1
  obtain ⟨b, b1, r2, b2, h⟩ := h2
  injection h with h3 h4
  subst h3 h4
  rw [ckLit_inj a1 b1, litsK_inj a2 b2]
theorem shapeFs_lits {sh : TypeId → Option (List CK)} {kl : TypeId → List Value → Option (List Lit)} (hsh : ∀ t ks vs la, sh t = some ks → litsK ks vs = some la → kl t vs = some la) (cs : List Value) : ∀ (fs : List Field) (off : Nat) (ks : List CK) (la : List Lit), shapeFs P sh fs off = some ks → litsK ks (cs.drop off) = some la →
  ∃ al, (fs.mapM fun f => kl f.type ((cs.drop f.offset).take (P.cellsOf f.type))) = some al ∧ al.flatten = la
 | [], off, ks, la, h1, h2 => by
  simp only [shapeFs, Option.some.injEq] at h1
  subst h1
  refine ⟨[], by simp, ?_⟩
  cases hd : cs.drop off with
  | nil => rw [hd] at h2; simp only [litsK, Option.some.injEq] at h2; rw [← h2]; rfl
  | cons a r => rw [hd] at h2; simp [litsK] at h2
 | f :: fs, off, ks, la, h1, h2 => by
  unfold shapeFs at h1
  split at h1
  ·rename_i ho
   have ho := Nat.eq_of_beq_eq_true ho
   simp only [Option.bind_eq_some_iff] at h1
   obtain ⟨k1, hk1, h1⟩ := h1
   split at h1
   ·rename_i hl
    have hl := Nat.eq_of_beq_eq_true hl
    simp only [Option.map_eq_some_iff] at h1
    obtain ⟨k2, hk2, rfl⟩ := h1
    obtain ⟨l1, l2, h3, h4, rfl⟩ := litsK_split h2
    rw [List.drop_drop] at h4
    obtain ⟨al, ha, hf⟩ := shapeFs_lits hsh cs fs (off + k1.length) k2 l2 hk2 h4
    have h5 := hsh f.type k1 _ l1 hk1 h3
    rw [hl, ← ho] at h5
    refine ⟨l1 :: al, ?_, by simp [hf]⟩
    rw [List.mapM_cons, h5, ha]
    rfl
   ·cases h1
  ·cases h1
theorem shapeK_lits : ∀ (d : Nat) (t : TypeId) (ks : List CK) (vs : List Value) (la : List Lit), shapeK P d t = some ks → litsK ks vs = some la → P.keyLits d t vs = some la
 | 0, _, _, _, _, h, _ => by simp [shapeK] at h
 | d + 1, t, ks, vs, la, h, h2 => by
  unfold shapeK at h
  split at h
  ·rename_i hu
   injection h with h; subst h
   have hl := litsK_len h2
   match vs, hl with
   | [v], _ =>
    cases v <;> simp [litsK, ckLit] at h2
    simp [Program.keyLits, hu, h2]
  ·rename_i k hu
   injection h with h; subst h
   have hl := litsK_len h2
   match vs, hl with
   | [v], _ =>
    cases v with
    | int k' n =>
     by_cases hc : k' = k ∧ (Lit.int k n).wf = true
     ·simp only [litsK, ckLit, if_pos hc, Option.bind_some, Option.map_some] at h2
      unfold Program.keyLits
      rw [hu]
      simp only []
      rw [if_pos hc]; exact h2
     ·simp [litsK, ckLit, if_neg hc] at h2
    | _ => simp [litsK, ckLit] at h2
  ·rename_i hu
   injection h with h; subst h
   have hl := litsK_len h2
   match vs, hl with
   | [v], _ =>
    cases v with
    | string s =>
     by_cases hc : s.size ≤ maxLen
     ·simp only [litsK, ckLit, if_pos hc, Option.bind_some, Option.map_some] at h2
      unfold Program.keyLits
      rw [hu]
      simp only []
      rw [if_pos hc]; exact h2
     ·simp [litsK, ckLit, if_neg hc] at h2
    | _ => simp [litsK, ckLit] at h2
  ·rename_i fs hu
   split at h
   ·rename_i hn
    simp only [Option.bind_eq_some_iff] at h
    obtain ⟨ks', hk, h⟩ := h
    split at h
    ·rename_i hl
     have hl := Nat.eq_of_beq_eq_true hl
     injection h with h; subst h
     have hlen := litsK_len h2
     obtain ⟨al, ha, hf⟩ := shapeFs_lits (P := P) (kl := P.keyLits d) (fun t ks vs la a b => shapeK_lits d t ks vs la a b) vs fs.toList 0 ks' la hk (by simpa using h2)
     unfold Program.keyLits
     rw [hu]
     simp only []
     rw [if_pos ⟨by omega, hn⟩, ha]
     simp [hf]
    ·cases h
   ·cases h
  ·cases h
theorem QO.agg {o : Oper} {op : BinOp} {t ty : TypeId} {x y : Operand} (ho : o.op = .binOp op t x y ty) {F : Fr} {H : Hp} {G : List SB} {K : SV → Prop} (xs ys : List Value) (ks : List CK)
  (hx : evX x F fun sv => sv = .si (.ag (xs.map SC.val))) (hy : evX y F fun sv => sv = .si (.ag (ys.map SC.val)))
  (hg : P.eqGuardType P.depth t = false) (hk : P.keyTypeAt 8 t = true) (hs : shapeK P 8 t = some ks) (fx : (Value.agg xs.toArray).formed P t = true) (fy : (Value.agg ys.toArray).formed P t = true)
  (lx : (litsK ks xs).isSome = true) (ly : (litsK ks ys).isSome = true)
  (h : ∀ r : Bool, (r = true ↔ xs = ys) → (op = .eql ∧ K (pv (.bool r))) ∨ (op = .neq ∧ K (pv (.bool (!r))))) : QO P o F H G K := by
 obtain ⟨sx, rfl, hxv⟩ := evX_ok hx
 obtain ⟨sy, rfl, hyv⟩ := evX_ok hy
 obtain ⟨la, hla⟩ := Option.isSome_iff_exists.1 lx
 obtain ⟨lb, hlb⟩ := Option.isSome_iff_exists.1 ly
 have ka := shapeK_lits 8 t ks xs la hs hla
 have kb := shapeK_lits 8 t ks ys lb hs hlb
 have hall : ∀ (zs : List Value) ρ us, All2 (SC.Is ρ) (zs.map SC.val) us → us = zs := by
  intro zs
  induction zs with
  | nil => intro ρ us hu; cases hu; rfl
  | cons z zs ih => intro ρ us hu; cases hu with | cons h1 h2 => rw [ih ρ _ h2]; obtain rfl := h1; rfl
 have hval : ∀ (zs : List Value) ρ v, SV.Is ρ (.si (.ag (zs.map SC.val))) v → v = .agg zs.toArray := by
  rintro zs ρ v ⟨us, rfl, hu⟩
  rw [hall zs ρ us hu]
 have hr : ∀ w : World, ∃ r : Bool, (Op.equalIn 10000 t (.agg xs.toArray) (.agg ys.toArray)).run P w = .ok r w ∧ (r = true ↔ la = lb) := fun w =>
  run_equalIn_deep 9992 8 t hk w 8 8 _ _ la lb fx fy (by simpa [Value.cells] using ka) (by simpa [Value.cells] using kb)
 have hiff : la = lb ↔ xs = ys := ⟨fun e => litsK_inj hla (by rw [e]; exact hlb), fun e => by subst e; rw [hla] at hlb; injection hlb⟩
 have hone : ∀ w w' : World, ∀ r r' : Bool, (r = true ↔ la = lb) → (r' = true ↔ la = lb) → r = r' := fun w w' r r' h1 h2 => by
  cases r <;> cases r' <;> simp_all
 have hb : ∃ b : Bool, (b = true ↔ la = lb) := by
  by_cases e : la = lb
  ·exact ⟨true, by simp [e]⟩
  ·exact ⟨false, by simp [e]⟩
 obtain ⟨b, hb⟩ := hb
 rcases h b (hb.trans hiff) with ⟨rfl, hK⟩ | ⟨rfl, hK⟩
 ·refine ⟨_, hK, fun ρ a wc hf hw => ⟨_, rfl, fun w _ => ?_⟩⟩
  have e1 := hval xs ρ _ (hxv ρ a hf)
  have e2 := hval ys ρ _ (hyv ρ a hf)
  obtain ⟨r, hr1, hr2⟩ := hr w
  obtain rfl := hone w w r b hr2 hb
  have e : execOp a.eval o = (do pure (.value (← ((do eqGuard .eql t x y (a.eval x) (a.eval y); binOp .eql t (a.eval x) (a.eval y)) : Sem Value)))) := by simp only [execOp, ho]
  rw [e, e1, e2]
  simp only [Sem.run_bind, run_eqGuard_agg w .eql t x y _ _ hg, Result.andThen_ok, run_eql_struct, hr1, Sem.run_pure]
 ·refine ⟨_, hK, fun ρ a wc hf hw => ⟨_, rfl, fun w _ => ?_⟩⟩
  have e1 := hval xs ρ _ (hxv ρ a hf)
  have e2 := hval ys ρ _ (hyv ρ a hf)
  obtain ⟨r, hr1, hr2⟩ := hr w
  obtain rfl := hone w w r b hr2 hb
  have e : execOp a.eval o = (do pure (.value (← ((do eqGuard .neq t x y (a.eval x) (a.eval y); binOp .neq t (a.eval x) (a.eval y)) : Sem Value)))) := by simp only [execOp, ho]
  rw [e, e1, e2]
  simp only [Sem.run_bind, run_eqGuard_agg w .neq t x y _ _ hg, Result.andThen_ok, run_neq_struct, hr1, Sem.run_pure]
theorem freeze_cells {w : World} {g : Nat} {cur : Array Value} {et : TypeId} {z : Nat × Nat} (hg : w.heap[g]? = some (.cells cur et z)) (n m : Nat) :
  (w.freeze ⟨g, n, none⟩ m).os = w.os ∧ (w.freeze ⟨g, n, none⟩ m).tape = w.tape ∧ (w.freeze ⟨g, n, none⟩ m).output = w.output ∧ (w.freeze ⟨g, n, none⟩ m).heap.size = w.heap.size ∧ (∀ b, b ≠ g → (w.freeze ⟨g, n, none⟩ m).heap[b]? = w.heap[b]?) ∧ ∃ z', (w.freeze ⟨g, n, none⟩ m).heap[g]? = some (.cells cur et z') := by
 unfold World.freeze
 split
 ·exact ⟨rfl, rfl, rfl, rfl, fun _ _ => rfl, _, hg⟩
 ·refine ⟨rfl, rfl, rfl, by simp, fun b hb => ?_, ?_⟩
  ·simp [Array.getElem?_modify, Ne.symm hb]
  ·obtain ⟨lo, hi⟩ := z
   simp [Array.getElem?_modify, hg]
theorem run_convert_own {w : World} {t e et : TypeId} {g o n cap : Nat} {cur : Array Value} {z : Nat × Nat} (ht : P.underlying t = some (.slice e)) (he : P.underlying e = some (.int .u8)) (hg : w.heap[g]? = some (.cells cur et z)) :
  (convert t t (.slice (some ⟨g, o, none⟩) n cap)).run P w = .ok (.slice (some ⟨g, o, none⟩) n cap) (w.freeze ⟨g, cur.size, none⟩ 1) := by
 have hsh : w.shape? g = some (et, cur.size) := by
  unfold World.shape?
  rw [hg]
 simp [convert, run_underlying ht, run_underlying he, markStringish, hsh]
theorem LO.convOwn {o : Oper} {t e et : TypeId} {x : Operand} (ho : o.op = .convert t t x) {F : Fr} {H : Hp} {G : List SB} {K : SV → Hp → List SB → Prop} {Kp : List PanicEntry → Hp → List SB → Prop} (k : Nat) {n : Nat} {xs : List Value}
  (hx : evX x F fun sv => sv = .si (.ce (.self k))) (hk : G[k]? = some (.row et 1 n xs)) (hn : 0 < n) (ht : P.underlying t = some (.slice e)) (he : P.underlying e = some (.int .u8))
  (h : ∀ a c H', H.Le H' → RdN H' (some a) 0 xs → K (pv (.slice (some a) n c)) H' (G.set k .dead)) : LO P o F H G K Kp := by
 intro w0 M hgd H0 ρ a w hs hf
 obtain ⟨sx, rfl, hxv⟩ := evX_ok hx
 have hv : ρ[k]? = some (a.eval x) := hxv ρ a hf
 obtain ⟨r, hr, hok⟩ := hs.at hk
 obtain rfl : r = a.eval x := by rw [hr] at hv; injection hv
 rcases hok.2 with ⟨_, h0⟩ | ⟨g, off, cap, cur, hre, hg, hnc, hcm, hcs, htk⟩
 ·omega
 have hblk : blkAt ρ G k = some g := by rw [blkAt_eq hk hr, hre]; rfl
 obtain ⟨f1, f2, f3, f4, f5, z', f6⟩ := freeze_cells hg cur.size 1
 generalize hw' : w.freeze ⟨g, cur.size, none⟩ 1 = w' at *
 have hrun : (execOp a.eval o).run P w = .ok (.value (.slice (some ⟨g, off, none⟩) n cap)) w' := by
  have := run_convert_own (n := n) (cap := cap) (o := off) ht he hg
  rw [hw'] at this
  simp [execOp, ho, hre, this]
 have hout : H.Out g := (hs.own k g hblk).2
 have hst : St w0 M H0 ρ H (G.set k .dead) w' := hs.turn hk hr (g := g) (by rw [hre]; rfl) f1 f2 f3 (by omega) (fun b _ hb => f5 b hb) trivial (.inr rfl)
 have hnk : ∀ j y, blkAt ρ (G.set k .dead) j = some y → y ≠ g := fun j y hj e => by
  subst e
  obtain ⟨s1, r1, h1, h2, h3⟩ := blkAt_some hj
  have hkl := (List.getElem?_eq_some_iff.1 hk).1
  by_cases hjk : k = j
  ·subst hjk
   rw [List.getElem?_set_self hkl] at h1
   injection h1 with h1; subst h1
   simp [SB.blk] at h3
  ·rw [List.getElem?_set_ne hjk] at h1
   exact hjk (hs.inj k j y hblk (by rw [blkAt_eq h1 h2]; exact h3))
 have hcell : ∀ b i v, H.putAt g off xs b i = some v → H b i = some v ∨ (b = g ∧ w'.cell? ⟨g, i, none⟩ = some v) := fun b i v ev => by
  rcases Hp.putAt_inv ev with e1 | ⟨rfl, e0, e1⟩
  ·exact .inl e1
  ·refine .inr ⟨rfl, ?_⟩
   rw [Nat.mul_one] at htk
   rw [← htk, List.getElem?_take] at e1
   split at e1
   ·simp only [World.cell?, f6]
    rw [List.getElem?_drop, show off + (i - off) = i by omega] at e1
    simpa using e1
   ·cases e1
 have hst2 : St w0 M H0 ρ (H.putAt g off xs) (G.set k .dead) w' := by
  refine ⟨hst.os, hst.tape, hst.output, hst.size, hst.old, hst.hle.trans (Hp.putAt_le hout), ?_, ?_, hst.len, hst.ok, ?_, hst.inj⟩
  ·intro b i v ev
   rcases hcell b i v ev with e1 | ⟨rfl, e1⟩
   ·exact hst.hin b i v e1
   ·exact e1
  ·intro b i v ev
   rcases hcell b i v ev with e1 | ⟨rfl, e1⟩
   ·exact hst.hnew b i v e1
   ·exact .inr (hs.own k b hblk).1
  ·intro j y hj
   obtain ⟨h1, h2⟩ := hst.own j y hj
   refine ⟨h1, fun i => ?_⟩
   cases ev : H.putAt g off xs y i with
   | none => rfl
   | some v =>
    rcases hcell y i v ev with e1 | ⟨e1, _⟩
    ·rw [h2 i] at e1; cases e1
    ·exact absurd e1 (hnk j y hj)
 rw [hrun]
 exact ⟨pv (.slice (some ⟨g, off, none⟩) n cap), ρ, H.putAt g off xs, G.set k .dead, hst2, .refl _, rfl, Hp.putAt_le hout, h ⟨g, off, none⟩ cap _ (Hp.putAt_le hout) Hp.putAt_rd⟩
end
end Go.Kx
namespace Go.Kx.L13
open Go.Proofs Go.Kx Go.RowKit Go.Kx.Js Go.Kx.Pr Go.Kx.Rt Go.Kx.Ob Go.Kx.Wo Go.Kx.Cl Go.Kx.Pa Go.Kx.Su Go.Kx.Se
set_option maxRecDepth 20000
set_option linter.unusedSimpArgs false
theorem mixed : Tryz.prog.follows .mixedOrders = true := by kernel_rfl
theorem sign_size {kid typ : ByteArray} {pl key : List UInt8} {s : ByteArray} {x : Int} (h : Jw.signP kid typ pl key = (s, x)) : s.size ≤ 49152 := by
 unfold Jw.signP at h
 split at h
 ·injection h with h; rw [← h]; decide
 split at h
 ·injection h with h; rw [← h]; decide
 split at h
 ·injection h with h; rw [← h]; decide
 rename_i h1 h2 h3
 injection h with h
 simp only [Bool.not_eq_false, Bool.and_eq_true] at h1
 have l1 := Jw.encP_len _ (wrJ (Jw.headJ kid typ)) (Nat.lt_succ_self _)
 have l2 := Jw.encP_len _ pl (Nat.lt_succ_self _)
 have l3 := Jw.encP_len _ (Sha.hmac key (Jw.signedP kid typ pl)) (Nat.lt_succ_self _)
 have l4 : (Sha.hmac key (Jw.signedP kid typ pl)).length = 32 := Sha.sha_length _
 have l5 := Jw.head_len h1.1 h1.2
 have lsg : (Jw.signedP kid typ pl).length = (En.encP (wrJ (Jw.headJ kid typ))).length + ((En.encP pl).length + 1) := by unfold Jw.signedP; rw [List.length_append, List.length_cons]
 rw [← h, Jw.bs_size]
 unfold Jw.tokenP
 rw [List.length_append, List.length_cons]
 omega
theorem csign_size {c : Clm} {kid : ByteArray} {key : List UInt8} {s : ByteArray} {x : Int} (h : csignP c kid key = (s, x)) : s.size ≤ 49152 := by
 unfold csignP at h
 split at h
 ·injection h with h; rw [← h]; decide
 ·exact sign_size h
def cellsC (c : Clm) : List Value := [.string c.iss, .string c.jti, .string c.aud, .int .i64 c.iat, .string c.txn, .string c.sub.fmt, .string c.sub.id, .string c.sub.own, .int .i64 c.kind, .string c.reason]
def ksC : List CK := [.s, .s, .s, .i .i64, .s, .s, .s, .s, .i .i64, .s]
structure FitC (c : Clm) : Prop where
 a : c.iss.size ≤ maxLen
 b : c.jti.size ≤ maxLen
 c' : c.aud.size ≤ maxLen
 n : (Lit.int .i64 c.iat).wf = true
 t : c.txn.size ≤ maxLen
 f : c.sub.fmt.size ≤ maxLen
 i : c.sub.id.size ≤ maxLen
 o : c.sub.own.size ≤ maxLen
 k : (Lit.int .i64 c.kind).wf = true
 r : c.reason.size ≤ maxLen
theorem FitC.lits {c : Clm} (h : FitC c) : (litsK ksC (cellsC c)).isSome = true := by
 unfold ksC cellsC
 simp only [litsK, ckLit, if_pos h.a, if_pos h.b, if_pos h.c', h.n, if_pos h.t, if_pos h.f, if_pos h.i, if_pos h.o, h.k, if_pos h.r, Option.bind_some, Option.map_some, and_self, if_true, Option.isSome_some]
theorem cellsC_inj {c d : Clm} : cellsC c = cellsC d ↔ c = d := by
 constructor
 ·intro h
  obtain ⟨a, b, c', n, t, ⟨f, i, o⟩, k, r⟩ := c
  obtain ⟨a2, b2, c2, n2, t2, ⟨f2, i2, o2⟩, k2, r2⟩ := d
  simp only [cellsC, List.cons.injEq, Value.string.injEq, Value.int.injEq, true_and, and_true] at h
  obtain ⟨rfl, rfl, rfl, rfl, rfl, rfl, rfl, rfl, rfl, rfl⟩ := h
  rfl
 ·rintro rfl; rfl
theorem gC : Tryz.prog.eqGuardType Tryz.prog.depth 28 = false := by kernel_rfl
theorem kC : Tryz.prog.keyTypeAt 8 28 = true := by kernel_rfl
theorem sC : shapeK Tryz.prog 8 28 = some ksC := by kernel_rfl
theorem fC (c : Clm) : (Value.agg (cellsC c).toArray).formed Tryz.prog 28 = true := by kernel_rfl
end Go.Kx.L13
namespace Go.Kx
open Go.RowKit Go.MapKept
section
variable {P : Program}
noncomputable def findE (kv : Value) : List (Value × SC × Nat) → Option SC
 | [] => none
 | p :: l => open Classical in if p.1 = kv then some p.2.1 else findE kv l
theorem findE_self {kv : Value} {c : SC} {n : Nat} {l : List (Value × SC × Nat)} : findE kv ((kv, c, n) :: l) = some c := by simp [findE]
theorem findE_ne {kv k : Value} {c : SC} {n : Nat} {l : List (Value × SC × Nat)} (h : k ≠ kv) : findE kv ((k, c, n) :: l) = findE kv l := by simp [findE, h]
theorem ent_find {ρ : List Value} {kv : Value} : ∀ {l : List (Value × SC × Nat)} {es : List MapEntry}, All2 (EntOne ρ) l es →
  (findE kv l = none ∧ ∀ x ∈ es, x.key ≠ kv) ∨ (∃ c x, findE kv l = some c ∧ x ∈ es ∧ x.key = kv ∧ c.Is ρ x.val)
 | [], _, h => by cases h; exact .inl ⟨rfl, fun x hx => by simp at hx⟩
 | p :: l, _, h => by
  cases h with | cons h1 h2 =>
  rename_i e es
  by_cases hp : p.1 = kv
  ·refine .inr ⟨p.2.1, e, by simp [findE, hp], List.mem_cons_self, h1.1.trans hp, h1.2.1⟩
  ·rcases ent_find (kv := kv) h2 with ⟨a, b⟩ | ⟨c, x, a, b, d⟩
   ·refine .inl ⟨by simp [findE, hp, a], fun x hx => ?_⟩
    rcases List.mem_cons.1 hx with rfl | hx
    ·rw [h1.1]; exact hp
    ·exact b x hx
   ·exact .inr ⟨c, x, by simp [findE, hp, a], List.mem_cons_of_mem _ b, d⟩
theorem key_uniq {es : Array MapEntry} {c : Nat} (h : Stamped es c) {x y : MapEntry} (hx : x ∈ es.toList) (hy : y ∈ es.toList) (e : x.key = y.key) : x = y := by
 obtain ⟨i, hi⟩ := List.mem_iff_getElem?.1 hx
 obtain ⟨j, hj⟩ := List.mem_iff_getElem?.1 hy
 have hn := h.2.2
 have hi' : (es.toList.map (·.key))[i]? = some x.key := by simp [show es[i]? = some x by simpa using hi]
 have hj' : (es.toList.map (·.key))[j]? = some x.key := by simp [show es[j]? = some y by simpa using hj, e]
 have := (List.getElem?_inj (List.getElem?_eq_some_iff.1 hi').1 hn).1 (hi'.trans hj'.symm)
 subst this
 rw [hi] at hj; injection hj
theorem LO.upd0 {o : Oper} {t kt et : TypeId} {m k x : Operand} (ho : o.op = .mapUpdate t m k x) (hu : P.underlying t = some (.map kt et)) {d : TypeDesc} (hd : P.underlying kt = some d) {F : Fr} {H : Hp} {G : List SB} {K : SV → Hp → List SB → Prop} {Kp : List PanicEntry → Hp → List SB → Prop}
  (b : Nat) (kv : Value) (sc : SC) {f : Value → Option Value} (hb : G[b]? = some (.map d 0 f)) (hk : IsKey d kv) (hx : evX m F fun sm => evX k F fun sk => evX x F fun sv => sm = .si (.ce (.self b)) ∧ sk = .si (.ce (.val kv)) ∧ sv = .si (.ce sc))
  (h : ∀ c, K (pv undef) H (G.set b (.ent d (c + 1) [(kv, sc, c)]))) : LO P o F H G K Kp := by
 obtain ⟨sm, hx, hm⟩ := evX_ok hx
 obtain ⟨sk, hx, hkk⟩ := evX_ok hx
 obtain ⟨sv, ⟨rfl, rfl, rfl⟩, hxx⟩ := evX_ok hx
 intro w0 M hgd H0 ρ a w hs hf
 have hρ : ρ[b]? = some (a.eval m) := hm ρ a hf
 obtain ⟨g, es, c, e1, hh, hmi⟩ := hs.ok b _ (a.eval m) hb hρ
 obtain rfl : es = #[] := Array.eq_empty_of_size_eq_zero hmi.size
 have e2 : a.eval k = kv := hkk ρ a hf
 have e3 : sc.Is ρ (a.eval x) := hxx ρ a hf
 have hrun : (execOp a.eval o).run P w = .ok .skip { w with heap := w.heap.setIfInBounds g (.map #[{ key := kv, val := a.eval x, born := c }] (c + 1)) } := by
  simp [execOp, ho, Instr.mapUpdate, run_underlying hu, e1, e2, MapKept.run_getObj_map hh, MapKept.run_checkKey hd hk, MapKept.run_findKey (l := []) hd (show Instr.findNow d kv [] 0 = some none from rfl), MapKept.run_setObj_map _ hh, Result.andThen]
 rw [hrun]
 refine ⟨_, ρ, H, _, hs.turn (g := g) hb hρ (by rw [e1]; rfl) rfl rfl rfl (by simp) (fun j _ hne => (heap_set hh).2 j hne) (s' := .ent d (c + 1) [(kv, sc, c)]) ⟨g, _, e1, (heap_set hh).1, ?_, ?_, .cons ⟨rfl, e3, rfl⟩ .nil⟩ (.inl (by rw [e1]; rfl)), .refl _, pv_is _ _, .refl _, h c⟩
 ·exact stamped_push hmi.stamped (fun x hx => by simp at hx)
 ·intro x hx
  simp at hx; subst hx; exact hk
theorem all2_push {α β : Type} {R : α → β → Prop} {l : List α} {es : Array β} (h : All2 R l es.toList) {a : α} {b : β} (hr : R a b) : All2 R (l ++ [a]) (es.push b).toList := by
 rw [Array.toList_push]; exact h.append (.cons hr .nil)
theorem LO.updE {o : Oper} {t kt et : TypeId} {m k x : Operand} (ho : o.op = .mapUpdate t m k x) (hu : P.underlying t = some (.map kt et)) {d : TypeDesc} (hd : P.underlying kt = some d) {F : Fr} {H : Hp} {G : List SB} {K : SV → Hp → List SB → Prop} {Kp : List PanicEntry → Hp → List SB → Prop}
  (b : Nat) (kv : Value) (sc : SC) {c : Nat} {l : List (Value × SC × Nat)} (hb : G[b]? = some (.ent d c l)) (hk : IsKey d kv) (hno : findE kv l = none) (hx : evX m F fun sm => evX k F fun sk => evX x F fun sv => sm = .si (.ce (.self b)) ∧ sk = .si (.ce (.val kv)) ∧ sv = .si (.ce sc))
  (h : K (pv undef) H (G.set b (.ent d (c + 1) (l ++ [(kv, sc, c)])))) : LO P o F H G K Kp := by
 obtain ⟨sm, hx, hm⟩ := evX_ok hx
 obtain ⟨sk, hx, hkk⟩ := evX_ok hx
 obtain ⟨sv, ⟨rfl, rfl, rfl⟩, hxx⟩ := evX_ok hx
 intro w0 M hgd H0 ρ a w hs hf
 have hρ : ρ[b]? = some (a.eval m) := hm ρ a hf
 obtain ⟨g, es, e1, hh, hst, hks, hall⟩ := hs.ok b _ (a.eval m) hb hρ
 have e2 : a.eval k = kv := hkk ρ a hf
 have e3 : sc.Is ρ (a.eval x) := hxx ρ a hf
 have hne : ∀ y ∈ es.toList, y.key ≠ kv := by
  rcases ent_find (kv := kv) hall with ⟨_, h2⟩ | ⟨_, _, h2, _⟩
  ·exact h2
  ·rw [hno] at h2; cases h2
 rcases findNow_spec hk es.toList 0 hks with ⟨h1, h2⟩ | ⟨j, e, _, h2, h3⟩
 ·have hrun : (execOp a.eval o).run P w = .ok .skip { w with heap := w.heap.setIfInBounds g (.map (es.push { key := kv, val := a.eval x, born := c }) (c + 1)) } := by
   simp [execOp, ho, Instr.mapUpdate, run_underlying hu, e1, e2, MapKept.run_getObj_map hh, MapKept.run_checkKey hd hk, MapKept.run_findKey hd h1, MapKept.run_setObj_map _ hh, Result.andThen]
  rw [hrun]
  refine ⟨_, ρ, H, _, hs.turn (g := g) hb hρ (by rw [e1]; rfl) rfl rfl rfl (by simp) (fun j _ hne => (heap_set hh).2 j hne) (s' := .ent d (c + 1) (l ++ [(kv, sc, c)])) ⟨g, _, e1, (heap_set hh).1, stamped_push hst hne, ?_, all2_push hall ⟨rfl, e3, rfl⟩⟩ (.inl (by rw [e1]; rfl)), .refl _, pv_is _ _, .refl _, h⟩
  intro x hx
  rw [Array.toList_push] at hx
  rcases List.mem_append.1 hx with hx | hx
  ·exact hks x hx
  ·simp at hx; subst hx; exact hk
 ·exact absurd h3 (hne e (List.mem_of_getElem? h2))
theorem LO.lookE {o : Oper} {t kt et : TypeId} {m k : Operand} (ho : o.op = .lookup t m k true) (hu : P.underlying t = some (.map kt et)) {d : TypeDesc} (hd : P.underlying kt = some d) (hz : ∀ w, (zeroValue et).run P w = .ok (.pointer none) w) {F : Fr} {H : Hp} {G : List SB} {K : SV → Hp → List SB → Prop} {Kp : List PanicEntry → Hp → List SB → Prop}
  (b : Nat) (kv : Value) {c : Nat} {l : List (Value × SC × Nat)} (hb : G[b]? = some (.ent d c l)) (hk : IsKey d kv) (hx : evX m F fun sm => evX k F fun sk => sm = .si (.ce (.self b)) ∧ sk = .si (.ce (.val kv)))
  (h : match findE kv l with
   | none => K (.tu [.ce (.val (.pointer none)), .ce (.val (.bool false))]) H G
   | some sc => K (.tu [.ce sc, .ce (.val (.bool true))]) H G) : LO P o F H G K Kp := by
 obtain ⟨sm, hx, hm⟩ := evX_ok hx
 obtain ⟨sk, ⟨rfl, rfl⟩, hkk⟩ := evX_ok hx
 intro w0 M hgd H0 ρ a w hs hf
 have hρ : ρ[b]? = some (a.eval m) := hm ρ a hf
 obtain ⟨g, es, e1, hh, hst, hks, hall⟩ := hs.ok b _ (a.eval m) hb hρ
 have e2 : a.eval k = kv := hkk ρ a hf
 rcases findNow_spec hk es.toList 0 hks with ⟨h1, h2⟩ | ⟨j, e, h1, h2, h3⟩
 ·have hrun : (execOp a.eval o).run P w = .ok (.value (.tuple #[.pointer none, .bool false])) w := by
   simp [execOp, ho, Instr.lookup, run_underlying hu, e1, e2, MapKept.run_getObj_map hh, MapKept.run_checkKey hd hk, MapKept.run_findKey hd h1, Result.andThen, hz]
  rw [hrun]
  rcases ent_find (kv := kv) hall with ⟨h3, _⟩ | ⟨_, x, _, h4, h5, _⟩
  ·rw [h3] at h
   exact ⟨.tu [.ce (.val (.pointer none)), .ce (.val (.bool false))], ρ, H, G, hs, .refl _, ⟨_, rfl, .cons rfl (.cons rfl .nil)⟩, .refl _, h⟩
  ·exact absurd h5 (h2 x h4)
 ·have hrun : (execOp a.eval o).run P w = .ok (.value (.tuple #[e.val, .bool true])) w := by
   simp [execOp, ho, Instr.lookup, run_underlying hu, e1, e2, MapKept.run_getObj_map hh, MapKept.run_checkKey hd hk, MapKept.run_findKey hd h1, Result.andThen]
  rw [hrun]
  have hme := List.mem_of_getElem? h2
  rcases ent_find (kv := kv) hall with ⟨_, h4⟩ | ⟨sc, x, h4, h5, h6, h7⟩
  ·exact absurd h3 (h4 e hme)
  ·rw [h4] at h
   have hxe := key_uniq hst h5 hme (h6.trans h3.symm)
   subst hxe
   exact ⟨.tu [.ce sc, .ce (.val (.bool true))], ρ, H, G, hs, .refl _, ⟨_, rfl, .cons h7 (.cons rfl .nil)⟩, .refl _, h⟩
theorem LO.rangeE {o : Oper} {t kt et : TypeId} {m : Operand} (ho : o.op = .range t m) (hu : P.underlying t = some (.map kt et)) {d : TypeDesc} {F : Fr} {H : Hp} {G : List SB} {K : SV → Hp → List SB → Prop} {Kp : List PanicEntry → Hp → List SB → Prop}
  (b : Nat) {c : Nat} {l : List (Value × SC × Nat)} (hb : G[b]? = some (.ent d c l)) (hx : evX m F fun sm => sm = .si (.ce (.self b)))
  (h : (∀ x ∈ l, x.2.2 < c) → K (.si (.ce (.ptr G.length 0))) H (G ++ [.itr b c [] c])) : LO P o F H G K Kp := by
 obtain ⟨sm, rfl, hm⟩ := evX_ok hx
 intro w0 M hgd H0 ρ a w hs hf
 have hρ : ρ[b]? = some (a.eval m) := hm ρ a hf
 obtain ⟨g, es, e1, hh, hst, hks, hall⟩ := hs.ok b _ (a.eval m) hb hρ
 have hrun : (execOp a.eval o).run P w = .ok (.value (.pointer (some ⟨w.heap.size, 0, none⟩))) { w with heap := w.heap.push (.mapIter (some g) c #[] c) } := by
  simp [execOp, ho, e1, run_range_map w t kt et g es c hu hh, Result.andThen]
 rw [hrun]
 have hl : ∀ {l : List (Value × SC × Nat)} {es : List MapEntry}, All2 (EntOne ρ) l es → (∀ x ∈ es, x.born < c) → ∀ x ∈ l, x.2.2 < c := by
  intro l es h
  induction h with
  | nil => intro _ x hx; simp at hx
  | cons h1 _ ih =>
   intro hb x hx
   rcases List.mem_cons.1 hx with rfl | hx
   ·rw [← h1.2.2]; exact hb _ List.mem_cons_self
   ·exact ih (fun y hy => hb y (List.mem_cons_of_mem _ hy)) x hx
 have hlt := List.getElem?_eq_some_iff.1 hρ
 refine ⟨_, ρ ++ [.pointer (some ⟨w.heap.size, 0, none⟩)], H, _, hs.new (s := .itr b c [] c) ⟨_, g, rfl, ?_, heap_push_new⟩ rfl, Pre.append _ _, ?_, .refl _, h (hl hall hst.1)⟩
 ·rw [List.getElem?_append_left hlt.1, hρ, e1]
 ·refine ⟨.pointer (some ⟨w.heap.size, 0, none⟩), ?_, rfl⟩
  rw [← hs.len]; simp
theorem LO.nextE {o : Oper} {it : Operand} (ho : o.op = .next it false) {d : TypeDesc} {F : Fr} {H : Hp} {G : List SB} {K : SV → Hp → List SB → Prop} {Kp : List PanicEntry → Hp → List SB → Prop}
  (j b : Nat) {since last c : Nat} {seen : List Nat} {l : List (Value × SC × Nat)} (hj : G[j]? = some (.itr b since seen last)) (hb : G[b]? = some (.ent d c l)) (hx : evX it F fun s => s = .si (.ce (.ptr j 0)))
  (hold : ∀ x ∈ l, x.2.2 < since) (hsc : since ≤ last)
  (h0 : (∀ x ∈ l, x.2.2 ∈ seen) → K (.tu [.ce (.val (.bool false))]) H G)
  (h1 : ∀ x ∈ l, x.2.2 ∉ seen → K (.tu [.ce (.val (.bool true)), .ce (.val x.1), .ce x.2.1]) H (G.set j (.itr b since (seen ++ [x.2.2]) c))) : LO P o F H G K Kp := by
 obtain ⟨sm, rfl, hm⟩ := evX_ok hx
 intro w0 M hgd H0 ρ a w hs hf
 obtain ⟨r, hr, hpt⟩ := hm ρ a hf
 obtain ⟨g, m, rfl, hρ, hit⟩ := hs.ok j _ r hj hr
 have e1 : a.eval it = .pointer (some ⟨g, 0, none⟩) := by simp [ptrAt] at hpt; exact hpt.symm
 obtain ⟨g2, es, e2, hh, hst, hks, hall⟩ := hs.ok b _ _ hb hρ
 injection e2 with e2; injection e2 with e2; subst e2
 have hes : ∀ {l : List (Value × SC × Nat)} {es : List MapEntry}, All2 (EntOne ρ) l es → (∀ e ∈ es, ∃ x ∈ l, EntOne ρ x e) ∧ (∀ x ∈ l, ∃ e ∈ es, EntOne ρ x e) := by
  intro l es h
  induction h with
  | nil => exact ⟨fun e he => by simp at he, fun e he => by simp at he⟩
  | cons h1 _ ih =>
   refine ⟨fun e he => ?_, fun e he => ?_⟩
   ·rcases List.mem_cons.1 he with rfl | he
    ·exact ⟨_, List.mem_cons_self, h1⟩
    ·obtain ⟨x, hx, hxe⟩ := ih.1 e he; exact ⟨x, List.mem_cons_of_mem _ hx, hxe⟩
   ·rcases List.mem_cons.1 he with rfl | he
    ·exact ⟨_, List.mem_cons_self, h1⟩
    ·obtain ⟨x, hx, hxe⟩ := ih.2 e he; exact ⟨x, List.mem_cons_of_mem _ hx, hxe⟩
 have hes := hes hall
 have hold' : ∀ x ∈ es.toList, x.born < since := fun x hx => by
  obtain ⟨y, hy, hyx⟩ := hes.1 x hx
  rw [hyx.2.2]; exact hold y hy
 rcases run_next_at (P := P) w o.type g m since last seen.toArray es c hit hh hold' hsc with ⟨hsz, hrun⟩ | ⟨e, he, w1, hw1, hrun⟩
 ·have hrun' : (execOp a.eval o).run P w = .ok (.value (.tuple #[.bool false])) w := by
   simp [execOp, ho, e1, hrun, Result.andThen]
  rw [hrun']
  refine ⟨.tu [.ce (.val (.bool false))], ρ, H, G, hs, .refl _, ⟨[.bool false], rfl, .cons rfl .nil⟩, .refl _, h0 fun x hx => ?_⟩
  obtain ⟨e, he, hxe⟩ := hes.2 x hx
  have hem : leftOf es seen.toArray = #[] := Array.eq_empty_of_size_eq_zero hsz
  unfold leftOf at hem
  rw [Array.filter_eq_empty_iff] at hem
  have := hem e (by simpa using he)
  rw [← hxe.2.2]
  simpa using this
 ·have hrun' : (execOp a.eval o).run P w = .ok (.value (.tuple #[.bool true, e.key, e.val])) (Go.ChangeMaps.setBlock w1 g (.mapIter (some m) since (seen.toArray.push e.born) c)) := by
   simp [execOp, ho, e1, hrun, Result.andThen]
  rw [hrun']
  unfold leftOf at he
  simp only [Array.toList_filter, List.mem_filter, Array.mem_toList_iff] at he
  obtain ⟨x, hx, hxe⟩ := hes.1 e (by simpa using he.1)
  have hnot : x.2.2 ∉ seen := by rw [← hxe.2.2]; simpa using he.2
  have hs1 : St w0 M H0 ρ H G w1 := by
   rcases hw1 with rfl | rfl
   ·exact hs
   ·exact hs.drew _
  have hh1 : w1.heap[g]? = some (.mapIter (some m) since seen.toArray last) := by rcases hw1 with rfl | rfl <;> exact hit
  refine ⟨.tu [.ce (.val (.bool true)), .ce (.val x.1), .ce x.2.1], ρ, H, _, hs1.turn (g := g) hj hr rfl (w' := Go.ChangeMaps.setBlock w1 g (.mapIter (some m) since (seen.toArray.push e.born) c)) rfl rfl rfl (by simp [Go.ChangeMaps.setBlock]) (fun j _ hne => (heap_set hh1).2 j hne) (s' := .itr b since (seen ++ [x.2.2]) c) ⟨g, m, rfl, hρ, ?_⟩ (.inl rfl), .refl _, ⟨_, rfl, .cons rfl (.cons hxe.1 (.cons hxe.2.1 .nil))⟩, .refl _, h1 x hx hnot⟩
  have := (heap_set hh1 (o' := Obj.mapIter (some m) since (seen.toArray.push e.born) c)).1
  rw [show (seen ++ [x.2.2]).toArray = seen.toArray.push e.born by rw [hxe.2.2]; simp]
  exact this
theorem LO.entryE {o : Oper} {it : Operand} (ho : o.op = .entry it) {d : TypeDesc} {F : Fr} {H : Hp} {G : List SB} {K : SV → Hp → List SB → Prop} {Kp : List PanicEntry → Hp → List SB → Prop}
  (j b : Nat) {since c : Nat} {seen s0 : List Nat} {l : List (Value × SC × Nat)} (hj : G[j]? = some (.itr b since seen c)) (hb : G[b]? = some (.ent d c l)) (hx : evX it F fun s => s = .si (.ce (.ptr j 0)))
  (x : Value × SC × Nat) (hs0 : seen = s0 ++ [x.2.2]) (hm : x ∈ l)
  (h : K (.tu [.ce (.val x.1), .ce x.2.1]) H G) : LO P o F H G K Kp := by
 obtain ⟨sm, rfl, hev⟩ := evX_ok hx
 intro w0 M hgd H0 ρ a w hs hf
 obtain ⟨r, hr, hpt⟩ := hev ρ a hf
 obtain ⟨g, m, rfl, hρ, hit⟩ := hs.ok j _ r hj hr
 have e1 : a.eval it = .pointer (some ⟨g, 0, none⟩) := by simp [ptrAt] at hpt; exact hpt.symm
 obtain ⟨g2, es, e2, hh, hst, hks, hall⟩ := hs.ok b _ _ hb hρ
 injection e2 with e2; injection e2 with e2; subst e2
 have hes : ∀ {l : List (Value × SC × Nat)} {es : List MapEntry}, All2 (EntOne ρ) l es → (∀ x ∈ l, ∃ e ∈ es, EntOne ρ x e) := by
  intro l es h
  induction h with
  | nil => exact fun e he => by simp at he
  | cons h1 _ ih =>
   intro e he
   rcases List.mem_cons.1 he with rfl | he
   ·exact ⟨_, List.mem_cons_self, h1⟩
   ·obtain ⟨x, hx, hxe⟩ := ih e he; exact ⟨x, List.mem_cons_of_mem _ hx, hxe⟩
 obtain ⟨e, he, hxe⟩ := hes hall x hm
 have hit' : w.heap[g]? = some (.mapIter (some m) since (s0.toArray.push e.born) c) := by
  rw [hit, hs0, hxe.2.2]; simp
 have hrun := run_entry_at (P := P) w g m since s0.toArray es c e hit' hh he hst.2.1
 have hrun' : (execOp a.eval o).run P w = .ok (.value (.tuple #[e.key, e.val])) w := by
  simp [execOp, ho, e1, hrun, Result.andThen]
 rw [hrun']
 exact ⟨.tu [.ce (.val x.1), .ce x.2.1], ρ, H, G, hs, .refl _, ⟨_, rfl, .cons hxe.1 (.cons hxe.2.1 .nil)⟩, .refl _, h⟩
end
end Go.Kx
