/- Values as texts: strings out of a reader. No condition of its own. -/
import Derived.Test.YtdknmcaemebgfaaGreatDoorMY07
namespace Go.Kx.Js
open Go.Proofs Go.Kx Go.RowKit
set_option maxRecDepth 20000
theorem hasPrefixL (s p : ByteArray) (hp : p.size ≤ 100) (H : Hp) : CallO Tryz.prog 227 [pv (.string s), pv (.string p)] H [] fun e H' G' => H' = H ∧ e = .ret (pv (.bool (decide ((p.size : Int) ≤ (s.size : Int)) && strEq (s.extract 0 p.size) p))) ∧ G' = [] := by
 refine CallO.of_body tab Tryz.func227 rfl (nt := Tryz.f227.ntmps) rfl (by kernel_rfl) ?_
 (conv => whnf)
 refine br.of (fun h1 => ?_) (fun h1 => ?_) <;> (conv => whnf)
 ·have h2 := of_decide_eq_true h1
  refine ⟨⟨by decide, by omega, by omega⟩, ?_⟩
  (conv => whnf)
  rw [show decide ((p.size : Int) ≤ (s.size : Int)) = true from h1, Bool.true_and]
  exact ⟨rfl, rfl, rfl⟩
 ·rw [show decide ((p.size : Int) ≤ (s.size : Int)) = false from h1]
  exact ⟨rfl, rfl, rfl⟩
theorem digitsP_sfx {l r : List UInt8} {x : Unit} (h : digitsP l = .ok x r) : Sfx r l := by
 unfold digitsP at h
 split at h
 ·injection h with _ h; subst h; exact digsP_sfx l
 ·cases h
theorem bind_ok {α β : Type} {a : Res α} {f : α → List UInt8 → Res β} {y : β} {r : List UInt8} (h : a.bind f = .ok y r) : ∃ x r1, a = .ok x r1 ∧ f x r1 = .ok y r := by
 cases a with
 | ok x r1 => exact ⟨x, r1, rfl, h⟩
 | no e r1 => cases h
theorem optP_s (c : UInt8) (l : List UInt8) : Sfx (optP c l) l := optP_sfx (.refl l)
theorem num1_sfx {l r : List UInt8} {x : Unit} (h : num1 l = .ok x r) : Sfx r l := by
 unfold num1 at h
 split at h
 ·injection h with _ h; subst h; exact optP_s _ _
 ·exact (digitsP_sfx h).trans (optP_s _ _)
theorem num2_sfx {l r : List UInt8} {x : Unit} (h : num2 l = .ok x r) : Sfx r l := by
 unfold num2 at h
 split at h
 ·exact (digitsP_sfx h).trans (optP_s _ _)
 ·injection h with _ h; subst h; exact optP_s _ _
theorem num4_sfx {l r : List UInt8} {x : Unit} (h : num4 l = .ok x r) : Sfx r l := by
 unfold num4 at h
 split at h
 ·exact (digitsP_sfx h).trans (optP_s _ _)
 ·exact (digitsP_sfx h).trans ((optP_s _ _).trans (optP_s _ _))
theorem num3_sfx {l r : List UInt8} {x : Unit} (h : num3 l = .ok x r) : Sfx r l := by
 unfold num3 at h
 split at h
 ·exact (num4_sfx h).trans (optP_s _ _)
 ·split at h
  ·exact (num4_sfx h).trans ((optP_s _ _).trans (optP_s _ _))
  ·injection h with _ h; subst h; exact (optP_s _ _).trans (optP_s _ _)
theorem numberP_sfx {l r : List UInt8} {t : ByteArray} (h : numberP l = .ok t r) : Sfx r l := by
 unfold numberP at h
 obtain ⟨_, r1, h1, h⟩ := bind_ok h
 obtain ⟨_, r2, h2, h⟩ := bind_ok h
 obtain ⟨_, r3, h3, h⟩ := bind_ok h
 injection h with _ h
 subst h
 exact (num3_sfx h3).trans ((num2_sfx h2).trans ((num1_sfx h1).trans (optP_s _ _)))
theorem cut_eq {s : ByteArray} {r l : List UInt8} (hl : Sfx l (tL s)) (h : Sfx r l) : s.extract (((pos s l : Nat) : Int)).toNat (((pos s r : Nat) : Int)).toNat = ⟨(l.take (l.length - r.length)).toArray⟩ := by
 have h1 := h.le
 have h2 := hl.le
 have hd := hl.drop
 apply ByteArray.ext
 apply Array.ext'
 rw [ByteArray.data_extract, Array.toList_extract, List.extract_eq_take_drop]
 show List.take _ (List.drop _ (tL s)) = l.take (l.length - r.length)
 rw [Int.toNat_natCast, Int.toNat_natCast]
 unfold pos
 rw [hd]
 congr 1
 omega
theorem pos_ord {s : ByteArray} {r l : List UInt8} (h : Sfx r l) (_ : Sfx r (tL s)) : 0 ≤ ((pos s l : Nat) : Int) ∧ ((pos s l : Nat) : Int) ≤ ((pos s r : Nat) : Int) ∧ ((pos s r : Nat) : Int) ≤ (s.size : Int) := by
 have h1 := h.le
 have h2 := pos_le s r
 have h3 : pos s l ≤ pos s r := by unfold pos; omega
 omega
set_option linter.unusedSimpArgs false in
set_option maxHeartbeats 4000000 in
theorem number_ (s : ByteArray) (l : List UInt8) (hl : Sfx l (tL s)) (hs : s.size ≤ 1000000) (d o : Int) (H : Hp) : CallO Tryz.prog 103 [me] H [rdB s l d o] fun e H' G' => H' = H ∧ Out s d o (fun (_ : Hp) (t : ByteArray) (sv : SV) => sv = .si (.ag [.val (.int .i64 3), .val (.bool false), .val (.string t), .val (.slice none 0 0), .val (.slice none 0 0)])) (numberP l) e H' G' := by
 refine CallO.of_body tab Tryz.func103 rfl (nt := Tryz.f103.ntmps) rfl (by kernel_rfl) ?_
 (conv => whnf)
 refine ⟨⟨_, Tryz.func141, rfl, by kernel_rfl⟩, CallS.use (nextB 45 (by decide) s (l) hl hs d o _) [0] rfl rfl ⟨rfl, trivial⟩ ?_⟩
 rintro e H' G' hle ⟨rfl, rfl, rfl⟩
 have hm := optP_sfx (c := 45) hl
 (conv => whnf)
 refine ⟨⟨_, Tryz.func141, rfl, by kernel_rfl⟩, CallS.use (nextB 48 (by decide) s (optP 45 l) hm hs d o _) [0] rfl rfl ⟨rfl, trivial⟩ ?_⟩
 rintro e H' G' hle ⟨rfl, rfl, rfl⟩
 have hz := optP_sfx (c := 48) hm
 (conv => whnf)
 cases z : tkB 48 (optP 45 l) <;> (conv => whnf)
 ·skip
  refine ⟨⟨_, Tryz.func142, rfl, by kernel_rfl⟩, CallS.use (digits_ s (optP 48 (optP 45 l)) hz hs d o _) [0] rfl rfl ⟨rfl, trivial⟩ ?_⟩
  rintro e H' G' hle ⟨rfl, hout⟩
  cases w : digitsP (optP 48 (optP 45 l)) with
  | no er r =>
   rw [w] at hout
   obtain ⟨rfl, l2, o2, rfl⟩ := hout
   (conv => whnf)
   refine ⟨rfl, ?_⟩
   simp only [numberP, num1, num2, num3, num4, Res.bind, if_true, if_false, Bool.false_eq_true, z, w]
   exact ⟨rfl, l2, o2, rfl⟩
  | ok x rw =>
   rw [w] at hout
   obtain ⟨hrw, ⟨sv, rfl, rfl⟩, rfl⟩ := hout
   (conv => whnf)
   refine ⟨⟨_, Tryz.func141, rfl, by kernel_rfl⟩, CallS.use (nextB 46 (by decide) s (rw) hrw hs d o _) [0] rfl rfl ⟨rfl, trivial⟩ ?_⟩
   rintro e H' G' hle ⟨rfl, rfl, rfl⟩
   have hrwf := optP_sfx (c := 46) hrw
   (conv => whnf)
   cases f2 : tkB 46 (rw) <;> (conv => whnf)
   ·skip
    refine ⟨⟨_, Tryz.func141, rfl, by kernel_rfl⟩, CallS.use (nextB 101 (by decide) s (optP 46 (rw)) hrwf hs d o _) [0] rfl rfl ⟨rfl, trivial⟩ ?_⟩
    rintro e H' G' hle ⟨rfl, rfl, rfl⟩
    have hrwfe := optP_sfx (c := 101) hrwf
    (conv => whnf)
    cases e3 : tkB 101 (optP 46 (rw)) <;> (conv => whnf)
    ·skip
     refine ⟨⟨_, Tryz.func141, rfl, by kernel_rfl⟩, CallS.use (nextB 69 (by decide) s (optP 101 (optP 46 (rw))) hrwfe hs d o _) [0] rfl rfl ⟨rfl, trivial⟩ ?_⟩
     rintro e H' G' hle ⟨rfl, rfl, rfl⟩
     have hrwfE := optP_sfx (c := 69) hrwfe
     (conv => whnf)
     cases E3 : tkB 69 (optP 101 (optP 46 (rw))) <;> (conv => whnf)
     ·skip
      have hfin : numberP l = .ok ⟨(l.take (l.length - (optP 69 (optP 101 (optP 46 (rw)))).length)).toArray⟩ (optP 69 (optP 101 (optP 46 (rw)))) := by
       simp only [numberP, num1, num2, num3, num4, Res.bind, if_true, if_false, Bool.false_eq_true, z, w, f2, e3, E3]
      have hsl : Sfx (optP 69 (optP 101 (optP 46 (rw)))) l := numberP_sfx hfin
      rw [hfin]
      clear z w f2 e3 E3 hfin
      generalize optP 69 (optP 101 (optP 46 (rw))) = rl at *
      refine WS.draw tab mixed (.take 0 (.take 1 (.take 2 (.take 3 (.take 4 (.take 5 (.take 6 (.take 7 (.take 8 (.take 9 (.take 10 (.alt 11 .done .no)))))))))))) (by kernel_rfl) [1] ?_
      (conv => whnf)
      refine ⟨pos_ord hsl hrwfE, ?_⟩
      (conv => whnf)
      repeat' (first | exact trivial | exact rfl | exact ⟨rfl, hrwfE, ⟨_, rfl, rfl⟩, rfl⟩ | (rw [cut_eq hl hsl]; exact ⟨rfl, hrwfE, ⟨_, rfl, rfl⟩, rfl⟩) | (refine And.intro ?_ ?_ <;> (conv => whnf)))
     ·skip
      refine ⟨⟨_, Tryz.func141, rfl, by kernel_rfl⟩, CallS.use (nextB 43 (by decide) s (optP 69 (optP 101 (optP 46 (rw)))) hrwfE hs d o _) [0] rfl rfl ⟨rfl, trivial⟩ ?_⟩
      rintro e H' G' hle ⟨rfl, rfl, rfl⟩
      have hrwfEp := optP_sfx (c := 43) hrwfE
      (conv => whnf)
      cases p5 : tkB 43 (optP 69 (optP 101 (optP 46 (rw)))) <;> (conv => whnf)
      ·skip
       refine ⟨⟨_, Tryz.func141, rfl, by kernel_rfl⟩, CallS.use (nextB 45 (by decide) s (optP 43 (optP 69 (optP 101 (optP 46 (rw))))) hrwfEp hs d o _) [0] rfl rfl ⟨rfl, trivial⟩ ?_⟩
       rintro e H' G' hle ⟨rfl, rfl, rfl⟩
       have hrwfEm := optP_sfx (c := 45) hrwfEp
       (conv => whnf)
       refine ⟨⟨_, Tryz.func142, rfl, by kernel_rfl⟩, CallS.use (digits_ s (optP 45 (optP 43 (optP 69 (optP 101 (optP 46 (rw)))))) hrwfEm hs d o _) [0] rfl rfl ⟨rfl, trivial⟩ ?_⟩
       rintro e H' G' hle ⟨rfl, hout⟩
       cases x5 : digitsP (optP 45 (optP 43 (optP 69 (optP 101 (optP 46 (rw)))))) with
       | no er r =>
        rw [x5] at hout
        obtain ⟨rfl, l2, o2, rfl⟩ := hout
        (conv => whnf)
        refine ⟨rfl, ?_⟩
        simp only [numberP, num1, num2, num3, num4, Res.bind, if_true, if_false, Bool.false_eq_true, z, w, f2, e3, E3, p5, x5]
        exact ⟨rfl, l2, o2, rfl⟩
       | ok x rx5 =>
        rw [x5] at hout
        obtain ⟨hrx5, ⟨sv, rfl, rfl⟩, rfl⟩ := hout
        (conv => whnf)
        have hfin : numberP l = .ok ⟨(l.take (l.length - (rx5).length)).toArray⟩ (rx5) := by
         simp only [numberP, num1, num2, num3, num4, Res.bind, if_true, if_false, Bool.false_eq_true, z, w, f2, e3, E3, p5, x5]
        have hsl : Sfx (rx5) l := numberP_sfx hfin
        rw [hfin]
        clear z w f2 e3 E3 p5 x5 hfin
        generalize rx5 = rl at *
        refine WS.draw tab mixed (.take 0 (.take 1 (.take 2 (.take 3 (.take 4 (.take 5 (.take 6 (.take 7 (.take 8 (.take 9 (.take 10 (.alt 11 .done .no)))))))))))) (by kernel_rfl) [1] ?_
        (conv => whnf)
        refine ⟨pos_ord hsl hrx5, ?_⟩
        (conv => whnf)
        repeat' (first | exact trivial | exact rfl | exact ⟨rfl, hrx5, ⟨_, rfl, rfl⟩, rfl⟩ | (rw [cut_eq hl hsl]; exact ⟨rfl, hrx5, ⟨_, rfl, rfl⟩, rfl⟩) | (refine And.intro ?_ ?_ <;> (conv => whnf)))
      ·skip
       refine ⟨⟨_, Tryz.func142, rfl, by kernel_rfl⟩, CallS.use (digits_ s (optP 43 (optP 69 (optP 101 (optP 46 (rw))))) hrwfEp hs d o _) [0] rfl rfl ⟨rfl, trivial⟩ ?_⟩
       rintro e H' G' hle ⟨rfl, hout⟩
       cases x5 : digitsP (optP 43 (optP 69 (optP 101 (optP 46 (rw))))) with
       | no er r =>
        rw [x5] at hout
        obtain ⟨rfl, l2, o2, rfl⟩ := hout
        (conv => whnf)
        refine ⟨rfl, ?_⟩
        simp only [numberP, num1, num2, num3, num4, Res.bind, if_true, if_false, Bool.false_eq_true, z, w, f2, e3, E3, p5, x5]
        exact ⟨rfl, l2, o2, rfl⟩
       | ok x rx5 =>
        rw [x5] at hout
        obtain ⟨hrx5, ⟨sv, rfl, rfl⟩, rfl⟩ := hout
        (conv => whnf)
        have hfin : numberP l = .ok ⟨(l.take (l.length - (rx5).length)).toArray⟩ (rx5) := by
         simp only [numberP, num1, num2, num3, num4, Res.bind, if_true, if_false, Bool.false_eq_true, z, w, f2, e3, E3, p5, x5]
        have hsl : Sfx (rx5) l := numberP_sfx hfin
        rw [hfin]
        clear z w f2 e3 E3 p5 x5 hfin
        generalize rx5 = rl at *
        refine WS.draw tab mixed (.take 0 (.take 1 (.take 2 (.take 3 (.take 4 (.take 5 (.take 6 (.take 7 (.take 8 (.take 9 (.take 10 (.alt 11 .done .no)))))))))))) (by kernel_rfl) [1] ?_
        (conv => whnf)
        refine ⟨pos_ord hsl hrx5, ?_⟩
        (conv => whnf)
        repeat' (first | exact trivial | exact rfl | exact ⟨rfl, hrx5, ⟨_, rfl, rfl⟩, rfl⟩ | (rw [cut_eq hl hsl]; exact ⟨rfl, hrx5, ⟨_, rfl, rfl⟩, rfl⟩) | (refine And.intro ?_ ?_ <;> (conv => whnf)))
    ·skip
     refine ⟨⟨_, Tryz.func141, rfl, by kernel_rfl⟩, CallS.use (nextB 43 (by decide) s (optP 101 (optP 46 (rw))) hrwfe hs d o _) [0] rfl rfl ⟨rfl, trivial⟩ ?_⟩
     rintro e H' G' hle ⟨rfl, rfl, rfl⟩
     have hrwfep := optP_sfx (c := 43) hrwfe
     (conv => whnf)
     cases p4 : tkB 43 (optP 101 (optP 46 (rw))) <;> (conv => whnf)
     ·skip
      refine ⟨⟨_, Tryz.func141, rfl, by kernel_rfl⟩, CallS.use (nextB 45 (by decide) s (optP 43 (optP 101 (optP 46 (rw)))) hrwfep hs d o _) [0] rfl rfl ⟨rfl, trivial⟩ ?_⟩
      rintro e H' G' hle ⟨rfl, rfl, rfl⟩
      have hrwfem := optP_sfx (c := 45) hrwfep
      (conv => whnf)
      refine ⟨⟨_, Tryz.func142, rfl, by kernel_rfl⟩, CallS.use (digits_ s (optP 45 (optP 43 (optP 101 (optP 46 (rw))))) hrwfem hs d o _) [0] rfl rfl ⟨rfl, trivial⟩ ?_⟩
      rintro e H' G' hle ⟨rfl, hout⟩
      cases x4 : digitsP (optP 45 (optP 43 (optP 101 (optP 46 (rw))))) with
      | no er r =>
       rw [x4] at hout
       obtain ⟨rfl, l2, o2, rfl⟩ := hout
       (conv => whnf)
       refine ⟨rfl, ?_⟩
       simp only [numberP, num1, num2, num3, num4, Res.bind, if_true, if_false, Bool.false_eq_true, z, w, f2, e3, p4, x4]
       exact ⟨rfl, l2, o2, rfl⟩
      | ok x rx4 =>
       rw [x4] at hout
       obtain ⟨hrx4, ⟨sv, rfl, rfl⟩, rfl⟩ := hout
       (conv => whnf)
       have hfin : numberP l = .ok ⟨(l.take (l.length - (rx4).length)).toArray⟩ (rx4) := by
        simp only [numberP, num1, num2, num3, num4, Res.bind, if_true, if_false, Bool.false_eq_true, z, w, f2, e3, p4, x4]
       have hsl : Sfx (rx4) l := numberP_sfx hfin
       rw [hfin]
       clear z w f2 e3 p4 x4 hfin
       generalize rx4 = rl at *
       refine WS.draw tab mixed (.take 0 (.take 1 (.take 2 (.take 3 (.take 4 (.take 5 (.take 6 (.take 7 (.take 8 (.take 9 (.take 10 (.alt 11 .done .no)))))))))))) (by kernel_rfl) [1] ?_
       (conv => whnf)
       refine ⟨pos_ord hsl hrx4, ?_⟩
       (conv => whnf)
       repeat' (first | exact trivial | exact rfl | exact ⟨rfl, hrx4, ⟨_, rfl, rfl⟩, rfl⟩ | (rw [cut_eq hl hsl]; exact ⟨rfl, hrx4, ⟨_, rfl, rfl⟩, rfl⟩) | (refine And.intro ?_ ?_ <;> (conv => whnf)))
     ·skip
      refine ⟨⟨_, Tryz.func142, rfl, by kernel_rfl⟩, CallS.use (digits_ s (optP 43 (optP 101 (optP 46 (rw)))) hrwfep hs d o _) [0] rfl rfl ⟨rfl, trivial⟩ ?_⟩
      rintro e H' G' hle ⟨rfl, hout⟩
      cases x4 : digitsP (optP 43 (optP 101 (optP 46 (rw)))) with
      | no er r =>
       rw [x4] at hout
       obtain ⟨rfl, l2, o2, rfl⟩ := hout
       (conv => whnf)
       refine ⟨rfl, ?_⟩
       simp only [numberP, num1, num2, num3, num4, Res.bind, if_true, if_false, Bool.false_eq_true, z, w, f2, e3, p4, x4]
       exact ⟨rfl, l2, o2, rfl⟩
      | ok x rx4 =>
       rw [x4] at hout
       obtain ⟨hrx4, ⟨sv, rfl, rfl⟩, rfl⟩ := hout
       (conv => whnf)
       have hfin : numberP l = .ok ⟨(l.take (l.length - (rx4).length)).toArray⟩ (rx4) := by
        simp only [numberP, num1, num2, num3, num4, Res.bind, if_true, if_false, Bool.false_eq_true, z, w, f2, e3, p4, x4]
       have hsl : Sfx (rx4) l := numberP_sfx hfin
       rw [hfin]
       clear z w f2 e3 p4 x4 hfin
       generalize rx4 = rl at *
       refine WS.draw tab mixed (.take 0 (.take 1 (.take 2 (.take 3 (.take 4 (.take 5 (.take 6 (.take 7 (.take 8 (.take 9 (.take 10 (.alt 11 .done .no)))))))))))) (by kernel_rfl) [1] ?_
       (conv => whnf)
       refine ⟨pos_ord hsl hrx4, ?_⟩
       (conv => whnf)
       repeat' (first | exact trivial | exact rfl | exact ⟨rfl, hrx4, ⟨_, rfl, rfl⟩, rfl⟩ | (rw [cut_eq hl hsl]; exact ⟨rfl, hrx4, ⟨_, rfl, rfl⟩, rfl⟩) | (refine And.intro ?_ ?_ <;> (conv => whnf)))
   ·skip
    refine ⟨⟨_, Tryz.func142, rfl, by kernel_rfl⟩, CallS.use (digits_ s (optP 46 (rw)) hrwf hs d o _) [0] rfl rfl ⟨rfl, trivial⟩ ?_⟩
    rintro e H' G' hle ⟨rfl, hout⟩
    cases y2 : digitsP (optP 46 (rw)) with
    | no er r =>
     rw [y2] at hout
     obtain ⟨rfl, l2, o2, rfl⟩ := hout
     (conv => whnf)
     refine ⟨rfl, ?_⟩
     simp only [numberP, num1, num2, num3, num4, Res.bind, if_true, if_false, Bool.false_eq_true, z, w, f2, y2]
     exact ⟨rfl, l2, o2, rfl⟩
    | ok x ry2 =>
     rw [y2] at hout
     obtain ⟨hry2, ⟨sv, rfl, rfl⟩, rfl⟩ := hout
     (conv => whnf)
     refine ⟨⟨_, Tryz.func141, rfl, by kernel_rfl⟩, CallS.use (nextB 101 (by decide) s (ry2) hry2 hs d o _) [0] rfl rfl ⟨rfl, trivial⟩ ?_⟩
     rintro e H' G' hle ⟨rfl, rfl, rfl⟩
     have hry2e := optP_sfx (c := 101) hry2
     (conv => whnf)
     cases e4 : tkB 101 (ry2) <;> (conv => whnf)
     ·skip
      refine ⟨⟨_, Tryz.func141, rfl, by kernel_rfl⟩, CallS.use (nextB 69 (by decide) s (optP 101 (ry2)) hry2e hs d o _) [0] rfl rfl ⟨rfl, trivial⟩ ?_⟩
      rintro e H' G' hle ⟨rfl, rfl, rfl⟩
      have hry2E := optP_sfx (c := 69) hry2e
      (conv => whnf)
      cases E4 : tkB 69 (optP 101 (ry2)) <;> (conv => whnf)
      ·skip
       have hfin : numberP l = .ok ⟨(l.take (l.length - (optP 69 (optP 101 (ry2))).length)).toArray⟩ (optP 69 (optP 101 (ry2))) := by
        simp only [numberP, num1, num2, num3, num4, Res.bind, if_true, if_false, Bool.false_eq_true, z, w, f2, y2, e4, E4]
       have hsl : Sfx (optP 69 (optP 101 (ry2))) l := numberP_sfx hfin
       rw [hfin]
       clear z w f2 y2 e4 E4 hfin
       generalize optP 69 (optP 101 (ry2)) = rl at *
       refine WS.draw tab mixed (.take 0 (.take 1 (.take 2 (.take 3 (.take 4 (.take 5 (.take 6 (.take 7 (.take 8 (.take 9 (.take 10 (.alt 11 .done .no)))))))))))) (by kernel_rfl) [1] ?_
       (conv => whnf)
       refine ⟨pos_ord hsl hry2E, ?_⟩
       (conv => whnf)
       repeat' (first | exact trivial | exact rfl | exact ⟨rfl, hry2E, ⟨_, rfl, rfl⟩, rfl⟩ | (rw [cut_eq hl hsl]; exact ⟨rfl, hry2E, ⟨_, rfl, rfl⟩, rfl⟩) | (refine And.intro ?_ ?_ <;> (conv => whnf)))
      ·skip
       refine ⟨⟨_, Tryz.func141, rfl, by kernel_rfl⟩, CallS.use (nextB 43 (by decide) s (optP 69 (optP 101 (ry2))) hry2E hs d o _) [0] rfl rfl ⟨rfl, trivial⟩ ?_⟩
       rintro e H' G' hle ⟨rfl, rfl, rfl⟩
       have hry2Ep := optP_sfx (c := 43) hry2E
       (conv => whnf)
       cases p6 : tkB 43 (optP 69 (optP 101 (ry2))) <;> (conv => whnf)
       ·skip
        refine ⟨⟨_, Tryz.func141, rfl, by kernel_rfl⟩, CallS.use (nextB 45 (by decide) s (optP 43 (optP 69 (optP 101 (ry2)))) hry2Ep hs d o _) [0] rfl rfl ⟨rfl, trivial⟩ ?_⟩
        rintro e H' G' hle ⟨rfl, rfl, rfl⟩
        have hry2Em := optP_sfx (c := 45) hry2Ep
        (conv => whnf)
        refine ⟨⟨_, Tryz.func142, rfl, by kernel_rfl⟩, CallS.use (digits_ s (optP 45 (optP 43 (optP 69 (optP 101 (ry2))))) hry2Em hs d o _) [0] rfl rfl ⟨rfl, trivial⟩ ?_⟩
        rintro e H' G' hle ⟨rfl, hout⟩
        cases x6 : digitsP (optP 45 (optP 43 (optP 69 (optP 101 (ry2))))) with
        | no er r =>
         rw [x6] at hout
         obtain ⟨rfl, l2, o2, rfl⟩ := hout
         (conv => whnf)
         refine ⟨rfl, ?_⟩
         simp only [numberP, num1, num2, num3, num4, Res.bind, if_true, if_false, Bool.false_eq_true, z, w, f2, y2, e4, E4, p6, x6]
         exact ⟨rfl, l2, o2, rfl⟩
        | ok x rx6 =>
         rw [x6] at hout
         obtain ⟨hrx6, ⟨sv, rfl, rfl⟩, rfl⟩ := hout
         (conv => whnf)
         have hfin : numberP l = .ok ⟨(l.take (l.length - (rx6).length)).toArray⟩ (rx6) := by
          simp only [numberP, num1, num2, num3, num4, Res.bind, if_true, if_false, Bool.false_eq_true, z, w, f2, y2, e4, E4, p6, x6]
         have hsl : Sfx (rx6) l := numberP_sfx hfin
         rw [hfin]
         clear z w f2 y2 e4 E4 p6 x6 hfin
         generalize rx6 = rl at *
         refine WS.draw tab mixed (.take 0 (.take 1 (.take 2 (.take 3 (.take 4 (.take 5 (.take 6 (.take 7 (.take 8 (.take 9 (.take 10 (.alt 11 .done .no)))))))))))) (by kernel_rfl) [1] ?_
         (conv => whnf)
         refine ⟨pos_ord hsl hrx6, ?_⟩
         (conv => whnf)
         repeat' (first | exact trivial | exact rfl | exact ⟨rfl, hrx6, ⟨_, rfl, rfl⟩, rfl⟩ | (rw [cut_eq hl hsl]; exact ⟨rfl, hrx6, ⟨_, rfl, rfl⟩, rfl⟩) | (refine And.intro ?_ ?_ <;> (conv => whnf)))
       ·skip
        refine ⟨⟨_, Tryz.func142, rfl, by kernel_rfl⟩, CallS.use (digits_ s (optP 43 (optP 69 (optP 101 (ry2)))) hry2Ep hs d o _) [0] rfl rfl ⟨rfl, trivial⟩ ?_⟩
        rintro e H' G' hle ⟨rfl, hout⟩
        cases x6 : digitsP (optP 43 (optP 69 (optP 101 (ry2)))) with
        | no er r =>
         rw [x6] at hout
         obtain ⟨rfl, l2, o2, rfl⟩ := hout
         (conv => whnf)
         refine ⟨rfl, ?_⟩
         simp only [numberP, num1, num2, num3, num4, Res.bind, if_true, if_false, Bool.false_eq_true, z, w, f2, y2, e4, E4, p6, x6]
         exact ⟨rfl, l2, o2, rfl⟩
        | ok x rx6 =>
         rw [x6] at hout
         obtain ⟨hrx6, ⟨sv, rfl, rfl⟩, rfl⟩ := hout
         (conv => whnf)
         have hfin : numberP l = .ok ⟨(l.take (l.length - (rx6).length)).toArray⟩ (rx6) := by
          simp only [numberP, num1, num2, num3, num4, Res.bind, if_true, if_false, Bool.false_eq_true, z, w, f2, y2, e4, E4, p6, x6]
         have hsl : Sfx (rx6) l := numberP_sfx hfin
         rw [hfin]
         clear z w f2 y2 e4 E4 p6 x6 hfin
         generalize rx6 = rl at *
         refine WS.draw tab mixed (.take 0 (.take 1 (.take 2 (.take 3 (.take 4 (.take 5 (.take 6 (.take 7 (.take 8 (.take 9 (.take 10 (.alt 11 .done .no)))))))))))) (by kernel_rfl) [1] ?_
         (conv => whnf)
         refine ⟨pos_ord hsl hrx6, ?_⟩
         (conv => whnf)
         repeat' (first | exact trivial | exact rfl | exact ⟨rfl, hrx6, ⟨_, rfl, rfl⟩, rfl⟩ | (rw [cut_eq hl hsl]; exact ⟨rfl, hrx6, ⟨_, rfl, rfl⟩, rfl⟩) | (refine And.intro ?_ ?_ <;> (conv => whnf)))
     ·skip
      refine ⟨⟨_, Tryz.func141, rfl, by kernel_rfl⟩, CallS.use (nextB 43 (by decide) s (optP 101 (ry2)) hry2e hs d o _) [0] rfl rfl ⟨rfl, trivial⟩ ?_⟩
      rintro e H' G' hle ⟨rfl, rfl, rfl⟩
      have hry2ep := optP_sfx (c := 43) hry2e
      (conv => whnf)
      cases p5 : tkB 43 (optP 101 (ry2)) <;> (conv => whnf)
      ·skip
       refine ⟨⟨_, Tryz.func141, rfl, by kernel_rfl⟩, CallS.use (nextB 45 (by decide) s (optP 43 (optP 101 (ry2))) hry2ep hs d o _) [0] rfl rfl ⟨rfl, trivial⟩ ?_⟩
       rintro e H' G' hle ⟨rfl, rfl, rfl⟩
       have hry2em := optP_sfx (c := 45) hry2ep
       (conv => whnf)
       refine ⟨⟨_, Tryz.func142, rfl, by kernel_rfl⟩, CallS.use (digits_ s (optP 45 (optP 43 (optP 101 (ry2)))) hry2em hs d o _) [0] rfl rfl ⟨rfl, trivial⟩ ?_⟩
       rintro e H' G' hle ⟨rfl, hout⟩
       cases x5 : digitsP (optP 45 (optP 43 (optP 101 (ry2)))) with
       | no er r =>
        rw [x5] at hout
        obtain ⟨rfl, l2, o2, rfl⟩ := hout
        (conv => whnf)
        refine ⟨rfl, ?_⟩
        simp only [numberP, num1, num2, num3, num4, Res.bind, if_true, if_false, Bool.false_eq_true, z, w, f2, y2, e4, p5, x5]
        exact ⟨rfl, l2, o2, rfl⟩
       | ok x rx5 =>
        rw [x5] at hout
        obtain ⟨hrx5, ⟨sv, rfl, rfl⟩, rfl⟩ := hout
        (conv => whnf)
        have hfin : numberP l = .ok ⟨(l.take (l.length - (rx5).length)).toArray⟩ (rx5) := by
         simp only [numberP, num1, num2, num3, num4, Res.bind, if_true, if_false, Bool.false_eq_true, z, w, f2, y2, e4, p5, x5]
        have hsl : Sfx (rx5) l := numberP_sfx hfin
        rw [hfin]
        clear z w f2 y2 e4 p5 x5 hfin
        generalize rx5 = rl at *
        refine WS.draw tab mixed (.take 0 (.take 1 (.take 2 (.take 3 (.take 4 (.take 5 (.take 6 (.take 7 (.take 8 (.take 9 (.take 10 (.alt 11 .done .no)))))))))))) (by kernel_rfl) [1] ?_
        (conv => whnf)
        refine ⟨pos_ord hsl hrx5, ?_⟩
        (conv => whnf)
        repeat' (first | exact trivial | exact rfl | exact ⟨rfl, hrx5, ⟨_, rfl, rfl⟩, rfl⟩ | (rw [cut_eq hl hsl]; exact ⟨rfl, hrx5, ⟨_, rfl, rfl⟩, rfl⟩) | (refine And.intro ?_ ?_ <;> (conv => whnf)))
      ·skip
       refine ⟨⟨_, Tryz.func142, rfl, by kernel_rfl⟩, CallS.use (digits_ s (optP 43 (optP 101 (ry2))) hry2ep hs d o _) [0] rfl rfl ⟨rfl, trivial⟩ ?_⟩
       rintro e H' G' hle ⟨rfl, hout⟩
       cases x5 : digitsP (optP 43 (optP 101 (ry2))) with
       | no er r =>
        rw [x5] at hout
        obtain ⟨rfl, l2, o2, rfl⟩ := hout
        (conv => whnf)
        refine ⟨rfl, ?_⟩
        simp only [numberP, num1, num2, num3, num4, Res.bind, if_true, if_false, Bool.false_eq_true, z, w, f2, y2, e4, p5, x5]
        exact ⟨rfl, l2, o2, rfl⟩
       | ok x rx5 =>
        rw [x5] at hout
        obtain ⟨hrx5, ⟨sv, rfl, rfl⟩, rfl⟩ := hout
        (conv => whnf)
        have hfin : numberP l = .ok ⟨(l.take (l.length - (rx5).length)).toArray⟩ (rx5) := by
         simp only [numberP, num1, num2, num3, num4, Res.bind, if_true, if_false, Bool.false_eq_true, z, w, f2, y2, e4, p5, x5]
        have hsl : Sfx (rx5) l := numberP_sfx hfin
        rw [hfin]
        clear z w f2 y2 e4 p5 x5 hfin
        generalize rx5 = rl at *
        refine WS.draw tab mixed (.take 0 (.take 1 (.take 2 (.take 3 (.take 4 (.take 5 (.take 6 (.take 7 (.take 8 (.take 9 (.take 10 (.alt 11 .done .no)))))))))))) (by kernel_rfl) [1] ?_
        (conv => whnf)
        refine ⟨pos_ord hsl hrx5, ?_⟩
        (conv => whnf)
        repeat' (first | exact trivial | exact rfl | exact ⟨rfl, hrx5, ⟨_, rfl, rfl⟩, rfl⟩ | (rw [cut_eq hl hsl]; exact ⟨rfl, hrx5, ⟨_, rfl, rfl⟩, rfl⟩) | (refine And.intro ?_ ?_ <;> (conv => whnf)))
 ·skip
  refine ⟨⟨_, Tryz.func141, rfl, by kernel_rfl⟩, CallS.use (nextB 46 (by decide) s (optP 48 (optP 45 l)) hz hs d o _) [0] rfl rfl ⟨rfl, trivial⟩ ?_⟩
  rintro e H' G' hle ⟨rfl, rfl, rfl⟩
  have hzf := optP_sfx (c := 46) hz
  (conv => whnf)
  cases f1 : tkB 46 (optP 48 (optP 45 l)) <;> (conv => whnf)
  ·skip
   refine ⟨⟨_, Tryz.func141, rfl, by kernel_rfl⟩, CallS.use (nextB 101 (by decide) s (optP 46 (optP 48 (optP 45 l))) hzf hs d o _) [0] rfl rfl ⟨rfl, trivial⟩ ?_⟩
   rintro e H' G' hle ⟨rfl, rfl, rfl⟩
   have hzfe := optP_sfx (c := 101) hzf
   (conv => whnf)
   cases e2 : tkB 101 (optP 46 (optP 48 (optP 45 l))) <;> (conv => whnf)
   ·skip
    refine ⟨⟨_, Tryz.func141, rfl, by kernel_rfl⟩, CallS.use (nextB 69 (by decide) s (optP 101 (optP 46 (optP 48 (optP 45 l)))) hzfe hs d o _) [0] rfl rfl ⟨rfl, trivial⟩ ?_⟩
    rintro e H' G' hle ⟨rfl, rfl, rfl⟩
    have hzfE := optP_sfx (c := 69) hzfe
    (conv => whnf)
    cases E2 : tkB 69 (optP 101 (optP 46 (optP 48 (optP 45 l)))) <;> (conv => whnf)
    ·skip
     have hfin : numberP l = .ok ⟨(l.take (l.length - (optP 69 (optP 101 (optP 46 (optP 48 (optP 45 l))))).length)).toArray⟩ (optP 69 (optP 101 (optP 46 (optP 48 (optP 45 l))))) := by
      simp only [numberP, num1, num2, num3, num4, Res.bind, if_true, if_false, Bool.false_eq_true, z, f1, e2, E2]
     have hsl : Sfx (optP 69 (optP 101 (optP 46 (optP 48 (optP 45 l))))) l := numberP_sfx hfin
     rw [hfin]
     clear z f1 e2 E2 hfin
     generalize optP 69 (optP 101 (optP 46 (optP 48 (optP 45 l)))) = rl at *
     refine WS.draw tab mixed (.take 0 (.take 1 (.take 2 (.take 3 (.take 4 (.take 5 (.take 6 (.take 7 (.take 8 (.take 9 (.take 10 (.alt 11 .done .no)))))))))))) (by kernel_rfl) [1] ?_
     (conv => whnf)
     refine ⟨pos_ord hsl hzfE, ?_⟩
     (conv => whnf)
     repeat' (first | exact trivial | exact rfl | exact ⟨rfl, hzfE, ⟨_, rfl, rfl⟩, rfl⟩ | (rw [cut_eq hl hsl]; exact ⟨rfl, hzfE, ⟨_, rfl, rfl⟩, rfl⟩) | (refine And.intro ?_ ?_ <;> (conv => whnf)))
    ·skip
     refine ⟨⟨_, Tryz.func141, rfl, by kernel_rfl⟩, CallS.use (nextB 43 (by decide) s (optP 69 (optP 101 (optP 46 (optP 48 (optP 45 l))))) hzfE hs d o _) [0] rfl rfl ⟨rfl, trivial⟩ ?_⟩
     rintro e H' G' hle ⟨rfl, rfl, rfl⟩
     have hzfEp := optP_sfx (c := 43) hzfE
     (conv => whnf)
     cases p4 : tkB 43 (optP 69 (optP 101 (optP 46 (optP 48 (optP 45 l))))) <;> (conv => whnf)
     ·skip
      refine ⟨⟨_, Tryz.func141, rfl, by kernel_rfl⟩, CallS.use (nextB 45 (by decide) s (optP 43 (optP 69 (optP 101 (optP 46 (optP 48 (optP 45 l)))))) hzfEp hs d o _) [0] rfl rfl ⟨rfl, trivial⟩ ?_⟩
      rintro e H' G' hle ⟨rfl, rfl, rfl⟩
      have hzfEm := optP_sfx (c := 45) hzfEp
      (conv => whnf)
      refine ⟨⟨_, Tryz.func142, rfl, by kernel_rfl⟩, CallS.use (digits_ s (optP 45 (optP 43 (optP 69 (optP 101 (optP 46 (optP 48 (optP 45 l))))))) hzfEm hs d o _) [0] rfl rfl ⟨rfl, trivial⟩ ?_⟩
      rintro e H' G' hle ⟨rfl, hout⟩
      cases x4 : digitsP (optP 45 (optP 43 (optP 69 (optP 101 (optP 46 (optP 48 (optP 45 l))))))) with
      | no er r =>
       rw [x4] at hout
       obtain ⟨rfl, l2, o2, rfl⟩ := hout
       (conv => whnf)
       refine ⟨rfl, ?_⟩
       simp only [numberP, num1, num2, num3, num4, Res.bind, if_true, if_false, Bool.false_eq_true, z, f1, e2, E2, p4, x4]
       exact ⟨rfl, l2, o2, rfl⟩
      | ok x rx4 =>
       rw [x4] at hout
       obtain ⟨hrx4, ⟨sv, rfl, rfl⟩, rfl⟩ := hout
       (conv => whnf)
       have hfin : numberP l = .ok ⟨(l.take (l.length - (rx4).length)).toArray⟩ (rx4) := by
        simp only [numberP, num1, num2, num3, num4, Res.bind, if_true, if_false, Bool.false_eq_true, z, f1, e2, E2, p4, x4]
       have hsl : Sfx (rx4) l := numberP_sfx hfin
       rw [hfin]
       clear z f1 e2 E2 p4 x4 hfin
       generalize rx4 = rl at *
       refine WS.draw tab mixed (.take 0 (.take 1 (.take 2 (.take 3 (.take 4 (.take 5 (.take 6 (.take 7 (.take 8 (.take 9 (.take 10 (.alt 11 .done .no)))))))))))) (by kernel_rfl) [1] ?_
       (conv => whnf)
       refine ⟨pos_ord hsl hrx4, ?_⟩
       (conv => whnf)
       repeat' (first | exact trivial | exact rfl | exact ⟨rfl, hrx4, ⟨_, rfl, rfl⟩, rfl⟩ | (rw [cut_eq hl hsl]; exact ⟨rfl, hrx4, ⟨_, rfl, rfl⟩, rfl⟩) | (refine And.intro ?_ ?_ <;> (conv => whnf)))
     ·skip
      refine ⟨⟨_, Tryz.func142, rfl, by kernel_rfl⟩, CallS.use (digits_ s (optP 43 (optP 69 (optP 101 (optP 46 (optP 48 (optP 45 l)))))) hzfEp hs d o _) [0] rfl rfl ⟨rfl, trivial⟩ ?_⟩
      rintro e H' G' hle ⟨rfl, hout⟩
      cases x4 : digitsP (optP 43 (optP 69 (optP 101 (optP 46 (optP 48 (optP 45 l)))))) with
      | no er r =>
       rw [x4] at hout
       obtain ⟨rfl, l2, o2, rfl⟩ := hout
       (conv => whnf)
       refine ⟨rfl, ?_⟩
       simp only [numberP, num1, num2, num3, num4, Res.bind, if_true, if_false, Bool.false_eq_true, z, f1, e2, E2, p4, x4]
       exact ⟨rfl, l2, o2, rfl⟩
      | ok x rx4 =>
       rw [x4] at hout
       obtain ⟨hrx4, ⟨sv, rfl, rfl⟩, rfl⟩ := hout
       (conv => whnf)
       have hfin : numberP l = .ok ⟨(l.take (l.length - (rx4).length)).toArray⟩ (rx4) := by
        simp only [numberP, num1, num2, num3, num4, Res.bind, if_true, if_false, Bool.false_eq_true, z, f1, e2, E2, p4, x4]
       have hsl : Sfx (rx4) l := numberP_sfx hfin
       rw [hfin]
       clear z f1 e2 E2 p4 x4 hfin
       generalize rx4 = rl at *
       refine WS.draw tab mixed (.take 0 (.take 1 (.take 2 (.take 3 (.take 4 (.take 5 (.take 6 (.take 7 (.take 8 (.take 9 (.take 10 (.alt 11 .done .no)))))))))))) (by kernel_rfl) [1] ?_
       (conv => whnf)
       refine ⟨pos_ord hsl hrx4, ?_⟩
       (conv => whnf)
       repeat' (first | exact trivial | exact rfl | exact ⟨rfl, hrx4, ⟨_, rfl, rfl⟩, rfl⟩ | (rw [cut_eq hl hsl]; exact ⟨rfl, hrx4, ⟨_, rfl, rfl⟩, rfl⟩) | (refine And.intro ?_ ?_ <;> (conv => whnf)))
   ·skip
    refine ⟨⟨_, Tryz.func141, rfl, by kernel_rfl⟩, CallS.use (nextB 43 (by decide) s (optP 101 (optP 46 (optP 48 (optP 45 l)))) hzfe hs d o _) [0] rfl rfl ⟨rfl, trivial⟩ ?_⟩
    rintro e H' G' hle ⟨rfl, rfl, rfl⟩
    have hzfep := optP_sfx (c := 43) hzfe
    (conv => whnf)
    cases p3 : tkB 43 (optP 101 (optP 46 (optP 48 (optP 45 l)))) <;> (conv => whnf)
    ·skip
     refine ⟨⟨_, Tryz.func141, rfl, by kernel_rfl⟩, CallS.use (nextB 45 (by decide) s (optP 43 (optP 101 (optP 46 (optP 48 (optP 45 l))))) hzfep hs d o _) [0] rfl rfl ⟨rfl, trivial⟩ ?_⟩
     rintro e H' G' hle ⟨rfl, rfl, rfl⟩
     have hzfem := optP_sfx (c := 45) hzfep
     (conv => whnf)
     refine ⟨⟨_, Tryz.func142, rfl, by kernel_rfl⟩, CallS.use (digits_ s (optP 45 (optP 43 (optP 101 (optP 46 (optP 48 (optP 45 l)))))) hzfem hs d o _) [0] rfl rfl ⟨rfl, trivial⟩ ?_⟩
     rintro e H' G' hle ⟨rfl, hout⟩
     cases x3 : digitsP (optP 45 (optP 43 (optP 101 (optP 46 (optP 48 (optP 45 l)))))) with
     | no er r =>
      rw [x3] at hout
      obtain ⟨rfl, l2, o2, rfl⟩ := hout
      (conv => whnf)
      refine ⟨rfl, ?_⟩
      simp only [numberP, num1, num2, num3, num4, Res.bind, if_true, if_false, Bool.false_eq_true, z, f1, e2, p3, x3]
      exact ⟨rfl, l2, o2, rfl⟩
     | ok x rx3 =>
      rw [x3] at hout
      obtain ⟨hrx3, ⟨sv, rfl, rfl⟩, rfl⟩ := hout
      (conv => whnf)
      have hfin : numberP l = .ok ⟨(l.take (l.length - (rx3).length)).toArray⟩ (rx3) := by
       simp only [numberP, num1, num2, num3, num4, Res.bind, if_true, if_false, Bool.false_eq_true, z, f1, e2, p3, x3]
      have hsl : Sfx (rx3) l := numberP_sfx hfin
      rw [hfin]
      clear z f1 e2 p3 x3 hfin
      generalize rx3 = rl at *
      refine WS.draw tab mixed (.take 0 (.take 1 (.take 2 (.take 3 (.take 4 (.take 5 (.take 6 (.take 7 (.take 8 (.take 9 (.take 10 (.alt 11 .done .no)))))))))))) (by kernel_rfl) [1] ?_
      (conv => whnf)
      refine ⟨pos_ord hsl hrx3, ?_⟩
      (conv => whnf)
      repeat' (first | exact trivial | exact rfl | exact ⟨rfl, hrx3, ⟨_, rfl, rfl⟩, rfl⟩ | (rw [cut_eq hl hsl]; exact ⟨rfl, hrx3, ⟨_, rfl, rfl⟩, rfl⟩) | (refine And.intro ?_ ?_ <;> (conv => whnf)))
    ·skip
     refine ⟨⟨_, Tryz.func142, rfl, by kernel_rfl⟩, CallS.use (digits_ s (optP 43 (optP 101 (optP 46 (optP 48 (optP 45 l))))) hzfep hs d o _) [0] rfl rfl ⟨rfl, trivial⟩ ?_⟩
     rintro e H' G' hle ⟨rfl, hout⟩
     cases x3 : digitsP (optP 43 (optP 101 (optP 46 (optP 48 (optP 45 l))))) with
     | no er r =>
      rw [x3] at hout
      obtain ⟨rfl, l2, o2, rfl⟩ := hout
      (conv => whnf)
      refine ⟨rfl, ?_⟩
      simp only [numberP, num1, num2, num3, num4, Res.bind, if_true, if_false, Bool.false_eq_true, z, f1, e2, p3, x3]
      exact ⟨rfl, l2, o2, rfl⟩
     | ok x rx3 =>
      rw [x3] at hout
      obtain ⟨hrx3, ⟨sv, rfl, rfl⟩, rfl⟩ := hout
      (conv => whnf)
      have hfin : numberP l = .ok ⟨(l.take (l.length - (rx3).length)).toArray⟩ (rx3) := by
       simp only [numberP, num1, num2, num3, num4, Res.bind, if_true, if_false, Bool.false_eq_true, z, f1, e2, p3, x3]
      have hsl : Sfx (rx3) l := numberP_sfx hfin
      rw [hfin]
      clear z f1 e2 p3 x3 hfin
      generalize rx3 = rl at *
      refine WS.draw tab mixed (.take 0 (.take 1 (.take 2 (.take 3 (.take 4 (.take 5 (.take 6 (.take 7 (.take 8 (.take 9 (.take 10 (.alt 11 .done .no)))))))))))) (by kernel_rfl) [1] ?_
      (conv => whnf)
      refine ⟨pos_ord hsl hrx3, ?_⟩
      (conv => whnf)
      repeat' (first | exact trivial | exact rfl | exact ⟨rfl, hrx3, ⟨_, rfl, rfl⟩, rfl⟩ | (rw [cut_eq hl hsl]; exact ⟨rfl, hrx3, ⟨_, rfl, rfl⟩, rfl⟩) | (refine And.intro ?_ ?_ <;> (conv => whnf)))
  ·skip
   refine ⟨⟨_, Tryz.func142, rfl, by kernel_rfl⟩, CallS.use (digits_ s (optP 46 (optP 48 (optP 45 l))) hzf hs d o _) [0] rfl rfl ⟨rfl, trivial⟩ ?_⟩
   rintro e H' G' hle ⟨rfl, hout⟩
   cases y1 : digitsP (optP 46 (optP 48 (optP 45 l))) with
   | no er r =>
    rw [y1] at hout
    obtain ⟨rfl, l2, o2, rfl⟩ := hout
    (conv => whnf)
    refine ⟨rfl, ?_⟩
    simp only [numberP, num1, num2, num3, num4, Res.bind, if_true, if_false, Bool.false_eq_true, z, f1, y1]
    exact ⟨rfl, l2, o2, rfl⟩
   | ok x ry1 =>
    rw [y1] at hout
    obtain ⟨hry1, ⟨sv, rfl, rfl⟩, rfl⟩ := hout
    (conv => whnf)
    refine ⟨⟨_, Tryz.func141, rfl, by kernel_rfl⟩, CallS.use (nextB 101 (by decide) s (ry1) hry1 hs d o _) [0] rfl rfl ⟨rfl, trivial⟩ ?_⟩
    rintro e H' G' hle ⟨rfl, rfl, rfl⟩
    have hry1e := optP_sfx (c := 101) hry1
    (conv => whnf)
    cases e3 : tkB 101 (ry1) <;> (conv => whnf)
    ·skip
     refine ⟨⟨_, Tryz.func141, rfl, by kernel_rfl⟩, CallS.use (nextB 69 (by decide) s (optP 101 (ry1)) hry1e hs d o _) [0] rfl rfl ⟨rfl, trivial⟩ ?_⟩
     rintro e H' G' hle ⟨rfl, rfl, rfl⟩
     have hry1E := optP_sfx (c := 69) hry1e
     (conv => whnf)
     cases E3 : tkB 69 (optP 101 (ry1)) <;> (conv => whnf)
     ·skip
      have hfin : numberP l = .ok ⟨(l.take (l.length - (optP 69 (optP 101 (ry1))).length)).toArray⟩ (optP 69 (optP 101 (ry1))) := by
       simp only [numberP, num1, num2, num3, num4, Res.bind, if_true, if_false, Bool.false_eq_true, z, f1, y1, e3, E3]
      have hsl : Sfx (optP 69 (optP 101 (ry1))) l := numberP_sfx hfin
      rw [hfin]
      clear z f1 y1 e3 E3 hfin
      generalize optP 69 (optP 101 (ry1)) = rl at *
      refine WS.draw tab mixed (.take 0 (.take 1 (.take 2 (.take 3 (.take 4 (.take 5 (.take 6 (.take 7 (.take 8 (.take 9 (.take 10 (.alt 11 .done .no)))))))))))) (by kernel_rfl) [1] ?_
      (conv => whnf)
      refine ⟨pos_ord hsl hry1E, ?_⟩
      (conv => whnf)
      repeat' (first | exact trivial | exact rfl | exact ⟨rfl, hry1E, ⟨_, rfl, rfl⟩, rfl⟩ | (rw [cut_eq hl hsl]; exact ⟨rfl, hry1E, ⟨_, rfl, rfl⟩, rfl⟩) | (refine And.intro ?_ ?_ <;> (conv => whnf)))
     ·skip
      refine ⟨⟨_, Tryz.func141, rfl, by kernel_rfl⟩, CallS.use (nextB 43 (by decide) s (optP 69 (optP 101 (ry1))) hry1E hs d o _) [0] rfl rfl ⟨rfl, trivial⟩ ?_⟩
      rintro e H' G' hle ⟨rfl, rfl, rfl⟩
      have hry1Ep := optP_sfx (c := 43) hry1E
      (conv => whnf)
      cases p5 : tkB 43 (optP 69 (optP 101 (ry1))) <;> (conv => whnf)
      ·skip
       refine ⟨⟨_, Tryz.func141, rfl, by kernel_rfl⟩, CallS.use (nextB 45 (by decide) s (optP 43 (optP 69 (optP 101 (ry1)))) hry1Ep hs d o _) [0] rfl rfl ⟨rfl, trivial⟩ ?_⟩
       rintro e H' G' hle ⟨rfl, rfl, rfl⟩
       have hry1Em := optP_sfx (c := 45) hry1Ep
       (conv => whnf)
       refine ⟨⟨_, Tryz.func142, rfl, by kernel_rfl⟩, CallS.use (digits_ s (optP 45 (optP 43 (optP 69 (optP 101 (ry1))))) hry1Em hs d o _) [0] rfl rfl ⟨rfl, trivial⟩ ?_⟩
       rintro e H' G' hle ⟨rfl, hout⟩
       cases x5 : digitsP (optP 45 (optP 43 (optP 69 (optP 101 (ry1))))) with
       | no er r =>
        rw [x5] at hout
        obtain ⟨rfl, l2, o2, rfl⟩ := hout
        (conv => whnf)
        refine ⟨rfl, ?_⟩
        simp only [numberP, num1, num2, num3, num4, Res.bind, if_true, if_false, Bool.false_eq_true, z, f1, y1, e3, E3, p5, x5]
        exact ⟨rfl, l2, o2, rfl⟩
       | ok x rx5 =>
        rw [x5] at hout
        obtain ⟨hrx5, ⟨sv, rfl, rfl⟩, rfl⟩ := hout
        (conv => whnf)
        have hfin : numberP l = .ok ⟨(l.take (l.length - (rx5).length)).toArray⟩ (rx5) := by
         simp only [numberP, num1, num2, num3, num4, Res.bind, if_true, if_false, Bool.false_eq_true, z, f1, y1, e3, E3, p5, x5]
        have hsl : Sfx (rx5) l := numberP_sfx hfin
        rw [hfin]
        clear z f1 y1 e3 E3 p5 x5 hfin
        generalize rx5 = rl at *
        refine WS.draw tab mixed (.take 0 (.take 1 (.take 2 (.take 3 (.take 4 (.take 5 (.take 6 (.take 7 (.take 8 (.take 9 (.take 10 (.alt 11 .done .no)))))))))))) (by kernel_rfl) [1] ?_
        (conv => whnf)
        refine ⟨pos_ord hsl hrx5, ?_⟩
        (conv => whnf)
        repeat' (first | exact trivial | exact rfl | exact ⟨rfl, hrx5, ⟨_, rfl, rfl⟩, rfl⟩ | (rw [cut_eq hl hsl]; exact ⟨rfl, hrx5, ⟨_, rfl, rfl⟩, rfl⟩) | (refine And.intro ?_ ?_ <;> (conv => whnf)))
      ·skip
       refine ⟨⟨_, Tryz.func142, rfl, by kernel_rfl⟩, CallS.use (digits_ s (optP 43 (optP 69 (optP 101 (ry1)))) hry1Ep hs d o _) [0] rfl rfl ⟨rfl, trivial⟩ ?_⟩
       rintro e H' G' hle ⟨rfl, hout⟩
       cases x5 : digitsP (optP 43 (optP 69 (optP 101 (ry1)))) with
       | no er r =>
        rw [x5] at hout
        obtain ⟨rfl, l2, o2, rfl⟩ := hout
        (conv => whnf)
        refine ⟨rfl, ?_⟩
        simp only [numberP, num1, num2, num3, num4, Res.bind, if_true, if_false, Bool.false_eq_true, z, f1, y1, e3, E3, p5, x5]
        exact ⟨rfl, l2, o2, rfl⟩
       | ok x rx5 =>
        rw [x5] at hout
        obtain ⟨hrx5, ⟨sv, rfl, rfl⟩, rfl⟩ := hout
        (conv => whnf)
        have hfin : numberP l = .ok ⟨(l.take (l.length - (rx5).length)).toArray⟩ (rx5) := by
         simp only [numberP, num1, num2, num3, num4, Res.bind, if_true, if_false, Bool.false_eq_true, z, f1, y1, e3, E3, p5, x5]
        have hsl : Sfx (rx5) l := numberP_sfx hfin
        rw [hfin]
        clear z f1 y1 e3 E3 p5 x5 hfin
        generalize rx5 = rl at *
        refine WS.draw tab mixed (.take 0 (.take 1 (.take 2 (.take 3 (.take 4 (.take 5 (.take 6 (.take 7 (.take 8 (.take 9 (.take 10 (.alt 11 .done .no)))))))))))) (by kernel_rfl) [1] ?_
        (conv => whnf)
        refine ⟨pos_ord hsl hrx5, ?_⟩
        (conv => whnf)
        repeat' (first | exact trivial | exact rfl | exact ⟨rfl, hrx5, ⟨_, rfl, rfl⟩, rfl⟩ | (rw [cut_eq hl hsl]; exact ⟨rfl, hrx5, ⟨_, rfl, rfl⟩, rfl⟩) | (refine And.intro ?_ ?_ <;> (conv => whnf)))
    ·skip
     refine ⟨⟨_, Tryz.func141, rfl, by kernel_rfl⟩, CallS.use (nextB 43 (by decide) s (optP 101 (ry1)) hry1e hs d o _) [0] rfl rfl ⟨rfl, trivial⟩ ?_⟩
     rintro e H' G' hle ⟨rfl, rfl, rfl⟩
     have hry1ep := optP_sfx (c := 43) hry1e
     (conv => whnf)
     cases p4 : tkB 43 (optP 101 (ry1)) <;> (conv => whnf)
     ·skip
      refine ⟨⟨_, Tryz.func141, rfl, by kernel_rfl⟩, CallS.use (nextB 45 (by decide) s (optP 43 (optP 101 (ry1))) hry1ep hs d o _) [0] rfl rfl ⟨rfl, trivial⟩ ?_⟩
      rintro e H' G' hle ⟨rfl, rfl, rfl⟩
      have hry1em := optP_sfx (c := 45) hry1ep
      (conv => whnf)
      refine ⟨⟨_, Tryz.func142, rfl, by kernel_rfl⟩, CallS.use (digits_ s (optP 45 (optP 43 (optP 101 (ry1)))) hry1em hs d o _) [0] rfl rfl ⟨rfl, trivial⟩ ?_⟩
      rintro e H' G' hle ⟨rfl, hout⟩
      cases x4 : digitsP (optP 45 (optP 43 (optP 101 (ry1)))) with
      | no er r =>
       rw [x4] at hout
       obtain ⟨rfl, l2, o2, rfl⟩ := hout
       (conv => whnf)
       refine ⟨rfl, ?_⟩
       simp only [numberP, num1, num2, num3, num4, Res.bind, if_true, if_false, Bool.false_eq_true, z, f1, y1, e3, p4, x4]
       exact ⟨rfl, l2, o2, rfl⟩
      | ok x rx4 =>
       rw [x4] at hout
       obtain ⟨hrx4, ⟨sv, rfl, rfl⟩, rfl⟩ := hout
       (conv => whnf)
       have hfin : numberP l = .ok ⟨(l.take (l.length - (rx4).length)).toArray⟩ (rx4) := by
        simp only [numberP, num1, num2, num3, num4, Res.bind, if_true, if_false, Bool.false_eq_true, z, f1, y1, e3, p4, x4]
       have hsl : Sfx (rx4) l := numberP_sfx hfin
       rw [hfin]
       clear z f1 y1 e3 p4 x4 hfin
       generalize rx4 = rl at *
       refine WS.draw tab mixed (.take 0 (.take 1 (.take 2 (.take 3 (.take 4 (.take 5 (.take 6 (.take 7 (.take 8 (.take 9 (.take 10 (.alt 11 .done .no)))))))))))) (by kernel_rfl) [1] ?_
       (conv => whnf)
       refine ⟨pos_ord hsl hrx4, ?_⟩
       (conv => whnf)
       repeat' (first | exact trivial | exact rfl | exact ⟨rfl, hrx4, ⟨_, rfl, rfl⟩, rfl⟩ | (rw [cut_eq hl hsl]; exact ⟨rfl, hrx4, ⟨_, rfl, rfl⟩, rfl⟩) | (refine And.intro ?_ ?_ <;> (conv => whnf)))
     ·skip
      refine ⟨⟨_, Tryz.func142, rfl, by kernel_rfl⟩, CallS.use (digits_ s (optP 43 (optP 101 (ry1))) hry1ep hs d o _) [0] rfl rfl ⟨rfl, trivial⟩ ?_⟩
      rintro e H' G' hle ⟨rfl, hout⟩
      cases x4 : digitsP (optP 43 (optP 101 (ry1))) with
      | no er r =>
       rw [x4] at hout
       obtain ⟨rfl, l2, o2, rfl⟩ := hout
       (conv => whnf)
       refine ⟨rfl, ?_⟩
       simp only [numberP, num1, num2, num3, num4, Res.bind, if_true, if_false, Bool.false_eq_true, z, f1, y1, e3, p4, x4]
       exact ⟨rfl, l2, o2, rfl⟩
      | ok x rx4 =>
       rw [x4] at hout
       obtain ⟨hrx4, ⟨sv, rfl, rfl⟩, rfl⟩ := hout
       (conv => whnf)
       have hfin : numberP l = .ok ⟨(l.take (l.length - (rx4).length)).toArray⟩ (rx4) := by
        simp only [numberP, num1, num2, num3, num4, Res.bind, if_true, if_false, Bool.false_eq_true, z, f1, y1, e3, p4, x4]
       have hsl : Sfx (rx4) l := numberP_sfx hfin
       rw [hfin]
       clear z f1 y1 e3 p4 x4 hfin
       generalize rx4 = rl at *
       refine WS.draw tab mixed (.take 0 (.take 1 (.take 2 (.take 3 (.take 4 (.take 5 (.take 6 (.take 7 (.take 8 (.take 9 (.take 10 (.alt 11 .done .no)))))))))))) (by kernel_rfl) [1] ?_
       (conv => whnf)
       refine ⟨pos_ord hsl hrx4, ?_⟩
       (conv => whnf)
       repeat' (first | exact trivial | exact rfl | exact ⟨rfl, hrx4, ⟨_, rfl, rfl⟩, rfl⟩ | (rw [cut_eq hl hsl]; exact ⟨rfl, hrx4, ⟨_, rfl, rfl⟩, rfl⟩) | (refine And.intro ?_ ?_ <;> (conv => whnf)))
end Go.Kx.Js
namespace Go.Kx.Js
open Go.Proofs Go.Kx Go.RowKit
set_option maxRecDepth 20000
theorem hasPrefix_ (s p : ByteArray) (hp : p.size ≤ 100) (H : Hp) : CallO Tryz.prog 226 [pv (.string s), pv (.string p)] H [] fun e H' G' => H' = H ∧ e = .ret (pv (.bool (decide ((p.size : Int) ≤ (s.size : Int)) && strEq (s.extract 0 p.size) p))) ∧ G' = [] := by
 refine CallO.of_body tab Tryz.func226 rfl (nt := Tryz.f226.ntmps) rfl (by kernel_rfl) ?_
 (conv => whnf)
 refine ⟨⟨_, Tryz.func227, rfl, by kernel_rfl⟩, CallS.use (hasPrefixL s p hp H) [] rfl rfl trivial ?_⟩
 rintro e H' G' hle ⟨rfl, rfl, rfl⟩
 (conv => whnf)
 exact ⟨rfl, rfl, rfl⟩
def signU : ByteArray := ⟨#[92, 117]⟩
def hasU : List UInt8 → Bool
 | c :: d :: _ => c == 92 && d == 117
 | _ => false
theorem hasU_eq {s : ByteArray} {l : List UInt8} (hl : Sfx l (tL s)) : (decide ((signU.size : Int) ≤ ((s.extract (((pos s l : Nat) : Int)).toNat s.size).size : Int)) && strEq ((s.extract (((pos s l : Nat) : Int)).toNat s.size).extract 0 signU.size) signU) = hasU l := by
 have hE : (s.extract (((pos s l : Nat) : Int)).toNat s.size) = ⟨l.toArray⟩ := by
  have := cut_eq hl (⟨l, by simp⟩ : Sfx [] l)
  rw [pos_nil, Int.toNat_natCast s.size] at this
  rw [this]; simp
 rw [hE]
 have h2 : ((⟨l.toArray⟩ : ByteArray).extract 0 signU.size) = ⟨(l.take 2).toArray⟩ := by
  apply ByteArray.ext
  apply Array.ext'
  rw [ByteArray.data_extract, Array.toList_extract, List.extract_eq_take_drop]
  rfl
 rw [h2]
 have h3 : ((⟨l.toArray⟩ : ByteArray).size : Int) = l.length := by show ((l.toArray.size : Nat) : Int) = _; rw [List.size_toArray]
 rw [h3]
 have h4 : ((signU.size : Nat) : Int) = 2 := rfl
 rw [h4]
 unfold strEq
 show (decide ((2 : Int) ≤ (l.length : Int)) && eqB (l.take 2) [92, 117]) = hasU l
 match l with
 | [] => rfl
 | [c] => rfl
 | c :: d :: r =>
  have : decide ((2 : Int) ≤ ((c :: d :: r).length : Int)) = true := decide_eq_true (by rw [List.length_cons, List.length_cons]; omega)
  rw [this, eqB_iff]
  show (true && ([c, d] == [92, 117])) = (c == 92 && d == 117)
  simp only [Bool.true_and, List.cons_beq_cons, BEq.rfl, Bool.and_true]
theorem hasU_no {l : List UInt8} (h : hasU l = false) : behindU l = none := by
 unfold behindU
 match l with
 | [] => rfl
 | [c] =>
  by_cases hc : c = 92
  ·rw [show tk 92 [c] = some [] from if_pos hc]; rfl
  ·rw [show tk 92 [c] = none from if_neg hc]
 | c :: d :: r =>
  by_cases hc : c = 92
  ·rw [show tk 92 (c :: d :: r) = some (d :: r) from if_pos hc]
   by_cases hd : d = 117
   ·simp [hasU, hc, hd] at h
   ·exact if_neg hd
  ·rw [show tk 92 (c :: d :: r) = none from if_neg hc]
theorem hasU_yes {l : List UInt8} (h : hasU l = true) : l = 92 :: 117 :: l.tail.tail := by
 match l with
 | [] => cases h
 | [c] => cases h
 | c :: d :: r =>
  simp only [hasU, Bool.and_eq_true, beq_iff_eq] at h
  rw [h.1, h.2]; rfl
theorem unit_ (s : ByteArray) (fr l : List UInt8) (hl : Sfx l (tL s)) (hs : s.size ≤ 1000000) (d o : Int) (H : Hp) : CallO Tryz.prog 222 [me, pv (.int .i64 ((pos s fr : Nat) : Int))] H [rdB s l d o] fun e H' G' => H' = H ∧ Out s d o (fun (_ : Hp) (n : Nat) (sv : SV) => n < 1114112 ∧ (n < 55296 ∨ 57344 ≤ n) ∧ sv = pv (.int .i32 (n : Int))) (unitP fr l) e H' G' := by
 refine CallO.of_body tab Tryz.func222 rfl (nt := Tryz.f222.ntmps) rfl (by kernel_rfl) ?_
 (conv => whnf)
 refine ⟨⟨_, Tryz.func225, rfl, by kernel_rfl⟩, CallS.use (hex_ s l hl hs d o _) [0] rfl rfl ⟨rfl, trivial⟩ ?_⟩
 rintro e H' G' hle ⟨rfl, hout⟩
 unfold unitP
 cases hx : hexP 4 0 l with
 | no er r =>
  rw [hx] at hout
  obtain ⟨rfl, l2, o2, rfl⟩ := hout
  (conv => whnf)
  exact ⟨rfl, rfl, l2, o2, rfl⟩
 | ok a l1 =>
  rw [hx] at hout
  obtain ⟨hl1, ⟨sv, rfl, ha, rfl⟩, rfl⟩ := hout
  generalize hax : ((a : Nat) : Int) = x
  (conv => whnf)
  refine br.of (fun h1 => ?_) (fun h1 => ?_) <;> (conv => whnf)
  ·have h1 := of_decide_eq_true h1
   refine ⟨rfl, ?_⟩
   show Out s d o _ (if a < 55296 ∨ 57344 ≤ a then _ else _) _ _ _
   rw [if_pos (by omega)]
   exact ⟨hl1, ⟨_, rfl, by omega, by omega, by rw [hax]; rfl⟩, rfl⟩
  ·have h1 := of_decide_eq_false h1
   refine br.of (fun h2 => ?_) (fun h2 => ?_) <;> (conv => whnf)
   ·have h2 := of_decide_eq_true h2
    refine ⟨rfl, ?_⟩
    show Out s d o _ (if a < 55296 ∨ 57344 ≤ a then _ else _) _ _ _
    rw [if_pos (by omega)]
    exact ⟨hl1, ⟨_, rfl, by omega, by omega, by rw [hax]; rfl⟩, rfl⟩
   ·have h2 := of_decide_eq_false h2
    have hn1 : ¬ (a < 55296 ∨ 57344 ≤ a) := by omega
    refine br.of (fun h3 => ?_) (fun h3 => ?_) <;> (conv => whnf)
    ·have h3 := of_decide_eq_true h3
     refine ⟨⟨_, Tryz.func172, rfl, by kernel_rfl⟩, CallS.use (fail_ 31 (pos s fr : Nat) s l1 d o _) [0] rfl rfl ⟨rfl, trivial⟩ ?_⟩
     rintro e H2 G' hle2 ⟨rfl, rfl, rfl⟩
     (conv => whnf)
     refine ⟨rfl, ?_⟩
     show Out s d o _ (if a < 55296 ∨ 57344 ≤ a then _ else _) _ _ _
     rw [if_neg hn1, if_pos (by omega)]
     exact ⟨rfl, l1, o, rfl⟩
    ·have h3 := of_decide_eq_false h3
     have hn2 : ¬ 56320 ≤ a := by omega
     refine WS.draw tab mixed (.take 0 (.take 1 (.take 2 (.take 3 (.take 4 (.take 5 (.take 6 (.take 7 (.take 8 (.alt 9 (.take 10 .done) .no)))))))))) (by kernel_rfl) [] ?_
     (conv => whnf)
     refine ⟨⟨by omega, by have := pos_le s l1; omega⟩, ?_⟩
     (conv => whnf)
     repeat' (first
      | exact trivial
      | exact ⟨_, Tryz.func226, rfl, by kernel_rfl⟩
      | (refine CallS.use (hasPrefix_ _ signU (by decide) _) [] rfl rfl trivial ?_; rintro e H2 G' hle2 ⟨rfl, rfl, rfl⟩; rw [hasU_eq hl1]; (conv => whnf))
      | (refine And.intro ?_ ?_ <;> (conv => whnf)))
     cases hU : hasU l1 <;> (conv => whnf)
     ·refine ⟨⟨_, Tryz.func172, rfl, by kernel_rfl⟩, CallS.use (fail_ 31 (pos s fr : Nat) s l1 d o _) [0] rfl rfl ⟨rfl, trivial⟩ ?_⟩
      rintro e H2 G' hle2 ⟨rfl, rfl, rfl⟩
      (conv => whnf)
      refine ⟨rfl, ?_⟩
      show Out s d o _ (if a < 55296 ∨ 57344 ≤ a then _ else _) _ _ _
      rw [if_neg hn1, if_neg hn2, hasU_no hU]
      exact ⟨rfl, l1, o, rfl⟩
     ·have hl1e := hasU_yes hU
      generalize l1.tail.tail = l3 at hl1e
      subst hl1e
      have hl3 : Sfx l3 (tL s) := hl1.tail.tail
      have hp2 : ((pos s (92 :: 117 :: l3) : Nat) : Int) + 2 = ((pos s l3 : Nat) : Int) := by
       have := pos_int hl1; have := pos_int hl1.tail; omega
      have hq := pos_lt hl1
      rw [wrap64 (x := ((pos s (92 :: 117 :: l3) : Nat) : Int) + 2) (by omega) (by omega), hp2]
      have hst : SB.box 131 [.val (.string s), .val (.int .i64 ((pos s l3 : Nat) : Int)), .val (.int .i64 d), .val (.int .i64 o)] = rdB s l3 d o := rfl
      refine ⟨⟨_, Tryz.func225, rfl, by kernel_rfl⟩, CallS.use (hex_ s l3 hl3 hs d o _) [0] rfl rfl ⟨rfl, trivial⟩ ?_⟩
      rintro e H2 G' hle2 ⟨rfl, hout⟩
      have hun : ∀ r : Res Nat, (if a < 55296 ∨ 57344 ≤ a then (Res.ok a (92 :: 117 :: l3)) else if 56320 ≤ a then (Res.no 31 fr) else r) = r := fun r => by rw [if_neg hn1, if_neg hn2]
      cases hx2 : hexP 4 0 l3 with
      | no er r =>
       rw [hx2] at hout
       obtain ⟨rfl, l2, o2, rfl⟩ := hout
       (conv => whnf)
       refine ⟨rfl, ?_⟩
       show Out s d o _ (if a < 55296 ∨ 57344 ≤ a then _ else _) _ _ _
       rw [if_neg hn1, if_neg hn2]
       show Out s d o _ ((hexP 4 0 l3).bind _) _ _ _
       rw [hx2]
       exact ⟨rfl, l2, o2, rfl⟩
      | ok b l4 =>
       rw [hx2] at hout
       obtain ⟨hl4, ⟨sv, rfl, hb, rfl⟩, rfl⟩ := hout
       generalize hby : ((b : Nat) : Int) = y
       (conv => whnf)
       have hfail : ∀ (x' : SE) (G' : List SB), (b < 56320 ∨ 57344 ≤ b) → x' = .pan [{ v := faultV 31 (pos s fr), recovered := false }] → G' = [rdB s l4 d o] → Out s d o (fun (_ : Hp) (n : Nat) (sv : SV) => n < 1114112 ∧ (n < 55296 ∨ 57344 ≤ n) ∧ sv = pv (.int .i32 (n : Int))) (if a < 55296 ∨ 57344 ≤ a then (Res.ok a (92 :: 117 :: l3)) else if 56320 ≤ a then (Res.no 31 fr) else ((hexP 4 0 l3).bind fun b l4 => if b < 56320 ∨ 57344 ≤ b then .no 31 fr else .ok (65536 + (a - 55296) * 1024 + (b - 56320)) l4)) x' H2 G' := by
        rintro _ _ hbb rfl rfl
        rw [hun, hx2]
        show Out s d o _ (if b < 56320 ∨ 57344 ≤ b then _ else _) _ _ _
        rw [if_pos hbb]
        exact ⟨rfl, l4, o, rfl⟩
       refine br.of (fun h4 => ?_) (fun h4 => ?_) <;> (conv => whnf)
       ·have h4 := of_decide_eq_true h4
        refine ⟨⟨_, Tryz.func172, rfl, by kernel_rfl⟩, CallS.use (fail_ 31 (pos s fr : Nat) s l4 d o _) [0] rfl rfl ⟨rfl, trivial⟩ ?_⟩
        rintro e H2 G' hle2 ⟨rfl, rfl, rfl⟩
        (conv => whnf)
        exact ⟨rfl, hfail _ _ (by omega) rfl rfl⟩
       ·have h4 := of_decide_eq_false h4
        refine br.of (fun h5 => ?_) (fun h5 => ?_) <;> (conv => whnf)
        ·have h5 := of_decide_eq_true h5
         refine ⟨⟨_, Tryz.func172, rfl, by kernel_rfl⟩, CallS.use (fail_ 31 (pos s fr : Nat) s l4 d o _) [0] rfl rfl ⟨rfl, trivial⟩ ?_⟩
         rintro e H2 G' hle2 ⟨rfl, rfl, rfl⟩
         (conv => whnf)
         exact ⟨rfl, hfail _ _ (by omega) rfl rfl⟩
        ·have h5 := of_decide_eq_false h5
         refine ⟨by decide, ?_⟩
         (conv => whnf)
         refine ⟨rfl, ?_⟩
         show Out s d o _ (if a < 55296 ∨ 57344 ≤ a then _ else _) _ _ _
         rw [if_neg hn1, if_neg hn2]
         show Out s d o _ ((hexP 4 0 l3).bind _) _ _ _
         rw [hx2]
         show Out s d o _ (if b < 56320 ∨ 57344 ≤ b then _ else _) _ _ _
         rw [if_neg (by omega)]
         refine ⟨hl4, ⟨_, rfl, by omega, by omega, ?_⟩, rfl⟩
         have e10 : (2 : Int) ^ min (Int.toNat 10) IntKind.i32.bits = 1024 := by decide
         rw [wrap32 (x := x - 55296) (by omega) (by omega), e10, wrap32 (x := (x - 55296) * 1024) (by omega) (by omega), wrap32 (x := y - 56320) (by omega) (by omega), wrap32 (x := 65536 + (x - 55296) * 1024) (by omega) (by omega), wrap32 (by omega) (by omega)]
         have e : 65536 + (x - 55296) * 1024 + (y - 56320) = ((65536 + (a - 55296) * 1024 + (b - 56320) : Nat) : Int) := by omega
         rw [e]; rfl
end Go.Kx.Js
namespace Go.Kx.Js
open Go.Proofs Go.Kx Go.RowKit
set_option maxRecDepth 20000
def namesS : List UInt8 := [98, 102, 110, 114, 116, 34, 92]
def shortsS : ByteArray := ⟨#[8, 12, 10, 13, 9, 34, 92]⟩
theorem ix_short (c : UInt8) : ixB namesS c = match shortB c with
  | some _ => ixB namesS c
  | none => -1 := by
 have h : ∀ n : Fin 256, ixB namesS (UInt8.ofNat n.val) = (match shortB (UInt8.ofNat n.val) with
  | some _ => ixB namesS (UInt8.ofNat n.val)
  | none => -1) := by decide +kernel
 have := h ⟨c.toNat, c.toNat_lt⟩
 simpa using this
theorem short_some {c b : UInt8} (h : shortB c = some b) : c ≠ 0 ∧ 0 ≤ ixB namesS c ∧ ixB namesS c < 7 ∧ byteAt shortsS (ixB namesS c) = (b.toNat : Int) := by
 have h0 : ∀ n : Fin 256, (match shortB (UInt8.ofNat n.val) with
  | some b => decide (UInt8.ofNat n.val ≠ 0) && decide (0 ≤ ixB namesS (UInt8.ofNat n.val)) && decide (ixB namesS (UInt8.ofNat n.val) < 7) && decide (byteAt shortsS (ixB namesS (UInt8.ofNat n.val)) = (b.toNat : Int))
  | none => true) = true := by decide +kernel
 have := h0 ⟨c.toNat, c.toNat_lt⟩
 simp only [UInt8.ofNat_toNat, h, Bool.and_eq_true, decide_eq_true_eq] at this
 exact ⟨this.1.1.1, this.1.1.2, this.1.2, this.2⟩
def OutE (s : ByteArray) (d o : Int) (bs : List UInt8) (res : Res (List UInt8)) (e : SE) (G' : List SB) : Prop :=
 match res with
 | .ok x r => Sfx r (tL s) ∧ e = .ret (.si (.ce (.self 2))) ∧ G' = [rdB s r d o, .dead, .row 5 1 (bs ++ x).length (bCells (bs ++ x))]
 | .no er r => e = .pan [{ v := faultV er (pos s r), recovered := false }] ∧ ∃ l' o', G' = [rdB s l' d o', .row 5 1 bs.length (bCells bs)]
theorem Sfx.tl (l : List UInt8) : Sfx l.tail l := by
 cases l with
 | nil => exact .refl _
 | cons c r => exact ⟨[c], rfl⟩
theorem hexP_sfx : ∀ (k n : Nat) (l : List UInt8) {a : Nat} {r : List UInt8}, hexP k n l = .ok a r → Sfx r l
 | 0, n, l, a, r, h => by injection h with _ h; subst h; exact .refl _
 | k + 1, n, l, a, r, h => by
  cases hd : hexD (pk l) with
  | some d => rw [hexP_some hd] at h; exact (hexP_sfx k _ _ h).trans (.tl l)
  | none => rw [hexP_none hd] at h; cases h
theorem unitP_sfx {fr l : List UInt8} {n : Nat} {r : List UInt8} (h : unitP fr l = .ok n r) : Sfx r l := by
 unfold unitP at h
 obtain ⟨a, r1, h1, h⟩ := bind_ok h
 have hs := hexP_sfx _ _ _ h1
 split at h
 ·injection h with _ h; subst h; exact hs
 ·split at h
  ·cases h
  ·split at h
   ·cases h
   ·rename_i l3 hb
    obtain ⟨b, r2, h2, h⟩ := bind_ok h
    have hs2 := hexP_sfx _ _ _ h2
    split at h
    ·cases h
    ·injection h with _ h
     subst h
     unfold behindU at hb
     split at hb
     ·cases hb
     ·rename_i l2 h92
      exact (hs2.trans (tk_sfx hb)).trans ((tk_sfx h92).trans hs)
theorem runeB_len (x : Int) : (runeB x).length ≤ 4 := by
 unfold runeB
 split
 ·exact Nat.le_of_ble_eq_true rfl
 ·split
  ·exact Nat.le_of_ble_eq_true rfl
  ·split <;> exact Nat.le_of_ble_eq_true rfl
theorem escP_sfx {fr l : List UInt8} {x : List UInt8} {r : List UInt8} (h : escP fr l = .ok x r) : Sfx r l ∧ x.length ≤ 4 := by
 unfold escP at h
 split at h
 ·injection h with h1 h; subst h h1; exact ⟨.tl l, Nat.le_of_ble_eq_true rfl⟩
 ·split at h
  ·rename_i r' ht
   injection h with h1 h; subst h h1; exact ⟨tk_sfx ht, by decide⟩
  ·split at h
   ·rename_i r' ht
    obtain ⟨n, r1, h1, h⟩ := bind_ok h
    injection h with h2 h; subst h h2
    exact ⟨(unitP_sfx h1).trans (tk_sfx ht), runeB_len _⟩
   ·cases h
theorem strP_end {m : Nat} {b r r2 : List UInt8} (h : tk 34 r = some r2) : strP (m + 1) b r = .ok b r2 := by
 show (match tk 34 r with | some r => _ | none => _) = _
 rw [h]
theorem strP_esc {m : Nat} {b r r2 : List UInt8} (h : tk 34 r = none) (h2 : tk 92 r = some r2) : strP (m + 1) b r = (escP r r2).bind fun x r3 => strP m (b ++ x) r3 := by
 show (match tk 34 r with | some r => _ | none => match tk 92 r with | some r => _ | none => _) = _
 rw [h, h2]
theorem strP_ctl {m : Nat} {b r : List UInt8} (h : tk 34 r = none) (h2 : tk 92 r = none) (h3 : (pk r).toNat < 32) : strP (m + 1) b r = .no 31 r := by
 show (match tk 34 r with | some r => _ | none => match tk 92 r with | some r => _ | none => if (pk r).toNat < 32 then _ else _) = _
 rw [h, h2]
 exact if_pos h3
theorem strP_chr {m : Nat} {b r : List UInt8} (h : tk 34 r = none) (h2 : tk 92 r = none) (h3 : ¬ (pk r).toNat < 32) : strP (m + 1) b r = strP m (b ++ [pk r]) r.tail := by
 show (match tk 34 r with | some r => _ | none => match tk 92 r with | some r => _ | none => if (pk r).toNat < 32 then _ else _) = _
 rw [h, h2]
 exact if_neg h3
theorem escape_ (s : ByteArray) (fr l : List UInt8) (bs : List UInt8) (hn : bs.length ≤ 1000000) (hl : Sfx l (tL s)) (hs : s.size ≤ 1000000) (d o : Int) (H : Hp) : CallO Tryz.prog 203 [me, .si (.ce (.self 1)), pv (.int .i64 ((pos s fr : Nat) : Int))] H [rdB s l d o, .row 5 1 bs.length (bCells bs)] fun e H' G' => H.Le H' ∧ OutE s d o bs (escP fr l) e G' := by
 refine CallO.of_body tab Tryz.func203 rfl (nt := Tryz.f203.ntmps) rfl (by kernel_rfl) ?_
 (conv => whnf)
 refine ⟨⟨_, Tryz.func165, rfl, by kernel_rfl⟩, CallS.use (peek_ s l hl d o H) [0] rfl rfl ⟨rfl, trivial⟩ ?_⟩
 rintro e H' G' hle ⟨rfl, rfl, rfl⟩
 (conv => whnf)
 refine ⟨⟨_, Tryz.func100, rfl, by kernel_rfl⟩, CallS.use (indexByte ⟨namesS.toArray⟩ (pk l) _ []) [] rfl rfl trivial ?_⟩
 rintro e H' G' hle ⟨rfl, rfl, rfl⟩
 (conv => whnf)
 unfold escP
 cases hsb : shortB (pk l) with
 | some b =>
  obtain ⟨h1, h2, h3, h4⟩ := short_some hsb
  have hz : ((((pk l).toNat : Nat) : Int) != 0) = true := by
   simp only [bne_iff_ne, ne_eq]
   intro h
   exact h1 (UInt8.toNat_inj.1 (by show (pk l).toNat = 0; omega))
  rw [hz]
  (conv => whnf)
  change match decide (ixB namesS (pk l) ≥ 0) with | true => _ | false => _
  rw [decide_eq_true (show ixB namesS (pk l) ≥ 0 from h2)]
  (conv => whnf)
  refine ⟨⟨h2, by show ixB namesS (pk l) < 7; exact h3⟩, ?_⟩
  have h5 : byteAt (⟨#[8, 12, 10, 13, 9, 34, 92]⟩ : ByteArray) (ixB (⟨namesS.toArray⟩ : ByteArray).data.toList (pk l)) = (b.toNat : Int) := h4
  rw [h5]
  (conv => whnf)
  refine ⟨by decide, .inl ?_⟩
  intro g H2 hle hrd
  (conv => whnf)
  refine ⟨_, rfl, hrd, ones_u8 [_], ?_⟩
  (conv => whnf)
  refine ⟨by show _ * 2 ≤ _; omega, ?_⟩
  (conv => whnf)
  have hle1 : l = pk l :: l.tail := by
   cases l with
   | nil => exact absurd rfl h1
   | cons c r => rfl
  have hr : Sfx l.tail (tL s) := by rw [hle1] at hl; exact hl.tail
  refine ⟨hle, hr, rfl, ?_⟩
  rw [hle1] at hl
  have hst := rd_step hl hs d o
  rw [← hle1] at hst
  rw [← hst, bCells_snoc bs b rfl]
  show [_, _, _] = [_, _, _]
  rw [List.length_append]; rfl
 | none =>
  have hix : ixB namesS (pk l) = -1 := by have := ix_short (pk l); rw [hsb] at this; exact this
  have hix2 : ixB (⟨namesS.toArray⟩ : ByteArray).data.toList (pk l) = -1 := hix
  rw [hix2]
  refine br.of (fun h1 => ?_) (fun h1 => ?_) <;> (conv => whnf)
  all_goals
   refine ⟨⟨_, Tryz.func141, rfl, by kernel_rfl⟩, CallS.use (next_ 47 (by decide) s l hl hs d o _) [0] rfl rfl ⟨rfl, trivial⟩ ?_⟩
   rintro e H' G' hle ⟨rfl, h⟩
   cases h47 : tk 47 l with
   | some r =>
    rw [h47] at h
    obtain ⟨hr, rfl, rfl⟩ := h
    (conv => whnf)
    refine ⟨by decide, .inl ?_⟩
    intro g H2 hle hrd
    (conv => whnf)
    refine ⟨_, rfl, hrd, ones_u8 [_], ?_⟩
    (conv => whnf)
    refine ⟨by show _ * 2 ≤ _; omega, ?_⟩
    (conv => whnf)
    refine ⟨hle, hr, rfl, ?_⟩
    rw [bCells_snoc bs 47 (x := 47) rfl]
    show [_, _, _] = [_, _, _]
    rw [List.length_append]; rfl
   | none =>
    rw [h47] at h
    obtain ⟨rfl, rfl⟩ := h
    (conv => whnf)
    refine ⟨⟨_, Tryz.func141, rfl, by kernel_rfl⟩, CallS.use (next_ 117 (by decide) s l hl hs d o _) [0] rfl rfl ⟨rfl, trivial⟩ ?_⟩
    rintro e H' G' hle ⟨rfl, h⟩
    cases h117 : tk 117 l with
    | some r =>
     rw [h117] at h
     obtain ⟨hr, rfl, rfl⟩ := h
     (conv => whnf)
     refine ⟨⟨_, Tryz.func222, rfl, by kernel_rfl⟩, CallS.use (unit_ s fr r hr hs d o _) [0] rfl rfl ⟨rfl, trivial⟩ ?_⟩
     rintro e H' G' hle ⟨rfl, hout⟩
     cases hu : unitP fr r with
     | no er r2 =>
      rw [hu] at hout
      obtain ⟨rfl, l2, o2, rfl⟩ := hout
      (conv => whnf)
      refine ⟨.refl _, ?_⟩
      show OutE s d o bs ((unitP fr r).bind _) _ _
      rw [hu]
      exact ⟨rfl, l2, o2, rfl⟩
     | ok n r2 =>
      rw [hu] at hout
      obtain ⟨hr2, ⟨sv, rfl, hn1, hn2, rfl⟩, rfl⟩ := hout
      generalize hx : ((n : Nat) : Int) = x
      (conv => whnf)
      refine ⟨⟨_, Tryz.func135, rfl, by kernel_rfl⟩, CallS.use (appendRune x (by omega) (by omega) (by omega) bs hn _) [1] rfl rfl ⟨rfl, trivial⟩ ?_⟩
      rintro e H2 G' hle2 ⟨rfl, rfl⟩
      (conv => whnf)
      refine ⟨hle2, ?_⟩
      show OutE s d o bs ((unitP fr r).bind _) _ _
      rw [hu]
      show Sfx r2 (tL s) ∧ _ ∧ [_, _, _] = [rdB s r2 d o, .dead, .row _ 1 (bs ++ runeB ((n : Nat) : Int)).length (bCells (bs ++ runeB ((n : Nat) : Int)))]
      rw [hx]
      exact ⟨hr2, rfl, rfl⟩
    | none =>
     rw [h117] at h
     obtain ⟨rfl, rfl⟩ := h
     (conv => whnf)
     refine ⟨⟨_, Tryz.func132, rfl, by kernel_rfl⟩, CallS.use (stop_ s l d o _) [0] rfl rfl ⟨rfl, trivial⟩ ?_⟩
     rintro e H2 G' hle2 ⟨rfl, rfl, rfl⟩
     (conv => whnf)
     exact ⟨.refl _, rfl, l, o, rfl⟩
def RT : Hp → ByteArray → SV → Prop := fun _ t sv => sv = pv (.string t)
theorem text_ (s : ByteArray) (l : List UInt8) (hl : Sfx l (tL s)) (hs : s.size ≤ 200000) (d o : Int) (H : Hp) : CallO Tryz.prog 168 [me] H [rdB s l d o] fun e H' G' => Out s d o RT (textP l) e H' G' := by
 refine CallO.of_body tab Tryz.func168 rfl (nt := Tryz.f168.ntmps) rfl (by kernel_rfl) ?_
 (conv => whnf)
 refine ⟨⟨_, Tryz.func202, rfl, by kernel_rfl⟩, CallS.use (must_ 34 (by decide) s l hl (by omega) d o _) [0] rfl rfl ⟨rfl, trivial⟩ ?_⟩
 rintro e H' G' hle ⟨rfl, hout⟩
 unfold textP
 cases hm : mustP 34 l with
 | no er r =>
  rw [hm] at hout
  obtain ⟨rfl, l2, o2, rfl⟩ := hout
  (conv => whnf)
  exact ⟨rfl, l2, o2, rfl⟩
 | ok u l1 =>
  rw [hm] at hout
  obtain ⟨hl1, ⟨sv, rfl, rfl⟩, rfl⟩ := hout
  (conv => whnf)
  refine WS.nilRow 3 5 1 rfl ?_
  (conv => whnf)
  refine WS.loop (fun k F H2 G => ∃ (m : Nat) (b r : List UInt8), Sfx r (tL s) ∧ r.length < m ∧ strP m b r = strP (l1.length + 1) [] l1 ∧ b.length + 4 * r.length ≤ 4 * s.size ∧ k = r.length ∧ F = [(0, me), (3, .si (.ce (.self 1)))] ∧ H'.Le H2 ∧ G = [rdB s r d o, .row 5 1 b.length (bCells b)]) (l1.length + 1) ?_ ?_
  ·refine ⟨l1.length, by omega, _, _, [0, 1], ⟨l1.length + 1, [], l1, hl1, by omega, rfl, by have := hl1.le; rw [← size_eq] at this; simp; omega, rfl, rfl, .refl _, rfl⟩, ?_⟩
   exact ⟨rfl, ⟨rfl, rfl, trivial⟩, rfl, rfl, trivial⟩
  rintro k F H2 G hle ⟨m, b, r, hr, hm2, hb, hlen, rfl, rfl, hle2, rfl⟩
  refine codeL.go tab ?_
  (conv => whnf)
  refine ⟨⟨_, Tryz.func165, rfl, by kernel_rfl⟩, CallS.use (peek_ s r hr d o _) [0] rfl rfl ⟨rfl, trivial⟩ ?_⟩
  rintro e H3 G' hle3 ⟨rfl, rfl, rfl⟩
  (conv => whnf)
  refine ⟨⟨_, Tryz.func141, rfl, by kernel_rfl⟩, CallS.use (next_ 34 (by decide) s r hr (by omega) d o _) [0] rfl rfl ⟨rfl, trivial⟩ ?_⟩
  rintro e H4 G' hle4 ⟨rfl, h⟩
  cases m with
  | zero => omega
  | succ m =>
  cases h34 : tk 34 r with
  | some r2 =>
   rw [h34] at h
   obtain ⟨hr2, rfl, rfl⟩ := h
   (conv => whnf)
   refine ⟨strOf b, cells_str b, ?_⟩
   (conv => whnf)
   show Out s d o RT ((strP (l1.length + 1) [] l1).bind _) _ _ _
   rw [← hb, strP_end h34]
   exact ⟨hr2, ⟨_, rfl, rfl⟩, rfl⟩
  | none =>
   rw [h34] at h
   obtain ⟨rfl, rfl⟩ := h
   (conv => whnf)
   refine ⟨⟨_, Tryz.func141, rfl, by kernel_rfl⟩, CallS.use (next_ 92 (by decide) s r hr (by omega) d o _) [0] rfl rfl ⟨rfl, trivial⟩ ?_⟩
   rintro e H4 G' hle4 ⟨rfl, h⟩
   cases h92 : tk 92 r with
   | some r2 =>
    rw [h92] at h
    obtain ⟨hr2, rfl, rfl⟩ := h
    (conv => whnf)
    rw [strP_esc h34 h92] at hb
    have hlr : r.length = r2.length + 1 := by rw [tk_some h92]; rfl
    refine ⟨⟨_, Tryz.func203, rfl, by kernel_rfl⟩, CallS.use (escape_ s r r2 b (by omega) hr2 (by omega) d o _) [0, 1] rfl rfl ⟨rfl, rfl, trivial⟩ ?_⟩
    rintro e H5 G' hle5 ⟨_, hout⟩
    cases he : escP r r2 with
    | no er r3 =>
     rw [he] at hout hb
     obtain ⟨rfl, l2, o2, rfl⟩ := hout
     (conv => whnf)
     show Out s d o RT ((strP (l1.length + 1) [] l1).bind _) _ _ _
     rw [← hb]
     exact ⟨rfl, l2, o2, rfl⟩
    | ok x r3 =>
     rw [he] at hout hb
     obtain ⟨hr3, rfl, rfl⟩ := hout
     obtain ⟨hs3, hx4⟩ := escP_sfx he
     have hl3 := hs3.le
     (conv => whnf)
     refine ⟨r3.length, by omega, _, _, [0, 2], ⟨m, b ++ x, r3, hr3, by omega, hb, by rw [List.length_append]; omega, rfl, rfl, hle2.trans hle5, rfl⟩, ?_⟩
     exact ⟨rfl, ⟨rfl, rfl, trivial⟩, rfl, rfl, trivial⟩
   | none =>
    rw [h92] at h
    obtain ⟨rfl, rfl⟩ := h
    generalize hx : (((pk r).toNat : Nat) : Int) = x
    (conv => whnf)
    refine br.of (fun h5 => ?_) (fun h5 => ?_) <;> (conv => whnf)
    ·have h5 := of_decide_eq_true h5
     refine ⟨⟨_, Tryz.func132, rfl, by kernel_rfl⟩, CallS.use (stop_ s r d o _) [0] rfl rfl ⟨rfl, trivial⟩ ?_⟩
     rintro e H2 G' hle2 ⟨rfl, rfl, rfl⟩
     (conv => whnf)
     show Out s d o RT ((strP (l1.length + 1) [] l1).bind _) _ _ _
     rw [← hb, strP_ctl h34 h92 (by omega)]
     exact ⟨rfl, r, o, rfl⟩
    ·have h5 := of_decide_eq_false h5
     rw [strP_chr h34 h92 (by omega)] at hb
     have hre : r = pk r :: r.tail := by
      cases r with
      | nil => simp only [pk] at hx; exact absurd (show (0 : UInt8).toNat = 0 from rfl) (by omega)
      | cons c r => rfl
     have hrl : r.length = r.tail.length + 1 := by rw [hre]; rfl
     have hrt : Sfx r.tail (tL s) := by rw [hre] at hr; exact hr.tail
     have hst : SB.box 131 [.val (.string s), .val (.int .i64 (IntKind.i64.wrap (((pos s r : Nat) : Int) + 1))), .val (.int .i64 d), .val (.int .i64 o)] = rdB s r.tail d o := by
      rw [hre] at hr
      have := rd_step hr (by omega) d o
      rw [← hre] at this
      exact this
     refine ⟨by decide, .inl ?_⟩
     intro g H5 hle5 hrd
     (conv => whnf)
     refine ⟨_, rfl, hrd, ones_u8 [_], ?_⟩
     (conv => whnf)
     refine ⟨by show _ * 2 ≤ _; omega, ?_⟩
     (conv => whnf)
     rw [hst, bCells_snoc b (pk r) hx.symm]
     refine ⟨r.tail.length, by omega, _, _, [0, 2], ⟨m, b ++ [pk r], r.tail, hrt, by omega, hb, by rw [List.length_append]; simp only [List.length_cons, List.length_nil]; omega, rfl, rfl, hle2.trans hle5, by rw [List.length_append]⟩, ?_⟩
     exact ⟨rfl, ⟨rfl, rfl, trivial⟩, rfl, rfl, trivial⟩
end Go.Kx.Js
