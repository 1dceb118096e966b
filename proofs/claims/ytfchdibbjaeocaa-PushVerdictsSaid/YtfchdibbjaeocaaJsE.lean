/- Values as texts: strings out of a reader. No condition of its own. -/
import Derived.Test.YtfchdibbjaeocaaJsD
namespace Go.Kx.Js
open Go.Proofs Go.Kx Go.RowKit
set_option maxRecDepth 20000
theorem hasPrefixL (s p : ByteArray) (hp : p.size ≤ 100) (H : Hp) : CallO Try.prog 56 [pv (.string s), pv (.string p)] H [] fun e H' G' => H' = H ∧ e = .ret (pv (.bool (decide ((p.size : Int) ≤ (s.size : Int)) && strEq (s.extract 0 p.size) p))) ∧ G' = [] := by
  refine CallO.of_body tab Try.func56 rfl (nt := Try.f56.ntmps) rfl (by kernel_rfl) ?_
  (conv => whnf)
  refine br.of (fun h1 => ?_) (fun h1 => ?_) <;> (conv => whnf)
  · have h2 := of_decide_eq_true h1
    refine ⟨⟨by decide, by omega, by omega⟩, ?_⟩
    (conv => whnf)
    rw [show decide ((p.size : Int) ≤ (s.size : Int)) = true from h1, Bool.true_and]
    exact ⟨rfl, rfl, rfl⟩
  · rw [show decide ((p.size : Int) ≤ (s.size : Int)) = false from h1]
    exact ⟨rfl, rfl, rfl⟩
theorem digitsP_sfx {l r : List UInt8} {x : Unit} (h : digitsP l = .ok x r) : Sfx r l := by
  unfold digitsP at h
  split at h
  · injection h with _ h; subst h; exact digsP_sfx l
  · cases h
theorem bind_ok {α β : Type} {a : Res α} {f : α → List UInt8 → Res β} {y : β} {r : List UInt8} (h : a.bind f = .ok y r) : ∃ x r1, a = .ok x r1 ∧ f x r1 = .ok y r := by
  cases a with
  | ok x r1 => exact ⟨x, r1, rfl, h⟩
  | no e r1 => cases h
theorem optP_s (c : UInt8) (l : List UInt8) : Sfx (optP c l) l := optP_sfx (.refl l)
theorem num1_sfx {l r : List UInt8} {x : Unit} (h : num1 l = .ok x r) : Sfx r l := by
  unfold num1 at h
  split at h
  · injection h with _ h; subst h; exact optP_s _ _
  · exact (digitsP_sfx h).trans (optP_s _ _)
theorem num2_sfx {l r : List UInt8} {x : Unit} (h : num2 l = .ok x r) : Sfx r l := by
  unfold num2 at h
  split at h
  · exact (digitsP_sfx h).trans (optP_s _ _)
  · injection h with _ h; subst h; exact optP_s _ _
theorem num4_sfx {l r : List UInt8} {x : Unit} (h : num4 l = .ok x r) : Sfx r l := by
  unfold num4 at h
  split at h
  · exact (digitsP_sfx h).trans (optP_s _ _)
  · exact (digitsP_sfx h).trans ((optP_s _ _).trans (optP_s _ _))
theorem num3_sfx {l r : List UInt8} {x : Unit} (h : num3 l = .ok x r) : Sfx r l := by
  unfold num3 at h
  split at h
  · exact (num4_sfx h).trans (optP_s _ _)
  · split at h
    · exact (num4_sfx h).trans ((optP_s _ _).trans (optP_s _ _))
    · injection h with _ h; subst h; exact (optP_s _ _).trans (optP_s _ _)
theorem numberP_sfx {l r : List UInt8} {t : ByteArray} (h : numberP l = .ok t r) : Sfx r l := by
  unfold numberP at h
  obtain ⟨_, r1, h1, h⟩ := bind_ok h
  obtain ⟨_, r2, h2, h⟩ := bind_ok h
  obtain ⟨_, r3, h3, h⟩ := bind_ok h
  injection h with _ h
  subst h
  exact (num3_sfx h3).trans ((num2_sfx h2).trans ((num1_sfx h1).trans (optP_s _ _)))
theorem cut_eq {s : ByteArray} {r l : List UInt8} (hl : Sfx l (tL s)) (h : Sfx r l) : s.extract (((pos s l : Nat) : Int)).toNat (((pos s r : Nat) : Int)).toNat = ⟨(l.take (l.length - r.length)).toArray⟩ := by
  have h1 := h.le
  have h2 := hl.le
  have hd := hl.drop
  apply ByteArray.ext
  apply Array.ext'
  rw [ByteArray.data_extract, Array.toList_extract, List.extract_eq_take_drop]
  show List.take _ (List.drop _ (tL s)) = l.take (l.length - r.length)
  rw [Int.toNat_natCast, Int.toNat_natCast]
  unfold pos
  rw [hd]
  congr 1
  omega
theorem pos_ord {s : ByteArray} {r l : List UInt8} (h : Sfx r l) (_ : Sfx r (tL s)) : 0 ≤ ((pos s l : Nat) : Int) ∧ ((pos s l : Nat) : Int) ≤ ((pos s r : Nat) : Int) ∧ ((pos s r : Nat) : Int) ≤ (s.size : Int) := by
  have h1 := h.le
  have h2 := pos_le s r
  have h3 : pos s l ≤ pos s r := by unfold pos; omega
  omega
set_option linter.unusedSimpArgs false in
set_option maxHeartbeats 4000000 in
theorem number_ (s : ByteArray) (l : List UInt8) (hl : Sfx l (tL s)) (hs : s.size ≤ 1000000) (d o : Int) (H : Hp) : CallO Try.prog 36 [me] H [rdB s l d o] fun e H' G' => H' = H ∧ Out s d o (fun (_ : Hp) (t : ByteArray) (sv : SV) => sv = .si (.ag [.val (.int .i64 3), .val (.bool false), .val (.string t), .val (.slice none 0 0), .val (.slice none 0 0)])) (numberP l) e H' G' := by
  refine CallO.of_body tab Try.func36 rfl (nt := Try.f36.ntmps) rfl (by kernel_rfl) ?_
  (conv => whnf)
  refine ⟨⟨_, Try.func42, rfl, by kernel_rfl⟩, CallS.use (nextB 45 (by decide) s (l) hl hs d o _) [0] rfl rfl ⟨rfl, trivial⟩ ?_⟩
  rintro e H' G' hle ⟨rfl, rfl, rfl⟩
  have hm := optP_sfx (c := 45) hl
  (conv => whnf)
  refine ⟨⟨_, Try.func42, rfl, by kernel_rfl⟩, CallS.use (nextB 48 (by decide) s (optP 45 l) hm hs d o _) [0] rfl rfl ⟨rfl, trivial⟩ ?_⟩
  rintro e H' G' hle ⟨rfl, rfl, rfl⟩
  have hz := optP_sfx (c := 48) hm
  (conv => whnf)
  cases z : tkB 48 (optP 45 l) <;> (conv => whnf)
  · skip
    refine ⟨⟨_, Try.func49, rfl, by kernel_rfl⟩, CallS.use (digits_ s (optP 48 (optP 45 l)) hz hs d o _) [0] rfl rfl ⟨rfl, trivial⟩ ?_⟩
    rintro e H' G' hle ⟨rfl, hout⟩
    cases w : digitsP (optP 48 (optP 45 l)) with
    | no er r =>
      rw [w] at hout
      obtain ⟨rfl, l2, o2, rfl⟩ := hout
      (conv => whnf)
      refine ⟨rfl, ?_⟩
      simp only [numberP, num1, num2, num3, num4, Res.bind, if_true, if_false, Bool.false_eq_true, z, w]
      exact ⟨rfl, l2, o2, rfl⟩
    | ok x rw =>
      rw [w] at hout
      obtain ⟨hrw, ⟨sv, rfl, rfl⟩, rfl⟩ := hout
      (conv => whnf)
      refine ⟨⟨_, Try.func42, rfl, by kernel_rfl⟩, CallS.use (nextB 46 (by decide) s (rw) hrw hs d o _) [0] rfl rfl ⟨rfl, trivial⟩ ?_⟩
      rintro e H' G' hle ⟨rfl, rfl, rfl⟩
      have hrwf := optP_sfx (c := 46) hrw
      (conv => whnf)
      cases f2 : tkB 46 (rw) <;> (conv => whnf)
      · skip
        refine ⟨⟨_, Try.func42, rfl, by kernel_rfl⟩, CallS.use (nextB 101 (by decide) s (optP 46 (rw)) hrwf hs d o _) [0] rfl rfl ⟨rfl, trivial⟩ ?_⟩
        rintro e H' G' hle ⟨rfl, rfl, rfl⟩
        have hrwfe := optP_sfx (c := 101) hrwf
        (conv => whnf)
        cases e3 : tkB 101 (optP 46 (rw)) <;> (conv => whnf)
        · skip
          refine ⟨⟨_, Try.func42, rfl, by kernel_rfl⟩, CallS.use (nextB 69 (by decide) s (optP 101 (optP 46 (rw))) hrwfe hs d o _) [0] rfl rfl ⟨rfl, trivial⟩ ?_⟩
          rintro e H' G' hle ⟨rfl, rfl, rfl⟩
          have hrwfE := optP_sfx (c := 69) hrwfe
          (conv => whnf)
          cases E3 : tkB 69 (optP 101 (optP 46 (rw))) <;> (conv => whnf)
          · skip
            have hfin : numberP l = .ok ⟨(l.take (l.length - (optP 69 (optP 101 (optP 46 (rw)))).length)).toArray⟩ (optP 69 (optP 101 (optP 46 (rw)))) := by
              simp only [numberP, num1, num2, num3, num4, Res.bind, if_true, if_false, Bool.false_eq_true, z, w, f2, e3, E3]
            have hsl : Sfx (optP 69 (optP 101 (optP 46 (rw)))) l := numberP_sfx hfin
            rw [hfin]
            clear z w f2 e3 E3 hfin
            generalize optP 69 (optP 101 (optP 46 (rw))) = rl at *
            refine WS.draw tab mixed (.take 0 (.take 1 (.take 2 (.take 3 (.take 4 (.take 5 (.take 6 (.take 7 (.take 8 (.take 9 (.take 10 (.alt 11 .done .no)))))))))))) (by kernel_rfl) [1] ?_
            (conv => whnf)
            refine ⟨pos_ord hsl hrwfE, ?_⟩
            (conv => whnf)
            repeat' (first | exact trivial | exact rfl | exact ⟨rfl, hrwfE, ⟨_, rfl, rfl⟩, rfl⟩ | (rw [cut_eq hl hsl]; exact ⟨rfl, hrwfE, ⟨_, rfl, rfl⟩, rfl⟩) | (refine And.intro ?_ ?_ <;> (conv => whnf)))
          · skip
            refine ⟨⟨_, Try.func42, rfl, by kernel_rfl⟩, CallS.use (nextB 43 (by decide) s (optP 69 (optP 101 (optP 46 (rw)))) hrwfE hs d o _) [0] rfl rfl ⟨rfl, trivial⟩ ?_⟩
            rintro e H' G' hle ⟨rfl, rfl, rfl⟩
            have hrwfEp := optP_sfx (c := 43) hrwfE
            (conv => whnf)
            cases p5 : tkB 43 (optP 69 (optP 101 (optP 46 (rw)))) <;> (conv => whnf)
            · skip
              refine ⟨⟨_, Try.func42, rfl, by kernel_rfl⟩, CallS.use (nextB 45 (by decide) s (optP 43 (optP 69 (optP 101 (optP 46 (rw))))) hrwfEp hs d o _) [0] rfl rfl ⟨rfl, trivial⟩ ?_⟩
              rintro e H' G' hle ⟨rfl, rfl, rfl⟩
              have hrwfEm := optP_sfx (c := 45) hrwfEp
              (conv => whnf)
              refine ⟨⟨_, Try.func49, rfl, by kernel_rfl⟩, CallS.use (digits_ s (optP 45 (optP 43 (optP 69 (optP 101 (optP 46 (rw)))))) hrwfEm hs d o _) [0] rfl rfl ⟨rfl, trivial⟩ ?_⟩
              rintro e H' G' hle ⟨rfl, hout⟩
              cases x5 : digitsP (optP 45 (optP 43 (optP 69 (optP 101 (optP 46 (rw)))))) with
              | no er r =>
                rw [x5] at hout
                obtain ⟨rfl, l2, o2, rfl⟩ := hout
                (conv => whnf)
                refine ⟨rfl, ?_⟩
                simp only [numberP, num1, num2, num3, num4, Res.bind, if_true, if_false, Bool.false_eq_true, z, w, f2, e3, E3, p5, x5]
                exact ⟨rfl, l2, o2, rfl⟩
              | ok x rx5 =>
                rw [x5] at hout
                obtain ⟨hrx5, ⟨sv, rfl, rfl⟩, rfl⟩ := hout
                (conv => whnf)
                have hfin : numberP l = .ok ⟨(l.take (l.length - (rx5).length)).toArray⟩ (rx5) := by
                  simp only [numberP, num1, num2, num3, num4, Res.bind, if_true, if_false, Bool.false_eq_true, z, w, f2, e3, E3, p5, x5]
                have hsl : Sfx (rx5) l := numberP_sfx hfin
                rw [hfin]
                clear z w f2 e3 E3 p5 x5 hfin
                generalize rx5 = rl at *
                refine WS.draw tab mixed (.take 0 (.take 1 (.take 2 (.take 3 (.take 4 (.take 5 (.take 6 (.take 7 (.take 8 (.take 9 (.take 10 (.alt 11 .done .no)))))))))))) (by kernel_rfl) [1] ?_
                (conv => whnf)
                refine ⟨pos_ord hsl hrx5, ?_⟩
                (conv => whnf)
                repeat' (first | exact trivial | exact rfl | exact ⟨rfl, hrx5, ⟨_, rfl, rfl⟩, rfl⟩ | (rw [cut_eq hl hsl]; exact ⟨rfl, hrx5, ⟨_, rfl, rfl⟩, rfl⟩) | (refine And.intro ?_ ?_ <;> (conv => whnf)))
            · skip
              refine ⟨⟨_, Try.func49, rfl, by kernel_rfl⟩, CallS.use (digits_ s (optP 43 (optP 69 (optP 101 (optP 46 (rw))))) hrwfEp hs d o _) [0] rfl rfl ⟨rfl, trivial⟩ ?_⟩
              rintro e H' G' hle ⟨rfl, hout⟩
              cases x5 : digitsP (optP 43 (optP 69 (optP 101 (optP 46 (rw))))) with
              | no er r =>
                rw [x5] at hout
                obtain ⟨rfl, l2, o2, rfl⟩ := hout
                (conv => whnf)
                refine ⟨rfl, ?_⟩
                simp only [numberP, num1, num2, num3, num4, Res.bind, if_true, if_false, Bool.false_eq_true, z, w, f2, e3, E3, p5, x5]
                exact ⟨rfl, l2, o2, rfl⟩
              | ok x rx5 =>
                rw [x5] at hout
                obtain ⟨hrx5, ⟨sv, rfl, rfl⟩, rfl⟩ := hout
                (conv => whnf)
                have hfin : numberP l = .ok ⟨(l.take (l.length - (rx5).length)).toArray⟩ (rx5) := by
                  simp only [numberP, num1, num2, num3, num4, Res.bind, if_true, if_false, Bool.false_eq_true, z, w, f2, e3, E3, p5, x5]
                have hsl : Sfx (rx5) l := numberP_sfx hfin
                rw [hfin]
                clear z w f2 e3 E3 p5 x5 hfin
                generalize rx5 = rl at *
                refine WS.draw tab mixed (.take 0 (.take 1 (.take 2 (.take 3 (.take 4 (.take 5 (.take 6 (.take 7 (.take 8 (.take 9 (.take 10 (.alt 11 .done .no)))))))))))) (by kernel_rfl) [1] ?_
                (conv => whnf)
                refine ⟨pos_ord hsl hrx5, ?_⟩
                (conv => whnf)
                repeat' (first | exact trivial | exact rfl | exact ⟨rfl, hrx5, ⟨_, rfl, rfl⟩, rfl⟩ | (rw [cut_eq hl hsl]; exact ⟨rfl, hrx5, ⟨_, rfl, rfl⟩, rfl⟩) | (refine And.intro ?_ ?_ <;> (conv => whnf)))
        · skip
          refine ⟨⟨_, Try.func42, rfl, by kernel_rfl⟩, CallS.use (nextB 43 (by decide) s (optP 101 (optP 46 (rw))) hrwfe hs d o _) [0] rfl rfl ⟨rfl, trivial⟩ ?_⟩
          rintro e H' G' hle ⟨rfl, rfl, rfl⟩
          have hrwfep := optP_sfx (c := 43) hrwfe
          (conv => whnf)
          cases p4 : tkB 43 (optP 101 (optP 46 (rw))) <;> (conv => whnf)
          · skip
            refine ⟨⟨_, Try.func42, rfl, by kernel_rfl⟩, CallS.use (nextB 45 (by decide) s (optP 43 (optP 101 (optP 46 (rw)))) hrwfep hs d o _) [0] rfl rfl ⟨rfl, trivial⟩ ?_⟩
            rintro e H' G' hle ⟨rfl, rfl, rfl⟩
            have hrwfem := optP_sfx (c := 45) hrwfep
            (conv => whnf)
            refine ⟨⟨_, Try.func49, rfl, by kernel_rfl⟩, CallS.use (digits_ s (optP 45 (optP 43 (optP 101 (optP 46 (rw))))) hrwfem hs d o _) [0] rfl rfl ⟨rfl, trivial⟩ ?_⟩
            rintro e H' G' hle ⟨rfl, hout⟩
            cases x4 : digitsP (optP 45 (optP 43 (optP 101 (optP 46 (rw))))) with
            | no er r =>
              rw [x4] at hout
              obtain ⟨rfl, l2, o2, rfl⟩ := hout
              (conv => whnf)
              refine ⟨rfl, ?_⟩
              simp only [numberP, num1, num2, num3, num4, Res.bind, if_true, if_false, Bool.false_eq_true, z, w, f2, e3, p4, x4]
              exact ⟨rfl, l2, o2, rfl⟩
            | ok x rx4 =>
              rw [x4] at hout
              obtain ⟨hrx4, ⟨sv, rfl, rfl⟩, rfl⟩ := hout
              (conv => whnf)
              have hfin : numberP l = .ok ⟨(l.take (l.length - (rx4).length)).toArray⟩ (rx4) := by
                simp only [numberP, num1, num2, num3, num4, Res.bind, if_true, if_false, Bool.false_eq_true, z, w, f2, e3, p4, x4]
              have hsl : Sfx (rx4) l := numberP_sfx hfin
              rw [hfin]
              clear z w f2 e3 p4 x4 hfin
              generalize rx4 = rl at *
              refine WS.draw tab mixed (.take 0 (.take 1 (.take 2 (.take 3 (.take 4 (.take 5 (.take 6 (.take 7 (.take 8 (.take 9 (.take 10 (.alt 11 .done .no)))))))))))) (by kernel_rfl) [1] ?_
              (conv => whnf)
              refine ⟨pos_ord hsl hrx4, ?_⟩
              (conv => whnf)
              repeat' (first | exact trivial | exact rfl | exact ⟨rfl, hrx4, ⟨_, rfl, rfl⟩, rfl⟩ | (rw [cut_eq hl hsl]; exact ⟨rfl, hrx4, ⟨_, rfl, rfl⟩, rfl⟩) | (refine And.intro ?_ ?_ <;> (conv => whnf)))
          · skip
            refine ⟨⟨_, Try.func49, rfl, by kernel_rfl⟩, CallS.use (digits_ s (optP 43 (optP 101 (optP 46 (rw)))) hrwfep hs d o _) [0] rfl rfl ⟨rfl, trivial⟩ ?_⟩
            rintro e H' G' hle ⟨rfl, hout⟩
            cases x4 : digitsP (optP 43 (optP 101 (optP 46 (rw)))) with
            | no er r =>
              rw [x4] at hout
              obtain ⟨rfl, l2, o2, rfl⟩ := hout
              (conv => whnf)
              refine ⟨rfl, ?_⟩
              simp only [numberP, num1, num2, num3, num4, Res.bind, if_true, if_false, Bool.false_eq_true, z, w, f2, e3, p4, x4]
              exact ⟨rfl, l2, o2, rfl⟩
            | ok x rx4 =>
              rw [x4] at hout
              obtain ⟨hrx4, ⟨sv, rfl, rfl⟩, rfl⟩ := hout
              (conv => whnf)
              have hfin : numberP l = .ok ⟨(l.take (l.length - (rx4).length)).toArray⟩ (rx4) := by
                simp only [numberP, num1, num2, num3, num4, Res.bind, if_true, if_false, Bool.false_eq_true, z, w, f2, e3, p4, x4]
              have hsl : Sfx (rx4) l := numberP_sfx hfin
              rw [hfin]
              clear z w f2 e3 p4 x4 hfin
              generalize rx4 = rl at *
              refine WS.draw tab mixed (.take 0 (.take 1 (.take 2 (.take 3 (.take 4 (.take 5 (.take 6 (.take 7 (.take 8 (.take 9 (.take 10 (.alt 11 .done .no)))))))))))) (by kernel_rfl) [1] ?_
              (conv => whnf)
              refine ⟨pos_ord hsl hrx4, ?_⟩
              (conv => whnf)
              repeat' (first | exact trivial | exact rfl | exact ⟨rfl, hrx4, ⟨_, rfl, rfl⟩, rfl⟩ | (rw [cut_eq hl hsl]; exact ⟨rfl, hrx4, ⟨_, rfl, rfl⟩, rfl⟩) | (refine And.intro ?_ ?_ <;> (conv => whnf)))
      · skip
        refine ⟨⟨_, Try.func49, rfl, by kernel_rfl⟩, CallS.use (digits_ s (optP 46 (rw)) hrwf hs d o _) [0] rfl rfl ⟨rfl, trivial⟩ ?_⟩
        rintro e H' G' hle ⟨rfl, hout⟩
        cases y2 : digitsP (optP 46 (rw)) with
        | no er r =>
          rw [y2] at hout
          obtain ⟨rfl, l2, o2, rfl⟩ := hout
          (conv => whnf)
          refine ⟨rfl, ?_⟩
          simp only [numberP, num1, num2, num3, num4, Res.bind, if_true, if_false, Bool.false_eq_true, z, w, f2, y2]
          exact ⟨rfl, l2, o2, rfl⟩
        | ok x ry2 =>
          rw [y2] at hout
          obtain ⟨hry2, ⟨sv, rfl, rfl⟩, rfl⟩ := hout
          (conv => whnf)
          refine ⟨⟨_, Try.func42, rfl, by kernel_rfl⟩, CallS.use (nextB 101 (by decide) s (ry2) hry2 hs d o _) [0] rfl rfl ⟨rfl, trivial⟩ ?_⟩
          rintro e H' G' hle ⟨rfl, rfl, rfl⟩
          have hry2e := optP_sfx (c := 101) hry2
          (conv => whnf)
          cases e4 : tkB 101 (ry2) <;> (conv => whnf)
          · skip
            refine ⟨⟨_, Try.func42, rfl, by kernel_rfl⟩, CallS.use (nextB 69 (by decide) s (optP 101 (ry2)) hry2e hs d o _) [0] rfl rfl ⟨rfl, trivial⟩ ?_⟩
            rintro e H' G' hle ⟨rfl, rfl, rfl⟩
            have hry2E := optP_sfx (c := 69) hry2e
            (conv => whnf)
            cases E4 : tkB 69 (optP 101 (ry2)) <;> (conv => whnf)
            · skip
              have hfin : numberP l = .ok ⟨(l.take (l.length - (optP 69 (optP 101 (ry2))).length)).toArray⟩ (optP 69 (optP 101 (ry2))) := by
                simp only [numberP, num1, num2, num3, num4, Res.bind, if_true, if_false, Bool.false_eq_true, z, w, f2, y2, e4, E4]
              have hsl : Sfx (optP 69 (optP 101 (ry2))) l := numberP_sfx hfin
              rw [hfin]
              clear z w f2 y2 e4 E4 hfin
              generalize optP 69 (optP 101 (ry2)) = rl at *
              refine WS.draw tab mixed (.take 0 (.take 1 (.take 2 (.take 3 (.take 4 (.take 5 (.take 6 (.take 7 (.take 8 (.take 9 (.take 10 (.alt 11 .done .no)))))))))))) (by kernel_rfl) [1] ?_
              (conv => whnf)
              refine ⟨pos_ord hsl hry2E, ?_⟩
              (conv => whnf)
              repeat' (first | exact trivial | exact rfl | exact ⟨rfl, hry2E, ⟨_, rfl, rfl⟩, rfl⟩ | (rw [cut_eq hl hsl]; exact ⟨rfl, hry2E, ⟨_, rfl, rfl⟩, rfl⟩) | (refine And.intro ?_ ?_ <;> (conv => whnf)))
            · skip
              refine ⟨⟨_, Try.func42, rfl, by kernel_rfl⟩, CallS.use (nextB 43 (by decide) s (optP 69 (optP 101 (ry2))) hry2E hs d o _) [0] rfl rfl ⟨rfl, trivial⟩ ?_⟩
              rintro e H' G' hle ⟨rfl, rfl, rfl⟩
              have hry2Ep := optP_sfx (c := 43) hry2E
              (conv => whnf)
              cases p6 : tkB 43 (optP 69 (optP 101 (ry2))) <;> (conv => whnf)
              · skip
                refine ⟨⟨_, Try.func42, rfl, by kernel_rfl⟩, CallS.use (nextB 45 (by decide) s (optP 43 (optP 69 (optP 101 (ry2)))) hry2Ep hs d o _) [0] rfl rfl ⟨rfl, trivial⟩ ?_⟩
                rintro e H' G' hle ⟨rfl, rfl, rfl⟩
                have hry2Em := optP_sfx (c := 45) hry2Ep
                (conv => whnf)
                refine ⟨⟨_, Try.func49, rfl, by kernel_rfl⟩, CallS.use (digits_ s (optP 45 (optP 43 (optP 69 (optP 101 (ry2))))) hry2Em hs d o _) [0] rfl rfl ⟨rfl, trivial⟩ ?_⟩
                rintro e H' G' hle ⟨rfl, hout⟩
                cases x6 : digitsP (optP 45 (optP 43 (optP 69 (optP 101 (ry2))))) with
                | no er r =>
                  rw [x6] at hout
                  obtain ⟨rfl, l2, o2, rfl⟩ := hout
                  (conv => whnf)
                  refine ⟨rfl, ?_⟩
                  simp only [numberP, num1, num2, num3, num4, Res.bind, if_true, if_false, Bool.false_eq_true, z, w, f2, y2, e4, E4, p6, x6]
                  exact ⟨rfl, l2, o2, rfl⟩
                | ok x rx6 =>
                  rw [x6] at hout
                  obtain ⟨hrx6, ⟨sv, rfl, rfl⟩, rfl⟩ := hout
                  (conv => whnf)
                  have hfin : numberP l = .ok ⟨(l.take (l.length - (rx6).length)).toArray⟩ (rx6) := by
                    simp only [numberP, num1, num2, num3, num4, Res.bind, if_true, if_false, Bool.false_eq_true, z, w, f2, y2, e4, E4, p6, x6]
                  have hsl : Sfx (rx6) l := numberP_sfx hfin
                  rw [hfin]
                  clear z w f2 y2 e4 E4 p6 x6 hfin
                  generalize rx6 = rl at *
                  refine WS.draw tab mixed (.take 0 (.take 1 (.take 2 (.take 3 (.take 4 (.take 5 (.take 6 (.take 7 (.take 8 (.take 9 (.take 10 (.alt 11 .done .no)))))))))))) (by kernel_rfl) [1] ?_
                  (conv => whnf)
                  refine ⟨pos_ord hsl hrx6, ?_⟩
                  (conv => whnf)
                  repeat' (first | exact trivial | exact rfl | exact ⟨rfl, hrx6, ⟨_, rfl, rfl⟩, rfl⟩ | (rw [cut_eq hl hsl]; exact ⟨rfl, hrx6, ⟨_, rfl, rfl⟩, rfl⟩) | (refine And.intro ?_ ?_ <;> (conv => whnf)))
              · skip
                refine ⟨⟨_, Try.func49, rfl, by kernel_rfl⟩, CallS.use (digits_ s (optP 43 (optP 69 (optP 101 (ry2)))) hry2Ep hs d o _) [0] rfl rfl ⟨rfl, trivial⟩ ?_⟩
                rintro e H' G' hle ⟨rfl, hout⟩
                cases x6 : digitsP (optP 43 (optP 69 (optP 101 (ry2)))) with
                | no er r =>
                  rw [x6] at hout
                  obtain ⟨rfl, l2, o2, rfl⟩ := hout
                  (conv => whnf)
                  refine ⟨rfl, ?_⟩
                  simp only [numberP, num1, num2, num3, num4, Res.bind, if_true, if_false, Bool.false_eq_true, z, w, f2, y2, e4, E4, p6, x6]
                  exact ⟨rfl, l2, o2, rfl⟩
                | ok x rx6 =>
                  rw [x6] at hout
                  obtain ⟨hrx6, ⟨sv, rfl, rfl⟩, rfl⟩ := hout
                  (conv => whnf)
                  have hfin : numberP l = .ok ⟨(l.take (l.length - (rx6).length)).toArray⟩ (rx6) := by
                    simp only [numberP, num1, num2, num3, num4, Res.bind, if_true, if_false, Bool.false_eq_true, z, w, f2, y2, e4, E4, p6, x6]
                  have hsl : Sfx (rx6) l := numberP_sfx hfin
                  rw [hfin]
                  clear z w f2 y2 e4 E4 p6 x6 hfin
                  generalize rx6 = rl at *
                  refine WS.draw tab mixed (.take 0 (.take 1 (.take 2 (.take 3 (.take 4 (.take 5 (.take 6 (.take 7 (.take 8 (.take 9 (.take 10 (.alt 11 .done .no)))))))))))) (by kernel_rfl) [1] ?_
                  (conv => whnf)
                  refine ⟨pos_ord hsl hrx6, ?_⟩
                  (conv => whnf)
                  repeat' (first | exact trivial | exact rfl | exact ⟨rfl, hrx6, ⟨_, rfl, rfl⟩, rfl⟩ | (rw [cut_eq hl hsl]; exact ⟨rfl, hrx6, ⟨_, rfl, rfl⟩, rfl⟩) | (refine And.intro ?_ ?_ <;> (conv => whnf)))
          · skip
            refine ⟨⟨_, Try.func42, rfl, by kernel_rfl⟩, CallS.use (nextB 43 (by decide) s (optP 101 (ry2)) hry2e hs d o _) [0] rfl rfl ⟨rfl, trivial⟩ ?_⟩
            rintro e H' G' hle ⟨rfl, rfl, rfl⟩
            have hry2ep := optP_sfx (c := 43) hry2e
            (conv => whnf)
            cases p5 : tkB 43 (optP 101 (ry2)) <;> (conv => whnf)
            · skip
              refine ⟨⟨_, Try.func42, rfl, by kernel_rfl⟩, CallS.use (nextB 45 (by decide) s (optP 43 (optP 101 (ry2))) hry2ep hs d o _) [0] rfl rfl ⟨rfl, trivial⟩ ?_⟩
              rintro e H' G' hle ⟨rfl, rfl, rfl⟩
              have hry2em := optP_sfx (c := 45) hry2ep
              (conv => whnf)
              refine ⟨⟨_, Try.func49, rfl, by kernel_rfl⟩, CallS.use (digits_ s (optP 45 (optP 43 (optP 101 (ry2)))) hry2em hs d o _) [0] rfl rfl ⟨rfl, trivial⟩ ?_⟩
              rintro e H' G' hle ⟨rfl, hout⟩
              cases x5 : digitsP (optP 45 (optP 43 (optP 101 (ry2)))) with
              | no er r =>
                rw [x5] at hout
                obtain ⟨rfl, l2, o2, rfl⟩ := hout
                (conv => whnf)
                refine ⟨rfl, ?_⟩
                simp only [numberP, num1, num2, num3, num4, Res.bind, if_true, if_false, Bool.false_eq_true, z, w, f2, y2, e4, p5, x5]
                exact ⟨rfl, l2, o2, rfl⟩
              | ok x rx5 =>
                rw [x5] at hout
                obtain ⟨hrx5, ⟨sv, rfl, rfl⟩, rfl⟩ := hout
                (conv => whnf)
                have hfin : numberP l = .ok ⟨(l.take (l.length - (rx5).length)).toArray⟩ (rx5) := by
                  simp only [numberP, num1, num2, num3, num4, Res.bind, if_true, if_false, Bool.false_eq_true, z, w, f2, y2, e4, p5, x5]
                have hsl : Sfx (rx5) l := numberP_sfx hfin
                rw [hfin]
                clear z w f2 y2 e4 p5 x5 hfin
                generalize rx5 = rl at *
                refine WS.draw tab mixed (.take 0 (.take 1 (.take 2 (.take 3 (.take 4 (.take 5 (.take 6 (.take 7 (.take 8 (.take 9 (.take 10 (.alt 11 .done .no)))))))))))) (by kernel_rfl) [1] ?_
                (conv => whnf)
                refine ⟨pos_ord hsl hrx5, ?_⟩
                (conv => whnf)
                repeat' (first | exact trivial | exact rfl | exact ⟨rfl, hrx5, ⟨_, rfl, rfl⟩, rfl⟩ | (rw [cut_eq hl hsl]; exact ⟨rfl, hrx5, ⟨_, rfl, rfl⟩, rfl⟩) | (refine And.intro ?_ ?_ <;> (conv => whnf)))
            · skip
              refine ⟨⟨_, Try.func49, rfl, by kernel_rfl⟩, CallS.use (digits_ s (optP 43 (optP 101 (ry2))) hry2ep hs d o _) [0] rfl rfl ⟨rfl, trivial⟩ ?_⟩
              rintro e H' G' hle ⟨rfl, hout⟩
              cases x5 : digitsP (optP 43 (optP 101 (ry2))) with
              | no er r =>
                rw [x5] at hout
                obtain ⟨rfl, l2, o2, rfl⟩ := hout
                (conv => whnf)
                refine ⟨rfl, ?_⟩
                simp only [numberP, num1, num2, num3, num4, Res.bind, if_true, if_false, Bool.false_eq_true, z, w, f2, y2, e4, p5, x5]
                exact ⟨rfl, l2, o2, rfl⟩
              | ok x rx5 =>
                rw [x5] at hout
                obtain ⟨hrx5, ⟨sv, rfl, rfl⟩, rfl⟩ := hout
                (conv => whnf)
                have hfin : numberP l = .ok ⟨(l.take (l.length - (rx5).length)).toArray⟩ (rx5) := by
                  simp only [numberP, num1, num2, num3, num4, Res.bind, if_true, if_false, Bool.false_eq_true, z, w, f2, y2, e4, p5, x5]
                have hsl : Sfx (rx5) l := numberP_sfx hfin
                rw [hfin]
                clear z w f2 y2 e4 p5 x5 hfin
                generalize rx5 = rl at *
                refine WS.draw tab mixed (.take 0 (.take 1 (.take 2 (.take 3 (.take 4 (.take 5 (.take 6 (.take 7 (.take 8 (.take 9 (.take 10 (.alt 11 .done .no)))))))))))) (by kernel_rfl) [1] ?_
                (conv => whnf)
                refine ⟨pos_ord hsl hrx5, ?_⟩
                (conv => whnf)
                repeat' (first | exact trivial | exact rfl | exact ⟨rfl, hrx5, ⟨_, rfl, rfl⟩, rfl⟩ | (rw [cut_eq hl hsl]; exact ⟨rfl, hrx5, ⟨_, rfl, rfl⟩, rfl⟩) | (refine And.intro ?_ ?_ <;> (conv => whnf)))
  · skip
    refine ⟨⟨_, Try.func42, rfl, by kernel_rfl⟩, CallS.use (nextB 46 (by decide) s (optP 48 (optP 45 l)) hz hs d o _) [0] rfl rfl ⟨rfl, trivial⟩ ?_⟩
    rintro e H' G' hle ⟨rfl, rfl, rfl⟩
    have hzf := optP_sfx (c := 46) hz
    (conv => whnf)
    cases f1 : tkB 46 (optP 48 (optP 45 l)) <;> (conv => whnf)
    · skip
      refine ⟨⟨_, Try.func42, rfl, by kernel_rfl⟩, CallS.use (nextB 101 (by decide) s (optP 46 (optP 48 (optP 45 l))) hzf hs d o _) [0] rfl rfl ⟨rfl, trivial⟩ ?_⟩
      rintro e H' G' hle ⟨rfl, rfl, rfl⟩
      have hzfe := optP_sfx (c := 101) hzf
      (conv => whnf)
      cases e2 : tkB 101 (optP 46 (optP 48 (optP 45 l))) <;> (conv => whnf)
      · skip
        refine ⟨⟨_, Try.func42, rfl, by kernel_rfl⟩, CallS.use (nextB 69 (by decide) s (optP 101 (optP 46 (optP 48 (optP 45 l)))) hzfe hs d o _) [0] rfl rfl ⟨rfl, trivial⟩ ?_⟩
        rintro e H' G' hle ⟨rfl, rfl, rfl⟩
        have hzfE := optP_sfx (c := 69) hzfe
        (conv => whnf)
        cases E2 : tkB 69 (optP 101 (optP 46 (optP 48 (optP 45 l)))) <;> (conv => whnf)
        · skip
          have hfin : numberP l = .ok ⟨(l.take (l.length - (optP 69 (optP 101 (optP 46 (optP 48 (optP 45 l))))).length)).toArray⟩ (optP 69 (optP 101 (optP 46 (optP 48 (optP 45 l))))) := by
            simp only [numberP, num1, num2, num3, num4, Res.bind, if_true, if_false, Bool.false_eq_true, z, f1, e2, E2]
          have hsl : Sfx (optP 69 (optP 101 (optP 46 (optP 48 (optP 45 l))))) l := numberP_sfx hfin
          rw [hfin]
          clear z f1 e2 E2 hfin
          generalize optP 69 (optP 101 (optP 46 (optP 48 (optP 45 l)))) = rl at *
          refine WS.draw tab mixed (.take 0 (.take 1 (.take 2 (.take 3 (.take 4 (.take 5 (.take 6 (.take 7 (.take 8 (.take 9 (.take 10 (.alt 11 .done .no)))))))))))) (by kernel_rfl) [1] ?_
          (conv => whnf)
          refine ⟨pos_ord hsl hzfE, ?_⟩
          (conv => whnf)
          repeat' (first | exact trivial | exact rfl | exact ⟨rfl, hzfE, ⟨_, rfl, rfl⟩, rfl⟩ | (rw [cut_eq hl hsl]; exact ⟨rfl, hzfE, ⟨_, rfl, rfl⟩, rfl⟩) | (refine And.intro ?_ ?_ <;> (conv => whnf)))
        · skip
          refine ⟨⟨_, Try.func42, rfl, by kernel_rfl⟩, CallS.use (nextB 43 (by decide) s (optP 69 (optP 101 (optP 46 (optP 48 (optP 45 l))))) hzfE hs d o _) [0] rfl rfl ⟨rfl, trivial⟩ ?_⟩
          rintro e H' G' hle ⟨rfl, rfl, rfl⟩
          have hzfEp := optP_sfx (c := 43) hzfE
          (conv => whnf)
          cases p4 : tkB 43 (optP 69 (optP 101 (optP 46 (optP 48 (optP 45 l))))) <;> (conv => whnf)
          · skip
            refine ⟨⟨_, Try.func42, rfl, by kernel_rfl⟩, CallS.use (nextB 45 (by decide) s (optP 43 (optP 69 (optP 101 (optP 46 (optP 48 (optP 45 l)))))) hzfEp hs d o _) [0] rfl rfl ⟨rfl, trivial⟩ ?_⟩
            rintro e H' G' hle ⟨rfl, rfl, rfl⟩
            have hzfEm := optP_sfx (c := 45) hzfEp
            (conv => whnf)
            refine ⟨⟨_, Try.func49, rfl, by kernel_rfl⟩, CallS.use (digits_ s (optP 45 (optP 43 (optP 69 (optP 101 (optP 46 (optP 48 (optP 45 l))))))) hzfEm hs d o _) [0] rfl rfl ⟨rfl, trivial⟩ ?_⟩
            rintro e H' G' hle ⟨rfl, hout⟩
            cases x4 : digitsP (optP 45 (optP 43 (optP 69 (optP 101 (optP 46 (optP 48 (optP 45 l))))))) with
            | no er r =>
              rw [x4] at hout
              obtain ⟨rfl, l2, o2, rfl⟩ := hout
              (conv => whnf)
              refine ⟨rfl, ?_⟩
              simp only [numberP, num1, num2, num3, num4, Res.bind, if_true, if_false, Bool.false_eq_true, z, f1, e2, E2, p4, x4]
              exact ⟨rfl, l2, o2, rfl⟩
            | ok x rx4 =>
              rw [x4] at hout
              obtain ⟨hrx4, ⟨sv, rfl, rfl⟩, rfl⟩ := hout
              (conv => whnf)
              have hfin : numberP l = .ok ⟨(l.take (l.length - (rx4).length)).toArray⟩ (rx4) := by
                simp only [numberP, num1, num2, num3, num4, Res.bind, if_true, if_false, Bool.false_eq_true, z, f1, e2, E2, p4, x4]
              have hsl : Sfx (rx4) l := numberP_sfx hfin
              rw [hfin]
              clear z f1 e2 E2 p4 x4 hfin
              generalize rx4 = rl at *
              refine WS.draw tab mixed (.take 0 (.take 1 (.take 2 (.take 3 (.take 4 (.take 5 (.take 6 (.take 7 (.take 8 (.take 9 (.take 10 (.alt 11 .done .no)))))))))))) (by kernel_rfl) [1] ?_
              (conv => whnf)
              refine ⟨pos_ord hsl hrx4, ?_⟩
              (conv => whnf)
              repeat' (first | exact trivial | exact rfl | exact ⟨rfl, hrx4, ⟨_, rfl, rfl⟩, rfl⟩ | (rw [cut_eq hl hsl]; exact ⟨rfl, hrx4, ⟨_, rfl, rfl⟩, rfl⟩) | (refine And.intro ?_ ?_ <;> (conv => whnf)))
          · skip
            refine ⟨⟨_, Try.func49, rfl, by kernel_rfl⟩, CallS.use (digits_ s (optP 43 (optP 69 (optP 101 (optP 46 (optP 48 (optP 45 l)))))) hzfEp hs d o _) [0] rfl rfl ⟨rfl, trivial⟩ ?_⟩
            rintro e H' G' hle ⟨rfl, hout⟩
            cases x4 : digitsP (optP 43 (optP 69 (optP 101 (optP 46 (optP 48 (optP 45 l)))))) with
            | no er r =>
              rw [x4] at hout
              obtain ⟨rfl, l2, o2, rfl⟩ := hout
              (conv => whnf)
              refine ⟨rfl, ?_⟩
              simp only [numberP, num1, num2, num3, num4, Res.bind, if_true, if_false, Bool.false_eq_true, z, f1, e2, E2, p4, x4]
              exact ⟨rfl, l2, o2, rfl⟩
            | ok x rx4 =>
              rw [x4] at hout
              obtain ⟨hrx4, ⟨sv, rfl, rfl⟩, rfl⟩ := hout
              (conv => whnf)
              have hfin : numberP l = .ok ⟨(l.take (l.length - (rx4).length)).toArray⟩ (rx4) := by
                simp only [numberP, num1, num2, num3, num4, Res.bind, if_true, if_false, Bool.false_eq_true, z, f1, e2, E2, p4, x4]
              have hsl : Sfx (rx4) l := numberP_sfx hfin
              rw [hfin]
              clear z f1 e2 E2 p4 x4 hfin
              generalize rx4 = rl at *
              refine WS.draw tab mixed (.take 0 (.take 1 (.take 2 (.take 3 (.take 4 (.take 5 (.take 6 (.take 7 (.take 8 (.take 9 (.take 10 (.alt 11 .done .no)))))))))))) (by kernel_rfl) [1] ?_
              (conv => whnf)
              refine ⟨pos_ord hsl hrx4, ?_⟩
              (conv => whnf)
              repeat' (first | exact trivial | exact rfl | exact ⟨rfl, hrx4, ⟨_, rfl, rfl⟩, rfl⟩ | (rw [cut_eq hl hsl]; exact ⟨rfl, hrx4, ⟨_, rfl, rfl⟩, rfl⟩) | (refine And.intro ?_ ?_ <;> (conv => whnf)))
      · skip
        refine ⟨⟨_, Try.func42, rfl, by kernel_rfl⟩, CallS.use (nextB 43 (by decide) s (optP 101 (optP 46 (optP 48 (optP 45 l)))) hzfe hs d o _) [0] rfl rfl ⟨rfl, trivial⟩ ?_⟩
        rintro e H' G' hle ⟨rfl, rfl, rfl⟩
        have hzfep := optP_sfx (c := 43) hzfe
        (conv => whnf)
        cases p3 : tkB 43 (optP 101 (optP 46 (optP 48 (optP 45 l)))) <;> (conv => whnf)
        · skip
          refine ⟨⟨_, Try.func42, rfl, by kernel_rfl⟩, CallS.use (nextB 45 (by decide) s (optP 43 (optP 101 (optP 46 (optP 48 (optP 45 l))))) hzfep hs d o _) [0] rfl rfl ⟨rfl, trivial⟩ ?_⟩
          rintro e H' G' hle ⟨rfl, rfl, rfl⟩
          have hzfem := optP_sfx (c := 45) hzfep
          (conv => whnf)
          refine ⟨⟨_, Try.func49, rfl, by kernel_rfl⟩, CallS.use (digits_ s (optP 45 (optP 43 (optP 101 (optP 46 (optP 48 (optP 45 l)))))) hzfem hs d o _) [0] rfl rfl ⟨rfl, trivial⟩ ?_⟩
          rintro e H' G' hle ⟨rfl, hout⟩
          cases x3 : digitsP (optP 45 (optP 43 (optP 101 (optP 46 (optP 48 (optP 45 l)))))) with
          | no er r =>
            rw [x3] at hout
            obtain ⟨rfl, l2, o2, rfl⟩ := hout
            (conv => whnf)
            refine ⟨rfl, ?_⟩
            simp only [numberP, num1, num2, num3, num4, Res.bind, if_true, if_false, Bool.false_eq_true, z, f1, e2, p3, x3]
            exact ⟨rfl, l2, o2, rfl⟩
          | ok x rx3 =>
            rw [x3] at hout
            obtain ⟨hrx3, ⟨sv, rfl, rfl⟩, rfl⟩ := hout
            (conv => whnf)
            have hfin : numberP l = .ok ⟨(l.take (l.length - (rx3).length)).toArray⟩ (rx3) := by
              simp only [numberP, num1, num2, num3, num4, Res.bind, if_true, if_false, Bool.false_eq_true, z, f1, e2, p3, x3]
            have hsl : Sfx (rx3) l := numberP_sfx hfin
            rw [hfin]
            clear z f1 e2 p3 x3 hfin
            generalize rx3 = rl at *
            refine WS.draw tab mixed (.take 0 (.take 1 (.take 2 (.take 3 (.take 4 (.take 5 (.take 6 (.take 7 (.take 8 (.take 9 (.take 10 (.alt 11 .done .no)))))))))))) (by kernel_rfl) [1] ?_
            (conv => whnf)
            refine ⟨pos_ord hsl hrx3, ?_⟩
            (conv => whnf)
            repeat' (first | exact trivial | exact rfl | exact ⟨rfl, hrx3, ⟨_, rfl, rfl⟩, rfl⟩ | (rw [cut_eq hl hsl]; exact ⟨rfl, hrx3, ⟨_, rfl, rfl⟩, rfl⟩) | (refine And.intro ?_ ?_ <;> (conv => whnf)))
        · skip
          refine ⟨⟨_, Try.func49, rfl, by kernel_rfl⟩, CallS.use (digits_ s (optP 43 (optP 101 (optP 46 (optP 48 (optP 45 l))))) hzfep hs d o _) [0] rfl rfl ⟨rfl, trivial⟩ ?_⟩
          rintro e H' G' hle ⟨rfl, hout⟩
          cases x3 : digitsP (optP 43 (optP 101 (optP 46 (optP 48 (optP 45 l))))) with
          | no er r =>
            rw [x3] at hout
            obtain ⟨rfl, l2, o2, rfl⟩ := hout
            (conv => whnf)
            refine ⟨rfl, ?_⟩
            simp only [numberP, num1, num2, num3, num4, Res.bind, if_true, if_false, Bool.false_eq_true, z, f1, e2, p3, x3]
            exact ⟨rfl, l2, o2, rfl⟩
          | ok x rx3 =>
            rw [x3] at hout
            obtain ⟨hrx3, ⟨sv, rfl, rfl⟩, rfl⟩ := hout
            (conv => whnf)
            have hfin : numberP l = .ok ⟨(l.take (l.length - (rx3).length)).toArray⟩ (rx3) := by
              simp only [numberP, num1, num2, num3, num4, Res.bind, if_true, if_false, Bool.false_eq_true, z, f1, e2, p3, x3]
            have hsl : Sfx (rx3) l := numberP_sfx hfin
            rw [hfin]
            clear z f1 e2 p3 x3 hfin
            generalize rx3 = rl at *
            refine WS.draw tab mixed (.take 0 (.take 1 (.take 2 (.take 3 (.take 4 (.take 5 (.take 6 (.take 7 (.take 8 (.take 9 (.take 10 (.alt 11 .done .no)))))))))))) (by kernel_rfl) [1] ?_
            (conv => whnf)
            refine ⟨pos_ord hsl hrx3, ?_⟩
            (conv => whnf)
            repeat' (first | exact trivial | exact rfl | exact ⟨rfl, hrx3, ⟨_, rfl, rfl⟩, rfl⟩ | (rw [cut_eq hl hsl]; exact ⟨rfl, hrx3, ⟨_, rfl, rfl⟩, rfl⟩) | (refine And.intro ?_ ?_ <;> (conv => whnf)))
    · skip
      refine ⟨⟨_, Try.func49, rfl, by kernel_rfl⟩, CallS.use (digits_ s (optP 46 (optP 48 (optP 45 l))) hzf hs d o _) [0] rfl rfl ⟨rfl, trivial⟩ ?_⟩
      rintro e H' G' hle ⟨rfl, hout⟩
      cases y1 : digitsP (optP 46 (optP 48 (optP 45 l))) with
      | no er r =>
        rw [y1] at hout
        obtain ⟨rfl, l2, o2, rfl⟩ := hout
        (conv => whnf)
        refine ⟨rfl, ?_⟩
        simp only [numberP, num1, num2, num3, num4, Res.bind, if_true, if_false, Bool.false_eq_true, z, f1, y1]
        exact ⟨rfl, l2, o2, rfl⟩
      | ok x ry1 =>
        rw [y1] at hout
        obtain ⟨hry1, ⟨sv, rfl, rfl⟩, rfl⟩ := hout
        (conv => whnf)
        refine ⟨⟨_, Try.func42, rfl, by kernel_rfl⟩, CallS.use (nextB 101 (by decide) s (ry1) hry1 hs d o _) [0] rfl rfl ⟨rfl, trivial⟩ ?_⟩
        rintro e H' G' hle ⟨rfl, rfl, rfl⟩
        have hry1e := optP_sfx (c := 101) hry1
        (conv => whnf)
        cases e3 : tkB 101 (ry1) <;> (conv => whnf)
        · skip
          refine ⟨⟨_, Try.func42, rfl, by kernel_rfl⟩, CallS.use (nextB 69 (by decide) s (optP 101 (ry1)) hry1e hs d o _) [0] rfl rfl ⟨rfl, trivial⟩ ?_⟩
          rintro e H' G' hle ⟨rfl, rfl, rfl⟩
          have hry1E := optP_sfx (c := 69) hry1e
          (conv => whnf)
          cases E3 : tkB 69 (optP 101 (ry1)) <;> (conv => whnf)
          · skip
            have hfin : numberP l = .ok ⟨(l.take (l.length - (optP 69 (optP 101 (ry1))).length)).toArray⟩ (optP 69 (optP 101 (ry1))) := by
              simp only [numberP, num1, num2, num3, num4, Res.bind, if_true, if_false, Bool.false_eq_true, z, f1, y1, e3, E3]
            have hsl : Sfx (optP 69 (optP 101 (ry1))) l := numberP_sfx hfin
            rw [hfin]
            clear z f1 y1 e3 E3 hfin
            generalize optP 69 (optP 101 (ry1)) = rl at *
            refine WS.draw tab mixed (.take 0 (.take 1 (.take 2 (.take 3 (.take 4 (.take 5 (.take 6 (.take 7 (.take 8 (.take 9 (.take 10 (.alt 11 .done .no)))))))))))) (by kernel_rfl) [1] ?_
            (conv => whnf)
            refine ⟨pos_ord hsl hry1E, ?_⟩
            (conv => whnf)
            repeat' (first | exact trivial | exact rfl | exact ⟨rfl, hry1E, ⟨_, rfl, rfl⟩, rfl⟩ | (rw [cut_eq hl hsl]; exact ⟨rfl, hry1E, ⟨_, rfl, rfl⟩, rfl⟩) | (refine And.intro ?_ ?_ <;> (conv => whnf)))
          · skip
            refine ⟨⟨_, Try.func42, rfl, by kernel_rfl⟩, CallS.use (nextB 43 (by decide) s (optP 69 (optP 101 (ry1))) hry1E hs d o _) [0] rfl rfl ⟨rfl, trivial⟩ ?_⟩
            rintro e H' G' hle ⟨rfl, rfl, rfl⟩
            have hry1Ep := optP_sfx (c := 43) hry1E
            (conv => whnf)
            cases p5 : tkB 43 (optP 69 (optP 101 (ry1))) <;> (conv => whnf)
            · skip
              refine ⟨⟨_, Try.func42, rfl, by kernel_rfl⟩, CallS.use (nextB 45 (by decide) s (optP 43 (optP 69 (optP 101 (ry1)))) hry1Ep hs d o _) [0] rfl rfl ⟨rfl, trivial⟩ ?_⟩
              rintro e H' G' hle ⟨rfl, rfl, rfl⟩
              have hry1Em := optP_sfx (c := 45) hry1Ep
              (conv => whnf)
              refine ⟨⟨_, Try.func49, rfl, by kernel_rfl⟩, CallS.use (digits_ s (optP 45 (optP 43 (optP 69 (optP 101 (ry1))))) hry1Em hs d o _) [0] rfl rfl ⟨rfl, trivial⟩ ?_⟩
              rintro e H' G' hle ⟨rfl, hout⟩
              cases x5 : digitsP (optP 45 (optP 43 (optP 69 (optP 101 (ry1))))) with
              | no er r =>
                rw [x5] at hout
                obtain ⟨rfl, l2, o2, rfl⟩ := hout
                (conv => whnf)
                refine ⟨rfl, ?_⟩
                simp only [numberP, num1, num2, num3, num4, Res.bind, if_true, if_false, Bool.false_eq_true, z, f1, y1, e3, E3, p5, x5]
                exact ⟨rfl, l2, o2, rfl⟩
              | ok x rx5 =>
                rw [x5] at hout
                obtain ⟨hrx5, ⟨sv, rfl, rfl⟩, rfl⟩ := hout
                (conv => whnf)
                have hfin : numberP l = .ok ⟨(l.take (l.length - (rx5).length)).toArray⟩ (rx5) := by
                  simp only [numberP, num1, num2, num3, num4, Res.bind, if_true, if_false, Bool.false_eq_true, z, f1, y1, e3, E3, p5, x5]
                have hsl : Sfx (rx5) l := numberP_sfx hfin
                rw [hfin]
                clear z f1 y1 e3 E3 p5 x5 hfin
                generalize rx5 = rl at *
                refine WS.draw tab mixed (.take 0 (.take 1 (.take 2 (.take 3 (.take 4 (.take 5 (.take 6 (.take 7 (.take 8 (.take 9 (.take 10 (.alt 11 .done .no)))))))))))) (by kernel_rfl) [1] ?_
                (conv => whnf)
                refine ⟨pos_ord hsl hrx5, ?_⟩
                (conv => whnf)
                repeat' (first | exact trivial | exact rfl | exact ⟨rfl, hrx5, ⟨_, rfl, rfl⟩, rfl⟩ | (rw [cut_eq hl hsl]; exact ⟨rfl, hrx5, ⟨_, rfl, rfl⟩, rfl⟩) | (refine And.intro ?_ ?_ <;> (conv => whnf)))
            · skip
              refine ⟨⟨_, Try.func49, rfl, by kernel_rfl⟩, CallS.use (digits_ s (optP 43 (optP 69 (optP 101 (ry1)))) hry1Ep hs d o _) [0] rfl rfl ⟨rfl, trivial⟩ ?_⟩
              rintro e H' G' hle ⟨rfl, hout⟩
              cases x5 : digitsP (optP 43 (optP 69 (optP 101 (ry1)))) with
              | no er r =>
                rw [x5] at hout
                obtain ⟨rfl, l2, o2, rfl⟩ := hout
                (conv => whnf)
                refine ⟨rfl, ?_⟩
                simp only [numberP, num1, num2, num3, num4, Res.bind, if_true, if_false, Bool.false_eq_true, z, f1, y1, e3, E3, p5, x5]
                exact ⟨rfl, l2, o2, rfl⟩
              | ok x rx5 =>
                rw [x5] at hout
                obtain ⟨hrx5, ⟨sv, rfl, rfl⟩, rfl⟩ := hout
                (conv => whnf)
                have hfin : numberP l = .ok ⟨(l.take (l.length - (rx5).length)).toArray⟩ (rx5) := by
                  simp only [numberP, num1, num2, num3, num4, Res.bind, if_true, if_false, Bool.false_eq_true, z, f1, y1, e3, E3, p5, x5]
                have hsl : Sfx (rx5) l := numberP_sfx hfin
                rw [hfin]
                clear z f1 y1 e3 E3 p5 x5 hfin
                generalize rx5 = rl at *
                refine WS.draw tab mixed (.take 0 (.take 1 (.take 2 (.take 3 (.take 4 (.take 5 (.take 6 (.take 7 (.take 8 (.take 9 (.take 10 (.alt 11 .done .no)))))))))))) (by kernel_rfl) [1] ?_
                (conv => whnf)
                refine ⟨pos_ord hsl hrx5, ?_⟩
                (conv => whnf)
                repeat' (first | exact trivial | exact rfl | exact ⟨rfl, hrx5, ⟨_, rfl, rfl⟩, rfl⟩ | (rw [cut_eq hl hsl]; exact ⟨rfl, hrx5, ⟨_, rfl, rfl⟩, rfl⟩) | (refine And.intro ?_ ?_ <;> (conv => whnf)))
        · skip
          refine ⟨⟨_, Try.func42, rfl, by kernel_rfl⟩, CallS.use (nextB 43 (by decide) s (optP 101 (ry1)) hry1e hs d o _) [0] rfl rfl ⟨rfl, trivial⟩ ?_⟩
          rintro e H' G' hle ⟨rfl, rfl, rfl⟩
          have hry1ep := optP_sfx (c := 43) hry1e
          (conv => whnf)
          cases p4 : tkB 43 (optP 101 (ry1)) <;> (conv => whnf)
          · skip
            refine ⟨⟨_, Try.func42, rfl, by kernel_rfl⟩, CallS.use (nextB 45 (by decide) s (optP 43 (optP 101 (ry1))) hry1ep hs d o _) [0] rfl rfl ⟨rfl, trivial⟩ ?_⟩
            rintro e H' G' hle ⟨rfl, rfl, rfl⟩
            have hry1em := optP_sfx (c := 45) hry1ep
            (conv => whnf)
            refine ⟨⟨_, Try.func49, rfl, by kernel_rfl⟩, CallS.use (digits_ s (optP 45 (optP 43 (optP 101 (ry1)))) hry1em hs d o _) [0] rfl rfl ⟨rfl, trivial⟩ ?_⟩
            rintro e H' G' hle ⟨rfl, hout⟩
            cases x4 : digitsP (optP 45 (optP 43 (optP 101 (ry1)))) with
            | no er r =>
              rw [x4] at hout
              obtain ⟨rfl, l2, o2, rfl⟩ := hout
              (conv => whnf)
              refine ⟨rfl, ?_⟩
              simp only [numberP, num1, num2, num3, num4, Res.bind, if_true, if_false, Bool.false_eq_true, z, f1, y1, e3, p4, x4]
              exact ⟨rfl, l2, o2, rfl⟩
            | ok x rx4 =>
              rw [x4] at hout
              obtain ⟨hrx4, ⟨sv, rfl, rfl⟩, rfl⟩ := hout
              (conv => whnf)
              have hfin : numberP l = .ok ⟨(l.take (l.length - (rx4).length)).toArray⟩ (rx4) := by
                simp only [numberP, num1, num2, num3, num4, Res.bind, if_true, if_false, Bool.false_eq_true, z, f1, y1, e3, p4, x4]
              have hsl : Sfx (rx4) l := numberP_sfx hfin
              rw [hfin]
              clear z f1 y1 e3 p4 x4 hfin
              generalize rx4 = rl at *
              refine WS.draw tab mixed (.take 0 (.take 1 (.take 2 (.take 3 (.take 4 (.take 5 (.take 6 (.take 7 (.take 8 (.take 9 (.take 10 (.alt 11 .done .no)))))))))))) (by kernel_rfl) [1] ?_
              (conv => whnf)
              refine ⟨pos_ord hsl hrx4, ?_⟩
              (conv => whnf)
              repeat' (first | exact trivial | exact rfl | exact ⟨rfl, hrx4, ⟨_, rfl, rfl⟩, rfl⟩ | (rw [cut_eq hl hsl]; exact ⟨rfl, hrx4, ⟨_, rfl, rfl⟩, rfl⟩) | (refine And.intro ?_ ?_ <;> (conv => whnf)))
          · skip
            refine ⟨⟨_, Try.func49, rfl, by kernel_rfl⟩, CallS.use (digits_ s (optP 43 (optP 101 (ry1))) hry1ep hs d o _) [0] rfl rfl ⟨rfl, trivial⟩ ?_⟩
            rintro e H' G' hle ⟨rfl, hout⟩
            cases x4 : digitsP (optP 43 (optP 101 (ry1))) with
            | no er r =>
              rw [x4] at hout
              obtain ⟨rfl, l2, o2, rfl⟩ := hout
              (conv => whnf)
              refine ⟨rfl, ?_⟩
              simp only [numberP, num1, num2, num3, num4, Res.bind, if_true, if_false, Bool.false_eq_true, z, f1, y1, e3, p4, x4]
              exact ⟨rfl, l2, o2, rfl⟩
            | ok x rx4 =>
              rw [x4] at hout
              obtain ⟨hrx4, ⟨sv, rfl, rfl⟩, rfl⟩ := hout
              (conv => whnf)
              have hfin : numberP l = .ok ⟨(l.take (l.length - (rx4).length)).toArray⟩ (rx4) := by
                simp only [numberP, num1, num2, num3, num4, Res.bind, if_true, if_false, Bool.false_eq_true, z, f1, y1, e3, p4, x4]
              have hsl : Sfx (rx4) l := numberP_sfx hfin
              rw [hfin]
              clear z f1 y1 e3 p4 x4 hfin
              generalize rx4 = rl at *
              refine WS.draw tab mixed (.take 0 (.take 1 (.take 2 (.take 3 (.take 4 (.take 5 (.take 6 (.take 7 (.take 8 (.take 9 (.take 10 (.alt 11 .done .no)))))))))))) (by kernel_rfl) [1] ?_
              (conv => whnf)
              refine ⟨pos_ord hsl hrx4, ?_⟩
              (conv => whnf)
              repeat' (first | exact trivial | exact rfl | exact ⟨rfl, hrx4, ⟨_, rfl, rfl⟩, rfl⟩ | (rw [cut_eq hl hsl]; exact ⟨rfl, hrx4, ⟨_, rfl, rfl⟩, rfl⟩) | (refine And.intro ?_ ?_ <;> (conv => whnf)))
end Go.Kx.Js
