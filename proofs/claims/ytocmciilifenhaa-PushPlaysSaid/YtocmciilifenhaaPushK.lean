/- PushPlays, walked. No condition of its own. -/
import Derived.Test.YtocmciilifenhaaPushJ
namespace Go.Kx.Push
open Go.Proofs Go.Kx
set_option maxRecDepth 20000

theorem rd4 {H : Hp} {A : Option Addr} {n : Int} (h : RdN H A 0 [.int .i64 n, .int .i64 1, .int .i64 2, .int .i64 0]) {i : Nat} (hi : i < 4) : ∃ x : Int, ∀ off, off = i → RdC H A off (.int .i64 x) := by
  obtain ⟨b, o, h1, h2⟩ := h
  have : i = 0 ∨ i = 1 ∨ i = 2 ∨ i = 3 := by omega
  rcases this with rfl | rfl | rfl | rfl
  · exact ⟨n, fun off ho => ⟨b, o, h1, by subst ho; exact h2 0 _ rfl⟩⟩
  · exact ⟨1, fun off ho => ⟨b, o, h1, by subst ho; exact h2 1 _ rfl⟩⟩
  · exact ⟨2, fun off ho => ⟨b, o, h1, by subst ho; exact h2 2 _ rfl⟩⟩
  · exact ⟨0, fun off ho => ⟨b, o, h1, by subst ho; exact h2 3 _ rfl⟩⟩
theorem plays (b c : Int) (A : Option Addr) (len cap : Nat) (os : List Opr) (H : Hp) (ho : OOk H A len os) : CallO Try.prog 9 [planV b c, pv (.slice A len cap)] H [] fun e _ G' => e = .ret (pv (.bool true)) ∧ G' = [] := by
  refine CallO.of_body tab Try.func9 rfl (nt := Try.f9.ntmps) rfl (by kernel_rfl) ?_
  conv => whnf
  refine ⟨bod23, CallS.use (anchor H) [] rfl rfl trivial ?_⟩
  rintro e H' G' hle ⟨rfl, rfl⟩
  conv => whnf
  refine br.of (fun h1 => ?_) (fun h1 => ?_) <;> conv => whnf
  · exact ⟨rfl, rfl⟩
  simp only [decide_eq_false_iff_not] at h1
  refine ⟨bod24, CallS.use (new_ b c H') [] rfl rfl trivial ?_⟩
  rintro e H2 G' hle2 ⟨h2, h3, rfl⟩
  cases hr : rightB b c with
  | false =>
    obtain ⟨rfl, rfl⟩ := h3 hr
    conv => whnf
    refine ⟨bod19, CallS.use (right b c H2) [] rfl rfl trivial ?_⟩
    rintro e H3 G' hle3 ⟨rfl, rfl, rfl⟩
    rw [hr]
    conv => whnf
    exact ⟨rfl, rfl⟩
  | true =>
    obtain ⟨rfl, rfl⟩ := h2 hr
    conv => whnf
    refine ⟨bod19, CallS.use (right b c H2) [] rfl rfl trivial ?_⟩
    rintro e H3 G' hle3 ⟨rfl, rfl, rfl⟩
    rw [hr]
    conv => whnf
    refine WS.loop (fun m F H4 G => ∃ (i : Nat) (pl : Lines) (ls : List Ln) (cnt : Nat) (B : Option Addr) (ml mc : Nat), i ≤ len ∧ m = len - i ∧ Rel pl ls ∧ Few pl i ∧ ls.length ≤ i ∧ MOk H4 B ml ls ∧
        F = [(5, .si (.ce (.ptr 0 0))), (7, .si (.ce (.ptr 2 0))), (47, pv (.slice A len cap)), (48, pv (.int .i64 len)), (49, pv (.int .i64 i))] ∧ H.Le H4 ∧
        G = [.box 86 [.val (.int .i64 b), .val (.int .i64 c), .self 1], .map (.int .i64) cnt (lf pl), .box 55 [.val (.int .i64 b), .val (.int .i64 c), .val (.slice B ml mc)]]) (len + 1)
      ⟨len, by omega, _, _, [1, 2, 3], ⟨0, (fun _ => none), [], 0, none, 0, 0, by omega, rfl, Rel.nil, fun _ => ⟨Int.le_refl _, Int.le_refl _⟩, by simp, ⟨rfl, .inl rfl⟩, rfl, hle, rfl⟩, rfl, ⟨rfl, rfl, rfl, trivial⟩, rfl, rfl, rfl, rfl, rfl, trivial⟩ ?_
    rintro m F H4 G hle4 ⟨i, pl, ls, cnt, B, ml, mc, h4, rfl, hrel, hfew, hlen, hm, rfl, hle5, rfl⟩
    refine codeL.go tab ?_
    conv => whnf
    refine br.of (fun h5 => ?_) (fun h5 => ?_) <;> conv => whnf
    · simp only [decide_eq_true_eq] at h5
      have hi : i < os.length := by have := ho.1; omega
      have hx : os[i]? = some os[i] := List.getElem?_eq_getElem hi
      have ho4 := ho.mono hle5
      generalize os[i] = o at hx
      refine ⟨⟨by omega, h5⟩, ho4.addr hx, ?_⟩
      conv => whnf
      refine ⟨o.cells, rfl, ho4.rd hx (by simp), ?_⟩
      conv => whnf
      have hfo := hfew o.n
      have hgo := hrel o.n
      have hl6 : ml ≤ 1000000 := by have := hm.1; have := ho.1; omega
      have hs := step b c cnt pl B ml mc ls o hr H4 hm hl6 hfo.1 (by omega) (by rw [← hgo]; exact hfo.1) (by rw [← hgo]; omega)
      obtain ⟨hl1, hl2, hl3⟩ := step_law (b := b) (c := c) hrel (by omega) hfew o
      refine ⟨bod25, CallS.use hs [0, 1] rfl rfl ⟨rfl, rfl, trivial⟩ ?_⟩
      rintro e H5 G' hle6 ⟨B', ml', mc', cnt', rfl, hm', rfl⟩
      rw [hl1, show ((lStep b c ls o).2 == (lStep b c ls o).2) = true from beq_self_eq_true _]
      conv => whnf
      refine ⟨by decide, ?_⟩
      intro g H6 hle7 hrd
      conv => whnf
      generalize hpl' : (pStep b c pl o).1 = pl' at *
      generalize hls' : (lStep b c ls o).1 = ls' at *
      have hm6 := hm'.mono hle7
      have hml' : ml' ≤ 1000000 := by
        have h6 := lStep_len b c ls o
        rw [hls'] at h6
        have := hm'.1; have := ho.1; omega
      refine WS.loop (fun m F H7 G => ∃ (k : Nat), k ≤ 4 ∧ m = 4 - k ∧
          F = [(5, .si (.ce (.ptr 0 0))), (7, .si (.ce (.ptr 2 0))), (47, pv (.slice A len cap)), (48, pv (.int .i64 len)), (49, pv (.int .i64 i)), (65, pv (.slice (some ⟨g, 0, none⟩) 4 4)), (66, pv (.int .i64 4)), (67, pv (.int .i64 k))] ∧ H7 = H6 ∧
          G = [.box 86 [.val (.int .i64 b), .val (.int .i64 c), .self 1], .map (.int .i64) cnt' (lf pl'), .box 55 [.val (.int .i64 b), .val (.int .i64 c), .val (.slice B' ml' mc')]]) 5
        ⟨4, by omega, _, _, [0, 1, 2], ⟨0, by omega, rfl, rfl, rfl, rfl⟩, rfl, ⟨rfl, rfl, rfl, trivial⟩, rfl, rfl, rfl, rfl, rfl, rfl, rfl, rfl, trivial⟩ ?_
      rintro m F H7 G hle8 ⟨k, hk, rfl, rfl, rfl, rfl⟩
      refine codeL.go tab ?_
      conv => whnf
      refine br.of (fun h6 => ?_) (fun h6 => ?_) <;> conv => whnf
      · simp only [decide_eq_true_eq] at h6
        obtain ⟨nn, hnn⟩ := rd4 hrd (show k < 4 by omega)
        refine ⟨⟨by omega, by omega⟩, ⟨g, 0, rfl⟩, ?_⟩
        conv => whnf
        refine ⟨_, hnn _ (by simp), ?_⟩
        conv => whnf
        refine ⟨bod26, CallS.use (get b c B' ml' mc' ls' nn H7 hm6 hml') [] rfl rfl trivial ?_⟩
        rintro e H8 G' hle9 ⟨rfl, rfl, rfl⟩
        obtain ⟨ss, ff, dd, hg⟩ := lnV_get ls' nn
        have hrl := hl2 nn
        rw [hg] at hrl
        rw [hg]
        conv => whnf
        have hst := state b c cnt' pl' nn H8
        rw [hrl] at hst
        refine ⟨bod27, CallS.use hst [0, 1] rfl rfl ⟨rfl, rfl, trivial⟩ ?_⟩
        rintro e H9 G' hle10 ⟨rfl, rfl, rfl⟩
        conv => whnf
        refine WS.draw tab mixed (.take 0 (.take 1 (.take 3 (.take 4 (.alt 2 (.take 5 (.take 6 (.take 7 (.take 8 (.take 9 (.take 10 (.take 11 (.take 12 (.take 13 (.take 14 (.take 15 (.take 16 (.take 17 .done))))))))))))) .no))))) (by kernel_rfl) [] ?_
        conv => whnf
        have hwy := way b c cnt' pl' nn H9
        rw [hrl] at hwy
        refine ⟨⟨bod28, CallS.use hwy [0, 1] rfl rfl ⟨rfl, rfl, trivial⟩ ?_⟩, trivial⟩
        rintro e H10 G' hle11 ⟨rfl, rfl, rfl⟩
        conv => whnf
        refine ⟨⟨rfl, rfl, rfl, rfl, trivial⟩, ?_⟩
        conv => whnf
        rw [show strEq ((nn, ss, ff, dd) : Ln).2.1 ((nn, ss, ff, dd) : Ln).2.1 = true from strEq_iff.2 rfl]
        conv => whnf
        rw [show (((nn, ss, ff, dd) : Ln).2.2.1 != ((nn, ss, ff, dd) : Ln).2.2.1) = false from bne_self_eq_false _]
        conv => whnf
        rw [show (((nn, ss, ff, dd) : Ln).2.2.2 != ((nn, ss, ff, dd) : Ln).2.2.2) = false from bne_self_eq_false _]
        conv => whnf
        have hw : IntKind.i64.wrap ((k : Int) + 1) = ((k + 1 : Nat) : Int) := by rw [wrap64 (by omega) (by omega)]; omega
        rw [hw]
        exact ⟨4 - (k + 1), by omega, _, _, [0, 1, 2], ⟨k + 1, by omega, rfl, rfl, rfl, rfl⟩, rfl, ⟨rfl, rfl, rfl, trivial⟩, rfl, rfl, rfl, rfl, rfl, rfl, rfl, rfl, trivial⟩
      · simp only [decide_eq_false_iff_not] at h6
        have hw : IntKind.i64.wrap ((i : Int) + 1) = ((i + 1 : Nat) : Int) := by have := ho.1; rw [wrap64 (by omega) (by omega)]; omega
        rw [hw]
        have hl6' := lStep_len b c ls o
        rw [hls'] at hl6'
        exact ⟨len - (i + 1), by omega, _, _, [0, 1, 2], ⟨i + 1, pl', ls', cnt', B', ml', mc', by omega, rfl, hl2, hl3, by omega, hm6, rfl, hle5.trans (hle6.trans hle7), rfl⟩, rfl, ⟨rfl, rfl, rfl, trivial⟩, rfl, rfl, rfl, rfl, rfl, trivial⟩
    · exact ⟨rfl, rfl⟩
end Go.Kx.Push
