/- PushOne, walked. No condition of its own. -/
import Derived.Test.YtocmciilifenhaaPushJ
namespace Go.Kx.Push
open Go.Proofs Go.Kx
set_option maxRecDepth 20000

theorem one_ (A : Option Addr) (len cap : Nat) (os : List Opr) (st : Int) (first second : ByteArray) (H : Hp) (ho : OOk H A len os) : CallO Try.prog 10 [pv (.slice A len cap), pv (.int .i64 st), pv (.string first), pv (.string second)] H [] fun e _ G' => e = .ret (pv (.bool true)) ∧ G' = [] := by
  refine CallO.of_body tab Try.func10 rfl (nt := Try.f10.ntmps) rfl (by kernel_rfl) ?_
  conv => whnf
  refine ⟨bod23, CallS.use (anchor H) [] rfl rfl trivial ?_⟩
  rintro e H' G' hle ⟨rfl, rfl⟩
  conv => whnf
  refine br.of (fun h1 => ?_) (fun h1 => ?_) <;> conv => whnf
  · exact ⟨rfl, rfl⟩
  simp only [decide_eq_false_iff_not] at h1
  refine br.of (fun h2 => ?_) (fun h2 => ?_) <;> conv => whnf
  · exact ⟨rfl, rfl⟩
  rw [strEq_false] at h2
  refine ⟨bod24, CallS.use (new_ 1 9 H') [] rfl rfl trivial ?_⟩
  rintro e H2 G' hle2 ⟨h3, _, rfl⟩
  obtain ⟨rfl, rfl⟩ := h3 rfl
  conv => whnf
  have hs := start' 1 9 0 (fun _ => none) st first H2
  have hp : pStart (fun _ => none) st first = (updL (fun _ => none) st (first, 0, 0), 0) := by simp [pStart, h2, lineOf]
  rw [hp] at hs
  refine ⟨bod29, CallS.use hs [0, 1] rfl rfl ⟨rfl, rfl, trivial⟩ ?_⟩
  rintro e H3 G' hle3 ⟨rfl, rfl, cnt, rfl⟩
  conv => whnf
  refine WS.loop (fun m F H4 G => ∃ (i : Nat) (pl : Lines) (cnt : Nat) (f d : Int), i ≤ len ∧ m = len - i ∧ lineOf pl st = (first, f, d) ∧ Few pl i ∧
      F = [(1, pv (.int .i64 st)), (2, pv (.string first)), (3, pv (.string second)), (9, .si (.ce (.ptr 0 0))), (41, pv (.slice A len cap)), (42, pv (.int .i64 len)), (43, pv (.int .i64 i))] ∧ H.Le H4 ∧
      G = [.box 86 [.val (.int .i64 1), .val (.int .i64 9), .self 1], .map (.int .i64) cnt (lf pl)]) (len + 1)
    ⟨len, by omega, _, _, [0, 1], ⟨0, _, cnt, 0, 0, by omega, rfl, lineOf_upd (fun _ => none) st _, ?_, rfl, hle, rfl⟩, rfl, ⟨rfl, rfl, trivial⟩, rfl, rfl, rfl, rfl, rfl, rfl, rfl, trivial⟩ ?_
  · intro n
    by_cases hn : n = st
    · subst hn; rw [lineOf_upd]; exact ⟨Int.le_refl _, Int.le_refl _⟩
    · rw [lineOf_upd_ne _ _ hn]; exact ⟨Int.le_refl _, Int.le_refl _⟩
  rintro m F H4 G hle4 ⟨i, pl, cnt, f, d, h4, rfl, hln, hfew, rfl, hle5, rfl⟩
  refine codeL.go tab ?_
  conv => whnf
  refine br.of (fun h5 => ?_) (fun h5 => ?_) <;> conv => whnf
  · simp only [decide_eq_true_eq] at h5
    have hi : i < os.length := by have := ho.1; omega
    have hx : os[i]? = some os[i] := List.getElem?_eq_getElem hi
    have ho4 := ho.mono hle5
    generalize os[i] = o at hx
    refine ⟨⟨by omega, h5⟩, ho4.addr hx, ?_⟩
    conv => whnf
    refine ⟨o.cells, rfl, ho4.rd hx (by simp), ?_⟩
    conv => whnf
    have hw : IntKind.i64.wrap ((i : Int) + 1) = ((i + 1 : Nat) : Int) := by have := ho.1; rw [wrap64 (by omega) (by omega)]; omega
    refine br.of (fun h6 => ?_) (fun h6 => ?_) <;> conv => whnf
    · have h6 : o.n ≠ st := by simpa using h6
      have hfo := hfew o.n
      have hs := step 1 9 cnt pl none 0 0 [] o rfl H4 ⟨rfl, .inl rfl⟩ (by omega) hfo.1 (by omega) (Int.le_refl _) (by show (0 : Int) ≤ 1000000; decide)
      refine ⟨bod25, CallS.use hs [0, 1] rfl rfl ⟨rfl, rfl, trivial⟩ ?_⟩
      rintro e H5 G' hle6 ⟨B', ml', mc', cnt', rfl, _, rfl⟩
      conv => whnf
      rw [hw]
      refine ⟨len - (i + 1), by omega, _, _, [0, 1], ⟨i + 1, (pStep 1 9 pl o).1, cnt', f, d, by omega, rfl, ?_, pStep_few (by omega) hfew o, rfl, hle5.trans hle6, rfl⟩, rfl, ⟨rfl, rfl, trivial⟩, rfl, rfl, rfl, rfl, rfl, rfl, rfl, trivial⟩
      rw [pStep_ne 1 9 pl o (Ne.symm h6)]; exact hln
    · rw [hw]
      exact ⟨len - (i + 1), by omega, _, _, [0, 1], ⟨i + 1, pl, cnt, f, d, by omega, rfl, hln, hfew.mono, rfl, hle5, rfl⟩, rfl, ⟨rfl, rfl, trivial⟩, rfl, rfl, rfl, rfl, rfl, rfl, rfl, trivial⟩
  · have hf0 : 0 ≤ f := by have := hfew st; rw [hln] at this; exact this.1
    have hf1 : f ≤ 1000000 := by have h6 := hfew st; rw [hln] at h6; have h7 : f ≤ (i : Int) := h6.2; omega
    have hp3 : pEnd 1 9 pl st true 0 0 = (delL pl st, 0) := by simp [pEnd, hln, h2]
    have hp4 : pEnd 1 9 (delL pl st) st true 0 0 = (delL pl st, 16) := by simp [pEnd, lineOf_del]
    have hs2 := start' 1 9 cnt pl st second H4
    refine br.of (fun h6 => ?_) (fun h6 => ?_) <;> conv => whnf
    · rw [strEq_iff] at h6
      have hp2 : pStart pl st second = (pl, 10) := by simp [pStart, h6]
      rw [hp2] at hs2
      refine ⟨bod29, CallS.use hs2 [0, 1] rfl rfl ⟨rfl, rfl, trivial⟩ ?_⟩
      rintro e H5 G' hle6 ⟨rfl, rfl, cnt2, rfl⟩
      conv => whnf
      have hwy := way 1 9 cnt2 pl st H5
      rw [hln] at hwy
      refine ⟨bod28, CallS.use hwy [0, 1] rfl rfl ⟨rfl, rfl, trivial⟩ ?_⟩
      rintro e H6 G' hle7 ⟨rfl, rfl, rfl⟩
      conv => whnf
      rw [show strEq ((first, f, d) : ByteArray × Int × Int).1 first = true from strEq_iff.2 rfl]
      conv => whnf
      have hend := end' 1 9 cnt2 pl st true 0 0 rfl (by rw [hln]; exact hf0) (by rw [hln]; exact hf1) H6
      rw [hp3] at hend
      refine ⟨bod30, CallS.use hend [0, 1] rfl rfl ⟨rfl, rfl, trivial⟩ ?_⟩
      rintro e H7 G' hle8 ⟨rfl, rfl, cnt3, rfl⟩
      conv => whnf
      have hwy2 := way 1 9 cnt3 (delL pl st) st H7
      rw [lineOf_del] at hwy2
      refine ⟨bod28, CallS.use hwy2 [0, 1] rfl rfl ⟨rfl, rfl, trivial⟩ ?_⟩
      rintro e H8 G' hle9 ⟨rfl, rfl, rfl⟩
      conv => whnf
      have hend2 := end' 1 9 cnt3 (delL pl st) st true 0 0 rfl (by rw [lineOf_del]; exact Int.le_refl _) (by rw [lineOf_del]; show (0 : Int) ≤ 1000000; decide) H8
      rw [hp4] at hend2
      refine ⟨bod30, CallS.use hend2 [0, 1] rfl rfl ⟨rfl, rfl, trivial⟩ ?_⟩
      rintro e H9 G' hle10 ⟨rfl, rfl, cnt4, rfl⟩
      conv => whnf
      exact ⟨rfl, rfl⟩
    · rw [strEq_false] at h6
      have hp2 : pStart pl st second = (pl, 16) := by simp [pStart, h6, hln, h2]
      rw [hp2] at hs2
      refine ⟨bod29, CallS.use hs2 [0, 1] rfl rfl ⟨rfl, rfl, trivial⟩ ?_⟩
      rintro e H5 G' hle6 ⟨rfl, rfl, cnt2, rfl⟩
      conv => whnf
      have hwy := way 1 9 cnt2 pl st H5
      rw [hln] at hwy
      refine ⟨bod28, CallS.use hwy [0, 1] rfl rfl ⟨rfl, rfl, trivial⟩ ?_⟩
      rintro e H6 G' hle7 ⟨rfl, rfl, rfl⟩
      conv => whnf
      rw [show strEq ((first, f, d) : ByteArray × Int × Int).1 first = true from strEq_iff.2 rfl]
      conv => whnf
      have hend := end' 1 9 cnt2 pl st true 0 0 rfl (by rw [hln]; exact hf0) (by rw [hln]; exact hf1) H6
      rw [hp3] at hend
      refine ⟨bod30, CallS.use hend [0, 1] rfl rfl ⟨rfl, rfl, trivial⟩ ?_⟩
      rintro e H7 G' hle8 ⟨rfl, rfl, cnt3, rfl⟩
      conv => whnf
      have hwy2 := way 1 9 cnt3 (delL pl st) st H7
      rw [lineOf_del] at hwy2
      refine ⟨bod28, CallS.use hwy2 [0, 1] rfl rfl ⟨rfl, rfl, trivial⟩ ?_⟩
      rintro e H8 G' hle9 ⟨rfl, rfl, rfl⟩
      conv => whnf
      have hend2 := end' 1 9 cnt3 (delL pl st) st true 0 0 rfl (by rw [lineOf_del]; exact Int.le_refl _) (by rw [lineOf_del]; show (0 : Int) ≤ 1000000; decide) H8
      rw [hp4] at hend2
      refine ⟨bod30, CallS.use hend2 [0, 1] rfl rfl ⟨rfl, rfl, trivial⟩ ?_⟩
      rintro e H9 G' hle10 ⟨rfl, rfl, cnt4, rfl⟩
      conv => whnf
      exact ⟨rfl, rfl⟩
end Go.Kx.Push
