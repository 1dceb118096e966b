/- The document's example. No condition of its own. -/
import Derived.Test.YtocmciilifenhaaPushH
namespace Go.Kx.Push
open Go.Proofs Go.Kx
set_option maxRecDepth 20000

theorem lineOf_upd (pl : Lines) (n : Int) (x : ByteArray × Int × Int) : lineOf (updL pl n x) n = x := by simp [lineOf, updL]
theorem lineOf_upd_ne (pl : Lines) {n k : Int} (x : ByteArray × Int × Int) (h : k ≠ n) : lineOf (updL pl n x) k = lineOf pl k := by simp [lineOf, updL, h]
theorem lineOf_del (pl : Lines) (n : Int) : lineOf (delL pl n) n = (⟨#[]⟩, 0, 0) := by simp [lineOf, delL]
theorem lineOf_del_ne (pl : Lines) {n k : Int} (h : k ≠ n) : lineOf (delL pl n) k = lineOf pl k := by simp [lineOf, delL, h]

def nowAt : Nat → Int
  | 0 => 10
  | 1 => 20
  | _ => 40
theorem rdAt {H : Hp} {A : Option Addr} (h : RdN H A 0 [.int .i64 10, .int .i64 20, .int .i64 40]) {i : Nat} (hi : i < 3) {off : Nat} (ho : off = i) : RdC H A off (.int .i64 (nowAt i)) := by
  obtain ⟨b, o, h1, h2⟩ := h
  subst ho
  refine ⟨b, o, h1, ?_⟩
  have : off = 0 ∨ off = 1 ∨ off = 2 := by omega
  rcases this with rfl | rfl | rfl
  · exact h2 0 _ rfl
  · exact h2 1 _ rfl
  · exact h2 2 _ rfl
theorem anchor (H : Hp) : CallO Try.prog 23 [] H [] fun e _ G' => e = .ret (pv (.bool true)) ∧ G' = [] := by
  refine CallO.of_body tab Try.func23 rfl (nt := Try.f23.ntmps) rfl (by kernel_rfl) ?_
  conv => whnf
  refine ⟨bod24, CallS.use (new_ 2 30 H) [] rfl rfl trivial ?_⟩
  rintro e H' G' hle ⟨h1, _, rfl⟩
  obtain ⟨rfl, rfl⟩ := h1 rfl
  conv => whnf
  refine ⟨by decide, ?_⟩
  intro g H2 hle2 hrd
  conv => whnf
  refine WS.loop (fun m F H3 G => ∃ (i : Nat) (pl : Lines) (cnt : Nat) (d : Int), i ≤ 3 ∧ m = 3 - i ∧ lineOf pl 1 = (⟨#[]⟩, (i : Int), d) ∧ (i = 3 → d = 48) ∧ F = [(1, .si (.ce (.ptr 0 0))), (18, pv (.slice (some ⟨g, 0, none⟩) 3 3)), (19, pv (.int .i64 3)), (20, pv (.int .i64 i))] ∧ H3 = H2 ∧ G = pushG 2 30 cnt pl) 4
    ⟨3, by omega, _, _, [0, 1], ⟨0, (fun _ => none), 0, 0, by omega, rfl, rfl, by omega, rfl, rfl, rfl⟩, rfl, ⟨rfl, rfl, trivial⟩, rfl, rfl, rfl, rfl, trivial⟩ ?_
  rintro m F H3 G hle3 ⟨i, pl, cnt, d, h2, rfl, h3, h4, rfl, rfl, rfl⟩
  refine codeL.go tab ?_
  conv => whnf
  refine br.of (fun h5 => ?_) (fun h5 => ?_) <;> conv => whnf
  · simp only [decide_eq_true_eq] at h5
    have hi : i < 3 := by omega
    refine ⟨⟨by omega, by omega⟩, ⟨g, 0, rfl⟩, ?_⟩
    conv => whnf
    refine ⟨_, rdAt hrd hi (by simp), ?_⟩
    conv => whnf
    have hs := start' 2 30 cnt pl 1 ⟨#[101, 49, 46, 49]⟩ H3
    have hp : pStart pl 1 ⟨#[101, 49, 46, 49]⟩ = (updL pl 1 (⟨#[101, 49, 46, 49]⟩, (i : Int), d), 0) := by simp [pStart, h3]
    rw [hp] at hs
    refine ⟨bod29, CallS.use hs [0, 1] rfl rfl ⟨rfl, rfl, trivial⟩ ?_⟩
    rintro e H4 G' hle4 ⟨rfl, rfl, cnt2, rfl⟩
    conv => whnf
    have he := end' 2 30 cnt2 (updL pl 1 (⟨#[101, 49, 46, 49]⟩, (i : Int), d)) 1 false (nowAt i) 0 rfl (by rw [lineOf_upd]; show (0 : Int) ≤ i; omega) (by rw [lineOf_upd]; show (i : Int) ≤ 1000000; omega) H4
    have hok : okT (nowAt i) 0 := by
      have : i = 0 ∨ i = 1 ∨ i = 2 := by omega
      rcases this with rfl | rfl | rfl <;> decide
    have hp2 : pEnd 2 30 (updL pl 1 (⟨#[101, 49, 46, 49]⟩, (i : Int), d)) 1 false (nowAt i) 0 = (updL (updL pl 1 (⟨#[101, 49, 46, 49]⟩, (i : Int), d)) 1 (⟨#[]⟩, (i : Int) + 1, dueN 2 30 (nowAt i) ((i : Int) + 1) 0), 0) := by
      simp [pEnd, lineOf_upd, hok]
    rw [hp2] at he
    refine ⟨bod30, CallS.use he [0, 1] rfl rfl ⟨rfl, rfl, trivial⟩ ?_⟩
    rintro e H5 G' hle5 ⟨rfl, rfl, cnt3, rfl⟩
    conv => whnf
    have hw : IntKind.i64.wrap ((i : Int) + 1) = ((i + 1 : Nat) : Int) := by rw [wrap64 (by omega) (by omega)]; omega
    rw [hw]
    refine ⟨3 - (i + 1), by omega, _, _, [0, 1], ⟨i + 1, updL (updL pl 1 (⟨#[101, 49, 46, 49]⟩, (i : Int), d)) 1 (⟨#[]⟩, (i : Int) + 1, dueN 2 30 (nowAt i) ((i : Int) + 1) 0), cnt3, _, by omega, rfl, lineOf_upd _ _ _, fun h => ?_, rfl, rfl, rfl⟩, rfl, ⟨rfl, rfl, trivial⟩, rfl, rfl, rfl, rfl, trivial⟩
    obtain rfl : i = 2 := by omega
    decide
  · simp only [decide_eq_false_iff_not] at h5
    obtain rfl : i = 3 := by omega
    obtain rfl := h4 rfl
    have hst := state 2 30 cnt pl 1 H3
    rw [h3] at hst
    refine ⟨bod27, CallS.use hst [0, 1] rfl rfl ⟨rfl, rfl, trivial⟩ ?_⟩
    rintro e H4 G' hle4 ⟨rfl, rfl, rfl⟩
    conv => whnf
    have hwy := way 2 30 cnt pl 1 H4
    rw [h3] at hwy
    refine ⟨bod28, CallS.use hwy [0, 1] rfl rfl ⟨rfl, rfl, trivial⟩ ?_⟩
    rintro e H5 G' hle5 ⟨rfl, rfl, rfl⟩
    conv => whnf
    exact ⟨rfl, rfl⟩
end Go.Kx.Push
