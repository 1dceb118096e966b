/- The document's lines. No condition of its own. -/
import Derived.Test.YtocmciilifenhaaPushD
namespace Go.Kx.Push
open Go.Proofs Go.Kx
set_option maxRecDepth 20000

abbrev Ln := Int × ByteArray × Int × Int
def lnV (x : Ln) : List Value := [.int .i64 x.1, .string x.2.1, .int .i64 x.2.2.1, .int .i64 x.2.2.2]
def lsV (ls : List Ln) : List Value := ls.flatMap lnV
def mV (b c : Int) (A : Option Addr) (len cap : Nat) : SV := .si (.ag [.val (.int .i64 b), .val (.int .i64 c), .val (.slice A len cap)])
/-- The lines, read for good. -/
def MOk (H : Hp) (A : Option Addr) (len : Nat) (ls : List Ln) : Prop := len = ls.length ∧ (ls = [] ∨ RdN H A 0 (lsV ls))
def getL (ls : List Ln) (n : Int) : Ln := (ls.find? (fun x => decide (x.1 = n))).getD (n, ⟨#[]⟩, 0, 0)
theorem MOk.mono {H H' : Hp} (h : H.Le H') {A : Option Addr} {len : Nat} {ls : List Ln} (hm : MOk H A len ls) : MOk H' A len ls := by
  refine ⟨hm.1, hm.2.imp id fun ⟨b, o, h1, h2⟩ => ⟨b, o, h1, fun j x hx => h _ _ _ (h2 j x hx)⟩⟩
theorem lsV_get {ls : List Ln} {i : Nat} {x : Ln} (h : ls[i]? = some x) {j : Nat} (hj : j < 4) : (lsV ls)[i * 4 + j]? = (lnV x)[j]? := by
  induction ls generalizing i with
  | nil => simp at h
  | cons y r ih =>
    have hl : (lnV y).length = 4 := rfl
    cases i with
    | zero =>
      simp at h; subst h
      simp only [lsV, List.flatMap_cons]
      rw [List.getElem?_append_left (by omega)]
      simp
    | succ i =>
      simp only [lsV, List.flatMap_cons]
      rw [List.getElem?_append_right (by omega), hl, show (i + 1) * 4 + j - 4 = i * 4 + j by omega]
      exact ih (by simpa using h)
theorem MOk.rd {H : Hp} {A : Option Addr} {len : Nat} {ls : List Ln} (hm : MOk H A len ls) {i : Nat} {x : Ln} (h : ls[i]? = some x) {off : Nat} (ho : off = i * 4) : RdN H A off (lnV x) := by
  rcases hm.2 with rfl | ⟨b, o, h1, h2⟩
  · simp at h
  · refine ⟨b, o, h1, fun j y hy => ?_⟩
    have hj : j < 4 := (List.getElem?_eq_some_iff.1 hy).1
    have := h2 (i * 4 + j) y (by rw [lsV_get h hj]; exact hy)
    subst ho
    rw [show o + i * 4 + j = o + 0 + (i * 4 + j) by omega]; exact this
theorem MOk.rdC {H : Hp} {A : Option Addr} {len : Nat} {ls : List Ln} (hm : MOk H A len ls) {i : Nat} {x : Ln} (h : ls[i]? = some x) {off : Nat} (ho : off = i * 4) : RdC H A off (.int .i64 x.1) := by
  obtain ⟨b, o, h1, h2⟩ := hm.rd h ho
  exact ⟨b, o, h1, h2 0 _ rfl⟩
theorem MOk.addr {H : Hp} {A : Option Addr} {len : Nat} {ls : List Ln} (hm : MOk H A len ls) {i : Nat} {x : Ln} (h : ls[i]? = some x) : ∃ b o, A = some ⟨b, o, none⟩ := by
  obtain ⟨b, o, h1, _⟩ := hm.rd h rfl
  exact ⟨b, o, h1⟩
theorem get (b c : Int) (A : Option Addr) (len cap : Nat) (ls : List Ln) (n : Int) (H : Hp) (hm : MOk H A len ls) (hl : len ≤ 1000000) : CallO Try.prog 26 [mV b c A len cap, pv (.int .i64 n)] H [] fun e H' G' =>
    e = .ret (.si (.ag ((lnV (getL ls n)).map .val))) ∧ H' = H ∧ G' = [] := by
  refine CallO.of_body tab Try.func26 rfl (nt := Try.f26.ntmps) rfl (by kernel_rfl) ?_
  conv => whnf
  refine WS.loop (fun m F H2 G => ∃ i : Nat, i ≤ len ∧ (∀ x ∈ ls.take i, x.1 ≠ n) ∧ m = len - i ∧ F = [(1, pv (.int .i64 n)), (2, .si (.ce (.ptr 0 0))), (4, .si (.ce (.ptr 1 0))), (5, pv (.int .i64 i))] ∧ H2 = H ∧ G = [.box 55 [.val (.int .i64 b), .val (.int .i64 c), .val (.slice A len cap)], .box 61 [.val (.int .i64 0), .val (.string ⟨#[]⟩), .val (.int .i64 0), .val (.int .i64 0)]]) (len + 1)
    ⟨len, by omega, _, _, [0, 1], ⟨0, by omega, by simp, rfl, rfl, rfl, rfl⟩, rfl, ⟨rfl, rfl, trivial⟩, rfl, rfl, rfl, rfl, trivial⟩ ?_
  rintro m F H2 G hle2 ⟨i, h2, h3, rfl, rfl, rfl, rfl⟩
  refine codeL.go tab ?_
  conv => whnf
  refine br.of (fun h1 => ?_) (fun h1 => ?_) <;> conv => whnf
  · simp only [decide_eq_true_eq] at h1
    have hi : i < ls.length := by have := hm.1; omega
    have hx : ls[i]? = some ls[i] := List.getElem?_eq_getElem hi
    refine ⟨⟨by omega, h1⟩, hm.addr hx, ?_⟩
    conv => whnf
    refine ⟨hm.addr hx, ?_⟩
    conv => whnf
    refine ⟨_, hm.rdC hx (by simp), ?_⟩
    conv => whnf
    refine br.of (fun h4 => ?_) (fun h4 => ?_) <;> conv => whnf
    · have h4' : ls[i].1 = n := by simpa using h4
      refine ⟨⟨by omega, h1⟩, hm.addr hx, ?_⟩
      conv => whnf
      refine ⟨lnV ls[i], rfl, hm.rd hx (by simp), ?_⟩
      conv => whnf
      refine ⟨?_, rfl, rfl⟩
      have h5 : getL ls n = ls[i] := by
        unfold getL
        have : ls.find? (fun x => decide (x.1 = n)) = some ls[i] := by
          rw [List.find?_eq_some_iff_append]
          refine ⟨by simpa using h4', ls.take i, ls.drop (i + 1), ?_, fun x hx => by simpa using h3 x hx⟩
          rw [← List.drop_eq_getElem_cons hi, List.take_append_drop]
        rw [this]; rfl
      rw [h5]; rfl
    · have h4' : ls[i].1 ≠ n := by simpa using h4
      have hw : IntKind.i64.wrap ((i : Int) + 1) = ((i + 1 : Nat) : Int) := by rw [wrap64 (by omega) (by omega)]; omega
      rw [hw]
      refine ⟨len - (i + 1), by omega, _, _, [0, 1], ⟨i + 1, by omega, ?_, rfl, rfl, rfl, rfl⟩, rfl, ⟨rfl, rfl, trivial⟩, rfl, rfl, rfl, rfl, trivial⟩
      intro x hx2
      rw [List.take_succ_eq_append_getElem hi, List.mem_append, List.mem_singleton] at hx2
      rcases hx2 with hx2 | rfl
      · exact h3 x hx2
      · exact h4'
  · simp only [decide_eq_false_iff_not] at h1
    refine ⟨?_, rfl, rfl⟩
    have h5 : getL ls n = (n, ⟨#[]⟩, 0, 0) := by
      unfold getL
      rw [List.find?_eq_none.2 (fun x hx => by
        have : ls.take i = ls := List.take_of_length_le (by have := hm.1; omega)
        rw [this] at h3
        simpa using h3 x hx)]
      rfl
    rw [h5]; rfl
end Go.Kx.Push
