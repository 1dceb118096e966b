/- Values as texts: all of a text; what is thrown and caught. No condition of its own. -/
import Derived.Test.YtfchdibbjaeocaaJsO
namespace Go.Kx.Js
open Go.Proofs Go.Kx Go.RowKit
set_option maxRecDepth 20000
theorem whole_ (s : ByteArray) (hs : s.size ≤ 190000) (d : Nat) (hd : d ≤ 900) (l : List UInt8) (hl : Sfx l (tL s)) (H : Hp) : CallO Try.prog 15 [me] H [rdB s l d 0] fun e H' G' => Out s d 0 RJ (wholeP d l) e H' G' := by
  refine CallO.of_body tab Try.func15 rfl (nt := Try.f15.ntmps) rfl (by kernel_rfl) ?_
  (conv => whnf)
  refine ⟨⟨_, Try.func21, rfl, by kernel_rfl⟩, CallS.use (blank_ s l hl (by omega) d 0 _) [0] rfl rfl ⟨rfl, trivial⟩ ?_⟩
  rintro e H2 G' hle2 ⟨rfl, rfl, rfl⟩
  have hl1 := (blankP_sfx l).trans hl
  (conv => whnf)
  refine ⟨⟨_, Try.func22, rfl, by kernel_rfl⟩, CallS.use ((value_ s hs d hd d 0 (by omega)).use _ hl1 _) [0] rfl rfl ⟨rfl, trivial⟩ ?_⟩
  intro e H3 G' hle3 hout
  unfold wholeP
  cases hv : valP d (blankP l) with
  | no er r =>
    rw [hv] at hout
    obtain ⟨rfl, l2, o2, rfl⟩ := hout
    (conv => whnf)
    exact ⟨rfl, l2, o2, rfl⟩
  | ok j r =>
    rw [hv] at hout
    obtain ⟨hr, ⟨sv, rfl, k, y, t, A, n, c, B, m, f, rfl, hj⟩, rfl⟩ := hout
    (conv => whnf)
    refine ⟨⟨_, Try.func21, rfl, by kernel_rfl⟩, CallS.use (blank_ s r hr (by omega) d 0 _) [0] rfl rfl ⟨rfl, trivial⟩ ?_⟩
    rintro e H4 G' hle4 ⟨rfl, rfl, rfl⟩
    have hl2 := (blankP_sfx r).trans hr
    (conv => whnf)
    refine WS.draw tab mixed (.take 0 (.take 1 (.take 2 (.take 3 (.take 4 (.take 5 (.take 6 (.take 7 (.take 8 (.take 9 .done)))))))))) (by kernel_rfl) [] ?_
    (conv => whnf)
    refine br.of (fun h => ?_) (fun h => ?_) <;> (conv => whnf)
    · have h := of_decide_eq_true h
      refine ⟨⟨_, Try.func23, rfl, by kernel_rfl⟩, CallS.use (stop_ s _ d 0 _) [0] rfl rfl ⟨rfl, trivial⟩ ?_⟩
      rintro e H5 G' hle5 ⟨rfl, rfl, rfl⟩
      (conv => whnf)
      show Out s d 0 RJ (match blankP r with | [] => .ok j [] | c :: r2 => .no 31 (c :: r2)) _ _ _
      cases hb : blankP r with
      | nil => rw [hb, pos_nil] at h; omega
      | cons c r2 => exact ⟨rfl, c :: r2, 0, rfl⟩
    · have h := of_decide_eq_false h
      show Out s d 0 RJ (match blankP r with | [] => .ok j [] | c :: r2 => .no 31 (c :: r2)) _ _ _
      cases hb : blankP r with
      | nil => exact ⟨by rw [hb] at hl2; exact hl2, ⟨_, rfl, _, _, _, _, _, _, _, _, _, rfl, hj⟩, rfl⟩
      | cons c r2 =>
        rw [hb] at h hl2
        have := pos_lt hl2
        omega
def zAg : SG := .ag [.val (.int .i64 0), .val (.bool false), .val (.string ⟨#[]⟩), .val (.slice none 0 0), .val (.slice none 0 0)]
/-- What is caught. -/
def RC (s : ByteArray) (res : Res J) (e : SE) (H' : Hp) : Prop :=
  match res with
  | .ok j _ => ∃ k y t A n c B m f, e = .ret (.tu [.ag [.val (.int .i64 k), .val (.bool y), .val (.string t), .val (.slice A n c), .val (.slice B m f)], .ag [.val (.int .i64 0), .val (.int .i64 0)]]) ∧ JAt H' j [.int .i64 k, .bool y, .string t, .slice A n c, .slice B m f]
  | .no er r => e = .ret (.tu [zAg, .ag [.val (.int .i64 (er : Int)), .val (.int .i64 ((pos s r : Nat) : Int))]])
theorem CallDS.use {P : Program} {f : FuncId} {svs : List SV} {u : FrameMode} {H : Hp} {G : List SB} {K K' : FrameMode → Hp → List SB → Prop} (h : CallDO P f svs u H G K) (hk : ∀ u' H' G', H.Le H' → K u' H' G' → K' u' H' G') : CallDS P f svs u H G K' := by
  refine ⟨fun w0 M hgd H0 ρ w vs hs hv => (h w0 M hgd H0 ρ w vs hs hv).mono fun e u' w' he => ?_⟩
  cases e with
  | returned v => obtain ⟨ρ', H', G', h1, h2, h3, h4⟩ := he; exact ⟨ρ', H', G', h1, h2, h3, hk _ _ _ h3 h4⟩
  | panicked ch => exact he
  | outgrown => exact he
def zV : SB := .box 27 [.val (.int .i64 0), .val (.bool false), .val (.string ⟨#[]⟩), .val (.slice none 0 0), .val (.slice none 0 0)]
def fB (e p : Int) : SB := .box 51 [.val (.int .i64 e), .val (.int .i64 p)]
theorem catchYes (s : ByteArray) (l r : List UInt8) (d o : Int) (er : Nat) (H : Hp) : CallDO Try.prog 20 [.si (.ce (.ptr 1 0)), .si (.ce (.ptr 2 0))] (.panicking [⟨faultV er (pos s r), false, false⟩]) H [rdB s l d o, zV, fB 0 0] fun u H' G' => u = .panicking [⟨faultV er (pos s r), true, false⟩] ∧ H' = H ∧ G' = [rdB s l d o, zV, fB er ((pos s r : Nat) : Int)] := by
  refine CallDO.of_body tab Try.func20 rfl rfl rfl rfl (nt := Try.f20.ntmps) rfl (by kernel_rfl) ?_
  (conv => whnf)
  refine WS.draw tab mixed (.take 0 (.take 1 (.alt 2 (.alt 3 .done .no) .no))) (by kernel_rfl) [1, 2] ?_
  (conv => whnf)
  repeat' (first
    | exact trivial
    | exact rfl
    | (refine And.intro ?_ ?_ <;> (conv => whnf)))
theorem catchNo (s : ByteArray) (l : List UInt8) (d o : Int) (b : List SC) (H : Hp) : CallDO Try.prog 20 [.si (.ce (.ptr 1 0)), .si (.ce (.ptr 2 0))] .returning H [rdB s l d o, .box 27 b, fB 0 0] fun u H' G' => u = .returning ∧ H' = H ∧ G' = [rdB s l d o, .box 27 b, fB 0 0] := by
  refine CallDO.of_body tab Try.func20 rfl rfl rfl rfl (nt := Try.f20.ntmps) rfl (by kernel_rfl) ?_
  (conv => whnf)
  split <;> exact ⟨rfl, rfl, rfl⟩
theorem caught_ (s : ByteArray) (hs : s.size ≤ 190000) (d : Nat) (hd : d ≤ 900) (l : List UInt8) (hl : Sfx l (tL s)) (H : Hp) : CallO Try.prog 14 [.si (.ce (.fn (.func 15) 1 [(0, 0)]))] H [rdB s l d 0] fun e H' G' => RC s (wholeP d l) e H' ∧ ∃ l' o', G' = [rdB s l' d o'] := by
  refine CallO.of_bodyD tab Try.func14 rfl (pre := [_]) rfl rfl rfl (nt := Try.f14.ntmps) rfl (by kernel_rfl) [2, 3] ?_
  (conv => whnf)
  refine ⟨⟨_, Try.func20, rfl, by kernel_rfl⟩, ?_⟩
  (conv => whnf)
  intro ds vs
  (conv => whnf)
  refine ⟨⟨_, Try.func15, rfl, by kernel_rfl⟩, CallS.use (whole_ s hs d hd l hl H) [0] rfl rfl ⟨rfl, trivial⟩ ?_⟩
  intro e H2 G' hle2 hout
  cases hw : wholeP d l with
  | no er r =>
    rw [hw] at hout
    obtain ⟨rfl, l2, o2, rfl⟩ := hout
    (conv => whnf)
    refine CallDS.use (catchYes s l2 r d o2 er H2) ?_
    rintro u' H3 G' hle3 ⟨rfl, rfl, rfl⟩
    (conv => whnf)
    exact ⟨rfl, l2, o2, rfl⟩
  | ok j r =>
    rw [hw] at hout
    obtain ⟨hr, ⟨sv, rfl, k, y, t, A, n, c, B, m, f, rfl, hj⟩, rfl⟩ := hout
    (conv => whnf)
    refine CallDS.use (catchNo s r d 0 _ H2) ?_
    rintro u' H3 G' hle3 ⟨rfl, rfl, rfl⟩
    (conv => whnf)
    exact ⟨⟨_, _, _, _, _, _, _, _, _, rfl, hj⟩, r, 0, rfl⟩
end Go.Kx.Js
