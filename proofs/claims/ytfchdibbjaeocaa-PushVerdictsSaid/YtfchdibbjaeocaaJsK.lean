/- Values as texts: one member of an object. No condition of its own. -/
import Derived.Test.YtfchdibbjaeocaaJsJ
namespace Go.Kx.Js
open Go.Proofs Go.Kx Go.RowKit
set_option maxRecDepth 20000
def zero6 : List Value := [.string ⟨#[]⟩, .int .i64 0, .bool false, .string ⟨#[]⟩, .slice none 0 0, .slice none 0 0]
theorem ones_zero6 : ∀ u ∈ zero6, u.oneCell' = true := by
  intro u hu
  unfold zero6 at hu
  simp only [List.mem_cons, List.not_mem_nil, or_false] at hu
  rcases hu with rfl | rfl | rfl | rfl | rfl | rfl <;> rfl
/-- What is left of reading a member; q: where the row goes. -/
def OutM (s : ByteArray) (d o : Int) (ms : Ms) (xs : List Value) (res : Res Ms) (e : SE) (H' : Hp) (G' : List SB) : Prop :=
  match res with
  | .ok ms' r => Sfx r (tL s) ∧ e = .ret (.tu []) ∧ ∃ xs', MsAt H' ms' xs' ∧ G' = [rdB s r d o, vO (.self 3), .dead, rowO ms' xs']
  | .no er r => e = .pan [{ v := faultV er (pos s r), recovered := false }] ∧ ∃ l' o', G' = [rdB s l' d o', vO (.self 2), rowO ms xs]
def OutM4 (s : ByteArray) (d o : Int) (ms : Ms) (xs : List Value) (res : Res Ms) (e : SE) (H' : Hp) (G' : List SB) : Prop :=
  match res with
  | .ok ms' r => Sfx r (tL s) ∧ e = .ret (.tu []) ∧ ∃ xs' b, MsAt H' ms' xs' ∧ G' = [rdB s r d o, vO (.self 4), .dead, b, rowO ms' xs']
  | .no er r => e = .pan [{ v := faultV er (pos s r), recovered := false }] ∧ ∃ l' o', G' = [rdB s l' d o', vO (.self 2), rowO ms xs]
theorem leafM {s : ByteArray} {r : List UInt8} {d o : Int} {ms : Ms} {t : ByteArray} {j : J} {xs cs : List Value} {H : Hp} {b : SB} (hx : MsAt H ms xs) (hj : JAt H j cs) : ∃ xs' b', MsAt H (ms ++ [(t, j)]) xs' ∧
    [SB.box 49 [.val (.string s), .val (.int .i64 ((pos s r : Nat) : Int)), .val (.int .i64 d), .val (.int .i64 o)], .box 27 [.val (.int .i64 6), .val (.bool false), .val (.string ⟨#[]⟩), .val (.slice none 0 0), .self 4], .dead, b, .row 56 6 (ms.length + 1) (splice (xs ++ zero6) ((ms.length : Int).toNat * 6) (.string t :: cs))] = [rdB s r d o, vO (.self 4), .dead, b', rowO (ms ++ [(t, j)]) xs'] := by
  refine ⟨_, b, hx.snoc hj, ?_⟩
  rw [splice_end (xs := xs) (zs := zero6) (ys := .string t :: cs) (by rw [hx.length]; omega) (show zero6.length = (Value.string t :: cs).length by rw [List.length_cons, hj.length]; rfl)]
  unfold rowO
  rw [List.length_append]
  rfl
set_option maxHeartbeats 8000000 in
theorem member4 (s : ByteArray) (hs : s.size ≤ 200000) (d o : Int) (val : List UInt8 → Res J) (hv : VSays s d o val) (l : List UInt8) (hl : Sfx l (tL s)) (ms : Ms) (xs : List Value) (hn : List.length ms ≤ 200000) (H : Hp) (hx : MsAt H ms xs) :
    CallO Try.prog 48 [me, .si (.ce (.ptr 1 0))] H [rdB s l d o, vO (.self 2), rowO ms xs] fun e H' G' => OutM4 s d o ms xs (memP val ms l) e H' G' := by
  refine CallO.of_body tab Try.func48 rfl (nt := Try.f48.ntmps) rfl (by kernel_rfl) ?_
  (conv => whnf)
  refine ⟨⟨_, Try.func32, rfl, by kernel_rfl⟩, CallS.use (text_ s l hl hs d o H) [0] rfl rfl ⟨rfl, trivial⟩ ?_⟩
  intro e H2 G' hle2 hout
  replace hx := hx.mono hle2
  unfold memP
  cases htx : textP l with
  | no er r =>
    rw [htx] at hout
    obtain ⟨rfl, l2, o2, rfl⟩ := hout
    (conv => whnf)
    exact ⟨rfl, l2, o2, rfl⟩
  | ok t l1 =>
    rw [htx] at hout
    obtain ⟨hl1, ⟨sv, rfl, rfl⟩, rfl⟩ := hout
    (conv => whnf)
    refine ⟨⟨_, Try.func6, rfl, by kernel_rfl⟩, CallS.use (getOwn ms xs t (by omega) H2 hx) [2] rfl rfl ⟨rfl, trivial⟩ ?_⟩
    rintro e H3 G' hle3 ⟨rfl, ⟨k0, y0, t0, A0, n0, c0, B0, m0, f0, rfl⟩, rfl⟩
    have hmem : ∀ (x : SE) (H' : Hp) (G' : List SB), OutM4 s d o ms xs (match getP ms t with | some _ => .no 15 l | none => (mustP 58 (blankP l1)).bind fun _ l2 => (val (blankP l2)).bind fun j l3 => .ok (ms ++ [(t, j)]) l3) x H' G' → OutM4 s d o ms xs ((Res.ok t l1).bind fun s l1 => match getP ms s with | some _ => .no 15 l | none => (mustP 58 (blankP l1)).bind fun _ l2 => (val (blankP l2)).bind fun j l3 => .ok (ms ++ [(s, j)]) l3) x H' G' := fun _ _ _ h => h
    cases hg : getP ms t with
    | some j0 =>
      rw [hg] at hmem
      (conv => whnf)
      refine ⟨⟨_, Try.func37, rfl, by kernel_rfl⟩, CallS.use (fail_ 15 (pos s l : Nat) s l1 d o _) [0] rfl rfl ⟨rfl, trivial⟩ ?_⟩
      rintro e H2 G' hle2 ⟨rfl, rfl, rfl⟩
      (conv => whnf)
      exact hmem _ _ _ ⟨rfl, l1, o, rfl⟩
    | none =>
      rw [hg] at hmem
      (conv => whnf)
      refine ⟨⟨_, Try.func21, rfl, by kernel_rfl⟩, CallS.use (blank_ s l1 hl1 (by omega) d o _) [0] rfl rfl ⟨rfl, trivial⟩ ?_⟩
      rintro e H4 G' hle4 ⟨rfl, rfl, rfl⟩
      (conv => whnf)
      have hl2 := (blankP_sfx l1).trans hl1
      refine ⟨⟨_, Try.func41, rfl, by kernel_rfl⟩, CallS.use (must_ 58 (by decide) s _ hl2 (by omega) d o _) [0] rfl rfl ⟨rfl, trivial⟩ ?_⟩
      rintro e H5 G' hle5 ⟨rfl, hout⟩
      cases hm : mustP 58 (blankP l1) with
      | no er r =>
        rw [hm] at hout hmem
        obtain ⟨rfl, l2, o2, rfl⟩ := hout
        (conv => whnf)
        exact hmem _ _ _ ⟨rfl, l2, o2, rfl⟩
      | ok u l2 =>
        rw [hm] at hout hmem
        obtain ⟨hl3, ⟨sv, rfl, rfl⟩, rfl⟩ := hout
        (conv => whnf)
        refine ⟨⟨_, Try.func21, rfl, by kernel_rfl⟩, CallS.use (blank_ s l2 hl3 (by omega) d o _) [0] rfl rfl ⟨rfl, trivial⟩ ?_⟩
        rintro e H6 G' hle6 ⟨rfl, rfl, rfl⟩
        (conv => whnf)
        have hl4 := (blankP_sfx l2).trans hl3
        replace hmem : ∀ (x : SE) (H' : Hp) (G' : List SB), OutM4 s d o ms xs ((val (blankP l2)).bind fun j l3 => .ok (ms ++ [(t, j)]) l3) x H' G' → _ := hmem
        generalize blankP l2 = l4 at *
        refine WS.draw tab mixed (.take 0 (.take 1 (.take 2 (.take 4 (.take 5 (.alt 3 (.alt 6 (.take 7 (.alt 8 (.alt 9 (.alt 10 (.take 13 (.take 14 (.alt 11 (.alt 12 (.alt 15 .done .no) (.alt 15 (.alt 12 .done .no) .no)) (.alt 15 (.alt 11 (.alt 12 .done .no) .no) .no)))) .no) .no) (.alt 9 (.alt 8 (.alt 10 (.take 13 (.take 14 (.alt 11 (.alt 12 (.alt 15 .done .no) (.alt 15 (.alt 12 .done .no) .no)) (.alt 15 (.alt 11 (.alt 12 .done .no) .no) .no)))) .no) .no) .no))) (.alt 8 (.alt 6 (.take 7 (.alt 9 (.alt 10 (.take 13 (.take 14 (.alt 11 (.alt 12 (.alt 15 .done .no) (.alt 15 (.alt 12 .done .no) .no)) (.alt 15 (.alt 11 (.alt 12 .done .no) .no) .no)))) .no) .no)) (.alt 9 (.alt 6 (.take 7 (.alt 10 (.take 13 (.take 14 (.alt 11 (.alt 12 (.alt 15 .done .no) (.alt 15 (.alt 12 .done .no) .no)) (.alt 15 (.alt 11 (.alt 12 .done .no) .no) .no)))) .no)) .no) .no)) (.alt 9 (.alt 6 (.take 7 (.alt 8 (.alt 10 (.take 13 (.take 14 (.alt 11 (.alt 12 (.alt 15 .done .no) (.alt 15 (.alt 12 .done .no) .no)) (.alt 15 (.alt 11 (.alt 12 .done .no) .no) .no)))) .no) .no)) (.alt 8 (.alt 6 (.take 7 (.alt 10 (.take 13 (.take 14 (.alt 11 (.alt 12 (.alt 15 .done .no) (.alt 15 (.alt 12 .done .no) .no)) (.alt 15 (.alt 11 (.alt 12 .done .no) .no) .no)))) .no)) .no) .no)) .no))) (.alt 6 (.take 7 (.alt 3 (.alt 8 (.alt 9 (.alt 10 (.take 13 (.take 14 (.alt 11 (.alt 12 (.alt 15 .done .no) (.alt 15 (.alt 12 .done .no) .no)) (.alt 15 (.alt 11 (.alt 12 .done .no) .no) .no)))) .no) .no) (.alt 9 (.alt 8 (.alt 10 (.take 13 (.take 14 (.alt 11 (.alt 12 (.alt 15 .done .no) (.alt 15 (.alt 12 .done .no) .no)) (.alt 15 (.alt 11 (.alt 12 .done .no) .no) .no)))) .no) .no) .no)) (.alt 9 (.alt 3 (.alt 8 (.alt 10 (.take 13 (.take 14 (.alt 11 (.alt 12 (.alt 15 .done .no) (.alt 15 (.alt 12 .done .no) .no)) (.alt 15 (.alt 11 (.alt 12 .done .no) .no) .no)))) .no) .no) .no) .no))) (.alt 9 (.alt 3 (.alt 6 (.take 7 (.alt 8 (.alt 10 (.take 13 (.take 14 (.alt 11 (.alt 12 (.alt 15 .done .no) (.alt 15 (.alt 12 .done .no) .no)) (.alt 15 (.alt 11 (.alt 12 .done .no) .no) .no)))) .no) .no)) (.alt 8 (.alt 6 (.take 7 (.alt 10 (.take 13 (.take 14 (.alt 11 (.alt 12 (.alt 15 .done .no) (.alt 15 (.alt 12 .done .no) .no)) (.alt 15 (.alt 11 (.alt 12 .done .no) .no) .no)))) .no)) .no) .no)) (.alt 6 (.take 7 (.alt 3 (.alt 8 (.alt 10 (.take 13 (.take 14 (.alt 11 (.alt 12 (.alt 15 .done .no) (.alt 15 (.alt 12 .done .no) .no)) (.alt 15 (.alt 11 (.alt 12 .done .no) .no) .no)))) .no) .no) .no)) .no)) .no)))))))) (by kernel_rfl) [0, 1, 2] ?_
        (conv => whnf)
        repeat' (first
          | exact trivial
          | exact rfl
          | exact ⟨_, Try.func22, rfl, by kernel_rfl⟩
          | (refine CallS.use (hv.use l4 hl4 _) [0] rfl rfl ⟨rfl, trivial⟩ ?_; intro e H2 G' hle2 hout; replace hx := hx.mono hle2; cases hval : val l4)
          | (rw [hval] at hout hmem; obtain ⟨rfl, l2, o2, rfl⟩ := hout; (conv => whnf); exact hmem _ _ _ ⟨rfl, l2, o2, rfl⟩)
          | (rw [hval] at hout hmem; obtain ⟨hr, ⟨sv, rfl, k, y, t, A, n, c, B, m, e, rfl, hj⟩, rfl⟩ := hout; clear hval; (conv => whnf))
          | (refine ⟨by decide, .inl ?_⟩; intro g H2 hle hrd; replace hx := hx.mono hle; try replace hj := hj.mono hle
             (conv => whnf))
          | (refine ⟨zero6, rfl, hrd, ones_zero6, ?_⟩; (conv => whnf); refine ⟨by show _ * 97 ≤ _; omega, ?_⟩; (conv => whnf))
          | (refine ⟨zero6, rfl, hrd.mono hle2, ones_zero6, ?_⟩; (conv => whnf); refine ⟨by show _ * 97 ≤ _; omega, ?_⟩; (conv => whnf))
          | (refine ⟨⟨by omega, by omega⟩, ?_⟩; (conv => whnf))
          | (show (List.length ms : Int).toNat * 6 + 6 ≤ (xs ++ zero6).length; rw [List.length_append, hx.length]; show _ ≤ _ * 6 + 6; omega)
          | exact hmem _ _ _ ⟨hr, rfl, leafM hx hj⟩
          | (refine And.intro ?_ ?_ <;> (conv => whnf)))
end Go.Kx.Js
