/- Whom an event is about: the subject of a value; a subject's text. No condition of its own. -/
import Derived.Test.YtfchdibbjaeocaaGreatDoorMT15
namespace Go.Kx.Su
open Go.Proofs Go.Kx Go.RowKit Go.Kx.Js Go.Kx.Pr Go.Kx.Rt Go.Kx.Ob Go.Kx.Wo Go.Kx.Cl Go.Kx.Pa
set_option maxRecDepth 20000
set_option linter.unusedSimpArgs false
theorem sm_len {j : J} (h : smJ j) : j.mems.length ≤ 1000000 := by
  obtain ⟨k, y, t, js, ms⟩ := j
  exact h.2.2.1
theorem member_ (j : J) (hl : j.mems.length ≤ 1000000) (s : ByteArray) (k : Int) (y : Bool) (t : ByteArray) (A : Option Addr) (n c : Nat) (B : Option Addr) (m d : Nat) (H : Hp) (hj : JAt H j [.int .i64 k, .bool y, .string t, .slice A n c, .slice B m d]) :
    CallO Tryz.prog 109 [agJ k y t A n c B m d, pv (.string s)] H [] fun e H' G' => e = .ret (.tu [.ce (.val (.string (memT j s).1)), .ce (.val (.bool (memT j s).2))]) ∧ H' = H ∧ G' = [] := by
  unfold memT
  refine CallO.of_body tab Tryz.func109 rfl (nt := Tryz.f109.ntmps) rfl (by kernel_rfl) ?_
  (conv => whnf)
  refine ⟨⟨_, Tryz.func58, rfl, by kernel_rfl⟩, CallS.use (get_ j k y t A n c B m d s H hj hl) [] rfl rfl trivial ?_⟩
  rintro e H1 G' hle1 ⟨rfl, hg, rfl⟩
  cases hgj : j.get s with
  | none =>
    rw [hgj] at hg
    obtain rfl := hg
    (conv => whnf)
    refine WS.draw tab mixed (.take 0 (.take 1 (.take 2 (.take 3 (.take 4 (.take 5 (.take 6 (.take 7 (.take 8 (.take 9 .done)))))))))) (by kernel_rfl) [] ?_
    (conv => whnf)
    repeat' (first
      | exact trivial
      | exact rfl
      | exact ⟨rfl, rfl, rfl⟩
      | (refine And.intro ?_ ?_ <;> (conv => whnf)))
  | some q =>
    rw [hgj] at hg
    obtain ⟨k2, y2, t2, A2, n2, c2, B2, m2, d2, rfl, hj2⟩ := hg
    obtain ⟨rfl, rfl⟩ : k2 = q.kind ∧ t2 = q.text := by cases hj2; exact ⟨rfl, rfl⟩
    (conv => whnf)
    refine WS.draw tab mixed (.take 0 (.take 1 (.take 2 (.take 3 (.take 4 (.take 5 (.take 6 (.take 7 (.take 8 (.take 9 .done)))))))))) (by kernel_rfl) [] ?_
    (conv => whnf)
    repeat' (first
      | exact trivial
      | exact rfl
      | exact ⟨rfl, rfl, rfl⟩
      | (refine And.intro ?_ ?_ <;> (conv => whnf)))
theorem show0 (f id own : ByteArray) (h1 : f.size ≤ 10000) (h2 : id.size ≤ 10000) (h3 : own.size ≤ 10000) (H : Hp) : CallO Tryz.prog 33 [.si (.ag [.val (.string f), .val (.string id), .val (.string own)])] H [] fun e H' G' => e = .ret (pv (.string (if f = sIssSub then f ++ ⟨#[58]⟩ ++ own ++ ⟨#[32]⟩ ++ id else f ++ ⟨#[58]⟩ ++ id))) ∧ H' = H ∧ G' = [] := by
  refine CallO.of_body tab Tryz.func33 rfl (nt := Tryz.f33.ntmps) rfl (by kernel_rfl) ?_
  (conv => whnf)
  have z : ∀ a b : ByteArray, (a ++ b).size = a.size + b.size := fun a b => ByteArray.size_append
  have z1 : (⟨#[58]⟩ : ByteArray).size = 1 := rfl
  have z2 : (⟨#[32]⟩ : ByteArray).size = 1 := rfl
  refine br.of (fun h4 => ?_) (fun h4 => ?_) <;> (conv => whnf)
  · rw [if_pos ((strEq_iff ..).1 h4)]
    refine ⟨by omega, ?_⟩
    (conv => whnf)
    refine ⟨by rw [z]; omega, ?_⟩
    (conv => whnf)
    refine ⟨by rw [z, z]; omega, ?_⟩
    (conv => whnf)
    refine ⟨by rw [z, z, z]; omega, ?_⟩
    (conv => whnf)
    exact ⟨rfl, rfl, rfl⟩
  · rw [if_neg (fun h => by rw [h, str_refl] at h4; cases h4)]
    refine ⟨by omega, ?_⟩
    (conv => whnf)
    refine ⟨by rw [z]; omega, ?_⟩
    (conv => whnf)
    exact ⟨rfl, rfl, rfl⟩
def RS (x : Sub × Int) (e : SE) : Prop := e = .ret (.tu [.ag [.val (.string x.1.fmt), .val (.string x.1.id), .val (.string x.1.own)], .ce (.val (.int .i64 x.2))])
theorem of_ (j : J) (hs : smJ j) (k : Int) (y : Bool) (t : ByteArray) (A : Option Addr) (n c : Nat) (B : Option Addr) (m d : Nat) (H : Hp) (hj : JAt H j [.int .i64 k, .bool y, .string t, .slice A n c, .slice B m d]) :
    CallO Tryz.prog 60 [agJ k y t A n c B m d] H [] fun e H' G' => RS (subOf j) e ∧ H.Le H' ∧ G' = [] := by
  have hl := sm_len hs
  have hmd : m = j.mems.length := by cases hj; assumption
  unfold subOf
  refine CallO.of_body tab Tryz.func60 rfl (nt := Tryz.f60.ntmps) rfl (by kernel_rfl) ?_
  (conv => whnf)
  refine ⟨⟨_, Tryz.func109, rfl, by kernel_rfl⟩, CallS.use (member_ j hl sFormat k y t A n c B m d H hj) [] rfl rfl trivial ?_⟩
  rintro e H1 G' hle1 ⟨rfl, rfl, rfl⟩
  generalize (memT j sFormat).1 = f
  cases hok : (memT j sFormat).2
  all_goals (conv => whnf)
  all_goals refine ⟨⟨_, Tryz.func91, rfl, by kernel_rfl⟩, CallS.use (names_ f H1) [] rfl rfl trivial ?_⟩
  all_goals rintro e H2 G' hle2 ⟨⟨B2, m2, c2, rfl, hv2⟩, rfl⟩
  all_goals (conv => whnf)
  · exact ⟨rfl, hle2, rfl⟩
  have hm2 : m2 = (namesOf f).length := by have := hv2.1; rw [stC_len] at this; simpa [bL] using this
  have hc : f = sOpaque ∨ f = sEmail ∨ f = sIssSub ∨ namesOf f = [] := by
    unfold namesOf
    by_cases h1 : f = sOpaque
    · exact .inl h1
    by_cases h2 : f = sEmail
    · exact .inr (.inl h2)
    by_cases h3 : f = sIssSub
    · exact .inr (.inr (.inl h3))
    rw [if_neg h1, if_neg h2, if_neg h3]
    exact .inr (.inr (.inr rfl))
  rw [if_neg (by decide)]
  have noneed : ∀ {f : ByteArray}, namesOf f = [] → (if namesOf f = [] then (sub0, 42) else
    if rightJ j = false ∨ List.length j.mems ≠ (namesOf f).length + 1 then (sub0, 10) else
    if f = sIssSub then (if ((memT j sSub).snd && (memT j sIss).snd && subRight { fmt := f, id := (memT j sSub).fst, own := (memT j sIss).fst }) = true then ({ fmt := f, id := (memT j sSub).fst, own := (memT j sIss).fst }, 0) else (sub0, 10)) else
    if ((memT j ((namesOf f).getD 0 { data := #[] })).snd && subRight { fmt := f, id := (memT j ((namesOf f).getD 0 { data := #[] })).fst, own := { data := #[] } }) = true then ({ fmt := f, id := (memT j ((namesOf f).getD 0 { data := #[] })).fst, own := { data := #[] } }, 0) else (sub0, 10)) = ((sub0, 42) : Sub × Int) := fun h => if_pos h
  rcases hc with rfl | rfl | rfl | hf
  rotate_right
  · rw [noneed hf]
    rw [hf] at hm2
    obtain rfl : m2 = 0 := hm2
    (conv => whnf)
    exact ⟨rfl, hle2, rfl⟩
  · rw [if_neg (by decide), if_neg (show ¬ sOpaque = sIssSub by decide)]
    obtain rfl : m2 = 1 := hm2
    have e0 : (namesOf sOpaque).length + 1 = 2 := rfl
    have w2 : IntKind.i64.wrap (((1 : Nat) : Int) + 1) = 2 := by decide
    have w0 : IntKind.i64.wrap (((1 : Nat) : Int) - 1) = 1 - 1 := by decide
    have hget : (stC (bL (namesOf sOpaque)))[1 - 1]? = some (.string sId) := rfl
    rw [e0, show (namesOf sOpaque).getD 0 ⟨#[]⟩ = sId from rfl]
    (conv => whnf)
    refine ⟨⟨_, Tryz.func54, rfl, by kernel_rfl⟩, CallS.use (Rt.right_ _ j (Nat.lt_succ_self _) hs k y t A n c B m d H2 (hj.mono hle2)) [] rfl rfl trivial ?_⟩
    rintro e H3 G' hle3 ⟨rfl, hle4, rfl⟩
    cases hrj : rightJ j
    all_goals (conv => whnf)
    · exact ⟨rfl, hle2.trans hle3, rfl⟩
    rw [w2]
    refine br.of (fun h5 => ?_) (fun h5 => ?_) <;> (conv => whnf)
    · simp only [bne_iff_ne, ne_eq] at h5
      rw [if_pos (.inr (by omega))]
      exact ⟨rfl, hle2.trans hle3, rfl⟩
    simp only [bne_eq_false_iff_eq] at h5
    have hno : ¬ (true = false ∨ j.mems.length ≠ 2) := by
      rintro (h | h)
      · cases h
      · omega
    rw [if_neg hno]
    have hmem := fun H3 (hle : H2.Le H3) => member_ j hl sId k y t A n c B m d H3 ((hj.mono hle2).mono hle)
    have hfin := hle2.trans hle3
    generalize memT j sId = p at hmem ⊢
    obtain ⟨q, b⟩ := p
    cases b
    all_goals
      refine WS.draw tab mixed (.take 0 (.take 1 (.take 2 (.take 3 (.take 4 (.take 5 (.take 6 (.alt 7 (.take 8 (.take 9 (.take 10 (.take 11 (.alt 12 (.take 13 .done) .no))))) .no)))))))) (by kernel_rfl) [2] ?_
      (conv => whnf)
      refine ⟨by rw [w0]; decide, hv2.addr (by decide), ?_⟩
      (conv => whnf)
      refine ⟨_, ((hv2.mono hle3).get hget (by show (IntKind.i64.wrap _).toNat * 1 = _; rw [w0]; rfl)), ?_⟩
      (conv => whnf)
      repeat' (first
        | exact trivial
        | exact rfl
        | exact ⟨rfl, rfl, trivial⟩
        | exact ⟨rfl, hfin, rfl⟩
        | exact ⟨_, Tryz.func109, rfl, by kernel_rfl⟩
        | exact ⟨_, Tryz.func51, rfl, by kernel_rfl⟩
        | (refine CallS.use (hmem _ hle3) [] rfl rfl trivial ?_; rintro e H4 G' hle5 ⟨rfl, rfl, rfl⟩; (conv => whnf))
        | (refine CallS.use (right0 sOpaque q ⟨#[]⟩ _) [] rfl rfl trivial ?_; rintro e H5 G' hle6 ⟨rfl, rfl⟩; have hfin := hfin.trans hle6; cases subRight ⟨sOpaque, q, ⟨#[]⟩⟩ <;> (conv => whnf))
        | (refine And.intro ?_ ?_ <;> (conv => whnf)))
  · rw [if_neg (by decide), if_neg (show ¬ sEmail = sIssSub by decide)]
    obtain rfl : m2 = 1 := hm2
    have e0 : (namesOf sEmail).length + 1 = 2 := rfl
    have w2 : IntKind.i64.wrap (((1 : Nat) : Int) + 1) = 2 := by decide
    have w0 : IntKind.i64.wrap (((1 : Nat) : Int) - 1) = 1 - 1 := by decide
    have hget : (stC (bL (namesOf sEmail)))[1 - 1]? = some (.string sEmail) := rfl
    rw [e0, show (namesOf sEmail).getD 0 ⟨#[]⟩ = sEmail from rfl]
    (conv => whnf)
    refine ⟨⟨_, Tryz.func54, rfl, by kernel_rfl⟩, CallS.use (Rt.right_ _ j (Nat.lt_succ_self _) hs k y t A n c B m d H2 (hj.mono hle2)) [] rfl rfl trivial ?_⟩
    rintro e H3 G' hle3 ⟨rfl, hle4, rfl⟩
    cases hrj : rightJ j
    all_goals (conv => whnf)
    · exact ⟨rfl, hle2.trans hle3, rfl⟩
    rw [w2]
    refine br.of (fun h5 => ?_) (fun h5 => ?_) <;> (conv => whnf)
    · simp only [bne_iff_ne, ne_eq] at h5
      rw [if_pos (.inr (by omega))]
      exact ⟨rfl, hle2.trans hle3, rfl⟩
    simp only [bne_eq_false_iff_eq] at h5
    have hno : ¬ (true = false ∨ j.mems.length ≠ 2) := by
      rintro (h | h)
      · cases h
      · omega
    rw [if_neg hno]
    have hmem := fun H3 (hle : H2.Le H3) => member_ j hl sEmail k y t A n c B m d H3 ((hj.mono hle2).mono hle)
    have hfin := hle2.trans hle3
    generalize memT j sEmail = p at hmem ⊢
    obtain ⟨q, b⟩ := p
    cases b
    all_goals
      refine WS.draw tab mixed (.take 0 (.take 1 (.take 2 (.take 3 (.take 4 (.take 5 (.take 6 (.alt 7 (.take 8 (.take 9 (.take 10 (.take 11 (.alt 12 (.take 13 .done) .no))))) .no)))))))) (by kernel_rfl) [2] ?_
      (conv => whnf)
      refine ⟨by rw [w0]; decide, hv2.addr (by decide), ?_⟩
      (conv => whnf)
      refine ⟨_, ((hv2.mono hle3).get hget (by show (IntKind.i64.wrap _).toNat * 1 = _; rw [w0]; rfl)), ?_⟩
      (conv => whnf)
      repeat' (first
        | exact trivial
        | exact rfl
        | exact ⟨rfl, rfl, trivial⟩
        | exact ⟨rfl, hfin, rfl⟩
        | exact ⟨_, Tryz.func109, rfl, by kernel_rfl⟩
        | exact ⟨_, Tryz.func51, rfl, by kernel_rfl⟩
        | (refine CallS.use (hmem _ hle3) [] rfl rfl trivial ?_; rintro e H4 G' hle5 ⟨rfl, rfl, rfl⟩; (conv => whnf))
        | (refine CallS.use (right0 sEmail q ⟨#[]⟩ _) [] rfl rfl trivial ?_; rintro e H5 G' hle6 ⟨rfl, rfl⟩; have hfin := hfin.trans hle6; cases subRight ⟨sEmail, q, ⟨#[]⟩⟩ <;> (conv => whnf))
        | (refine And.intro ?_ ?_ <;> (conv => whnf)))
  · rw [if_neg (by decide), if_pos (show sIssSub = sIssSub from rfl)]
    obtain rfl : m2 = 2 := hm2
    have e0 : (namesOf sIssSub).length + 1 = 3 := rfl
    have w2 : IntKind.i64.wrap (((2 : Nat) : Int) + 1) = 3 := by decide
    have w0 : IntKind.i64.wrap (((2 : Nat) : Int) - 1) = 2 - 1 := by decide
    have hget : (stC (bL (namesOf sIssSub)))[2 - 1]? = some (.string sSub) := rfl
    rw [e0]
    (conv => whnf)
    refine ⟨⟨_, Tryz.func54, rfl, by kernel_rfl⟩, CallS.use (Rt.right_ _ j (Nat.lt_succ_self _) hs k y t A n c B m d H2 (hj.mono hle2)) [] rfl rfl trivial ?_⟩
    rintro e H3 G' hle3 ⟨rfl, hle4, rfl⟩
    cases hrj : rightJ j
    all_goals (conv => whnf)
    · exact ⟨rfl, hle2.trans hle3, rfl⟩
    rw [w2]
    refine br.of (fun h5 => ?_) (fun h5 => ?_) <;> (conv => whnf)
    · simp only [bne_iff_ne, ne_eq] at h5
      rw [if_pos (.inr (by omega))]
      exact ⟨rfl, hle2.trans hle3, rfl⟩
    simp only [bne_eq_false_iff_eq] at h5
    have hno : ¬ (true = false ∨ j.mems.length ≠ 3) := by
      rintro (h | h)
      · cases h
      · omega
    rw [if_neg hno]
    have hmem := fun H3 (hle : H2.Le H3) => member_ j hl sSub k y t A n c B m d H3 ((hj.mono hle2).mono hle)
    have hfin := hle2.trans hle3
    have hget2 : (stC (bL (namesOf sIssSub)))[0]? = some (.string sIss) := rfl
    have hmem2 := fun H3 (hle : H2.Le H3) => member_ j hl sIss k y t A n c B m d H3 ((hj.mono hle2).mono hle)
    generalize memT j sSub = p at hmem ⊢
    generalize memT j sIss = p2 at hmem2 ⊢
    obtain ⟨q, b⟩ := p
    obtain ⟨q2, b2⟩ := p2
    cases b <;> cases b2
    all_goals
      refine WS.draw tab mixed (.take 0 (.take 1 (.take 2 (.take 3 (.take 4 (.take 5 (.take 6 (.alt 7 (.take 8 (.take 9 (.take 10 (.take 11 (.alt 12 (.take 13 .done) .no))))) .no)))))))) (by kernel_rfl) [2] ?_
      (conv => whnf)
      refine ⟨by rw [w0]; decide, hv2.addr (by decide), ?_⟩
      (conv => whnf)
      refine ⟨_, ((hv2.mono hle3).get hget (by show (IntKind.i64.wrap _).toNat * 1 = _; rw [w0]; rfl)), ?_⟩
      (conv => whnf)
      repeat' (first
        | exact trivial
        | exact rfl
        | exact ⟨rfl, rfl, trivial⟩
        | exact ⟨rfl, hfin, rfl⟩
        | exact ⟨_, Tryz.func109, rfl, by kernel_rfl⟩
        | exact ⟨_, Tryz.func51, rfl, by kernel_rfl⟩
        | (refine CallS.use (hmem _ hle3) [] rfl rfl trivial ?_; rintro e H4 G' hle5 ⟨rfl, rfl, rfl⟩; (conv => whnf))
        | (refine ⟨⟨by decide, by decide⟩, hv2.addr (by decide), ?_⟩; (conv => whnf))
        | (refine ⟨_, ((hv2.mono hle3).get hget2 rfl), ?_⟩; (conv => whnf))
        | (refine WS.draw tab mixed (.take 0 (.take 1 (.take 2 (.take 3 (.alt 4 (.take 5 (.take 6 (.take 7 (.take 8 (.alt 9 (.take 10 .done) .no))))) .no))))) (by kernel_rfl) [2] ?_; (conv => whnf))
        | (refine CallS.use (hmem2 _ hle3) [] rfl rfl trivial ?_; rintro e H4 G' hle5 ⟨rfl, rfl, rfl⟩; (conv => whnf))
        | (refine CallS.use (right0 sIssSub q q2 _) [] rfl rfl trivial ?_; rintro e H5 G' hle6 ⟨rfl, rfl⟩; have hfin := hfin.trans hle6; cases subRight ⟨sIssSub, q, q2⟩ <;> (conv => whnf))
        | (refine And.intro ?_ ?_ <;> (conv => whnf)))
end Go.Kx.Su
namespace Go.Kx.Se
open Go.Proofs Go.Kx Go.RowKit Go.Kx.Js Go.Kx.Pr Go.Kx.Rt Go.Kx.Ob Go.Kx.Wo Go.Kx.Cl Go.Kx.Pa Go.Kx.Su
set_option maxRecDepth 20000
set_option linter.unusedSimpArgs false
def T : Tab := [(25, { k := TK.st [(0, 9, 1), (1, 9, 1), (2, 9, 1), (3, 3, 1), (4, 9, 1), (5, 23, 3), (8, 3, 1), (9, 9, 1)], agg := true, size := 10, bytes := 144, zero := [Z.s, Z.s, Z.s, Z.i IntKind.i64, Z.s, Z.s, Z.s, Z.s, Z.i IntKind.i64, Z.s] }), (23, { k := TK.st [(0, 9, 1), (1, 9, 1), (2, 9, 1)], agg := true, size := 3, bytes := 48, zero := [Z.s, Z.s, Z.s] }), (9, { k := TK.string, agg := false, size := 1, bytes := 16, zero := [Z.s] }), (52, { k := TK.st [(0, 9, 1), (1, 34, 5)], agg := true, size := 6, bytes := 96, zero := [Z.s, Z.i IntKind.i64, Z.b, Z.s, Z.sl, Z.sl] }), (34, { k := TK.st [(0, 3, 1), (1, 4, 1), (2, 9, 1), (3, 31, 1), (4, 32, 1)], agg := true, size := 5, bytes := 80, zero := [Z.i IntKind.i64, Z.b, Z.s, Z.sl, Z.sl] }), (35, { k := TK.int IntKind.i64, agg := false, size := 1, bytes := 8, zero := [Z.i IntKind.i64] }), (4, { k := TK.bool, agg := false, size := 1, bytes := 1, zero := [Z.b] }), (3, { k := TK.int IntKind.i64, agg := false, size := 1, bytes := 8, zero := [Z.i IntKind.i64] }), (32, { k := TK.slice 52, agg := false, size := 1, bytes := 24, zero := [Z.sl] }), (55, { k := TK.slice 5, agg := false, size := 1, bytes := 24, zero := [Z.sl] }), (63, { k := TK.st [(0, 9, 1), (1, 9, 1)], agg := true, size := 2, bytes := 32, zero := [Z.s, Z.s] }), (80, { k := TK.st [(0, 63, 2), (2, 55, 1), (3, 9, 1), (4, 55, 1)], agg := true, size := 5, bytes := 96, zero := [Z.s, Z.s, Z.sl, Z.s, Z.sl] }), (69, { k := TK.slice 9, agg := false, size := 1, bytes := 24, zero := [Z.sl] }), (31, { k := TK.slice 34, agg := false, size := 1, bytes := 24, zero := [Z.sl] }), (5, { k := TK.int IntKind.u8, agg := false, size := 1, bytes := 1, zero := [Z.i IntKind.u8] })]
set_option maxRecDepth 100000 in
theorem tab : TabOk Tryz.prog T := tabOk_mk (ts := [25, 23, 9, 52, 34, 35, 4, 3, 32, 55, 63, 80, 69, 31, 5]) (by kernel_rfl)
theorem mixed : Tryz.prog.follows .mixedOrders = true := by kernel_rfl
def sfxN : List Value := [.string (⟨#[99, 97, 101, 112, 47, 101, 118, 101, 110, 116, 45, 116, 121, 112, 101, 47, 115, 101, 115, 115, 105, 111, 110, 45, 114, 101, 118, 111, 107, 101, 100]⟩ : ByteArray), .string (⟨#[99, 97, 101, 112, 47, 101, 118, 101, 110, 116, 45, 116, 121, 112, 101, 47, 99, 114, 101, 100, 101, 110, 116, 105, 97, 108, 45, 99, 104, 97, 110, 103, 101]⟩ : ByteArray), .string (⟨#[114, 105, 115, 99, 47, 101, 118, 101, 110, 116, 45, 116, 121, 112, 101, 47, 97, 99, 99, 111, 117, 110, 116, 45, 100, 105, 115, 97, 98, 108, 101, 100]⟩ : ByteArray), .string (⟨#[114, 105, 115, 99, 47, 101, 118, 101, 110, 116, 45, 116, 121, 112, 101, 47, 97, 99, 99, 111, 117, 110, 116, 45, 101, 110, 97, 98, 108, 101, 100]⟩ : ByteArray), .string (⟨#[99, 97, 101, 112, 47, 101, 118, 101, 110, 116, 45, 116, 121, 112, 101, 47, 116, 111, 107, 101, 110, 45, 99, 108, 97, 105, 109, 115, 45, 99, 104, 97, 110, 103, 101]⟩ : ByteArray), .string (⟨#[115, 115, 101, 47, 101, 118, 101, 110, 116, 45, 116, 121, 112, 101, 47, 118, 101, 114, 105, 102, 105, 99, 97, 116, 105, 111, 110]⟩ : ByteArray)]
abbrev frontB := (⟨#[104, 116, 116, 112, 115, 58, 47, 47, 115, 99, 104, 101, 109, 97, 115, 46, 111, 112, 101, 110, 105, 100, 46, 110, 101, 116, 47, 115, 101, 99, 101, 118, 101, 110, 116, 47]⟩ : ByteArray)
theorem names0 (H : Hp) : CallO Tryz.prog 30 [] H [] fun e H' G' => e = .ret (.si (.ce (.self 0))) ∧ H.Le H' ∧ G' = [.row 9 1 6 (allN.map Value.string)] := by
  refine CallO.of_body tab Tryz.func30 rfl (nt := Tryz.f30.ntmps) rfl (by kernel_rfl) ?_
  (conv => whnf)
  refine ⟨by decide, .inl ?_⟩
  intro g H2 hle hrd
  (conv => whnf)
  refine WS.nilRow 1 9 1 rfl ?_
  (conv => whnf)
  generalize hA : (some ⟨g, 0, none⟩ : Option Addr) = A at *
  have hv : VAt H2 A 6 sfxN := by
    refine ⟨rfl, ?_, ?_⟩
    · intro e
      rw [← hA] at e
      cases e
    · intro a e
      rw [← e]
      exact hrd
  refine WS.loop (fun k' F H3 G => ∃ i : Nat, i ≤ 6 ∧ k' = 6 - i ∧ F = [(1, .si (.ce (.self 0))), (4, pv (.slice A 6 6)), (5, pv (.int .i64 6)), (6, pv (.int .i64 i))] ∧ H2.Le H3 ∧ G = [.row 9 1 i ((allN.take i).map Value.string)]) 7 ?_ ?_
  · refine ⟨6, by omega, _, _, [0], ⟨0, by omega, rfl, rfl, .refl _, rfl⟩, ?_⟩
    exact ⟨rfl, ⟨rfl, trivial⟩, rfl, rfl, rfl, rfl, trivial⟩
  rintro k' F H3 G hle3 ⟨i, hi, rfl, rfl, hle4, rfl⟩
  refine codeL.go tab ?_
  (conv => whnf)
  refine br.of (fun h7 => ?_) (fun h7 => ?_) <;> (conv => whnf)
  · have h7 := of_decide_eq_true h7
    obtain ⟨x, hx, hfx, hsz⟩ : ∃ x : ByteArray, sfxN[i]? = some (.string x) ∧ allN[i]? = some (frontB ++ x) ∧ x.size ≤ 100 := by
      obtain rfl | rfl | rfl | rfl | rfl | rfl : i = 0 ∨ i = 1 ∨ i = 2 ∨ i = 3 ∨ i = 4 ∨ i = 5 := by omega
      all_goals exact ⟨_, rfl, by decide +kernel, by decide +kernel⟩
    have htake : (allN.take (i + 1)).map Value.string = (allN.take i).map Value.string ++ [.string (frontB ++ x)] := by rw [List.take_add_one, hfx, List.map_append]; rfl
    have hl : ((allN.take i).map Value.string).length = i := by rw [List.length_map, List.length_take]; show min i 6 = i; omega
    refine ⟨⟨by omega, by omega⟩, hv.addr (by decide), ?_⟩
    (conv => whnf)
    refine ⟨_, (hv.mono hle4).get hx (by show (i : Int).toNat * 1 = i; omega), ?_⟩
    (conv => whnf)
    have hfs : frontB.size ≤ 40 := by decide
    refine ⟨by show frontB.size + x.size ≤ _; omega, ?_⟩
    (conv => whnf)
    refine ⟨by decide, .inl ?_⟩
    intro ga H5 hle5 hrd2
    (conv => whnf)
    refine ⟨_, rfl, hrd2, fun u hu => by rcases List.mem_singleton.1 hu with rfl; rfl, ?_⟩
    (conv => whnf)
    refine ⟨by show (i + 1) * 17 ≤ _; omega, ?_⟩
    (conv => whnf)
    rw [wrap64 (x := (i : Int) + 1) (by omega) (by omega)]
    refine ⟨6 - (i + 1), by omega, _, _, [1], ⟨i + 1, by omega, rfl, rfl, hle4.trans hle5, rfl⟩, ?_⟩
    refine ⟨rfl, ⟨?_, trivial⟩, rfl, rfl, rfl, rfl, trivial⟩
    rw [htake]; rfl
  · have h7 := of_decide_eq_false h7
    obtain rfl : i = 6 := by omega
    exact ⟨rfl, hle.trans hle4, rfl⟩
theorem names_ (H : Hp) : CallO Tryz.prog 30 [] H [] fun e H' G' => RetV (bL allN) e H' ∧ H.Le H' ∧ G' = [] := by
  refine CallO.sub (CallO.frz (K := fun e H' G' => RetV (bL allN) e H' ∧ H.Le H' ∧ G' = [.dead]) (names0 H) ?_) ?_
  · rintro e H' G' hle ⟨rfl, hle1, rfl⟩
    refine ⟨0, 9, 1, _, _, rfl, fun h0 => absurd h0 (by decide), fun x H2 hle2 hfr => ?_⟩
    obtain ⟨B, cc, rfl, hv⟩ := VAt.of_frozen (by simp [allN]) hfr
    exact ⟨⟨B, _, cc, rfl, by rw [stC_bL]; exact hv⟩, hle1.trans hle2, rfl⟩
  · rintro e H' G' hle ⟨⟨B, m, cc, rfl, hv⟩, hle1, rfl⟩
    exact ⟨_, [], [], rfl, trivial, rfl, ⟨B, m, cc, rfl, hv⟩, hle1, rfl⟩
theorem name_ (k : Int) (h0 : -9223372036854775808 ≤ k) (h1 : k ≤ 9223372036854775807) (H : Hp) : CallO Tryz.prog 28 [pv (.int .i64 k)] H [] fun e H' G' => e = .ret (.tu [.ce (.val (.string (nameK k))), .ce (.val (.bool (decide (1 ≤ k) && decide (k ≤ 6))))]) ∧ H.Le H' ∧ G' = [] := by
  unfold nameK
  refine CallO.of_body tab Tryz.func28 rfl (nt := Tryz.f28.ntmps) rfl (by kernel_rfl) ?_
  (conv => whnf)
  refine br.of (fun h2 => ?_) (fun h2 => ?_) <;> (conv => whnf)
  · have h2 := of_decide_eq_true h2
    rw [if_neg (by omega), decide_eq_false (show ¬ 1 ≤ k by omega), Bool.false_and]
    exact ⟨rfl, .refl _, rfl⟩
  have h2 := of_decide_eq_false h2
  rw [decide_eq_true (show 1 ≤ k by omega), Bool.true_and]
  refine br.of (fun h3 => ?_) (fun h3 => ?_) <;> (conv => whnf)
  · have h3 := of_decide_eq_true h3
    rw [if_neg (by omega), decide_eq_false (show ¬ k ≤ 6 by omega)]
    exact ⟨rfl, .refl _, rfl⟩
  have h3 := of_decide_eq_false h3
  rw [if_pos (by omega), decide_eq_true (show k ≤ 6 by omega)]
  refine ⟨⟨_, Tryz.func30, rfl, by kernel_rfl⟩, CallS.use (names_ H) [] rfl rfl trivial ?_⟩
  rintro e H2 G' hle ⟨⟨B, m, cc, rfl, hv⟩, hle1, rfl⟩
  have hm : m = 6 := by have := hv.1; rw [stC_len] at this; exact this
  subst hm
  rw [stC_bL] at hv
  (conv => whnf)
  rw [wrap64 (x := k - 1) (by omega) (by omega)]
  refine ⟨⟨by omega, by omega⟩, hv.addr (by decide), ?_⟩
  (conv => whnf)
  have hget : (allN.map Value.string)[(k - 1).toNat]? = some (.string (allN.getD (k - 1).toNat ⟨#[]⟩)) := by
    have : (k - 1).toNat < allN.length := by show _ < 6; omega
    rw [List.getElem?_map, List.getD_eq_getElem?_getD, List.getElem?_eq_getElem this]; rfl
  refine ⟨_, hv.get hget (by show (k - 1).toNat * 1 = _; omega), ?_⟩
  (conv => whnf)
  exact ⟨rfl, hle1, rfl⟩
def ixT (s : ByteArray) : List ByteArray → Int
  | [] => -1
  | t :: r => if s = t then 0 else if ixT s r < 0 then -1 else ixT s r + 1
theorem ixT_ge (s : ByteArray) : ∀ l, -1 ≤ ixT s l ∧ ixT s l < l.length
  | [] => ⟨by simp [ixT], by simp [ixT]⟩
  | t :: r => by
    obtain ⟨h1, h2⟩ := ixT_ge s r
    unfold ixT
    simp only [List.length_cons]
    split
    · omega
    · split <;> omega
theorem ixT_front (s : ByteArray) : ∀ (l r : List ByteArray), (∀ t ∈ l, s ≠ t) → ixT s (l ++ r) = if ixT s r < 0 then -1 else ixT s r + l.length
  | [], r, _ => by
    have := ixT_ge s r
    simp only [List.nil_append, List.length_nil]
    split <;> omega
  | t :: l, r, h => by
    have h1 := ixT_front s l r (fun t ht => h t (by simp [ht]))
    have := ixT_ge s r
    simp only [List.cons_append, ixT]
    rw [if_neg (h t (by simp)), h1]
    simp only [List.length_cons]
    by_cases h0 : ixT s r < 0
    · rw [if_pos h0, if_pos (by omega), if_pos h0]
    · rw [if_neg h0, if_neg (by omega)]; omega
theorem index_ (s : ByteArray) (L : List ByteArray) (hL : L.length ≤ 1000000) (B : Option Addr) (cc : Nat) (H : Hp) (hv : VAt H B L.length (stC (bL L))) : CallO Tryz.prog 76 [pv (.slice B L.length cc), pv (.string s)] H [] fun e H' G' => e = .ret (pv (.int .i64 (ixT s L))) ∧ H' = H ∧ G' = [] := by
  rw [stC_bL] at hv
  refine CallO.of_body tab Tryz.func76 rfl (nt := Tryz.f76.ntmps) rfl (by kernel_rfl) ?_
  (conv => whnf)
  refine WS.loop (fun k' F H3 G => ∃ i : Nat, i ≤ L.length ∧ (∀ t ∈ L.take i, s ≠ t) ∧ k' = L.length - i ∧ F = [(0, pv (.slice B L.length cc)), (1, pv (.string s)), (7, pv (.int .i64 L.length)), (8, pv (.int .i64 i))] ∧ H3 = H ∧ G = []) (L.length + 1) ?_ ?_
  · refine ⟨L.length, by omega, _, _, [], ⟨0, by omega, fun t ht => by simp at ht, rfl, rfl, rfl, rfl⟩, ?_⟩
    exact ⟨rfl, trivial, rfl, rfl, rfl, rfl, trivial⟩
  rintro k' F H3 G hle3 ⟨i, hi, hno, rfl, rfl, rfl, rfl⟩
  refine codeL.go tab ?_
  (conv => whnf)
  refine br.of (fun h7 => ?_) (fun h7 => ?_) <;> (conv => whnf)
  · have h7 := of_decide_eq_true h7
    have hil : i < L.length := by omega
    have hget : (L.map Value.string)[i]? = some (.string (L[i]'hil)) := by simp [hil]
    have hdr : L = L.take i ++ L[i]'hil :: L.drop (i + 1) := by rw [← List.drop_eq_getElem_cons hil, List.take_append_drop]
    have htk : L.take (i + 1) = L.take i ++ [L[i]'hil] := by rw [List.take_add_one, List.getElem?_eq_getElem hil]; rfl
    generalize L[i]'hil = t at hget hdr htk
    refine ⟨⟨by omega, by omega⟩, hv.addr (by omega), ?_⟩
    (conv => whnf)
    refine ⟨_, hv.get hget (by show (i : Int).toNat * 1 = i; omega), ?_⟩
    (conv => whnf)
    refine br.of (fun h8 => ?_) (fun h8 => ?_) <;> (conv => whnf)
    · have h8 := (strEq_iff ..).1 h8
      refine ⟨?_, rfl, rfl⟩
      have : ixT s L = i := by
        rw [hdr, ixT_front s _ _ hno]
        have : ixT s (t :: L.drop (i + 1)) = 0 := by unfold ixT; rw [if_pos h8]
        rw [this, if_neg (by omega), List.length_take]
        omega
      rw [this]; rfl
    · have h8 : s ≠ t := fun h => by rw [h, str_refl] at h8; cases h8
      rw [wrap64 (x := (i : Int) + 1) (by omega) (by omega)]
      refine ⟨L.length - (i + 1), by omega, _, _, [], ⟨i + 1, by omega, fun u hu => ?_, rfl, rfl, rfl, rfl⟩, ?_⟩
      · rw [htk] at hu
        rcases List.mem_append.1 hu with hu | hu
        · exact hno u hu
        · rw [List.mem_singleton.1 hu]; exact h8
      · exact ⟨rfl, trivial, rfl, rfl, rfl, rfl, trivial⟩
  · have h7 := of_decide_eq_false h7
    obtain rfl : i = L.length := by omega
    rw [List.take_length] at hno
    refine ⟨?_, rfl, rfl⟩
    have : ixT s L = -1 := by
      have := ixT_front s L [] hno
      rw [List.append_nil] at this
      rw [this]
      simp [ixT]
    rw [this]; rfl
theorem kind_ix (s : ByteArray) : kindN s = ixT s allN + 1 ∧ (decide (ixT s allN ≥ 0) = !(kindN s == 0)) := by
  unfold kindN allN
  simp only [ixT]
  repeat' split
  all_goals first | exact ⟨rfl, rfl⟩ | omega | (constructor <;> simp_all)
theorem kind_ (s : ByteArray) (H : Hp) : CallO Tryz.prog 29 [pv (.string s)] H [] fun e H' G' => e = .ret (.tu [.ce (.val (.int .i64 (kindN s))), .ce (.val (.bool (!(kindN s == 0))))]) ∧ H.Le H' ∧ G' = [] := by
  obtain ⟨hk1, hk2⟩ := kind_ix s
  obtain ⟨g1, g2⟩ := ixT_ge s allN
  have g3 : allN.length = 6 := rfl
  rw [← hk2, hk1]
  clear hk1 hk2
  refine CallO.of_body tab Tryz.func29 rfl (nt := Tryz.f29.ntmps) rfl (by kernel_rfl) ?_
  (conv => whnf)
  refine ⟨⟨_, Tryz.func30, rfl, by kernel_rfl⟩, CallS.use (names_ H) [] rfl rfl trivial ?_⟩
  rintro e H2 G' hle ⟨⟨B, m, cc, rfl, hv⟩, hle1, rfl⟩
  have hm : m = allN.length := by have := hv.1; rw [stC_len] at this; exact this
  subst hm
  (conv => whnf)
  refine ⟨⟨_, Tryz.func76, rfl, by kernel_rfl⟩, CallS.use (index_ s allN (by decide) B cc H2 hv) [] rfl rfl trivial ?_⟩
  rintro e H3 G' hle3 ⟨rfl, rfl, rfl⟩
  generalize ixT s allN = i at *
  (conv => whnf)
  rw [wrap64 (x := i + 1) (by omega) (by omega)]
  exact ⟨rfl, hle1, rfl⟩
end Go.Kx.Se
namespace Go.Kx.Se
open Go.Proofs Go.Kx Go.RowKit Go.Kx.Js Go.Kx.Pr Go.Kx.Rt Go.Kx.Ob Go.Kx.Wo Go.Kx.Cl Go.Kx.Pa Go.Kx.Su
set_option maxRecDepth 20000
set_option linter.unusedSimpArgs false
abbrev cs10 (a b c : ByteArray) (n : Int) (t f i o : ByteArray) (k : Int) (r : ByteArray) : List SC := [.val (.string a), .val (.string b), .val (.string c), .val (.int .i64 n), .val (.string t), .val (.string f), .val (.string i), .val (.string o), .val (.int .i64 k), .val (.string r)]
def agC (c : Clm) : SV := .si (.ag (cs10 c.iss c.jti c.aud c.iat c.txn c.sub.fmt c.sub.id c.sub.own c.kind c.reason))
theorem right0 (a b c : ByteArray) (n : Int) (t f i o : ByteArray) (k : Int) (r : ByteArray) (hk : -9223372036854775808 ≤ k ∧ k ≤ 9223372036854775807) (H : Hp) :
    CallO Tryz.prog 15 [.si (.ag (cs10 a b c n t f i o k r))] H [] fun e H' G' => e = .ret (pv (.bool (clRight ⟨a, b, c, n, t, ⟨f, i, o⟩, k, r⟩))) ∧ H.Le H' ∧ G' = [] := by
  unfold clRight
  dsimp only
  refine CallO.of_body tab Tryz.func15 rfl (nt := Tryz.f15.ntmps) rfl (by kernel_rfl) ?_
  (conv => whnf)
  refine ⟨⟨_, Tryz.func28, rfl, by kernel_rfl⟩, CallS.use (name_ k hk.1 hk.2 H) [] rfl rfl trivial ?_⟩
  rintro e H1 G' hle1 ⟨rfl, hle1', rfl⟩
  generalize hb : (decide (1 ≤ k) && decide (k ≤ 6)) = b0
  cases b0
  all_goals (conv => whnf)
  · exact ⟨rfl, hle1, rfl⟩
  refine ⟨⟨_, Tryz.func50, rfl, by kernel_rfl⟩, CallS.use (setWord a _) [] rfl rfl trivial ?_⟩
  rintro e H2 G' hle2 ⟨rfl, rfl⟩
  have hle2 := hle1.trans hle2
  cases Wo.wordP 256 a
  all_goals (conv => whnf)
  · exact ⟨rfl, hle2, rfl⟩
  refine ⟨⟨_, Tryz.func50, rfl, by kernel_rfl⟩, CallS.use (setWord b _) [] rfl rfl trivial ?_⟩
  rintro e H3 G' hle3 ⟨rfl, rfl⟩
  have hle3 := hle2.trans hle3
  cases Wo.wordP 256 b
  all_goals (conv => whnf)
  · exact ⟨rfl, hle3, rfl⟩
  refine ⟨⟨_, Tryz.func50, rfl, by kernel_rfl⟩, CallS.use (setWord c _) [] rfl rfl trivial ?_⟩
  rintro e H4 G' hle4 ⟨rfl, rfl⟩
  have hle4 := hle3.trans hle4
  cases Wo.wordP 256 c
  all_goals (conv => whnf)
  · exact ⟨rfl, hle4, rfl⟩
  refine ⟨⟨_, Tryz.func50, rfl, by kernel_rfl⟩, CallS.use (setWord t _) [] rfl rfl trivial ?_⟩
  rintro e H5 G' hle5 ⟨rfl, rfl⟩
  have hle5 := hle4.trans hle5
  cases Wo.wordP 256 t
  all_goals (conv => whnf)
  · exact ⟨rfl, hle5, rfl⟩
  refine br.of (fun h1 => ?_) (fun h1 => ?_) <;> (conv => whnf)
  rotate_left
  · have h1 := of_decide_eq_false h1
    rw [decide_eq_false (show ¬ 0 ≤ n by omega)]
    exact ⟨rfl, hle5, rfl⟩
  have h1 := of_decide_eq_true h1
  rw [decide_eq_true (show 0 ≤ n by omega)]
  refine br.of (fun h2 => ?_) (fun h2 => ?_) <;> (conv => whnf)
  rotate_left
  · have h2 := of_decide_eq_false h2
    rw [decide_eq_false (show ¬ n ≤ 1099511627776 by omega)]
    exact ⟨rfl, hle5, rfl⟩
  have h2 := of_decide_eq_true h2
  rw [decide_eq_true (show n ≤ 1099511627776 by omega)]
  refine ⟨⟨_, Tryz.func51, rfl, by kernel_rfl⟩, CallS.use (Su.right0 f i o _) [] rfl rfl trivial ?_⟩
  rintro e H6 G' hle6 ⟨rfl, rfl⟩
  have hle6 := hle5.trans hle6
  cases subRight ⟨f, i, o⟩
  all_goals (conv => whnf)
  · exact ⟨rfl, hle6, rfl⟩
  refine br.of (fun h3 => ?_) (fun h3 => ?_) <;> (conv => whnf)
  · have h3' : strEq r ⟨#[]⟩ = true := h3
    rw [h3']
    exact ⟨rfl, hle6, rfl⟩
  have h3' : strEq r ⟨#[]⟩ = false := h3
  rw [h3']
  refine ⟨⟨_, Tryz.func50, rfl, by kernel_rfl⟩, CallS.use (setWord r _) [] rfl rfl trivial ?_⟩
  rintro e H7 G' hle7 ⟨rfl, rfl⟩
  (conv => whnf)
  exact ⟨rfl, hle6.trans hle7, rfl⟩
theorem member_ (s : ByteArray) (k : Int) (y : Bool) (t : ByteArray) (A : Option Addr) (n c : Nat) (B : Option Addr) (m d : Nat) (H : Hp) :
    CallO Tryz.prog 47 [pv (.string s), agJ k y t A n c B m d] H [] fun e H' G' => e = .ret (.si (.ag [.val (.string s), .val (.int .i64 k), .val (.bool y), .val (.string t), .val (.slice A n c), .val (.slice B m d)])) ∧ H' = H ∧ G' = [] := by
  refine CallO.of_body tab Tryz.func47 rfl (nt := Tryz.f47.ntmps) rfl (by kernel_rfl) ?_
  (conv => whnf)
  exact ⟨rfl, rfl, rfl⟩
theorem events0 (a b c : ByteArray) (n : Int) (t f i o : ByteArray) (k : Int) (r : ByteArray) (hk : 1 ≤ k ∧ k ≤ 6) (H : Hp) :
    CallO Tryz.prog 49 [.si (.ag (cs10 a b c n t f i o k r))] H [] fun e H' G' => (∃ k' y' t' A' n' c' B' m' d', e = .ret (agJ k' y' t' A' n' c' B' m' d') ∧ JAt H' (evJ ⟨a, b, c, n, t, ⟨f, i, o⟩, k, r⟩) [.int .i64 k', .bool y', .string t', .slice A' n' c', .slice B' m' d']) ∧ H.Le H' ∧ G' = [] := by
  refine CallO.of_body tab Tryz.func49 rfl (nt := Tryz.f49.ntmps) rfl (by kernel_rfl) ?_
  (conv => whnf)
  refine br.of (fun h1 => ?_) (fun h1 => ?_) <;> (conv => whnf)
  · refine ⟨⟨_, Tryz.func48, rfl, by kernel_rfl⟩, CallS.use (Ob.str_ r _) [] rfl rfl trivial ?_⟩
    rintro e H2 G' hle2 ⟨rfl, rfl, rfl⟩
    (conv => whnf)
    refine ⟨⟨_, Tryz.func47, rfl, by kernel_rfl⟩, CallS.use (member_ sReason 4 false r none 0 0 none 0 0 _) [] rfl rfl trivial ?_⟩
    rintro e H3 G' hle3 ⟨rfl, rfl, rfl⟩
    (conv => whnf)
    refine ⟨by decide, .inl ?_⟩
    intro g H4 hle4 hrd
    (conv => whnf)
    have hone : ∀ u ∈ [Value.string sReason, .int .i64 4, .bool false, .string r, .slice none 0 0, .slice none 0 0], u.oneCell' = true := fun u hu => by simp only [List.mem_cons, List.mem_nil_iff, or_false] at hu; rcases hu with rfl | rfl | rfl | rfl | rfl | rfl <;> rfl
    refine ⟨_, rfl, hrd, hone, ?_⟩
    (conv => whnf)
    refine ⟨by decide, ?_⟩
    (conv => whnf)
    have hr : ¬ strEq r ⟨#[]⟩ = true := by simpa using h1
    have hev : evMs ⟨a, b, c, n, t, ⟨f, i, o⟩, k, r⟩ = [(sReason, strJ r)] := by unfold evMs; dsimp only; rw [if_neg hr]
    refine ⟨⟨_, Tryz.func28, rfl, by kernel_rfl⟩, CallS.use (name_ k (by omega) (by omega) _) [] rfl rfl trivial ?_⟩
    rintro e H5 G' hle5 ⟨rfl, hle5', rfl⟩
    (conv => whnf)
    refine ⟨⟨_, Tryz.func22, rfl, by kernel_rfl⟩, CallS.use (objO [(sReason, strJ r)] [.string sReason, .int .i64 4, .bool false, .string r, .slice none 0 0, .slice none 0 0] Nat.zero_lt_one (Nat.le_of_ble_eq_true rfl) _ (.cons (.bare 4 false r) .nil)) [2] rfl rfl ⟨rfl, trivial⟩ ?_⟩
    rintro e H6 G' hle6 ⟨⟨B6, d6, rfl, hj6⟩, rfl⟩
    (conv => whnf)
    have hin0 : JAt H6 (objJ (evMs ⟨a, b, c, n, t, ⟨f, i, o⟩, k, r⟩)) [.int .i64 6, .bool false, .string ⟨#[]⟩, .slice none 0 0, .slice B6 1 d6] := by rw [hev]; exact hj6
    refine ⟨⟨_, Tryz.func47, rfl, by kernel_rfl⟩, CallS.use (member_ (nameK k) 6 false ⟨#[]⟩ none 0 0 B6 1 d6 _) [] rfl rfl trivial ?_⟩
    rintro e H7 G' hle7 ⟨rfl, rfl, rfl⟩
    (conv => whnf)
    refine ⟨by decide, .inl ?_⟩
    intro g2 H8 hle8 hrd2
    (conv => whnf)
    have hms8 : MsAt H8 [(nameK k, objJ (evMs ⟨a, b, c, n, t, ⟨f, i, o⟩, k, r⟩))] [.string (nameK k), .int .i64 6, .bool false, .string ⟨#[]⟩, .slice none 0 0, .slice B6 1 d6] := .cons (hin0.mono hle8) .nil
    refine ⟨⟨_, Tryz.func22, rfl, by kernel_rfl⟩, CallS.use (obj_ [(nameK k, objJ (evMs ⟨a, b, c, n, t, ⟨f, i, o⟩, k, r⟩))] (Nat.le_of_ble_eq_true rfl) (some ⟨g2, 0, none⟩) 1 _ H8 hms8 ⟨fun e => (nomatch e), fun a e => by injection e with e; subst e; exact hrd2⟩ Nat.zero_lt_one) [] rfl rfl trivial ?_⟩
    rintro e H9 G' hle9 ⟨⟨B3, d3, rfl, hj⟩, rfl⟩
    (conv => whnf)
    exact ⟨⟨_, _, _, _, _, _, _, _, _, rfl, hj⟩, ((((hle2.trans hle4).trans hle5).trans hle6).trans hle8).trans hle9, rfl⟩
  · have hr : strEq r ⟨#[]⟩ = true := by simpa using h1
    have hev : evMs ⟨a, b, c, n, t, ⟨f, i, o⟩, k, r⟩ = [] := by unfold evMs; dsimp only; rw [if_pos hr]
    refine ⟨⟨_, Tryz.func28, rfl, by kernel_rfl⟩, CallS.use (name_ k (by omega) (by omega) _) [] rfl rfl trivial ?_⟩
    rintro e H5 G' hle5 ⟨rfl, hle5', rfl⟩
    (conv => whnf)
    refine ⟨⟨_, Tryz.func22, rfl, by kernel_rfl⟩, CallS.use (objNil _) [] rfl rfl trivial ?_⟩
    rintro e H6 G' hle6 ⟨rfl, rfl, rfl⟩
    (conv => whnf)
    have hin0 : JAt H6 (objJ (evMs ⟨a, b, c, n, t, ⟨f, i, o⟩, k, r⟩)) [.int .i64 6, .bool false, .string ⟨#[]⟩, .slice none 0 0, .slice none 0 0] := by rw [hev]; exact .bare 6 false ⟨#[]⟩
    refine ⟨⟨_, Tryz.func47, rfl, by kernel_rfl⟩, CallS.use (member_ (nameK k) 6 false ⟨#[]⟩ none 0 0 none 0 0 _) [] rfl rfl trivial ?_⟩
    rintro e H7 G' hle7 ⟨rfl, rfl, rfl⟩
    (conv => whnf)
    refine ⟨by decide, .inl ?_⟩
    intro g2 H8 hle8 hrd2
    (conv => whnf)
    have hms8 : MsAt H8 [(nameK k, objJ (evMs ⟨a, b, c, n, t, ⟨f, i, o⟩, k, r⟩))] [.string (nameK k), .int .i64 6, .bool false, .string ⟨#[]⟩, .slice none 0 0, .slice none 0 0] := .cons (hin0.mono hle8) .nil
    refine ⟨⟨_, Tryz.func22, rfl, by kernel_rfl⟩, CallS.use (obj_ [(nameK k, objJ (evMs ⟨a, b, c, n, t, ⟨f, i, o⟩, k, r⟩))] (Nat.le_of_ble_eq_true rfl) (some ⟨g2, 0, none⟩) 1 _ H8 hms8 ⟨fun e => (nomatch e), fun a e => by injection e with e; subst e; exact hrd2⟩ Nat.zero_lt_one) [] rfl rfl trivial ?_⟩
    rintro e H9 G' hle9 ⟨⟨B3, d3, rfl, hj⟩, rfl⟩
    (conv => whnf)
    exact ⟨⟨_, _, _, _, _, _, _, _, _, rfl, hj⟩, (hle5.trans hle8).trans hle9, rfl⟩
end Go.Kx.Se
namespace Go.Kx.Rf
open Go.Proofs Go.Kx Go.RowKit Go.Kx.Js Go.Kx.Pr Go.Kx.Cl Go.Kx.Se
set_option maxRecDepth 20000
set_option linter.unusedSimpArgs false
namespace Cr
def T : Tab := [(9, { k := TK.string, agg := false, size := 1, bytes := 16, zero := [Z.s] }), (28, { k := TK.st [(0, 9, 1), (1, 9, 1), (2, 9, 1), (3, 3, 1), (4, 9, 1), (5, 9, 1), (6, 9, 1), (7, 9, 1), (8, 3, 1), (9, 9, 1)], agg := true, size := 10, bytes := 144, zero := [Z.s, Z.s, Z.s, Z.i IntKind.i64, Z.s, Z.s, Z.s, Z.s, Z.i IntKind.i64, Z.s] }), (3, { k := TK.int IntKind.i64, agg := false, size := 1, bytes := 8, zero := [Z.i IntKind.i64] }), (4, { k := TK.bool, agg := false, size := 1, bytes := 1, zero := [Z.b] }), (69, { k := TK.slice 9, agg := false, size := 1, bytes := 24, zero := [Z.sl] }), (5, { k := TK.int IntKind.u8, agg := false, size := 1, bytes := 1, zero := [Z.i IntKind.u8] })]
set_option maxRecDepth 100000 in
theorem tab : TabOk Tryz.prog T := tabOk_mk (ts := [9, 28, 3, 4, 69, 5]) (by kernel_rfl)
end Cr
def FitT (c : Clm) : Prop := c.iss.size ≤ 1000 ∧ c.jti.size ≤ 1000 ∧ c.aud.size ≤ 1000 ∧ c.txn.size ≤ 1000 ∧ c.sub.fmt.size ≤ 1000 ∧ c.sub.id.size ≤ 1000 ∧ c.sub.own.size ≤ 1000 ∧ c.reason.size ≤ 1000
theorem right13 (a b c : ByteArray) (n : Int) (t f i o : ByteArray) (k : Int) (r : ByteArray) (hf : FitT ⟨a, b, c, n, t, ⟨f, i, o⟩, k, r⟩) (H : Hp) : CallO Tryz.prog 16 [.si (.ag (cs10 a b c n t f i o k r))] H [] fun e H' G' => e = .ret (pv (.bool (clRight ⟨a, b, c, n, t, ⟨f, i, o⟩, k, r⟩))) ∧ H.Le H' ∧ G' = [] := by
  obtain ⟨f1, f2, f3, f4, f5, f6, f7, f8⟩ := hf
  dsimp only at f1 f2 f3 f4 f5 f6 f7 f8
  obtain ⟨R, hR⟩ : ∃ R, R = clRight ⟨a, b, c, n, t, ⟨f, i, o⟩, k, r⟩ := ⟨_, rfl⟩
  rw [← hR]
  unfold clRight at hR
  dsimp only at hR
  refine CallO.of_body Cr.tab Tryz.func16 rfl (nt := Tryz.f16.ntmps) rfl (by kernel_rfl) ?_
  (conv => whnf)
  cases h1 : decide (k < 1) <;> (conv => whnf)
  rotate_left
  · obtain rfl : R = false := by rw [hR, decide_eq_false (show ¬ 1 ≤ k by have := of_decide_eq_true h1; omega)]; rfl
    exact ⟨rfl, .refl _, rfl⟩
  rw [decide_eq_true (show 1 ≤ k by have := of_decide_eq_false h1; omega)] at hR
  rw [show decide (k > 6) = decide (6 < k) from rfl]
  cases h2 : decide (6 < k) <;> (conv => whnf)
  rotate_left
  · obtain rfl : R = false := by rw [hR, decide_eq_false (show ¬ k ≤ 6 by have := of_decide_eq_true h2; omega)]; rfl
    exact ⟨rfl, .refl _, rfl⟩
  rw [decide_eq_true (show k ≤ 6 by have := of_decide_eq_false h2; omega)] at hR
  cases h3 : decide (n < 0) <;> (conv => whnf)
  rotate_left
  · obtain rfl : R = false := by rw [hR, decide_eq_false (show ¬ 0 ≤ n by have := of_decide_eq_true h3; omega)]; simp
    exact ⟨rfl, .refl _, rfl⟩
  rw [decide_eq_true (show 0 ≤ n by have := of_decide_eq_false h3; omega)] at hR
  rw [show decide (n > 1099511627776) = decide (1099511627776 < n) from rfl]
  cases h4 : decide (1099511627776 < n) <;> (conv => whnf)
  rotate_left
  · obtain rfl : R = false := by rw [hR, decide_eq_false (show ¬ n ≤ 1099511627776 by have := of_decide_eq_true h4; omega)]; simp
    exact ⟨rfl, .refl _, rfl⟩
  rw [decide_eq_true (show n ≤ 1099511627776 by have := of_decide_eq_false h4; omega)] at hR
  simp only [Bool.true_and] at hR
  cases h5 : strEq r ⟨#[]⟩ <;> (conv => whnf)
  · refine ⟨⟨_, Tryz.func52, rfl, by kernel_rfl⟩, CallS.use (word13 r (by omega) H) [] rfl rfl trivial ?_⟩
    rintro e H2 G' hle2 ⟨rfl, hle0, rfl⟩
    cases wr : Wo.wordP 256 r <;> (conv => whnf)
    · obtain rfl : R = false := by rw [hR, h5, wr]; simp
      exact ⟨rfl, hle0, rfl⟩
    have hRR : R = (Wo.wordP 256 a && (Wo.wordP 256 b && (Wo.wordP 256 c && (Wo.wordP 256 t && subRight ⟨f, i, o⟩)))) := by rw [hR, h5, wr]; simp
    refine ⟨⟨_, Tryz.func52, rfl, by kernel_rfl⟩, CallS.use (word13 a (by omega) _) [] rfl rfl trivial ?_⟩
    rintro e Ha G' hlea ⟨rfl, hlea', rfl⟩
    cases wa : Wo.wordP 256 a <;> (conv => whnf)
    · obtain rfl : R = false := by rw [hRR, wa]; simp
      exact ⟨rfl, hle0.trans hlea', rfl⟩
    refine ⟨⟨_, Tryz.func52, rfl, by kernel_rfl⟩, CallS.use (word13 b (by omega) _) [] rfl rfl trivial ?_⟩
    rintro e Hb G' hleb ⟨rfl, hleb', rfl⟩
    cases wb : Wo.wordP 256 b <;> (conv => whnf)
    · obtain rfl : R = false := by rw [hRR, wa, wb]; simp
      exact ⟨rfl, (hle0.trans hlea').trans hleb', rfl⟩
    refine ⟨⟨_, Tryz.func52, rfl, by kernel_rfl⟩, CallS.use (word13 c (by omega) _) [] rfl rfl trivial ?_⟩
    rintro e Hc G' hlec ⟨rfl, hlec', rfl⟩
    cases wc : Wo.wordP 256 c <;> (conv => whnf)
    · obtain rfl : R = false := by rw [hRR, wa, wb, wc]; simp
      exact ⟨rfl, ((hle0.trans hlea').trans hleb').trans hlec', rfl⟩
    refine ⟨⟨_, Tryz.func52, rfl, by kernel_rfl⟩, CallS.use (word13 t (by omega) _) [] rfl rfl trivial ?_⟩
    rintro e Ht G' hlet ⟨rfl, hlet', rfl⟩
    cases wt : Wo.wordP 256 t <;> (conv => whnf)
    · obtain rfl : R = false := by rw [hRR, wa, wb, wc, wt]; simp
      exact ⟨rfl, (((hle0.trans hlea').trans hleb').trans hlec').trans hlet', rfl⟩
    refine ⟨⟨_, Tryz.func53, rfl, by kernel_rfl⟩, CallS.use (right12 f i o (by omega) (by omega) (by omega) _) [] rfl rfl trivial ?_⟩
    rintro e Hf G' hlef ⟨rfl, hlef', rfl⟩
    (conv => whnf)
    obtain rfl : R = subRight ⟨f, i, o⟩ := by rw [hRR, wa, wb, wc, wt]; simp
    exact ⟨rfl, ((((hle0.trans hlea').trans hleb').trans hlec').trans hlet').trans hlef', rfl⟩
  · have hRR : R = (Wo.wordP 256 a && (Wo.wordP 256 b && (Wo.wordP 256 c && (Wo.wordP 256 t && subRight ⟨f, i, o⟩)))) := by rw [hR, h5]; simp
    have hle0 : H.Le H := .refl _
    refine ⟨⟨_, Tryz.func52, rfl, by kernel_rfl⟩, CallS.use (word13 a (by omega) _) [] rfl rfl trivial ?_⟩
    rintro e Ha G' hlea ⟨rfl, hlea', rfl⟩
    cases wa : Wo.wordP 256 a <;> (conv => whnf)
    · obtain rfl : R = false := by rw [hRR, wa]; simp
      exact ⟨rfl, hle0.trans hlea', rfl⟩
    refine ⟨⟨_, Tryz.func52, rfl, by kernel_rfl⟩, CallS.use (word13 b (by omega) _) [] rfl rfl trivial ?_⟩
    rintro e Hb G' hleb ⟨rfl, hleb', rfl⟩
    cases wb : Wo.wordP 256 b <;> (conv => whnf)
    · obtain rfl : R = false := by rw [hRR, wa, wb]; simp
      exact ⟨rfl, (hle0.trans hlea').trans hleb', rfl⟩
    refine ⟨⟨_, Tryz.func52, rfl, by kernel_rfl⟩, CallS.use (word13 c (by omega) _) [] rfl rfl trivial ?_⟩
    rintro e Hc G' hlec ⟨rfl, hlec', rfl⟩
    cases wc : Wo.wordP 256 c <;> (conv => whnf)
    · obtain rfl : R = false := by rw [hRR, wa, wb, wc]; simp
      exact ⟨rfl, ((hle0.trans hlea').trans hleb').trans hlec', rfl⟩
    refine ⟨⟨_, Tryz.func52, rfl, by kernel_rfl⟩, CallS.use (word13 t (by omega) _) [] rfl rfl trivial ?_⟩
    rintro e Ht G' hlet ⟨rfl, hlet', rfl⟩
    cases wt : Wo.wordP 256 t <;> (conv => whnf)
    · obtain rfl : R = false := by rw [hRR, wa, wb, wc, wt]; simp
      exact ⟨rfl, (((hle0.trans hlea').trans hleb').trans hlec').trans hlet', rfl⟩
    refine ⟨⟨_, Tryz.func53, rfl, by kernel_rfl⟩, CallS.use (right12 f i o (by omega) (by omega) (by omega) _) [] rfl rfl trivial ?_⟩
    rintro e Hf G' hlef ⟨rfl, hlef', rfl⟩
    (conv => whnf)
    obtain rfl : R = subRight ⟨f, i, o⟩ := by rw [hRR, wa, wb, wc, wt]; simp
    exact ⟨rfl, ((((hle0.trans hlea').trans hleb').trans hlec').trans hlet').trans hlef', rfl⟩
end Go.Kx.Rf
namespace Go.Kx.Rf
open Go.Proofs Go.Kx Go.RowKit Go.Kx.Js Go.Kx.Pr Go.Kx.Cl Go.Kx.Se Go.Kx.Lb Go.Kx.Jw Go.Kx.Ob
set_option maxRecDepth 20000
set_option linter.unusedSimpArgs false
namespace Dg
def T : Tab := [(9, { k := TK.string, agg := false, size := 1, bytes := 16, zero := [Z.s] }), (28, { k := TK.st [(0, 9, 1), (1, 9, 1), (2, 9, 1), (3, 3, 1), (4, 9, 1), (5, 9, 1), (6, 9, 1), (7, 9, 1), (8, 3, 1), (9, 9, 1)], agg := true, size := 10, bytes := 144, zero := [Z.s, Z.s, Z.s, Z.i IntKind.i64, Z.s, Z.s, Z.s, Z.s, Z.i IntKind.i64, Z.s] }), (3, { k := TK.int IntKind.i64, agg := false, size := 1, bytes := 8, zero := [Z.i IntKind.i64] }), (4, { k := TK.bool, agg := false, size := 1, bytes := 1, zero := [Z.b] }), (5, { k := TK.int IntKind.u8, agg := false, size := 1, bytes := 1, zero := [Z.i IntKind.u8] }), (55, { k := TK.slice 5, agg := false, size := 1, bytes := 24, zero := [Z.sl] })]
set_option maxRecDepth 100000 in
theorem tab : TabOk Tryz.prog T := tabOk_mk (ts := [9, 28, 3, 4, 5, 55]) (by kernel_rfl)
theorem wrap8 (x : Int) : IntKind.u8.wrap x = x % 256 := by simp [IntKind.wrap, IntKind.bits, IntKind.signed]
theorem itoa_nat (n : Nat) : Lib.itoa (n : Int) = Lib.decDigits n := by
  unfold Lib.itoa
  rw [if_neg (by omega), Int.toNat_natCast]
def digB (d : Nat) : ByteArray := ⟨#[UInt8.ofNat (48 + d)]⟩
theorem dig_cells (d : Nat) (hd : d < 10) {x : Int} (hx : x = (d : Int)) : byteCells (digB d) = [Value.int .u8 (IntKind.u8.wrap (IntKind.i64.wrap (48 + x)))] := by
  subst hx
  rw [wrap64 (by omega) (by omega), wrap8, byteCells_map]
  show [Value.int .u8 ((UInt8.ofNat (48 + d)).toNat : Int)] = _
  rw [UInt8.toNat_ofNat']
  congr 2
theorem itoaB_one (n : Nat) (h : n < 10) : itoaB n = digB n := by
  unfold itoaB digB
  rw [itoa_nat, Lib.decDigits_one h]
theorem itoaB_snoc (n : Nat) (h : ¬ n < 10) : itoaB n = itoaB (n / 10 : Nat) ++ digB (n % 10) := by
  unfold itoaB digB
  rw [itoa_nat, itoa_nat, decDigits_big h]
  apply ByteArray.ext
  rw [ByteArray.data_append]
  simp
theorem itoa_le (n : Nat) (h : n < 10 ^ 15) : (itoaB n).data.size ≤ 15 := by
  unfold itoaB
  rw [itoa_nat, List.size_toArray]
  exact dec_len 15 n h (by decide)
theorem digits (n : Nat) (hn : n < 10 ^ 15) (H : Hp) : CallO Tryz.prog 63 [pv (.int .i64 n)] H [] fun e _ G' => e = .ret (pv (.string (itoaB n))) ∧ G' = [] := by
  induction n using Nat.strongRecOn generalizing H with
  | _ n ih =>
    refine CallO.of_body tab Tryz.func63 rfl (nt := Tryz.f63.ntmps) rfl (by kernel_rfl) ?_
    (conv => whnf)
    refine br.of (fun h1 => ?_) (fun h1 => ?_) <;> (conv => whnf)
    · simp only [decide_eq_true_eq] at h1
      refine ⟨by decide, .inl ?_⟩
      intro g H2 hle hrd
      (conv => whnf)
      refine ⟨digB n, rfl, .inr (by rw [dig_cells n (by omega) rfl]; exact hrd), ?_⟩
      (conv => whnf)
      exact ⟨by rw [itoaB_one n (by omega)]; rfl, rfl⟩
    · simp only [decide_eq_false_iff_not] at h1
      have h10 : ¬ n < 10 := by omega
      have hd : (n : Int).tdiv 10 = ((n / 10 : Nat) : Int) := by rw [Int.tdiv_eq_ediv_of_nonneg (by omega)]; omega
      have hm : (n : Int).tmod 10 = ((n % 10 : Nat) : Int) := by rw [Int.tmod_eq_emod_of_nonneg (by omega)]; omega
      have hdw : IntKind.i64.wrap ((n : Int).tdiv 10) = ((n / 10 : Nat) : Int) := by rw [hd, wrap64 (by omega) (by omega)]
      have hi := itoa_le (n / 10) (by omega)
      refine WS.draw tab mixed (.take 0 (.take 1 (.take 3 (.take 4 (.take 5 (.take 6 (.alt 2 (.alt 7 (.alt 8 (.take 9 (.take 10 .done)) .no) .no) (.alt 7 (.alt 2 (.alt 8 (.take 9 (.take 10 .done)) .no) (.alt 8 (.alt 2 (.take 9 (.take 10 .done)) .no) .no)) .no)))))))) (by kernel_rfl) [] ?_
      (conv => whnf)
      refine ⟨by decide, ?_⟩
      (conv => whnf)
      refine ⟨by decide, ?_⟩
      (conv => whnf)
      rw [hdw, hm]
      (conv => whnf)
      repeat' (first
        | exact trivial
        | exact rfl
        | exact ⟨_, Tryz.func63, rfl, by kernel_rfl⟩
        | (refine CallS.use (ih (n / 10) (by omega) (by omega) _) [] rfl rfl trivial ?_; rintro e H' G' hle ⟨rfl, rfl⟩; (conv => whnf))
        | (refine ⟨by decide, .inl ?_⟩; intro g H2 hle2 hrd; (conv => whnf))
        | (refine ⟨digB (n % 10), rfl, .inr (by rw [dig_cells (n % 10) (by omega) rfl]; exact hrd), ?_⟩; (conv => whnf))
        | (refine ⟨digB (n % 10), rfl, .inr (by rw [dig_cells (n % 10) (by omega) rfl]; exact hrd.mono hle), ?_⟩; (conv => whnf))
        | (refine ⟨by show (itoaB ((n / 10 : Nat) : Int)).data.size + 1 ≤ _; omega, ?_⟩; (conv => whnf))
        | exact ⟨by rw [itoaB_snoc n h10]; rfl, rfl⟩
        | (refine And.intro ?_ ?_ <;> (conv => whnf)))
end Dg
theorem digits13 (v : Int) (h0 : 0 ≤ v) (hn : v ≤ 1099511627776) (H : Hp) : CallO Tryz.prog 63 [pv (.int .i64 v)] H [] fun e _ G' => e = .ret (pv (.string (itoaB v))) ∧ G' = [] := by
  obtain ⟨n, rfl⟩ : ∃ n : Nat, v = n := ⟨v.toNat, by omega⟩
  exact Dg.digits n (by omega) H
theorem quoteS (s : ByteArray) (hs : s.size ≤ 1000) (H : Hp) : CallO Tryz.prog 62 [pv (.string s)] H [] fun e H' G' => (∃ q : ByteArray, e = .ret (pv (.string q)) ∧ q.data.toList = quoteB (tL s) ∧ q.size ≤ 6100) ∧ H' = H ∧ G' = [] := by
  refine (CallS.use (quote_ s (by omega) H) [] rfl rfl trivial ?_).to
  rintro e H' G' hle ⟨rfl, rfl, rfl⟩
  (conv => whnf)
  refine ⟨⟨_, rfl, rfl, ?_⟩, rfl, rfl⟩
  have := flat_le (tL s)
  have := size_eq s
  show (quoteB (tL s)).toArray.size ≤ 6100
  unfold quoteB
  simp only [List.size_toArray, List.length_append, List.length_singleton]
  omega
theorem sub_w1 (id e : ByteArray) : wrJ (subJ ⟨sOpaque, id, e⟩) = ([123, 34, 102, 111, 114, 109, 97, 116, 34, 58, 34, 111, 112, 97, 113, 117, 101, 34, 44] : List UInt8) ++ (([34, 105, 100, 34, 58] : List UInt8) ++ (quoteB (tL id) ++ [125])) := by
  have h : subMs ⟨sOpaque, id, e⟩ = [(sFormat, strJ sOpaque), (sId, strJ id)] := rfl
  unfold subJ
  rw [h]
  simp only [objJ, wrJ, wrMs, wr_str]
  show _ = ([123, 34, 102, 111, 114, 109, 97, 116, 34, 58, 34, 111, 112, 97, 113, 117, 101, 34, 44] : List UInt8) ++ (([34, 105, 100, 34, 58] : List UInt8) ++ (quoteB id.data.toList ++ [125]))
  rw [show quoteB sFormat.data.toList = ([34, 102, 111, 114, 109, 97, 116, 34] : List UInt8) from by decide +kernel, show quoteB sOpaque.data.toList = ([34, 111, 112, 97, 113, 117, 101, 34] : List UInt8) from by decide +kernel, show quoteB sId.data.toList = ([34, 105, 100, 34] : List UInt8) from by decide +kernel]
  simp
theorem sub_w2 (id e : ByteArray) : wrJ (subJ ⟨sEmail, id, e⟩) = ([123, 34, 102, 111, 114, 109, 97, 116, 34, 58, 34, 101, 109, 97, 105, 108, 34, 44] : List UInt8) ++ (([34, 101, 109, 97, 105, 108, 34, 58] : List UInt8) ++ (quoteB (tL id) ++ [125])) := by
  have h : subMs ⟨sEmail, id, e⟩ = [(sFormat, strJ sEmail), (sEmail, strJ id)] := rfl
  unfold subJ
  rw [h]
  simp only [objJ, wrJ, wrMs, wr_str]
  show _ = ([123, 34, 102, 111, 114, 109, 97, 116, 34, 58, 34, 101, 109, 97, 105, 108, 34, 44] : List UInt8) ++ (([34, 101, 109, 97, 105, 108, 34, 58] : List UInt8) ++ (quoteB id.data.toList ++ [125]))
  rw [show quoteB sFormat.data.toList = ([34, 102, 111, 114, 109, 97, 116, 34] : List UInt8) from by decide +kernel, show quoteB sEmail.data.toList = ([34, 101, 109, 97, 105, 108, 34] : List UInt8) from by decide +kernel]
  simp
theorem sub_w3 (id own : ByteArray) : wrJ (subJ ⟨sIssSub, id, own⟩) = ([123, 34, 102, 111, 114, 109, 97, 116, 34, 58, 34, 105, 115, 115, 95, 115, 117, 98, 34, 44] : List UInt8) ++ (([34, 105, 115, 115, 34, 58] : List UInt8) ++ (quoteB (tL own) ++ (([44, 34, 115, 117, 98, 34, 58] : List UInt8) ++ (quoteB (tL id) ++ [125])))) := by
  have h : subMs ⟨sIssSub, id, own⟩ = [(sFormat, strJ sIssSub), (sIss, strJ own), (sSub, strJ id)] := rfl
  unfold subJ
  rw [h]
  simp only [objJ, wrJ, wrMs, wr_str]
  show _ = ([123, 34, 102, 111, 114, 109, 97, 116, 34, 58, 34, 105, 115, 115, 95, 115, 117, 98, 34, 44] : List UInt8) ++ (([34, 105, 115, 115, 34, 58] : List UInt8) ++ (quoteB own.data.toList ++ (([44, 34, 115, 117, 98, 34, 58] : List UInt8) ++ (quoteB id.data.toList ++ [125]))))
  rw [show quoteB sFormat.data.toList = ([34, 102, 111, 114, 109, 97, 116, 34] : List UInt8) from by decide +kernel, show quoteB sIssSub.data.toList = ([34, 105, 115, 115, 95, 115, 117, 98, 34] : List UInt8) from by decide +kernel, show quoteB sIss.data.toList = ([34, 105, 115, 115, 34] : List UInt8) from by decide +kernel, show quoteB sSub.data.toList = ([34, 115, 117, 98, 34] : List UInt8) from by decide +kernel]
  simp
theorem add_le {x y : ByteArray} {n m : Nat} (hx : x.size ≤ n) (hy : y.size ≤ m) : (x ++ y).size ≤ n + m := by rw [ByteArray.size_append]; omega
theorem add_ok {x y : ByteArray} {n m : Nat} (hx : x.size ≤ n) (hy : y.size ≤ m) (h : n + m ≤ 9223372036854775807) : x.size + y.size ≤ 9223372036854775807 := by omega
theorem about (a b c : ByteArray) (n : Int) (t : ByteArray) (x : Sub) (k : Int) (r : ByteArray) (hx : subRight x = true) (H : Hp) : CallO Tryz.prog 64 [.si (.ag (cs10 a b c n t x.fmt x.id x.own k r))] H [] fun e H' G' => (∃ q : ByteArray, e = .ret (pv (.string q)) ∧ q.data.toList = wrJ (subJ x) ∧ q.size ≤ 20000) ∧ H.Le H' ∧ G' = [] := by
  rcases sub_cases hx with ⟨id, rfl, h1⟩ | ⟨id, rfl, h1, h2⟩ | ⟨id, own, rfl, h1, h2⟩
  · have h3 := (word_size h1).1
    dsimp only
    refine CallO.of_body Dg.tab Tryz.func64 rfl (nt := Tryz.f64.ntmps) rfl (by kernel_rfl) ?_
    (conv => whnf)
    refine ⟨by decide, ?_⟩
    (conv => whnf)
    refine ⟨by decide, ?_⟩
    (conv => whnf)
    refine ⟨by decide, ?_⟩
    (conv => whnf)
    refine ⟨⟨_, Tryz.func62, rfl, by kernel_rfl⟩, CallS.use (quoteS id (by omega) H) [] rfl rfl trivial ?_⟩
    rintro e H2 G' hle ⟨⟨q, rfl, hq, hqs⟩, rfl, rfl⟩
    (conv => whnf)
    refine ⟨add_ok (n := 100) (by decide) hqs (by decide), ?_⟩
    (conv => whnf)
    refine ⟨add_ok (add_le (n := 100) (by decide) hqs) (m := 1) (by decide) (by decide), ?_⟩
    (conv => whnf)
    refine ⟨⟨_, rfl, ?_, Nat.le_trans (add_le (add_le (n := 100) (by decide) hqs) (m := 1) (by decide)) (by decide)⟩, .refl _, rfl⟩
    rw [sub_w1]
    simp only [ByteArray.data_append, Array.toList_append, hq]
    simp
  · have h3 := (word_size h1).1
    dsimp only
    refine CallO.of_body Dg.tab Tryz.func64 rfl (nt := Tryz.f64.ntmps) rfl (by kernel_rfl) ?_
    (conv => whnf)
    refine ⟨by decide, ?_⟩
    (conv => whnf)
    refine ⟨by decide, ?_⟩
    (conv => whnf)
    refine ⟨by decide, ?_⟩
    (conv => whnf)
    refine ⟨⟨_, Tryz.func62, rfl, by kernel_rfl⟩, CallS.use (quoteS id (by omega) H) [] rfl rfl trivial ?_⟩
    rintro e H2 G' hle ⟨⟨q, rfl, hq, hqs⟩, rfl, rfl⟩
    (conv => whnf)
    refine ⟨add_ok (n := 100) (by decide) hqs (by decide), ?_⟩
    (conv => whnf)
    refine ⟨add_ok (add_le (n := 100) (by decide) hqs) (m := 1) (by decide) (by decide), ?_⟩
    (conv => whnf)
    refine ⟨⟨_, rfl, ?_, Nat.le_trans (add_le (add_le (n := 100) (by decide) hqs) (m := 1) (by decide)) (by decide)⟩, .refl _, rfl⟩
    rw [sub_w2]
    simp only [ByteArray.data_append, Array.toList_append, hq]
    simp
  · have h3 := (word_size h1).1
    have h4 := (word_size h2).1
    dsimp only
    refine CallO.of_body Dg.tab Tryz.func64 rfl (nt := Tryz.f64.ntmps) rfl (by kernel_rfl) ?_
    (conv => whnf)
    refine ⟨by decide, ?_⟩
    (conv => whnf)
    refine ⟨by decide, ?_⟩
    (conv => whnf)
    refine WS.draw Dg.tab Rf.mixed (.take 0 (.take 1 (.take 2 (.take 3 (.take 7 (.take 8 (.alt 4 (.take 5 (.take 6 (.alt 9 (.take 10 (.take 11 (.take 12 .done))) .no))) .no))))))) (by kernel_rfl) [] ?_
    (conv => whnf)
    refine ⟨by decide, ?_⟩
    (conv => whnf)
    refine And.intro ?_ ?_ <;> (conv => whnf)
    rotate_left
    · exact trivial
    refine ⟨⟨_, Tryz.func62, rfl, by kernel_rfl⟩, CallS.use (quoteS own (by omega) H) [] rfl rfl trivial ?_⟩
    rintro e H2 G' hle ⟨⟨q2, rfl, hq2, hqs2⟩, rfl, rfl⟩
    (conv => whnf)
    refine ⟨⟨rfl, trivial⟩, ?_⟩
    (conv => whnf)
    refine ⟨add_ok (n := 100) (by decide) hqs2 (by decide), ?_⟩
    (conv => whnf)
    refine ⟨add_ok (add_le (n := 100) (by decide) hqs2) (m := 10) (by decide) (by decide), ?_⟩
    (conv => whnf)
    refine And.intro ?_ ?_ <;> (conv => whnf)
    rotate_left
    · exact trivial
    refine ⟨⟨_, Tryz.func62, rfl, by kernel_rfl⟩, CallS.use (quoteS id (by omega) _) [] rfl rfl trivial ?_⟩
    rintro e H3 G' hle3 ⟨⟨q, rfl, hq, hqs⟩, rfl, rfl⟩
    (conv => whnf)
    refine ⟨⟨rfl, trivial⟩, ?_⟩
    (conv => whnf)
    refine ⟨add_ok (add_le (add_le (n := 100) (by decide) hqs2) (m := 10) (by decide)) hqs (by decide), ?_⟩
    (conv => whnf)
    refine ⟨add_ok (add_le (add_le (add_le (n := 100) (by decide) hqs2) (m := 10) (by decide)) hqs) (m := 1) (by decide) (by decide), ?_⟩
    (conv => whnf)
    refine ⟨⟨_, rfl, ?_, Nat.le_trans (add_le (add_le (add_le (add_le (n := 100) (by decide) hqs2) (m := 10) (by decide)) hqs) (m := 1) (by decide)) (by decide)⟩, .refl _, rfl⟩
    rw [sub_w3]
    simp only [ByteArray.data_append, Array.toList_append, hq, hq2]
    simp
end Go.Kx.Rf
namespace Go.Kx.Rf
open Go.Proofs Go.Kx Go.RowKit Go.Kx.Js Go.Kx.Pr Go.Kx.Cl Go.Kx.Se Go.Kx.Lb Go.Kx.Jw Go.Kx.Ob
set_option maxRecDepth 20000
set_option linter.unusedSimpArgs false
namespace Tx
def T : Tab := [(9, { k := TK.string, agg := false, size := 1, bytes := 16, zero := [Z.s] }), (28, { k := TK.st [(0, 9, 1), (1, 9, 1), (2, 9, 1), (3, 3, 1), (4, 9, 1), (5, 9, 1), (6, 9, 1), (7, 9, 1), (8, 3, 1), (9, 9, 1)], agg := true, size := 10, bytes := 144, zero := [Z.s, Z.s, Z.s, Z.i IntKind.i64, Z.s, Z.s, Z.s, Z.s, Z.i IntKind.i64, Z.s] }), (3, { k := TK.int IntKind.i64, agg := false, size := 1, bytes := 8, zero := [Z.i IntKind.i64] }), (107, { k := TK.ar 6 9 1, agg := true, size := 6, bytes := 96, zero := [Z.s, Z.s, Z.s, Z.s, Z.s, Z.s] }), (4, { k := TK.bool, agg := false, size := 1, bytes := 1, zero := [Z.b] }), (5, { k := TK.int IntKind.u8, agg := false, size := 1, bytes := 1, zero := [Z.i IntKind.u8] }), (55, { k := TK.slice 5, agg := false, size := 1, bytes := 24, zero := [Z.sl] })]
set_option maxRecDepth 100000 in
theorem tab : TabOk Tryz.prog T := tabOk_mk (ts := [9, 28, 3, 107, 4, 5, 55]) (by kernel_rfl)
end Tx
theorem cl_w (c : Clm) : wrJ (clJ c) = ([123, 34, 105, 115, 115, 34, 58] : List UInt8) ++ (quoteB (tL c.iss) ++ (([44, 34, 106, 116, 105, 34, 58] : List UInt8) ++ (quoteB (tL c.jti) ++ (([44, 34, 105, 97, 116, 34, 58] : List UInt8) ++ ((Lb.itoaB c.iat).data.toList ++ (([44, 34, 97, 117, 100, 34, 58] : List UInt8) ++ (quoteB (tL c.aud) ++ (([44, 34, 116, 120, 110, 34, 58] : List UInt8) ++ (quoteB (tL c.txn) ++ (([44, 34, 115, 117, 98, 95, 105, 100, 34, 58] : List UInt8) ++ (wrJ (subJ c.sub) ++ (([44, 34, 101, 118, 101, 110, 116, 115, 34, 58, 123] : List UInt8) ++ (quoteB (tL (nameK c.kind)) ++ (([58] : List UInt8) ++ (wrJ (objJ (evMs c)) ++ ([125, 125] : List UInt8)))))))))))))))) := by
  have e : wrJ (numJ c.iat) = (Lb.itoaB c.iat).data.toList := by unfold numJ; simp [wrJ]
  have h : wrJ (clJ c) = [123] ++ wrMs true (clMs c) ++ [125] := by unfold clJ; generalize clMs c = m; simp only [objJ, wrJ]; rfl
  have h2 : wrJ (evJ c) = [123] ++ wrMs true [(nameK c.kind, objJ (evMs c))] ++ [125] := by unfold evJ; simp only [objJ, wrJ]; rfl
  rw [h]
  unfold clMs
  simp only [wrMs, wr_str, e]
  rw [h2]
  simp only [wrMs]
  rw [show quoteB sIss.data.toList = ([34, 105, 115, 115, 34] : List UInt8) from by decide +kernel, show quoteB sJti.data.toList = ([34, 106, 116, 105, 34] : List UInt8) from by decide +kernel, show quoteB sIat.data.toList = ([34, 105, 97, 116, 34] : List UInt8) from by decide +kernel, show quoteB sAud.data.toList = ([34, 97, 117, 100, 34] : List UInt8) from by decide +kernel, show quoteB sTxn.data.toList = ([34, 116, 120, 110, 34] : List UInt8) from by decide +kernel, show quoteB sSubId.data.toList = ([34, 115, 117, 98, 95, 105, 100, 34] : List UInt8) from by decide +kernel, show quoteB sEvents.data.toList = ([34, 101, 118, 101, 110, 116, 115, 34] : List UInt8) from by decide +kernel]
  unfold tL
  simp
theorem rs_w (c : Clm) (h : c.reason ≠ ⟨#[]⟩) : wrJ (objJ (evMs c)) = ([123, 34, 114, 101, 97, 115, 111, 110, 34, 58] : List UInt8) ++ (quoteB (tL c.reason) ++ ([125] : List UInt8)) := by
  unfold evMs
  rw [if_neg (by rw [strEq_iff]; exact h)]
  simp only [objJ, wrJ, wrMs, wr_str]
  rw [show quoteB sReason.data.toList = ([34, 114, 101, 97, 115, 111, 110, 34] : List UInt8) from by decide +kernel]
  unfold tL
  simp
theorem getC_of {G : List SC} {k : Nat} {s : SC} {K : SC → Prop} (h : G[k]? = some s) (hk : K s) : getC G k K := by
  induction G generalizing k with
  | nil => simp at h
  | cons a r ih =>
    cases k with
    | zero => simp only [List.getElem?_cons_zero, Option.some.injEq] at h; subst h; exact hk
    | succ k => exact ih (by simpa using h)
abbrev tails : List SC := [.val (.string (⟨#[99, 97, 101, 112, 47, 101, 118, 101, 110, 116, 45, 116, 121, 112, 101, 47, 115, 101, 115, 115, 105, 111, 110, 45, 114, 101, 118, 111, 107, 101, 100]⟩ : ByteArray)), .val (.string (⟨#[99, 97, 101, 112, 47, 101, 118, 101, 110, 116, 45, 116, 121, 112, 101, 47, 99, 114, 101, 100, 101, 110, 116, 105, 97, 108, 45, 99, 104, 97, 110, 103, 101]⟩ : ByteArray)), .val (.string (⟨#[114, 105, 115, 99, 47, 101, 118, 101, 110, 116, 45, 116, 121, 112, 101, 47, 97, 99, 99, 111, 117, 110, 116, 45, 100, 105, 115, 97, 98, 108, 101, 100]⟩ : ByteArray)), .val (.string (⟨#[114, 105, 115, 99, 47, 101, 118, 101, 110, 116, 45, 116, 121, 112, 101, 47, 97, 99, 99, 111, 117, 110, 116, 45, 101, 110, 97, 98, 108, 101, 100]⟩ : ByteArray)), .val (.string (⟨#[99, 97, 101, 112, 47, 101, 118, 101, 110, 116, 45, 116, 121, 112, 101, 47, 116, 111, 107, 101, 110, 45, 99, 108, 97, 105, 109, 115, 45, 99, 104, 97, 110, 103, 101]⟩ : ByteArray)), .val (.string (⟨#[115, 115, 101, 47, 101, 118, 101, 110, 116, 45, 116, 121, 112, 101, 47, 118, 101, 114, 105, 102, 105, 99, 97, 116, 105, 111, 110]⟩ : ByteArray))]
theorem tail_nm {k : Int} (h : 1 ≤ k ∧ k ≤ 6) : ∃ nm : ByteArray, tails[0 + (k - 1).toNat * 1]? = some (.val (.string nm)) ∧ nm.size ≤ 40 ∧ quoteB (tL (nameK k)) = ([34, 104, 116, 116, 112, 115, 58, 47, 47, 115, 99, 104, 101, 109, 97, 115, 46, 111, 112, 101, 110, 105, 100, 46, 110, 101, 116, 47, 115, 101, 99, 101, 118, 101, 110, 116, 47] : List UInt8) ++ (nm.data.toList ++ [34]) := by
  have h6 : k = 1 ∨ k = 2 ∨ k = 3 ∨ k = 4 ∨ k = 5 ∨ k = 6 := by omega
  rcases h6 with rfl | rfl | rfl | rfl | rfl | rfl <;> exact ⟨_, rfl, by decide, by decide +kernel⟩
theorem text_ (c : Clm) (h : RightC c) (H : Hp) : CallO Tryz.prog 19 [.si (.ag (cs10 c.iss c.jti c.aud c.iat c.txn c.sub.fmt c.sub.id c.sub.own c.kind c.reason))] H [] fun e H' G' => e = .ret (pv (.string ⟨(wrJ (clJ c)).toArray⟩)) ∧ H.Le H' ∧ G' = [] := by
  have k1 : 1 ≤ c.kind ∧ c.kind ≤ 6 := h.kind
  have b1 := (word_size h.iss).1
  have b2 := (word_size h.jti).1
  have b3 := (word_size h.aud).1
  have b4 := (word_size h.txn).1
  have hsub := h.sub
  have hiat := h.iat
  have hcw := cl_w c
  have hrw := rs_w c
  have hre : c.reason.size ≤ 256 := by rcases h.reason with e | e; rw [e]; decide; exact (word_size e).1
  obtain ⟨iss, jti, aud, iat, txn, ⟨sf, si, so⟩, kind, reason⟩ := c
  obtain ⟨txt, htx⟩ : ∃ t, t = wrJ (clJ ⟨iss, jti, aud, iat, txn, ⟨sf, si, so⟩, kind, reason⟩) := ⟨_, rfl⟩
  rw [← htx] at hcw ⊢
  dsimp only at *
  refine CallO.of_body Tx.tab Tryz.func19 rfl (nt := Tryz.f19.ntmps) rfl (by kernel_rfl) ?_
  (conv => whnf)
  obtain ⟨nm, hnm, hnz, hnq⟩ := tail_nm k1
  have hs3 : (Lb.itoaB iat).size ≤ 15 := by
    obtain ⟨m, rfl⟩ : ∃ m : Nat, iat = m := ⟨iat.toNat, by omega⟩
    exact Dg.itoa_le m (by omega)
  cases hrs : strEq reason ⟨#[]⟩
  · (conv => whnf)
    refine ⟨⟨_, Tryz.func62, rfl, by kernel_rfl⟩, CallS.use (quoteS reason (by omega) H) [] rfl rfl trivial ?_⟩
    rintro e H2 G' hle ⟨⟨q, rfl, hq, hqs⟩, rfl, rfl⟩
    (conv => whnf)
    refine ⟨add_ok (n := 100) (by decide) hqs (by decide), ?_⟩
    (conv => whnf)
    refine ⟨add_ok (add_le (n := 100) (by decide) hqs) (m := 1) (by decide) (by decide), ?_⟩
    (conv => whnf)
    have hr1 : ((⟨([123, 34, 114, 101, 97, 115, 111, 110, 34, 58] : List UInt8).toArray⟩ : ByteArray) ++ q ++ ⟨#[125]⟩).data.toList = wrJ (objJ (evMs ⟨iss, jti, aud, iat, txn, ⟨sf, si, so⟩, kind, reason⟩)) := by
      rw [hrw ((strEq_false ..).1 hrs)]
      simp only [ByteArray.data_append, Array.toList_append, hq]
      simp
    have hr2 : ((⟨([123, 34, 114, 101, 97, 115, 111, 110, 34, 58] : List UInt8).toArray⟩ : ByteArray) ++ q ++ ⟨#[125]⟩).size ≤ 6201 := Nat.le_trans (add_le (add_le (n := 100) (by decide) hqs) (m := 1) (by decide)) (by decide)
    generalize (⟨([123, 34, 114, 101, 97, 115, 111, 110, 34, 58] : List UInt8).toArray⟩ : ByteArray) ++ q ++ ⟨#[125]⟩ = rs at hr1 hr2 ⊢
    refine WS.draw Tx.tab Rf.mixed (.take 0 (.take 1 (.take 5 (.take 6 (.take 10 (.take 11 (.take 15 (.take 16 (.take 20 (.take 21 (.take 25 (.take 29 (.take 30 (.take 31 (.take 32 (.take 33 (.take 36 (.alt 2 (.take 3 (.take 4 (.alt 7 (.take 8 (.take 9 (.alt 12 (.take 13 (.take 14 (.alt 17 (.take 18 (.take 19 (.alt 22 (.take 23 (.take 24 (.alt 26 (.take 27 (.take 28 (.take 34 (.take 35 (.take 37 (.take 38 (.take 39 .done))))))) .no))) .no))) .no))) .no))) .no))) .no)))))))))))))))))) (by kernel_rfl) [] ?_
    (conv => whnf)
    rw [wrap64 (x := kind - 1) (by omega) (by omega)]
    refine ⟨⟨by omega, by omega⟩, ?_⟩
    (conv => whnf)
    refine getC_of hnm ?_
    (conv => whnf)
    refine And.intro ?_ ?_ <;> (conv => whnf)
    rotate_left
    · exact trivial
    refine ⟨⟨_, Tryz.func62, rfl, by kernel_rfl⟩, CallS.use (quoteS iss (by omega) _) [] rfl rfl trivial ?_⟩
    rintro e Hx1 G' hlex1 ⟨⟨q1, rfl, hq1, hs1⟩, rfl, rfl⟩
    (conv => whnf)
    refine ⟨⟨rfl, rfl, trivial⟩, ?_⟩
    (conv => whnf)
    refine ⟨add_ok (n := 100) (by decide) hs1 (by decide), ?_⟩
    (conv => whnf)
    refine ⟨add_ok (add_le (n := 100) (by decide) hs1) (m := 100) (by decide) (by decide), ?_⟩
    (conv => whnf)
    refine And.intro ?_ ?_ <;> (conv => whnf)
    rotate_left
    · exact trivial
    refine ⟨⟨_, Tryz.func62, rfl, by kernel_rfl⟩, CallS.use (quoteS jti (by omega) _) [] rfl rfl trivial ?_⟩
    rintro e Hx2 G' hlex2 ⟨⟨q2, rfl, hq2, hs2⟩, rfl, rfl⟩
    (conv => whnf)
    refine ⟨⟨rfl, rfl, trivial⟩, ?_⟩
    (conv => whnf)
    refine ⟨add_ok (add_le (add_le (n := 100) (by decide) hs1) (m := 100) (by decide)) hs2 (by decide), ?_⟩
    (conv => whnf)
    refine ⟨add_ok (add_le (add_le (add_le (n := 100) (by decide) hs1) (m := 100) (by decide)) hs2) (m := 100) (by decide) (by decide), ?_⟩
    (conv => whnf)
    refine And.intro ?_ ?_ <;> (conv => whnf)
    rotate_left
    · exact trivial
    refine ⟨⟨_, Tryz.func63, rfl, by kernel_rfl⟩, CallS.use (digits13 iat hiat.1 hiat.2 _) [] rfl rfl trivial ?_⟩
    rintro e Hx3 G' hlex3 ⟨rfl, rfl⟩
    (conv => whnf)
    refine ⟨⟨rfl, rfl, trivial⟩, ?_⟩
    (conv => whnf)
    refine ⟨add_ok (add_le (add_le (add_le (add_le (n := 100) (by decide) hs1) (m := 100) (by decide)) hs2) (m := 100) (by decide)) hs3 (by decide), ?_⟩
    (conv => whnf)
    refine ⟨add_ok (add_le (add_le (add_le (add_le (add_le (n := 100) (by decide) hs1) (m := 100) (by decide)) hs2) (m := 100) (by decide)) hs3) (m := 100) (by decide) (by decide), ?_⟩
    (conv => whnf)
    refine And.intro ?_ ?_ <;> (conv => whnf)
    rotate_left
    · exact trivial
    refine ⟨⟨_, Tryz.func62, rfl, by kernel_rfl⟩, CallS.use (quoteS aud (by omega) _) [] rfl rfl trivial ?_⟩
    rintro e Hx4 G' hlex4 ⟨⟨q4, rfl, hq4, hs4⟩, rfl, rfl⟩
    (conv => whnf)
    refine ⟨⟨rfl, rfl, trivial⟩, ?_⟩
    (conv => whnf)
    refine ⟨add_ok (add_le (add_le (add_le (add_le (add_le (add_le (n := 100) (by decide) hs1) (m := 100) (by decide)) hs2) (m := 100) (by decide)) hs3) (m := 100) (by decide)) hs4 (by decide), ?_⟩
    (conv => whnf)
    refine ⟨add_ok (add_le (add_le (add_le (add_le (add_le (add_le (add_le (n := 100) (by decide) hs1) (m := 100) (by decide)) hs2) (m := 100) (by decide)) hs3) (m := 100) (by decide)) hs4) (m := 100) (by decide) (by decide), ?_⟩
    (conv => whnf)
    refine And.intro ?_ ?_ <;> (conv => whnf)
    rotate_left
    · exact trivial
    refine ⟨⟨_, Tryz.func62, rfl, by kernel_rfl⟩, CallS.use (quoteS txn (by omega) _) [] rfl rfl trivial ?_⟩
    rintro e Hx5 G' hlex5 ⟨⟨q5, rfl, hq5, hs5⟩, rfl, rfl⟩
    (conv => whnf)
    refine ⟨⟨rfl, rfl, trivial⟩, ?_⟩
    (conv => whnf)
    refine ⟨add_ok (add_le (add_le (add_le (add_le (add_le (add_le (add_le (add_le (n := 100) (by decide) hs1) (m := 100) (by decide)) hs2) (m := 100) (by decide)) hs3) (m := 100) (by decide)) hs4) (m := 100) (by decide)) hs5 (by decide), ?_⟩
    (conv => whnf)
    refine ⟨add_ok (add_le (add_le (add_le (add_le (add_le (add_le (add_le (add_le (add_le (n := 100) (by decide) hs1) (m := 100) (by decide)) hs2) (m := 100) (by decide)) hs3) (m := 100) (by decide)) hs4) (m := 100) (by decide)) hs5) (m := 100) (by decide) (by decide), ?_⟩
    (conv => whnf)
    refine And.intro ?_ ?_ <;> (conv => whnf)
    rotate_left
    · exact trivial
    refine ⟨⟨_, Tryz.func64, rfl, by kernel_rfl⟩, CallS.use (about iss jti aud iat txn ⟨sf, si, so⟩ kind reason hsub _) [] rfl rfl trivial ?_⟩
    rintro e Hx6 G' hlex6 ⟨⟨q6, rfl, hq6, hs6⟩, hle6, rfl⟩
    (conv => whnf)
    refine ⟨⟨rfl, rfl, trivial⟩, ?_⟩
    (conv => whnf)
    refine ⟨add_ok (add_le (add_le (add_le (add_le (add_le (add_le (add_le (add_le (add_le (add_le (n := 100) (by decide) hs1) (m := 100) (by decide)) hs2) (m := 100) (by decide)) hs3) (m := 100) (by decide)) hs4) (m := 100) (by decide)) hs5) (m := 100) (by decide)) hs6 (by decide), ?_⟩
    (conv => whnf)
    refine ⟨add_ok (add_le (add_le (add_le (add_le (add_le (add_le (add_le (add_le (add_le (add_le (add_le (n := 100) (by decide) hs1) (m := 100) (by decide)) hs2) (m := 100) (by decide)) hs3) (m := 100) (by decide)) hs4) (m := 100) (by decide)) hs5) (m := 100) (by decide)) hs6) (m := 100) (by decide) (by decide), ?_⟩
    (conv => whnf)
    refine ⟨add_ok (add_le (add_le (add_le (add_le (add_le (add_le (add_le (add_le (add_le (add_le (add_le (add_le (n := 100) (by decide) hs1) (m := 100) (by decide)) hs2) (m := 100) (by decide)) hs3) (m := 100) (by decide)) hs4) (m := 100) (by decide)) hs5) (m := 100) (by decide)) hs6) (m := 100) (by decide)) hnz (by decide), ?_⟩
    (conv => whnf)
    refine ⟨add_ok (add_le (add_le (add_le (add_le (add_le (add_le (add_le (add_le (add_le (add_le (add_le (add_le (add_le (n := 100) (by decide) hs1) (m := 100) (by decide)) hs2) (m := 100) (by decide)) hs3) (m := 100) (by decide)) hs4) (m := 100) (by decide)) hs5) (m := 100) (by decide)) hs6) (m := 100) (by decide)) hnz) (m := 100) (by decide) (by decide), ?_⟩
    (conv => whnf)
    refine ⟨add_ok (add_le (add_le (add_le (add_le (add_le (add_le (add_le (add_le (add_le (add_le (add_le (add_le (add_le (add_le (n := 100) (by decide) hs1) (m := 100) (by decide)) hs2) (m := 100) (by decide)) hs3) (m := 100) (by decide)) hs4) (m := 100) (by decide)) hs5) (m := 100) (by decide)) hs6) (m := 100) (by decide)) hnz) (m := 100) (by decide)) hr2 (by decide), ?_⟩
    (conv => whnf)
    refine ⟨add_ok (add_le (add_le (add_le (add_le (add_le (add_le (add_le (add_le (add_le (add_le (add_le (add_le (add_le (add_le (add_le (n := 100) (by decide) hs1) (m := 100) (by decide)) hs2) (m := 100) (by decide)) hs3) (m := 100) (by decide)) hs4) (m := 100) (by decide)) hs5) (m := 100) (by decide)) hs6) (m := 100) (by decide)) hnz) (m := 100) (by decide)) hr2) (m := 100) (by decide) (by decide), ?_⟩
    (conv => whnf)
    refine ⟨?_, ((((hlex1.trans hlex2).trans hlex3).trans hlex4).trans hlex5).trans hlex6, rfl⟩
    refine congrArg (fun s : ByteArray => SE.ret (pv (.string s))) ?_
    apply ByteArray.ext
    refine Array.toList_inj.1 ?_
    rw [hcw, hnq, ← hr1, ← hq1, ← hq2, ← hq4, ← hq5, ← hq6]
    simp only [ByteArray.data_append, Array.toList_append, List.append_assoc]
    simp
  · (conv => whnf)
    have hr1 : (⟨#[123, 125]⟩ : ByteArray).data.toList = wrJ (objJ (evMs ⟨iss, jti, aud, iat, txn, ⟨sf, si, so⟩, kind, reason⟩)) := by
      unfold evMs
      rw [if_pos hrs]
      rfl
    have hr2 : (⟨#[123, 125]⟩ : ByteArray).size ≤ 6201 := by decide
    generalize (⟨#[123, 125]⟩ : ByteArray) = rs at hr1 hr2 ⊢
    refine WS.draw Tx.tab Rf.mixed (.take 0 (.take 1 (.take 5 (.take 6 (.take 10 (.take 11 (.take 15 (.take 16 (.take 20 (.take 21 (.take 25 (.take 29 (.take 30 (.take 31 (.take 32 (.take 33 (.take 36 (.alt 2 (.take 3 (.take 4 (.alt 7 (.take 8 (.take 9 (.alt 12 (.take 13 (.take 14 (.alt 17 (.take 18 (.take 19 (.alt 22 (.take 23 (.take 24 (.alt 26 (.take 27 (.take 28 (.take 34 (.take 35 (.take 37 (.take 38 (.take 39 .done))))))) .no))) .no))) .no))) .no))) .no))) .no)))))))))))))))))) (by kernel_rfl) [] ?_
    (conv => whnf)
    rw [wrap64 (x := kind - 1) (by omega) (by omega)]
    refine ⟨⟨by omega, by omega⟩, ?_⟩
    (conv => whnf)
    refine getC_of hnm ?_
    (conv => whnf)
    refine And.intro ?_ ?_ <;> (conv => whnf)
    rotate_left
    · exact trivial
    refine ⟨⟨_, Tryz.func62, rfl, by kernel_rfl⟩, CallS.use (quoteS iss (by omega) _) [] rfl rfl trivial ?_⟩
    rintro e Hx1 G' hlex1 ⟨⟨q1, rfl, hq1, hs1⟩, rfl, rfl⟩
    (conv => whnf)
    refine ⟨⟨rfl, rfl, trivial⟩, ?_⟩
    (conv => whnf)
    refine ⟨add_ok (n := 100) (by decide) hs1 (by decide), ?_⟩
    (conv => whnf)
    refine ⟨add_ok (add_le (n := 100) (by decide) hs1) (m := 100) (by decide) (by decide), ?_⟩
    (conv => whnf)
    refine And.intro ?_ ?_ <;> (conv => whnf)
    rotate_left
    · exact trivial
    refine ⟨⟨_, Tryz.func62, rfl, by kernel_rfl⟩, CallS.use (quoteS jti (by omega) _) [] rfl rfl trivial ?_⟩
    rintro e Hx2 G' hlex2 ⟨⟨q2, rfl, hq2, hs2⟩, rfl, rfl⟩
    (conv => whnf)
    refine ⟨⟨rfl, rfl, trivial⟩, ?_⟩
    (conv => whnf)
    refine ⟨add_ok (add_le (add_le (n := 100) (by decide) hs1) (m := 100) (by decide)) hs2 (by decide), ?_⟩
    (conv => whnf)
    refine ⟨add_ok (add_le (add_le (add_le (n := 100) (by decide) hs1) (m := 100) (by decide)) hs2) (m := 100) (by decide) (by decide), ?_⟩
    (conv => whnf)
    refine And.intro ?_ ?_ <;> (conv => whnf)
    rotate_left
    · exact trivial
    refine ⟨⟨_, Tryz.func63, rfl, by kernel_rfl⟩, CallS.use (digits13 iat hiat.1 hiat.2 _) [] rfl rfl trivial ?_⟩
    rintro e Hx3 G' hlex3 ⟨rfl, rfl⟩
    (conv => whnf)
    refine ⟨⟨rfl, rfl, trivial⟩, ?_⟩
    (conv => whnf)
    refine ⟨add_ok (add_le (add_le (add_le (add_le (n := 100) (by decide) hs1) (m := 100) (by decide)) hs2) (m := 100) (by decide)) hs3 (by decide), ?_⟩
    (conv => whnf)
    refine ⟨add_ok (add_le (add_le (add_le (add_le (add_le (n := 100) (by decide) hs1) (m := 100) (by decide)) hs2) (m := 100) (by decide)) hs3) (m := 100) (by decide) (by decide), ?_⟩
    (conv => whnf)
    refine And.intro ?_ ?_ <;> (conv => whnf)
    rotate_left
    · exact trivial
    refine ⟨⟨_, Tryz.func62, rfl, by kernel_rfl⟩, CallS.use (quoteS aud (by omega) _) [] rfl rfl trivial ?_⟩
    rintro e Hx4 G' hlex4 ⟨⟨q4, rfl, hq4, hs4⟩, rfl, rfl⟩
    (conv => whnf)
    refine ⟨⟨rfl, rfl, trivial⟩, ?_⟩
    (conv => whnf)
    refine ⟨add_ok (add_le (add_le (add_le (add_le (add_le (add_le (n := 100) (by decide) hs1) (m := 100) (by decide)) hs2) (m := 100) (by decide)) hs3) (m := 100) (by decide)) hs4 (by decide), ?_⟩
    (conv => whnf)
    refine ⟨add_ok (add_le (add_le (add_le (add_le (add_le (add_le (add_le (n := 100) (by decide) hs1) (m := 100) (by decide)) hs2) (m := 100) (by decide)) hs3) (m := 100) (by decide)) hs4) (m := 100) (by decide) (by decide), ?_⟩
    (conv => whnf)
    refine And.intro ?_ ?_ <;> (conv => whnf)
    rotate_left
    · exact trivial
    refine ⟨⟨_, Tryz.func62, rfl, by kernel_rfl⟩, CallS.use (quoteS txn (by omega) _) [] rfl rfl trivial ?_⟩
    rintro e Hx5 G' hlex5 ⟨⟨q5, rfl, hq5, hs5⟩, rfl, rfl⟩
    (conv => whnf)
    refine ⟨⟨rfl, rfl, trivial⟩, ?_⟩
    (conv => whnf)
    refine ⟨add_ok (add_le (add_le (add_le (add_le (add_le (add_le (add_le (add_le (n := 100) (by decide) hs1) (m := 100) (by decide)) hs2) (m := 100) (by decide)) hs3) (m := 100) (by decide)) hs4) (m := 100) (by decide)) hs5 (by decide), ?_⟩
    (conv => whnf)
    refine ⟨add_ok (add_le (add_le (add_le (add_le (add_le (add_le (add_le (add_le (add_le (n := 100) (by decide) hs1) (m := 100) (by decide)) hs2) (m := 100) (by decide)) hs3) (m := 100) (by decide)) hs4) (m := 100) (by decide)) hs5) (m := 100) (by decide) (by decide), ?_⟩
    (conv => whnf)
    refine And.intro ?_ ?_ <;> (conv => whnf)
    rotate_left
    · exact trivial
    refine ⟨⟨_, Tryz.func64, rfl, by kernel_rfl⟩, CallS.use (about iss jti aud iat txn ⟨sf, si, so⟩ kind reason hsub _) [] rfl rfl trivial ?_⟩
    rintro e Hx6 G' hlex6 ⟨⟨q6, rfl, hq6, hs6⟩, hle6, rfl⟩
    (conv => whnf)
    refine ⟨⟨rfl, rfl, trivial⟩, ?_⟩
    (conv => whnf)
    refine ⟨add_ok (add_le (add_le (add_le (add_le (add_le (add_le (add_le (add_le (add_le (add_le (n := 100) (by decide) hs1) (m := 100) (by decide)) hs2) (m := 100) (by decide)) hs3) (m := 100) (by decide)) hs4) (m := 100) (by decide)) hs5) (m := 100) (by decide)) hs6 (by decide), ?_⟩
    (conv => whnf)
    refine ⟨add_ok (add_le (add_le (add_le (add_le (add_le (add_le (add_le (add_le (add_le (add_le (add_le (n := 100) (by decide) hs1) (m := 100) (by decide)) hs2) (m := 100) (by decide)) hs3) (m := 100) (by decide)) hs4) (m := 100) (by decide)) hs5) (m := 100) (by decide)) hs6) (m := 100) (by decide) (by decide), ?_⟩
    (conv => whnf)
    refine ⟨add_ok (add_le (add_le (add_le (add_le (add_le (add_le (add_le (add_le (add_le (add_le (add_le (add_le (n := 100) (by decide) hs1) (m := 100) (by decide)) hs2) (m := 100) (by decide)) hs3) (m := 100) (by decide)) hs4) (m := 100) (by decide)) hs5) (m := 100) (by decide)) hs6) (m := 100) (by decide)) hnz (by decide), ?_⟩
    (conv => whnf)
    refine ⟨add_ok (add_le (add_le (add_le (add_le (add_le (add_le (add_le (add_le (add_le (add_le (add_le (add_le (add_le (n := 100) (by decide) hs1) (m := 100) (by decide)) hs2) (m := 100) (by decide)) hs3) (m := 100) (by decide)) hs4) (m := 100) (by decide)) hs5) (m := 100) (by decide)) hs6) (m := 100) (by decide)) hnz) (m := 100) (by decide) (by decide), ?_⟩
    (conv => whnf)
    refine ⟨add_ok (add_le (add_le (add_le (add_le (add_le (add_le (add_le (add_le (add_le (add_le (add_le (add_le (add_le (add_le (n := 100) (by decide) hs1) (m := 100) (by decide)) hs2) (m := 100) (by decide)) hs3) (m := 100) (by decide)) hs4) (m := 100) (by decide)) hs5) (m := 100) (by decide)) hs6) (m := 100) (by decide)) hnz) (m := 100) (by decide)) hr2 (by decide), ?_⟩
    (conv => whnf)
    refine ⟨add_ok (add_le (add_le (add_le (add_le (add_le (add_le (add_le (add_le (add_le (add_le (add_le (add_le (add_le (add_le (add_le (n := 100) (by decide) hs1) (m := 100) (by decide)) hs2) (m := 100) (by decide)) hs3) (m := 100) (by decide)) hs4) (m := 100) (by decide)) hs5) (m := 100) (by decide)) hs6) (m := 100) (by decide)) hnz) (m := 100) (by decide)) hr2) (m := 100) (by decide) (by decide), ?_⟩
    (conv => whnf)
    refine ⟨?_, ((((hlex1.trans hlex2).trans hlex3).trans hlex4).trans hlex5).trans hlex6, rfl⟩
    refine congrArg (fun s : ByteArray => SE.ret (pv (.string s))) ?_
    apply ByteArray.ext
    refine Array.toList_inj.1 ?_
    rw [hcw, hnq, ← hr1, ← hq1, ← hq2, ← hq4, ← hq5, ← hq6]
    simp only [ByteArray.data_append, Array.toList_append, List.append_assoc]
    simp
end Go.Kx.Rf
namespace Go.Kx.Se
open Go.Proofs Go.Kx Go.RowKit Go.Kx.Js Go.Kx.Pr Go.Kx.Rt Go.Kx.Ob Go.Kx.Wo Go.Kx.Cl Go.Kx.Pa Go.Kx.Su
set_option maxRecDepth 20000
set_option linter.unusedSimpArgs false
def valP (c : Clm) : J × Int := if clRight c then (clJ c, 0) else (jNone, 10)
theorem value0 (a b c : ByteArray) (n : Int) (t f i o : ByteArray) (k : Int) (r : ByteArray) (hk : -9223372036854775808 ≤ k ∧ k ≤ 9223372036854775807) (H : Hp) :
    CallO Tryz.prog 14 [.si (.ag (cs10 a b c n t f i o k r))] H [] fun e H' G' => RJ2 (valP ⟨a, b, c, n, t, ⟨f, i, o⟩, k, r⟩) e H' ∧ H.Le H' ∧ G' = [] := by
  have hri := right_iff ⟨a, b, c, n, t, ⟨f, i, o⟩, k, r⟩
  unfold valP
  refine CallO.of_body tab Tryz.func14 rfl (nt := Tryz.f14.ntmps) rfl (by kernel_rfl) ?_
  (conv => whnf)
  refine ⟨⟨_, Tryz.func15, rfl, by kernel_rfl⟩, CallS.use (right0 a b c n t f i o k r hk H) [] rfl rfl trivial ?_⟩
  rintro e H1 G' hle1 ⟨rfl, hle1', rfl⟩
  cases hr : clRight ⟨a, b, c, n, t, ⟨f, i, o⟩, k, r⟩
  all_goals (conv => whnf)
  · exact ⟨⟨_, _, _, _, _, _, _, _, _, rfl, .bare 0 false ⟨#[]⟩⟩, hle1, rfl⟩
  have hR := hri.1 hr
  have hn0 := hR.iat.1
  have hn1 := hR.iat.2
  have hk0 := hR.kind
  have hsub := hR.sub
  dsimp only at hn0 hn1 hk0 hsub
  have hsv : subValP ⟨f, i, o⟩ = (subJ ⟨f, i, o⟩, 0) := by unfold subValP; rw [hsub]; rfl
  refine ⟨⟨_, Tryz.func46, rfl, by kernel_rfl⟩, CallS.use (Su.value0 f i o H1) [] rfl rfl trivial ?_⟩
  rw [hsv]
  rintro e H2 G' hle2 ⟨⟨k2, y2, t2, A2, n2, c2, B2, m2, d2, rfl, hj2⟩, hle2', rfl⟩
  (conv => whnf)
  refine WS.draw tab mixed (.take 0 (.take 1 (.take 4 (.take 5 (.take 8 (.take 9 (.take 12 (.take 13 (.take 16 (.take 17 (.take 20 (.take 22 (.alt 2 (.alt 3 (.alt 6 (.alt 7 (.alt 10 (.alt 11 (.alt 14 (.alt 15 (.alt 18 (.alt 19 (.alt 21 (.alt 23 (.alt 24 (.alt 25 (.alt 26 (.alt 27 (.take 28 .done) .no) .no) .no) .no) .no) .no) .no) .no) .no) .no) .no) .no) .no) .no) .no) .no))))))))))))) (by kernel_rfl) [1] ?_
  (conv => whnf)
  repeat' (first
    | exact trivial
    | exact rfl
    | exact ⟨rfl, rfl, rfl, trivial⟩
    | exact ⟨_, Tryz.func48, rfl, by kernel_rfl⟩
    | exact ⟨_, Tryz.func23, rfl, by kernel_rfl⟩
    | exact ⟨_, Tryz.func22, rfl, by kernel_rfl⟩
    | exact ⟨_, Tryz.func47, rfl, by kernel_rfl⟩
    | exact ⟨_, Tryz.func49, rfl, by kernel_rfl⟩
    | (refine CallS.use (Ob.str_ _ _) [] rfl rfl trivial ?_; rintro e H6 G' hle7 ⟨rfl, rfl, rfl⟩; (conv => whnf))
    | (refine CallS.use (num_ n (by omega) (by omega) _) [] rfl rfl trivial ?_; rintro e H6 G' hle7 ⟨rfl, rfl, rfl⟩; (conv => whnf))
    | (refine CallS.use (member_ _ _ _ _ _ _ _ _ _ _ _) [] rfl rfl trivial ?_; rintro e H6 G' hle7 ⟨rfl, rfl, rfl⟩; (conv => whnf))
    | (refine CallS.use (events0 a b c n t f i o k r hk0 _) [] rfl rfl trivial ?_; rintro e H6 G' hle7 ⟨⟨k6, y6, t6, A6, n6, c6, B6, m6, d6, rfl, hj6⟩, hle6, rfl⟩; (conv => whnf))
    | exact Nat.le_of_ble_eq_true rfl
    | (refine .inl ?_; intro g H7 hle8 hrd; (conv => whnf))
    | (refine And.intro ?_ ?_ <;> (conv => whnf)))
  have hms : MsAt H7 (clMs ⟨a, b, c, n, t, ⟨f, i, o⟩, k, r⟩) _ := .cons (.bare 4 false a) (.cons (.bare 4 false b) (.cons (.bare 3 false (Lb.itoaB n)) (.cons (.bare 4 false c) (.cons (.bare 4 false t) (.cons (hj2.mono (hle6.trans hle8)) (.cons (hj6.mono hle8) .nil))))))
  have hfin := ((hle1.trans hle2).trans hle6).trans hle8
  refine CallS.use (obj_ (clMs ⟨a, b, c, n, t, ⟨f, i, o⟩, k, r⟩) (Nat.le_of_ble_eq_true rfl) (some ⟨g, 0, none⟩) 7 _ H7 hms ⟨fun e => (nomatch e), fun a e => by injection e with e; subst e; exact hrd⟩ (Nat.zero_lt_succ _)) [] rfl rfl trivial ?_
  rintro e H8 G' hle9 ⟨⟨B8, d8, rfl, hj8⟩, rfl⟩
  (conv => whnf)
  repeat' (first
    | exact trivial
    | exact rfl
    | exact ⟨rfl, trivial, rfl, trivial⟩
    | exact ⟨⟨_, _, _, _, _, _, _, _, _, rfl, hj8⟩, hfin.trans hle9, rfl⟩
    | (refine And.intro ?_ ?_ <;> (conv => whnf)))
theorem value_ (c : Clm) (hk : -9223372036854775808 ≤ c.kind ∧ c.kind ≤ 9223372036854775807) (H : Hp) : CallO Tryz.prog 14 [agC c] H [] fun e H' G' => RJ2 (valP c) e H' ∧ H.Le H' ∧ G' = [] :=
  value0 c.iss c.jti c.aud c.iat c.txn c.sub.fmt c.sub.id c.sub.own c.kind c.reason hk H
end Go.Kx.Se
