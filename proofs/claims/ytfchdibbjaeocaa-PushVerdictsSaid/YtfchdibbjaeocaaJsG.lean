/- Values as texts: strings out of a reader. No condition of its own. -/
import Derived.Test.YtfchdibbjaeocaaJsF
namespace Go.Kx.Js
open Go.Proofs Go.Kx Go.RowKit
set_option maxRecDepth 20000
def namesS : List UInt8 := [98, 102, 110, 114, 116, 34, 92]
def shortsS : ByteArray := ⟨#[8, 12, 10, 13, 9, 34, 92]⟩
theorem ix_short (c : UInt8) : ixB namesS c = match shortB c with
    | some _ => ixB namesS c
    | none => -1 := by
  have h : ∀ n : Fin 256, ixB namesS (UInt8.ofNat n.val) = (match shortB (UInt8.ofNat n.val) with
    | some _ => ixB namesS (UInt8.ofNat n.val)
    | none => -1) := by decide +kernel
  have := h ⟨c.toNat, c.toNat_lt⟩
  simpa using this
theorem short_some {c b : UInt8} (h : shortB c = some b) : c ≠ 0 ∧ 0 ≤ ixB namesS c ∧ ixB namesS c < 7 ∧ byteAt shortsS (ixB namesS c) = (b.toNat : Int) := by
  have h0 : ∀ n : Fin 256, (match shortB (UInt8.ofNat n.val) with
    | some b => decide (UInt8.ofNat n.val ≠ 0) && decide (0 ≤ ixB namesS (UInt8.ofNat n.val)) && decide (ixB namesS (UInt8.ofNat n.val) < 7) && decide (byteAt shortsS (ixB namesS (UInt8.ofNat n.val)) = (b.toNat : Int))
    | none => true) = true := by decide +kernel
  have := h0 ⟨c.toNat, c.toNat_lt⟩
  simp only [UInt8.ofNat_toNat, h, Bool.and_eq_true, decide_eq_true_eq] at this
  exact ⟨this.1.1.1, this.1.1.2, this.1.2, this.2⟩
def OutE (s : ByteArray) (d o : Int) (bs : List UInt8) (res : Res (List UInt8)) (e : SE) (G' : List SB) : Prop :=
  match res with
  | .ok x r => Sfx r (tL s) ∧ e = .ret (.si (.ce (.self 2))) ∧ G' = [rdB s r d o, .dead, .row 5 1 (bs ++ x).length (bCells (bs ++ x))]
  | .no er r => e = .pan [{ v := faultV er (pos s r), recovered := false }] ∧ ∃ l' o', G' = [rdB s l' d o', .row 5 1 bs.length (bCells bs)]
theorem Sfx.tl (l : List UInt8) : Sfx l.tail l := by
  cases l with
  | nil => exact .refl _
  | cons c r => exact ⟨[c], rfl⟩
theorem hexP_sfx : ∀ (k n : Nat) (l : List UInt8) {a : Nat} {r : List UInt8}, hexP k n l = .ok a r → Sfx r l
  | 0, n, l, a, r, h => by injection h with _ h; subst h; exact .refl _
  | k + 1, n, l, a, r, h => by
    cases hd : hexD (pk l) with
    | some d => rw [hexP_some hd] at h; exact (hexP_sfx k _ _ h).trans (.tl l)
    | none => rw [hexP_none hd] at h; cases h
theorem unitP_sfx {fr l : List UInt8} {n : Nat} {r : List UInt8} (h : unitP fr l = .ok n r) : Sfx r l := by
  unfold unitP at h
  obtain ⟨a, r1, h1, h⟩ := bind_ok h
  have hs := hexP_sfx _ _ _ h1
  split at h
  · injection h with _ h; subst h; exact hs
  · split at h
    · cases h
    · split at h
      · cases h
      · rename_i l3 hb
        obtain ⟨b, r2, h2, h⟩ := bind_ok h
        have hs2 := hexP_sfx _ _ _ h2
        split at h
        · cases h
        · injection h with _ h
          subst h
          unfold behindU at hb
          split at hb
          · cases hb
          · rename_i l2 h92
            exact (hs2.trans (tk_sfx hb)).trans ((tk_sfx h92).trans hs)
theorem runeB_len (x : Int) : (runeB x).length ≤ 4 := by
  unfold runeB
  split
  · exact Nat.le_of_ble_eq_true rfl
  · split
    · exact Nat.le_of_ble_eq_true rfl
    · split <;> exact Nat.le_of_ble_eq_true rfl
theorem escP_sfx {fr l : List UInt8} {x : List UInt8} {r : List UInt8} (h : escP fr l = .ok x r) : Sfx r l ∧ x.length ≤ 4 := by
  unfold escP at h
  split at h
  · injection h with h1 h; subst h h1; exact ⟨.tl l, Nat.le_of_ble_eq_true rfl⟩
  · split at h
    · rename_i r' ht
      injection h with h1 h; subst h h1; exact ⟨tk_sfx ht, by decide⟩
    · split at h
      · rename_i r' ht
        obtain ⟨n, r1, h1, h⟩ := bind_ok h
        injection h with h2 h; subst h h2
        exact ⟨(unitP_sfx h1).trans (tk_sfx ht), runeB_len _⟩
      · cases h
theorem strP_end {m : Nat} {b r r2 : List UInt8} (h : tk 34 r = some r2) : strP (m + 1) b r = .ok b r2 := by
  show (match tk 34 r with | some r => _ | none => _) = _
  rw [h]
theorem strP_esc {m : Nat} {b r r2 : List UInt8} (h : tk 34 r = none) (h2 : tk 92 r = some r2) : strP (m + 1) b r = (escP r r2).bind fun x r3 => strP m (b ++ x) r3 := by
  show (match tk 34 r with | some r => _ | none => match tk 92 r with | some r => _ | none => _) = _
  rw [h, h2]
theorem strP_ctl {m : Nat} {b r : List UInt8} (h : tk 34 r = none) (h2 : tk 92 r = none) (h3 : (pk r).toNat < 32) : strP (m + 1) b r = .no 31 r := by
  show (match tk 34 r with | some r => _ | none => match tk 92 r with | some r => _ | none => if (pk r).toNat < 32 then _ else _) = _
  rw [h, h2]
  exact if_pos h3
theorem strP_chr {m : Nat} {b r : List UInt8} (h : tk 34 r = none) (h2 : tk 92 r = none) (h3 : ¬ (pk r).toNat < 32) : strP (m + 1) b r = strP m (b ++ [pk r]) r.tail := by
  show (match tk 34 r with | some r => _ | none => match tk 92 r with | some r => _ | none => if (pk r).toNat < 32 then _ else _) = _
  rw [h, h2]
  exact if_neg h3
theorem escape_ (s : ByteArray) (fr l : List UInt8) (bs : List UInt8) (hn : bs.length ≤ 1000000) (hl : Sfx l (tL s)) (hs : s.size ≤ 1000000) (d o : Int) (H : Hp) : CallO Try.prog 43 [me, .si (.ce (.self 1)), pv (.int .i64 ((pos s fr : Nat) : Int))] H [rdB s l d o, .row 5 1 bs.length (bCells bs)] fun e H' G' => H.Le H' ∧ OutE s d o bs (escP fr l) e G' := by
  refine CallO.of_body tab Try.func43 rfl (nt := Try.f43.ntmps) rfl (by kernel_rfl) ?_
  (conv => whnf)
  refine ⟨⟨_, Try.func27, rfl, by kernel_rfl⟩, CallS.use (peek_ s l hl d o H) [0] rfl rfl ⟨rfl, trivial⟩ ?_⟩
  rintro e H' G' hle ⟨rfl, rfl, rfl⟩
  (conv => whnf)
  refine ⟨⟨_, Try.func28, rfl, by kernel_rfl⟩, CallS.use (indexByte ⟨namesS.toArray⟩ (pk l) _ []) [] rfl rfl trivial ?_⟩
  rintro e H' G' hle ⟨rfl, rfl, rfl⟩
  (conv => whnf)
  unfold escP
  cases hsb : shortB (pk l) with
  | some b =>
    obtain ⟨h1, h2, h3, h4⟩ := short_some hsb
    have hz : ((((pk l).toNat : Nat) : Int) != 0) = true := by
      simp only [bne_iff_ne, ne_eq]
      intro h
      exact h1 (UInt8.toNat_inj.1 (by show (pk l).toNat = 0; omega))
    rw [hz]
    (conv => whnf)
    change match decide (ixB namesS (pk l) ≥ 0) with | true => _ | false => _
    rw [decide_eq_true (show ixB namesS (pk l) ≥ 0 from h2)]
    (conv => whnf)
    refine ⟨⟨h2, by show ixB namesS (pk l) < 7; exact h3⟩, ?_⟩
    have h5 : byteAt (⟨#[8, 12, 10, 13, 9, 34, 92]⟩ : ByteArray) (ixB (⟨namesS.toArray⟩ : ByteArray).data.toList (pk l)) = (b.toNat : Int) := h4
    rw [h5]
    (conv => whnf)
    refine ⟨by decide, .inl ?_⟩
    intro g H2 hle hrd
    (conv => whnf)
    refine ⟨_, rfl, hrd, ones_u8 [_], ?_⟩
    (conv => whnf)
    refine ⟨by show _ * 2 ≤ _; omega, ?_⟩
    (conv => whnf)
    have hle1 : l = pk l :: l.tail := by
      cases l with
      | nil => exact absurd rfl h1
      | cons c r => rfl
    have hr : Sfx l.tail (tL s) := by rw [hle1] at hl; exact hl.tail
    refine ⟨hle, hr, rfl, ?_⟩
    rw [hle1] at hl
    have hst := rd_step hl hs d o
    rw [← hle1] at hst
    rw [← hst, bCells_snoc bs b rfl]
    show [_, _, _] = [_, _, _]
    rw [List.length_append]; rfl
  | none =>
    have hix : ixB namesS (pk l) = -1 := by have := ix_short (pk l); rw [hsb] at this; exact this
    have hix2 : ixB (⟨namesS.toArray⟩ : ByteArray).data.toList (pk l) = -1 := hix
    rw [hix2]
    refine br.of (fun h1 => ?_) (fun h1 => ?_) <;> (conv => whnf)
    all_goals
      refine ⟨⟨_, Try.func42, rfl, by kernel_rfl⟩, CallS.use (next_ 47 (by decide) s l hl hs d o _) [0] rfl rfl ⟨rfl, trivial⟩ ?_⟩
      rintro e H' G' hle ⟨rfl, h⟩
      cases h47 : tk 47 l with
      | some r =>
        rw [h47] at h
        obtain ⟨hr, rfl, rfl⟩ := h
        (conv => whnf)
        refine ⟨by decide, .inl ?_⟩
        intro g H2 hle hrd
        (conv => whnf)
        refine ⟨_, rfl, hrd, ones_u8 [_], ?_⟩
        (conv => whnf)
        refine ⟨by show _ * 2 ≤ _; omega, ?_⟩
        (conv => whnf)
        refine ⟨hle, hr, rfl, ?_⟩
        rw [bCells_snoc bs 47 (x := 47) rfl]
        show [_, _, _] = [_, _, _]
        rw [List.length_append]; rfl
      | none =>
        rw [h47] at h
        obtain ⟨rfl, rfl⟩ := h
        (conv => whnf)
        refine ⟨⟨_, Try.func42, rfl, by kernel_rfl⟩, CallS.use (next_ 117 (by decide) s l hl hs d o _) [0] rfl rfl ⟨rfl, trivial⟩ ?_⟩
        rintro e H' G' hle ⟨rfl, h⟩
        cases h117 : tk 117 l with
        | some r =>
          rw [h117] at h
          obtain ⟨hr, rfl, rfl⟩ := h
          (conv => whnf)
          refine ⟨⟨_, Try.func52, rfl, by kernel_rfl⟩, CallS.use (unit_ s fr r hr hs d o _) [0] rfl rfl ⟨rfl, trivial⟩ ?_⟩
          rintro e H' G' hle ⟨rfl, hout⟩
          cases hu : unitP fr r with
          | no er r2 =>
            rw [hu] at hout
            obtain ⟨rfl, l2, o2, rfl⟩ := hout
            (conv => whnf)
            refine ⟨.refl _, ?_⟩
            show OutE s d o bs ((unitP fr r).bind _) _ _
            rw [hu]
            exact ⟨rfl, l2, o2, rfl⟩
          | ok n r2 =>
            rw [hu] at hout
            obtain ⟨hr2, ⟨sv, rfl, hn1, hn2, rfl⟩, rfl⟩ := hout
            generalize hx : ((n : Nat) : Int) = x
            (conv => whnf)
            refine ⟨⟨_, Try.func51, rfl, by kernel_rfl⟩, CallS.use (appendRune x (by omega) (by omega) (by omega) bs hn _) [1] rfl rfl ⟨rfl, trivial⟩ ?_⟩
            rintro e H2 G' hle2 ⟨rfl, rfl⟩
            (conv => whnf)
            refine ⟨hle2, ?_⟩
            show OutE s d o bs ((unitP fr r).bind _) _ _
            rw [hu]
            show Sfx r2 (tL s) ∧ _ ∧ [_, _, _] = [rdB s r2 d o, .dead, .row _ 1 (bs ++ runeB ((n : Nat) : Int)).length (bCells (bs ++ runeB ((n : Nat) : Int)))]
            rw [hx]
            exact ⟨hr2, rfl, rfl⟩
        | none =>
          rw [h117] at h
          obtain ⟨rfl, rfl⟩ := h
          (conv => whnf)
          refine ⟨⟨_, Try.func23, rfl, by kernel_rfl⟩, CallS.use (stop_ s l d o _) [0] rfl rfl ⟨rfl, trivial⟩ ?_⟩
          rintro e H2 G' hle2 ⟨rfl, rfl, rfl⟩
          (conv => whnf)
          exact ⟨.refl _, rfl, l, o, rfl⟩
def RT : Hp → ByteArray → SV → Prop := fun _ t sv => sv = pv (.string t)
theorem text_ (s : ByteArray) (l : List UInt8) (hl : Sfx l (tL s)) (hs : s.size ≤ 200000) (d o : Int) (H : Hp) : CallO Try.prog 32 [me] H [rdB s l d o] fun e H' G' => Out s d o RT (textP l) e H' G' := by
  refine CallO.of_body tab Try.func32 rfl (nt := Try.f32.ntmps) rfl (by kernel_rfl) ?_
  (conv => whnf)
  refine ⟨⟨_, Try.func41, rfl, by kernel_rfl⟩, CallS.use (must_ 34 (by decide) s l hl (by omega) d o _) [0] rfl rfl ⟨rfl, trivial⟩ ?_⟩
  rintro e H' G' hle ⟨rfl, hout⟩
  unfold textP
  cases hm : mustP 34 l with
  | no er r =>
    rw [hm] at hout
    obtain ⟨rfl, l2, o2, rfl⟩ := hout
    (conv => whnf)
    exact ⟨rfl, l2, o2, rfl⟩
  | ok u l1 =>
    rw [hm] at hout
    obtain ⟨hl1, ⟨sv, rfl, rfl⟩, rfl⟩ := hout
    (conv => whnf)
    refine WS.nilRow 3 5 1 rfl ?_
    (conv => whnf)
    refine WS.loop (fun k F H2 G => ∃ (m : Nat) (b r : List UInt8), Sfx r (tL s) ∧ r.length < m ∧ strP m b r = strP (l1.length + 1) [] l1 ∧ b.length + 4 * r.length ≤ 4 * s.size ∧ k = r.length ∧ F = [(0, me), (3, .si (.ce (.self 1)))] ∧ H'.Le H2 ∧ G = [rdB s r d o, .row 5 1 b.length (bCells b)]) (l1.length + 1) ?_ ?_
    · refine ⟨l1.length, by omega, _, _, [0, 1], ⟨l1.length + 1, [], l1, hl1, by omega, rfl, by have := hl1.le; rw [← size_eq] at this; simp; omega, rfl, rfl, .refl _, rfl⟩, ?_⟩
      exact ⟨rfl, ⟨rfl, rfl, trivial⟩, rfl, rfl, trivial⟩
    rintro k F H2 G hle ⟨m, b, r, hr, hm2, hb, hlen, rfl, rfl, hle2, rfl⟩
    refine codeL.go tab ?_
    (conv => whnf)
    refine ⟨⟨_, Try.func27, rfl, by kernel_rfl⟩, CallS.use (peek_ s r hr d o _) [0] rfl rfl ⟨rfl, trivial⟩ ?_⟩
    rintro e H3 G' hle3 ⟨rfl, rfl, rfl⟩
    (conv => whnf)
    refine ⟨⟨_, Try.func42, rfl, by kernel_rfl⟩, CallS.use (next_ 34 (by decide) s r hr (by omega) d o _) [0] rfl rfl ⟨rfl, trivial⟩ ?_⟩
    rintro e H4 G' hle4 ⟨rfl, h⟩
    cases m with
    | zero => omega
    | succ m =>
    cases h34 : tk 34 r with
    | some r2 =>
      rw [h34] at h
      obtain ⟨hr2, rfl, rfl⟩ := h
      (conv => whnf)
      refine ⟨strOf b, cells_str b, ?_⟩
      (conv => whnf)
      show Out s d o RT ((strP (l1.length + 1) [] l1).bind _) _ _ _
      rw [← hb, strP_end h34]
      exact ⟨hr2, ⟨_, rfl, rfl⟩, rfl⟩
    | none =>
      rw [h34] at h
      obtain ⟨rfl, rfl⟩ := h
      (conv => whnf)
      refine ⟨⟨_, Try.func42, rfl, by kernel_rfl⟩, CallS.use (next_ 92 (by decide) s r hr (by omega) d o _) [0] rfl rfl ⟨rfl, trivial⟩ ?_⟩
      rintro e H4 G' hle4 ⟨rfl, h⟩
      cases h92 : tk 92 r with
      | some r2 =>
        rw [h92] at h
        obtain ⟨hr2, rfl, rfl⟩ := h
        (conv => whnf)
        rw [strP_esc h34 h92] at hb
        have hlr : r.length = r2.length + 1 := by rw [tk_some h92]; rfl
        refine ⟨⟨_, Try.func43, rfl, by kernel_rfl⟩, CallS.use (escape_ s r r2 b (by omega) hr2 (by omega) d o _) [0, 1] rfl rfl ⟨rfl, rfl, trivial⟩ ?_⟩
        rintro e H5 G' hle5 ⟨_, hout⟩
        cases he : escP r r2 with
        | no er r3 =>
          rw [he] at hout hb
          obtain ⟨rfl, l2, o2, rfl⟩ := hout
          (conv => whnf)
          show Out s d o RT ((strP (l1.length + 1) [] l1).bind _) _ _ _
          rw [← hb]
          exact ⟨rfl, l2, o2, rfl⟩
        | ok x r3 =>
          rw [he] at hout hb
          obtain ⟨hr3, rfl, rfl⟩ := hout
          obtain ⟨hs3, hx4⟩ := escP_sfx he
          have hl3 := hs3.le
          (conv => whnf)
          refine ⟨r3.length, by omega, _, _, [0, 2], ⟨m, b ++ x, r3, hr3, by omega, hb, by rw [List.length_append]; omega, rfl, rfl, hle2.trans hle5, rfl⟩, ?_⟩
          exact ⟨rfl, ⟨rfl, rfl, trivial⟩, rfl, rfl, trivial⟩
      | none =>
        rw [h92] at h
        obtain ⟨rfl, rfl⟩ := h
        generalize hx : (((pk r).toNat : Nat) : Int) = x
        (conv => whnf)
        refine br.of (fun h5 => ?_) (fun h5 => ?_) <;> (conv => whnf)
        · have h5 := of_decide_eq_true h5
          refine ⟨⟨_, Try.func23, rfl, by kernel_rfl⟩, CallS.use (stop_ s r d o _) [0] rfl rfl ⟨rfl, trivial⟩ ?_⟩
          rintro e H2 G' hle2 ⟨rfl, rfl, rfl⟩
          (conv => whnf)
          show Out s d o RT ((strP (l1.length + 1) [] l1).bind _) _ _ _
          rw [← hb, strP_ctl h34 h92 (by omega)]
          exact ⟨rfl, r, o, rfl⟩
        · have h5 := of_decide_eq_false h5
          rw [strP_chr h34 h92 (by omega)] at hb
          have hre : r = pk r :: r.tail := by
            cases r with
            | nil => simp only [pk] at hx; exact absurd (show (0 : UInt8).toNat = 0 from rfl) (by omega)
            | cons c r => rfl
          have hrl : r.length = r.tail.length + 1 := by rw [hre]; rfl
          have hrt : Sfx r.tail (tL s) := by rw [hre] at hr; exact hr.tail
          have hst : SB.box 49 [.val (.string s), .val (.int .i64 (IntKind.i64.wrap (((pos s r : Nat) : Int) + 1))), .val (.int .i64 d), .val (.int .i64 o)] = rdB s r.tail d o := by
            rw [hre] at hr
            have := rd_step hr (by omega) d o
            rw [← hre] at this
            exact this
          refine ⟨by decide, .inl ?_⟩
          intro g H5 hle5 hrd
          (conv => whnf)
          refine ⟨_, rfl, hrd, ones_u8 [_], ?_⟩
          (conv => whnf)
          refine ⟨by show _ * 2 ≤ _; omega, ?_⟩
          (conv => whnf)
          rw [hst, bCells_snoc b (pk r) hx.symm]
          refine ⟨r.tail.length, by omega, _, _, [0, 2], ⟨m, b ++ [pk r], r.tail, hrt, by omega, hb, by rw [List.length_append]; simp only [List.length_cons, List.length_nil]; omega, rfl, rfl, hle2.trans hle5, by rw [List.length_append]⟩, ?_⟩
          exact ⟨rfl, ⟨rfl, rfl, trivial⟩, rfl, rfl, trivial⟩
end Go.Kx.Js
