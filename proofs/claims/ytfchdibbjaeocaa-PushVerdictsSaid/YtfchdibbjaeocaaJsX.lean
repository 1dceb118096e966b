/- Texts that are told: the walk over one. No condition of its own. -/
import Derived.Test.YtfchdibbjaeocaaJsW
namespace Go.Kx.Js
open Go.Proofs Go.Kx Go.RowKit
set_option maxRecDepth 20000
theorem spCells_length (sp : Spans) : (spCells sp).length = sp.length * 2 := by
  induction sp with
  | nil => rfl
  | cons p r ih =>
    show (_ :: _ :: spCells r).length = _
    rw [List.length_cons, List.length_cons, ih, List.length_cons]; omega
theorem spCells_get {sp : Spans} {i : Nat} {p : Nat × Nat} (h : sp[i]? = some p) : ((spCells sp).drop (i * 2)).take 2 = [.int .u8 (p.1 : Int), .int .u8 (p.2 : Int)] := by
  induction sp generalizing i with
  | nil => simp at h
  | cons q r ih =>
    cases i with
    | zero => simp at h; subst h; rfl
    | succ i =>
      have := ih (i := i) (by simpa using h)
      rw [← this, show (i + 1) * 2 = i * 2 + 2 by omega]
      rfl
theorem RdV.addr2 {H : Hp} {B : Option Addr} {xs : List Value} (h : RdV H B xs) (hx : xs.length ≠ 0) : ∃ b o, B = some ⟨b, o, none⟩ := by
  cases B with
  | none => rw [h.1 rfl] at hx; exact absurd rfl hx
  | some a => obtain ⟨b, o, h1, _⟩ := h.2 a rfl; exact ⟨b, o, h1⟩
theorem RdV.cells2 {H : Hp} {B : Option Addr} {xs ys : List Value} {a m : Nat} (h : RdV H B xs) (hx : xs.length ≠ 0) (hc : (xs.drop a).take m = ys) {off : Nat} (ho : off = a) : RdN H B off ys := by
  cases B with
  | none => rw [h.1 rfl] at hx; exact absurd rfl hx
  | some q =>
    obtain ⟨b, o, h1, h2⟩ := h.2 q rfl
    refine ⟨b, o, h1, fun j x hj => ?_⟩
    have := h2 _ _ (cells_at hc rfl j x hj)
    rw [ho, ← this]
    congr 1; omega
theorem inSp_take {sp : Spans} {l : List UInt8} (hl : sp.length ≤ l.length) : inSp sp l = true ↔ ∀ (i : Nat) (p : Nat × Nat) (c : UInt8), sp[i]? = some p → l[i]? = some c → p.1 ≤ c.toNat ∧ c.toNat ≤ p.2 := by
  induction sp generalizing l with
  | nil => simp [inSp]
  | cons q r ih =>
    cases l with
    | nil => simp at hl
    | cons c l =>
      simp only [inSp, Bool.and_eq_true, decide_eq_true_eq]
      rw [ih (by simpa using hl)]
      constructor
      · rintro ⟨h1, h2⟩ i p x hp hx
        cases i with
        | zero => simp at hp hx; subst hp hx; exact h1
        | succ i => exact h2 i p x (by simpa using hp) (by simpa using hx)
      · intro h
        exact ⟨h 0 q c rfl rfl, fun i p x hp hx => h (i + 1) p x (by simpa using hp) (by simpa using hx)⟩
def strL (l : List UInt8) : ByteArray := ⟨l.toArray⟩
theorem strL_size (l : List UInt8) : (strL l).size = l.length := by show l.toArray.size = _; rw [List.size_toArray]
theorem byteAt_strL {l : List UInt8} {i : Nat} {c : UInt8} (h : l[i]? = some c) : byteAt (strL l) (i : Int) = (c.toNat : Int) := by
  unfold byteAt strL
  rw [Int.toNat_natCast, List.getD_eq_getElem?_getD]
  show (((l.toArray.toList)[i]?.getD 0).toNat : Int) = _
  rw [List.toList_toArray, h]; rfl
theorem behindP_len (c : UInt8) {sp : Spans} (h : behindP c.toNat = some sp) : sp.length ≤ 3 := by
  have h0 : ∀ n : Fin 256, (match behindP n.val with
    | some sp => decide (sp.length ≤ 3)
    | none => true) = true := by decide +kernel
  have := h0 ⟨c.toNat, c.toNat_lt⟩
  simp only [h, decide_eq_true_eq] at this
  exact this
theorem character_ (c : UInt8) (l : List UInt8) (hs : (c :: l).length ≤ 1000000) (H : Hp) : CallO Try.prog 19 [pv (.string (strL (c :: l)))] H [] fun e _ G' => e = .ret (pv (.int .i64 ((charP (c :: l) : Nat) : Int))) ∧ G' = [] := by
  have hsz := strL_size (c :: l)
  have hs2 := hs
  rw [List.length_cons] at hsz hs2
  refine CallO.of_body tab Try.func19 rfl (nt := Try.f19.ntmps) rfl (by kernel_rfl) ?_
  (conv => whnf)
  refine ⟨⟨by decide, by omega⟩, ?_⟩
  have hb := byteAt_strL (l := c :: l) (i := 0) (c := c) rfl
  generalize byteAt (strL (c :: l)) 0 = x at *
  (conv => whnf)
  refine ⟨⟨_, Try.func25, rfl, by kernel_rfl⟩, CallS.use (behind_ c.toNat c.toNat_lt x hb H) [] rfl rfl trivial ?_⟩
  rintro e H2 G' hle2 ⟨hrb, rfl⟩
  have hch : charP (c :: l) = match behindP c.toNat with
    | none => 0
    | some sp => if (c :: l).length ≤ sp.length then 0 else if inSp sp l then 1 + sp.length else 0 := rfl
  rw [hch]
  cases hbe : behindP c.toNat with
  | none =>
    rw [hbe] at hrb
    obtain ⟨A, n, cap, rfl⟩ := hrb
    (conv => whnf)
    exact ⟨rfl, rfl⟩
  | some sp =>
    rw [hbe] at hrb
    obtain ⟨A, cap, rfl, hrv⟩ := hrb
    have hspl : sp.length ≤ 3 := behindP_len c hbe
    (conv => whnf)
    refine br.of (fun h1 => ?_) (fun h1 => ?_) <;> (conv => whnf)
    · have h1 := of_decide_eq_true h1
      show SE.ret _ = SE.ret (pv (.int .i64 ((if (c :: l).length ≤ sp.length then 0 else _ : Nat) : Int))) ∧ _
      rw [if_pos (by rw [List.length_cons]; omega)]
      exact ⟨rfl, rfl⟩
    · have h1 := of_decide_eq_false h1
      have h1' : ¬ (c :: l).length ≤ sp.length := by rw [List.length_cons]; omega
      have hgo : ∀ (v : Int) (e : SE) (G' : List SB), v = ((if inSp sp l then 1 + sp.length else 0 : Nat) : Int) → e = .ret (pv (.int .i64 v)) → G' = [] → e = .ret (pv (.int .i64 (((match some sp with
          | none => 0
          | some sp => if (c :: l).length ≤ sp.length then 0 else if inSp sp l then 1 + sp.length else 0) : Nat) : Int))) ∧ G' = [] := by
        rintro v e G' hv rfl rfl
        show SE.ret _ = SE.ret (pv (.int .i64 ((if (c :: l).length ≤ sp.length then 0 else _ : Nat) : Int))) ∧ _
        rw [if_neg h1', ← hv]
        exact ⟨rfl, rfl⟩
      refine WS.loop (fun k F H3 G => ∃ i : Nat, i ≤ sp.length ∧ (∀ (j : Nat) (p : Nat × Nat) (x : UInt8), j < i → sp[j]? = some p → l[j]? = some x → p.1 ≤ x.toNat ∧ x.toNat ≤ p.2) ∧ k = sp.length - i ∧ F = [(0, pv (.string (strL (c :: l)))), (3, pv (.slice A sp.length cap)), (22, pv (.slice A sp.length cap)), (23, pv (.int .i64 sp.length)), (24, pv (.int .i64 i))] ∧ H2.Le H3 ∧ G = []) (sp.length + 1) ?_ ?_
      · refine ⟨sp.length, by omega, _, _, [], ⟨0, by omega, fun j p x hj => absurd hj (by omega), rfl, rfl, .refl _, rfl⟩, ?_⟩
        exact ⟨rfl, trivial, rfl, rfl, rfl, rfl, rfl, trivial⟩
      rintro k F H3 G hle3 ⟨i, hi, hall, rfl, rfl, hle4, rfl⟩
      refine codeL.go tab ?_
      (conv => whnf)
      refine br.of (fun h2 => ?_) (fun h2 => ?_) <;> (conv => whnf)
      · have h2 := of_decide_eq_true h2
        have hil : i < sp.length := by omega
        have hget : sp[i]? = some sp[i] := List.getElem?_eq_getElem hil
        generalize sp[i] = p at hget
        obtain ⟨a, b⟩ := p
        have hlen0 : (spCells sp).length ≠ 0 := by rw [spCells_length]; omega
        refine ⟨⟨by omega, by omega⟩, hrv.addr2 hlen0, ?_⟩
        (conv => whnf)
        refine ⟨_, rfl, (hrv.mono hle4).cells2 hlen0 (spCells_get hget) (by show (i : Int).toNat * 2 = _; omega), ?_⟩
        (conv => whnf)
        refine WS.draw tab mixed (.take 0 (.take 1 (.take 2 (.take 3 (.take 4 (.alt 5 (.take 6 .done) .no)))))) (by kernel_rfl) [] ?_
        (conv => whnf)
        have hw := wrap64 (x := (i : Int) + 1) (by omega) (by omega)
        rw [hw]
        refine ⟨⟨by omega, by omega⟩, ?_⟩
        have hx0 : (c :: l)[i + 1]? = some ((c :: l)[i + 1]'(by rw [List.length_cons]; omega)) := List.getElem?_eq_getElem _
        generalize ((c :: l)[i + 1]'(by rw [List.length_cons]; omega)) = x0 at hx0
        have hx1 : l[i]? = some x0 := by simpa using hx0
        have hby := byteAt_strL (l := c :: l) (i := i + 1) (c := x0) hx0
        rw [show ((i + 1 : Nat) : Int) = (i : Int) + 1 by omega] at hby
        generalize byteAt (strL (c :: l)) ((i : Int) + 1) = y at *
        (conv => whnf)
        repeat' (first
          | exact trivial
          | exact rfl
          | exact ⟨_, Try.func26, rfl, by kernel_rfl⟩
          | (refine CallS.use (has_ a b y x0 hby _) [] rfl rfl trivial ?_; rintro e H5 G' hle5 ⟨rfl, rfl, rfl⟩; (conv => whnf))
          | (refine And.intro ?_ ?_ <;> (conv => whnf)))
        rcases hin : (decide (a ≤ x0.toNat) && decide (x0.toNat ≤ b)) with _ | _ <;> (conv => whnf)
        · refine hgo 0 _ [] ?_ rfl rfl
          rw [if_neg]
          · rfl
          · intro hh
            have := (inSp_take (by omega)).1 hh i (a, b) x0 hget hx1
            simp only [Bool.and_eq_false_iff, decide_eq_false_iff_not] at hin
            rcases hin with hin | hin
            · exact hin this.1
            · exact hin this.2
        · rw [hw]
          simp only [Bool.and_eq_true, decide_eq_true_eq] at hin
          refine ⟨sp.length - (i + 1), by omega, _, _, [], ⟨i + 1, by omega, fun j p x hj hp hxx => ?_, rfl, rfl, hle4, rfl⟩, ?_⟩
          · rcases Nat.lt_or_ge j i with hji | hji
            · exact hall j p x hji hp hxx
            · obtain rfl : j = i := by omega
              rw [hget] at hp
              rw [hx1] at hxx
              injection hp with hp
              injection hxx with hxx
              subst hp hxx
              exact hin
          · exact ⟨rfl, trivial, rfl, rfl, rfl, rfl, rfl, trivial⟩
      · have h2 := of_decide_eq_false h2
        refine hgo _ _ [] ?_ rfl rfl
        rw [wrap64 (by omega) (by omega), if_pos]
        · omega
        · refine (inSp_take (by omega)).2 fun j p x hp hx => hall j p x ?_ hp hx
          have := (List.getElem?_eq_some_iff.1 hp).1
          omega
theorem drop_pos {s : ByteArray} {l : List UInt8} (h : Sfx l (tL s)) {k : Nat} (hk : k ≤ l.length) : ((pos s l : Nat) : Int) + (k : Int) = ((pos s (l.drop k) : Nat) : Int) := by
  have := h.le
  unfold pos
  rw [List.length_drop]
  omega
theorem drop_sfx {l t : List UInt8} (h : Sfx l t) (k : Nat) : Sfx (l.drop k) t := Sfx.trans ⟨l.take k, (List.take_append_drop k l).symm⟩ h
theorem charP_le (l : List UInt8) : charP l ≤ l.length := by
  unfold charP
  split
  · omega
  · split
    · omega
    · split
      · omega
      · omega
theorem wrong_ (s : ByteArray) (hs : s.size ≤ 1000000) (H : Hp) : CallO Try.prog 13 [pv (.string s)] H [] fun e _ G' => e = .ret (pv (.int .i64 (wrongI s))) ∧ G' = [] := by
  have hsz := size_eq s
  refine CallO.of_body tab Try.func13 rfl (nt := Try.f13.ntmps) rfl (by kernel_rfl) ?_
  (conv => whnf)
  refine WS.loop (fun k F H3 G => ∃ (m : Nat) (r : List UInt8), Sfx r (tL s) ∧ r.length < m ∧ wrongP m r = wrongP ((tL s).length + 1) (tL s) ∧ k = r.length ∧ F = [(0, pv (.string s)), (3, pv (.int .i64 ((pos s r : Nat) : Int)))] ∧ H.Le H3 ∧ G = []) ((tL s).length + 1) ?_ ?_
  · refine ⟨(tL s).length, by omega, _, _, [], ⟨(tL s).length + 1, tL s, .refl _, by omega, rfl, rfl, rfl, .refl _, rfl⟩, ?_⟩
    refine ⟨rfl, trivial, rfl, ?_, trivial⟩
    show pv _ = pv (.int .i64 ((pos s (tL s) : Nat) : Int))
    unfold pos
    rw [Nat.sub_self]; rfl
  rintro k F H3 G hle3 ⟨m, r, hr, hm, hw, rfl, rfl, hle4, rfl⟩
  refine codeL.go tab ?_
  (conv => whnf)
  have hpl := pos_le s r
  refine br.of (fun h2 => ?_) (fun h2 => ?_) <;> (conv => whnf)
  · have h2 := of_decide_eq_true h2
    cases m with
    | zero => omega
    | succ m =>
    cases r with
    | nil => rw [pos_nil] at h2; omega
    | cons c l =>
      refine ⟨⟨by omega, by omega⟩, ?_⟩
      (conv => whnf)
      have hE : (s.extract (((pos s (c :: l) : Nat) : Int)).toNat s.size) = strL (c :: l) := by
        have := cut_eq hr (⟨c :: l, by simp⟩ : Sfx [] (c :: l))
        rw [pos_nil, Int.toNat_natCast s.size] at this
        rw [this]; simp [strL]
      rw [hE]
      have hlen := hr.le
      refine ⟨⟨_, Try.func19, rfl, by kernel_rfl⟩, CallS.use (character_ c l (by omega) H3) [] rfl rfl trivial ?_⟩
      rintro e H4 G' hle5 ⟨rfl, rfl⟩
      have hcl := charP_le (c :: l)
      generalize hcp : charP (c :: l) = n at *
      (conv => whnf)
      refine br.of (fun h5 => ?_) (fun h5 => ?_) <;> (conv => whnf)
      · simp only [beq_iff_eq] at h5
        have hn0 : n = 0 := by omega
        refine ⟨?_, rfl⟩
        have : wrongP (m + 1) (c :: l) = some (c :: l) := by
          show (if charP (c :: l) = 0 then _ else _) = _
          rw [if_pos (by rw [hcp]; exact hn0)]
        unfold wrongI
        rw [← hw, this]; rfl
      · simp only [beq_eq_false_iff_ne, ne_eq] at h5
        have hn0 : n ≠ 0 := by omega
        have hst : wrongP (m + 1) (c :: l) = wrongP m ((c :: l).drop n) := by
          show (if charP (c :: l) = 0 then _ else _) = _
          rw [if_neg (by rw [hcp]; exact hn0), hcp]
        rw [hst] at hw
        have hdp := drop_pos hr hcl
        have hpl2 := pos_le s ((c :: l).drop n)
        rw [wrap64 (x := ((pos s (c :: l) : Nat) : Int) + (n : Int)) (by omega) (by omega), hdp]
        have hlt : ((c :: l).drop n).length < (c :: l).length := by rw [List.length_drop]; omega
        refine ⟨((c :: l).drop n).length, hlt, _, _, [], ⟨m, (c :: l).drop n, drop_sfx hr n, by omega, hw, rfl, rfl, hle4.trans hle5, rfl⟩, ?_⟩
        exact ⟨rfl, trivial, rfl, rfl, trivial⟩
  · have h2 := of_decide_eq_false h2
    have hr0 : r = [] := by
      cases r with
      | nil => rfl
      | cons c l => have := pos_lt hr; omega
    subst hr0
    have : wrongP m [] = none := by cases m <;> rfl
    refine ⟨?_, rfl⟩
    unfold wrongI
    rw [← hw, this]; rfl
end Go.Kx.Js
