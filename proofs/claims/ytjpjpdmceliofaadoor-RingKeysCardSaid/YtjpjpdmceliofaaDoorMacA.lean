/- Sums of parts, codes. No condition of its own. -/
import Derived.Test.YtjpjpdmceliofaaDoorShaF
namespace Go.Kx.Sha
open Go.Proofs Go.Kx
set_option maxRecDepth 20000

theorem BytesAt.of_frozen {H : Hp} {x : Value} {n : Nat} {bs : List UInt8} (hn : n = bs.length) (h : Frozen H x n (bCells bs)) : ∃ A cap, x = .slice A n cap ∧ BytesAt H A n bs := by
  rcases h with ⟨rfl, h1, h2⟩ | ⟨g, o, cap, rfl, _, h2⟩
  · subst h1
    have : bs = [] := List.eq_nil_of_length_eq_zero hn.symm
    exact ⟨none, 0, rfl, hn, fun _ => this, fun a e => (nomatch e)⟩
  · exact ⟨_, cap, rfl, hn, fun e => (nomatch e), fun a e => by injection e with e; subst e; exact h2⟩
theorem BytesAt.lit {H : Hp} {a : Addr} {bs : List UInt8} {n : Nat} (hn : n = bs.length) (h : RdN H (some a) 0 (bCells bs)) : BytesAt H (some a) n bs :=
  ⟨hn, fun e => (nomatch e), fun b e => by injection e with e; subst e; exact h⟩
/-- What is told are these bytes. -/
def RetB (bs : List UInt8) (e : SE) (H' : Hp) : Prop := ∃ A n cap, e = .ret (pv (.slice A n cap)) ∧ BytesAt H' A n bs
theorem CallO.bytes {P : Program} {f : FuncId} {svs : List SV} {H : Hp} {t : TypeId} {n : Nat} {bs : List UInt8} (hn : n = bs.length) (h : CallO P f svs H [] fun e _ G' => e = .ret (.si (.ce (.self 0))) ∧ G' = [.row t 1 n (bCells bs)]) :
    CallO P f svs H [] fun e H' G' => RetB bs e H' ∧ G' = [] := by
  refine CallO.sub (CallO.frz (K := fun e H' G' => (∃ A n cap, e = .ret (pv (.slice A n cap)) ∧ BytesAt H' A n bs) ∧ G' = [.dead]) h ?_) ?_
  · rintro e H' G' hle ⟨rfl, rfl⟩
    refine ⟨0, t, 1, n, bCells bs, rfl, fun h0 => ?_, fun x H2 hle2 hfr => ?_⟩
    · have : bs = [] := List.eq_nil_of_length_eq_zero (by omega)
      rw [this]; rfl
    · obtain ⟨A, cap, rfl, hb⟩ := BytesAt.of_frozen hn hfr
      exact ⟨⟨A, n, cap, rfl, hb⟩, rfl⟩
  · rintro e H' G' hle ⟨⟨A, n, cap, rfl, hb⟩, rfl⟩
    exact ⟨_, [], [], rfl, trivial, rfl, ⟨A, n, cap, rfl, hb⟩, rfl⟩
/-- Parts that are read for good. -/
def PartAt (H : Hp) (v : Value) (p : List UInt8) : Prop := ∃ A n cap, v = .slice A n cap ∧ BytesAt H A n p
theorem PartAt.mono {H H' : Hp} (h : H.Le H') {v : Value} {p : List UInt8} (hp : PartAt H v p) : PartAt H' v p := let ⟨A, n, cap, e, hb⟩ := hp; ⟨A, n, cap, e, hb.mono h⟩
def PartsAt (H : Hp) (A : Option Addr) (n : Nat) (ps : List (List UInt8)) : Prop := ∃ vs : List Value, n = vs.length ∧ RdN H A 0 vs ∧ All2 (PartAt H) vs ps
theorem PartsAt.mono {H H' : Hp} (h : H.Le H') {A : Option Addr} {n : Nat} {ps : List (List UInt8)} (hp : PartsAt H A n ps) : PartsAt H' A n ps :=
  let ⟨vs, h1, h2, h3⟩ := hp; ⟨vs, h1, h2.mono h, h3.mono fun _ _ => PartAt.mono h⟩
theorem PartsAt.length {H : Hp} {A : Option Addr} {n : Nat} {ps : List (List UInt8)} (hp : PartsAt H A n ps) : n = ps.length := by
  obtain ⟨vs, h1, _, h3⟩ := hp; rw [h1, h3.length]
theorem PartsAt.addr {H : Hp} {A : Option Addr} {n : Nat} {ps : List (List UInt8)} (hp : PartsAt H A n ps) : ∃ b o, A = some ⟨b, o, none⟩ := by
  obtain ⟨vs, _, ⟨b, o, h1, _⟩, _⟩ := hp; exact ⟨b, o, h1⟩
theorem PartsAt.get {H : Hp} {A : Option Addr} {n : Nat} {ps : List (List UInt8)} (hp : PartsAt H A n ps) {i : Nat} {p : List UInt8} (hi : ps[i]? = some p) {off : Nat} (ho : off = i) : ∃ B m cap, RdC H A off (.slice B m cap) ∧ BytesAt H B m p := by
  obtain ⟨vs, _, ⟨b, o, h1, h2⟩, h3⟩ := hp
  obtain ⟨v, hv, B, m, cap, rfl, hb⟩ := h3.get' hi
  refine ⟨B, m, cap, ⟨b, o, h1, ?_⟩, hb⟩
  subst ho
  exact h2 _ _ hv
/-- What the first i parts come to. -/
def upto (ps : List (List UInt8)) (i : Nat) : List UInt8 := (ps.take i).flatten
theorem upto_succ {ps : List (List UInt8)} {i : Nat} {p : List UInt8} (h : ps[i]? = some p) : upto ps (i + 1) = upto ps i ++ p := by
  obtain ⟨hi, rfl⟩ := List.getElem?_eq_some_iff.1 h
  unfold upto
  rw [List.take_succ_eq_append_getElem hi, List.flatten_append]; simp
theorem upto_le (ps : List (List UInt8)) (i : Nat) : (upto ps i).length ≤ ps.flatten.length := by
  have : ps.flatten = upto ps i ++ (ps.drop i).flatten := by unfold upto; rw [← List.flatten_append, List.take_append_drop]
  rw [this, List.length_append]; omega
theorem upto_all {ps : List (List UInt8)} {i : Nat} (h : ps.length ≤ i) : upto ps i = ps.flatten := by unfold upto; rw [List.take_of_length_le h]
theorem sumAll0 (ps : List (List UInt8)) (A : Option Addr) (n cap : Nat) (H : Hp) (hp : PartsAt H A n ps) (hl : ps.flatten.length ≤ 1000000000) (hn : n ≤ 1000000) :
    CallO Tryd.prog 89 [pv (.slice A n cap)] H [] fun e _ G' => e = .ret (.si (.ce (.self 0))) ∧ G' = [.row 5 1 32 (bCells (sha ps.flatten))] := by
  refine CallO.sub (K0 := fun e _ G' => e = .ret (.si (.ce (.self 2))) ∧ G' = [hBox 1 ps.flatten, hRow ps.flatten, .row 5 1 32 (bCells (sha ps.flatten))]) ?_ ?_
  · refine CallO.of_body tab Tryd.func89 rfl (nt := Tryd.f89.ntmps) rfl (by kernel_rfl) ?_
    conv => whnf
    refine ⟨⟨_, Tryd.func86, rfl, by kernel_rfl⟩, CallS.use (new_ H) [] rfl rfl trivial ?_⟩
    rintro e H' G' hle ⟨rfl, rfl, rfl⟩
    conv => whnf
    have hpl := hp.length
    refine WS.loop (fun k F H2 G => ∃ i : Nat, i ≤ n ∧ k = n - i ∧ F = [(3, .si (.ce (.ptr 0 0))), (7, pv (.slice A n cap)), (8, pv (.int .i64 n)), (9, pv (.int .i64 i))] ∧ H'.Le H2 ∧ G = [hBox 1 (upto ps i), hRow (upto ps i)]) (n + 1) ?_ ?_
    · refine ⟨n, by omega, _, _, [0, 1], ⟨0, by omega, rfl, rfl, .refl _, rfl⟩, ?_⟩
      exact ⟨rfl, ⟨rfl, rfl, trivial⟩, rfl, rfl, rfl, rfl, trivial⟩
    rintro k F H2 G hle2 ⟨i, hi, rfl, rfl, hle3, rfl⟩
    refine codeL.go tab ?_
    conv => whnf
    refine br.of (fun h1 => ?_) (fun h1 => ?_) <;> conv => whnf
    · simp only [decide_eq_true_eq] at h1
      have hx : ps[i]? = some ps[i] := List.getElem?_eq_getElem (by omega)
      obtain ⟨B, m, c, hrd, hb⟩ := (hp.mono hle3).get hx rfl
      have hu := upto_succ hx
      have hul := upto_le ps (i + 1)
      rw [hu, List.length_append] at hul
      refine ⟨⟨by omega, h1⟩, hp.addr, ?_⟩
      conv => whnf
      refine ⟨.slice B m c, by simpa using hrd, ?_⟩
      conv => whnf
      refine ⟨⟨_, Tryd.func87, rfl, by kernel_rfl⟩, CallS.use (write (upto ps i) ps[i] B m c H2 hb (by rw [hb.1]; exact Nat.le_trans hul hl)) [0, 1] rfl rfl ⟨rfl, rfl, trivial⟩ ?_⟩
      rintro e H3 G' hle4 ⟨rfl, rfl, rfl⟩
      conv => whnf
      rw [wrap64 (x := (i : Int) + 1) (by omega) (by omega)]
      refine ⟨n - (i + 1), by omega, _, _, [0, 2], ⟨i + 1, by omega, rfl, rfl, hle3, rfl⟩, ?_⟩
      refine ⟨rfl, ⟨?_, ?_, trivial⟩, rfl, rfl, rfl, rfl, trivial⟩
      · rw [hu]; rfl
      · rw [hu]; rfl
    · simp only [decide_eq_false_iff_not] at h1
      rw [upto_all (ps := ps) (i := i) (by omega)]
      refine ⟨⟨_, Tryd.func90, rfl, by kernel_rfl⟩, CallS.use (sum ps.flatten H2 hl) [0, 1] rfl rfl ⟨rfl, rfl, trivial⟩ ?_⟩
      rintro e H3 G' hle4 ⟨rfl, rfl⟩
      conv => whnf
      exact ⟨rfl, rfl⟩
  · rintro e H' G' hle ⟨rfl, rfl⟩
    exact ⟨.si (.ce (.self 0)), [.row 5 1 32 (bCells (sha ps.flatten))], [2], rfl, ⟨rfl, trivial⟩, rfl, rfl, rfl⟩
theorem sumAll (ps : List (List UInt8)) (A : Option Addr) (n cap : Nat) (H : Hp) (hp : PartsAt H A n ps) (hl : ps.flatten.length ≤ 1000000000) (hn : n ≤ 1000000) :
    CallO Tryd.prog 89 [pv (.slice A n cap)] H [] fun e H' G' => RetB (sha ps.flatten) e H' ∧ G' = [] := CallO.bytes rfl (sumAll0 ps A n cap H hp hl hn)
end Go.Kx.Sha
