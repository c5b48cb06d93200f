/- FnWindows and FnTides: the plain mathematics. No condition. -/
import Derived.Test.YtidbnifdaamnlaaTideH
import Derived.Test.YtidbnifdaamnlaaTideE
import Derived.Test.YtidbnifdaamnlaaTideD
namespace Go.Proofs.Ytidbnifdaamnlaa
open Go.RowKit
/-! ### Windows -/
theorem runs_last {p : Int → Prop} {s : Int} {k : Nat} (h : p (s + (k : Int))) : ∃ A a, runs p s (k + 1) = A ++ [(a, s + (k : Int))] := by
  by_cases he : ∃ A a, runs p s k = A ++ [(a, s + (k : Int) - 1)]
  · obtain ⟨A, a, e⟩ := he
    exact ⟨A, a, runs_ext h e⟩
  · exact ⟨_, _, runs_new h (fun A a b e hb => he ⟨A, a, by rw [e, hb]⟩)⟩
theorem runs_apart (p : Int → Prop) (s : Int) : ∀ k : Nat, (runs p s k).Pairwise (fun x y => x.2 < y.1)
  | 0 => by simp [runs]
  | k + 1 => by
    have ih := runs_apart p s k
    have hin := runs_in p s k
    by_cases h : p (s + (k : Int))
    · by_cases he : ∃ A a, runs p s k = A ++ [(a, s + (k : Int) - 1)]
      · obtain ⟨A, a, e⟩ := he
        rw [runs_ext h e]
        rw [e] at ih
        rw [List.pairwise_append] at ih ⊢
        exact ⟨ih.1, List.pairwise_singleton _ _, fun x hx y hy => by
          rw [List.mem_singleton.1 hy]
          exact ih.2.2 x hx (a, s + (k : Int) - 1) (by simp)⟩
      · rw [runs_new h (fun A a b e hb => he ⟨A, a, by rw [e, hb]⟩), List.pairwise_append]
        refine ⟨ih, List.pairwise_singleton _ _, fun x hx y hy => ?_⟩
        rw [List.mem_singleton.1 hy]
        have := hin x hx
        dsimp only; omega
    · rw [runs_no h]; exact ih
theorem runs_edge (p : Int → Prop) (s : Int) : ∀ k : Nat, ∀ x ∈ runs p s k, p x.1 ∧ p x.2 ∧ (s ≤ x.1 - 1 → ¬ p (x.1 - 1)) ∧ (x.2 + 1 ≤ s + (k : Int) - 1 → ¬ p (x.2 + 1))
  | 0, x, hx => by simp [runs] at hx
  | k + 1, x, hx => by
    have ih := runs_edge p s k
    have hin := runs_in p s k
    have hap := runs_apart p s k
    by_cases h : p (s + (k : Int))
    · by_cases he : ∃ A a, runs p s k = A ++ [(a, s + (k : Int) - 1)]
      · obtain ⟨A, a, e⟩ := he
        rw [runs_ext h e] at hx
        rw [e] at ih hin hap
        have hl := hin (a, s + (k : Int) - 1) (by simp)
        have il := ih (a, s + (k : Int) - 1) (by simp)
        dsimp only at hl il
        rcases List.mem_append.1 hx with hx | hx
        · have h1 := ih x (List.mem_append_left _ hx)
          have h2 := (List.pairwise_append.1 hap).2.2 x hx (a, s + (k : Int) - 1) (by simp)
          dsimp only at h2
          exact ⟨h1.1, h1.2.1, h1.2.2.1, fun hh => h1.2.2.2 (by omega)⟩
        · rw [List.mem_singleton.1 hx]
          exact ⟨il.1, h, il.2.2.1, fun hh => by dsimp only at hh; omega⟩
      · rw [runs_new h (fun A a b e hb => he ⟨A, a, by rw [e, hb]⟩)] at hx
        rcases List.mem_append.1 hx with hx | hx
        · have h1 := ih x hx
          refine ⟨h1.1, h1.2.1, h1.2.2.1, fun hh => ?_⟩
          by_cases h3 : x.2 + 1 ≤ s + (k : Int) - 1
          · exact h1.2.2.2 h3
          · exfalso
            have h4 := hin x hx
            rcases eq_nil_or_snoc (runs p s k) with h0 | ⟨V, y, hV⟩
            · rw [h0] at hx; cases hx
            · rw [hV] at hx hap hin
              have h5 := hin y (by simp)
              rcases List.mem_append.1 hx with hx | hx
              · have h6 := (List.pairwise_append.1 hap).2.2 x hx y (by simp)
                omega
              · have h7 := List.mem_singleton.1 hx
                subst h7
                exact he ⟨V, x.1, by rw [hV, show x = (x.1, s + (k : Int) - 1) from Prod.ext rfl (by dsimp only; omega)]⟩
        · rw [List.mem_singleton.1 hx]
          refine ⟨h, h, fun h1 hp => ?_, fun h1 => by dsimp only at h1; omega⟩
          dsimp only at h1 hp
          cases k with
          | zero => simp at h1; omega
          | succ k =>
            have e1 : s + ((k + 1 : Nat) : Int) - 1 = s + (k : Int) := by omega
            rw [e1] at hp
            obtain ⟨A, a, e⟩ := runs_last hp
            exact he ⟨A, a, by rw [e, e1]⟩
    · rw [runs_no h] at hx
      have h1 := ih x hx
      refine ⟨h1.1, h1.2.1, h1.2.2.1, fun hh => ?_⟩
      by_cases h3 : x.2 + 1 ≤ s + (k : Int) - 1
      · exact h1.2.2.2 h3
      · rw [show x.2 + 1 = s + (k : Int) by have := hin x hx; omega]; exact h
structure WinLaw (l : List TidePoint) (n f t : Int) : Prop where
  bd : 0 ≤ f ∧ f ≤ t ∧ t ≤ 10000
  f1 : OnCurve l f
  t1 : OnCurve l t
  f2 : n ≤ heightAt l f
  t2 : n ≤ heightAt l t
  f3 : OnCurve l (f - 1) → heightAt l (f - 1) < n
  t3 : OnCurve l (t + 1) → heightAt l (t + 1) < n
theorem win_law {l : List TidePoint} {n : Int} (hok : CurveOk l) {W : List Win} (hW : W.map Win.pair = winsOf l n) : ∀ x ∈ W, WinLaw l n x.f x.t := fun x hx => by
  have h2 := hok.2
  have h0 : 0 < l.length := by omega
  have hm := minutes_eq hok h0
  have hmem : x.pair ∈ runs (OpenAt l n) l[0].time (minutes l) := by rw [← winsOf_eq n h0, ← hW]; exact List.mem_map.2 ⟨x, hx, rfl⟩
  have h3 := runs_in (OpenAt l n) l[0].time (minutes l) x.pair hmem
  have h4 := runs_edge (OpenAt l n) l[0].time (minutes l) x.pair hmem
  have h5 := win_bd hok hW x hx
  unfold Win.pair at h3 h4
  dsimp only at h3 h4
  refine ⟨h5, OnCurve.at_ hok h0 h3.1 (by omega), OnCurve.at_ hok h0 (by omega) (by omega), h4.1, h4.2.1, fun h => ?_, fun h => ?_⟩
  · obtain ⟨_, _, h6, h7⟩ := h
    have h8 := h4.2.2.1 (by omega)
    unfold OpenAt at h8; omega
  · obtain ⟨_, _, h6, h7⟩ := h
    have h8 := h4.2.2.2 (by omega)
    unfold OpenAt at h8; omega
/-! ### Heights -/
theorem hgt_le {a b : TidePoint} {t H : Int} (ha : a.height ≤ H) (hb : b.height ≤ H) (h1 : a.time ≤ t) (h2 : t ≤ b.time) (h3 : a.time < b.time) : hgt a b t ≤ H := by
  unfold hgt
  refine Int.ediv_le_of_le_mul (by omega) ?_
  have e1 := Int.mul_le_mul_of_nonneg_right ha (show 0 ≤ b.time - t by omega)
  have e2 := Int.mul_le_mul_of_nonneg_right hb (show 0 ≤ t - a.time by omega)
  have e3 : H * (b.time - a.time) = H * (b.time - t) + H * (t - a.time) := by rw [← Int.mul_add]; congr 1; omega
  omega
theorem le_hgt {a b : TidePoint} {t H : Int} (ha : H ≤ a.height) (hb : H ≤ b.height) (h1 : a.time ≤ t) (h2 : t ≤ b.time) (h3 : a.time < b.time) : H ≤ hgt a b t := by
  unfold hgt
  refine Int.le_ediv_of_mul_le (by omega) ?_
  have e1 := Int.mul_le_mul_of_nonneg_right ha (show 0 ≤ b.time - t by omega)
  have e2 := Int.mul_le_mul_of_nonneg_right hb (show 0 ≤ t - a.time by omega)
  have e3 : H * (b.time - a.time) = H * (b.time - t) + H * (t - a.time) := by rw [← Int.mul_add]; congr 1; omega
  omega
theorem OnCurve.seg2 {l : List TidePoint} {t : Int} (h : OnCurve l t) : ∃ i, ∃ _ : i + 1 < l.length, l[i].time ≤ t ∧ t ≤ l[i + 1].time ∧ heightAt l t = hgt l[i] l[i + 1] t := by
  obtain ⟨i, hi, h1, h2⟩ := h.seg
  refine ⟨i, hi, ?_, h1, IsHgt.eq ⟨i, hi, ⟨h1, h2⟩, rfl⟩⟩
  by_cases e : i = 0
  · subst e
    obtain ⟨_, _, h3, _⟩ := h
    exact h3
  · exact Int.le_of_lt (h2 i (by omega) (by omega))
theorem height_le {l : List TidePoint} {t H : Int} (h : OnCurve l t) (hH : ∀ i (hi : i < l.length), l[i].height ≤ H) : heightAt l t ≤ H := by
  obtain ⟨i, hi, h1, h2, e⟩ := h.seg2
  rw [e]
  exact hgt_le (hH _ _) (hH _ _) h1 h2 (h.1.lt hi (by omega))
theorem le_height {l : List TidePoint} {t H : Int} (h : OnCurve l t) (hH : ∀ i (hi : i < l.length), H ≤ l[i].height) : H ≤ heightAt l t := by
  obtain ⟨i, hi, h1, h2, e⟩ := h.seg2
  rw [e]
  exact le_hgt (hH _ _) (hH _ _) h1 h2 (h.1.lt hi (by omega))
theorem height_ok {l : List TidePoint} {t : Int} (h : OnCurve l t) : (0 ≤ t ∧ t ≤ 10000) ∧ (-500 ≤ heightAt l t ∧ heightAt l t ≤ 2000) := by
  refine ⟨?_, le_height h (fun i hi => (h.1.pt hi).2.1), height_le h (fun i hi => (h.1.pt hi).2.2)⟩
  obtain ⟨hok, h0, h1, h2⟩ := h
  have p0 := hok.pt (i := 0) h0
  have p1 := hok.pt (i := l.length - 1) (by omega)
  omega
theorem sumTo_le {l : List TidePoint} {s H : Int} (hH : ∀ i (hi : i < l.length), l[i].height ≤ H) : ∀ k : Nat, (∀ j : Nat, j < k → OnCurve l (s + (j : Int))) → sumTo l s k ≤ H * (k : Int)
  | 0, _ => by simp [sumTo]
  | k + 1, h => by
    have h1 := sumTo_le hH k (fun j hj => h j (by omega))
    have h2 := height_le (h k (by omega)) hH
    have e : H * ((k + 1 : Nat) : Int) = H * (k : Int) + H := by rw [Int.natCast_succ, Int.mul_add, Int.mul_one]
    simp only [sumTo]
    omega
/-! ### The highest -/
theorem topAt_spec {l : List TidePoint} (hok : CurveOk l) : ∀ k : Nat, k < l.length → (∃ j, ∃ h : j < l.length, j ≤ k ∧ topAt l k = l[j]) ∧ ∀ i (h : i < l.length), i ≤ k → l[i].height ≤ (topAt l k).height ∧ (l[i].height = (topAt l k).height → (topAt l k).time ≤ l[i].time)
  | 0, hk => by
    rw [topAt_zero hk]
    refine ⟨⟨0, hk, Nat.le_refl _, rfl⟩, fun i h hi => ?_⟩
    obtain rfl : i = 0 := by omega
    exact ⟨Int.le_refl _, fun _ => Int.le_refl _⟩
  | k + 1, hk => by
    obtain ⟨⟨j, hj, hjk, e⟩, h⟩ := topAt_spec hok k (by omega)
    by_cases hlt : (topAt l k).height < l[k + 1].height
    · rw [topAt_lt hk hlt]
      refine ⟨⟨k + 1, hk, Nat.le_refl _, rfl⟩, fun i hi hik => ?_⟩
      by_cases ei : i = k + 1
      · subst ei; exact ⟨Int.le_refl _, fun _ => Int.le_refl _⟩
      · have := h i hi (by omega)
        exact ⟨by omega, fun e2 => by omega⟩
    · rw [topAt_ge hk hlt]
      refine ⟨⟨j, hj, by omega, e⟩, fun i hi hik => ?_⟩
      by_cases ei : i = k + 1
      · subst ei
        refine ⟨by omega, fun _ => ?_⟩
        rw [e]
        exact Int.le_of_lt (hok.lt hk (by omega))
      · exact h i hi (by omega)
theorem top_law {l : List TidePoint} (hok : CurveOk l) : (-500 ≤ (topAt l (l.length - 1)).height ∧ (topAt l (l.length - 1)).height ≤ 2000) ∧ ∀ i (h : i < l.length), l[i].height ≤ (topAt l (l.length - 1)).height ∧ ¬ (l[i].height = (topAt l (l.length - 1)).height ∧ l[i].time < (topAt l (l.length - 1)).time) := by
  have h2 := hok.2
  obtain ⟨⟨j, hj, _, e⟩, h⟩ := topAt_spec hok (l.length - 1) (by omega)
  refine ⟨by rw [e]; exact (hok.pt hj).2, fun i hi => ?_⟩
  have := h i hi (by omega)
  exact ⟨this.1, fun ⟨h3, h4⟩ => by have := this.2 h3; omega⟩
theorem mean_law {l : List TidePoint} (hok : CurveOk l) : ∃ num den : Int, meanRes l = .tuple #[.int .i64 num, .int .i64 den, .bool true] ∧ num ≤ (topAt l (l.length - 1)).height * den ∧ (1 ≤ den ∧ den ≤ 10001) := by
  have h2 := hok.2
  have h0 : 0 < l.length := by omega
  have hm := minutes_eq hok h0
  have hl := hok.lt (i := 0) (j := l.length - 1) (by omega) (by omega)
  have p0 := hok.pt (i := 0) h0
  have p1 := hok.pt (i := l.length - 1) (by omega)
  have hs := sumTo_le (l := l) (s := l[0].time) (fun i hi => ((top_law hok).2 i hi).1) (minutes l) (fun j hj => OnCurve.at_ hok h0 (by omega) (by omega))
  refine ⟨_, _, meanRes_yes hok h0 hm, ?_, ?_⟩
  · generalize hS : sumTo l l[0].time (minutes l) = Sm at hs ⊢
    generalize hH : (topAt l (l.length - 1)).height = Ht at hs ⊢
    have hg := gcd_pos (a := Sm) (b := (minutes l : Int)) (by omega)
    have d1 : ((Int.gcd Sm (minutes l) : Nat) : Int) ∣ Sm := Int.gcd_dvd_left ..
    have d2 : ((Int.gcd Sm (minutes l) : Nat) : Int) ∣ (minutes l : Int) := Int.gcd_dvd_right ..
    generalize ((Int.gcd Sm (minutes l) : Nat) : Int) = g at hg d1 d2 ⊢
    have e1 := Int.tdiv_mul_cancel d1
    have e2 := Int.tdiv_mul_cancel d2
    generalize Sm.tdiv g = a at e1 ⊢
    generalize (minutes l : Int).tdiv g = b at e2 ⊢
    rw [← e1, ← e2, ← Int.mul_assoc] at hs
    exact Int.le_of_mul_le_mul_right hs (by omega)
  · have hg := gcd_pos (a := sumTo l l[0].time (minutes l)) (b := (minutes l : Int)) (by omega)
    have d2 : ((Int.gcd (sumTo l l[0].time (minutes l)) (minutes l) : Nat) : Int) ∣ (minutes l : Int) := Int.gcd_dvd_right ..
    generalize ((Int.gcd (sumTo l l[0].time (minutes l)) (minutes l) : Nat) : Int) = g at hg d2 ⊢
    have e2 := Int.tdiv_mul_cancel d2
    generalize (minutes l : Int).tdiv g = b at e2 ⊢
    have hb : 1 ≤ b := by
      by_cases hb : 1 ≤ b
      · exact hb
      · have := Int.mul_le_mul_of_nonneg_right (show b ≤ 0 by omega) (show 0 ≤ g by omega)
        omega
    have := Int.mul_le_mul_of_nonneg_left (show 1 ≤ g by omega) (show 0 ≤ b by omega)
    omega
/-! ### A curve that is cut -/
theorem curve_of {L : List TidePoint} (h1 : ∀ p ∈ L, p.ok) (h2 : L.Pairwise (fun p q => p.time < q.time)) (h3 : 2 ≤ L.length ∧ L.length ≤ 15) : CurveOk L :=
  ⟨fun i _ h => ⟨h1 _ (List.getElem_mem h), fun hi => List.pairwise_iff_getElem.1 h2 (i - 1) i (by omega) h (by omega)⟩, h3⟩
theorem CurveOk.pw {l : List TidePoint} (h : CurveOk l) : l.Pairwise (fun p q => p.time < q.time) := List.pairwise_iff_getElem.2 fun _ _ _ hj hij => h.lt hj hij
theorem CurveOk.oks {l : List TidePoint} (h : CurveOk l) : ∀ p ∈ l, p.ok := fun p hp => by
  obtain ⟨i, hi, rfl⟩ := List.getElem_of_mem hp
  exact h.pt hi
theorem mid_len {l : List TidePoint} {f t : Int} (h0 : 0 < l.length) (h1 : l[0].time ≤ f) (h2 : t ≤ l[l.length - 1].time) (h3 : 2 ≤ l.length) : (l.filter fun p => decide (f < p.time ∧ p.time < t)).length ≤ l.length - 2 := by
  cases l with
  | nil => cases h0
  | cons a l =>
    rcases eq_nil_or_snoc l with rfl | ⟨V, b, rfl⟩
    · simp at h3
    · have ha : ¬ (decide (f < a.time ∧ a.time < t) = true) := by
        have h1' : a.time ≤ f := h1
        simp; omega
      have hb : ¬ (decide (f < b.time ∧ b.time < t) = true) := by
        have e : (a :: (V ++ [b]))[(a :: (V ++ [b])).length - 1]'(by simp) = b := by simp
        rw [e] at h2
        simp; omega
      rw [List.filter_cons_of_neg (p := fun p : TidePoint => decide (f < p.time ∧ p.time < t)) ha, List.filter_append, List.filter_cons_of_neg (p := fun p : TidePoint => decide (f < p.time ∧ p.time < t)) hb]
      have := List.length_filter_le (fun p : TidePoint => decide (f < p.time ∧ p.time < t)) V
      rw [List.filter_nil, List.append_nil, List.length_cons, List.length_append, List.length_singleton]; omega
theorem cut_curve {l : List TidePoint} {f t : Int} (h : CutOk l f t) : CurveOk (cutL l f t) ∧ OnCurve (cutL l f t) f ∧ OnCurve (cutL l f t) t ∧ heightAt (cutL l f t) f = heightAt l f ∧ heightAt (cutL l f t) t = heightAt l t ∧ (cutL l f t).length ≤ 15 := by
  obtain ⟨hf, ht, hft⟩ := h
  have of_ := height_ok hf
  have ot := height_ok ht
  have h2 := hf.1.2
  obtain ⟨_, h0, hf1, hf2⟩ := hf
  obtain ⟨hok, _, ht1, ht2⟩ := ht
  have hml := mid_len (f := f) (t := t) h0 hf1 ht2 h2.1
  have hmm : ∀ p ∈ (l.filter fun p => decide (f < p.time ∧ p.time < t)), p.ok ∧ f < p.time ∧ p.time < t := fun p hp => by
    have := List.mem_filter.1 hp
    exact ⟨hok.oks p this.1, by simpa using this.2⟩
  have hmp := hok.pw.filter (fun p : TidePoint => decide (f < p.time ∧ p.time < t))
  have eL : cutL l f t = ⟨f, heightAt l f⟩ :: ((l.filter fun p => decide (f < p.time ∧ p.time < t)) ++ [⟨t, heightAt l t⟩]) := by unfold cutL cutTo; rw [List.take_length]; rfl
  generalize (l.filter fun p => decide (f < p.time ∧ p.time < t)) = M at hml hmm hmp eL
  generalize cutL l f t = L at eL
  generalize heightAt l f = hF at of_ eL ⊢
  generalize heightAt l t = hT at ot eL ⊢
  have hlen : L.length = M.length + 2 := by rw [eL]; simp
  have hpw : L.Pairwise (fun p q => p.time < q.time) := by
    rw [eL, List.pairwise_cons, List.pairwise_append]
    refine ⟨fun q hq => ?_, hmp, List.pairwise_singleton _ _, fun p hp q hq => ?_⟩
    · rcases List.mem_append.1 hq with hq | hq
      · exact (hmm q hq).2.1
      · rw [List.mem_singleton.1 hq]; exact hft
    · rw [List.mem_singleton.1 hq]; exact (hmm p hp).2.2
  have hc : CurveOk L := curve_of (fun p hp => by
    rw [eL] at hp
    rcases List.mem_cons.1 hp with rfl | hp
    · exact of_
    · rcases List.mem_append.1 hp with hp | hp
      · exact (hmm p hp).1
      · rw [List.mem_singleton.1 hp]; exact ot) hpw (by omega)
  have e0 : L[0]'(by omega) = ⟨f, hF⟩ := by simp [eL]
  have e1 : L[L.length - 1]'(by omega) = ⟨t, hT⟩ := by simp [eL]
  refine ⟨hc, OnCurve.at_ hc (by omega) (by rw [e0]; exact Int.le_refl _) (by rw [e1]; dsimp only; omega), OnCurve.at_ hc (by omega) (by rw [e0]; dsimp only; omega) (by rw [e1]; exact Int.le_refl _), ?_, ?_, by omega⟩
  · have hlt : (L[0]'(by omega)).time < (L[0 + 1]'(by omega)).time := hc.lt (i := 0) (j := 1) (by omega) (by omega)
    refine IsHgt.eq ⟨0, by omega, ⟨?_, fun j hj hj1 => by omega⟩, ?_⟩
    · rw [e0] at hlt; exact Int.le_of_lt hlt
    · unfold hgt
      rw [e0] at hlt ⊢
      dsimp only at hlt ⊢
      rw [Int.sub_self, Int.mul_zero, Int.add_zero, Int.mul_ediv_cancel _ (by omega)]
  · have hlt := hc.lt (i := L.length - 2) (j := L.length - 1) (by omega) (by omega)
    have e3 : L[L.length - 2 + 1]'(by omega) = ⟨t, hT⟩ := by rw [← e1]; congr 1; omega
    refine IsHgt.eq ⟨L.length - 2, by omega, ⟨?_, fun j hj hj1 => ?_⟩, ?_⟩
    · rw [e3]; exact Int.le_refl _
    · have := hc.lt (i := j) (j := L.length - 1) (by omega) (by omega)
      rw [e1] at this; exact this
    · unfold hgt
      rw [e3]
      rw [e1] at hlt
      dsimp only at hlt ⊢
      rw [Int.sub_self, Int.mul_zero, Int.zero_add, Int.mul_ediv_cancel _ (by omega)]
/-! ### The first passage -/
theorem pass_law (l : List TidePoint) (ds : List Int) (m n : Int) : (∃ N : Int, passRes l ds m n = .tuple #[.int .i64 N, .bool true] ∧ PassOk l ds m n ∧ PassAt l ds m n N ∧ (0 ≤ N ∧ N ≤ 10000)) ∨ passRes l ds m n = .tuple #[.int .i64 0, .bool false] := by
  by_cases h : PassOk l ds m n ∧ ∃ k, PassFirst l ds m n k
  · obtain ⟨hok, k, h1, h2⟩ := h
    have h0 : 0 < l.length := by have := hok.1.2; omega
    rw [getD0 h0] at h1 h2
    refine .inl ⟨_, passRes_yes h0 hok h1 h2, hok, h1, ?_⟩
    have hl := hok.2.1
    have h3 := (h1 0 (by omega) (by omega)).1
    have h4 := height_ok h3
    simpa using h4.1
  · exact .inr (optI_no h)
/-! ### The deepest draught -/
theorem draught_law {l : List TidePoint} {d u t : Int} (h : DraughtOk l d u t) : (10 ≤ min 2000 (d + heightAt l t - u) ∧ min 2000 (d + heightAt l t - u) ≤ 2000) ∧ min 2000 (d + heightAt l t - u) + u - d ≤ heightAt l t ∧ ¬ (min 2000 (d + heightAt l t - u) < 2000 ∧ min 2000 (d + heightAt l t - u) + u - d + 1 ≤ heightAt l t) := by
  have h1 := h.2.2.2
  refine ⟨by omega, by omega, by omega⟩
end Go.Proofs.Ytidbnifdaamnlaa
