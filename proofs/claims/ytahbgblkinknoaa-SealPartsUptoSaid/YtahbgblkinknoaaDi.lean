import Derived.Test.YtahbgblkinknoaaDh
/- What the document's own answer reads: a packet. -/
set_option linter.unusedSimpArgs false
set_option linter.unusedVariables false
set_option maxRecDepth 100000
set_option maxHeartbeats 4000000
namespace Go.AM.Try
open Go.Proofs.Try
attribute [-simp] strA
attribute [simp] strA_addc strA_eql strA_neq
open Classical in
noncomputable def gGetHello : List AV → Option AV
  | [.str s] => if s.length ≤ 100000000 then some (.tup (if heOk s then [.sl true (intsC (heL s.tail)) s.tail.length, .int .i64 0] else [.sl true [] 0, .int .i64 900])) else none
  | _ => none
theorem tGetHello : ∀ args r, gGetHello args = some r → Told prog 24 args r := by
  intro args r h
  unfold gGetHello at h
  split at h <;> try (cases h; done)
  rename_i s
  split at h <;> try (cases h; done)
  rename_i hcond
  injection h with h; subst h
  have ht := t24 [.str s] _ (by simp only [g24]; rw [if_pos hcond])
  cases hok : heOk s
  · rw [hok] at ht
    exact ht.can (c := .tup [.sl true [] 0, .int .i64 900]) (by simp) (AVle.refl _) (fun q => by simp)
  · rw [hok] at ht
    exact ht.can (c := .tup [.sl true (intsC (heL s.tail)) s.tail.length, .int .i64 0]) (by simp) (AVle.refl _) (fun q => by simp)
open Classical in
noncomputable def gGetAck : List AV → Option AV
  | [.str s] => if s.length ≤ 100000000 then some (.tup (if akOk s then [.sl true (headC (akL s.tail (s.getD 0 0).toNat)) (s.getD 0 0).toNat, .int .i64 0] else [.sl true [] 0, .int .i64 1100])) else none
  | _ => none
theorem tGetAck : ∀ args r, gGetAck args = some r → Told prog 26 args r := by
  intro args r h
  unfold gGetAck at h
  split at h <;> try (cases h; done)
  rename_i s
  split at h <;> try (cases h; done)
  rename_i hcond
  injection h with h; subst h
  have ht := t26 [.str s] _ (by simp only [g26]; rw [if_pos hcond])
  cases hok : akOk s
  · rw [hok] at ht
    exact ht.can (c := .tup [.sl true [] 0, .int .i64 1100]) (by simp) (AVle.refl _) (fun q => by simp)
  · rw [hok] at ht
    exact ht.can (c := .tup [.sl true (headC (akL s.tail (s.getD 0 0).toNat)) (s.getD 0 0).toNat, .int .i64 0]) (by simp) (AVle.refl _) (fun q => by simp)
open Classical in
noncomputable def gGetUpdate : List AV → Option AV
  | [.str s] => if s.length ≤ 10000000 then some (.tup (if guOk s then [.sl false (lsaC (guV s)) (guV s).length, .int .i64 0] else [.sl false [] 0, .int .i64 1000])) else none
  | _ => none
theorem tGetUpdate : ∀ args r, gGetUpdate args = some r → Told prog 25 args r := by
  intro args r h
  unfold gGetUpdate at h
  split at h <;> try (cases h; done)
  rename_i s
  split at h <;> try (cases h; done)
  rename_i hcond
  injection h with h; subst h
  have ht := t25 [.str s] _ (by simp only [g25]; rw [if_pos hcond])
  have hf : AVle (.tup [.sl true [] 0, .int .i64 1000]) (.tup [.sl false [] 0, .int .i64 1000]) := AVle.tup (.cons (AVle.sl (.inl rfl) _ (AVles.refl _)) (AVles.refl _))
  cases hok : guOk s
  · rw [hok] at ht
    exact ht.can (c := .tup [.sl true [] 0, .int .i64 1000]) (by simp) hf (fun q => by simp)
  · rw [hok] at ht
    generalize guV s = l at *
    cases l with
    | nil =>
      have hf : AVle (.tup [.sl true [] 0, .int .i64 0]) (.tup [.sl false [] 0, .int .i64 0]) := AVle.tup (.cons (AVle.sl (.inl rfl) _ (AVles.refl _)) (AVles.refl _))
      exact ht.can (c := .tup [.sl true [] 0, .int .i64 0]) (by simp [kd1, lsaC]) hf (fun q => by simp)
    | cons a l => exact ht.can (c := .tup [.sl false (lsaC (a :: l)) (a :: l).length, .int .i64 0]) (by simp [kd1]) (AVle.refl _) (fun q => by simp)
noncomputable abbrev X24_70 := AM.ext LK1 24 gGetHello
theorem X24_70ok : CallOK prog X24_70 := LK1ok.ext fn24 (by kernel_rfl) tGetHello
noncomputable abbrev X26_71 := AM.ext X24_70 26 gGetAck
theorem X26_71ok : CallOK prog X26_71 := X24_70ok.ext fn26 (by kernel_rfl) tGetAck
noncomputable abbrev X25_72 := AM.ext X26_71 25 gGetUpdate
theorem X25_72ok : CallOK prog X25_72 := X26_71ok.ext fn25 (by kernel_rfl) tGetUpdate
open Classical in
noncomputable def g10 : List AV → Option AV
  | [.str s] => if s.length ≤ 10000000 then some (.tup (if gpOk s then [.agg [.int .i64 (ghK s), .int .i64 (ghR s), if ghK s = 1 then intsV (gpHe s) else .snil, if ghK s = 1 then .snil else if ghK s = 4 then lsaV (gpLs s) else .snil, if ghK s = 1 then .snil else if ghK s = 4 then .snil else headV (gpHs s)], .int .i64 0] else [.agg [.int .i64 0, .int .i64 0, .snil, .snil, .snil], .int .i64 1200])) else none
  | _ => none
theorem t10 : ∀ args r, g10 args = some r → Told prog 10 args r := by
  intro args r h
  unfold g10 at h
  split at h <;> try (cases h; done)
  rename_i s
  split at h <;> try (cases h; done)
  rename_i hcond
  injection h with h; subst h
  refine told_fn (i := info 10) (n := 5) TTok X25_72ok mix fn10 po10 ?_
  have hl9 : s.length ≤ 1000000000 := by omega
  have hl8 : s.length - 12 ≤ 100000000 := by omega
  have hl7 : s.length - 12 ≤ 10000000 := by omega
  unfold gpOk
  by_cases h1 : 12 ≤ s.length
  · have h1i : (12 : Int) ≤ (s.length : Int) := by omega
    have hdl : (List.drop 12 s).length = s.length - 12 := by simp
    have htk : List.take (s.length - 12) (List.drop 12 s) = List.drop 12 s := List.take_of_length_le (by simp)
    have hln : ((s.length : Int).toNat - 12) = s.length - 12 := by omega
    cases h2 : ghOk s
    · simp [f10, h1, h2, hl9, g23]
    by_cases h3 : ghN s = (s.length : Int)
    · by_cases k1 : ghK s = 1
      · cases h4 : heOk (s.drop 12)
        · simp [f10, h1, h1i, h2, h3, k1, h4, hl9, hl8, htk, hln, g23, gGetHello]
        · simp [f10, h1, h1i, h2, h3, k1, h4, hl9, hl8, htk, hln, g23, gGetHello, gpHe, intsV]
          simp [heL]
      · by_cases k4 : ghK s = 4
        · cases h4 : guOk (s.drop 12)
          · simp [f10, h1, h1i, h2, h3, k1, k4, h4, hl9, hl7, htk, hln, g23, gGetUpdate]
          · simp [f10, h1, h1i, h2, h3, k1, k4, h4, hl9, hl7, htk, hln, g23, gGetUpdate, gpLs, lsaV]
        · cases h4 : akOk (s.drop 12)
          · simp [f10, h1, h1i, h2, h3, k1, k4, h4, hl9, hl8, htk, hln, g23, gGetAck]
          · simp [f10, h1, h1i, h2, h3, k1, k4, h4, hl9, hl8, htk, hln, g23, gGetAck, gpHs, headV]
    · simp [f10, h1, h1i, h2, h3, hl9, g23]
  · simp [f10, h1, hl9, g23]
noncomputable abbrev L10 := AM.ext X25_72 10 g10
theorem L10ok : CallOK prog L10 := X25_72ok.ext fn10 (by kernel_rfl) t10
open Classical in
noncomputable def gGetPacket : List AV → Option AV
  | [.str s] => if s.length ≤ 10000000 then some (.tup (if gpOk s then [.agg [.int .i64 (ghK s), .int .i64 (ghR s), intsV (gpHe s), lsaV (gpLs s), headV (gpHs s)], .int .i64 0] else [.agg [.int .i64 0, .int .i64 0, intsV [], lsaV [], headV []], .int .i64 1200])) else none
  | _ => none
theorem pk_le (a b : AV) {v1 v2 v3 u1 u2 u3 : AV} (h1 : AVle v1 u1) (h2 : AVle v2 u2) (h3 : AVle v3 u3) (e : AV) : AVle (.tup [.agg [a, b, v1, v2, v3], e]) (.tup [.agg [a, b, u1, u2, u3], e]) :=
  AVle.tup (.cons (AVle.agg (.cons (AVle.refl _) (.cons (AVle.refl _) (.cons h1 (.cons h2 (.cons h3 .nil)))))) (AVles.refl _))
theorem exC_ints (m : List (Nat × Blk)) (n : Nat) (l : List Int) : exC m n (intsV l) = some (intsV l) := by cases n <;> rfl
theorem exC_lsas (m : List (Nat × Blk)) (n : Nat) (l : List Lsa) : exC m n (lsaV l) = some (lsaV l) := by cases n <;> rfl
theorem exC_heads (m : List (Nat × Blk)) (n : Nat) (l : List Hd) : exC m n (headV l) = some (headV l) := by cases n <;> rfl
theorem tGetPacket : ∀ args r, gGetPacket args = some r → Told prog 10 args r := by
  intro args r h
  unfold gGetPacket at h
  split at h <;> try (cases h; done)
  rename_i s
  split at h <;> try (cases h; done)
  rename_i hcond
  injection h with h; subst h
  have ht := t10 [.str s] _ (by simp only [g10]; rw [if_pos hcond])
  cases hok : gpOk s
  · rw [hok] at ht
    exact ht.can (c := .tup [.agg [.int .i64 0, .int .i64 0, .snil, .snil, .snil], .int .i64 1200]) (by simp) (pk_le _ _ (AVle.snil true) (AVle.snil false) (AVle.snil true) _) (fun q => by simp [intsV, lsaV, headV])
  · rw [hok] at ht
    by_cases k1 : ghK s = 1
    · simp only [k1, if_true] at ht
      have e2 : gpLs s = [] := by simp [gpLs, k1]
      have e3 : gpHs s = [] := by simp [gpHs, k1]
      rw [e2, e3, k1]
      exact ht.can (c := .tup [.agg [.int .i64 1, .int .i64 (ghR s), intsV (gpHe s), .snil, .snil], .int .i64 0]) (by simp [intsV]) (pk_le _ _ (AVle.refl _) (AVle.snil false) (AVle.snil true) _) (fun q => by simp [intsV, lsaV, headV])
    · have e1 : gpHe s = [] := by simp [gpHe, k1]
      by_cases k4 : ghK s = 4
      · have e3 : gpHs s = [] := by simp [gpHs, k4]
        simp only [k1, k4, if_true, if_false] at ht
        rw [e1, e3, k4]
        exact ht.can (c := .tup [.agg [.int .i64 4, .int .i64 (ghR s), .snil, lsaV (gpLs s), .snil], .int .i64 0]) (by simp [lsaV]) (pk_le _ _ (AVle.snil true) (AVle.refl _) (AVle.snil true) _) (fun q => by simp [intsV, lsaV, headV])
      · have e2 : gpLs s = [] := by simp [gpLs, k1, k4]
        simp only [k1, k4, if_false] at ht
        rw [e1, e2]
        exact ht.can (c := .tup [.agg [.int .i64 (ghK s), .int .i64 (ghR s), .snil, .snil, headV (gpHs s)], .int .i64 0]) (by simp [headV]) (pk_le _ _ (AVle.snil true) (AVle.snil false) (AVle.refl _) _) (fun q => by simp [intsV, lsaV, headV])
noncomputable abbrev X24_144 := AM.ext LK1 24 gGetHello
theorem X24_144ok : CallOK prog X24_144 := LK1ok.ext fn24 (by kernel_rfl) tGetHello
noncomputable abbrev X26_145 := AM.ext X24_144 26 gGetAck
theorem X26_145ok : CallOK prog X26_145 := X24_144ok.ext fn26 (by kernel_rfl) tGetAck
noncomputable abbrev X25_146 := AM.ext X26_145 25 gGetUpdate
theorem X25_146ok : CallOK prog X25_146 := X26_145ok.ext fn25 (by kernel_rfl) tGetUpdate
noncomputable abbrev X10_147 := AM.ext X25_146 10 gGetPacket
theorem X10_147ok : CallOK prog X10_147 := X25_146ok.ext fn10 (by kernel_rfl) tGetPacket
noncomputable abbrev LK2 : Know := X10_147
theorem LK2ok : CallOK prog LK2 := X10_147ok
end Go.AM.Try

