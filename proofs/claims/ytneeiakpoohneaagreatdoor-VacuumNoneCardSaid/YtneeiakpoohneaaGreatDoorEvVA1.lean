/- What the functions come to, piece by piece (by a program). -/
import Derived.Test.YtneeiakpoohneaaGreatDoorEvVA0
set_option linter.all false
set_option linter.unusedVariables false
set_option maxRecDepth 100000
namespace Go.Ev.V
noncomputable section
/- 200 -/
def J200_0 (call : Call) (fu : Nat) (s : St) (t9 : AV) : Out :=
    .ret t9 s

def J200_1 (call : Call) (fu : Nat) (s : St) (t9 t10 t3 : AV) : Out :=
    notK t3 fun v0 =>
    condK v0 (sliceSlK 1 (some t10) none none t9 fun v1 =>
    outK (call 277 [v1] s) fun v2 s3 =>
    J200_0 call fu s3 t9)
    (J200_0 call fu s t9)

def J200_3 (call : Call) (fu : Nat) (ih2 : St → AV → AV → AV → AV → AV → AV → Out) (s : St) (t19 t1 t9 t10 t3 t18 : AV) : Out :=
    binK .add t19 (.int .i64 (.ofNat 1)) fun v4 =>
    ih2 s v4 t1 t9 t10 t3 t18

def J200_4 (call : Call) (fu : Nat) (ih2 : St → AV → AV → AV → AV → AV → AV → Out) (s : St) (t19 t1 t9 t10 t3 t18 : AV) : Out :=
    binK .mul (.int .i64 (.ofNat 8)) t19 fun v5 =>
    binK .shr t1 v5 fun v6 =>
    convK .u8 v6 fun v7 =>
    fillK (.bytes 1 0) [(0, 1, v7)] fun v8 => newK s (.row 5 v8) fun i9 s10 =>
    appK 5 1 s10 t9 (.slice i9 0 1 1 1 false) fun v11 s12 =>
    J200_3 call fu ih2 s12 t19 t1 v11 t10 t3 t18

def L200_2b (call : Call) (fu : Nat) (ih2 : St → AV → AV → AV → AV → AV → AV → Out) (s : St) (t19 t1 t9 t10 t3 t18 : AV) : Out :=
    binK .lss t19 t18 fun v13 =>
    condK v13 (J200_4 call fu ih2 s t19 t1 t9 t10 t3 t18)
    (J200_1 call fu s t9 t10 t3)

def L200_2 (call : Call) (fu : Nat) (n : Nat) : St → AV → AV → AV → AV → AV → AV → Out :=
  Nat.rec (motive := fun _ => St → AV → AV → AV → AV → AV → AV → Out) (fun _ _ _ _ _ _ _ => .err) (fun _ ih => L200_2b call fu ih) n

def F200 (call : Call) (fu : Nat) (args : List AV) (s : St) : Out := match args with
  | [t0, t1, t2, t3] =>
    outK (call 185 [t0] s) fun v14 s15 =>
    lenSlK v14 fun v16 =>
    minK t2 (.int .i64 (.ofNat 8)) fun v17 =>
    maxK v17 (.int .i64 (.ofNat 0)) fun v18 =>
    L200_2 call fu fu s15 (.int .i64 (.ofNat 0)) t1 v14 (goInt v16) t3 v18
  | _ => .err

abbrev orc200c (call : Call) (fu : Nat) (st : List IH) (id i : Nat) (s : St) (v : List AV) : Out := ch (Nat.beq id 5 && Nat.beq i 0) (J200_4 call fu (fun s x0 x1 x2 x3 x4 x5 => nthI st 0 s [x0, x1, x2, x3, x4, x5]) s (nthL v 0) (nthL v 1) (nthL v 2) (nthL v 3) (nthL v 4) (nthL v 5)) (
    ch (Nat.beq id 7 && Nat.beq i 0) (J200_3 call fu (fun s x0 x1 x2 x3 x4 x5 => nthI st 0 s [x0, x1, x2, x3, x4, x5]) s (nthL v 0) (nthL v 1) (nthL v 2) (nthL v 3) (nthL v 4) (nthL v 5)) (
    ch (Nat.beq id 8 && Nat.beq i 0) (J200_1 call fu s (nthL v 0) (nthL v 1) (nthL v 2)) (
    ch (Nat.beq id 10 && Nat.beq i 0) (J200_0 call fu s (nthL v 0)) (
    .err))))
abbrev orc200b (call : Call) (fu : Nat) (st : List IH) (id : Nat) (ih : IH) (s : St) (v : List AV) : Out := ch (Nat.beq id 4) (L200_2b call fu (fun s x0 x1 x2 x3 x4 x5 => ih s [x0, x1, x2, x3, x4, x5]) s (nthL v 0) (nthL v 1) (nthL v 2) (nthL v 3) (nthL v 4) (nthL v 5)) (
    .err)
abbrev orc200p (call : Call) (fu : Nat) (st : List IH) (id k : Nat) (s : St) (v : List AV) : Out := ch (Nat.beq id 4) (L200_2 call fu k s (nthL v 0) (nthL v 1) (nthL v 2) (nthL v 3) (nthL v 4) (nthL v 5)) (
    .err)
abbrev orc200m (call : Call) (fu : Nat) (id : Nat) (v : List AV) (s : St) : Out := .err
def lv200 (id i : Nat) : Option (List Tmp) := bif Nat.beq id 5 && Nat.beq i 0 then some [19, 1, 9, 10, 3, 18] else
    bif Nat.beq id 7 && Nat.beq i 0 then some [19, 1, 9, 10, 3, 18] else
    bif Nat.beq id 4 && Nat.beq i 0 then some [19, 1, 9, 10, 3, 18] else
    bif Nat.beq id 8 && Nat.beq i 0 then some [9, 10, 3] else
    bif Nat.beq id 10 && Nat.beq i 0 then some [9] else
    none
/- 203 -/
def J203_0 (call : Call) (fu : Nat) (s : St) (t2 t5 : AV) : Out :=
    loadK ⟨3, true⟩ s t5 fun v0 =>
    storeK ⟨3, true⟩ s t2 v0 fun s1 =>
    loadK ⟨3, true⟩ s1 t2 fun v2 =>
    .ret (.tup [v2, (.int .i64 (.ofNat 0))]) s1

def J203_1 (call : Call) (fu : Nat) (s : St) (t2 t5 t59 : AV) : Out :=
    condK t59 (fillK (.cells [(.bool false), (.int .i64 (.ofNat 0)), .nils]) [] fun v3 =>
    storeK ⟨3, true⟩ s t2 v3 fun s4 =>
    loadK ⟨3, true⟩ s4 t2 fun v5 =>
    .ret (.tup [v5, (.int .i64 (.ofNat 9))]) s4)
    (J203_0 call fu s t2 t5)

def J203_2 (call : Call) (fu : Nat) (s : St) (t2 t5 t51 t58 : AV) : Out :=
    pickK t51 (.bool true) t58 fun v6 =>
    J203_1 call fu s t2 t5 v6

def J203_3 (call : Call) (fu : Nat) (s : St) (t2 t5 t0 t7 t47 t49 : AV) : Out :=
    pickK t47 (.bool true) t49 fun v7 =>
    guardK false v7 (J203_2 call fu s t2 t5 v7 (.tup [])) <|
    s2apK 512 1 t7 fun v8 =>
    loadK ⟨512, true⟩ s v8 fun v9 =>
    s2apK 512 1 t0 fun v10 =>
    loadK ⟨512, true⟩ s v10 fun v11 =>
    eqAggK (.inl 512) true v9 v11 fun v12 =>
    J203_2 call fu s t2 t5 v7 v12

def J203_4 (call : Call) (fu : Nat) (s : St) (t2 t5 t0 t4 : AV) : Out :=
    loadK ⟨3, true⟩ s t5 fun v13 =>
    outK (call 199 [v13] s) fun v14 s15 =>
    outK (call 214 [t4] s15) fun v16 s17 =>
    binK .neq v16 (.int .i64 (.ofNat 0)) fun v18 =>
    guardK false v18 (J203_3 call fu s17 t2 t5 t0 v14 v18 (.tup [])) <|
    eqK .slice s17 false v14 .nils fun v19 =>
    J203_3 call fu s17 t2 t5 t0 v14 v18 v19

def J203_6 (call : Call) (fu : Nat) (ih5 : St → AV → AV → AV → AV → AV → Out) (s : St) (t6 t5 t4 t2 t0 : AV) : Out :=
    binK .sub t6 (.int .u64 (.ofNat 1)) fun v20 =>
    ih5 s v20 t5 t4 t2 t0

def J203_7 (call : Call) (fu : Nat) (ih5 : St → AV → AV → AV → AV → AV → Out) (s : St) (t6 t5 t4 t2 t0 : AV) : Out :=
    fieldK 2 t5 fun v21 =>
    loadK ⟨1, false⟩ s v21 fun v22 =>
    fieldK 0 t5 fun v23 =>
    loadK ⟨1, false⟩ s v23 fun v24 =>
    outK (call 279 [t4, v24] s) fun v25 s26 =>
    againK ⟨1, false⟩ s26 v21 v22 <|
    fillK (.cells [(.int .i64 (.ofNat 0)), (.int .i64 (.ofNat 0)), (.int .i64 (.ofNat 0)), .nils, (.int .i64 (.ofNat 0))]) [(0, 5, v25)] fun v27 => newK s26 (.row 211 v27) fun i28 s29 =>
    appK 211 5 s29 v22 (.slice i28 0 1 1 5 false) fun v30 s31 =>
    fieldK 2 t5 fun v32 =>
    storeK ⟨1, false⟩ s31 v32 v30 fun s33 =>
    J203_6 call fu ih5 s33 t6 t5 t4 t2 t0

def J203_8 (call : Call) (fu : Nat) (ih5 : St → AV → AV → AV → AV → AV → Out) (s : St) (t6 t5 t4 t2 t0 t26 t29 : AV) : Out :=
    pickK t26 t29 (.bool false) fun v34 =>
    condK v34 (J203_7 call fu ih5 s t6 t5 t4 t2 t0)
    (J203_4 call fu s t2 t5 t0 t4)

def L203_5b (call : Call) (fu : Nat) (ih5 : St → AV → AV → AV → AV → AV → Out) (s : St) (t6 t5 t4 t2 t0 : AV) : Out :=
    binK .gtr t6 (.int .u64 (.ofNat 0)) fun v35 =>
    guardK true v35 (J203_8 call fu ih5 s t6 t5 t4 t2 t0 v35 (.tup [])) <|
    outK (call 214 [t4] s) fun v36 s37 =>
    binK .eql v36 (.int .i64 (.ofNat 0)) fun v38 =>
    J203_8 call fu ih5 s37 t6 t5 t4 t2 t0 v35 v38

def L203_5 (call : Call) (fu : Nat) (n : Nat) : St → AV → AV → AV → AV → AV → Out :=
  Nat.rec (motive := fun _ => St → AV → AV → AV → AV → AV → Out) (fun _ _ _ _ _ _ => .err) (fun _ ih => L203_5b call fu ih) n

def J203_9 (call : Call) (fu : Nat) (s : St) (t2 t0 : AV) : Out :=
    outK (call 208 [t0] s) fun v39 s40 =>
    outK (call 211 [v39] s40) fun v41 s42 =>
    binK .eql v41 (.int .u8 (.ofNat 1)) fun v43 =>
    fillK (.cells [(.bool false), (.int .i64 (.ofNat 0)), .nils]) [(0, 1, v43)] fun v44 =>
    allocK s42 206 (.cells [(.bool false), (.int .i64 (.ofNat 0)), .nils]) fun v45 s46 =>
    storeK ⟨3, true⟩ s46 v45 v44 fun s47 =>
    outK (call 278 [v39, (.int .i64 (.ofNat 2)), (.bool false)] s47) fun v48 s49 =>
    outK (call 278 [v39, (.int .i64 (.ofNat 4)), (.bool false)] s49) fun v50 s51 =>
    convK .i64 v50 fun v52 =>
    fieldK 1 v45 fun v53 =>
    storeK ⟨1, false⟩ s51 v53 v52 fun s54 =>
    L203_5 call fu fu s54 v48 v45 v39 t2 t0

def F203 (call : Call) (fu : Nat) (args : List AV) (s : St) : Out := match args with
  | [t0] =>
    allocK s 206 (.cells [(.bool false), (.int .i64 (.ofNat 0)), .nils]) fun v55 s56 =>
    lenSlK t0 fun v57 =>
    binK .neq (goInt v57) (.int .i64 (.ofNat 512)) fun v58 =>
    condK v58 (fillK (.cells [(.bool false), (.int .i64 (.ofNat 0)), .nils]) [] fun v59 =>
    storeK ⟨3, true⟩ s56 v55 v59 fun s60 =>
    loadK ⟨3, true⟩ s60 v55 fun v61 =>
    .ret (.tup [v61, (.int .i64 (.ofNat 9))]) s60)
    (J203_9 call fu s56 v55 t0)
  | _ => .err

abbrev orc203c (call : Call) (fu : Nat) (st : List IH) (id i : Nat) (s : St) (v : List AV) : Out := ch (Nat.beq id 3 && Nat.beq i 0) (J203_9 call fu s (nthL v 0) (nthL v 1)) (
    ch (Nat.beq id 7 && Nat.beq i 6) (J203_8 call fu (fun s x0 x1 x2 x3 x4 => nthI st 0 s [x0, x1, x2, x3, x4]) s (nthL v 0) (nthL v 1) (nthL v 2) (nthL v 3) (nthL v 4) (nthL v 5) (nthL v 6)) (
    ch (Nat.beq id 9 && Nat.beq i 0) (J203_7 call fu (fun s x0 x1 x2 x3 x4 => nthI st 0 s [x0, x1, x2, x3, x4]) s (nthL v 0) (nthL v 1) (nthL v 2) (nthL v 3) (nthL v 4)) (
    ch (Nat.beq id 8 && Nat.beq i 0) (J203_6 call fu (fun s x0 x1 x2 x3 x4 => nthI st 0 s [x0, x1, x2, x3, x4]) s (nthL v 0) (nthL v 1) (nthL v 2) (nthL v 3) (nthL v 4)) (
    ch (Nat.beq id 10 && Nat.beq i 0) (J203_4 call fu s (nthL v 0) (nthL v 1) (nthL v 2) (nthL v 3)) (
    ch (Nat.beq id 11 && Nat.beq i 1006) (J203_3 call fu s (nthL v 0) (nthL v 1) (nthL v 2) (nthL v 3) (nthL v 4) (nthL v 5)) (
    ch (Nat.beq id 11 && Nat.beq i 1015) (J203_2 call fu s (nthL v 0) (nthL v 1) (nthL v 2) (nthL v 3)) (
    ch (Nat.beq id 12 && Nat.beq i 0) (J203_1 call fu s (nthL v 0) (nthL v 1) (nthL v 2)) (
    ch (Nat.beq id 13 && Nat.beq i 0) (J203_0 call fu s (nthL v 0) (nthL v 1)) (
    .err)))))))))
abbrev orc203b (call : Call) (fu : Nat) (st : List IH) (id : Nat) (ih : IH) (s : St) (v : List AV) : Out := ch (Nat.beq id 7) (L203_5b call fu (fun s x0 x1 x2 x3 x4 => ih s [x0, x1, x2, x3, x4]) s (nthL v 0) (nthL v 1) (nthL v 2) (nthL v 3) (nthL v 4)) (
    .err)
abbrev orc203p (call : Call) (fu : Nat) (st : List IH) (id k : Nat) (s : St) (v : List AV) : Out := ch (Nat.beq id 7) (L203_5 call fu k s (nthL v 0) (nthL v 1) (nthL v 2) (nthL v 3) (nthL v 4)) (
    .err)
abbrev orc203m (call : Call) (fu : Nat) (id : Nat) (v : List AV) (s : St) : Out := .err
def lv203 (id i : Nat) : Option (List Tmp) := bif Nat.beq id 3 && Nat.beq i 0 then some [2, 0] else
    bif Nat.beq id 7 && Nat.beq i 6 then some [6, 5, 4, 2, 0, 26, 29] else
    bif Nat.beq id 9 && Nat.beq i 0 then some [6, 5, 4, 2, 0] else
    bif Nat.beq id 8 && Nat.beq i 0 then some [6, 5, 4, 2, 0] else
    bif Nat.beq id 7 && Nat.beq i 0 then some [6, 5, 4, 2, 0] else
    bif Nat.beq id 10 && Nat.beq i 0 then some [2, 5, 0, 4] else
    bif Nat.beq id 11 && Nat.beq i 1006 then some [2, 5, 0, 7, 47, 49] else
    bif Nat.beq id 11 && Nat.beq i 1015 then some [2, 5, 51, 58] else
    bif Nat.beq id 12 && Nat.beq i 0 then some [2, 5, 59] else
    bif Nat.beq id 13 && Nat.beq i 0 then some [2, 5] else
    none
/- 204 -/
def J204_0 (call : Call) (fu : Nat) (s : St) (t3 t7 t4 : AV) : Out :=
    loadK ⟨1, false⟩ s t4 fun v0 =>
    loadK ⟨3, true⟩ s t7 fun v1 =>
    outK (call 205 [v0, v1] s) fun v2 s3 =>
    extractK v2 0 fun v4 =>
    extractK v2 1 fun v5 =>
    loadK ⟨1, false⟩ s3 t3 fun v6 =>
    appK 3 1 s3 v6 v4 fun v7 s8 =>
    storeK ⟨1, false⟩ s8 t3 v7 fun s9 =>
    .ret v5 s9

def F204 (call : Call) (fu : Nat) (args : List AV) (s : St) : Out := match args with
  | [t0, t1, t2, t3, t4] =>
    boxK s 206 3 t2 fun v10 s11 =>
    loadK ⟨1, false⟩ s11 t3 fun v12 =>
    fillK (.cells [(.int .i64 (.ofNat 0))]) [(0, 1, t0)] fun v13 => newK s11 (.row 3 v13) fun i14 s15 =>
    appK 3 1 s15 v12 (.slice i14 0 1 1 1 false) fun v16 s17 =>
    storeK ⟨1, false⟩ s17 t3 v16 fun s18 =>
    loadK ⟨1, false⟩ s18 t3 fun v19 =>
    lenSlK v19 fun v20 =>
    binK .gtr (goInt v20) (.int .i64 (.ofNat 4000)) fun v21 =>
    condK v21 (.ret (.int .i64 (.ofNat 9)) s18)
    (J204_0 call fu s18 t3 v10 t4)
  | _ => .err

abbrev orc204c (call : Call) (fu : Nat) (st : List IH) (id i : Nat) (s : St) (v : List AV) : Out := ch (Nat.beq id 4 && Nat.beq i 0) (J204_0 call fu s (nthL v 0) (nthL v 1) (nthL v 2)) (
    .err)
abbrev orc204b (call : Call) (fu : Nat) (st : List IH) (id : Nat) (ih : IH) (s : St) (v : List AV) : Out := .err
abbrev orc204p (call : Call) (fu : Nat) (st : List IH) (id k : Nat) (s : St) (v : List AV) : Out := .err
abbrev orc204m (call : Call) (fu : Nat) (id : Nat) (v : List AV) (s : St) : Out := .err
def lv204 (id i : Nat) : Option (List Tmp) := bif Nat.beq id 4 && Nat.beq i 0 then some [3, 7, 4] else
    none
/- 205 -/
def J205_0 (call : Call) (fu : Nat) (s : St) (t6 : AV) : Out :=
    .ret (.tup [t6, (.int .i64 (.ofNat 0))]) s

def J205_2 (call : Call) (fu : Nat) (ih1 : St → AV → AV → AV → AV → AV → Out) (s : St) (t15 t6 t0 t13 t14 : AV) : Out :=
    binK .add t15 (.int .i64 (.ofNat 1)) fun v0 =>
    ih1 s v0 t6 t0 t13 t14

def J205_3 (call : Call) (fu : Nat) (ih1 : St → AV → AV → AV → AV → AV → Out) (s : St) (t15 t10 t6 t0 t13 t14 : AV) : Out :=
    appK 3 1 s t6 t10 fun v1 s2 =>
    J205_2 call fu ih1 s2 t15 v1 t0 t13 t14

def J205_4 (call : Call) (fu : Nat) (ih1 : St → AV → AV → AV → AV → AV → Out) (s : St) (t15 t6 t9 t8 t0 t13 t14 : AV) : Out :=
    nilK t0 fun v3 =>
    fieldK 0 v3 fun v4 =>
    loadK ⟨1, false⟩ s v4 fun v5 =>
    fieldK 4 t8 fun v6 =>
    loadK ⟨1, false⟩ s v6 fun v7 =>
    outK (call 280 [v5, v7, t9] s) fun v8 s9 =>
    extractK v8 0 fun v10 =>
    extractK v8 1 fun v11 =>
    binK .neq v11 (.int .i64 (.ofNat 0)) fun v12 =>
    condK v12 (.ret (.tup [.nils, v11]) s9)
    (J205_3 call fu ih1 s9 t15 v10 t6 t0 t13 t14)

def J205_5 (call : Call) (fu : Nat) (ih1 : St → AV → AV → AV → AV → AV → Out) (s : St) (t15 t6 t0 t13 t14 : AV) : Out :=
    indexSlK 5 t13 t15 fun v13 =>
    loadK ⟨5, true⟩ s v13 fun v14 =>
    allocK s 211 (.cells [(.int .i64 (.ofNat 0)), (.int .i64 (.ofNat 0)), (.int .i64 (.ofNat 0)), .nils, (.int .i64 (.ofNat 0))]) fun v15 s16 =>
    storeK ⟨5, true⟩ s16 v15 v14 fun s17 =>
    fieldK 2 v15 fun v18 =>
    loadK ⟨1, false⟩ s17 v18 fun v19 =>
    fieldK 3 v15 fun v20 =>
    loadK ⟨1, false⟩ s17 v20 fun v21 =>
    lenSlK v21 fun v22 =>
    binK .sub v19 (goInt v22) fun v23 =>
    binK .eql v23 (.int .i64 (.ofNat 0)) fun v24 =>
    condK v24 (J205_2 call fu ih1 s17 t15 t6 t0 t13 t14)
    (J205_4 call fu ih1 s17 t15 t6 v23 v15 t0 t13 t14)

def L205_1b (call : Call) (fu : Nat) (ih1 : St → AV → AV → AV → AV → AV → Out) (s : St) (t15 t6 t0 t13 t14 : AV) : Out :=
    binK .lss t15 t14 fun v25 =>
    condK v25 (J205_5 call fu ih1 s t15 t6 t0 t13 t14)
    (J205_0 call fu s t6)

def L205_1 (call : Call) (fu : Nat) (n : Nat) : St → AV → AV → AV → AV → AV → Out :=
  Nat.rec (motive := fun _ => St → AV → AV → AV → AV → AV → Out) (fun _ _ _ _ _ _ => .err) (fun _ ih => L205_1b call fu ih) n

def F205 (call : Call) (fu : Nat) (args : List AV) (s : St) : Out := match args with
  | [t0, t1] =>
    boxK s 206 3 t1 fun v26 s27 =>
    fieldK 2 v26 fun v28 =>
    loadK ⟨1, false⟩ s27 v28 fun v29 =>
    lenSlK v29 fun v30 =>
    L205_1 call fu fu s27 (.int .i64 (.ofNat 0)) .nils t0 v29 (goInt v30)
  | _ => .err

abbrev orc205c (call : Call) (fu : Nat) (st : List IH) (id i : Nat) (s : St) (v : List AV) : Out := ch (Nat.beq id 4 && Nat.beq i 0) (J205_5 call fu (fun s x0 x1 x2 x3 x4 => nthI st 0 s [x0, x1, x2, x3, x4]) s (nthL v 0) (nthL v 1) (nthL v 2) (nthL v 3) (nthL v 4)) (
    ch (Nat.beq id 7 && Nat.beq i 0) (J205_4 call fu (fun s x0 x1 x2 x3 x4 => nthI st 0 s [x0, x1, x2, x3, x4]) s (nthL v 0) (nthL v 1) (nthL v 2) (nthL v 3) (nthL v 4) (nthL v 5) (nthL v 6)) (
    ch (Nat.beq id 10 && Nat.beq i 0) (J205_3 call fu (fun s x0 x1 x2 x3 x4 => nthI st 0 s [x0, x1, x2, x3, x4]) s (nthL v 0) (nthL v 1) (nthL v 2) (nthL v 3) (nthL v 4) (nthL v 5)) (
    ch (Nat.beq id 11 && Nat.beq i 0) (J205_2 call fu (fun s x0 x1 x2 x3 x4 => nthI st 0 s [x0, x1, x2, x3, x4]) s (nthL v 0) (nthL v 1) (nthL v 2) (nthL v 3) (nthL v 4)) (
    ch (Nat.beq id 12 && Nat.beq i 0) (J205_0 call fu s (nthL v 0)) (
    .err)))))
abbrev orc205b (call : Call) (fu : Nat) (st : List IH) (id : Nat) (ih : IH) (s : St) (v : List AV) : Out := ch (Nat.beq id 3) (L205_1b call fu (fun s x0 x1 x2 x3 x4 => ih s [x0, x1, x2, x3, x4]) s (nthL v 0) (nthL v 1) (nthL v 2) (nthL v 3) (nthL v 4)) (
    .err)
abbrev orc205p (call : Call) (fu : Nat) (st : List IH) (id k : Nat) (s : St) (v : List AV) : Out := ch (Nat.beq id 3) (L205_1 call fu k s (nthL v 0) (nthL v 1) (nthL v 2) (nthL v 3) (nthL v 4)) (
    .err)
abbrev orc205m (call : Call) (fu : Nat) (id : Nat) (v : List AV) (s : St) : Out := .err
def lv205 (id i : Nat) : Option (List Tmp) := bif Nat.beq id 4 && Nat.beq i 0 then some [15, 6, 0, 13, 14] else
    bif Nat.beq id 7 && Nat.beq i 0 then some [15, 6, 9, 8, 0, 13, 14] else
    bif Nat.beq id 10 && Nat.beq i 0 then some [15, 10, 6, 0, 13, 14] else
    bif Nat.beq id 11 && Nat.beq i 0 then some [15, 6, 0, 13, 14] else
    bif Nat.beq id 3 && Nat.beq i 0 then some [15, 6, 0, 13, 14] else
    bif Nat.beq id 12 && Nat.beq i 0 then some [6] else
    none
/- 206 -/
def J206_0 (call : Call) (fu : Nat) (s : St) (t4 : AV) : Out :=
    fillK (.cells [(.bool false), (.int .i64 (.ofNat 0)), .nils]) [] fun v0 =>
    storeK ⟨3, true⟩ s t4 v0 fun s1 =>
    loadK ⟨3, true⟩ s1 t4 fun v2 =>
    .ret (.tup [v2, (.int .i64 (.ofNat 9))]) s1

def J206_2 (call : Call) (fu : Nat) (ih1 : St → AV → AV → AV → AV → AV → Out) (s : St) (t13 t4 t1 t6 t0 : AV) : Out :=
    binK .add t13 (.int .i64 (.ofNat 1)) fun v3 =>
    ih1 s t4 v3 t1 t6 t0

def J206_3 (call : Call) (fu : Nat) (ih1 : St → AV → AV → AV → AV → AV → Out) (s : St) (t13 t1 t7 t4 t0 : AV) : Out :=
    loadK ⟨3, true⟩ s t7 fun v4 =>
    outK (call 265 [v4, t1] s) fun v5 s6 =>
    extractK v5 0 fun v7 =>
    extractK v5 1 fun v8 =>
    J206_2 call fu ih1 s6 t13 t4 t1 v8 t0

def J206_4 (call : Call) (fu : Nat) (ih1 : St → AV → AV → AV → AV → AV → Out) (s : St) (t4 t8 t7 t13 t1 t26 t0 : AV) : Out :=
    condK t26 (loadK ⟨3, true⟩ s t7 fun v9 =>
    storeK ⟨3, true⟩ s t4 v9 fun s10 =>
    loadK ⟨3, true⟩ s10 t4 fun v11 =>
    .ret (.tup [v11, t8]) s10)
    (J206_3 call fu ih1 s t13 t1 t7 t4 t0)

def J206_5 (call : Call) (fu : Nat) (ih1 : St → AV → AV → AV → AV → AV → Out) (s : St) (t4 t8 t7 t13 t1 t23 t25 t0 : AV) : Out :=
    pickK t23 (.bool true) t25 fun v12 =>
    J206_4 call fu ih1 s t4 t8 t7 t13 t1 v12 t0

def J206_6 (call : Call) (fu : Nat) (ih1 : St → AV → AV → AV → AV → AV → Out) (s : St) (t4 t13 t1 t6 t0 : AV) : Out :=
    outK (call 131 [t0, t6] s) fun v13 s14 =>
    extractK v13 0 fun v15 =>
    extractK v13 1 fun v16 =>
    allocK s14 206 (.cells [(.bool false), (.int .i64 (.ofNat 0)), .nils]) fun v17 s18 =>
    storeK ⟨3, true⟩ s18 v17 v15 fun s19 =>
    binK .neq v16 (.int .i64 (.ofNat 0)) fun v20 =>
    guardK false v20 (J206_5 call fu ih1 s19 t4 v16 v17 t13 t1 v20 (.tup []) t0) <|
    fieldK 0 v17 fun v21 =>
    loadK ⟨1, false⟩ s19 v21 fun v22 =>
    J206_5 call fu ih1 s19 t4 v16 v17 t13 t1 v20 v22 t0

def L206_1b (call : Call) (fu : Nat) (ih1 : St → AV → AV → AV → AV → AV → Out) (s : St) (t4 t13 t1 t6 t0 : AV) : Out :=
    binK .lss t13 (.int .i64 (.ofNat 20)) fun v23 =>
    condK v23 (J206_6 call fu ih1 s t4 t13 t1 t6 t0)
    (J206_0 call fu s t4)

def L206_1 (call : Call) (fu : Nat) (n : Nat) : St → AV → AV → AV → AV → AV → Out :=
  Nat.rec (motive := fun _ => St → AV → AV → AV → AV → AV → Out) (fun _ _ _ _ _ _ => .err) (fun _ ih => L206_1b call fu ih) n

def F206 (call : Call) (fu : Nat) (args : List AV) (s : St) : Out := match args with
  | [t0, t1] =>
    allocK s 206 (.cells [(.bool false), (.int .i64 (.ofNat 0)), .nils]) fun v24 s25 =>
    nilK t0 fun v26 =>
    fieldK 1 v26 fun v27 =>
    loadK ⟨1, false⟩ s25 v27 fun v28 =>
    L206_1 call fu fu s25 v24 (.int .i64 (.ofNat 0)) t1 v28 t0
  | _ => .err

abbrev orc206c (call : Call) (fu : Nat) (st : List IH) (id i : Nat) (s : St) (v : List AV) : Out := ch (Nat.beq id 4 && Nat.beq i 0) (J206_6 call fu (fun s x0 x1 x2 x3 x4 => nthI st 0 s [x0, x1, x2, x3, x4]) s (nthL v 0) (nthL v 1) (nthL v 2) (nthL v 3) (nthL v 4)) (
    ch (Nat.beq id 5 && Nat.beq i 5) (J206_5 call fu (fun s x0 x1 x2 x3 x4 => nthI st 0 s [x0, x1, x2, x3, x4]) s (nthL v 0) (nthL v 1) (nthL v 2) (nthL v 3) (nthL v 4) (nthL v 5) (nthL v 6) (nthL v 7)) (
    ch (Nat.beq id 6 && Nat.beq i 0) (J206_4 call fu (fun s x0 x1 x2 x3 x4 => nthI st 0 s [x0, x1, x2, x3, x4]) s (nthL v 0) (nthL v 1) (nthL v 2) (nthL v 3) (nthL v 4) (nthL v 5) (nthL v 6)) (
    ch (Nat.beq id 7 && Nat.beq i 0) (J206_3 call fu (fun s x0 x1 x2 x3 x4 => nthI st 0 s [x0, x1, x2, x3, x4]) s (nthL v 0) (nthL v 1) (nthL v 2) (nthL v 3) (nthL v 4)) (
    ch (Nat.beq id 8 && Nat.beq i 0) (J206_2 call fu (fun s x0 x1 x2 x3 x4 => nthI st 0 s [x0, x1, x2, x3, x4]) s (nthL v 0) (nthL v 1) (nthL v 2) (nthL v 3) (nthL v 4)) (
    ch (Nat.beq id 9 && Nat.beq i 0) (J206_0 call fu s (nthL v 0)) (
    .err))))))
abbrev orc206b (call : Call) (fu : Nat) (st : List IH) (id : Nat) (ih : IH) (s : St) (v : List AV) : Out := ch (Nat.beq id 3) (L206_1b call fu (fun s x0 x1 x2 x3 x4 => ih s [x0, x1, x2, x3, x4]) s (nthL v 0) (nthL v 1) (nthL v 2) (nthL v 3) (nthL v 4)) (
    .err)
abbrev orc206p (call : Call) (fu : Nat) (st : List IH) (id k : Nat) (s : St) (v : List AV) : Out := ch (Nat.beq id 3) (L206_1 call fu k s (nthL v 0) (nthL v 1) (nthL v 2) (nthL v 3) (nthL v 4)) (
    .err)
abbrev orc206m (call : Call) (fu : Nat) (id : Nat) (v : List AV) (s : St) : Out := .err
def lv206 (id i : Nat) : Option (List Tmp) := bif Nat.beq id 4 && Nat.beq i 0 then some [4, 13, 1, 6, 0] else
    bif Nat.beq id 5 && Nat.beq i 5 then some [4, 8, 7, 13, 1, 23, 25, 0] else
    bif Nat.beq id 6 && Nat.beq i 0 then some [4, 8, 7, 13, 1, 26, 0] else
    bif Nat.beq id 7 && Nat.beq i 0 then some [13, 1, 7, 4, 0] else
    bif Nat.beq id 8 && Nat.beq i 0 then some [13, 4, 1, 6, 0] else
    bif Nat.beq id 3 && Nat.beq i 0 then some [4, 13, 1, 6, 0] else
    bif Nat.beq id 9 && Nat.beq i 0 then some [4] else
    none
/- 207 -/
def J207_0 (call : Call) (fu : Nat) (s : St) (t7 t3 : AV) : Out :=
    fieldK 3 t3 fun v0 =>
    loadK ⟨1, false⟩ s v0 fun v1 =>
    fillK (.cells [.nils, .nils]) [(0, 1, v1), (1, 1, t7)] fun v2 => newK s (.row 108 v2) fun i3 s4 =>
    outK (call 282 [(.slice i3 0 2 2 1 false)] s4) fun v5 s6 =>
    .ret (.tup [v5, (.int .i64 (.ofNat 0))]) s6

def J207_1 (call : Call) (fu : Nat) (s : St) (t3 t6 t0 : AV) : Out :=
    nilK t0 fun v7 =>
    fieldK 0 v7 fun v8 =>
    loadK ⟨1, false⟩ s v8 fun v9 =>
    fieldK 4 t3 fun v10 =>
    loadK ⟨1, false⟩ s v10 fun v11 =>
    outK (call 281 [v9, v11, t6] s) fun v12 s13 =>
    extractK v12 0 fun v14 =>
    extractK v12 1 fun v15 =>
    binK .neq v15 (.int .i64 (.ofNat 0)) fun v16 =>
    condK v16 (.ret (.tup [.nils, v15]) s13)
    (J207_0 call fu s13 v14 t3)

def F207 (call : Call) (fu : Nat) (args : List AV) (s : St) : Out := match args with
  | [t0, t1] =>
    boxK s 211 5 t1 fun v17 s18 =>
    fieldK 2 v17 fun v19 =>
    loadK ⟨1, false⟩ s18 v19 fun v20 =>
    fieldK 3 v17 fun v21 =>
    loadK ⟨1, false⟩ s18 v21 fun v22 =>
    lenSlK v22 fun v23 =>
    binK .sub v20 (goInt v23) fun v24 =>
    binK .eql v24 (.int .i64 (.ofNat 0)) fun v25 =>
    condK v25 (fieldK 3 v17 fun v26 =>
    loadK ⟨1, false⟩ s18 v26 fun v27 =>
    outK (call 185 [v27] s18) fun v28 s29 =>
    .ret (.tup [v28, (.int .i64 (.ofNat 0))]) s29)
    (J207_1 call fu s18 v17 v24 t0)
  | _ => .err

abbrev orc207c (call : Call) (fu : Nat) (st : List IH) (id i : Nat) (s : St) (v : List AV) : Out := ch (Nat.beq id 4 && Nat.beq i 0) (J207_1 call fu s (nthL v 0) (nthL v 1) (nthL v 2)) (
    ch (Nat.beq id 7 && Nat.beq i 0) (J207_0 call fu s (nthL v 0) (nthL v 1)) (
    .err))
abbrev orc207b (call : Call) (fu : Nat) (st : List IH) (id : Nat) (ih : IH) (s : St) (v : List AV) : Out := .err
abbrev orc207p (call : Call) (fu : Nat) (st : List IH) (id k : Nat) (s : St) (v : List AV) : Out := .err
abbrev orc207m (call : Call) (fu : Nat) (id : Nat) (v : List AV) (s : St) : Out := .err
def lv207 (id i : Nat) : Option (List Tmp) := bif Nat.beq id 4 && Nat.beq i 0 then some [3, 6, 0] else
    bif Nat.beq id 7 && Nat.beq i 0 then some [7, 3] else
    none
/- 208 -/
def F208 (call : Call) (fu : Nat) (args : List AV) (s : St) : Out := match args with
  | [t0] =>
    outK (call 185 [t0] s) fun v0 s1 =>
    fillK (.cells [(.bool false), .nils, (.int .i64 (.ofNat 0))]) [(0, 1, (.bool true)), (1, 1, v0)] fun v2 =>
    boxK s1 398 3 v2 fun v3 s4 =>
    .ret v3 s4
  | _ => .err

abbrev orc208c (call : Call) (fu : Nat) (st : List IH) (id i : Nat) (s : St) (v : List AV) : Out := .err
abbrev orc208b (call : Call) (fu : Nat) (st : List IH) (id : Nat) (ih : IH) (s : St) (v : List AV) : Out := .err
abbrev orc208p (call : Call) (fu : Nat) (st : List IH) (id k : Nat) (s : St) (v : List AV) : Out := .err
abbrev orc208m (call : Call) (fu : Nat) (id : Nat) (v : List AV) (s : St) : Out := .err
def lv208 (id i : Nat) : Option (List Tmp) := none
/- 210 -/
def F210 (call : Call) (fu : Nat) (args : List AV) (s : St) : Out := match args with
  | [t0, t1] =>
    boxK s 310 1 t0 fun v0 s1 =>
    boxK s1 3 1 t1 fun v2 s3 =>
    allocK s3 108 (.cells [.nils]) fun v4 s5 =>
    loadK ⟨1, false⟩ s5 v0 fun v6 =>
    outK (call 283 [v6, (.func 284 [] [v2, v0, v4])] s5) fun v7 s8 =>
    loadK ⟨1, false⟩ s8 v4 fun v9 =>
    .ret v9 s8
  | _ => .err

abbrev orc210c (call : Call) (fu : Nat) (st : List IH) (id i : Nat) (s : St) (v : List AV) : Out := .err
abbrev orc210b (call : Call) (fu : Nat) (st : List IH) (id : Nat) (ih : IH) (s : St) (v : List AV) : Out := .err
abbrev orc210p (call : Call) (fu : Nat) (st : List IH) (id k : Nat) (s : St) (v : List AV) : Out := .err
abbrev orc210m (call : Call) (fu : Nat) (id : Nat) (v : List AV) (s : St) : Out := .err
def lv210 (id i : Nat) : Option (List Tmp) := none
/- 211 -/
def F211 (call : Call) (fu : Nat) (args : List AV) (s : St) : Out := match args with
  | [t0] =>
    callVK call (.func 278 [t0] []) [(.int .i64 (.ofNat 1)), (.bool false)] s fun v0 s1 =>
    convK .u8 v0 fun v2 =>
    .ret v2 s1
  | _ => .err

abbrev orc211c (call : Call) (fu : Nat) (st : List IH) (id i : Nat) (s : St) (v : List AV) : Out := .err
abbrev orc211b (call : Call) (fu : Nat) (st : List IH) (id : Nat) (ih : IH) (s : St) (v : List AV) : Out := .err
abbrev orc211p (call : Call) (fu : Nat) (st : List IH) (id k : Nat) (s : St) (v : List AV) : Out := .err
abbrev orc211m (call : Call) (fu : Nat) (id : Nat) (v : List AV) (s : St) : Out := .err
def lv211 (id i : Nat) : Option (List Tmp) := none
/- 214 -/
def J214_0 (call : Call) (fu : Nat) (s : St) (t0 : AV) : Out :=
    nilK t0 fun v0 =>
    fieldK 2 v0 fun v1 =>
    loadK ⟨1, false⟩ s v1 fun v2 =>
    .ret v2 s

def F214 (call : Call) (fu : Nat) (args : List AV) (s : St) : Out := match args with
  | [t0] =>
    outK (call 285 [t0] s) fun v3 s4 =>
    notK v3 fun v5 =>
    condK v5 (.ret (.int .i64 (.ofNat 1)) s4)
    (J214_0 call fu s4 t0)
  | _ => .err

abbrev orc214c (call : Call) (fu : Nat) (st : List IH) (id i : Nat) (s : St) (v : List AV) : Out := ch (Nat.beq id 3 && Nat.beq i 0) (J214_0 call fu s (nthL v 0)) (
    .err)
abbrev orc214b (call : Call) (fu : Nat) (st : List IH) (id : Nat) (ih : IH) (s : St) (v : List AV) : Out := .err
abbrev orc214p (call : Call) (fu : Nat) (st : List IH) (id k : Nat) (s : St) (v : List AV) : Out := .err
abbrev orc214m (call : Call) (fu : Nat) (id : Nat) (v : List AV) (s : St) : Out := .err
def lv214 (id i : Nat) : Option (List Tmp) := bif Nat.beq id 3 && Nat.beq i 0 then some [0] else
    none
/- 217 -/
def J217_0 (call : Call) (fu : Nat) (s : St) (t1 t0 : AV) : Out :=
    nilK t0 fun v0 =>
    fieldK 1 v0 fun v1 =>
    indexArrK 2 3 v1 t1 fun v2 =>
    .ret (.tup [v2, (.int .i64 (.ofNat 0))]) s

def J217_1 (call : Call) (fu : Nat) (s : St) (t1 t0 t16 : AV) : Out :=
    condK t16 (.ret (.tup [.nilv, (.int .i64 (.ofNat 11))]) s)
    (J217_0 call fu s t1 t0)

def J217_2 (call : Call) (fu : Nat) (s : St) (t1 t0 t19 t21 : AV) : Out :=
    pickK t19 (.bool true) t21 fun v3 =>
    J217_1 call fu s t1 t0 v3

def F217 (call : Call) (fu : Nat) (args : List AV) (s : St) : Out := match args with
  | [t0, t1] =>
    outK (call 139 [t0] s) fun v4 s5 =>
    notK v4 fun v6 =>
    condK v6 (.ret (.tup [.nilv, (.int .i64 (.ofNat 1))]) s5)
    (nilK t0 fun v7 =>
    fieldK 7 v7 fun v8 =>
    loadK ⟨1, false⟩ s5 v8 fun v9 =>
    notK v9 fun v10 =>
    condK v10 (.ret (.tup [.nilv, (.int .i64 (.ofNat 4))]) s5)
    (binK .lss t1 (.int .i64 (.ofNat 0)) fun v11 =>
    guardK false v11 (J217_2 call fu s5 t1 t0 v11 (.tup [])) <|
    binK .geq t1 (.int .i64 (.ofNat 2)) fun v12 =>
    J217_2 call fu s5 t1 t0 v11 v12))
  | _ => .err

abbrev orc217c (call : Call) (fu : Nat) (st : List IH) (id i : Nat) (s : St) (v : List AV) : Out := ch (Nat.beq id 5 && Nat.beq i 5) (J217_2 call fu s (nthL v 0) (nthL v 1) (nthL v 2) (nthL v 3)) (
    ch (Nat.beq id 6 && Nat.beq i 0) (J217_1 call fu s (nthL v 0) (nthL v 1) (nthL v 2)) (
    ch (Nat.beq id 7 && Nat.beq i 0) (J217_0 call fu s (nthL v 0) (nthL v 1)) (
    .err)))
abbrev orc217b (call : Call) (fu : Nat) (st : List IH) (id : Nat) (ih : IH) (s : St) (v : List AV) : Out := .err
abbrev orc217p (call : Call) (fu : Nat) (st : List IH) (id k : Nat) (s : St) (v : List AV) : Out := .err
abbrev orc217m (call : Call) (fu : Nat) (id : Nat) (v : List AV) (s : St) : Out := .err
def lv217 (id i : Nat) : Option (List Tmp) := bif Nat.beq id 5 && Nat.beq i 5 then some [1, 0, 19, 21] else
    bif Nat.beq id 6 && Nat.beq i 0 then some [1, 0, 16] else
    bif Nat.beq id 7 && Nat.beq i 0 then some [1, 0] else
    none
/- 218 -/
def J218_0 (call : Call) (fu : Nat) (s : St) (t1 t0 : AV) : Out :=
    nilK t0 fun v0 =>
    fieldK 1 v0 fun v1 =>
    indexArrK 2 3 v1 t1 fun v2 =>
    .ret v2 s

def J218_1 (call : Call) (fu : Nat) (s : St) (t1 t0 t15 : AV) : Out :=
    condK t15 (.ret .nilv s)
    (J218_0 call fu s t1 t0)

def J218_2 (call : Call) (fu : Nat) (s : St) (t1 t0 t12 t14 : AV) : Out :=
    pickK t12 (.bool true) t14 fun v3 =>
    J218_1 call fu s t1 t0 v3

def J218_3 (call : Call) (fu : Nat) (s : St) (t1 t0 t8 t10 : AV) : Out :=
    pickK t8 (.bool true) t10 fun v4 =>
    guardK false v4 (J218_2 call fu s t1 t0 v4 (.tup [])) <|
    binK .geq t1 (.int .i64 (.ofNat 2)) fun v5 =>
    J218_2 call fu s t1 t0 v4 v5

def F218 (call : Call) (fu : Nat) (args : List AV) (s : St) : Out := match args with
  | [t0, t1] =>
    outK (call 139 [t0] s) fun v6 s7 =>
    notK v6 fun v8 =>
    guardK false v8 (J218_3 call fu s7 t1 t0 v8 (.tup [])) <|
    binK .lss t1 (.int .i64 (.ofNat 0)) fun v9 =>
    J218_3 call fu s7 t1 t0 v8 v9
  | _ => .err

abbrev orc218c (call : Call) (fu : Nat) (st : List IH) (id i : Nat) (s : St) (v : List AV) : Out := ch (Nat.beq id 1 && Nat.beq i 6) (J218_3 call fu s (nthL v 0) (nthL v 1) (nthL v 2) (nthL v 3)) (
    ch (Nat.beq id 1 && Nat.beq i 10) (J218_2 call fu s (nthL v 0) (nthL v 1) (nthL v 2) (nthL v 3)) (
    ch (Nat.beq id 2 && Nat.beq i 0) (J218_1 call fu s (nthL v 0) (nthL v 1) (nthL v 2)) (
    ch (Nat.beq id 3 && Nat.beq i 0) (J218_0 call fu s (nthL v 0) (nthL v 1)) (
    .err))))
abbrev orc218b (call : Call) (fu : Nat) (st : List IH) (id : Nat) (ih : IH) (s : St) (v : List AV) : Out := .err
abbrev orc218p (call : Call) (fu : Nat) (st : List IH) (id k : Nat) (s : St) (v : List AV) : Out := .err
abbrev orc218m (call : Call) (fu : Nat) (id : Nat) (v : List AV) (s : St) : Out := .err
def lv218 (id i : Nat) : Option (List Tmp) := bif Nat.beq id 1 && Nat.beq i 6 then some [1, 0, 8, 10] else
    bif Nat.beq id 1 && Nat.beq i 10 then some [1, 0, 12, 14] else
    bif Nat.beq id 2 && Nat.beq i 0 then some [1, 0, 15] else
    bif Nat.beq id 3 && Nat.beq i 0 then some [1, 0] else
    none
/- 219 -/
def J219_0 (call : Call) (fu : Nat) (s : St) (t2 t6 : AV) : Out :=
    loadK ⟨3, true⟩ s t6 fun v0 =>
    storeK ⟨3, true⟩ s t2 v0 fun s1 =>
    loadK ⟨3, true⟩ s1 t2 fun v2 =>
    .ret (.tup [v2, (.int .i64 (.ofNat 0))]) s1

def J219_1 (call : Call) (fu : Nat) (s : St) (t2 t0 : AV) : Out :=
    sliceSlK 1 (some (.int .i64 (.ofNat 6))) (some (.int .i64 (.ofNat 128))) none t0 fun v3 =>
    outK (call 208 [v3] s) fun v4 s5 =>
    callVK call (.func 278 [v4] []) [(.int .i64 (.ofNat 4)), (.bool false)] s5 fun v6 s7 =>
    convK .i64 v6 fun v8 =>
    callVK call (.func 278 [v4] []) [(.int .i64 (.ofNat 4)), (.bool false)] s7 fun v9 s10 =>
    convK .i64 v9 fun v11 =>
    callVK call (.func 278 [v4] []) [(.int .i64 (.ofNat 8)), (.bool false)] s10 fun v12 s13 =>
    fillK (.cells [(.int .i64 (.ofNat 0)), (.int .i64 (.ofNat 0)), (.int .u64 (.ofNat 0))]) [(0, 1, v8), (1, 1, v11), (2, 1, v12)] fun v14 =>
    allocK s13 248 (.cells [(.int .i64 (.ofNat 0)), (.int .i64 (.ofNat 0)), (.int .u64 (.ofNat 0))]) fun v15 s16 =>
    storeK ⟨3, true⟩ s16 v15 v14 fun s17 =>
    loadK ⟨3, true⟩ s17 v15 fun v18 =>
    sliceSlK 1 none (some (.int .i64 (.ofNat 128))) none t0 fun v19 =>
    outK (call 287 [v18, (.bool true)] s17) fun v20 s21 =>
    outK (call 150 [v20, v19] s21) fun v22 s23 =>
    notK v22 fun v24 =>
    condK v24 (fillK (.cells [(.int .i64 (.ofNat 0)), (.int .i64 (.ofNat 0)), (.int .u64 (.ofNat 0))]) [] fun v25 =>
    storeK ⟨3, true⟩ s23 t2 v25 fun s26 =>
    loadK ⟨3, true⟩ s26 t2 fun v27 =>
    .ret (.tup [v27, (.int .i64 (.ofNat 9))]) s26)
    (J219_0 call fu s23 t2 v15)

def F219 (call : Call) (fu : Nat) (args : List AV) (s : St) : Out := match args with
  | [t0] =>
    allocK s 248 (.cells [(.int .i64 (.ofNat 0)), (.int .i64 (.ofNat 0)), (.int .u64 (.ofNat 0))]) fun v28 s29 =>
    lenSlK t0 fun v30 =>
    binK .lss (goInt v30) (.int .i64 (.ofNat 128)) fun v31 =>
    condK v31 (fillK (.cells [(.int .i64 (.ofNat 0)), (.int .i64 (.ofNat 0)), (.int .u64 (.ofNat 0))]) [] fun v32 =>
    storeK ⟨3, true⟩ s29 v28 v32 fun s33 =>
    loadK ⟨3, true⟩ s33 v28 fun v34 =>
    .ret (.tup [v34, (.int .i64 (.ofNat 8))]) s33)
    (J219_1 call fu s29 v28 t0)
  | _ => .err

abbrev orc219c (call : Call) (fu : Nat) (st : List IH) (id i : Nat) (s : St) (v : List AV) : Out := ch (Nat.beq id 3 && Nat.beq i 0) (J219_1 call fu s (nthL v 0) (nthL v 1)) (
    ch (Nat.beq id 8 && Nat.beq i 0) (J219_0 call fu s (nthL v 0) (nthL v 1)) (
    .err))
abbrev orc219b (call : Call) (fu : Nat) (st : List IH) (id : Nat) (ih : IH) (s : St) (v : List AV) : Out := .err
abbrev orc219p (call : Call) (fu : Nat) (st : List IH) (id k : Nat) (s : St) (v : List AV) : Out := .err
abbrev orc219m (call : Call) (fu : Nat) (id : Nat) (v : List AV) (s : St) : Out := .err
def lv219 (id i : Nat) : Option (List Tmp) := bif Nat.beq id 3 && Nat.beq i 0 then some [2, 0] else
    bif Nat.beq id 8 && Nat.beq i 0 then some [2, 6] else
    none
/- 235 -/
def F235 (call : Call) (fu : Nat) (args : List AV) (s : St) : Out := match args with
  | [t0, t1, t2] =>
    loadK ⟨1, false⟩ s t2 fun v0 =>
    binK .gtr t0 v0 fun v1 =>
    .ret v1 s
  | _ => .err

abbrev orc235c (call : Call) (fu : Nat) (st : List IH) (id i : Nat) (s : St) (v : List AV) : Out := .err
abbrev orc235b (call : Call) (fu : Nat) (st : List IH) (id : Nat) (ih : IH) (s : St) (v : List AV) : Out := .err
abbrev orc235p (call : Call) (fu : Nat) (st : List IH) (id k : Nat) (s : St) (v : List AV) : Out := .err
abbrev orc235m (call : Call) (fu : Nat) (id : Nat) (v : List AV) (s : St) : Out := .err
def lv235 (id i : Nat) : Option (List Tmp) := none
/- 236 -/
def J236_0 (call : Call) (fu : Nat) (s : St) (t6 : AV) : Out :=
    outK (call 93 [t6] s) fun v0 s1 =>
    .ret (.tup [t6, (.int .i64 (.ofNat 0))]) s1

def J236_2 (call : Call) (fu : Nat) (ih1 : St → AV → AV → AV → AV → Out) (s : St) (t21 t6 t19 t20 : AV) : Out :=
    binK .add t21 (.int .i64 (.ofNat 1)) fun v2 =>
    ih1 s v2 t6 t19 t20

def J236_3 (call : Call) (fu : Nat) (ih1 : St → AV → AV → AV → AV → Out) (s : St) (t21 t9 t6 t19 t20 : AV) : Out :=
    appK 3 1 s t6 t9 fun v3 s4 =>
    J236_2 call fu ih1 s4 t21 v3 t19 t20

def J236_4 (call : Call) (fu : Nat) (ih1 : St → AV → AV → AV → AV → Out) (s : St) (t21 t6 t19 t20 : AV) : Out :=
    indexSlK 1 t19 t21 fun v5 =>
    loadK ⟨1, false⟩ s v5 fun v6 =>
    invokeK call (meth Go.Proofs.Tryz.prog "Pages") v6 [] s fun v7 s8 =>
    extractK v7 0 fun v9 =>
    extractK v7 1 fun v10 =>
    binK .neq v10 (.int .i64 (.ofNat 0)) fun v11 =>
    condK v11 (.ret (.tup [.nils, v10]) s8)
    (J236_3 call fu ih1 s8 t21 v9 t6 t19 t20)

def L236_1b (call : Call) (fu : Nat) (ih1 : St → AV → AV → AV → AV → Out) (s : St) (t21 t6 t19 t20 : AV) : Out :=
    binK .lss t21 t20 fun v12 =>
    condK v12 (J236_4 call fu ih1 s t21 t6 t19 t20)
    (J236_0 call fu s t6)

def L236_1 (call : Call) (fu : Nat) (n : Nat) : St → AV → AV → AV → AV → Out :=
  Nat.rec (motive := fun _ => St → AV → AV → AV → AV → Out) (fun _ _ _ _ _ => .err) (fun _ ih => L236_1b call fu ih) n

def J236_5 (call : Call) (fu : Nat) (s : St) (t4 : AV) : Out :=
    lenSlK t4 fun v13 =>
    L236_1 call fu fu s (.int .i64 (.ofNat 0)) .nils t4 (goInt v13)

def F236 (call : Call) (fu : Nat) (args : List AV) (s : St) : Out := match args with
  | [t0] =>
    outK (call 297 [t0] s) fun v14 s15 =>
    extractK v14 0 fun v16 =>
    extractK v14 1 fun v17 =>
    binK .neq v17 (.int .i64 (.ofNat 0)) fun v18 =>
    condK v18 (.ret (.tup [.nils, v17]) s15)
    (J236_5 call fu s15 v16)
  | _ => .err

abbrev orc236c (call : Call) (fu : Nat) (st : List IH) (id i : Nat) (s : St) (v : List AV) : Out := ch (Nat.beq id 4 && Nat.beq i 0) (J236_5 call fu s (nthL v 0)) (
    ch (Nat.beq id 7 && Nat.beq i 0) (J236_4 call fu (fun s x0 x1 x2 x3 => nthI st 0 s [x0, x1, x2, x3]) s (nthL v 0) (nthL v 1) (nthL v 2) (nthL v 3)) (
    ch (Nat.beq id 11 && Nat.beq i 0) (J236_3 call fu (fun s x0 x1 x2 x3 => nthI st 0 s [x0, x1, x2, x3]) s (nthL v 0) (nthL v 1) (nthL v 2) (nthL v 3) (nthL v 4)) (
    ch (Nat.beq id 12 && Nat.beq i 0) (J236_2 call fu (fun s x0 x1 x2 x3 => nthI st 0 s [x0, x1, x2, x3]) s (nthL v 0) (nthL v 1) (nthL v 2) (nthL v 3)) (
    ch (Nat.beq id 13 && Nat.beq i 0) (J236_0 call fu s (nthL v 0)) (
    .err)))))
abbrev orc236b (call : Call) (fu : Nat) (st : List IH) (id : Nat) (ih : IH) (s : St) (v : List AV) : Out := ch (Nat.beq id 6) (L236_1b call fu (fun s x0 x1 x2 x3 => ih s [x0, x1, x2, x3]) s (nthL v 0) (nthL v 1) (nthL v 2) (nthL v 3)) (
    .err)
abbrev orc236p (call : Call) (fu : Nat) (st : List IH) (id k : Nat) (s : St) (v : List AV) : Out := ch (Nat.beq id 6) (L236_1 call fu k s (nthL v 0) (nthL v 1) (nthL v 2) (nthL v 3)) (
    .err)
abbrev orc236m (call : Call) (fu : Nat) (id : Nat) (v : List AV) (s : St) : Out := .err
def lv236 (id i : Nat) : Option (List Tmp) := bif Nat.beq id 4 && Nat.beq i 0 then some [4] else
    bif Nat.beq id 7 && Nat.beq i 0 then some [21, 6, 19, 20] else
    bif Nat.beq id 11 && Nat.beq i 0 then some [21, 9, 6, 19, 20] else
    bif Nat.beq id 12 && Nat.beq i 0 then some [21, 6, 19, 20] else
    bif Nat.beq id 6 && Nat.beq i 0 then some [21, 6, 19, 20] else
    bif Nat.beq id 13 && Nat.beq i 0 then some [6] else
    none
/- 237 -/
def J237_0 (call : Call) (fu : Nat) (s : St) (t6 : AV) : Out :=
    .ret (.tup [t6, (.int .i64 (.ofNat 0))]) s

def J237_1 (call : Call) (fu : Nat) (s : St) (t6 t7 : AV) : Out :=
    lenSlK t6 fun v0 =>
    binK .neq (goInt v0) t7 fun v1 =>
    condK v1 (.ret (.tup [.nils, (.int .i64 (.ofNat 9))]) s)
    (J237_0 call fu s t6)

def J237_3 (call : Call) (fu : Nat) (ih2 : St → AV → AV → AV → AV → Out) (s : St) (t9 t6 t7 t0 : AV) : Out :=
    outK (call 122 [t9, (.int .i64 (.ofNat 0)), (.int .i64 (.ofNat 4))] s) fun v2 s3 =>
    ih2 s3 t6 t7 v2 t0

def J237_5 (call : Call) (fu : Nat) (ih2 : St → AV → AV → AV → AV → Out) (ih4 : St → AV → AV → AV → AV → AV → AV → Out) (s : St) (t47 t9 t6 t46 t7 t0 : AV) : Out :=
    binK .add t47 (.int .i64 (.ofNat 1)) fun v4 =>
    ih4 s v4 t9 t6 t46 t7 t0

def J237_6 (call : Call) (fu : Nat) (ih2 : St → AV → AV → AV → AV → Out) (ih4 : St → AV → AV → AV → AV → AV → AV → Out) (s : St) (t47 t9 t6 t46 t7 t0 : AV) : Out :=
    binK .mul t47 (.int .i64 (.ofNat 4)) fun v5 =>
    binK .add (.int .i64 (.ofNat 8)) v5 fun v6 =>
    outK (call 122 [t9, v6, (.int .i64 (.ofNat 4))] s) fun v7 s8 =>
    fillK (.cells [(.int .i64 (.ofNat 0))]) [(0, 1, v7)] fun v9 => newK s8 (.row 3 v9) fun i10 s11 =>
    appK 3 1 s11 t6 (.slice i10 0 1 1 1 false) fun v12 s13 =>
    J237_5 call fu ih2 ih4 s13 t47 t9 v12 t46 t7 t0

def L237_4b (call : Call) (fu : Nat) (ih2 : St → AV → AV → AV → AV → Out) (ih4 : St → AV → AV → AV → AV → AV → AV → Out) (s : St) (t47 t9 t6 t46 t7 t0 : AV) : Out :=
    binK .lss t47 t46 fun v14 =>
    condK v14 (J237_6 call fu ih2 ih4 s t47 t9 t6 t46 t7 t0)
    (J237_3 call fu ih2 s t9 t6 t7 t0)

def L237_4 (call : Call) (fu : Nat) (ih2 : St → AV → AV → AV → AV → Out) (n : Nat) : St → AV → AV → AV → AV → AV → AV → Out :=
  Nat.rec (motive := fun _ => St → AV → AV → AV → AV → AV → AV → Out) (fun _ _ _ _ _ _ _ => .err) (fun _ ih => L237_4b call fu ih2 ih) n

def J237_7 (call : Call) (fu : Nat) (ih2 : St → AV → AV → AV → AV → Out) (s : St) (t9 t8 t6 t7 t0 : AV) : Out :=
    fillK (.cells [(.int .i64 (.ofNat 0))]) [(0, 1, t8)] fun v15 => newK s (.row 3 v15) fun i16 s17 =>
    appK 3 1 s17 t6 (.slice i16 0 1 1 1 false) fun v18 s19 =>
    outK (call 122 [t9, (.int .i64 (.ofNat 4)), (.int .i64 (.ofNat 4))] s19) fun v20 s21 =>
    L237_4 call fu ih2 fu s21 (.int .i64 (.ofNat 0)) t9 v18 v20 t7 t0

def J237_8 (call : Call) (fu : Nat) (ih2 : St → AV → AV → AV → AV → Out) (s : St) (t6 t7 t8 t0 : AV) : Out :=
    outK (call 197 [t0, t8] s) fun v22 s23 =>
    extractK v22 0 fun v24 =>
    extractK v22 1 fun v25 =>
    binK .neq v25 (.int .i64 (.ofNat 0)) fun v26 =>
    condK v26 (.ret (.tup [.nils, v25]) s23)
    (lenSlK t6 fun v27 =>
    binK .geq (goInt v27) t7 fun v28 =>
    condK v28 (J237_1 call fu s23 t6 t7)
    (J237_7 call fu ih2 s23 v24 t8 t6 t7 t0))

def L237_2b (call : Call) (fu : Nat) (ih2 : St → AV → AV → AV → AV → Out) (s : St) (t6 t7 t8 t0 : AV) : Out :=
    binK .gtr t8 (.int .i64 (.ofNat 0)) fun v29 =>
    condK v29 (J237_8 call fu ih2 s t6 t7 t8 t0)
    (J237_1 call fu s t6 t7)

def L237_2 (call : Call) (fu : Nat) (n : Nat) : St → AV → AV → AV → AV → Out :=
  Nat.rec (motive := fun _ => St → AV → AV → AV → AV → Out) (fun _ _ _ _ _ => .err) (fun _ ih => L237_2b call fu ih) n

def J237_9 (call : Call) (fu : Nat) (s : St) (t0 t4 : AV) : Out :=
    outK (call 122 [t4, (.int .i64 (.ofNat 12)), (.int .i64 (.ofNat 4))] s) fun v30 s31 =>
    outK (call 122 [t4, (.int .i64 (.ofNat 8)), (.int .i64 (.ofNat 4))] s31) fun v32 s33 =>
    L237_2 call fu fu s33 .nils v30 v32 t0

def F237 (call : Call) (fu : Nat) (args : List AV) (s : St) : Out := match args with
  | [t0] =>
    outK (call 121 [t0] s) fun v34 s35 =>
    extractK v34 0 fun v36 =>
    extractK v34 1 fun v37 =>
    binK .neq v37 (.int .i64 (.ofNat 0)) fun v38 =>
    condK v38 (.ret (.tup [.nils, v37]) s35)
    (J237_9 call fu s35 t0 v36)
  | _ => .err

abbrev orc237c (call : Call) (fu : Nat) (st : List IH) (id i : Nat) (s : St) (v : List AV) : Out := ch (Nat.beq id 4 && Nat.beq i 0) (J237_9 call fu s (nthL v 0) (nthL v 1)) (
    ch (Nat.beq id 8 && Nat.beq i 0) (J237_8 call fu (fun s x0 x1 x2 x3 => nthI st 0 s [x0, x1, x2, x3]) s (nthL v 0) (nthL v 1) (nthL v 2) (nthL v 3)) (
    ch (Nat.beq id 12 && Nat.beq i 0) (J237_7 call fu (fun s x0 x1 x2 x3 => nthI st 0 s [x0, x1, x2, x3]) s (nthL v 0) (nthL v 1) (nthL v 2) (nthL v 3) (nthL v 4)) (
    ch (Nat.beq id 15 && Nat.beq i 0) (J237_6 call fu (fun s x0 x1 x2 x3 => nthI st 1 s [x0, x1, x2, x3]) (fun s x0 x1 x2 x3 x4 x5 => nthI st 0 s [x0, x1, x2, x3, x4, x5]) s (nthL v 0) (nthL v 1) (nthL v 2) (nthL v 3) (nthL v 4) (nthL v 5)) (
    ch (Nat.beq id 17 && Nat.beq i 0) (J237_5 call fu (fun s x0 x1 x2 x3 => nthI st 1 s [x0, x1, x2, x3]) (fun s x0 x1 x2 x3 x4 x5 => nthI st 0 s [x0, x1, x2, x3, x4, x5]) s (nthL v 0) (nthL v 1) (nthL v 2) (nthL v 3) (nthL v 4) (nthL v 5)) (
    ch (Nat.beq id 18 && Nat.beq i 0) (J237_3 call fu (fun s x0 x1 x2 x3 => nthI st 0 s [x0, x1, x2, x3]) s (nthL v 0) (nthL v 1) (nthL v 2) (nthL v 3)) (
    ch (Nat.beq id 19 && Nat.beq i 0) (J237_1 call fu s (nthL v 0) (nthL v 1)) (
    ch (Nat.beq id 21 && Nat.beq i 0) (J237_0 call fu s (nthL v 0)) (
    .err))))))))
abbrev orc237b (call : Call) (fu : Nat) (st : List IH) (id : Nat) (ih : IH) (s : St) (v : List AV) : Out := ch (Nat.beq id 14) (L237_4b call fu (fun s x0 x1 x2 x3 => nthI st 0 s [x0, x1, x2, x3]) (fun s x0 x1 x2 x3 x4 x5 => ih s [x0, x1, x2, x3, x4, x5]) s (nthL v 0) (nthL v 1) (nthL v 2) (nthL v 3) (nthL v 4) (nthL v 5)) (
    ch (Nat.beq id 7) (L237_2b call fu (fun s x0 x1 x2 x3 => ih s [x0, x1, x2, x3]) s (nthL v 0) (nthL v 1) (nthL v 2) (nthL v 3)) (
    .err))
abbrev orc237p (call : Call) (fu : Nat) (st : List IH) (id k : Nat) (s : St) (v : List AV) : Out := ch (Nat.beq id 14) (L237_4 call fu (fun s x0 x1 x2 x3 => nthI st 0 s [x0, x1, x2, x3]) k s (nthL v 0) (nthL v 1) (nthL v 2) (nthL v 3) (nthL v 4) (nthL v 5)) (
    ch (Nat.beq id 7) (L237_2 call fu k s (nthL v 0) (nthL v 1) (nthL v 2) (nthL v 3)) (
    .err))
abbrev orc237m (call : Call) (fu : Nat) (id : Nat) (v : List AV) (s : St) : Out := .err
def lv237 (id i : Nat) : Option (List Tmp) := bif Nat.beq id 4 && Nat.beq i 0 then some [0, 4] else
    bif Nat.beq id 8 && Nat.beq i 0 then some [6, 7, 8, 0] else
    bif Nat.beq id 12 && Nat.beq i 0 then some [9, 8, 6, 7, 0] else
    bif Nat.beq id 15 && Nat.beq i 0 then some [47, 9, 6, 46, 7, 0] else
    bif Nat.beq id 17 && Nat.beq i 0 then some [47, 9, 6, 46, 7, 0] else
    bif Nat.beq id 14 && Nat.beq i 0 then some [47, 9, 6, 46, 7, 0] else
    bif Nat.beq id 18 && Nat.beq i 0 then some [9, 6, 7, 0] else
    bif Nat.beq id 7 && Nat.beq i 0 then some [6, 7, 8, 0] else
    bif Nat.beq id 19 && Nat.beq i 0 then some [6, 7] else
    bif Nat.beq id 21 && Nat.beq i 0 then some [6] else
    none
/- 238 -/
def J238_1 (call : Call) (fu : Nat) (ih0 : St → AV → AV → AV → AV → AV → Out) (s : St) (t9 t0 t2 t7 t8 : AV) : Out :=
    binK .add t9 (.int .i64 (.ofNat 1)) fun v0 =>
    ih0 s v0 t0 t2 t7 t8

def J238_2 (call : Call) (fu : Nat) (ih0 : St → AV → AV → AV → AV → AV → Out) (s : St) (t9 t0 t6 t2 t17 t7 t8 : AV) : Out :=
    condK t17 (J238_1 call fu ih0 s t9 t0 t2 t7 t8)
    (loadK ⟨1, false⟩ s t2 fun v1 =>
    binK .sub t6 (.int .i64 (.ofNat 1)) fun v2 =>
    indexSlK 1 v1 v2 fun v3 =>
    loadK ⟨1, false⟩ s v3 fun v4 =>
    binK .eql v4 (.int .i64 (.ofNat 0)) fun v5 =>
    condK v5 (loadK ⟨1, false⟩ s t2 fun v6 =>
    binK .sub t6 (.int .i64 (.ofNat 1)) fun v7 =>
    indexSlK 1 v6 v7 fun v8 =>
    storeK ⟨1, false⟩ s v8 t0 fun s9 =>
    J238_1 call fu ih0 s9 t9 t0 t2 t7 t8)
    (loadK ⟨1, false⟩ s t2 fun v10 =>
    binK .sub t6 (.int .i64 (.ofNat 1)) fun v11 =>
    indexSlK 1 v10 v11 fun v12 =>
    storeK ⟨1, false⟩ s v12 (.int .i64 (.ofNat 4)) fun s13 =>
    J238_1 call fu ih0 s13 t9 t0 t2 t7 t8))

def J238_3 (call : Call) (fu : Nat) (ih0 : St → AV → AV → AV → AV → AV → Out) (s : St) (t9 t0 t6 t2 t20 t24 t7 t8 : AV) : Out :=
    pickK t20 (.bool true) t24 fun v14 =>
    J238_2 call fu ih0 s t9 t0 t6 t2 v14 t7 t8

def J238_4 (call : Call) (fu : Nat) (ih0 : St → AV → AV → AV → AV → AV → Out) (s : St) (t9 t0 t2 t7 t8 : AV) : Out :=
    indexSlK 1 t7 t9 fun v15 =>
    loadK ⟨1, false⟩ s v15 fun v16 =>
    binK .lss v16 (.int .i64 (.ofNat 1)) fun v17 =>
    guardK false v17 (J238_3 call fu ih0 s t9 t0 v16 t2 v17 (.tup []) t7 t8) <|
    loadK ⟨1, false⟩ s t2 fun v18 =>
    lenSlK v18 fun v19 =>
    binK .gtr v16 (goInt v19) fun v20 =>
    J238_3 call fu ih0 s t9 t0 v16 t2 v17 v20 t7 t8

def L238_0b (call : Call) (fu : Nat) (ih0 : St → AV → AV → AV → AV → AV → Out) (s : St) (t9 t0 t2 t7 t8 : AV) : Out :=
    binK .lss t9 t8 fun v21 =>
    condK v21 (J238_4 call fu ih0 s t9 t0 t2 t7 t8)
    (.ret (.tup []) s)

def L238_0 (call : Call) (fu : Nat) (n : Nat) : St → AV → AV → AV → AV → AV → Out :=
  Nat.rec (motive := fun _ => St → AV → AV → AV → AV → AV → Out) (fun _ _ _ _ _ _ => .err) (fun _ ih => L238_0b call fu ih) n

def F238 (call : Call) (fu : Nat) (args : List AV) (s : St) : Out := match args with
  | [t0, t1, t2] =>
    lenSlK t1 fun v22 =>
    L238_0 call fu fu s (.int .i64 (.ofNat 0)) t0 t2 t1 (goInt v22)
  | _ => .err

abbrev orc238c (call : Call) (fu : Nat) (st : List IH) (id i : Nat) (s : St) (v : List AV) : Out := ch (Nat.beq id 2 && Nat.beq i 0) (J238_4 call fu (fun s x0 x1 x2 x3 x4 => nthI st 0 s [x0, x1, x2, x3, x4]) s (nthL v 0) (nthL v 1) (nthL v 2) (nthL v 3) (nthL v 4)) (
    ch (Nat.beq id 4 && Nat.beq i 7) (J238_3 call fu (fun s x0 x1 x2 x3 x4 => nthI st 0 s [x0, x1, x2, x3, x4]) s (nthL v 0) (nthL v 1) (nthL v 2) (nthL v 3) (nthL v 4) (nthL v 5) (nthL v 6) (nthL v 7)) (
    ch (Nat.beq id 5 && Nat.beq i 0) (J238_2 call fu (fun s x0 x1 x2 x3 x4 => nthI st 0 s [x0, x1, x2, x3, x4]) s (nthL v 0) (nthL v 1) (nthL v 2) (nthL v 3) (nthL v 4) (nthL v 5) (nthL v 6)) (
    ch (Nat.beq id 7 && Nat.beq i 0) (J238_1 call fu (fun s x0 x1 x2 x3 x4 => nthI st 0 s [x0, x1, x2, x3, x4]) s (nthL v 0) (nthL v 1) (nthL v 2) (nthL v 3) (nthL v 4)) (
    .err))))
abbrev orc238b (call : Call) (fu : Nat) (st : List IH) (id : Nat) (ih : IH) (s : St) (v : List AV) : Out := ch (Nat.beq id 1) (L238_0b call fu (fun s x0 x1 x2 x3 x4 => ih s [x0, x1, x2, x3, x4]) s (nthL v 0) (nthL v 1) (nthL v 2) (nthL v 3) (nthL v 4)) (
    .err)
abbrev orc238p (call : Call) (fu : Nat) (st : List IH) (id k : Nat) (s : St) (v : List AV) : Out := ch (Nat.beq id 1) (L238_0 call fu k s (nthL v 0) (nthL v 1) (nthL v 2) (nthL v 3) (nthL v 4)) (
    .err)
abbrev orc238m (call : Call) (fu : Nat) (id : Nat) (v : List AV) (s : St) : Out := .err
def lv238 (id i : Nat) : Option (List Tmp) := bif Nat.beq id 2 && Nat.beq i 0 then some [9, 0, 2, 7, 8] else
    bif Nat.beq id 4 && Nat.beq i 7 then some [9, 0, 6, 2, 20, 24, 7, 8] else
    bif Nat.beq id 5 && Nat.beq i 0 then some [9, 0, 6, 2, 17, 7, 8] else
    bif Nat.beq id 7 && Nat.beq i 0 then some [9, 0, 2, 7, 8] else
    bif Nat.beq id 1 && Nat.beq i 0 then some [9, 0, 2, 7, 8] else
    none
/- 241 -/
def J241_1 (call : Call) (fu : Nat) (ih0 : St → AV → AV → AV → AV → Out) (s : St) (t6 t0 t1 t2 : AV) : Out :=
    binK .add t6 (.int .i64 (.ofNat 1)) fun v0 =>
    ih0 s t0 v0 t1 t2

def J241_3 (call : Call) (fu : Nat) (ih0 : St → AV → AV → AV → AV → Out) (ih2 : St → AV → AV → AV → AV → AV → Out) (s : St) (t7 t0 t6 t1 t2 : AV) : Out :=
    binK .sub t7 (.int .i64 (.ofNat 1)) fun v1 =>
    ih2 s v1 t0 t6 t1 t2

def J241_4 (call : Call) (fu : Nat) (ih0 : St → AV → AV → AV → AV → Out) (ih2 : St → AV → AV → AV → AV → AV → Out) (s : St) (t7 t0 t6 t1 t2 : AV) : Out :=
    binK .sub t7 (.int .i64 (.ofNat 1)) fun v2 =>
    binK .sub t7 (.int .i64 (.ofNat 1)) fun v3 =>
    indexSlK 1 t0 v3 fun v4 =>
    loadK ⟨1, false⟩ s v4 fun v5 =>
    indexSlK 1 t0 t7 fun v6 =>
    loadK ⟨1, false⟩ s v6 fun v7 =>
    indexSlK 1 t0 t7 fun v8 =>
    storeK ⟨1, false⟩ s v8 v5 fun s9 =>
    indexSlK 1 t0 v2 fun v10 =>
    storeK ⟨1, false⟩ s9 v10 v7 fun s11 =>
    J241_3 call fu ih0 ih2 s11 t7 t0 t6 t1 t2

def J241_5 (call : Call) (fu : Nat) (ih0 : St → AV → AV → AV → AV → Out) (ih2 : St → AV → AV → AV → AV → AV → Out) (s : St) (t7 t0 t6 t19 t29 t1 t2 : AV) : Out :=
    pickK t19 t29 (.bool false) fun v12 =>
    condK v12 (J241_4 call fu ih0 ih2 s t7 t0 t6 t1 t2)
    (J241_1 call fu ih0 s t6 t0 t1 t2)

def L241_2b (call : Call) (fu : Nat) (ih0 : St → AV → AV → AV → AV → Out) (ih2 : St → AV → AV → AV → AV → AV → Out) (s : St) (t7 t0 t6 t1 t2 : AV) : Out :=
    binK .gtr t7 t1 fun v13 =>
    guardK true v13 (J241_5 call fu ih0 ih2 s t7 t0 t6 v13 (.tup []) t1 t2) <|
    indexSlK 1 t0 t7 fun v14 =>
    loadK ⟨1, false⟩ s v14 fun v15 =>
    binK .sub t7 (.int .i64 (.ofNat 1)) fun v16 =>
    indexSlK 1 t0 v16 fun v17 =>
    loadK ⟨1, false⟩ s v17 fun v18 =>
    outK (call 247 [v15, v18] s) fun v19 s20 =>
    J241_5 call fu ih0 ih2 s20 t7 t0 t6 v13 v19 t1 t2

def L241_2 (call : Call) (fu : Nat) (ih0 : St → AV → AV → AV → AV → Out) (n : Nat) : St → AV → AV → AV → AV → AV → Out :=
  Nat.rec (motive := fun _ => St → AV → AV → AV → AV → AV → Out) (fun _ _ _ _ _ _ => .err) (fun _ ih => L241_2b call fu ih0 ih) n

def J241_6 (call : Call) (fu : Nat) (ih0 : St → AV → AV → AV → AV → Out) (s : St) (t0 t6 t1 t2 : AV) : Out :=
    L241_2 call fu ih0 fu s t6 t0 t6 t1 t2

def L241_0b (call : Call) (fu : Nat) (ih0 : St → AV → AV → AV → AV → Out) (s : St) (t0 t6 t1 t2 : AV) : Out :=
    binK .lss t6 t2 fun v21 =>
    condK v21 (J241_6 call fu ih0 s t0 t6 t1 t2)
    (.ret (.tup []) s)

def L241_0 (call : Call) (fu : Nat) (n : Nat) : St → AV → AV → AV → AV → Out :=
  Nat.rec (motive := fun _ => St → AV → AV → AV → AV → Out) (fun _ _ _ _ _ => .err) (fun _ ih => L241_0b call fu ih) n

def F241 (call : Call) (fu : Nat) (args : List AV) (s : St) : Out := match args with
  | [t0, t1, t2] =>
    binK .add t1 (.int .i64 (.ofNat 1)) fun v22 =>
    L241_0 call fu fu s t0 v22 t1 t2
  | _ => .err

abbrev orc241c (call : Call) (fu : Nat) (st : List IH) (id i : Nat) (s : St) (v : List AV) : Out := ch (Nat.beq id 3 && Nat.beq i 0) (J241_6 call fu (fun s x0 x1 x2 x3 => nthI st 0 s [x0, x1, x2, x3]) s (nthL v 0) (nthL v 1) (nthL v 2) (nthL v 3)) (
    ch (Nat.beq id 4 && Nat.beq i 1014) (J241_5 call fu (fun s x0 x1 x2 x3 => nthI st 1 s [x0, x1, x2, x3]) (fun s x0 x1 x2 x3 x4 => nthI st 0 s [x0, x1, x2, x3, x4]) s (nthL v 0) (nthL v 1) (nthL v 2) (nthL v 3) (nthL v 4) (nthL v 5) (nthL v 6)) (
    ch (Nat.beq id 6 && Nat.beq i 0) (J241_4 call fu (fun s x0 x1 x2 x3 => nthI st 1 s [x0, x1, x2, x3]) (fun s x0 x1 x2 x3 x4 => nthI st 0 s [x0, x1, x2, x3, x4]) s (nthL v 0) (nthL v 1) (nthL v 2) (nthL v 3) (nthL v 4)) (
    ch (Nat.beq id 5 && Nat.beq i 0) (J241_3 call fu (fun s x0 x1 x2 x3 => nthI st 1 s [x0, x1, x2, x3]) (fun s x0 x1 x2 x3 x4 => nthI st 0 s [x0, x1, x2, x3, x4]) s (nthL v 0) (nthL v 1) (nthL v 2) (nthL v 3) (nthL v 4)) (
    ch (Nat.beq id 2 && Nat.beq i 0) (J241_1 call fu (fun s x0 x1 x2 x3 => nthI st 0 s [x0, x1, x2, x3]) s (nthL v 0) (nthL v 1) (nthL v 2) (nthL v 3)) (
    .err)))))
abbrev orc241b (call : Call) (fu : Nat) (st : List IH) (id : Nat) (ih : IH) (s : St) (v : List AV) : Out := ch (Nat.beq id 4) (L241_2b call fu (fun s x0 x1 x2 x3 => nthI st 0 s [x0, x1, x2, x3]) (fun s x0 x1 x2 x3 x4 => ih s [x0, x1, x2, x3, x4]) s (nthL v 0) (nthL v 1) (nthL v 2) (nthL v 3) (nthL v 4)) (
    ch (Nat.beq id 1) (L241_0b call fu (fun s x0 x1 x2 x3 => ih s [x0, x1, x2, x3]) s (nthL v 0) (nthL v 1) (nthL v 2) (nthL v 3)) (
    .err))
abbrev orc241p (call : Call) (fu : Nat) (st : List IH) (id k : Nat) (s : St) (v : List AV) : Out := ch (Nat.beq id 4) (L241_2 call fu (fun s x0 x1 x2 x3 => nthI st 0 s [x0, x1, x2, x3]) k s (nthL v 0) (nthL v 1) (nthL v 2) (nthL v 3) (nthL v 4)) (
    ch (Nat.beq id 1) (L241_0 call fu k s (nthL v 0) (nthL v 1) (nthL v 2) (nthL v 3)) (
    .err))
abbrev orc241m (call : Call) (fu : Nat) (id : Nat) (v : List AV) (s : St) : Out := .err
def lv241 (id i : Nat) : Option (List Tmp) := bif Nat.beq id 3 && Nat.beq i 0 then some [0, 6, 1, 2] else
    bif Nat.beq id 4 && Nat.beq i 1014 then some [7, 0, 6, 19, 29, 1, 2] else
    bif Nat.beq id 6 && Nat.beq i 0 then some [7, 0, 6, 1, 2] else
    bif Nat.beq id 5 && Nat.beq i 0 then some [7, 0, 6, 1, 2] else
    bif Nat.beq id 4 && Nat.beq i 0 then some [7, 0, 6, 1, 2] else
    bif Nat.beq id 2 && Nat.beq i 0 then some [6, 0, 1, 2] else
    bif Nat.beq id 1 && Nat.beq i 0 then some [0, 6, 1, 2] else
    none
/- 247 -/
def J247_0 (call : Call) (fu : Nat) (s : St) (t12 t15 : AV) : Out :=
    pickK t12 (.bool true) t15 fun v0 =>
    .ret v0 s

def J247_1 (call : Call) (fu : Nat) (s : St) (t1 t0 t7 t10 : AV) : Out :=
    pickK t7 t10 (.bool false) fun v1 =>
    guardK false v1 (J247_0 call fu s v1 (.tup [])) <|
    binK .lss t0 t1 fun v2 =>
    J247_0 call fu s v1 v2

def F247 (call : Call) (fu : Nat) (args : List AV) (s : St) : Out := match args with
  | [t0, t1] =>
    outK (call 305 [t0] s) fun v3 s4 =>
    guardK true v3 (J247_1 call fu s4 t1 t0 v3 (.tup [])) <|
    outK (call 305 [t1] s4) fun v5 s6 =>
    notK v5 fun v7 =>
    J247_1 call fu s6 t1 t0 v3 v7
  | _ => .err

abbrev orc247c (call : Call) (fu : Nat) (st : List IH) (id i : Nat) (s : St) (v : List AV) : Out := ch (Nat.beq id 1 && Nat.beq i 6) (J247_1 call fu s (nthL v 0) (nthL v 1) (nthL v 2) (nthL v 3)) (
    ch (Nat.beq id 1 && Nat.beq i 11) (J247_0 call fu s (nthL v 0) (nthL v 1)) (
    .err))
abbrev orc247b (call : Call) (fu : Nat) (st : List IH) (id : Nat) (ih : IH) (s : St) (v : List AV) : Out := .err
abbrev orc247p (call : Call) (fu : Nat) (st : List IH) (id k : Nat) (s : St) (v : List AV) : Out := .err
abbrev orc247m (call : Call) (fu : Nat) (id : Nat) (v : List AV) (s : St) : Out := .err
def lv247 (id i : Nat) : Option (List Tmp) := bif Nat.beq id 1 && Nat.beq i 6 then some [1, 0, 7, 10] else
    bif Nat.beq id 1 && Nat.beq i 11 then some [12, 15] else
    none
/- 251 -/
def J251_0 (call : Call) (fu : Nat) (s : St) (t0 t2 : AV) : Out :=
    convK .u8 t0 fun v0 =>
    indexStrK (.str 256 1013866857139168856493015739252390649739422828853819106890363778118420553376247557433637691341895324351018602695588957474325319502760499485336098898398377509666851054660423406800006203933793007272033180812049178612605246075062580585469430410618860250057463399279570354286669047577758927328864388992123306212451509403152394148136105363817402562688186708175358218852349079190158732807302672745370040257219644697201681238697346923541678507645485296520536209706771857694240900605172937619415410180424934769249448772944216470541052485265558808433676546390051204254346932932316488017972311616136051587427851453983453479168) v0 fun v1 =>
    convK .i64 v1 fun v2 =>
    binK .add t2 v2 fun v3 =>
    .ret v3 s

def J251_1 (call : Call) (fu : Nat) (s : St) (t2 t0 : AV) : Out :=
    binK .geq t0 (.int .u64 (.ofNat 256)) fun v4 =>
    condK v4 (binK .shr t0 (.int .u64 (.ofNat 8)) fun v5 =>
    binK .add t2 (.int .i64 (.ofNat 8)) fun v6 =>
    J251_0 call fu s v5 v6)
    (J251_0 call fu s t0 t2)

def J251_2 (call : Call) (fu : Nat) (s : St) (t2 t0 : AV) : Out :=
    binK .geq t0 (.int .u64 (.ofNat 65536)) fun v7 =>
    condK v7 (binK .shr t0 (.int .u64 (.ofNat 16)) fun v8 =>
    binK .add t2 (.int .i64 (.ofNat 16)) fun v9 =>
    J251_1 call fu s v9 v8)
    (J251_1 call fu s t2 t0)

def F251 (call : Call) (fu : Nat) (args : List AV) (s : St) : Out := match args with
  | [t0] =>
    binK .geq t0 (.int .u64 (.ofNat 4294967296)) fun v10 =>
    condK v10 (binK .shr t0 (.int .u64 (.ofNat 32)) fun v11 =>
    J251_2 call fu s (.int .i64 (.ofNat 32)) v11)
    (J251_2 call fu s (.int .i64 (.ofNat 0)) t0)
  | _ => .err

abbrev orc251c (call : Call) (fu : Nat) (st : List IH) (id i : Nat) (s : St) (v : List AV) : Out := ch (Nat.beq id 4 && Nat.beq i 0) (J251_2 call fu s (nthL v 0) (nthL v 1)) (
    ch (Nat.beq id 7 && Nat.beq i 0) (J251_1 call fu s (nthL v 0) (nthL v 1)) (
    ch (Nat.beq id 10 && Nat.beq i 0) (J251_0 call fu s (nthL v 0) (nthL v 1)) (
    .err)))
abbrev orc251b (call : Call) (fu : Nat) (st : List IH) (id : Nat) (ih : IH) (s : St) (v : List AV) : Out := .err
abbrev orc251p (call : Call) (fu : Nat) (st : List IH) (id k : Nat) (s : St) (v : List AV) : Out := .err
abbrev orc251m (call : Call) (fu : Nat) (id : Nat) (v : List AV) (s : St) : Out := .err
def lv251 (id i : Nat) : Option (List Tmp) := bif Nat.beq id 4 && Nat.beq i 0 then some [2, 0] else
    bif Nat.beq id 7 && Nat.beq i 0 then some [2, 0] else
    bif Nat.beq id 10 && Nat.beq i 0 then some [0, 2] else
    none
/- 259 -/
def J259_0 (call : Call) (fu : Nat) (s : St) (t2 t1 t0 : AV) : Out :=
    outK (call 320 [t0, t1, t2] s) fun v0 s1 =>
    extractK v0 0 fun v2 =>
    extractK v0 1 fun v3 =>
    .ret (.tup [v2, v3]) s1

def J259_1 (call : Call) (fu : Nat) (s : St) (t0 t2 t1 : AV) : Out :=
    nilK t0 fun v4 =>
    fieldK 0 v4 fun v5 =>
    loadK ⟨1, false⟩ s v5 fun v6 =>
    outK (call 135 [v6, t2] s) fun v7 s8 =>
    extractK v7 0 fun v9 =>
    extractK v7 1 fun v10 =>
    extractK v7 2 fun v11 =>
    binK .neq v11 (.int .i64 (.ofNat 0)) fun v12 =>
    condK v12 (nilK t0 fun v13 =>
    fieldK 1 v13 fun v14 =>
    storeK ⟨1, false⟩ s8 v14 (.int .i64 (.ofNat 0)) fun s15 =>
    nilK t0 fun v16 =>
    fieldK 2 v16 fun v17 =>
    storeK ⟨1, false⟩ s15 v17 (.bool false) fun s18 =>
    .ret (.tup [(.bool false), v11]) s18)
    (condK v10 (nilK t0 fun v19 =>
    fieldK 1 v19 fun v20 =>
    storeK ⟨1, false⟩ s8 v20 t2 fun s21 =>
    nilK t0 fun v22 =>
    fieldK 2 v22 fun v23 =>
    storeK ⟨1, false⟩ s21 v23 (.bool true) fun s24 =>
    .ret (.tup [(.bool true), (.int .i64 (.ofNat 0))]) s24)
    (J259_0 call fu s8 t2 t1 t0))

def F259 (call : Call) (fu : Nat) (args : List AV) (s : St) : Out := match args with
  | [t0, t1, t2] =>
    outK (call 262 [t0] s) fun v25 s26 =>
    notK v25 fun v27 =>
    condK v27 (.ret (.tup [(.bool false), (.int .i64 (.ofNat 1))]) s26)
    (J259_1 call fu s26 t0 t2 t1)
  | _ => .err

abbrev orc259c (call : Call) (fu : Nat) (st : List IH) (id i : Nat) (s : St) (v : List AV) : Out := ch (Nat.beq id 3 && Nat.beq i 0) (J259_1 call fu s (nthL v 0) (nthL v 1) (nthL v 2)) (
    ch (Nat.beq id 10 && Nat.beq i 0) (J259_0 call fu s (nthL v 0) (nthL v 1) (nthL v 2)) (
    .err))
abbrev orc259b (call : Call) (fu : Nat) (st : List IH) (id : Nat) (ih : IH) (s : St) (v : List AV) : Out := .err
abbrev orc259p (call : Call) (fu : Nat) (st : List IH) (id k : Nat) (s : St) (v : List AV) : Out := .err
abbrev orc259m (call : Call) (fu : Nat) (id : Nat) (v : List AV) (s : St) : Out := .err
def lv259 (id i : Nat) : Option (List Tmp) := bif Nat.beq id 3 && Nat.beq i 0 then some [0, 2, 1] else
    bif Nat.beq id 10 && Nat.beq i 0 then some [2, 1, 0] else
    none
/- 260 -/
def J260_0 (call : Call) (fu : Nat) (s : St) (t1 t0 : AV) : Out :=
    nilK t0 fun v0 =>
    fieldK 1 v0 fun v1 =>
    loadK ⟨1, false⟩ s v1 fun v2 =>
    outK (call 321 [t0, v2, t1, (.int .i64 (.ofNat 1)), (.bool true)] s) fun v3 s4 =>
    extractK v3 0 fun v5 =>
    extractK v3 1 fun v6 =>
    extractK v3 2 fun v7 =>
    .ret (.tup [v5, v6, v7]) s4

def F260 (call : Call) (fu : Nat) (args : List AV) (s : St) : Out := match args with
  | [t0, t1] =>
    outK (call 112 [t0] s) fun v8 s9 =>
    notK v8 fun v10 =>
    condK v10 (.ret (.tup [(.int .i64 (.ofNat 0)), (.bool false), (.int .i64 (.ofNat 1))]) s9)
    (J260_0 call fu s9 t1 t0)
  | _ => .err

abbrev orc260c (call : Call) (fu : Nat) (st : List IH) (id i : Nat) (s : St) (v : List AV) : Out := ch (Nat.beq id 3 && Nat.beq i 0) (J260_0 call fu s (nthL v 0) (nthL v 1)) (
    .err)
abbrev orc260b (call : Call) (fu : Nat) (st : List IH) (id : Nat) (ih : IH) (s : St) (v : List AV) : Out := .err
abbrev orc260p (call : Call) (fu : Nat) (st : List IH) (id k : Nat) (s : St) (v : List AV) : Out := .err
abbrev orc260m (call : Call) (fu : Nat) (id : Nat) (v : List AV) (s : St) : Out := .err
def lv260 (id i : Nat) : Option (List Tmp) := bif Nat.beq id 3 && Nat.beq i 0 then some [1, 0] else
    none
/- 261 -/
def J261_0 (call : Call) (fu : Nat) (s : St) (t0 t1 : AV) : Out :=
    nilK t0 fun v0 =>
    fieldK 1 v0 fun v1 =>
    loadK ⟨1, false⟩ s v1 fun v2 =>
    outK (call 320 [t0, t1, v2] s) fun v3 s4 =>
    extractK v3 0 fun v5 =>
    extractK v3 1 fun v6 =>
    .ret (.tup [v5, v6]) s4

def J261_1 (call : Call) (fu : Nat) (s : St) (t0 t1 : AV) : Out :=
    outK (call 262 [t0] s) fun v7 s8 =>
    notK v7 fun v9 =>
    condK v9 (.ret (.tup [(.bool false), (.int .i64 (.ofNat 1))]) s8)
    (J261_0 call fu s8 t0 t1)

def J261_2 (call : Call) (fu : Nat) (s : St) (t0 t1 t14 : AV) : Out :=
    condK t14 (.ret (.tup [(.bool false), (.int .i64 (.ofNat 0))]) s)
    (J261_1 call fu s t0 t1)

def J261_3 (call : Call) (fu : Nat) (s : St) (t0 t1 t8 t13 : AV) : Out :=
    pickK t8 t13 (.bool false) fun v10 =>
    J261_2 call fu s t0 t1 v10

def F261 (call : Call) (fu : Nat) (args : List AV) (s : St) : Out := match args with
  | [t0, t1] =>
    outK (call 262 [t0] s) fun v11 s12 =>
    guardK true v11 (J261_3 call fu s12 t0 t1 v11 (.tup [])) <|
    nilK t0 fun v13 =>
    fieldK 2 v13 fun v14 =>
    loadK ⟨1, false⟩ s12 v14 fun v15 =>
    notK v15 fun v16 =>
    J261_3 call fu s12 t0 t1 v11 v16
  | _ => .err

abbrev orc261c (call : Call) (fu : Nat) (st : List IH) (id i : Nat) (s : St) (v : List AV) : Out := ch (Nat.beq id 1 && Nat.beq i 8) (J261_3 call fu s (nthL v 0) (nthL v 1) (nthL v 2) (nthL v 3)) (
    ch (Nat.beq id 2 && Nat.beq i 0) (J261_2 call fu s (nthL v 0) (nthL v 1) (nthL v 2)) (
    ch (Nat.beq id 3 && Nat.beq i 0) (J261_1 call fu s (nthL v 0) (nthL v 1)) (
    ch (Nat.beq id 5 && Nat.beq i 0) (J261_0 call fu s (nthL v 0) (nthL v 1)) (
    .err))))
abbrev orc261b (call : Call) (fu : Nat) (st : List IH) (id : Nat) (ih : IH) (s : St) (v : List AV) : Out := .err
abbrev orc261p (call : Call) (fu : Nat) (st : List IH) (id k : Nat) (s : St) (v : List AV) : Out := .err
abbrev orc261m (call : Call) (fu : Nat) (id : Nat) (v : List AV) (s : St) : Out := .err
def lv261 (id i : Nat) : Option (List Tmp) := bif Nat.beq id 1 && Nat.beq i 8 then some [0, 1, 8, 13] else
    bif Nat.beq id 2 && Nat.beq i 0 then some [0, 1, 14] else
    bif Nat.beq id 3 && Nat.beq i 0 then some [0, 1] else
    bif Nat.beq id 5 && Nat.beq i 0 then some [0, 1] else
    none
/- 262 -/
def J262_0 (call : Call) (fu : Nat) (s : St) (t5 t10 : AV) : Out :=
    pickK t5 t10 (.bool false) fun v0 =>
    .ret v0 s

def F262 (call : Call) (fu : Nat) (args : List AV) (s : St) : Out := match args with
  | [t0] =>
    eqK .ptr s true t0 .nilv fun v1 =>
    guardK true v1 (J262_0 call fu s v1 (.tup [])) <|
    nilK t0 fun v2 =>
    fieldK 0 v2 fun v3 =>
    loadK ⟨1, false⟩ s v3 fun v4 =>
    eqK .ptr s true v4 .nilv fun v5 =>
    J262_0 call fu s v1 v5
  | _ => .err

abbrev orc262c (call : Call) (fu : Nat) (st : List IH) (id i : Nat) (s : St) (v : List AV) : Out := ch (Nat.beq id 1 && Nat.beq i 8) (J262_0 call fu s (nthL v 0) (nthL v 1)) (
    .err)
abbrev orc262b (call : Call) (fu : Nat) (st : List IH) (id : Nat) (ih : IH) (s : St) (v : List AV) : Out := .err
abbrev orc262p (call : Call) (fu : Nat) (st : List IH) (id k : Nat) (s : St) (v : List AV) : Out := .err
abbrev orc262m (call : Call) (fu : Nat) (id : Nat) (v : List AV) (s : St) : Out := .err
def lv262 (id i : Nat) : Option (List Tmp) := bif Nat.beq id 1 && Nat.beq i 8 then some [5, 10] else
    none
/- 263 -/
def J263_0 (call : Call) (fu : Nat) (s : St) : Out :=
    .ret (.int .i64 (.ofNat 0)) s

def F263 (call : Call) (fu : Nat) (args : List AV) (s : St) : Out := match args with
  | [t0] =>
    outK (call 262 [t0] s) fun v0 s1 =>
    notK v0 fun v2 =>
    condK v2 (.ret (.int .i64 (.ofNat 1)) s1)
    (nilK t0 fun v3 =>
    fieldK 2 v3 fun v4 =>
    loadK ⟨1, false⟩ s1 v4 fun v5 =>
    notK v5 fun v6 =>
    condK v6 (.ret (.int .i64 (.ofNat 6)) s1)
    (J263_0 call fu s1))
  | _ => .err

abbrev orc263c (call : Call) (fu : Nat) (st : List IH) (id i : Nat) (s : St) (v : List AV) : Out := ch (Nat.beq id 5 && Nat.beq i 0) (J263_0 call fu s) (
    .err)
abbrev orc263b (call : Call) (fu : Nat) (st : List IH) (id : Nat) (ih : IH) (s : St) (v : List AV) : Out := .err
abbrev orc263p (call : Call) (fu : Nat) (st : List IH) (id k : Nat) (s : St) (v : List AV) : Out := .err
abbrev orc263m (call : Call) (fu : Nat) (id : Nat) (v : List AV) (s : St) : Out := .err
def lv263 (id i : Nat) : Option (List Tmp) := bif Nat.beq id 5 && Nat.beq i 0 then some [] else
    none
/- 264 -/
def J264_0 (call : Call) (fu : Nat) (s : St) (t1 t7 t8 t6 : AV) : Out :=
    loadK ⟨3, true⟩ s t6 fun v0 =>
    fillK (.cells [(.bool false), (.int .i64 (.ofNat 0)), .nils, (.int .i64 (.ofNat 0))]) [(0, 3, v0), (3, 1, t8)] fun v1 =>
    loadK ⟨3, true⟩ s t7 fun v2 =>
    fieldK 3 t1 fun v3 =>
    loadK ⟨1, false⟩ s v3 fun v4 =>
    fillK (.cells [(.bool false), (.int .i64 (.ofNat 0)), .nils, (.int .i64 (.ofNat 0))]) [(0, 3, v2), (3, 1, v4)] fun v5 =>
    fillK (.cells [(.bool false), (.int .i64 (.ofNat 0)), .nils, (.int .i64 (.ofNat 0)), (.bool false), (.int .i64 (.ofNat 0)), .nils, (.int .i64 (.ofNat 0))]) [(0, 4, v1), (4, 4, v5)] fun v6 => newK s (.row 372 v6) fun i7 s8 =>
    .ret (.slice i7 0 2 2 4 false) s8

def J264_1 (call : Call) (fu : Nat) (s : St) (t1 t4 t5 : AV) : Out :=
    fieldK 0 t1 fun v9 =>
    fieldK 0 v9 fun v10 =>
    loadK ⟨1, false⟩ s v10 fun v11 =>
    fieldK 0 t1 fun v12 =>
    fieldK 1 v12 fun v13 =>
    loadK ⟨1, false⟩ s v13 fun v14 =>
    fieldK 0 t1 fun v15 =>
    fieldK 2 v15 fun v16 =>
    loadK ⟨1, false⟩ s v16 fun v17 =>
    sliceSlK 5 (some t4) none none v17 fun v18 =>
    fillK (.cells [(.bool false), (.int .i64 (.ofNat 0)), .nils]) [(0, 1, v11), (1, 1, v14), (2, 1, v18)] fun v19 =>
    allocK s 206 (.cells [(.bool false), (.int .i64 (.ofNat 0)), .nils]) fun v20 s21 =>
    allocK s21 206 (.cells [(.bool false), (.int .i64 (.ofNat 0)), .nils]) fun v22 s23 =>
    callVK call t5 [t4] s23 fun v24 s25 =>
    againK ⟨1, false⟩ s25 v16 v17 <|
    againK ⟨1, false⟩ s25 v13 v14 <|
    againK ⟨1, false⟩ s25 v10 v11 <|
    storeK ⟨3, true⟩ s25 v20 v24 fun s26 =>
    againK ⟨1, false⟩ s26 v16 v17 <|
    againK ⟨1, false⟩ s26 v13 v14 <|
    againK ⟨1, false⟩ s26 v10 v11 <|
    storeK ⟨3, true⟩ s26 v22 v19 fun s27 =>
    fieldK 0 t1 fun v28 =>
    fieldK 2 v28 fun v29 =>
    loadK ⟨1, false⟩ s27 v29 fun v30 =>
    binK .sub t4 (.int .i64 (.ofNat 1)) fun v31 =>
    indexSlK 5 v30 v31 fun v32 =>
    fieldK 0 v32 fun v33 =>
    loadK ⟨1, false⟩ s27 v33 fun v34 =>
    fieldK 0 t1 fun v35 =>
    fieldK 0 v35 fun v36 =>
    loadK ⟨1, false⟩ s27 v36 fun v37 =>
    notK v37 fun v38 =>
    condK v38 (fieldK 0 t1 fun v39 =>
    fieldK 2 v39 fun v40 =>
    loadK ⟨1, false⟩ s27 v40 fun v41 =>
    indexSlK 5 v41 t4 fun v42 =>
    fieldK 1 v42 fun v43 =>
    loadK ⟨1, false⟩ s27 v43 fun v44 =>
    fieldK 0 t1 fun v45 =>
    fieldK 2 v45 fun v46 =>
    loadK ⟨1, false⟩ s27 v46 fun v47 =>
    indexSlK 5 v47 t4 fun v48 =>
    fieldK 0 v48 fun v49 =>
    loadK ⟨1, false⟩ s27 v49 fun v50 =>
    fieldK 1 v20 fun v51 =>
    storeK ⟨1, false⟩ s27 v51 v44 fun s52 =>
    againK ⟨1, false⟩ s52 v49 v50 <|
    againK ⟨1, false⟩ s52 v46 v47 <|
    fieldK 0 t1 fun v53 =>
    fieldK 2 v53 fun v54 =>
    loadK ⟨1, false⟩ s52 v54 fun v55 =>
    binK .add t4 (.int .i64 (.ofNat 1)) fun v56 =>
    sliceSlK 5 (some v56) none none v55 fun v57 =>
    fieldK 2 v22 fun v58 =>
    storeK ⟨1, false⟩ s52 v58 v57 fun s59 =>
    J264_0 call fu s59 t1 v22 v50 v20)
    (J264_0 call fu s27 t1 v22 v34 v20)

def J264_3 (call : Call) (fu : Nat) (ih2 : St → AV → AV → AV → AV → Out) (s : St) (t4 t1 t5 t3 : AV) : Out :=
    binK .add t4 (.int .i64 (.ofNat 1)) fun v60 =>
    ih2 s v60 t1 t5 t3

def J264_4 (call : Call) (fu : Nat) (ih2 : St → AV → AV → AV → AV → Out) (s : St) (t4 t1 t5 t26 t32 t3 : AV) : Out :=
    pickK t26 t32 (.bool false) fun v61 =>
    condK v61 (J264_3 call fu ih2 s t4 t1 t5 t3)
    (J264_1 call fu s t1 t4 t5)

def L264_2b (call : Call) (fu : Nat) (ih2 : St → AV → AV → AV → AV → Out) (s : St) (t4 t1 t5 t3 : AV) : Out :=
    fieldK 0 t1 fun v62 =>
    fieldK 2 v62 fun v63 =>
    loadK ⟨1, false⟩ s v63 fun v64 =>
    lenSlK v64 fun v65 =>
    binK .sub (goInt v65) (.int .i64 (.ofNat 2)) fun v66 =>
    binK .lss t4 v66 fun v67 =>
    guardK true v67 (J264_4 call fu ih2 s t4 t1 t5 v67 (.tup []) t3) <|
    callVK call t5 [t4] s fun v68 s69 =>
    outK (call 322 [v68] s69) fun v70 s71 =>
    binK .lss v70 t3 fun v72 =>
    J264_4 call fu ih2 s71 t4 t1 t5 v67 v72 t3

def L264_2 (call : Call) (fu : Nat) (n : Nat) : St → AV → AV → AV → AV → Out :=
  Nat.rec (motive := fun _ => St → AV → AV → AV → AV → Out) (fun _ _ _ _ _ => .err) (fun _ ih => L264_2b call fu ih) n

def J264_5 (call : Call) (fu : Nat) (s : St) (t1 : AV) : Out :=
    fieldK 0 t1 fun v73 =>
    loadK ⟨3, true⟩ s v73 fun v74 =>
    outK (call 322 [v74] s) fun v75 s76 =>
    binK .quo v75 (.int .i64 (.ofNat 2)) fun v77 =>
    L264_2 call fu fu s76 (.int .i64 (.ofNat 1)) t1 (.func 323 [] [t1]) v77

def F264 (call : Call) (fu : Nat) (args : List AV) (s : St) : Out := match args with
  | [t0] =>
    boxK s 372 4 t0 fun v78 s79 =>
    fieldK 0 v78 fun v80 =>
    loadK ⟨3, true⟩ s79 v80 fun v81 =>
    outK (call 275 [v81] s79) fun v82 s83 =>
    condK v82 (loadK ⟨4, true⟩ s83 v78 fun v84 =>
    fillK (.cells [(.bool false), (.int .i64 (.ofNat 0)), .nils, (.int .i64 (.ofNat 0))]) [(0, 4, v84)] fun v85 => newK s83 (.row 372 v85) fun i86 s87 =>
    .ret (.slice i86 0 1 1 4 false) s87)
    (J264_5 call fu s83 v78)
  | _ => .err

abbrev orc264c (call : Call) (fu : Nat) (st : List IH) (id i : Nat) (s : St) (v : List AV) : Out := ch (Nat.beq id 3 && Nat.beq i 0) (J264_5 call fu s (nthL v 0)) (
    ch (Nat.beq id 5 && Nat.beq i 14) (J264_4 call fu (fun s x0 x1 x2 x3 => nthI st 0 s [x0, x1, x2, x3]) s (nthL v 0) (nthL v 1) (nthL v 2) (nthL v 3) (nthL v 4) (nthL v 5)) (
    ch (Nat.beq id 6 && Nat.beq i 0) (J264_3 call fu (fun s x0 x1 x2 x3 => nthI st 0 s [x0, x1, x2, x3]) s (nthL v 0) (nthL v 1) (nthL v 2) (nthL v 3)) (
    ch (Nat.beq id 7 && Nat.beq i 0) (J264_1 call fu s (nthL v 0) (nthL v 1) (nthL v 2)) (
    ch (Nat.beq id 12 && Nat.beq i 0) (J264_0 call fu s (nthL v 0) (nthL v 1) (nthL v 2) (nthL v 3)) (
    .err)))))
abbrev orc264b (call : Call) (fu : Nat) (st : List IH) (id : Nat) (ih : IH) (s : St) (v : List AV) : Out := ch (Nat.beq id 5) (L264_2b call fu (fun s x0 x1 x2 x3 => ih s [x0, x1, x2, x3]) s (nthL v 0) (nthL v 1) (nthL v 2) (nthL v 3)) (
    .err)
abbrev orc264p (call : Call) (fu : Nat) (st : List IH) (id k : Nat) (s : St) (v : List AV) : Out := ch (Nat.beq id 5) (L264_2 call fu k s (nthL v 0) (nthL v 1) (nthL v 2) (nthL v 3)) (
    .err)
abbrev orc264m (call : Call) (fu : Nat) (id : Nat) (v : List AV) (s : St) : Out := .err
def lv264 (id i : Nat) : Option (List Tmp) := bif Nat.beq id 3 && Nat.beq i 0 then some [1] else
    bif Nat.beq id 5 && Nat.beq i 14 then some [4, 1, 5, 26, 32, 3] else
    bif Nat.beq id 6 && Nat.beq i 0 then some [4, 1, 5, 3] else
    bif Nat.beq id 5 && Nat.beq i 0 then some [4, 1, 5, 3] else
    bif Nat.beq id 7 && Nat.beq i 0 then some [1, 4, 5] else
    bif Nat.beq id 12 && Nat.beq i 0 then some [1, 7, 8, 6] else
    none
/- 274 -/
def J274_0 (call : Call) (fu : Nat) (s : St) : Out :=
    .ret (.bool true) s

def J274_2 (call : Call) (fu : Nat) (ih1 : St → AV → AV → AV → AV → AV → Out) (s : St) (t28 t1 t3 t26 t27 : AV) : Out :=
    binK .add t28 (.int .i64 (.ofNat 1)) fun v0 =>
    ih1 s v0 t1 t3 t26 t27

def J274_3 (call : Call) (fu : Nat) (ih1 : St → AV → AV → AV → AV → AV → Out) (s : St) (t28 t52 t1 t3 t26 t27 : AV) : Out :=
    condK t52 (.ret (.bool false) s)
    (J274_2 call fu ih1 s t28 t1 t3 t26 t27)

def J274_4 (call : Call) (fu : Nat) (ih1 : St → AV → AV → AV → AV → AV → Out) (s : St) (t28 t37 t51 t1 t3 t26 t27 : AV) : Out :=
    pickK t37 (.bool true) t51 fun v1 =>
    J274_3 call fu ih1 s t28 v1 t1 t3 t26 t27

def J274_5 (call : Call) (fu : Nat) (ih1 : St → AV → AV → AV → AV → AV → Out) (s : St) (t28 t37 t40 t50 t1 t3 t26 t27 : AV) : Out :=
    guardK false t37 (J274_4 call fu ih1 s t28 t37 (.tup []) t1 t3 t26 t27) <|
    pickK t40 t50 (.bool false) fun v2 =>
    J274_4 call fu ih1 s t28 t37 v2 t1 t3 t26 t27

def J274_6 (call : Call) (fu : Nat) (ih1 : St → AV → AV → AV → AV → AV → Out) (s : St) (t28 t37 t40 t5 t4 t1 t3 t26 t27 : AV) : Out :=
    guardK true t40 (J274_5 call fu ih1 s t28 t37 t40 (.tup []) t1 t3 t26 t27) <|
    fieldK 2 t1 fun v3 =>
    loadK ⟨1, false⟩ s v3 fun v4 =>
    binK .sub t4 (.int .i64 (.ofNat 1)) fun v5 =>
    indexSlK 5 v4 v5 fun v6 =>
    fieldK 0 v6 fun v7 =>
    loadK ⟨1, false⟩ s v7 fun v8 =>
    fieldK 0 t5 fun v9 =>
    loadK ⟨1, false⟩ s v9 fun v10 =>
    binK .geq v8 v10 fun v11 =>
    J274_5 call fu ih1 s t28 t37 t40 v11 t1 t3 t26 t27

def J274_7 (call : Call) (fu : Nat) (ih1 : St → AV → AV → AV → AV → AV → Out) (s : St) (t28 t1 t3 t26 t27 : AV) : Out :=
    indexSlK 5 t26 t28 fun v12 =>
    loadK ⟨5, true⟩ s v12 fun v13 =>
    allocK s 211 (.cells [(.int .i64 (.ofNat 0)), (.int .i64 (.ofNat 0)), (.int .i64 (.ofNat 0)), .nils, (.int .i64 (.ofNat 0))]) fun v14 s15 =>
    storeK ⟨5, true⟩ s15 v14 v13 fun s16 =>
    loadK ⟨5, true⟩ s16 v14 fun v17 =>
    callVK call t3 [v17] s16 fun v18 s19 =>
    notK v18 fun v20 =>
    guardK false v20 (J274_6 call fu ih1 s19 t28 v20 (.tup []) v14 t28 t1 t3 t26 t27) <|
    binK .gtr t28 (.int .i64 (.ofNat 0)) fun v21 =>
    J274_6 call fu ih1 s19 t28 v20 v21 v14 t28 t1 t3 t26 t27

def L274_1b (call : Call) (fu : Nat) (ih1 : St → AV → AV → AV → AV → AV → Out) (s : St) (t28 t1 t3 t26 t27 : AV) : Out :=
    binK .lss t28 t27 fun v22 =>
    condK v22 (J274_7 call fu ih1 s t28 t1 t3 t26 t27)
    (J274_0 call fu s)

def L274_1 (call : Call) (fu : Nat) (n : Nat) : St → AV → AV → AV → AV → AV → Out :=
  Nat.rec (motive := fun _ => St → AV → AV → AV → AV → AV → Out) (fun _ _ _ _ _ _ => .err) (fun _ ih => L274_1b call fu ih) n

def J274_8 (call : Call) (fu : Nat) (s : St) (t1 t3 : AV) : Out :=
    fieldK 2 t1 fun v23 =>
    loadK ⟨1, false⟩ s v23 fun v24 =>
    lenSlK v24 fun v25 =>
    L274_1 call fu fu s (.int .i64 (.ofNat 0)) t1 t3 v24 (goInt v25)

def J274_9 (call : Call) (fu : Nat) (s : St) (t1 t3 t24 : AV) : Out :=
    condK t24 (.ret (.bool false) s)
    (J274_8 call fu s t1 t3)

def J274_10 (call : Call) (fu : Nat) (s : St) (t1 t3 t14 t23 : AV) : Out :=
    pickK t14 (.bool true) t23 fun v26 =>
    J274_9 call fu s t1 t3 v26

def J274_11 (call : Call) (fu : Nat) (s : St) (t1 t3 t14 t18 t22 : AV) : Out :=
    guardK false t14 (J274_10 call fu s t1 t3 t14 (.tup [])) <|
    pickK t18 t22 (.bool false) fun v27 =>
    J274_10 call fu s t1 t3 t14 v27

def J274_12 (call : Call) (fu : Nat) (s : St) (t1 t3 t14 t18 : AV) : Out :=
    guardK true t18 (J274_11 call fu s t1 t3 t14 t18 (.tup [])) <|
    fieldK 1 t1 fun v28 =>
    loadK ⟨1, false⟩ s v28 fun v29 =>
    outK (call 333 [v29] s) fun v30 s31 =>
    notK v30 fun v32 =>
    J274_11 call fu s31 t1 t3 t14 t18 v32

def J274_13 (call : Call) (fu : Nat) (s : St) (t1 t3 : AV) : Out :=
    fieldK 0 t1 fun v33 =>
    loadK ⟨1, false⟩ s v33 fun v34 =>
    fieldK 1 t1 fun v35 =>
    loadK ⟨1, false⟩ s v35 fun v36 =>
    binK .eql v36 (.int .i64 (.ofNat 0)) fun v37 =>
    eqK .bool s true v34 v37 fun v38 =>
    guardK false v38 (J274_12 call fu s t1 t3 v38 (.tup [])) <|
    fieldK 0 t1 fun v39 =>
    loadK ⟨1, false⟩ s v39 fun v40 =>
    notK v40 fun v41 =>
    J274_12 call fu s t1 t3 v38 v41

def F274 (call : Call) (fu : Nat) (args : List AV) (s : St) : Out := match args with
  | [t0] =>
    boxK s 206 3 t0 fun v42 s43 =>
    fieldK 0 v42 fun v44 =>
    loadK ⟨1, false⟩ s43 v44 fun v45 =>
    condK v45 (J274_13 call fu s43 v42 (.func 332 [] []))
    (J274_13 call fu s43 v42 (.func 331 [] []))
  | _ => .err

abbrev orc274c (call : Call) (fu : Nat) (st : List IH) (id i : Nat) (s : St) (v : List AV) : Out := ch (Nat.beq id 4 && Nat.beq i 0) (J274_13 call fu s (nthL v 0) (nthL v 1)) (
    ch (Nat.beq id 4 && Nat.beq i 11) (J274_12 call fu s (nthL v 0) (nthL v 1) (nthL v 2) (nthL v 3)) (
    ch (Nat.beq id 4 && Nat.beq i 15) (J274_11 call fu s (nthL v 0) (nthL v 1) (nthL v 2) (nthL v 3) (nthL v 4)) (
    ch (Nat.beq id 4 && Nat.beq i 16) (J274_10 call fu s (nthL v 0) (nthL v 1) (nthL v 2) (nthL v 3)) (
    ch (Nat.beq id 5 && Nat.beq i 0) (J274_9 call fu s (nthL v 0) (nthL v 1) (nthL v 2)) (
    ch (Nat.beq id 6 && Nat.beq i 0) (J274_8 call fu s (nthL v 0) (nthL v 1)) (
    ch (Nat.beq id 8 && Nat.beq i 0) (J274_7 call fu (fun s x0 x1 x2 x3 x4 => nthI st 0 s [x0, x1, x2, x3, x4]) s (nthL v 0) (nthL v 1) (nthL v 2) (nthL v 3) (nthL v 4)) (
    ch (Nat.beq id 9 && Nat.beq i 1008) (J274_6 call fu (fun s x0 x1 x2 x3 x4 => nthI st 0 s [x0, x1, x2, x3, x4]) s (nthL v 0) (nthL v 1) (nthL v 2) (nthL v 3) (nthL v 4) (nthL v 5) (nthL v 6) (nthL v 7) (nthL v 8)) (
    ch (Nat.beq id 9 && Nat.beq i 1018) (J274_5 call fu (fun s x0 x1 x2 x3 x4 => nthI st 0 s [x0, x1, x2, x3, x4]) s (nthL v 0) (nthL v 1) (nthL v 2) (nthL v 3) (nthL v 4) (nthL v 5) (nthL v 6) (nthL v 7)) (
    ch (Nat.beq id 9 && Nat.beq i 1019) (J274_4 call fu (fun s x0 x1 x2 x3 x4 => nthI st 0 s [x0, x1, x2, x3, x4]) s (nthL v 0) (nthL v 1) (nthL v 2) (nthL v 3) (nthL v 4) (nthL v 5) (nthL v 6)) (
    ch (Nat.beq id 10 && Nat.beq i 0) (J274_3 call fu (fun s x0 x1 x2 x3 x4 => nthI st 0 s [x0, x1, x2, x3, x4]) s (nthL v 0) (nthL v 1) (nthL v 2) (nthL v 3) (nthL v 4) (nthL v 5)) (
    ch (Nat.beq id 11 && Nat.beq i 0) (J274_2 call fu (fun s x0 x1 x2 x3 x4 => nthI st 0 s [x0, x1, x2, x3, x4]) s (nthL v 0) (nthL v 1) (nthL v 2) (nthL v 3) (nthL v 4)) (
    ch (Nat.beq id 12 && Nat.beq i 0) (J274_0 call fu s) (
    .err)))))))))))))
abbrev orc274b (call : Call) (fu : Nat) (st : List IH) (id : Nat) (ih : IH) (s : St) (v : List AV) : Out := ch (Nat.beq id 7) (L274_1b call fu (fun s x0 x1 x2 x3 x4 => ih s [x0, x1, x2, x3, x4]) s (nthL v 0) (nthL v 1) (nthL v 2) (nthL v 3) (nthL v 4)) (
    .err)
abbrev orc274p (call : Call) (fu : Nat) (st : List IH) (id k : Nat) (s : St) (v : List AV) : Out := ch (Nat.beq id 7) (L274_1 call fu k s (nthL v 0) (nthL v 1) (nthL v 2) (nthL v 3) (nthL v 4)) (
    .err)
abbrev orc274m (call : Call) (fu : Nat) (id : Nat) (v : List AV) (s : St) : Out := .err
def lv274 (id i : Nat) : Option (List Tmp) := bif Nat.beq id 4 && Nat.beq i 0 then some [1, 3] else
    bif Nat.beq id 4 && Nat.beq i 11 then some [1, 3, 14, 18] else
    bif Nat.beq id 4 && Nat.beq i 15 then some [1, 3, 14, 18, 22] else
    bif Nat.beq id 4 && Nat.beq i 16 then some [1, 3, 14, 23] else
    bif Nat.beq id 5 && Nat.beq i 0 then some [1, 3, 24] else
    bif Nat.beq id 6 && Nat.beq i 0 then some [1, 3] else
    bif Nat.beq id 8 && Nat.beq i 0 then some [28, 1, 3, 26, 27] else
    bif Nat.beq id 9 && Nat.beq i 1008 then some [28, 37, 40, 5, 4, 1, 3, 26, 27] else
    bif Nat.beq id 9 && Nat.beq i 1018 then some [28, 37, 40, 50, 1, 3, 26, 27] else
    bif Nat.beq id 9 && Nat.beq i 1019 then some [28, 37, 51, 1, 3, 26, 27] else
    bif Nat.beq id 10 && Nat.beq i 0 then some [28, 52, 1, 3, 26, 27] else
    bif Nat.beq id 11 && Nat.beq i 0 then some [28, 1, 3, 26, 27] else
    bif Nat.beq id 7 && Nat.beq i 0 then some [28, 1, 3, 26, 27] else
    bif Nat.beq id 12 && Nat.beq i 0 then some [] else
    none
/- 275 -/
def F275 (call : Call) (fu : Nat) (args : List AV) (s : St) : Out := match args with
  | [t0] =>
    boxK s 206 3 t0 fun v0 s1 =>
    loadK ⟨3, true⟩ s1 v0 fun v2 =>
    outK (call 322 [v2] s1) fun v3 s4 =>
    binK .leq v3 (.int .i64 (.ofNat 512)) fun v5 =>
    .ret v5 s4
  | _ => .err

abbrev orc275c (call : Call) (fu : Nat) (st : List IH) (id i : Nat) (s : St) (v : List AV) : Out := .err
abbrev orc275b (call : Call) (fu : Nat) (st : List IH) (id : Nat) (ih : IH) (s : St) (v : List AV) : Out := .err
abbrev orc275p (call : Call) (fu : Nat) (st : List IH) (id k : Nat) (s : St) (v : List AV) : Out := .err
abbrev orc275m (call : Call) (fu : Nat) (id : Nat) (v : List AV) (s : St) : Out := .err
def lv275 (id i : Nat) : Option (List Tmp) := none
/- 276 -/
def J276_0 (call : Call) (fu : Nat) (s : St) (t5 : AV) : Out :=
    .ret t5 s

def J276_1 (call : Call) (fu : Nat) (s : St) (t2 : AV) : Out :=
    fieldK 0 t2 fun v0 =>
    loadK ⟨1, false⟩ s v0 fun v1 =>
    fieldK 2 t2 fun v2 =>
    loadK ⟨1, false⟩ s v2 fun v3 =>
    convK .u64 v3 fun v4 =>
    outK (call 335 [v1] s) fun v5 s6 =>
    againK ⟨1, false⟩ s6 v2 v3 <|
    outK (call 334 [.nils, v5] s6) fun v7 s8 =>
    againK ⟨1, false⟩ s8 v2 v3 <|
    outK (call 334 [v7, v4] s8) fun v9 s10 =>
    fieldK 3 t2 fun v11 =>
    loadK ⟨1, false⟩ s10 v11 fun v12 =>
    appK 5 1 s10 v9 v12 fun v13 s14 =>
    loadK ⟨5, true⟩ s14 t2 fun v15 =>
    outK (call 336 [v15] s14) fun v16 s17 =>
    condK v16 (fieldK 4 t2 fun v18 =>
    loadK ⟨1, false⟩ s17 v18 fun v19 =>
    convK .u64 v19 fun v20 =>
    outK (call 200 [v13, v20, (.int .i64 (.ofNat 4)), (.bool false)] s17) fun v21 s22 =>
    J276_0 call fu s22 v21)
    (J276_0 call fu s17 v13)

def F276 (call : Call) (fu : Nat) (args : List AV) (s : St) : Out := match args with
  | [t0, t1] =>
    boxK s 211 5 t0 fun v23 s24 =>
    notK t1 fun v25 =>
    condK v25 (fieldK 1 v23 fun v26 =>
    loadK ⟨1, false⟩ s24 v26 fun v27 =>
    convK .u64 v27 fun v28 =>
    fieldK 0 v23 fun v29 =>
    loadK ⟨1, false⟩ s24 v29 fun v30 =>
    outK (call 200 [.nils, v28, (.int .i64 (.ofNat 4)), (.bool false)] s24) fun v31 s32 =>
    againK ⟨1, false⟩ s32 v29 v30 <|
    outK (call 335 [v30] s32) fun v33 s34 =>
    outK (call 334 [v31, v33] s34) fun v35 s36 =>
    .ret v35 s36)
    (J276_1 call fu s24 v23)
  | _ => .err

abbrev orc276c (call : Call) (fu : Nat) (st : List IH) (id i : Nat) (s : St) (v : List AV) : Out := ch (Nat.beq id 3 && Nat.beq i 0) (J276_1 call fu s (nthL v 0)) (
    ch (Nat.beq id 7 && Nat.beq i 0) (J276_0 call fu s (nthL v 0)) (
    .err))
abbrev orc276b (call : Call) (fu : Nat) (st : List IH) (id : Nat) (ih : IH) (s : St) (v : List AV) : Out := .err
abbrev orc276p (call : Call) (fu : Nat) (st : List IH) (id k : Nat) (s : St) (v : List AV) : Out := .err
abbrev orc276m (call : Call) (fu : Nat) (id : Nat) (v : List AV) (s : St) : Out := .err
def lv276 (id i : Nat) : Option (List Tmp) := bif Nat.beq id 3 && Nat.beq i 0 then some [2] else
    bif Nat.beq id 7 && Nat.beq i 0 then some [5] else
    none
/- 277 -/
def J277_1 (call : Call) (fu : Nat) (ih0 : St → AV → AV → AV → Out) (s : St) (t3 t2 t0 : AV) : Out :=
    binK .add t2 (.int .i64 (.ofNat 1)) fun v0 =>
    binK .sub t3 (.int .i64 (.ofNat 1)) fun v1 =>
    ih0 s v1 v0 t0

def J277_2 (call : Call) (fu : Nat) (ih0 : St → AV → AV → AV → Out) (s : St) (t3 t2 t0 : AV) : Out :=
    indexSlK 1 t0 t3 fun v2 =>
    loadK ⟨1, false⟩ s v2 fun v3 =>
    indexSlK 1 t0 t2 fun v4 =>
    loadK ⟨1, false⟩ s v4 fun v5 =>
    indexSlK 1 t0 t2 fun v6 =>
    storeK ⟨1, false⟩ s v6 v3 fun s7 =>
    indexSlK 1 t0 t3 fun v8 =>
    storeK ⟨1, false⟩ s7 v8 v5 fun s9 =>
    J277_1 call fu ih0 s9 t3 t2 t0

def L277_0b (call : Call) (fu : Nat) (ih0 : St → AV → AV → AV → Out) (s : St) (t3 t2 t0 : AV) : Out :=
    binK .lss t2 t3 fun v10 =>
    condK v10 (J277_2 call fu ih0 s t3 t2 t0)
    (.ret (.tup []) s)

def L277_0 (call : Call) (fu : Nat) (n : Nat) : St → AV → AV → AV → Out :=
  Nat.rec (motive := fun _ => St → AV → AV → AV → Out) (fun _ _ _ _ => .err) (fun _ ih => L277_0b call fu ih) n

def F277 (call : Call) (fu : Nat) (args : List AV) (s : St) : Out := match args with
  | [t0] =>
    lenSlK t0 fun v11 =>
    binK .sub (goInt v11) (.int .i64 (.ofNat 1)) fun v12 =>
    L277_0 call fu fu s v12 (.int .i64 (.ofNat 0)) t0
  | _ => .err

abbrev orc277c (call : Call) (fu : Nat) (st : List IH) (id i : Nat) (s : St) (v : List AV) : Out := ch (Nat.beq id 3 && Nat.beq i 0) (J277_2 call fu (fun s x0 x1 x2 => nthI st 0 s [x0, x1, x2]) s (nthL v 0) (nthL v 1) (nthL v 2)) (
    ch (Nat.beq id 2 && Nat.beq i 0) (J277_1 call fu (fun s x0 x1 x2 => nthI st 0 s [x0, x1, x2]) s (nthL v 0) (nthL v 1) (nthL v 2)) (
    .err))
abbrev orc277b (call : Call) (fu : Nat) (st : List IH) (id : Nat) (ih : IH) (s : St) (v : List AV) : Out := ch (Nat.beq id 1) (L277_0b call fu (fun s x0 x1 x2 => ih s [x0, x1, x2]) s (nthL v 0) (nthL v 1) (nthL v 2)) (
    .err)
abbrev orc277p (call : Call) (fu : Nat) (st : List IH) (id k : Nat) (s : St) (v : List AV) : Out := ch (Nat.beq id 1) (L277_0 call fu k s (nthL v 0) (nthL v 1) (nthL v 2)) (
    .err)
abbrev orc277m (call : Call) (fu : Nat) (id : Nat) (v : List AV) (s : St) : Out := .err
def lv277 (id i : Nat) : Option (List Tmp) := bif Nat.beq id 3 && Nat.beq i 0 then some [3, 2, 0] else
    bif Nat.beq id 2 && Nat.beq i 0 then some [3, 2, 0] else
    bif Nat.beq id 1 && Nat.beq i 0 then some [3, 2, 0] else
    none
/- 278 -/
def F278 (call : Call) (fu : Nat) (args : List AV) (s : St) : Out := match args with
  | [t0, t1, t2] =>
    boxK s 310 1 t0 fun v0 s1 =>
    boxK s1 3 1 t1 fun v2 s3 =>
    boxK s3 4 1 t2 fun v4 s5 =>
    allocK s5 246 (.cells [(.int .u64 (.ofNat 0))]) fun v6 s7 =>
    loadK ⟨1, false⟩ s7 v0 fun v8 =>
    outK (call 283 [v8, (.func 337 [] [v2, v0, v4, v6])] s7) fun v9 s10 =>
    loadK ⟨1, false⟩ s10 v6 fun v11 =>
    .ret v11 s10
  | _ => .err

abbrev orc278c (call : Call) (fu : Nat) (st : List IH) (id i : Nat) (s : St) (v : List AV) : Out := .err
abbrev orc278b (call : Call) (fu : Nat) (st : List IH) (id : Nat) (ih : IH) (s : St) (v : List AV) : Out := .err
abbrev orc278p (call : Call) (fu : Nat) (st : List IH) (id k : Nat) (s : St) (v : List AV) : Out := .err
abbrev orc278m (call : Call) (fu : Nat) (id : Nat) (v : List AV) (s : St) : Out := .err
def lv278 (id i : Nat) : Option (List Tmp) := none
/- 279 -/
def J279_0 (call : Call) (fu : Nat) (s : St) (t4 t5 : AV) : Out :=
    loadK ⟨5, true⟩ s t5 fun v0 =>
    storeK ⟨5, true⟩ s t4 v0 fun s1 =>
    loadK ⟨5, true⟩ s1 t4 fun v2 =>
    .ret v2 s1

def J279_1 (call : Call) (fu : Nat) (s : St) (t4 t5 t6 t2 t7 : AV) : Out :=
    callVK call t7 [(.int .u64 (.ofNat 18446744073709551615))] s fun v3 s4 =>
    outK (call 340 [v3] s4) fun v5 s6 =>
    fieldK 0 t5 fun v7 =>
    storeK ⟨1, false⟩ s6 v7 v5 fun s8 =>
    callVK call t7 [(.int .u64 (.ofNat 20000))] s8 fun v9 s10 =>
    convK .i64 v9 fun v11 =>
    fieldK 2 t5 fun v12 =>
    storeK ⟨1, false⟩ s10 v12 v11 fun s13 =>
    loadK ⟨1, false⟩ s13 t2 fun v14 =>
    fieldK 2 t5 fun v15 =>
    loadK ⟨1, false⟩ s13 v15 fun v16 =>
    outK (call 191 [v16] s13) fun v17 s18 =>
    againK ⟨1, false⟩ s18 t2 v14 <|
    outK (call 210 [v14, v17] s18) fun v19 s20 =>
    fieldK 3 t5 fun v21 =>
    storeK ⟨1, false⟩ s20 v21 v19 fun s22 =>
    loadK ⟨5, true⟩ s22 t5 fun v23 =>
    outK (call 336 [v23] s22) fun v24 s25 =>
    condK v24 (callVK call t6 [] s25 fun v26 s27 =>
    fieldK 4 t5 fun v28 =>
    storeK ⟨1, false⟩ s27 v28 v26 fun s29 =>
    J279_0 call fu s29 t4 t5)
    (J279_0 call fu s25 t4 t5)

def F279 (call : Call) (fu : Nat) (args : List AV) (s : St) : Out := match args with
  | [t0, t1] =>
    boxK s 310 1 t0 fun v30 s31 =>
    allocK s31 211 (.cells [(.int .i64 (.ofNat 0)), (.int .i64 (.ofNat 0)), (.int .i64 (.ofNat 0)), .nils, (.int .i64 (.ofNat 0))]) fun v32 s33 =>
    allocK s33 211 (.cells [(.int .i64 (.ofNat 0)), (.int .i64 (.ofNat 0)), (.int .i64 (.ofNat 0)), .nils, (.int .i64 (.ofNat 0))]) fun v34 s35 =>
    loadK ⟨1, false⟩ s35 v30 fun v36 =>
    notK t1 fun v37 =>
    condK v37 (callVK call (.func 338 [] [v30]) [] s35 fun v38 s39 =>
    fieldK 1 v34 fun v40 =>
    storeK ⟨1, false⟩ s39 v40 v38 fun s41 =>
    callVK call (.func 339 [v36] []) [(.int .u64 (.ofNat 18446744073709551615))] s41 fun v42 s43 =>
    outK (call 340 [v42] s43) fun v44 s45 =>
    fieldK 0 v34 fun v46 =>
    storeK ⟨1, false⟩ s45 v46 v44 fun s47 =>
    loadK ⟨5, true⟩ s47 v34 fun v48 =>
    storeK ⟨5, true⟩ s47 v32 v48 fun s49 =>
    loadK ⟨5, true⟩ s49 v32 fun v50 =>
    .ret v50 s49)
    (J279_1 call fu s35 v32 v34 (.func 338 [] [v30]) v30 (.func 339 [v36] []))
  | _ => .err

abbrev orc279c (call : Call) (fu : Nat) (st : List IH) (id i : Nat) (s : St) (v : List AV) : Out := ch (Nat.beq id 8 && Nat.beq i 0) (J279_1 call fu s (nthL v 0) (nthL v 1) (nthL v 2) (nthL v 3) (nthL v 4)) (
    ch (Nat.beq id 13 && Nat.beq i 0) (J279_0 call fu s (nthL v 0) (nthL v 1)) (
    .err))
abbrev orc279b (call : Call) (fu : Nat) (st : List IH) (id : Nat) (ih : IH) (s : St) (v : List AV) : Out := .err
abbrev orc279p (call : Call) (fu : Nat) (st : List IH) (id k : Nat) (s : St) (v : List AV) : Out := .err
abbrev orc279m (call : Call) (fu : Nat) (id : Nat) (v : List AV) (s : St) : Out := .err
def lv279 (id i : Nat) : Option (List Tmp) := bif Nat.beq id 8 && Nat.beq i 0 then some [4, 5, 6, 2, 7] else
    bif Nat.beq id 13 && Nat.beq i 0 then some [4, 5] else
    none
/- 283 -/
def J283_0 (call : Call) (fu : Nat) (s : St) (t4 t0 : AV) : Out :=
    nilK t0 fun v0 =>
    fieldK 1 v0 fun v1 =>
    loadK ⟨1, false⟩ s v1 fun v2 =>
    sliceSlK 1 (some t4) none none v2 fun v3 =>
    nilK t0 fun v4 =>
    fieldK 1 v4 fun v5 =>
    storeK ⟨1, false⟩ s v5 v3 fun s6 =>
    .ret (.tup []) s6

def J283_1 (call : Call) (fu : Nat) (s : St) (t0 t1 : AV) : Out :=
    callVK call t1 [] s fun v7 s8 =>
    extractK v7 0 fun v9 =>
    extractK v7 1 fun v10 =>
    binK .neq v10 (.int .i64 (.ofNat 0)) fun v11 =>
    condK v11 (outK (call 344 [t0, v10] s8) fun v12 s13 =>
    .ret (.tup []) s13)
    (J283_0 call fu s8 v9 t0)

def J283_2 (call : Call) (fu : Nat) (s : St) (t0 t1 t9 t14 : AV) : Out :=
    pickK t9 (.bool true) t14 fun v14 =>
    condK v14 (.ret (.tup []) s)
    (J283_1 call fu s t0 t1)

def F283 (call : Call) (fu : Nat) (args : List AV) (s : St) : Out := match args with
  | [t0, t1] =>
    outK (call 285 [t0] s) fun v15 s16 =>
    notK v15 fun v17 =>
    guardK false v17 (J283_2 call fu s16 t0 t1 v17 (.tup [])) <|
    nilK t0 fun v18 =>
    fieldK 2 v18 fun v19 =>
    loadK ⟨1, false⟩ s16 v19 fun v20 =>
    binK .neq v20 (.int .i64 (.ofNat 0)) fun v21 =>
    J283_2 call fu s16 t0 t1 v17 v21
  | _ => .err

abbrev orc283c (call : Call) (fu : Nat) (st : List IH) (id i : Nat) (s : St) (v : List AV) : Out := ch (Nat.beq id 0 && Nat.beq i 9) (J283_2 call fu s (nthL v 0) (nthL v 1) (nthL v 2) (nthL v 3)) (
    ch (Nat.beq id 1 && Nat.beq i 0) (J283_1 call fu s (nthL v 0) (nthL v 1)) (
    ch (Nat.beq id 4 && Nat.beq i 0) (J283_0 call fu s (nthL v 0) (nthL v 1)) (
    .err)))
abbrev orc283b (call : Call) (fu : Nat) (st : List IH) (id : Nat) (ih : IH) (s : St) (v : List AV) : Out := .err
abbrev orc283p (call : Call) (fu : Nat) (st : List IH) (id k : Nat) (s : St) (v : List AV) : Out := .err
abbrev orc283m (call : Call) (fu : Nat) (id : Nat) (v : List AV) (s : St) : Out := .err
def lv283 (id i : Nat) : Option (List Tmp) := bif Nat.beq id 0 && Nat.beq i 9 then some [0, 1, 9, 14] else
    bif Nat.beq id 1 && Nat.beq i 0 then some [0, 1] else
    bif Nat.beq id 4 && Nat.beq i 0 then some [4, 0] else
    none
/- 284 -/
def J284_0 (call : Call) (fu : Nat) (s : St) (t0 t2 t1 : AV) : Out :=
    loadK ⟨1, false⟩ s t1 fun v0 =>
    nilK v0 fun v1 =>
    fieldK 1 v1 fun v2 =>
    loadK ⟨1, false⟩ s v2 fun v3 =>
    loadK ⟨1, false⟩ s t0 fun v4 =>
    sliceSlK 1 none (some v4) none v3 fun v5 =>
    outK (call 185 [v5] s) fun v6 s7 =>
    storeK ⟨1, false⟩ s7 t2 v6 fun s8 =>
    loadK ⟨1, false⟩ s8 t0 fun v9 =>
    .ret (.tup [v9, (.int .i64 (.ofNat 0))]) s8

def F284 (call : Call) (fu : Nat) (args : List AV) (s : St) : Out := match args with
  | [t0, t1, t2] =>
    loadK ⟨1, false⟩ s t0 fun v10 =>
    binK .lss v10 (.int .i64 (.ofNat 0)) fun v11 =>
    condK v11 (.ret (.tup [(.int .i64 (.ofNat 0)), (.int .i64 (.ofNat 2))]) s)
    (loadK ⟨1, false⟩ s t0 fun v12 =>
    loadK ⟨1, false⟩ s t1 fun v13 =>
    nilK v13 fun v14 =>
    fieldK 1 v14 fun v15 =>
    loadK ⟨1, false⟩ s v15 fun v16 =>
    lenSlK v16 fun v17 =>
    binK .gtr v12 (goInt v17) fun v18 =>
    condK v18 (.ret (.tup [(.int .i64 (.ofNat 0)), (.int .i64 (.ofNat 8))]) s)
    (J284_0 call fu s t0 t2 t1))
  | _ => .err

abbrev orc284c (call : Call) (fu : Nat) (st : List IH) (id i : Nat) (s : St) (v : List AV) : Out := ch (Nat.beq id 5 && Nat.beq i 0) (J284_0 call fu s (nthL v 0) (nthL v 1) (nthL v 2)) (
    .err)
abbrev orc284b (call : Call) (fu : Nat) (st : List IH) (id : Nat) (ih : IH) (s : St) (v : List AV) : Out := .err
abbrev orc284p (call : Call) (fu : Nat) (st : List IH) (id k : Nat) (s : St) (v : List AV) : Out := .err
abbrev orc284m (call : Call) (fu : Nat) (id : Nat) (v : List AV) (s : St) : Out := .err
def lv284 (id i : Nat) : Option (List Tmp) := bif Nat.beq id 5 && Nat.beq i 0 then some [0, 2, 1] else
    none
/- 285 -/
def J285_0 (call : Call) (fu : Nat) (s : St) (t5 t9 : AV) : Out :=
    pickK t5 t9 (.bool false) fun v0 =>
    .ret v0 s

def F285 (call : Call) (fu : Nat) (args : List AV) (s : St) : Out := match args with
  | [t0] =>
    eqK .ptr s true t0 .nilv fun v1 =>
    guardK true v1 (J285_0 call fu s v1 (.tup [])) <|
    nilK t0 fun v2 =>
    fieldK 0 v2 fun v3 =>
    loadK ⟨1, false⟩ s v3 fun v4 =>
    J285_0 call fu s v1 v4
  | _ => .err

abbrev orc285c (call : Call) (fu : Nat) (st : List IH) (id i : Nat) (s : St) (v : List AV) : Out := ch (Nat.beq id 1 && Nat.beq i 7) (J285_0 call fu s (nthL v 0) (nthL v 1)) (
    .err)
abbrev orc285b (call : Call) (fu : Nat) (st : List IH) (id : Nat) (ih : IH) (s : St) (v : List AV) : Out := .err
abbrev orc285p (call : Call) (fu : Nat) (st : List IH) (id k : Nat) (s : St) (v : List AV) : Out := .err
abbrev orc285m (call : Call) (fu : Nat) (id : Nat) (v : List AV) (s : St) : Out := .err
def lv285 (id i : Nat) : Option (List Tmp) := bif Nat.beq id 1 && Nat.beq i 7 then some [5, 9] else
    none
/- 297 -/
def J297_0 (call : Call) (fu : Nat) (s : St) (t6 : AV) : Out :=
    .ret (.tup [t6, (.int .i64 (.ofNat 0))]) s

def J297_2 (call : Call) (fu : Nat) (ih1 : St → AV → AV → AV → AV → AV → Out) (s : St) (t33 t6 t0 t31 t32 : AV) : Out :=
    binK .add t33 (.int .i64 (.ofNat 1)) fun v0 =>
    ih1 s v0 t6 t0 t31 t32

def J297_3 (call : Call) (fu : Nat) (ih1 : St → AV → AV → AV → AV → AV → Out) (s : St) (t33 t11 t9 t6 t0 t31 t32 : AV) : Out :=
    fillK (.cells [.nili, .nili]) [(0, 1, (.iface 47 t9)), (1, 1, (.iface 74 t11))] fun v1 => newK s (.row 409 v1) fun i2 s3 =>
    appK 409 1 s3 t6 (.slice i2 0 2 2 1 false) fun v4 s5 =>
    J297_2 call fu ih1 s5 t33 v4 t0 t31 t32

def J297_4 (call : Call) (fu : Nat) (ih1 : St → AV → AV → AV → AV → AV → Out) (s : St) (t33 t9 t6 t8 t0 t31 t32 : AV) : Out :=
    nilK t0 fun v6 =>
    fieldK 0 v6 fun v7 =>
    loadK ⟨1, false⟩ s v7 fun v8 =>
    fieldK 6 t8 fun v9 =>
    loadK ⟨3, true⟩ s v9 fun v10 =>
    outK (call 21 [v8, v10] s) fun v11 s12 =>
    extractK v11 0 fun v13 =>
    extractK v11 1 fun v14 =>
    binK .neq v14 (.int .i64 (.ofNat 0)) fun v15 =>
    condK v15 (.ret (.tup [.nils, v14]) s12)
    (J297_3 call fu ih1 s12 t33 v13 t9 t6 t0 t31 t32)

def J297_5 (call : Call) (fu : Nat) (ih1 : St → AV → AV → AV → AV → AV → Out) (s : St) (t33 t6 t0 t31 t32 : AV) : Out :=
    indexSlK 16 t31 t33 fun v16 =>
    loadK ⟨16, true⟩ s v16 fun v17 =>
    allocK s 38 (.cells [(.str 0 0), (.int .i64 (.ofNat 0)), (.int .i64 (.ofNat 0)), .nils, (.int .i64 (.ofNat 0)), (.int .i64 (.ofNat 0)), (.int .i64 (.ofNat 0)), (.int .i64 (.ofNat 0)), (.int .i64 (.ofNat 0)), (.int .i64 (.ofNat 0)), (.int .i64 (.ofNat 0)), (.bool false), (.int .i64 (.ofNat 0)), (.int .i64 (.ofNat 0)), (.int .i64 (.ofNat 0)), (.int .i64 (.ofNat 0))]) fun v18 s19 =>
    storeK ⟨16, true⟩ s19 v18 v17 fun s20 =>
    nilK t0 fun v21 =>
    fieldK 0 v21 fun v22 =>
    loadK ⟨1, false⟩ s20 v22 fun v23 =>
    fieldK 5 v18 fun v24 =>
    loadK ⟨1, false⟩ s20 v24 fun v25 =>
    outK (call 55 [v23, v25] s20) fun v26 s27 =>
    extractK v26 0 fun v28 =>
    extractK v26 1 fun v29 =>
    binK .neq v29 (.int .i64 (.ofNat 0)) fun v30 =>
    condK v30 (.ret (.tup [.nils, v29]) s27)
    (J297_4 call fu ih1 s27 t33 v28 t6 v18 t0 t31 t32)

def L297_1b (call : Call) (fu : Nat) (ih1 : St → AV → AV → AV → AV → AV → Out) (s : St) (t33 t6 t0 t31 t32 : AV) : Out :=
    binK .lss t33 t32 fun v31 =>
    condK v31 (J297_5 call fu ih1 s t33 t6 t0 t31 t32)
    (J297_0 call fu s t6)

def L297_1 (call : Call) (fu : Nat) (n : Nat) : St → AV → AV → AV → AV → AV → Out :=
  Nat.rec (motive := fun _ => St → AV → AV → AV → AV → AV → Out) (fun _ _ _ _ _ _ => .err) (fun _ ih => L297_1b call fu ih) n

def J297_6 (call : Call) (fu : Nat) (s : St) (t0 t4 : AV) : Out :=
    nilK t0 fun v32 =>
    fieldK 1 v32 fun v33 =>
    loadK ⟨1, false⟩ s v33 fun v34 =>
    nilK t0 fun v35 =>
    fieldK 2 v35 fun v36 =>
    loadK ⟨1, false⟩ s v36 fun v37 =>
    fillK (.cells [.nili, .nili]) [(0, 1, (.iface 47 v34)), (1, 1, (.iface 47 v37))] fun v38 => newK s (.row 409 v38) fun i39 s40 =>
    lenSlK t4 fun v41 =>
    L297_1 call fu fu s40 (.int .i64 (.ofNat 0)) (.slice i39 0 2 2 1 false) t0 t4 (goInt v41)

def F297 (call : Call) (fu : Nat) (args : List AV) (s : St) : Out := match args with
  | [t0] =>
    outK (call 60 [t0] s) fun v42 s43 =>
    extractK v42 0 fun v44 =>
    extractK v42 1 fun v45 =>
    binK .neq v45 (.int .i64 (.ofNat 0)) fun v46 =>
    condK v46 (.ret (.tup [.nils, v45]) s43)
    (J297_6 call fu s43 t0 v44)
  | _ => .err

abbrev orc297c (call : Call) (fu : Nat) (st : List IH) (id i : Nat) (s : St) (v : List AV) : Out := ch (Nat.beq id 4 && Nat.beq i 0) (J297_6 call fu s (nthL v 0) (nthL v 1)) (
    ch (Nat.beq id 7 && Nat.beq i 0) (J297_5 call fu (fun s x0 x1 x2 x3 x4 => nthI st 0 s [x0, x1, x2, x3, x4]) s (nthL v 0) (nthL v 1) (nthL v 2) (nthL v 3) (nthL v 4)) (
    ch (Nat.beq id 11 && Nat.beq i 0) (J297_4 call fu (fun s x0 x1 x2 x3 x4 => nthI st 0 s [x0, x1, x2, x3, x4]) s (nthL v 0) (nthL v 1) (nthL v 2) (nthL v 3) (nthL v 4) (nthL v 5) (nthL v 6)) (
    ch (Nat.beq id 14 && Nat.beq i 0) (J297_3 call fu (fun s x0 x1 x2 x3 x4 => nthI st 0 s [x0, x1, x2, x3, x4]) s (nthL v 0) (nthL v 1) (nthL v 2) (nthL v 3) (nthL v 4) (nthL v 5) (nthL v 6)) (
    ch (Nat.beq id 15 && Nat.beq i 0) (J297_2 call fu (fun s x0 x1 x2 x3 x4 => nthI st 0 s [x0, x1, x2, x3, x4]) s (nthL v 0) (nthL v 1) (nthL v 2) (nthL v 3) (nthL v 4)) (
    ch (Nat.beq id 16 && Nat.beq i 0) (J297_0 call fu s (nthL v 0)) (
    .err))))))
abbrev orc297b (call : Call) (fu : Nat) (st : List IH) (id : Nat) (ih : IH) (s : St) (v : List AV) : Out := ch (Nat.beq id 6) (L297_1b call fu (fun s x0 x1 x2 x3 x4 => ih s [x0, x1, x2, x3, x4]) s (nthL v 0) (nthL v 1) (nthL v 2) (nthL v 3) (nthL v 4)) (
    .err)
abbrev orc297p (call : Call) (fu : Nat) (st : List IH) (id k : Nat) (s : St) (v : List AV) : Out := ch (Nat.beq id 6) (L297_1 call fu k s (nthL v 0) (nthL v 1) (nthL v 2) (nthL v 3) (nthL v 4)) (
    .err)
abbrev orc297m (call : Call) (fu : Nat) (id : Nat) (v : List AV) (s : St) : Out := .err
def lv297 (id i : Nat) : Option (List Tmp) := bif Nat.beq id 4 && Nat.beq i 0 then some [0, 4] else
    bif Nat.beq id 7 && Nat.beq i 0 then some [33, 6, 0, 31, 32] else
    bif Nat.beq id 11 && Nat.beq i 0 then some [33, 9, 6, 8, 0, 31, 32] else
    bif Nat.beq id 14 && Nat.beq i 0 then some [33, 11, 9, 6, 0, 31, 32] else
    bif Nat.beq id 15 && Nat.beq i 0 then some [33, 6, 0, 31, 32] else
    bif Nat.beq id 6 && Nat.beq i 0 then some [33, 6, 0, 31, 32] else
    bif Nat.beq id 16 && Nat.beq i 0 then some [6] else
    none
/- 305 -/
def F305 (call : Call) (fu : Nat) (args : List AV) (s : St) : Out := match args with
  | [t0] =>
    binK .neq t0 t0 fun v0 =>
    .ret v0 s
  | _ => .err

abbrev orc305c (call : Call) (fu : Nat) (st : List IH) (id i : Nat) (s : St) (v : List AV) : Out := .err
abbrev orc305b (call : Call) (fu : Nat) (st : List IH) (id : Nat) (ih : IH) (s : St) (v : List AV) : Out := .err
abbrev orc305p (call : Call) (fu : Nat) (st : List IH) (id k : Nat) (s : St) (v : List AV) : Out := .err
abbrev orc305m (call : Call) (fu : Nat) (id : Nat) (v : List AV) (s : St) : Out := .err
def lv305 (id i : Nat) : Option (List Tmp) := none
/- 320 -/
def J320_0 (call : Call) (fu : Nat) (s : St) (t10 t9 t8 t0 : AV) : Out :=
    nilK t0 fun v0 =>
    fieldK 1 v0 fun v1 =>
    storeK ⟨1, false⟩ s v1 t8 fun s2 =>
    nilK t0 fun v3 =>
    fieldK 2 v3 fun v4 =>
    storeK ⟨1, false⟩ s2 v4 t9 fun s5 =>
    .ret (.tup [t9, t10]) s5

def J320_1 (call : Call) (fu : Nat) (s : St) (t0 t2 t1 : AV) : Out :=
    nilK t0 fun v6 =>
    fieldK 0 v6 fun v7 =>
    loadK ⟨1, false⟩ s v7 fun v8 =>
    callVK call t1 [v8, t2] s fun v9 s10 =>
    extractK v9 0 fun v11 =>
    extractK v9 1 fun v12 =>
    extractK v9 2 fun v13 =>
    binK .neq v13 (.int .i64 (.ofNat 0)) fun v14 =>
    condK v14 (J320_0 call fu s10 v13 (.bool false) (.int .i64 (.ofNat 0)) t0)
    (J320_0 call fu s10 v13 v12 v11 t0)

def F320 (call : Call) (fu : Nat) (args : List AV) (s : St) : Out := match args with
  | [t0, t1, t2] =>
    outK (call 262 [t0] s) fun v15 s16 =>
    notK v15 fun v17 =>
    condK v17 (.ret (.tup [(.bool false), (.int .i64 (.ofNat 1))]) s16)
    (J320_1 call fu s16 t0 t2 t1)
  | _ => .err

abbrev orc320c (call : Call) (fu : Nat) (st : List IH) (id i : Nat) (s : St) (v : List AV) : Out := ch (Nat.beq id 3 && Nat.beq i 0) (J320_1 call fu s (nthL v 0) (nthL v 1) (nthL v 2)) (
    ch (Nat.beq id 6 && Nat.beq i 0) (J320_0 call fu s (nthL v 0) (nthL v 1) (nthL v 2) (nthL v 3)) (
    .err))
abbrev orc320b (call : Call) (fu : Nat) (st : List IH) (id : Nat) (ih : IH) (s : St) (v : List AV) : Out := .err
abbrev orc320p (call : Call) (fu : Nat) (st : List IH) (id k : Nat) (s : St) (v : List AV) : Out := .err
abbrev orc320m (call : Call) (fu : Nat) (id : Nat) (v : List AV) (s : St) : Out := .err
def lv320 (id i : Nat) : Option (List Tmp) := bif Nat.beq id 3 && Nat.beq i 0 then some [0, 2, 1] else
    bif Nat.beq id 6 && Nat.beq i 0 then some [10, 9, 8, 0] else
    none
/- 321 -/
def J321_0 (call : Call) (fu : Nat) (s : St) : Out :=
    .ret (.tup [(.int .i64 (.ofNat 0)), (.bool false), (.int .i64 (.ofNat 0))]) s

def J321_2 (call : Call) (fu : Nat) (ih1 : St → AV → AV → AV → AV → AV → AV → AV → Out) (s : St) (t20 t18 t4 t3 t2 t17 t0 : AV) : Out :=
    binK .add t18 t20 fun v0 =>
    ih1 s t20 v0 t4 t3 t2 t17 t0

def J321_3 (call : Call) (fu : Nat) (ih1 : St → AV → AV → AV → AV → AV → AV → AV → Out) (s : St) (t23 t22 t21 t20 t18 t86 t4 t3 t2 t17 t0 : AV) : Out :=
    condK t86 (.ret (.tup [t21, t22, t23]) s)
    (J321_2 call fu ih1 s t20 t18 t4 t3 t2 t17 t0)

def J321_4 (call : Call) (fu : Nat) (ih1 : St → AV → AV → AV → AV → AV → AV → AV → Out) (s : St) (t23 t22 t21 t20 t18 t84 t85 t4 t3 t2 t17 t0 : AV) : Out :=
    pickK t84 (.bool true) t85 fun v1 =>
    J321_3 call fu ih1 s t23 t22 t21 t20 t18 v1 t4 t3 t2 t17 t0

def J321_5 (call : Call) (fu : Nat) (ih1 : St → AV → AV → AV → AV → AV → AV → AV → Out) (s : St) (t20 t18 t4 t3 t2 t17 t0 : AV) : Out :=
    fieldK 0 t17 fun v2 =>
    loadK ⟨1, false⟩ s v2 fun v3 =>
    indexSlK 1 v3 t18 fun v4 =>
    loadK ⟨1, false⟩ s v4 fun v5 =>
    binK .add t3 (.int .i64 (.ofNat 1)) fun v6 =>
    outK (call 321 [t0, v5, t2, v6, t4] s) fun v7 s8 =>
    extractK v7 0 fun v9 =>
    extractK v7 1 fun v10 =>
    extractK v7 2 fun v11 =>
    binK .neq v11 (.int .i64 (.ofNat 0)) fun v12 =>
    guardK false v12 (J321_4 call fu ih1 s8 v11 v10 v9 t20 t18 v12 (.tup []) t4 t3 t2 t17 t0) <|
    J321_4 call fu ih1 s8 v11 v10 v9 t20 t18 v12 v10 t4 t3 t2 t17 t0

def J321_6 (call : Call) (fu : Nat) (ih1 : St → AV → AV → AV → AV → AV → AV → AV → Out) (s : St) (t20 t18 t4 t3 t2 t17 t0 t57 t62 : AV) : Out :=
    pickK t57 t62 (.bool false) fun v13 =>
    condK v13 (J321_5 call fu ih1 s t20 t18 t4 t3 t2 t17 t0)
    (J321_0 call fu s)

def L321_1b (call : Call) (fu : Nat) (ih1 : St → AV → AV → AV → AV → AV → AV → AV → Out) (s : St) (t20 t18 t4 t3 t2 t17 t0 : AV) : Out :=
    binK .geq t18 (.int .i64 (.ofNat 0)) fun v14 =>
    guardK true v14 (J321_6 call fu ih1 s t20 t18 t4 t3 t2 t17 t0 v14 (.tup [])) <|
    fieldK 0 t17 fun v15 =>
    loadK ⟨1, false⟩ s v15 fun v16 =>
    lenSlK v16 fun v17 =>
    binK .lss t18 (goInt v17) fun v18 =>
    J321_6 call fu ih1 s t20 t18 t4 t3 t2 t17 t0 v14 v18

def L321_1 (call : Call) (fu : Nat) (n : Nat) : St → AV → AV → AV → AV → AV → AV → AV → Out :=
  Nat.rec (motive := fun _ => St → AV → AV → AV → AV → AV → AV → AV → Out) (fun _ _ _ _ _ _ _ _ => .err) (fun _ ih => L321_1b call fu ih) n

def J321_7 (call : Call) (fu : Nat) (s : St) (t20 t18 t4 t3 t2 t17 t0 : AV) : Out :=
    L321_1 call fu fu s t20 t18 t4 t3 t2 t17 t0

def J321_8 (call : Call) (fu : Nat) (s : St) (t4 t3 t2 t0 t13 : AV) : Out :=
    loadK ⟨3, true⟩ s t13 fun v19 =>
    outK (call 252 [v19] s) fun v20 s21 =>
    allocK s21 355 (.cells [.nils, .nils]) fun v22 s23 =>
    storeK ⟨2, true⟩ s23 v22 v20 fun s24 =>
    loadK ⟨3, true⟩ s24 t13 fun v25 =>
    outK (call 265 [v25, t2] s24) fun v26 s27 =>
    extractK v26 0 fun v28 =>
    extractK v26 1 fun v29 =>
    condK t4 (J321_7 call fu s27 (.int .i64 (.ofNat 1)) v28 t4 t3 t2 v22 t0)
    (J321_7 call fu s27 (.int .i64 (.negSucc 0)) v28 t4 t3 t2 v22 t0)

def J321_9 (call : Call) (fu : Nat) (s : St) (t4 t2 t13 t3 t0 : AV) : Out :=
    fieldK 0 t13 fun v30 =>
    loadK ⟨1, false⟩ s v30 fun v31 =>
    condK v31 (loadK ⟨3, true⟩ s t13 fun v32 =>
    outK (call 366 [v32, t2, t4] s) fun v33 s34 =>
    extractK v33 0 fun v35 =>
    extractK v33 1 fun v36 =>
    .ret (.tup [v35, v36, (.int .i64 (.ofNat 0))]) s34)
    (J321_8 call fu s t4 t3 t2 t0 t13)

def J321_10 (call : Call) (fu : Nat) (s : St) (t4 t2 t3 t0 t1 : AV) : Out :=
    outK (call 131 [t0, t1] s) fun v37 s38 =>
    extractK v37 0 fun v39 =>
    extractK v37 1 fun v40 =>
    allocK s38 206 (.cells [(.bool false), (.int .i64 (.ofNat 0)), .nils]) fun v41 s42 =>
    storeK ⟨3, true⟩ s42 v41 v39 fun s43 =>
    binK .neq v40 (.int .i64 (.ofNat 0)) fun v44 =>
    condK v44 (.ret (.tup [(.int .i64 (.ofNat 0)), (.bool false), v40]) s43)
    (J321_9 call fu s43 t4 t2 v41 t3 t0)

def F321 (call : Call) (fu : Nat) (args : List AV) (s : St) : Out := match args with
  | [t0, t1, t2, t3, t4] =>
    binK .gtr t3 (.int .i64 (.ofNat 20)) fun v45 =>
    condK v45 (.ret (.tup [(.int .i64 (.ofNat 0)), (.bool false), (.int .i64 (.ofNat 9))]) s)
    (J321_10 call fu s t4 t2 t3 t0 t1)
  | _ => .err

abbrev orc321c (call : Call) (fu : Nat) (st : List IH) (id i : Nat) (s : St) (v : List AV) : Out := ch (Nat.beq id 3 && Nat.beq i 0) (J321_10 call fu s (nthL v 0) (nthL v 1) (nthL v 2) (nthL v 3) (nthL v 4)) (
    ch (Nat.beq id 6 && Nat.beq i 0) (J321_9 call fu s (nthL v 0) (nthL v 1) (nthL v 2) (nthL v 3) (nthL v 4)) (
    ch (Nat.beq id 9 && Nat.beq i 0) (J321_8 call fu s (nthL v 0) (nthL v 1) (nthL v 2) (nthL v 3) (nthL v 4)) (
    ch (Nat.beq id 14 && Nat.beq i 0) (J321_7 call fu s (nthL v 0) (nthL v 1) (nthL v 2) (nthL v 3) (nthL v 4) (nthL v 5) (nthL v 6)) (
    ch (Nat.beq id 14 && Nat.beq i 8) (J321_6 call fu (fun s x0 x1 x2 x3 x4 x5 x6 => nthI st 0 s [x0, x1, x2, x3, x4, x5, x6]) s (nthL v 0) (nthL v 1) (nthL v 2) (nthL v 3) (nthL v 4) (nthL v 5) (nthL v 6) (nthL v 7) (nthL v 8)) (
    ch (Nat.beq id 16 && Nat.beq i 0) (J321_5 call fu (fun s x0 x1 x2 x3 x4 x5 x6 => nthI st 0 s [x0, x1, x2, x3, x4, x5, x6]) s (nthL v 0) (nthL v 1) (nthL v 2) (nthL v 3) (nthL v 4) (nthL v 5) (nthL v 6)) (
    ch (Nat.beq id 17 && Nat.beq i 4) (J321_4 call fu (fun s x0 x1 x2 x3 x4 x5 x6 => nthI st 0 s [x0, x1, x2, x3, x4, x5, x6]) s (nthL v 0) (nthL v 1) (nthL v 2) (nthL v 3) (nthL v 4) (nthL v 5) (nthL v 6) (nthL v 7) (nthL v 8) (nthL v 9) (nthL v 10) (nthL v 11)) (
    ch (Nat.beq id 18 && Nat.beq i 0) (J321_3 call fu (fun s x0 x1 x2 x3 x4 x5 x6 => nthI st 0 s [x0, x1, x2, x3, x4, x5, x6]) s (nthL v 0) (nthL v 1) (nthL v 2) (nthL v 3) (nthL v 4) (nthL v 5) (nthL v 6) (nthL v 7) (nthL v 8) (nthL v 9) (nthL v 10)) (
    ch (Nat.beq id 15 && Nat.beq i 0) (J321_2 call fu (fun s x0 x1 x2 x3 x4 x5 x6 => nthI st 0 s [x0, x1, x2, x3, x4, x5, x6]) s (nthL v 0) (nthL v 1) (nthL v 2) (nthL v 3) (nthL v 4) (nthL v 5) (nthL v 6)) (
    ch (Nat.beq id 19 && Nat.beq i 0) (J321_0 call fu s) (
    .err))))))))))
abbrev orc321b (call : Call) (fu : Nat) (st : List IH) (id : Nat) (ih : IH) (s : St) (v : List AV) : Out := ch (Nat.beq id 14) (L321_1b call fu (fun s x0 x1 x2 x3 x4 x5 x6 => ih s [x0, x1, x2, x3, x4, x5, x6]) s (nthL v 0) (nthL v 1) (nthL v 2) (nthL v 3) (nthL v 4) (nthL v 5) (nthL v 6)) (
    .err)
abbrev orc321p (call : Call) (fu : Nat) (st : List IH) (id k : Nat) (s : St) (v : List AV) : Out := ch (Nat.beq id 14) (L321_1 call fu k s (nthL v 0) (nthL v 1) (nthL v 2) (nthL v 3) (nthL v 4) (nthL v 5) (nthL v 6)) (
    .err)
abbrev orc321m (call : Call) (fu : Nat) (id : Nat) (v : List AV) (s : St) : Out := .err
def lv321 (id i : Nat) : Option (List Tmp) := bif Nat.beq id 3 && Nat.beq i 0 then some [4, 2, 3, 0, 1] else
    bif Nat.beq id 6 && Nat.beq i 0 then some [4, 2, 13, 3, 0] else
    bif Nat.beq id 9 && Nat.beq i 0 then some [4, 3, 2, 0, 13] else
    bif Nat.beq id 14 && Nat.beq i 8 then some [20, 18, 4, 3, 2, 17, 0, 57, 62] else
    bif Nat.beq id 16 && Nat.beq i 0 then some [20, 18, 4, 3, 2, 17, 0] else
    bif Nat.beq id 17 && Nat.beq i 4 then some [23, 22, 21, 20, 18, 84, 85, 4, 3, 2, 17, 0] else
    bif Nat.beq id 18 && Nat.beq i 0 then some [23, 22, 21, 20, 18, 86, 4, 3, 2, 17, 0] else
    bif Nat.beq id 15 && Nat.beq i 0 then some [20, 18, 4, 3, 2, 17, 0] else
    bif Nat.beq id 14 && Nat.beq i 0 then some [20, 18, 4, 3, 2, 17, 0] else
    bif Nat.beq id 19 && Nat.beq i 0 then some [] else
    none
/- 322 -/
def J322_0 (call : Call) (fu : Nat) (s : St) (t3 : AV) : Out :=
    .ret t3 s

def J322_2 (call : Call) (fu : Nat) (ih1 : St → AV → AV → AV → AV → AV → Out) (s : St) (t9 t1 t3 t7 t8 : AV) : Out :=
    binK .add t9 (.int .i64 (.ofNat 1)) fun v0 =>
    ih1 s v0 t1 t3 t7 t8

def J322_3 (call : Call) (fu : Nat) (ih1 : St → AV → AV → AV → AV → AV → Out) (s : St) (t9 t1 t3 t7 t8 : AV) : Out :=
    indexSlK 5 t7 t9 fun v1 =>
    loadK ⟨5, true⟩ s v1 fun v2 =>
    allocK s 211 (.cells [(.int .i64 (.ofNat 0)), (.int .i64 (.ofNat 0)), (.int .i64 (.ofNat 0)), .nils, (.int .i64 (.ofNat 0))]) fun v3 s4 =>
    storeK ⟨5, true⟩ s4 v3 v2 fun s5 =>
    loadK ⟨5, true⟩ s5 v3 fun v6 =>
    fieldK 0 t1 fun v7 =>
    loadK ⟨1, false⟩ s5 v7 fun v8 =>
    outK (call 367 [v6, v8] s5) fun v9 s10 =>
    binK .add t3 v9 fun v11 =>
    J322_2 call fu ih1 s10 t9 t1 v11 t7 t8

def L322_1b (call : Call) (fu : Nat) (ih1 : St → AV → AV → AV → AV → AV → Out) (s : St) (t9 t1 t3 t7 t8 : AV) : Out :=
    binK .lss t9 t8 fun v12 =>
    condK v12 (J322_3 call fu ih1 s t9 t1 t3 t7 t8)
    (J322_0 call fu s t3)

def L322_1 (call : Call) (fu : Nat) (n : Nat) : St → AV → AV → AV → AV → AV → Out :=
  Nat.rec (motive := fun _ => St → AV → AV → AV → AV → AV → Out) (fun _ _ _ _ _ _ => .err) (fun _ ih => L322_1b call fu ih) n

def F322 (call : Call) (fu : Nat) (args : List AV) (s : St) : Out := match args with
  | [t0] =>
    boxK s 206 3 t0 fun v13 s14 =>
    fieldK 2 v13 fun v15 =>
    loadK ⟨1, false⟩ s14 v15 fun v16 =>
    lenSlK v16 fun v17 =>
    L322_1 call fu fu s14 (.int .i64 (.ofNat 0)) v13 (.int .i64 (.ofNat 7)) v16 (goInt v17)
  | _ => .err

abbrev orc322c (call : Call) (fu : Nat) (st : List IH) (id i : Nat) (s : St) (v : List AV) : Out := ch (Nat.beq id 4 && Nat.beq i 0) (J322_3 call fu (fun s x0 x1 x2 x3 x4 => nthI st 0 s [x0, x1, x2, x3, x4]) s (nthL v 0) (nthL v 1) (nthL v 2) (nthL v 3) (nthL v 4)) (
    ch (Nat.beq id 6 && Nat.beq i 0) (J322_2 call fu (fun s x0 x1 x2 x3 x4 => nthI st 0 s [x0, x1, x2, x3, x4]) s (nthL v 0) (nthL v 1) (nthL v 2) (nthL v 3) (nthL v 4)) (
    ch (Nat.beq id 7 && Nat.beq i 0) (J322_0 call fu s (nthL v 0)) (
    .err)))
abbrev orc322b (call : Call) (fu : Nat) (st : List IH) (id : Nat) (ih : IH) (s : St) (v : List AV) : Out := ch (Nat.beq id 3) (L322_1b call fu (fun s x0 x1 x2 x3 x4 => ih s [x0, x1, x2, x3, x4]) s (nthL v 0) (nthL v 1) (nthL v 2) (nthL v 3) (nthL v 4)) (
    .err)
abbrev orc322p (call : Call) (fu : Nat) (st : List IH) (id k : Nat) (s : St) (v : List AV) : Out := ch (Nat.beq id 3) (L322_1 call fu k s (nthL v 0) (nthL v 1) (nthL v 2) (nthL v 3) (nthL v 4)) (
    .err)
abbrev orc322m (call : Call) (fu : Nat) (id : Nat) (v : List AV) (s : St) : Out := .err
def lv322 (id i : Nat) : Option (List Tmp) := bif Nat.beq id 4 && Nat.beq i 0 then some [9, 1, 3, 7, 8] else
    bif Nat.beq id 6 && Nat.beq i 0 then some [9, 1, 3, 7, 8] else
    bif Nat.beq id 3 && Nat.beq i 0 then some [9, 1, 3, 7, 8] else
    bif Nat.beq id 7 && Nat.beq i 0 then some [3] else
    none
/- 332 -/
def J332_0 (call : Call) (fu : Nat) (s : St) (t1 : AV) : Out :=
    fieldK 4 t1 fun v0 =>
    loadK ⟨1, false⟩ s v0 fun v1 =>
    binK .eql v1 (.int .i64 (.ofNat 0)) fun v2 =>
    .ret v2 s

def J332_1 (call : Call) (fu : Nat) (s : St) (t1 : AV) : Out :=
    loadK ⟨5, true⟩ s t1 fun v3 =>
    outK (call 336 [v3] s) fun v4 s5 =>
    condK v4 (fieldK 4 t1 fun v6 =>
    loadK ⟨1, false⟩ s5 v6 fun v7 =>
    outK (call 333 [v7] s5) fun v8 s9 =>
    .ret v8 s9)
    (J332_0 call fu s5 t1)

def J332_2 (call : Call) (fu : Nat) (s : St) (t1 t24 : AV) : Out :=
    condK t24 (.ret (.bool false) s)
    (J332_1 call fu s t1)

def J332_3 (call : Call) (fu : Nat) (s : St) (t1 t16 t23 : AV) : Out :=
    pickK t16 (.bool true) t23 fun v10 =>
    J332_2 call fu s t1 v10

def J332_4 (call : Call) (fu : Nat) (s : St) (t1 t11 t14 : AV) : Out :=
    pickK t11 (.bool true) t14 fun v11 =>
    guardK false v11 (J332_3 call fu s t1 v11 (.tup [])) <|
    fieldK 3 t1 fun v12 =>
    loadK ⟨1, false⟩ s v12 fun v13 =>
    lenSlK v13 fun v14 =>
    fieldK 2 t1 fun v15 =>
    loadK ⟨1, false⟩ s v15 fun v16 =>
    outK (call 191 [v16] s) fun v17 s18 =>
    againK ⟨1, false⟩ s18 v12 v13 <|
    binK .neq (goInt v14) v17 fun v19 =>
    J332_3 call fu s18 t1 v11 v19

def J332_5 (call : Call) (fu : Nat) (s : St) (t1 t6 t9 : AV) : Out :=
    pickK t6 (.bool true) t9 fun v20 =>
    guardK false v20 (J332_4 call fu s t1 v20 (.tup [])) <|
    fieldK 2 t1 fun v21 =>
    loadK ⟨1, false⟩ s v21 fun v22 =>
    binK .gtr v22 (.int .i64 (.ofNat 20000)) fun v23 =>
    J332_4 call fu s t1 v20 v23

def F332 (call : Call) (fu : Nat) (args : List AV) (s : St) : Out := match args with
  | [t0] =>
    boxK s 211 5 t0 fun v24 s25 =>
    fieldK 1 v24 fun v26 =>
    loadK ⟨1, false⟩ s25 v26 fun v27 =>
    binK .neq v27 (.int .i64 (.ofNat 0)) fun v28 =>
    guardK false v28 (J332_5 call fu s25 v24 v28 (.tup [])) <|
    fieldK 2 v24 fun v29 =>
    loadK ⟨1, false⟩ s25 v29 fun v30 =>
    binK .lss v30 (.int .i64 (.ofNat 0)) fun v31 =>
    J332_5 call fu s25 v24 v28 v31
  | _ => .err

abbrev orc332c (call : Call) (fu : Nat) (st : List IH) (id i : Nat) (s : St) (v : List AV) : Out := ch (Nat.beq id 1 && Nat.beq i 1007) (J332_5 call fu s (nthL v 0) (nthL v 1) (nthL v 2)) (
    ch (Nat.beq id 1 && Nat.beq i 1012) (J332_4 call fu s (nthL v 0) (nthL v 1) (nthL v 2)) (
    ch (Nat.beq id 1 && Nat.beq i 1021) (J332_3 call fu s (nthL v 0) (nthL v 1) (nthL v 2)) (
    ch (Nat.beq id 2 && Nat.beq i 0) (J332_2 call fu s (nthL v 0) (nthL v 1)) (
    ch (Nat.beq id 3 && Nat.beq i 0) (J332_1 call fu s (nthL v 0)) (
    ch (Nat.beq id 5 && Nat.beq i 0) (J332_0 call fu s (nthL v 0)) (
    .err))))))
abbrev orc332b (call : Call) (fu : Nat) (st : List IH) (id : Nat) (ih : IH) (s : St) (v : List AV) : Out := .err
abbrev orc332p (call : Call) (fu : Nat) (st : List IH) (id k : Nat) (s : St) (v : List AV) : Out := .err
abbrev orc332m (call : Call) (fu : Nat) (id : Nat) (v : List AV) (s : St) : Out := .err
def lv332 (id i : Nat) : Option (List Tmp) := bif Nat.beq id 1 && Nat.beq i 1007 then some [1, 6, 9] else
    bif Nat.beq id 1 && Nat.beq i 1012 then some [1, 11, 14] else
    bif Nat.beq id 1 && Nat.beq i 1021 then some [1, 16, 23] else
    bif Nat.beq id 2 && Nat.beq i 0 then some [1, 24] else
    bif Nat.beq id 3 && Nat.beq i 0 then some [1] else
    bif Nat.beq id 5 && Nat.beq i 0 then some [1] else
    none
/- 334 -/
def J334_0 (call : Call) (fu : Nat) (s : St) (t7 t5 : AV) : Out :=
    fillK (.bytes 1 0) [(0, 1, t7)] fun v0 => newK s (.row 5 v0) fun i1 s2 =>
    appK 5 1 s2 t5 (.slice i1 0 1 1 1 false) fun v3 s4 =>
    .ret v3 s4

def J334_2 (call : Call) (fu : Nat) (ih1 : St → AV → AV → AV → AV → Out) (s : St) (t8 t1 t5 t7 : AV) : Out :=
    binK .sub t8 (.int .i64 (.ofNat 1)) fun v5 =>
    ih1 s v5 t1 t5 t7

def J334_3 (call : Call) (fu : Nat) (ih1 : St → AV → AV → AV → AV → Out) (s : St) (t8 t1 t5 t7 : AV) : Out :=
    binK .mul (.int .i64 (.ofNat 7)) t8 fun v6 =>
    binK .shr t1 v6 fun v7 =>
    convK .u8 v7 fun v8 =>
    binK .or v8 (.int .u8 (.ofNat 128)) fun v9 =>
    fillK (.bytes 1 0) [(0, 1, v9)] fun v10 => newK s (.row 5 v10) fun i11 s12 =>
    appK 5 1 s12 t5 (.slice i11 0 1 1 1 false) fun v13 s14 =>
    J334_2 call fu ih1 s14 t8 t1 v13 t7

def L334_1b (call : Call) (fu : Nat) (ih1 : St → AV → AV → AV → AV → Out) (s : St) (t8 t1 t5 t7 : AV) : Out :=
    binK .gtr t8 (.int .i64 (.ofNat 0)) fun v15 =>
    condK v15 (J334_3 call fu ih1 s t8 t1 t5 t7)
    (J334_0 call fu s t7 t5)

def L334_1 (call : Call) (fu : Nat) (n : Nat) : St → AV → AV → AV → AV → Out :=
  Nat.rec (motive := fun _ => St → AV → AV → AV → AV → Out) (fun _ _ _ _ _ => .err) (fun _ ih => L334_1b call fu ih) n

def J334_4 (call : Call) (fu : Nat) (s : St) (t1 t5 t7 t6 : AV) : Out :=
    binK .sub t6 (.int .i64 (.ofNat 1)) fun v16 =>
    L334_1 call fu fu s v16 t1 t5 t7

def F334 (call : Call) (fu : Nat) (args : List AV) (s : St) : Out := match args with
  | [t0, t1] =>
    outK (call 185 [t0] s) fun v17 s18 =>
    outK (call 377 [t1] s18) fun v19 s20 =>
    convK .u8 t1 fun v21 =>
    binK .andNot v21 (.int .u8 (.ofNat 128)) fun v22 =>
    binK .eql v19 (.int .i64 (.ofNat 9)) fun v23 =>
    condK v23 (convK .u8 t1 fun v24 =>
    binK .shr t1 (.int .u64 (.ofNat 1)) fun v25 =>
    J334_4 call fu s20 v25 v17 v24 v19)
    (J334_4 call fu s20 t1 v17 v22 v19)
  | _ => .err

abbrev orc334c (call : Call) (fu : Nat) (st : List IH) (id i : Nat) (s : St) (v : List AV) : Out := ch (Nat.beq id 7 && Nat.beq i 0) (J334_4 call fu s (nthL v 0) (nthL v 1) (nthL v 2) (nthL v 3)) (
    ch (Nat.beq id 10 && Nat.beq i 0) (J334_3 call fu (fun s x0 x1 x2 x3 => nthI st 0 s [x0, x1, x2, x3]) s (nthL v 0) (nthL v 1) (nthL v 2) (nthL v 3)) (
    ch (Nat.beq id 9 && Nat.beq i 0) (J334_2 call fu (fun s x0 x1 x2 x3 => nthI st 0 s [x0, x1, x2, x3]) s (nthL v 0) (nthL v 1) (nthL v 2) (nthL v 3)) (
    ch (Nat.beq id 11 && Nat.beq i 0) (J334_0 call fu s (nthL v 0) (nthL v 1)) (
    .err))))
abbrev orc334b (call : Call) (fu : Nat) (st : List IH) (id : Nat) (ih : IH) (s : St) (v : List AV) : Out := ch (Nat.beq id 8) (L334_1b call fu (fun s x0 x1 x2 x3 => ih s [x0, x1, x2, x3]) s (nthL v 0) (nthL v 1) (nthL v 2) (nthL v 3)) (
    .err)
abbrev orc334p (call : Call) (fu : Nat) (st : List IH) (id k : Nat) (s : St) (v : List AV) : Out := ch (Nat.beq id 8) (L334_1 call fu k s (nthL v 0) (nthL v 1) (nthL v 2) (nthL v 3)) (
    .err)
abbrev orc334m (call : Call) (fu : Nat) (id : Nat) (v : List AV) (s : St) : Out := .err
def lv334 (id i : Nat) : Option (List Tmp) := bif Nat.beq id 7 && Nat.beq i 0 then some [1, 5, 7, 6] else
    bif Nat.beq id 10 && Nat.beq i 0 then some [8, 1, 5, 7] else
    bif Nat.beq id 9 && Nat.beq i 0 then some [8, 1, 5, 7] else
    bif Nat.beq id 8 && Nat.beq i 0 then some [8, 1, 5, 7] else
    bif Nat.beq id 11 && Nat.beq i 0 then some [7, 5] else
    none
/- 335 -/
def F335 (call : Call) (fu : Nat) (args : List AV) (s : St) : Out := match args with
  | [t0] =>
    convK .u64 t0 fun v0 =>
    binK .shl v0 (.int .u64 (.ofNat 1)) fun v1 =>
    binK .shr t0 (.int .u64 (.ofNat 63)) fun v2 =>
    convK .u64 v2 fun v3 =>
    binK .xor v1 v3 fun v4 =>
    .ret v4 s
  | _ => .err

abbrev orc335c (call : Call) (fu : Nat) (st : List IH) (id i : Nat) (s : St) (v : List AV) : Out := .err
abbrev orc335b (call : Call) (fu : Nat) (st : List IH) (id : Nat) (ih : IH) (s : St) (v : List AV) : Out := .err
abbrev orc335p (call : Call) (fu : Nat) (st : List IH) (id k : Nat) (s : St) (v : List AV) : Out := .err
abbrev orc335m (call : Call) (fu : Nat) (id : Nat) (v : List AV) (s : St) : Out := .err
def lv335 (id i : Nat) : Option (List Tmp) := none
/- 336 -/
def F336 (call : Call) (fu : Nat) (args : List AV) (s : St) : Out := match args with
  | [t0] =>
    boxK s 211 5 t0 fun v0 s1 =>
    fieldK 3 v0 fun v2 =>
    loadK ⟨1, false⟩ s1 v2 fun v3 =>
    lenSlK v3 fun v4 =>
    fieldK 2 v0 fun v5 =>
    loadK ⟨1, false⟩ s1 v5 fun v6 =>
    binK .lss (goInt v4) v6 fun v7 =>
    .ret v7 s1
  | _ => .err

abbrev orc336c (call : Call) (fu : Nat) (st : List IH) (id i : Nat) (s : St) (v : List AV) : Out := .err
abbrev orc336b (call : Call) (fu : Nat) (st : List IH) (id : Nat) (ih : IH) (s : St) (v : List AV) : Out := .err
abbrev orc336p (call : Call) (fu : Nat) (st : List IH) (id k : Nat) (s : St) (v : List AV) : Out := .err
abbrev orc336m (call : Call) (fu : Nat) (id : Nat) (v : List AV) (s : St) : Out := .err
def lv336 (id i : Nat) : Option (List Tmp) := none
/- 337 -/
def J337_0 (call : Call) (fu : Nat) (s : St) (t0 : AV) : Out :=
    loadK ⟨1, false⟩ s t0 fun v0 =>
    .ret (.tup [v0, (.int .i64 (.ofNat 0))]) s

def J337_1 (call : Call) (fu : Nat) (s : St) (t0 t3 t2 t1 : AV) : Out :=
    loadK ⟨1, false⟩ s t1 fun v1 =>
    nilK v1 fun v2 =>
    fieldK 1 v2 fun v3 =>
    loadK ⟨1, false⟩ s v3 fun v4 =>
    loadK ⟨1, false⟩ s t0 fun v5 =>
    loadK ⟨1, false⟩ s t2 fun v6 =>
    outK (call 155 [v4, v5, v6] s) fun v7 s8 =>
    extractK v7 0 fun v9 =>
    extractK v7 1 fun v10 =>
    storeK ⟨1, false⟩ s8 t3 v9 fun s11 =>
    notK v10 fun v12 =>
    condK v12 (.ret (.tup [(.int .i64 (.ofNat 0)), (.int .i64 (.ofNat 8))]) s11)
    (J337_0 call fu s11 t0)

def J337_2 (call : Call) (fu : Nat) (s : St) (t0 t3 t2 t1 t12 : AV) : Out :=
    condK t12 (.ret (.tup [(.int .i64 (.ofNat 0)), (.int .i64 (.ofNat 2))]) s)
    (J337_1 call fu s t0 t3 t2 t1)

def J337_3 (call : Call) (fu : Nat) (s : St) (t0 t3 t2 t1 t9 t11 : AV) : Out :=
    pickK t9 (.bool true) t11 fun v13 =>
    J337_2 call fu s t0 t3 t2 t1 v13

def F337 (call : Call) (fu : Nat) (args : List AV) (s : St) : Out := match args with
  | [t0, t1, t2, t3] =>
    loadK ⟨1, false⟩ s t0 fun v14 =>
    binK .lss v14 (.int .i64 (.ofNat 1)) fun v15 =>
    guardK false v15 (J337_3 call fu s t0 t3 t2 t1 v15 (.tup [])) <|
    loadK ⟨1, false⟩ s t0 fun v16 =>
    binK .gtr v16 (.int .i64 (.ofNat 8)) fun v17 =>
    J337_3 call fu s t0 t3 t2 t1 v15 v17
  | _ => .err

abbrev orc337c (call : Call) (fu : Nat) (st : List IH) (id i : Nat) (s : St) (v : List AV) : Out := ch (Nat.beq id 1 && Nat.beq i 5) (J337_3 call fu s (nthL v 0) (nthL v 1) (nthL v 2) (nthL v 3) (nthL v 4) (nthL v 5)) (
    ch (Nat.beq id 2 && Nat.beq i 0) (J337_2 call fu s (nthL v 0) (nthL v 1) (nthL v 2) (nthL v 3) (nthL v 4)) (
    ch (Nat.beq id 3 && Nat.beq i 0) (J337_1 call fu s (nthL v 0) (nthL v 1) (nthL v 2) (nthL v 3)) (
    ch (Nat.beq id 7 && Nat.beq i 0) (J337_0 call fu s (nthL v 0)) (
    .err))))
abbrev orc337b (call : Call) (fu : Nat) (st : List IH) (id : Nat) (ih : IH) (s : St) (v : List AV) : Out := .err
abbrev orc337p (call : Call) (fu : Nat) (st : List IH) (id k : Nat) (s : St) (v : List AV) : Out := .err
abbrev orc337m (call : Call) (fu : Nat) (id : Nat) (v : List AV) (s : St) : Out := .err
def lv337 (id i : Nat) : Option (List Tmp) := bif Nat.beq id 1 && Nat.beq i 5 then some [0, 3, 2, 1, 9, 11] else
    bif Nat.beq id 2 && Nat.beq i 0 then some [0, 3, 2, 1, 12] else
    bif Nat.beq id 3 && Nat.beq i 0 then some [0, 3, 2, 1] else
    bif Nat.beq id 7 && Nat.beq i 0 then some [0] else
    none
/- 339 -/
def F339 (call : Call) (fu : Nat) (args : List AV) (s : St) : Out := match args with
  | [t0, t1] =>
    boxK s 310 1 t0 fun v0 s1 =>
    boxK s1 246 1 t1 fun v2 s3 =>
    allocK s3 246 (.cells [(.int .u64 (.ofNat 0))]) fun v4 s5 =>
    loadK ⟨1, false⟩ s5 v0 fun v6 =>
    outK (call 283 [v6, (.func 378 [] [v0, v2, v4])] s5) fun v7 s8 =>
    loadK ⟨1, false⟩ s8 v4 fun v9 =>
    .ret v9 s8
  | _ => .err

abbrev orc339c (call : Call) (fu : Nat) (st : List IH) (id i : Nat) (s : St) (v : List AV) : Out := .err
abbrev orc339b (call : Call) (fu : Nat) (st : List IH) (id : Nat) (ih : IH) (s : St) (v : List AV) : Out := .err
abbrev orc339p (call : Call) (fu : Nat) (st : List IH) (id k : Nat) (s : St) (v : List AV) : Out := .err
abbrev orc339m (call : Call) (fu : Nat) (id : Nat) (v : List AV) (s : St) : Out := .err
def lv339 (id i : Nat) : Option (List Tmp) := none
/- 340 -/
def F340 (call : Call) (fu : Nat) (args : List AV) (s : St) : Out := match args with
  | [t0] =>
    binK .shr t0 (.int .u64 (.ofNat 1)) fun v0 =>
    convK .i64 v0 fun v1 =>
    binK .and t0 (.int .u64 (.ofNat 1)) fun v2 =>
    convK .i64 v2 fun v3 =>
    negK v3 fun v4 =>
    binK .xor v1 v4 fun v5 =>
    .ret v5 s
  | _ => .err

abbrev orc340c (call : Call) (fu : Nat) (st : List IH) (id i : Nat) (s : St) (v : List AV) : Out := .err
abbrev orc340b (call : Call) (fu : Nat) (st : List IH) (id : Nat) (ih : IH) (s : St) (v : List AV) : Out := .err
abbrev orc340p (call : Call) (fu : Nat) (st : List IH) (id k : Nat) (s : St) (v : List AV) : Out := .err
abbrev orc340m (call : Call) (fu : Nat) (id : Nat) (v : List AV) (s : St) : Out := .err
def lv340 (id i : Nat) : Option (List Tmp) := none
/- 366 -/
def J366_0 (call : Call) (fu : Nat) (s : St) (t8 t3 : AV) : Out :=
    fieldK 2 t3 fun v0 =>
    loadK ⟨1, false⟩ s v0 fun v1 =>
    indexSlK 5 v1 t8 fun v2 =>
    fieldK 0 v2 fun v3 =>
    loadK ⟨1, false⟩ s v3 fun v4 =>
    .ret (.tup [v4, (.bool true)]) s

def J366_1 (call : Call) (fu : Nat) (s : St) (t8 t3 t33 : AV) : Out :=
    condK t33 (.ret (.tup [(.int .i64 (.ofNat 0)), (.bool false)]) s)
    (J366_0 call fu s t8 t3)

def J366_2 (call : Call) (fu : Nat) (s : St) (t8 t3 t27 t32 : AV) : Out :=
    pickK t27 (.bool true) t32 fun v5 =>
    J366_1 call fu s t8 t3 v5

def J366_3 (call : Call) (fu : Nat) (s : St) (t8 t3 : AV) : Out :=
    binK .lss t8 (.int .i64 (.ofNat 0)) fun v6 =>
    guardK false v6 (J366_2 call fu s t8 t3 v6 (.tup [])) <|
    fieldK 2 t3 fun v7 =>
    loadK ⟨1, false⟩ s v7 fun v8 =>
    lenSlK v8 fun v9 =>
    binK .geq t8 (goInt v9) fun v10 =>
    J366_2 call fu s t8 t3 v6 v10

def F366 (call : Call) (fu : Nat) (args : List AV) (s : St) : Out := match args with
  | [t0, t1, t2] =>
    boxK s 206 3 t0 fun v11 s12 =>
    loadK ⟨3, true⟩ s12 v11 fun v13 =>
    outK (call 115 [v13, t1] s12) fun v14 s15 =>
    extractK v14 0 fun v16 =>
    extractK v14 1 fun v17 =>
    notK t2 fun v18 =>
    condK v18 (binK .sub v16 (.int .i64 (.ofNat 1)) fun v19 =>
    J366_3 call fu s15 v19 v11)
    (condK v17 (binK .add v16 (.int .i64 (.ofNat 1)) fun v20 =>
    J366_3 call fu s15 v20 v11)
    (J366_3 call fu s15 v16 v11))
  | _ => .err

abbrev orc366c (call : Call) (fu : Nat) (st : List IH) (id i : Nat) (s : St) (v : List AV) : Out := ch (Nat.beq id 6 && Nat.beq i 0) (J366_3 call fu s (nthL v 0) (nthL v 1)) (
    ch (Nat.beq id 6 && Nat.beq i 8) (J366_2 call fu s (nthL v 0) (nthL v 1) (nthL v 2) (nthL v 3)) (
    ch (Nat.beq id 7 && Nat.beq i 0) (J366_1 call fu s (nthL v 0) (nthL v 1) (nthL v 2)) (
    ch (Nat.beq id 8 && Nat.beq i 0) (J366_0 call fu s (nthL v 0) (nthL v 1)) (
    .err))))
abbrev orc366b (call : Call) (fu : Nat) (st : List IH) (id : Nat) (ih : IH) (s : St) (v : List AV) : Out := .err
abbrev orc366p (call : Call) (fu : Nat) (st : List IH) (id k : Nat) (s : St) (v : List AV) : Out := .err
abbrev orc366m (call : Call) (fu : Nat) (id : Nat) (v : List AV) (s : St) : Out := .err
def lv366 (id i : Nat) : Option (List Tmp) := bif Nat.beq id 6 && Nat.beq i 0 then some [8, 3] else
    bif Nat.beq id 6 && Nat.beq i 8 then some [8, 3, 27, 32] else
    bif Nat.beq id 7 && Nat.beq i 0 then some [8, 3, 33] else
    bif Nat.beq id 8 && Nat.beq i 0 then some [8, 3] else
    none
/- 367 -/
def J367_0 (call : Call) (fu : Nat) (s : St) (t5 : AV) : Out :=
    .ret t5 s

def J367_1 (call : Call) (fu : Nat) (s : St) (t2 : AV) : Out :=
    fieldK 0 t2 fun v0 =>
    loadK ⟨1, false⟩ s v0 fun v1 =>
    fieldK 2 t2 fun v2 =>
    loadK ⟨1, false⟩ s v2 fun v3 =>
    convK .u64 v3 fun v4 =>
    fieldK 3 t2 fun v5 =>
    loadK ⟨1, false⟩ s v5 fun v6 =>
    lenSlK v6 fun v7 =>
    outK (call 335 [v1] s) fun v8 s9 =>
    againK ⟨1, false⟩ s9 v5 v6 <|
    againK ⟨1, false⟩ s9 v2 v3 <|
    outK (call 377 [v8] s9) fun v10 s11 =>
    againK ⟨1, false⟩ s11 v5 v6 <|
    againK ⟨1, false⟩ s11 v2 v3 <|
    outK (call 377 [v4] s11) fun v12 s13 =>
    againK ⟨1, false⟩ s13 v5 v6 <|
    binK .add v10 v12 fun v14 =>
    binK .add v14 (goInt v7) fun v15 =>
    loadK ⟨5, true⟩ s13 t2 fun v16 =>
    outK (call 336 [v16] s13) fun v17 s18 =>
    condK v17 (binK .add v15 (.int .i64 (.ofNat 4)) fun v19 =>
    J367_0 call fu s18 v19)
    (J367_0 call fu s18 v15)

def F367 (call : Call) (fu : Nat) (args : List AV) (s : St) : Out := match args with
  | [t0, t1] =>
    boxK s 211 5 t0 fun v20 s21 =>
    notK t1 fun v22 =>
    condK v22 (fieldK 0 v20 fun v23 =>
    loadK ⟨1, false⟩ s21 v23 fun v24 =>
    outK (call 335 [v24] s21) fun v25 s26 =>
    outK (call 377 [v25] s26) fun v27 s28 =>
    binK .add (.int .i64 (.ofNat 4)) v27 fun v29 =>
    .ret v29 s28)
    (J367_1 call fu s21 v20)
  | _ => .err

abbrev orc367c (call : Call) (fu : Nat) (st : List IH) (id i : Nat) (s : St) (v : List AV) : Out := ch (Nat.beq id 3 && Nat.beq i 0) (J367_1 call fu s (nthL v 0)) (
    ch (Nat.beq id 6 && Nat.beq i 0) (J367_0 call fu s (nthL v 0)) (
    .err))
abbrev orc367b (call : Call) (fu : Nat) (st : List IH) (id : Nat) (ih : IH) (s : St) (v : List AV) : Out := .err
abbrev orc367p (call : Call) (fu : Nat) (st : List IH) (id k : Nat) (s : St) (v : List AV) : Out := .err
abbrev orc367m (call : Call) (fu : Nat) (id : Nat) (v : List AV) (s : St) : Out := .err
def lv367 (id i : Nat) : Option (List Tmp) := bif Nat.beq id 3 && Nat.beq i 0 then some [2] else
    bif Nat.beq id 6 && Nat.beq i 0 then some [5] else
    none
/- 377 -/
def J377_0 (call : Call) (fu : Nat) (s : St) : Out :=
    .ret (.int .i64 (.ofNat 9)) s

def J377_2 (call : Call) (fu : Nat) (ih1 : St → AV → AV → Out) (s : St) (t3 t0 : AV) : Out :=
    binK .add t3 (.int .i64 (.ofNat 1)) fun v0 =>
    ih1 s v0 t0

def J377_3 (call : Call) (fu : Nat) (ih1 : St → AV → AV → Out) (s : St) (t3 t0 : AV) : Out :=
    binK .mul (.int .i64 (.ofNat 7)) t3 fun v1 =>
    binK .shr t0 v1 fun v2 =>
    binK .eql v2 (.int .u64 (.ofNat 0)) fun v3 =>
    condK v3 (.ret t3 s)
    (J377_2 call fu ih1 s t3 t0)

def L377_1b (call : Call) (fu : Nat) (ih1 : St → AV → AV → Out) (s : St) (t3 t0 : AV) : Out :=
    binK .lss t3 (.int .i64 (.ofNat 9)) fun v4 =>
    condK v4 (J377_3 call fu ih1 s t3 t0)
    (J377_0 call fu s)

def L377_1 (call : Call) (fu : Nat) (n : Nat) : St → AV → AV → Out :=
  Nat.rec (motive := fun _ => St → AV → AV → Out) (fun _ _ _ => .err) (fun _ ih => L377_1b call fu ih) n

def F377 (call : Call) (fu : Nat) (args : List AV) (s : St) : Out := match args with
  | [t0] =>
    L377_1 call fu fu s (.int .i64 (.ofNat 1)) t0
  | _ => .err

abbrev orc377c (call : Call) (fu : Nat) (st : List IH) (id i : Nat) (s : St) (v : List AV) : Out := ch (Nat.beq id 4 && Nat.beq i 0) (J377_3 call fu (fun s x0 x1 => nthI st 0 s [x0, x1]) s (nthL v 0) (nthL v 1)) (
    ch (Nat.beq id 3 && Nat.beq i 0) (J377_2 call fu (fun s x0 x1 => nthI st 0 s [x0, x1]) s (nthL v 0) (nthL v 1)) (
    ch (Nat.beq id 6 && Nat.beq i 0) (J377_0 call fu s) (
    .err)))
abbrev orc377b (call : Call) (fu : Nat) (st : List IH) (id : Nat) (ih : IH) (s : St) (v : List AV) : Out := ch (Nat.beq id 2) (L377_1b call fu (fun s x0 x1 => ih s [x0, x1]) s (nthL v 0) (nthL v 1)) (
    .err)
abbrev orc377p (call : Call) (fu : Nat) (st : List IH) (id k : Nat) (s : St) (v : List AV) : Out := ch (Nat.beq id 2) (L377_1 call fu k s (nthL v 0) (nthL v 1)) (
    .err)
abbrev orc377m (call : Call) (fu : Nat) (id : Nat) (v : List AV) (s : St) : Out := .err
def lv377 (id i : Nat) : Option (List Tmp) := bif Nat.beq id 4 && Nat.beq i 0 then some [3, 0] else
    bif Nat.beq id 3 && Nat.beq i 0 then some [3, 0] else
    bif Nat.beq id 2 && Nat.beq i 0 then some [3, 0] else
    bif Nat.beq id 6 && Nat.beq i 0 then some [] else
    none
/- 378 -/
def J378_0 (call : Call) (fu : Nat) (s : St) (t6 t2 t5 : AV) : Out :=
    storeK ⟨1, false⟩ s t2 t5 fun s0 =>
    .ret (.tup [t6, (.int .i64 (.ofNat 0))]) s0

def J378_1 (call : Call) (fu : Nat) (s : St) (t6 t2 t5 t1 t15 : AV) : Out :=
    condK t15 (.ret (.tup [(.int .i64 (.ofNat 0)), (.int .i64 (.ofNat 8))]) s)
    (binK .eql t6 (.int .i64 (.ofNat 0)) fun v1 =>
    condK v1 (.ret (.tup [(.int .i64 (.ofNat 0)), (.int .i64 (.ofNat 9))]) s)
    (loadK ⟨1, false⟩ s t1 fun v2 =>
    binK .gtr t5 v2 fun v3 =>
    condK v3 (.ret (.tup [(.int .i64 (.ofNat 0)), (.int .i64 (.ofNat 11))]) s)
    (J378_0 call fu s t6 t2 t5)))

def J378_2 (call : Call) (fu : Nat) (s : St) (t6 t2 t5 t1 t18 t23 : AV) : Out :=
    pickK t18 t23 (.bool false) fun v4 =>
    J378_1 call fu s t6 t2 t5 t1 v4

def F378 (call : Call) (fu : Nat) (args : List AV) (s : St) : Out := match args with
  | [t0, t1, t2] =>
    loadK ⟨1, false⟩ s t0 fun v5 =>
    nilK v5 fun v6 =>
    fieldK 1 v6 fun v7 =>
    loadK ⟨1, false⟩ s v7 fun v8 =>
    outK (call 379 [v8] s) fun v9 s10 =>
    extractK v9 0 fun v11 =>
    extractK v9 1 fun v12 =>
    binK .eql v12 (.int .i64 (.ofNat 0)) fun v13 =>
    guardK true v13 (J378_2 call fu s10 v12 t2 v11 t1 v13 (.tup [])) <|
    loadK ⟨1, false⟩ s10 t0 fun v14 =>
    nilK v14 fun v15 =>
    fieldK 1 v15 fun v16 =>
    loadK ⟨1, false⟩ s10 v16 fun v17 =>
    outK (call 380 [v17] s10) fun v18 s19 =>
    J378_2 call fu s19 v12 t2 v11 t1 v13 v18
  | _ => .err

abbrev orc378c (call : Call) (fu : Nat) (st : List IH) (id i : Nat) (s : St) (v : List AV) : Out := ch (Nat.beq id 2 && Nat.beq i 8) (J378_2 call fu s (nthL v 0) (nthL v 1) (nthL v 2) (nthL v 3) (nthL v 4) (nthL v 5)) (
    ch (Nat.beq id 3 && Nat.beq i 0) (J378_1 call fu s (nthL v 0) (nthL v 1) (nthL v 2) (nthL v 3) (nthL v 4)) (
    ch (Nat.beq id 8 && Nat.beq i 0) (J378_0 call fu s (nthL v 0) (nthL v 1) (nthL v 2)) (
    .err)))
abbrev orc378b (call : Call) (fu : Nat) (st : List IH) (id : Nat) (ih : IH) (s : St) (v : List AV) : Out := .err
abbrev orc378p (call : Call) (fu : Nat) (st : List IH) (id k : Nat) (s : St) (v : List AV) : Out := .err
abbrev orc378m (call : Call) (fu : Nat) (id : Nat) (v : List AV) (s : St) : Out := .err
def lv378 (id i : Nat) : Option (List Tmp) := bif Nat.beq id 2 && Nat.beq i 8 then some [6, 2, 5, 1, 18, 23] else
    bif Nat.beq id 3 && Nat.beq i 0 then some [6, 2, 5, 1, 15] else
    bif Nat.beq id 8 && Nat.beq i 0 then some [6, 2, 5] else
    none
/- 379 -/
def J379_0 (call : Call) (fu : Nat) (s : St) : Out :=
    .ret (.tup [(.int .u64 (.ofNat 0)), (.int .i64 (.ofNat 0))]) s

def J379_2 (call : Call) (fu : Nat) (ih1 : St → AV → AV → AV → AV → Out) (s : St) (t13 t4 t11 t12 : AV) : Out :=
    binK .add t13 (.int .i64 (.ofNat 1)) fun v0 =>
    ih1 s v0 t4 t11 t12

def J379_3 (call : Call) (fu : Nat) (ih1 : St → AV → AV → AV → AV → Out) (s : St) (t5 t4 : AV) : Out :=
    binK .add t5 (.int .i64 (.ofNat 1)) fun v1 =>
    .ret (.tup [t4, v1]) s

def J379_4 (call : Call) (fu : Nat) (ih1 : St → AV → AV → AV → AV → Out) (s : St) (t5 t4 t13 t37 t11 t12 : AV) : Out :=
    condK t37 (outK (call 377 [t4] s) fun v2 s3 =>
    binK .add t5 (.int .i64 (.ofNat 1)) fun v4 =>
    binK .neq v2 v4 fun v5 =>
    condK v5 (.ret (.tup [(.int .u64 (.ofNat 0)), (.int .i64 (.ofNat 0))]) s3)
    (J379_3 call fu ih1 s3 t5 t4))
    (J379_2 call fu ih1 s t13 t4 t11 t12)

def J379_5 (call : Call) (fu : Nat) (ih1 : St → AV → AV → AV → AV → Out) (s : St) (t5 t4 t13 t34 t36 t11 t12 : AV) : Out :=
    pickK t34 (.bool true) t36 fun v6 =>
    J379_4 call fu ih1 s t5 t4 t13 v6 t11 t12

def J379_6 (call : Call) (fu : Nat) (ih1 : St → AV → AV → AV → AV → Out) (s : St) (t5 t4 t13 t6 t11 t12 : AV) : Out :=
    binK .eql t5 (.int .i64 (.ofNat 8)) fun v7 =>
    guardK false v7 (J379_5 call fu ih1 s t5 t4 t13 v7 (.tup []) t11 t12) <|
    binK .lss t6 (.int .u8 (.ofNat 128)) fun v8 =>
    J379_5 call fu ih1 s t5 t4 t13 v7 v8 t11 t12

def J379_7 (call : Call) (fu : Nat) (ih1 : St → AV → AV → AV → AV → Out) (s : St) (t13 t4 t11 t12 : AV) : Out :=
    indexSlK 1 t11 t13 fun v9 =>
    loadK ⟨1, false⟩ s v9 fun v10 =>
    binK .eql t13 (.int .i64 (.ofNat 8)) fun v11 =>
    condK v11 (binK .shl t4 (.int .u64 (.ofNat 8)) fun v12 =>
    convK .u64 v10 fun v13 =>
    binK .or v12 v13 fun v14 =>
    J379_6 call fu ih1 s t13 v14 t13 v10 t11 t12)
    (binK .shl t4 (.int .u64 (.ofNat 7)) fun v15 =>
    binK .andNot v10 (.int .u8 (.ofNat 128)) fun v16 =>
    convK .u64 v16 fun v17 =>
    binK .or v15 v17 fun v18 =>
    J379_6 call fu ih1 s t13 v18 t13 v10 t11 t12)

def L379_1b (call : Call) (fu : Nat) (ih1 : St → AV → AV → AV → AV → Out) (s : St) (t13 t4 t11 t12 : AV) : Out :=
    binK .lss t13 t12 fun v19 =>
    condK v19 (J379_7 call fu ih1 s t13 t4 t11 t12)
    (J379_0 call fu s)

def L379_1 (call : Call) (fu : Nat) (n : Nat) : St → AV → AV → AV → AV → Out :=
  Nat.rec (motive := fun _ => St → AV → AV → AV → AV → Out) (fun _ _ _ _ _ => .err) (fun _ ih => L379_1b call fu ih) n

def F379 (call : Call) (fu : Nat) (args : List AV) (s : St) : Out := match args with
  | [t0] =>
    lenSlK t0 fun v20 =>
    minK (goInt v20) (.int .i64 (.ofNat 9)) fun v21 =>
    sliceSlK 1 none (some v21) none t0 fun v22 =>
    lenSlK v22 fun v23 =>
    L379_1 call fu fu s (.int .i64 (.ofNat 0)) (.int .u64 (.ofNat 0)) v22 (goInt v23)
  | _ => .err

abbrev orc379c (call : Call) (fu : Nat) (st : List IH) (id i : Nat) (s : St) (v : List AV) : Out := ch (Nat.beq id 4 && Nat.beq i 0) (J379_7 call fu (fun s x0 x1 x2 x3 => nthI st 0 s [x0, x1, x2, x3]) s (nthL v 0) (nthL v 1) (nthL v 2) (nthL v 3)) (
    ch (Nat.beq id 8 && Nat.beq i 0) (J379_6 call fu (fun s x0 x1 x2 x3 => nthI st 0 s [x0, x1, x2, x3]) s (nthL v 0) (nthL v 1) (nthL v 2) (nthL v 3) (nthL v 4) (nthL v 5)) (
    ch (Nat.beq id 8 && Nat.beq i 5) (J379_5 call fu (fun s x0 x1 x2 x3 => nthI st 0 s [x0, x1, x2, x3]) s (nthL v 0) (nthL v 1) (nthL v 2) (nthL v 3) (nthL v 4) (nthL v 5) (nthL v 6)) (
    ch (Nat.beq id 9 && Nat.beq i 0) (J379_4 call fu (fun s x0 x1 x2 x3 => nthI st 0 s [x0, x1, x2, x3]) s (nthL v 0) (nthL v 1) (nthL v 2) (nthL v 3) (nthL v 4) (nthL v 5)) (
    ch (Nat.beq id 11 && Nat.beq i 0) (J379_3 call fu (fun s x0 x1 x2 x3 => nthI st 0 s [x0, x1, x2, x3]) s (nthL v 0) (nthL v 1)) (
    ch (Nat.beq id 12 && Nat.beq i 0) (J379_2 call fu (fun s x0 x1 x2 x3 => nthI st 0 s [x0, x1, x2, x3]) s (nthL v 0) (nthL v 1) (nthL v 2) (nthL v 3)) (
    ch (Nat.beq id 13 && Nat.beq i 0) (J379_0 call fu s) (
    .err)))))))
abbrev orc379b (call : Call) (fu : Nat) (st : List IH) (id : Nat) (ih : IH) (s : St) (v : List AV) : Out := ch (Nat.beq id 3) (L379_1b call fu (fun s x0 x1 x2 x3 => ih s [x0, x1, x2, x3]) s (nthL v 0) (nthL v 1) (nthL v 2) (nthL v 3)) (
    .err)
abbrev orc379p (call : Call) (fu : Nat) (st : List IH) (id k : Nat) (s : St) (v : List AV) : Out := ch (Nat.beq id 3) (L379_1 call fu k s (nthL v 0) (nthL v 1) (nthL v 2) (nthL v 3)) (
    .err)
abbrev orc379m (call : Call) (fu : Nat) (id : Nat) (v : List AV) (s : St) : Out := .err
def lv379 (id i : Nat) : Option (List Tmp) := bif Nat.beq id 4 && Nat.beq i 0 then some [13, 4, 11, 12] else
    bif Nat.beq id 8 && Nat.beq i 0 then some [5, 4, 13, 6, 11, 12] else
    bif Nat.beq id 8 && Nat.beq i 5 then some [5, 4, 13, 34, 36, 11, 12] else
    bif Nat.beq id 9 && Nat.beq i 0 then some [5, 4, 13, 37, 11, 12] else
    bif Nat.beq id 11 && Nat.beq i 0 then some [5, 4] else
    bif Nat.beq id 12 && Nat.beq i 0 then some [13, 4, 11, 12] else
    bif Nat.beq id 3 && Nat.beq i 0 then some [13, 4, 11, 12] else
    bif Nat.beq id 13 && Nat.beq i 0 then some [] else
    none
end
end Go.Ev.V
