/- What the functions come to, piece by piece (by a program). -/
import Derived.Test.YtneeiakpoohneaaGreatDoorEvDel
import Derived.Test.YtneeiakpoohneaaGreatDoorProg
set_option linter.all false
set_option linter.unusedVariables false
set_option maxRecDepth 100000
namespace Go.Ev.V
noncomputable section
/- 4 -/
def J4_0 (call : Call) (fu : Nat) (s : St) (t65 t66 : AV) : Out :=
    pickK t65 t66 (.bool false) fun v0 =>
    .ret v0 s

def J4_1 (call : Call) (fu : Nat) (s : St) (t60 t63 : AV) : Out :=
    pickK t60 t63 (.bool false) fun v1 =>
    guardK true v1 (J4_0 call fu s v1 (.tup [])) <|
    outK (call 19 [] s) fun v2 s3 =>
    J4_0 call fu s3 v1 v2

def J4_2 (call : Call) (fu : Nat) (s : St) (t4 t56 t58 : AV) : Out :=
    pickK t56 t58 (.bool false) fun v4 =>
    guardK true v4 (J4_1 call fu s v4 (.tup [])) <|
    loadK ⟨3, true⟩ s t4 fun v5 =>
    loadK ⟨3, true⟩ s t4 fun v6 =>
    outK (call 18 [v5, v6] s) fun v7 s8 =>
    J4_1 call fu s8 v4 v7

def J4_3 (call : Call) (fu : Nat) (s : St) (t4 : AV) : Out :=
    outK (call 16 [(.int .i64 (.ofNat 99))] s) fun v9 s10 =>
    outK (call 15 [v9, (.int .i64 (.ofNat 8))] s10) fun v11 s12 =>
    extractK v11 0 fun v13 =>
    extractK v11 1 fun v14 =>
    loadK ⟨3, true⟩ s12 t4 fun v15 =>
    outK (call 17 [v13, v15] s12) fun v16 s17 =>
    extractK v16 0 fun v18 =>
    extractK v16 1 fun v19 =>
    loadK ⟨3, true⟩ s17 t4 fun v20 =>
    outK (call 17 [.nilv, v20] s17) fun v21 s22 =>
    extractK v21 0 fun v23 =>
    extractK v21 1 fun v24 =>
    binK .eql v19 (.int .i64 (.ofNat 6)) fun v25 =>
    guardK true v25 (J4_2 call fu s22 t4 v25 (.tup [])) <|
    binK .eql v24 (.int .i64 (.ofNat 1)) fun v26 =>
    J4_2 call fu s22 t4 v25 v26

def J4_5 (call : Call) (fu : Nat) (ih4 : St → AV → AV → AV → Out) (s : St) (t18 t17 t4 : AV) : Out :=
    binK .add t18 (.int .i64 (.ofNat 1)) fun v27 =>
    ih4 s v27 t17 t4

def J4_6 (call : Call) (fu : Nat) (ih4 : St → AV → AV → AV → Out) (s : St) (t18 t36 t17 t4 : AV) : Out :=
    condK t36 (.ret (.bool false) s)
    (J4_5 call fu ih4 s t18 t17 t4)

def J4_7 (call : Call) (fu : Nat) (ih4 : St → AV → AV → AV → Out) (s : St) (t18 t33 t35 t17 t4 : AV) : Out :=
    pickK t33 (.bool true) t35 fun v28 =>
    J4_6 call fu ih4 s t18 v28 t17 t4

def J4_8 (call : Call) (fu : Nat) (ih4 : St → AV → AV → AV → Out) (s : St) (t18 t17 t4 : AV) : Out :=
    indexValK 2 ⟨1, false⟩ t17 t18 fun v29 =>
    outK (call 13 [v29] s) fun v30 s31 =>
    extractK v30 0 fun v32 =>
    extractK v30 1 fun v33 =>
    allocK s31 55 (.cells [.nils, (.int .i64 (.ofNat 0)), .nils]) fun v34 s35 =>
    storeK ⟨3, true⟩ s35 v34 v32 fun s36 =>
    outK (call 14 [v29] s36) fun v37 s38 =>
    extractK v37 0 fun v39 =>
    extractK v37 1 fun v40 =>
    binK .neq v33 (.int .i64 (.ofNat 1)) fun v41 =>
    guardK false v41 (J4_7 call fu ih4 s38 t18 v41 (.tup []) t17 t4) <|
    binK .neq v40 (.int .i64 (.ofNat 1)) fun v42 =>
    J4_7 call fu ih4 s38 t18 v41 v42 t17 t4

def L4_4b (call : Call) (fu : Nat) (ih4 : St → AV → AV → AV → Out) (s : St) (t18 t17 t4 : AV) : Out :=
    binK .lss t18 (.int .i64 (.ofNat 2)) fun v43 =>
    condK v43 (J4_8 call fu ih4 s t18 t17 t4)
    (J4_3 call fu s t4)

def L4_4 (call : Call) (fu : Nat) (n : Nat) : St → AV → AV → AV → Out :=
  Nat.rec (motive := fun _ => St → AV → AV → AV → Out) (fun _ _ _ _ => .err) (fun _ ih => L4_4b call fu ih) n

def F4 (call : Call) (fu : Nat) (args : List AV) (s : St) : Out := match args with
  | [t0] =>
    allocK s 49 (.cells [.nilv, .nilv, .nilv]) fun v44 s45 =>
    allocK s45 55 (.cells [.nils, (.int .i64 (.ofNat 0)), .nils]) fun v46 s47 =>
    fillK (.cells [.nilv, .nilv]) [(0, 1, .nilv), (1, 1, v44)] fun v48 =>
    L4_4 call fu fu s47 (.int .i64 (.ofNat 0)) v48 v46
  | _ => .err

abbrev orc4c (call : Call) (fu : Nat) (st : List IH) (id i : Nat) (s : St) (v : List AV) : Out := ch (Nat.beq id 5 && Nat.beq i 0) (J4_8 call fu (fun s x0 x1 x2 => nthI st 0 s [x0, x1, x2]) s (nthL v 0) (nthL v 1) (nthL v 2)) (
    ch (Nat.beq id 8 && Nat.beq i 5) (J4_7 call fu (fun s x0 x1 x2 => nthI st 0 s [x0, x1, x2]) s (nthL v 0) (nthL v 1) (nthL v 2) (nthL v 3) (nthL v 4)) (
    ch (Nat.beq id 9 && Nat.beq i 0) (J4_6 call fu (fun s x0 x1 x2 => nthI st 0 s [x0, x1, x2]) s (nthL v 0) (nthL v 1) (nthL v 2) (nthL v 3)) (
    ch (Nat.beq id 10 && Nat.beq i 0) (J4_5 call fu (fun s x0 x1 x2 => nthI st 0 s [x0, x1, x2]) s (nthL v 0) (nthL v 1) (nthL v 2)) (
    ch (Nat.beq id 11 && Nat.beq i 0) (J4_3 call fu s (nthL v 0)) (
    ch (Nat.beq id 14 && Nat.beq i 5) (J4_2 call fu s (nthL v 0) (nthL v 1) (nthL v 2)) (
    ch (Nat.beq id 14 && Nat.beq i 10) (J4_1 call fu s (nthL v 0) (nthL v 1)) (
    ch (Nat.beq id 14 && Nat.beq i 13) (J4_0 call fu s (nthL v 0) (nthL v 1)) (
    .err))))))))
abbrev orc4b (call : Call) (fu : Nat) (st : List IH) (id : Nat) (ih : IH) (s : St) (v : List AV) : Out := ch (Nat.beq id 4) (L4_4b call fu (fun s x0 x1 x2 => ih s [x0, x1, x2]) s (nthL v 0) (nthL v 1) (nthL v 2)) (
    .err)
abbrev orc4p (call : Call) (fu : Nat) (st : List IH) (id k : Nat) (s : St) (v : List AV) : Out := ch (Nat.beq id 4) (L4_4 call fu k s (nthL v 0) (nthL v 1) (nthL v 2)) (
    .err)
abbrev orc4m (call : Call) (fu : Nat) (id : Nat) (v : List AV) (s : St) : Out := .err
def lv4 (id i : Nat) : Option (List Tmp) := bif Nat.beq id 5 && Nat.beq i 0 then some [18, 17, 4] else
    bif Nat.beq id 8 && Nat.beq i 5 then some [18, 33, 35, 17, 4] else
    bif Nat.beq id 9 && Nat.beq i 0 then some [18, 36, 17, 4] else
    bif Nat.beq id 10 && Nat.beq i 0 then some [18, 17, 4] else
    bif Nat.beq id 4 && Nat.beq i 0 then some [18, 17, 4] else
    bif Nat.beq id 11 && Nat.beq i 0 then some [4] else
    bif Nat.beq id 14 && Nat.beq i 5 then some [4, 56, 58] else
    bif Nat.beq id 14 && Nat.beq i 10 then some [60, 63] else
    bif Nat.beq id 14 && Nat.beq i 13 then some [65, 66] else
    none
/- 7 -/
def J7_0 (call : Call) (fu : Nat) (s : St) (t3 t0 : AV) : Out :=
    nilK t0 fun v0 =>
    fieldK 1 v0 fun v1 =>
    loadK ⟨1, false⟩ s v1 fun v2 =>
    fieldK 0 t3 fun v3 =>
    loadK ⟨1, false⟩ s v3 fun v4 =>
    fieldK 1 t3 fun v5 =>
    loadK ⟨1, false⟩ s v5 fun v6 =>
    toBytesK 5 s v6 fun v7 s8 =>
    callVK call (.func 43 [v2] []) [v4, v7] s8 fun v9 s10 =>
    .ret v9 s10

def J7_1 (call : Call) (fu : Nat) (s : St) (t3 t0 : AV) : Out :=
    outK (call 40 [t0] s) fun v11 s12 =>
    extractK v11 0 fun v13 =>
    extractK v11 1 fun v14 =>
    binK .neq v14 (.int .i64 (.ofNat 0)) fun v15 =>
    condK v15 (.ret v14 s12)
    (outK (call 41 [v13, (.func 42 [] [t3])] s12) fun v16 s17 =>
    condK v16 (.ret (.int .i64 (.ofNat 7)) s17)
    (lenSlK v13 fun v18 =>
    binK .geq (goInt v18) (.int .i64 (.ofNat 16)) fun v19 =>
    condK v19 (.ret (.int .i64 (.ofNat 11)) s17)
    (J7_0 call fu s17 t3 t0)))

def F7 (call : Call) (fu : Nat) (args : List AV) (s : St) : Out := match args with
  | [t0, t1] =>
    boxK s 27 2 t1 fun v20 s21 =>
    outK (call 38 [t0] s21) fun v22 s23 =>
    notK v22 fun v24 =>
    condK v24 (.ret (.int .i64 (.ofNat 1)) s23)
    (loadK ⟨2, true⟩ s23 v20 fun v25 =>
    outK (call 39 [v25] s23) fun v26 s27 =>
    notK v26 fun v28 =>
    condK v28 (.ret (.int .i64 (.ofNat 2)) s27)
    (J7_1 call fu s27 v20 t0))
  | _ => .err

abbrev orc7c (call : Call) (fu : Nat) (st : List IH) (id i : Nat) (s : St) (v : List AV) : Out := ch (Nat.beq id 5 && Nat.beq i 0) (J7_1 call fu s (nthL v 0) (nthL v 1)) (
    ch (Nat.beq id 12 && Nat.beq i 0) (J7_0 call fu s (nthL v 0) (nthL v 1)) (
    .err))
abbrev orc7b (call : Call) (fu : Nat) (st : List IH) (id : Nat) (ih : IH) (s : St) (v : List AV) : Out := .err
abbrev orc7p (call : Call) (fu : Nat) (st : List IH) (id k : Nat) (s : St) (v : List AV) : Out := .err
abbrev orc7m (call : Call) (fu : Nat) (id : Nat) (v : List AV) (s : St) : Out := .err
def lv7 (id i : Nat) : Option (List Tmp) := bif Nat.beq id 5 && Nat.beq i 0 then some [3, 0] else
    bif Nat.beq id 12 && Nat.beq i 0 then some [3, 0] else
    none
/- 13 -/
def J13_0 (call : Call) (fu : Nat) (s : St) (t2 t7 : AV) : Out :=
    loadK ⟨3, true⟩ s t7 fun v0 =>
    storeK ⟨3, true⟩ s t2 v0 fun s1 =>
    loadK ⟨3, true⟩ s1 t2 fun v2 =>
    .ret (.tup [v2, (.int .i64 (.ofNat 0))]) s1

def J13_2 (call : Call) (fu : Nat) (ih1 : St → AV → AV → AV → AV → AV → AV → Out) (s : St) (t56 t2 t7 t6 t54 t55 : AV) : Out :=
    binK .add t56 (.int .i64 (.ofNat 1)) fun v3 =>
    ih1 s t2 v3 t7 t6 t54 t55

def J13_3 (call : Call) (fu : Nat) (ih1 : St → AV → AV → AV → AV → AV → AV → Out) (s : St) (t56 t7 t11 t10 t2 t6 t54 t55 : AV) : Out :=
    fieldK 2 t7 fun v4 =>
    loadK ⟨1, false⟩ s v4 fun v5 =>
    loadK ⟨16, true⟩ s t10 fun v6 =>
    indexSlK 1 t11 (.int .i64 (.ofNat 0)) fun v7 =>
    loadK ⟨1, true⟩ s v7 fun v8 =>
    indexSlK 1 t11 (.int .i64 (.ofNat 1)) fun v9 =>
    loadK ⟨1, true⟩ s v9 fun v10 =>
    indexSlK 1 t11 (.int .i64 (.ofNat 2)) fun v11 =>
    loadK ⟨1, true⟩ s v11 fun v12 =>
    indexSlK 1 t11 (.int .i64 (.ofNat 3)) fun v13 =>
    loadK ⟨1, true⟩ s v13 fun v14 =>
    fillK (.cells [(.str 0 0), (.int .i64 (.ofNat 0)), (.int .i64 (.ofNat 0)), .nils, (.int .i64 (.ofNat 0)), (.int .i64 (.ofNat 0)), (.int .i64 (.ofNat 0)), (.int .i64 (.ofNat 0)), (.int .i64 (.ofNat 0)), (.int .i64 (.ofNat 0)), (.int .i64 (.ofNat 0)), (.bool false), (.int .i64 (.ofNat 0)), (.int .i64 (.ofNat 0)), (.int .i64 (.ofNat 0)), (.int .i64 (.ofNat 0)), .nils, .nils, .nils, .nils]) [(0, 16, v6), (16, 1, v8), (17, 1, v10), (18, 1, v12), (19, 1, v14)] fun v15 =>
    fillK (.cells [(.str 0 0), (.int .i64 (.ofNat 0)), (.int .i64 (.ofNat 0)), .nils, (.int .i64 (.ofNat 0)), (.int .i64 (.ofNat 0)), (.int .i64 (.ofNat 0)), (.int .i64 (.ofNat 0)), (.int .i64 (.ofNat 0)), (.int .i64 (.ofNat 0)), (.int .i64 (.ofNat 0)), (.bool false), (.int .i64 (.ofNat 0)), (.int .i64 (.ofNat 0)), (.int .i64 (.ofNat 0)), (.int .i64 (.ofNat 0)), .nils, .nils, .nils, .nils]) [(0, 20, v15)] fun v16 => newK s (.row 134 v16) fun i17 s18 =>
    appK 134 20 s18 v5 (.slice i17 0 1 1 20 false) fun v19 s20 =>
    fieldK 2 t7 fun v21 =>
    storeK ⟨1, false⟩ s20 v21 v19 fun s22 =>
    J13_2 call fu ih1 s22 t56 t2 t7 t6 t54 t55

def J13_4 (call : Call) (fu : Nat) (ih1 : St → AV → AV → AV → AV → AV → AV → Out) (s : St) (t2 t56 t7 t6 t54 t55 : AV) : Out :=
    indexSlK 16 t54 t56 fun v23 =>
    loadK ⟨16, true⟩ s v23 fun v24 =>
    allocK s 38 (.cells [(.str 0 0), (.int .i64 (.ofNat 0)), (.int .i64 (.ofNat 0)), .nils, (.int .i64 (.ofNat 0)), (.int .i64 (.ofNat 0)), (.int .i64 (.ofNat 0)), (.int .i64 (.ofNat 0)), (.int .i64 (.ofNat 0)), (.int .i64 (.ofNat 0)), (.int .i64 (.ofNat 0)), (.bool false), (.int .i64 (.ofNat 0)), (.int .i64 (.ofNat 0)), (.int .i64 (.ofNat 0)), (.int .i64 (.ofNat 0))]) fun v25 s26 =>
    storeK ⟨16, true⟩ s26 v25 v24 fun s27 =>
    fieldK 5 v25 fun v28 =>
    loadK ⟨1, false⟩ s27 v28 fun v29 =>
    fieldK 6 v25 fun v30 =>
    fieldK 0 v30 fun v31 =>
    loadK ⟨1, false⟩ s27 v31 fun v32 =>
    fieldK 6 v25 fun v33 =>
    fieldK 1 v33 fun v34 =>
    loadK ⟨1, false⟩ s27 v34 fun v35 =>
    fieldK 6 v25 fun v36 =>
    fieldK 2 v36 fun v37 =>
    loadK ⟨1, false⟩ s27 v37 fun v38 =>
    fillK (.cells [(.int .i64 (.ofNat 0)), (.int .i64 (.ofNat 0)), (.int .i64 (.ofNat 0)), (.int .i64 (.ofNat 0))]) [(0, 1, v29), (1, 1, v32), (2, 1, v35), (3, 1, v38)] fun v39 => newK s27 (.row 3 v39) fun i40 s41 =>
    outK (call 65 [t6, (.slice i40 0 4 4 1 false)] s41) fun v42 s43 =>
    extractK v42 0 fun v44 =>
    extractK v42 1 fun v45 =>
    binK .neq v45 (.int .i64 (.ofNat 0)) fun v46 =>
    condK v46 (fillK (.cells [.nils, (.int .i64 (.ofNat 0)), .nils]) [] fun v47 =>
    storeK ⟨3, true⟩ s43 t2 v47 fun s48 =>
    loadK ⟨3, true⟩ s48 t2 fun v49 =>
    .ret (.tup [v49, v45]) s48)
    (J13_3 call fu ih1 s43 t56 t7 v44 v25 t2 t6 t54 t55)

def L13_1b (call : Call) (fu : Nat) (ih1 : St → AV → AV → AV → AV → AV → AV → Out) (s : St) (t2 t56 t7 t6 t54 t55 : AV) : Out :=
    binK .lss t56 t55 fun v50 =>
    condK v50 (J13_4 call fu ih1 s t2 t56 t7 t6 t54 t55)
    (J13_0 call fu s t2 t7)

def L13_1 (call : Call) (fu : Nat) (n : Nat) : St → AV → AV → AV → AV → AV → AV → Out :=
  Nat.rec (motive := fun _ => St → AV → AV → AV → AV → AV → AV → Out) (fun _ _ _ _ _ _ _ => .err) (fun _ ih => L13_1b call fu ih) n

def J13_5 (call : Call) (fu : Nat) (s : St) (t2 t7 t6 t4 : AV) : Out :=
    lenSlK t4 fun v51 =>
    L13_1 call fu fu s t2 (.int .i64 (.ofNat 0)) t7 t6 t4 (goInt v51)

def J13_6 (call : Call) (fu : Nat) (s : St) (t2 t7 t6 t4 t8 : AV) : Out :=
    outK (call 64 [t6, t8] s) fun v52 s53 =>
    extractK v52 0 fun v54 =>
    extractK v52 1 fun v55 =>
    fieldK 0 t7 fun v56 =>
    storeK ⟨1, true⟩ s53 v56 v54 fun s57 =>
    binK .neq v55 (.int .i64 (.ofNat 0)) fun v58 =>
    condK v58 (fillK (.cells [.nils, (.int .i64 (.ofNat 0)), .nils]) [] fun v59 =>
    storeK ⟨3, true⟩ s57 t2 v59 fun s60 =>
    loadK ⟨3, true⟩ s60 t2 fun v61 =>
    .ret (.tup [v61, v55]) s60)
    (J13_5 call fu s57 t2 t7 t6 t4)

def J13_7 (call : Call) (fu : Nat) (s : St) (t2 t7 t6 t4 : AV) : Out :=
    outK (call 45 [t6, (.int .i64 (.ofNat 0))] s) fun v62 s63 =>
    extractK v62 0 fun v64 =>
    extractK v62 1 fun v65 =>
    binK .neq v65 (.int .i64 (.ofNat 0)) fun v66 =>
    condK v66 (fillK (.cells [.nils, (.int .i64 (.ofNat 0)), .nils]) [] fun v67 =>
    storeK ⟨3, true⟩ s63 t2 v67 fun s68 =>
    loadK ⟨3, true⟩ s68 t2 fun v69 =>
    .ret (.tup [v69, v65]) s68)
    (J13_6 call fu s63 t2 t7 t6 t4 v64)

def J13_8 (call : Call) (fu : Nat) (s : St) (t2 t4 t0 : AV) : Out :=
    outK (call 63 [t0] s) fun v70 s71 =>
    allocK s71 55 (.cells [.nils, (.int .i64 (.ofNat 0)), .nils]) fun v72 s73 =>
    outK (call 45 [v70, (.int .i64 (.ofNat 2))] s73) fun v74 s75 =>
    extractK v74 0 fun v76 =>
    extractK v74 1 fun v77 =>
    fieldK 1 v72 fun v78 =>
    storeK ⟨1, false⟩ s75 v78 v76 fun s79 =>
    binK .neq v77 (.int .i64 (.ofNat 0)) fun v80 =>
    condK v80 (fillK (.cells [.nils, (.int .i64 (.ofNat 0)), .nils]) [] fun v81 =>
    storeK ⟨3, true⟩ s79 t2 v81 fun s82 =>
    loadK ⟨3, true⟩ s82 t2 fun v83 =>
    .ret (.tup [v83, v77]) s82)
    (J13_7 call fu s79 t2 v72 v70 t4)

def F13 (call : Call) (fu : Nat) (args : List AV) (s : St) : Out := match args with
  | [t0] =>
    allocK s 55 (.cells [.nils, (.int .i64 (.ofNat 0)), .nils]) fun v84 s85 =>
    outK (call 60 [t0] s85) fun v86 s87 =>
    extractK v86 0 fun v88 =>
    extractK v86 1 fun v89 =>
    binK .neq v89 (.int .i64 (.ofNat 0)) fun v90 =>
    condK v90 (fillK (.cells [.nils, (.int .i64 (.ofNat 0)), .nils]) [] fun v91 =>
    storeK ⟨3, true⟩ s87 v84 v91 fun s92 =>
    loadK ⟨3, true⟩ s92 v84 fun v93 =>
    .ret (.tup [v93, v89]) s92)
    (J13_8 call fu s87 v84 v88 t0)
  | _ => .err

abbrev orc13c (call : Call) (fu : Nat) (st : List IH) (id i : Nat) (s : St) (v : List AV) : Out := ch (Nat.beq id 4 && Nat.beq i 0) (J13_8 call fu s (nthL v 0) (nthL v 1) (nthL v 2)) (
    ch (Nat.beq id 9 && Nat.beq i 0) (J13_7 call fu s (nthL v 0) (nthL v 1) (nthL v 2) (nthL v 3)) (
    ch (Nat.beq id 12 && Nat.beq i 0) (J13_6 call fu s (nthL v 0) (nthL v 1) (nthL v 2) (nthL v 3) (nthL v 4)) (
    ch (Nat.beq id 15 && Nat.beq i 0) (J13_5 call fu s (nthL v 0) (nthL v 1) (nthL v 2) (nthL v 3)) (
    ch (Nat.beq id 17 && Nat.beq i 0) (J13_4 call fu (fun s x0 x1 x2 x3 x4 x5 => nthI st 0 s [x0, x1, x2, x3, x4, x5]) s (nthL v 0) (nthL v 1) (nthL v 2) (nthL v 3) (nthL v 4) (nthL v 5)) (
    ch (Nat.beq id 21 && Nat.beq i 0) (J13_3 call fu (fun s x0 x1 x2 x3 x4 x5 => nthI st 0 s [x0, x1, x2, x3, x4, x5]) s (nthL v 0) (nthL v 1) (nthL v 2) (nthL v 3) (nthL v 4) (nthL v 5) (nthL v 6) (nthL v 7)) (
    ch (Nat.beq id 22 && Nat.beq i 0) (J13_2 call fu (fun s x0 x1 x2 x3 x4 x5 => nthI st 0 s [x0, x1, x2, x3, x4, x5]) s (nthL v 0) (nthL v 1) (nthL v 2) (nthL v 3) (nthL v 4) (nthL v 5)) (
    ch (Nat.beq id 23 && Nat.beq i 0) (J13_0 call fu s (nthL v 0) (nthL v 1)) (
    .err))))))))
abbrev orc13b (call : Call) (fu : Nat) (st : List IH) (id : Nat) (ih : IH) (s : St) (v : List AV) : Out := ch (Nat.beq id 16) (L13_1b call fu (fun s x0 x1 x2 x3 x4 x5 => ih s [x0, x1, x2, x3, x4, x5]) s (nthL v 0) (nthL v 1) (nthL v 2) (nthL v 3) (nthL v 4) (nthL v 5)) (
    .err)
abbrev orc13p (call : Call) (fu : Nat) (st : List IH) (id k : Nat) (s : St) (v : List AV) : Out := ch (Nat.beq id 16) (L13_1 call fu k s (nthL v 0) (nthL v 1) (nthL v 2) (nthL v 3) (nthL v 4) (nthL v 5)) (
    .err)
abbrev orc13m (call : Call) (fu : Nat) (id : Nat) (v : List AV) (s : St) : Out := .err
def lv13 (id i : Nat) : Option (List Tmp) := bif Nat.beq id 4 && Nat.beq i 0 then some [2, 4, 0] else
    bif Nat.beq id 9 && Nat.beq i 0 then some [2, 7, 6, 4] else
    bif Nat.beq id 12 && Nat.beq i 0 then some [2, 7, 6, 4, 8] else
    bif Nat.beq id 15 && Nat.beq i 0 then some [2, 7, 6, 4] else
    bif Nat.beq id 17 && Nat.beq i 0 then some [2, 56, 7, 6, 54, 55] else
    bif Nat.beq id 21 && Nat.beq i 0 then some [56, 7, 11, 10, 2, 6, 54, 55] else
    bif Nat.beq id 22 && Nat.beq i 0 then some [56, 2, 7, 6, 54, 55] else
    bif Nat.beq id 16 && Nat.beq i 0 then some [2, 56, 7, 6, 54, 55] else
    bif Nat.beq id 23 && Nat.beq i 0 then some [2, 7] else
    none
/- 14 -/
def J14_0 (call : Call) (fu : Nat) (s : St) (t4 t0 : AV) : Out :=
    loadK ⟨3, true⟩ s t4 fun v0 =>
    outK (call 63 [t0] s) fun v1 s2 =>
    againK ⟨3, true⟩ s2 t4 v0 <|
    outK (call 66 [v1] s2) fun v3 s4 =>
    againK ⟨3, true⟩ s4 t4 v0 <|
    outK (call 17 [v3, v0] s4) fun v5 s6 =>
    extractK v5 0 fun v7 =>
    extractK v5 1 fun v8 =>
    .ret (.tup [v7, v8]) s6

def F14 (call : Call) (fu : Nat) (args : List AV) (s : St) : Out := match args with
  | [t0] =>
    outK (call 13 [t0] s) fun v9 s10 =>
    extractK v9 0 fun v11 =>
    extractK v9 1 fun v12 =>
    allocK s10 55 (.cells [.nils, (.int .i64 (.ofNat 0)), .nils]) fun v13 s14 =>
    storeK ⟨3, true⟩ s14 v13 v11 fun s15 =>
    binK .neq v12 (.int .i64 (.ofNat 0)) fun v16 =>
    condK v16 (.ret (.tup [.nilv, v12]) s15)
    (J14_0 call fu s15 v13 t0)
  | _ => .err

abbrev orc14c (call : Call) (fu : Nat) (st : List IH) (id i : Nat) (s : St) (v : List AV) : Out := ch (Nat.beq id 4 && Nat.beq i 0) (J14_0 call fu s (nthL v 0) (nthL v 1)) (
    .err)
abbrev orc14b (call : Call) (fu : Nat) (st : List IH) (id : Nat) (ih : IH) (s : St) (v : List AV) : Out := .err
abbrev orc14p (call : Call) (fu : Nat) (st : List IH) (id k : Nat) (s : St) (v : List AV) : Out := .err
abbrev orc14m (call : Call) (fu : Nat) (id : Nat) (v : List AV) (s : St) : Out := .err
def lv14 (id i : Nat) : Option (List Tmp) := bif Nat.beq id 4 && Nat.beq i 0 then some [4, 0] else
    none
/- 15 -/
def J15_0 (call : Call) (fu : Nat) (s : St) (t7 : AV) : Out :=
    .ret (.tup [t7, (.int .i64 (.ofNat 0))]) s

def J15_1 (call : Call) (fu : Nat) (s : St) (t6 t0 : AV) : Out :=
    fillK (.cells [.nilv, .nilv, (.int .i64 (.ofNat 0)), .nilv, (.bool false), (.int .i64 (.ofNat 0)), (.int .i64 (.ofNat 0))]) [(0, 1, t0), (1, 1, t6)] fun v0 =>
    boxK s 140 7 v0 fun v1 s2 =>
    fillK (.cells [.nilf, .nilf, .nilf]) [(0, 1, (.func 70 [v1] [])), (1, 1, (.func 71 [v1] [])), (2, 1, (.func 72 [v1] []))] fun v3 => newK s2 (.row 95 v3) fun i4 s5 =>
    outK (call 69 [(.slice i4 0 3 3 1 false)] s5) fun v6 s7 =>
    binK .neq v6 (.int .i64 (.ofNat 0)) fun v8 =>
    condK v8 (.ret (.tup [.nilv, v6]) s7)
    (J15_0 call fu s7 v1)

def J15_2 (call : Call) (fu : Nat) (s : St) (t6 t0 t15 : AV) : Out :=
    condK t15 (.ret (.tup [.nilv, (.int .i64 (.ofNat 2))]) s)
    (J15_1 call fu s t6 t0)

def J15_3 (call : Call) (fu : Nat) (s : St) (t6 t0 t18 t20 : AV) : Out :=
    pickK t18 (.bool true) t20 fun v9 =>
    J15_2 call fu s t6 t0 v9

def F15 (call : Call) (fu : Nat) (args : List AV) (s : St) : Out := match args with
  | [t0, t1] =>
    outK (call 67 [t1] s) fun v10 s11 =>
    outK (call 68 [t0] s11) fun v12 s13 =>
    binK .eql v12 (.int .i64 (.ofNat 0)) fun v14 =>
    condK v14 (.ret (.tup [.nilv, (.int .i64 (.ofNat 1))]) s13)
    (eqK .ptr s13 false v10 .nilv fun v15 =>
    guardK false v15 (J15_3 call fu s13 v10 t0 v15 (.tup [])) <|
    binK .lss t1 (.int .i64 (.ofNat 8)) fun v16 =>
    J15_3 call fu s13 v10 t0 v15 v16)
  | _ => .err

abbrev orc15c (call : Call) (fu : Nat) (st : List IH) (id i : Nat) (s : St) (v : List AV) : Out := ch (Nat.beq id 4 && Nat.beq i 5) (J15_3 call fu s (nthL v 0) (nthL v 1) (nthL v 2) (nthL v 3)) (
    ch (Nat.beq id 5 && Nat.beq i 0) (J15_2 call fu s (nthL v 0) (nthL v 1) (nthL v 2)) (
    ch (Nat.beq id 6 && Nat.beq i 0) (J15_1 call fu s (nthL v 0) (nthL v 1)) (
    ch (Nat.beq id 10 && Nat.beq i 0) (J15_0 call fu s (nthL v 0)) (
    .err))))
abbrev orc15b (call : Call) (fu : Nat) (st : List IH) (id : Nat) (ih : IH) (s : St) (v : List AV) : Out := .err
abbrev orc15p (call : Call) (fu : Nat) (st : List IH) (id k : Nat) (s : St) (v : List AV) : Out := .err
abbrev orc15m (call : Call) (fu : Nat) (id : Nat) (v : List AV) (s : St) : Out := .err
def lv15 (id i : Nat) : Option (List Tmp) := bif Nat.beq id 4 && Nat.beq i 5 then some [6, 0, 18, 20] else
    bif Nat.beq id 5 && Nat.beq i 0 then some [6, 0, 15] else
    bif Nat.beq id 6 && Nat.beq i 0 then some [6, 0] else
    bif Nat.beq id 10 && Nat.beq i 0 then some [7] else
    none
/- 16 -/
def J16_0 (call : Call) (fu : Nat) (s : St) (t3 : AV) : Out :=
    .ret t3 s

def J16_2 (call : Call) (fu : Nat) (ih1 : St → AV → AV → Out) (s : St) (t14 t3 : AV) : Out :=
    binK .add t14 (.int .i64 (.ofNat 1)) fun v0 =>
    ih1 s v0 t3

def J16_3 (call : Call) (fu : Nat) (ih1 : St → AV → AV → Out) (s : St) (t14 t3 : AV) : Out :=
    newK s (.map .nil 0) fun i1 s2 =>
    nilK t3 fun v3 =>
    fieldK 1 v3 fun v4 =>
    indexArrK 2 3 v4 t14 fun v5 =>
    fieldK 1 v5 fun v6 =>
    storeK ⟨1, false⟩ s2 v6 (.map i1) fun s7 =>
    J16_2 call fu ih1 s7 t14 t3

def L16_1b (call : Call) (fu : Nat) (ih1 : St → AV → AV → Out) (s : St) (t14 t3 : AV) : Out :=
    binK .lss t14 (.int .i64 (.ofNat 2)) fun v8 =>
    condK v8 (J16_3 call fu ih1 s t14 t3)
    (J16_0 call fu s t3)

def L16_1 (call : Call) (fu : Nat) (n : Nat) : St → AV → AV → Out :=
  Nat.rec (motive := fun _ => St → AV → AV → Out) (fun _ _ _ => .err) (fun _ ih => L16_1b call fu ih) n

def J16_4 (call : Call) (fu : Nat) (s : St) (t0 : AV) : Out :=
    fillK (.cells [(.int .i64 (.ofNat 0)), .nils, .nilm, (.int .i64 (.ofNat 0)), .nils, .nilm, (.int .i64 (.ofNat 0)), (.bool false), (.int .i64 (.ofNat 0)), (.int .i64 (.ofNat 0)), .nils, (.int .i64 (.ofNat 0))]) [(0, 1, t0), (7, 1, (.bool true))] fun v9 =>
    boxK s 150 12 v9 fun v10 s11 =>
    L16_1 call fu fu s11 (.int .i64 (.ofNat 0)) v10

def J16_5 (call : Call) (fu : Nat) (s : St) (t0 t10 : AV) : Out :=
    condK t10 (.ret .nilv s)
    (J16_4 call fu s t0)

def J16_6 (call : Call) (fu : Nat) (s : St) (t0 t7 t9 : AV) : Out :=
    pickK t7 (.bool true) t9 fun v12 =>
    J16_5 call fu s t0 v12

def F16 (call : Call) (fu : Nat) (args : List AV) (s : St) : Out := match args with
  | [t0] =>
    binK .lss t0 (.int .i64 (.ofNat 1)) fun v13 =>
    guardK false v13 (J16_6 call fu s t0 v13 (.tup [])) <|
    binK .gtr t0 (.int .i64 (.ofNat 32768)) fun v14 =>
    J16_6 call fu s t0 v13 v14
  | _ => .err

abbrev orc16c (call : Call) (fu : Nat) (st : List IH) (id i : Nat) (s : St) (v : List AV) : Out := ch (Nat.beq id 1 && Nat.beq i 5) (J16_6 call fu s (nthL v 0) (nthL v 1) (nthL v 2)) (
    ch (Nat.beq id 2 && Nat.beq i 0) (J16_5 call fu s (nthL v 0) (nthL v 1)) (
    ch (Nat.beq id 3 && Nat.beq i 0) (J16_4 call fu s (nthL v 0)) (
    ch (Nat.beq id 6 && Nat.beq i 0) (J16_3 call fu (fun s x0 x1 => nthI st 0 s [x0, x1]) s (nthL v 0) (nthL v 1)) (
    ch (Nat.beq id 8 && Nat.beq i 0) (J16_2 call fu (fun s x0 x1 => nthI st 0 s [x0, x1]) s (nthL v 0) (nthL v 1)) (
    ch (Nat.beq id 9 && Nat.beq i 0) (J16_0 call fu s (nthL v 0)) (
    .err))))))
abbrev orc16b (call : Call) (fu : Nat) (st : List IH) (id : Nat) (ih : IH) (s : St) (v : List AV) : Out := ch (Nat.beq id 5) (L16_1b call fu (fun s x0 x1 => ih s [x0, x1]) s (nthL v 0) (nthL v 1)) (
    .err)
abbrev orc16p (call : Call) (fu : Nat) (st : List IH) (id k : Nat) (s : St) (v : List AV) : Out := ch (Nat.beq id 5) (L16_1 call fu k s (nthL v 0) (nthL v 1)) (
    .err)
abbrev orc16m (call : Call) (fu : Nat) (id : Nat) (v : List AV) (s : St) : Out := .err
def lv16 (id i : Nat) : Option (List Tmp) := bif Nat.beq id 1 && Nat.beq i 5 then some [0, 7, 9] else
    bif Nat.beq id 2 && Nat.beq i 0 then some [0, 10] else
    bif Nat.beq id 3 && Nat.beq i 0 then some [0] else
    bif Nat.beq id 6 && Nat.beq i 0 then some [14, 3] else
    bif Nat.beq id 8 && Nat.beq i 0 then some [14, 3] else
    bif Nat.beq id 5 && Nat.beq i 0 then some [14, 3] else
    bif Nat.beq id 9 && Nat.beq i 0 then some [3] else
    none
/- 17 -/
def J17_0 (call : Call) (fu : Nat) (s : St) (t6 : AV) : Out :=
    outK (call 78 [t6] s) fun v0 s1 =>
    extractK v0 0 fun v2 =>
    extractK v0 1 fun v3 =>
    .ret (.tup [v2, v3]) s1

def J17_1 (call : Call) (fu : Nat) (s : St) (t6 t3 t9 t8 : AV) : Out :=
    fieldK 1 t3 fun v4 =>
    loadK ⟨1, false⟩ s v4 fun v5 =>
    outK (call 48 [t9] s) fun v6 s7 =>
    againK ⟨1, false⟩ s7 v4 v5 <|
    fillK (.cells [(.int .i64 (.ofNat 0)), (.int .i64 (.ofNat 0)), (.int .i64 (.ofNat 0))]) [(0, 1, t8), (1, 1, v6), (2, 1, v5)] fun v8 => newK s7 (.row 3 v8) fun i9 s10 =>
    outK (call 77 [t6, (.slice i9 0 3 3 1 false)] s10) fun v11 s12 =>
    binK .neq v11 (.int .i64 (.ofNat 0)) fun v13 =>
    condK v13 (.ret (.tup [.nilv, v11]) s12)
    (J17_0 call fu s12 t6)

def J17_2 (call : Call) (fu : Nat) (s : St) (t6 t3 t9 t8 t10 : AV) : Out :=
    outK (call 76 [t9, t10] s) fun v14 s15 =>
    binK .neq v14 (.int .i64 (.ofNat 0)) fun v16 =>
    condK v16 (.ret (.tup [.nilv, v14]) s15)
    (J17_1 call fu s15 t6 t3 t9 t8)

def J17_4 (call : Call) (fu : Nat) (ih3 : St → AV → AV → AV → AV → AV → AV → AV → AV → Out) (s : St) (t46 t10 t6 t44 t3 t9 t8 t45 : AV) : Out :=
    binK .add t46 (.int .i64 (.ofNat 1)) fun v17 =>
    ih3 s v17 t10 t6 t44 t3 t9 t8 t45

def J17_5 (call : Call) (fu : Nat) (ih3 : St → AV → AV → AV → AV → AV → AV → AV → AV → Out) (s : St) (t46 t13 t10 t6 t44 t3 t9 t8 t45 : AV) : Out :=
    loadK ⟨2, true⟩ s t13 fun v18 =>
    fillK (.cells [(.int .i64 (.ofNat 0)), .nils]) [(0, 2, v18)] fun v19 => newK s (.row 153 v19) fun i20 s21 =>
    appK 153 2 s21 t10 (.slice i20 0 1 1 2 false) fun v22 s23 =>
    J17_4 call fu ih3 s23 t46 v22 t6 t44 t3 t9 t8 t45

def J17_6 (call : Call) (fu : Nat) (ih3 : St → AV → AV → AV → AV → AV → AV → AV → AV → Out) (s : St) (t46 t10 t6 t44 t3 t9 t8 t45 : AV) : Out :=
    indexSlK 20 t44 t46 fun v24 =>
    loadK ⟨20, true⟩ s v24 fun v25 =>
    allocK s 134 (.cells [(.str 0 0), (.int .i64 (.ofNat 0)), (.int .i64 (.ofNat 0)), .nils, (.int .i64 (.ofNat 0)), (.int .i64 (.ofNat 0)), (.int .i64 (.ofNat 0)), (.int .i64 (.ofNat 0)), (.int .i64 (.ofNat 0)), (.int .i64 (.ofNat 0)), (.int .i64 (.ofNat 0)), (.bool false), (.int .i64 (.ofNat 0)), (.int .i64 (.ofNat 0)), (.int .i64 (.ofNat 0)), (.int .i64 (.ofNat 0)), .nils, .nils, .nils, .nils]) fun v26 s27 =>
    storeK ⟨20, true⟩ s27 v26 v25 fun s28 =>
    loadK ⟨20, true⟩ s28 v26 fun v29 =>
    outK (call 75 [t6, v29] s28) fun v30 s31 =>
    extractK v30 0 fun v32 =>
    extractK v30 1 fun v33 =>
    allocK s31 153 (.cells [(.int .i64 (.ofNat 0)), .nils]) fun v34 s35 =>
    storeK ⟨2, true⟩ s35 v34 v32 fun s36 =>
    binK .neq v33 (.int .i64 (.ofNat 0)) fun v37 =>
    condK v37 (.ret (.tup [.nilv, v33]) s36)
    (J17_5 call fu ih3 s36 t46 v34 t10 t6 t44 t3 t9 t8 t45)

def L17_3b (call : Call) (fu : Nat) (ih3 : St → AV → AV → AV → AV → AV → AV → AV → AV → Out) (s : St) (t46 t10 t6 t44 t3 t9 t8 t45 : AV) : Out :=
    binK .lss t46 t45 fun v38 =>
    condK v38 (J17_6 call fu ih3 s t46 t10 t6 t44 t3 t9 t8 t45)
    (J17_2 call fu s t6 t3 t9 t8 t10)

def L17_3 (call : Call) (fu : Nat) (n : Nat) : St → AV → AV → AV → AV → AV → AV → AV → AV → Out :=
  Nat.rec (motive := fun _ => St → AV → AV → AV → AV → AV → AV → AV → AV → Out) (fun _ _ _ _ _ _ _ _ _ => .err) (fun _ ih => L17_3b call fu ih) n

def J17_7 (call : Call) (fu : Nat) (s : St) (t6 t3 t9 t8 : AV) : Out :=
    fieldK 2 t3 fun v39 =>
    loadK ⟨1, false⟩ s v39 fun v40 =>
    lenSlK v40 fun v41 =>
    L17_3 call fu fu s (.int .i64 (.ofNat 0)) .nils t6 v40 t3 t9 t8 (goInt v41)

def J17_8 (call : Call) (fu : Nat) (s : St) (t6 t3 t8 : AV) : Out :=
    outK (call 46 [t6] s) fun v42 s43 =>
    extractK v42 0 fun v44 =>
    extractK v42 1 fun v45 =>
    binK .neq v45 (.int .i64 (.ofNat 0)) fun v46 =>
    condK v46 (.ret (.tup [.nilv, v45]) s43)
    (J17_7 call fu s43 t6 t3 v44 t8)

def J17_9 (call : Call) (fu : Nat) (s : St) (t6 t3 : AV) : Out :=
    fieldK 0 t3 fun v47 =>
    loadK ⟨1, true⟩ s v47 fun v48 =>
    outK (call 74 [t6, v48] s) fun v49 s50 =>
    extractK v49 0 fun v51 =>
    extractK v49 1 fun v52 =>
    binK .neq v52 (.int .i64 (.ofNat 0)) fun v53 =>
    condK v53 (.ret (.tup [.nilv, v52]) s50)
    (J17_8 call fu s50 t6 t3 v51)

def F17 (call : Call) (fu : Nat) (args : List AV) (s : St) : Out := match args with
  | [t0, t1] =>
    boxK s 55 3 t1 fun v54 s55 =>
    outK (call 73 [t0] s55) fun v56 s57 =>
    extractK v56 0 fun v58 =>
    extractK v56 1 fun v59 =>
    binK .neq v59 (.int .i64 (.ofNat 0)) fun v60 =>
    condK v60 (.ret (.tup [.nilv, v59]) s57)
    (J17_9 call fu s57 v58 v54)
  | _ => .err

abbrev orc17c (call : Call) (fu : Nat) (st : List IH) (id i : Nat) (s : St) (v : List AV) : Out := ch (Nat.beq id 4 && Nat.beq i 0) (J17_9 call fu s (nthL v 0) (nthL v 1)) (
    ch (Nat.beq id 7 && Nat.beq i 0) (J17_8 call fu s (nthL v 0) (nthL v 1) (nthL v 2)) (
    ch (Nat.beq id 10 && Nat.beq i 0) (J17_7 call fu s (nthL v 0) (nthL v 1) (nthL v 2) (nthL v 3)) (
    ch (Nat.beq id 13 && Nat.beq i 0) (J17_6 call fu (fun s x0 x1 x2 x3 x4 x5 x6 x7 => nthI st 0 s [x0, x1, x2, x3, x4, x5, x6, x7]) s (nthL v 0) (nthL v 1) (nthL v 2) (nthL v 3) (nthL v 4) (nthL v 5) (nthL v 6) (nthL v 7)) (
    ch (Nat.beq id 17 && Nat.beq i 0) (J17_5 call fu (fun s x0 x1 x2 x3 x4 x5 x6 x7 => nthI st 0 s [x0, x1, x2, x3, x4, x5, x6, x7]) s (nthL v 0) (nthL v 1) (nthL v 2) (nthL v 3) (nthL v 4) (nthL v 5) (nthL v 6) (nthL v 7) (nthL v 8)) (
    ch (Nat.beq id 18 && Nat.beq i 0) (J17_4 call fu (fun s x0 x1 x2 x3 x4 x5 x6 x7 => nthI st 0 s [x0, x1, x2, x3, x4, x5, x6, x7]) s (nthL v 0) (nthL v 1) (nthL v 2) (nthL v 3) (nthL v 4) (nthL v 5) (nthL v 6) (nthL v 7)) (
    ch (Nat.beq id 19 && Nat.beq i 0) (J17_2 call fu s (nthL v 0) (nthL v 1) (nthL v 2) (nthL v 3) (nthL v 4)) (
    ch (Nat.beq id 22 && Nat.beq i 0) (J17_1 call fu s (nthL v 0) (nthL v 1) (nthL v 2) (nthL v 3)) (
    ch (Nat.beq id 25 && Nat.beq i 0) (J17_0 call fu s (nthL v 0)) (
    .err)))))))))
abbrev orc17b (call : Call) (fu : Nat) (st : List IH) (id : Nat) (ih : IH) (s : St) (v : List AV) : Out := ch (Nat.beq id 12) (L17_3b call fu (fun s x0 x1 x2 x3 x4 x5 x6 x7 => ih s [x0, x1, x2, x3, x4, x5, x6, x7]) s (nthL v 0) (nthL v 1) (nthL v 2) (nthL v 3) (nthL v 4) (nthL v 5) (nthL v 6) (nthL v 7)) (
    .err)
abbrev orc17p (call : Call) (fu : Nat) (st : List IH) (id k : Nat) (s : St) (v : List AV) : Out := ch (Nat.beq id 12) (L17_3 call fu k s (nthL v 0) (nthL v 1) (nthL v 2) (nthL v 3) (nthL v 4) (nthL v 5) (nthL v 6) (nthL v 7)) (
    .err)
abbrev orc17m (call : Call) (fu : Nat) (id : Nat) (v : List AV) (s : St) : Out := .err
def lv17 (id i : Nat) : Option (List Tmp) := bif Nat.beq id 4 && Nat.beq i 0 then some [6, 3] else
    bif Nat.beq id 7 && Nat.beq i 0 then some [6, 3, 8] else
    bif Nat.beq id 10 && Nat.beq i 0 then some [6, 3, 9, 8] else
    bif Nat.beq id 13 && Nat.beq i 0 then some [46, 10, 6, 44, 3, 9, 8, 45] else
    bif Nat.beq id 17 && Nat.beq i 0 then some [46, 13, 10, 6, 44, 3, 9, 8, 45] else
    bif Nat.beq id 18 && Nat.beq i 0 then some [46, 10, 6, 44, 3, 9, 8, 45] else
    bif Nat.beq id 12 && Nat.beq i 0 then some [46, 10, 6, 44, 3, 9, 8, 45] else
    bif Nat.beq id 19 && Nat.beq i 0 then some [6, 3, 9, 8, 10] else
    bif Nat.beq id 22 && Nat.beq i 0 then some [6, 3, 9, 8] else
    bif Nat.beq id 25 && Nat.beq i 0 then some [6] else
    none
/- 18 -/
def J18_0 (call : Call) (fu : Nat) (s : St) (t17 t22 : AV) : Out :=
    pickK t17 t22 (.bool false) fun v0 =>
    .ret v0 s

def J18_1 (call : Call) (fu : Nat) (s : St) (t3 t2 t10 t15 : AV) : Out :=
    pickK t10 t15 (.bool false) fun v1 =>
    guardK true v1 (J18_0 call fu s v1 (.tup [])) <|
    fieldK 2 t2 fun v2 =>
    loadK ⟨1, false⟩ s v2 fun v3 =>
    fieldK 2 t3 fun v4 =>
    loadK ⟨1, false⟩ s v4 fun v5 =>
    outK (call 80 [v3, v5, (.func 81 [] [])] s) fun v6 s7 =>
    J18_0 call fu s7 v1 v6

def F18 (call : Call) (fu : Nat) (args : List AV) (s : St) : Out := match args with
  | [t0, t1] =>
    boxK s 55 3 t0 fun v8 s9 =>
    boxK s9 55 3 t1 fun v10 s11 =>
    fieldK 0 v8 fun v12 =>
    loadK ⟨1, true⟩ s11 v12 fun v13 =>
    fieldK 0 v10 fun v14 =>
    loadK ⟨1, true⟩ s11 v14 fun v15 =>
    outK (call 79 [v13, v15] s11) fun v16 s17 =>
    guardK true v16 (J18_1 call fu s17 v10 v8 v16 (.tup [])) <|
    fieldK 1 v8 fun v18 =>
    loadK ⟨1, false⟩ s17 v18 fun v19 =>
    fieldK 1 v10 fun v20 =>
    loadK ⟨1, false⟩ s17 v20 fun v21 =>
    binK .eql v19 v21 fun v22 =>
    J18_1 call fu s17 v10 v8 v16 v22
  | _ => .err

abbrev orc18c (call : Call) (fu : Nat) (st : List IH) (id i : Nat) (s : St) (v : List AV) : Out := ch (Nat.beq id 1 && Nat.beq i 11) (J18_1 call fu s (nthL v 0) (nthL v 1) (nthL v 2) (nthL v 3)) (
    ch (Nat.beq id 1 && Nat.beq i 18) (J18_0 call fu s (nthL v 0) (nthL v 1)) (
    .err))
abbrev orc18b (call : Call) (fu : Nat) (st : List IH) (id : Nat) (ih : IH) (s : St) (v : List AV) : Out := .err
abbrev orc18p (call : Call) (fu : Nat) (st : List IH) (id k : Nat) (s : St) (v : List AV) : Out := .err
abbrev orc18m (call : Call) (fu : Nat) (id : Nat) (v : List AV) (s : St) : Out := .err
def lv18 (id i : Nat) : Option (List Tmp) := bif Nat.beq id 1 && Nat.beq i 11 then some [3, 2, 10, 15] else
    bif Nat.beq id 1 && Nat.beq i 18 then some [17, 22] else
    none
/- 19 -/
def J19_0 (call : Call) (fu : Nat) (s : St) (t27 t29 : AV) : Out :=
    pickK t27 t29 (.bool false) fun v0 =>
    .ret v0 s

def J19_1 (call : Call) (fu : Nat) (s : St) (t6 t23 t25 : AV) : Out :=
    pickK t23 t25 (.bool false) fun v1 =>
    guardK true v1 (J19_0 call fu s v1 (.tup [])) <|
    binK .eql t6 (.int .i64 (.ofNat 0)) fun v2 =>
    J19_0 call fu s v1 v2

def J19_2 (call : Call) (fu : Nat) (s : St) (t2 : AV) : Out :=
    outK (call 83 [t2] s) fun v3 s4 =>
    extractK v3 0 fun v5 =>
    extractK v3 1 fun v6 =>
    extractK v3 2 fun v7 =>
    binK .eql v5 (.int .i64 (.ofNat 2)) fun v8 =>
    guardK true v8 (J19_1 call fu s4 v7 v8 (.tup [])) <|
    binK .eql v6 (.int .i64 (.ofNat 0)) fun v9 =>
    J19_1 call fu s4 v7 v8 v9

def F19 (call : Call) (fu : Nat) (args : List AV) (s : St) : Out := match args with
  | [] =>
    outK (call 82 [] s) fun v10 s11 =>
    outK (call 14 [v10] s11) fun v12 s13 =>
    extractK v12 0 fun v14 =>
    extractK v12 1 fun v15 =>
    binK .neq v15 (.int .i64 (.ofNat 0)) fun v16 =>
    condK v16 (.ret (.bool false) s13)
    (J19_2 call fu s13 v14)
  | _ => .err

abbrev orc19c (call : Call) (fu : Nat) (st : List IH) (id i : Nat) (s : St) (v : List AV) : Out := ch (Nat.beq id 5 && Nat.beq i 0) (J19_2 call fu s (nthL v 0)) (
    ch (Nat.beq id 6 && Nat.beq i 5) (J19_1 call fu s (nthL v 0) (nthL v 1) (nthL v 2)) (
    ch (Nat.beq id 6 && Nat.beq i 9) (J19_0 call fu s (nthL v 0) (nthL v 1)) (
    .err)))
abbrev orc19b (call : Call) (fu : Nat) (st : List IH) (id : Nat) (ih : IH) (s : St) (v : List AV) : Out := .err
abbrev orc19p (call : Call) (fu : Nat) (st : List IH) (id k : Nat) (s : St) (v : List AV) : Out := .err
abbrev orc19m (call : Call) (fu : Nat) (id : Nat) (v : List AV) (s : St) : Out := .err
def lv19 (id i : Nat) : Option (List Tmp) := bif Nat.beq id 5 && Nat.beq i 0 then some [2] else
    bif Nat.beq id 6 && Nat.beq i 5 then some [6, 23, 25] else
    bif Nat.beq id 6 && Nat.beq i 9 then some [27, 29] else
    none
/- 35 -/
def J35_0 (call : Call) (fu : Nat) (s : St) (t0 : AV) : Out :=
    nilK t0 fun v0 =>
    fieldK 2 v0 fun v1 =>
    loadK ⟨1, false⟩ s v1 fun v2 =>
    newK s (.map .nil 0) fun i3 s4 =>
    fillK (.cells [(.int .i64 (.ofNat 0)), .nilm, .nils, (.int .i64 (.ofNat 0))]) [(0, 1, v2), (1, 1, (.map i3))] fun v5 =>
    boxK s4 195 4 v5 fun v6 s7 =>
    nilK t0 fun v8 =>
    fieldK 3 v8 fun v9 =>
    storeK ⟨1, false⟩ s7 v9 v6 fun s10 =>
    .ret (.int .i64 (.ofNat 0)) s10

def J35_1 (call : Call) (fu : Nat) (s : St) (t0 : AV) : Out :=
    nilK t0 fun v11 =>
    fieldK 3 v11 fun v12 =>
    loadK ⟨1, false⟩ s v12 fun v13 =>
    eqK .ptr s true v13 .nilv fun v14 =>
    condK v14 (.ret (.int .i64 (.ofNat 6)) s)
    (J35_0 call fu s t0)

def F35 (call : Call) (fu : Nat) (args : List AV) (s : St) : Out := match args with
  | [t0] =>
    outK (call 103 [t0] s) fun v15 s16 =>
    binK .neq v15 (.int .i64 (.ofNat 0)) fun v17 =>
    condK v17 (.ret v15 s16)
    (J35_1 call fu s16 t0)
  | _ => .err

abbrev orc35c (call : Call) (fu : Nat) (st : List IH) (id i : Nat) (s : St) (v : List AV) : Out := ch (Nat.beq id 4 && Nat.beq i 0) (J35_1 call fu s (nthL v 0)) (
    ch (Nat.beq id 6 && Nat.beq i 0) (J35_0 call fu s (nthL v 0)) (
    .err))
abbrev orc35b (call : Call) (fu : Nat) (st : List IH) (id : Nat) (ih : IH) (s : St) (v : List AV) : Out := .err
abbrev orc35p (call : Call) (fu : Nat) (st : List IH) (id k : Nat) (s : St) (v : List AV) : Out := .err
abbrev orc35m (call : Call) (fu : Nat) (id : Nat) (v : List AV) (s : St) : Out := .err
def lv35 (id i : Nat) : Option (List Tmp) := bif Nat.beq id 4 && Nat.beq i 0 then some [0] else
    bif Nat.beq id 6 && Nat.beq i 0 then some [0] else
    none
/- 36 -/
def J36_0 (call : Call) (fu : Nat) (s : St) (t4 t0 : AV) : Out :=
    makeSliceK 5 1 (.int .u8 (.ofNat 0)) s (.int .i64 (.ofNat 512)) (.int .i64 (.ofNat 512)) fun v0 s1 =>
    copyK 1 s1 v0 (.str 8 3559376929094328680) fun v2 s3 =>
    fillK (.cells [.nilv]) [(0, 1, t0)] fun v4 =>
    boxK s3 198 1 v4 fun v5 s6 =>
    outK (call 106 [t0, t4, v0] s6) fun v7 s8 =>
    .ret (.tup [v5, v7]) s8

def J36_1 (call : Call) (fu : Nat) (s : St) (t0 : AV) : Out :=
    outK (call 105 [t0] s) fun v9 s10 =>
    extractK v9 0 fun v11 =>
    extractK v9 1 fun v12 =>
    binK .neq v12 (.int .i64 (.ofNat 0)) fun v13 =>
    condK v13 (.ret (.tup [.nilv, v12]) s10)
    (J36_0 call fu s10 v11 t0)

def F36 (call : Call) (fu : Nat) (args : List AV) (s : St) : Out := match args with
  | [t0] =>
    outK (call 104 [t0] s) fun v14 s15 =>
    binK .gtr v14 (.int .i64 (.ofNat 0)) fun v16 =>
    condK v16 (.ret (.tup [.nilv, (.int .i64 (.ofNat 6))]) s15)
    (J36_1 call fu s15 t0)
  | _ => .err

abbrev orc36c (call : Call) (fu : Nat) (st : List IH) (id i : Nat) (s : St) (v : List AV) : Out := ch (Nat.beq id 3 && Nat.beq i 0) (J36_1 call fu s (nthL v 0)) (
    ch (Nat.beq id 6 && Nat.beq i 0) (J36_0 call fu s (nthL v 0) (nthL v 1)) (
    .err))
abbrev orc36b (call : Call) (fu : Nat) (st : List IH) (id : Nat) (ih : IH) (s : St) (v : List AV) : Out := .err
abbrev orc36p (call : Call) (fu : Nat) (st : List IH) (id k : Nat) (s : St) (v : List AV) : Out := .err
abbrev orc36m (call : Call) (fu : Nat) (id : Nat) (v : List AV) (s : St) : Out := .err
def lv36 (id i : Nat) : Option (List Tmp) := bif Nat.beq id 3 && Nat.beq i 0 then some [0] else
    bif Nat.beq id 6 && Nat.beq i 0 then some [4, 0] else
    none
/- 37 -/
def J37_0 (call : Call) (fu : Nat) (s : St) (t4 : AV) : Out :=
    .ret (.tup [t4, (.int .i64 (.ofNat 0))]) s

def F37 (call : Call) (fu : Nat) (args : List AV) (s : St) : Out := match args with
  | [t0] =>
    boxK s 46 1 t0 fun v0 s1 =>
    loadK ⟨1, false⟩ s1 v0 fun v2 =>
    fillK (.cells [.nilv, .nilv, .nilv]) [(0, 1, v2)] fun v3 =>
    boxK s1 49 3 v3 fun v4 s5 =>
    nilK v4 fun v6 =>
    fieldK 1 v6 fun v7 =>
    nilK v4 fun v8 =>
    fieldK 2 v8 fun v9 =>
    callVK call (.func 107 [] [v0]) [v7, (.int .i64 (.ofNat 0))] s5 fun v10 s11 =>
    callVK call (.func 107 [] [v0]) [v9, (.int .i64 (.ofNat 1))] s11 fun v12 s13 =>
    fillK (.cells [.nilf, .nilf, .nilf]) [(0, 1, v10), (1, 1, v12), (2, 1, (.func 109 [] [v0]))] fun v14 => newK s13 (.row 95 v14) fun i15 s16 =>
    outK (call 49 [(.slice i15 0 3 3 1 false)] s16) fun v17 s18 =>
    binK .neq v17 (.int .i64 (.ofNat 0)) fun v19 =>
    condK v19 (.ret (.tup [.nilv, v17]) s18)
    (J37_0 call fu s18 v4)
  | _ => .err

abbrev orc37c (call : Call) (fu : Nat) (st : List IH) (id i : Nat) (s : St) (v : List AV) : Out := ch (Nat.beq id 6 && Nat.beq i 0) (J37_0 call fu s (nthL v 0)) (
    .err)
abbrev orc37b (call : Call) (fu : Nat) (st : List IH) (id : Nat) (ih : IH) (s : St) (v : List AV) : Out := .err
abbrev orc37p (call : Call) (fu : Nat) (st : List IH) (id k : Nat) (s : St) (v : List AV) : Out := .err
abbrev orc37m (call : Call) (fu : Nat) (id : Nat) (v : List AV) (s : St) : Out := .err
def lv37 (id i : Nat) : Option (List Tmp) := bif Nat.beq id 6 && Nat.beq i 0 then some [4] else
    none
/- 38 -/
def J38_0 (call : Call) (fu : Nat) (s : St) (t5 t10 : AV) : Out :=
    pickK t5 t10 (.bool false) fun v0 =>
    .ret v0 s

def F38 (call : Call) (fu : Nat) (args : List AV) (s : St) : Out := match args with
  | [t0] =>
    eqK .ptr s true t0 .nilv fun v1 =>
    guardK true v1 (J38_0 call fu s v1 (.tup [])) <|
    nilK t0 fun v2 =>
    fieldK 2 v2 fun v3 =>
    loadK ⟨1, false⟩ s v3 fun v4 =>
    eqK .ptr s true v4 .nilv fun v5 =>
    J38_0 call fu s v1 v5
  | _ => .err

abbrev orc38c (call : Call) (fu : Nat) (st : List IH) (id i : Nat) (s : St) (v : List AV) : Out := ch (Nat.beq id 1 && Nat.beq i 8) (J38_0 call fu s (nthL v 0) (nthL v 1)) (
    .err)
abbrev orc38b (call : Call) (fu : Nat) (st : List IH) (id : Nat) (ih : IH) (s : St) (v : List AV) : Out := .err
abbrev orc38p (call : Call) (fu : Nat) (st : List IH) (id k : Nat) (s : St) (v : List AV) : Out := .err
abbrev orc38m (call : Call) (fu : Nat) (id : Nat) (v : List AV) (s : St) : Out := .err
def lv38 (id i : Nat) : Option (List Tmp) := bif Nat.beq id 1 && Nat.beq i 8 then some [5, 10] else
    none
/- 39 -/
def J39_0 (call : Call) (fu : Nat) (s : St) (t11 t14 : AV) : Out :=
    pickK t11 t14 (.bool false) fun v0 =>
    .ret v0 s

def J39_1 (call : Call) (fu : Nat) (s : St) (t1 t6 t9 : AV) : Out :=
    pickK t6 t9 (.bool false) fun v1 =>
    guardK true v1 (J39_0 call fu s v1 (.tup [])) <|
    fieldK 1 t1 fun v2 =>
    loadK ⟨1, false⟩ s v2 fun v3 =>
    outK (call 110 [v3] s) fun v4 s5 =>
    J39_0 call fu s5 v1 v4

def F39 (call : Call) (fu : Nat) (args : List AV) (s : St) : Out := match args with
  | [t0] =>
    boxK s 27 2 t0 fun v6 s7 =>
    fieldK 0 v6 fun v8 =>
    loadK ⟨1, false⟩ s7 v8 fun v9 =>
    binK .geq v9 (.int .i64 (.negSucc 2147483647)) fun v10 =>
    guardK true v10 (J39_1 call fu s7 v6 v10 (.tup [])) <|
    fieldK 0 v6 fun v11 =>
    loadK ⟨1, false⟩ s7 v11 fun v12 =>
    binK .leq v12 (.int .i64 (.ofNat 2147483647)) fun v13 =>
    J39_1 call fu s7 v6 v10 v13
  | _ => .err

abbrev orc39c (call : Call) (fu : Nat) (st : List IH) (id i : Nat) (s : St) (v : List AV) : Out := ch (Nat.beq id 1 && Nat.beq i 7) (J39_1 call fu s (nthL v 0) (nthL v 1) (nthL v 2)) (
    ch (Nat.beq id 1 && Nat.beq i 12) (J39_0 call fu s (nthL v 0) (nthL v 1)) (
    .err))
abbrev orc39b (call : Call) (fu : Nat) (st : List IH) (id : Nat) (ih : IH) (s : St) (v : List AV) : Out := .err
abbrev orc39p (call : Call) (fu : Nat) (st : List IH) (id k : Nat) (s : St) (v : List AV) : Out := .err
abbrev orc39m (call : Call) (fu : Nat) (id : Nat) (v : List AV) (s : St) : Out := .err
def lv39 (id i : Nat) : Option (List Tmp) := bif Nat.beq id 1 && Nat.beq i 7 then some [1, 6, 9] else
    bif Nat.beq id 1 && Nat.beq i 12 then some [11, 14] else
    none
/- 40 -/
def J40_0 (call : Call) (fu : Nat) (s : St) (t6 : AV) : Out :=
    .ret (.tup [t6, (.int .i64 (.ofNat 0))]) s

def J40_2 (call : Call) (fu : Nat) (ih1 : St → AV → AV → AV → AV → Out) (s : St) (t26 t6 t24 t25 : AV) : Out :=
    binK .add t26 (.int .i64 (.ofNat 1)) fun v0 =>
    ih1 s v0 t6 t24 t25

def J40_3 (call : Call) (fu : Nat) (ih1 : St → AV → AV → AV → AV → Out) (s : St) (t26 t9 t6 t24 t25 : AV) : Out :=
    loadK ⟨2, true⟩ s t9 fun v1 =>
    fillK (.cells [(.int .i64 (.ofNat 0)), (.str 0 0)]) [(0, 2, v1)] fun v2 => newK s (.row 27 v2) fun i3 s4 =>
    appK 27 2 s4 t6 (.slice i3 0 1 1 2 false) fun v5 s6 =>
    J40_2 call fu ih1 s6 t26 v5 t24 t25

def J40_4 (call : Call) (fu : Nat) (ih1 : St → AV → AV → AV → AV → Out) (s : St) (t26 t6 t24 t25 : AV) : Out :=
    indexSlK 2 t24 t26 fun v7 =>
    loadK ⟨2, true⟩ s v7 fun v8 =>
    allocK s 153 (.cells [(.int .i64 (.ofNat 0)), .nils]) fun v9 s10 =>
    storeK ⟨2, true⟩ s10 v9 v8 fun s11 =>
    fieldK 0 v9 fun v12 =>
    loadK ⟨1, false⟩ s11 v12 fun v13 =>
    fieldK 1 v9 fun v14 =>
    loadK ⟨1, false⟩ s11 v14 fun v15 =>
    toStrK s11 v15 fun v16 =>
    fillK (.cells [(.int .i64 (.ofNat 0)), (.str 0 0)]) [(0, 1, v13), (1, 1, v16)] fun v17 =>
    allocK s11 27 (.cells [(.int .i64 (.ofNat 0)), (.str 0 0)]) fun v18 s19 =>
    storeK ⟨2, true⟩ s19 v18 v17 fun s20 =>
    loadK ⟨2, true⟩ s20 v18 fun v21 =>
    outK (call 39 [v21] s20) fun v22 s23 =>
    notK v22 fun v24 =>
    condK v24 (.ret (.tup [.nils, (.int .i64 (.ofNat 9))]) s23)
    (J40_3 call fu ih1 s23 t26 v18 t6 t24 t25)

def L40_1b (call : Call) (fu : Nat) (ih1 : St → AV → AV → AV → AV → Out) (s : St) (t26 t6 t24 t25 : AV) : Out :=
    binK .lss t26 t25 fun v25 =>
    condK v25 (J40_4 call fu ih1 s t26 t6 t24 t25)
    (J40_0 call fu s t6)

def L40_1 (call : Call) (fu : Nat) (n : Nat) : St → AV → AV → AV → AV → Out :=
  Nat.rec (motive := fun _ => St → AV → AV → AV → AV → Out) (fun _ _ _ _ _ => .err) (fun _ ih => L40_1b call fu ih) n

def J40_5 (call : Call) (fu : Nat) (s : St) (t4 : AV) : Out :=
    lenSlK t4 fun v26 =>
    L40_1 call fu fu s (.int .i64 (.ofNat 0)) .nils t4 (goInt v26)

def J40_6 (call : Call) (fu : Nat) (s : St) (t0 : AV) : Out :=
    nilK t0 fun v27 =>
    fieldK 1 v27 fun v28 =>
    loadK ⟨1, false⟩ s v28 fun v29 =>
    outK (call 101 [v29, (.int .i64 (.ofNat 4000))] s) fun v30 s31 =>
    extractK v30 0 fun v32 =>
    extractK v30 1 fun v33 =>
    binK .neq v33 (.int .i64 (.ofNat 0)) fun v34 =>
    condK v34 (.ret (.tup [.nils, v33]) s31)
    (J40_5 call fu s31 v32)

def F40 (call : Call) (fu : Nat) (args : List AV) (s : St) : Out := match args with
  | [t0] =>
    outK (call 38 [t0] s) fun v35 s36 =>
    notK v35 fun v37 =>
    condK v37 (.ret (.tup [.nils, (.int .i64 (.ofNat 1))]) s36)
    (J40_6 call fu s36 t0)
  | _ => .err

abbrev orc40c (call : Call) (fu : Nat) (st : List IH) (id i : Nat) (s : St) (v : List AV) : Out := ch (Nat.beq id 3 && Nat.beq i 0) (J40_6 call fu s (nthL v 0)) (
    ch (Nat.beq id 6 && Nat.beq i 0) (J40_5 call fu s (nthL v 0)) (
    ch (Nat.beq id 9 && Nat.beq i 0) (J40_4 call fu (fun s x0 x1 x2 x3 => nthI st 0 s [x0, x1, x2, x3]) s (nthL v 0) (nthL v 1) (nthL v 2) (nthL v 3)) (
    ch (Nat.beq id 13 && Nat.beq i 0) (J40_3 call fu (fun s x0 x1 x2 x3 => nthI st 0 s [x0, x1, x2, x3]) s (nthL v 0) (nthL v 1) (nthL v 2) (nthL v 3) (nthL v 4)) (
    ch (Nat.beq id 14 && Nat.beq i 0) (J40_2 call fu (fun s x0 x1 x2 x3 => nthI st 0 s [x0, x1, x2, x3]) s (nthL v 0) (nthL v 1) (nthL v 2) (nthL v 3)) (
    ch (Nat.beq id 15 && Nat.beq i 0) (J40_0 call fu s (nthL v 0)) (
    .err))))))
abbrev orc40b (call : Call) (fu : Nat) (st : List IH) (id : Nat) (ih : IH) (s : St) (v : List AV) : Out := ch (Nat.beq id 8) (L40_1b call fu (fun s x0 x1 x2 x3 => ih s [x0, x1, x2, x3]) s (nthL v 0) (nthL v 1) (nthL v 2) (nthL v 3)) (
    .err)
abbrev orc40p (call : Call) (fu : Nat) (st : List IH) (id k : Nat) (s : St) (v : List AV) : Out := ch (Nat.beq id 8) (L40_1 call fu k s (nthL v 0) (nthL v 1) (nthL v 2) (nthL v 3)) (
    .err)
abbrev orc40m (call : Call) (fu : Nat) (id : Nat) (v : List AV) (s : St) : Out := .err
def lv40 (id i : Nat) : Option (List Tmp) := bif Nat.beq id 3 && Nat.beq i 0 then some [0] else
    bif Nat.beq id 6 && Nat.beq i 0 then some [4] else
    bif Nat.beq id 9 && Nat.beq i 0 then some [26, 6, 24, 25] else
    bif Nat.beq id 13 && Nat.beq i 0 then some [26, 9, 6, 24, 25] else
    bif Nat.beq id 14 && Nat.beq i 0 then some [26, 6, 24, 25] else
    bif Nat.beq id 8 && Nat.beq i 0 then some [26, 6, 24, 25] else
    bif Nat.beq id 15 && Nat.beq i 0 then some [6] else
    none
/- 41 -/
def F41 (call : Call) (fu : Nat) (args : List AV) (s : St) : Out := match args with
  | [t0, t1] =>
    outK (call 111 [t0, t1] s) fun v0 s1 =>
    binK .geq v0 (.int .i64 (.ofNat 0)) fun v2 =>
    .ret v2 s1
  | _ => .err

abbrev orc41c (call : Call) (fu : Nat) (st : List IH) (id i : Nat) (s : St) (v : List AV) : Out := .err
abbrev orc41b (call : Call) (fu : Nat) (st : List IH) (id : Nat) (ih : IH) (s : St) (v : List AV) : Out := .err
abbrev orc41p (call : Call) (fu : Nat) (st : List IH) (id k : Nat) (s : St) (v : List AV) : Out := .err
abbrev orc41m (call : Call) (fu : Nat) (id : Nat) (v : List AV) (s : St) : Out := .err
def lv41 (id i : Nat) : Option (List Tmp) := none
/- 43 -/
def J43_0 (call : Call) (fu : Nat) (s : St) (t4 t3 t5 : AV) : Out :=
    loadK ⟨1, false⟩ s t3 fun v0 =>
    loadK ⟨1, false⟩ s t4 fun v1 =>
    outK (call 113 [v0, v1, (.func 114 [] [t4, t3, t5])] s) fun v2 s3 =>
    extractK v2 0 fun v4 =>
    extractK v2 1 fun v5 =>
    .ret v5 s3

def J43_1 (call : Call) (fu : Nat) (s : St) (t4 t3 t5 t15 : AV) : Out :=
    condK t15 (.ret (.int .i64 (.ofNat 2)) s)
    (J43_0 call fu s t4 t3 t5)

def J43_2 (call : Call) (fu : Nat) (s : St) (t4 t3 t5 t11 t14 : AV) : Out :=
    pickK t11 t14 (.bool false) fun v6 =>
    J43_1 call fu s t4 t3 t5 v6

def F43 (call : Call) (fu : Nat) (args : List AV) (s : St) : Out := match args with
  | [t0, t1, t2] =>
    boxK s 47 1 t0 fun v7 s8 =>
    boxK s8 3 1 t1 fun v9 s10 =>
    boxK s10 108 1 t2 fun v11 s12 =>
    loadK ⟨1, false⟩ s12 v7 fun v13 =>
    outK (call 112 [v13] s12) fun v14 s15 =>
    guardK true v14 (J43_2 call fu s15 v9 v7 v11 v14 (.tup [])) <|
    loadK ⟨1, false⟩ s15 v11 fun v16 =>
    lenSlK v16 fun v17 =>
    binK .gtr (goInt v17) (.int .i64 (.ofNat 20000)) fun v18 =>
    J43_2 call fu s15 v9 v7 v11 v14 v18
  | _ => .err

abbrev orc43c (call : Call) (fu : Nat) (st : List IH) (id i : Nat) (s : St) (v : List AV) : Out := ch (Nat.beq id 1 && Nat.beq i 6) (J43_2 call fu s (nthL v 0) (nthL v 1) (nthL v 2) (nthL v 3) (nthL v 4)) (
    ch (Nat.beq id 2 && Nat.beq i 0) (J43_1 call fu s (nthL v 0) (nthL v 1) (nthL v 2) (nthL v 3)) (
    ch (Nat.beq id 3 && Nat.beq i 0) (J43_0 call fu s (nthL v 0) (nthL v 1) (nthL v 2)) (
    .err)))
abbrev orc43b (call : Call) (fu : Nat) (st : List IH) (id : Nat) (ih : IH) (s : St) (v : List AV) : Out := .err
abbrev orc43p (call : Call) (fu : Nat) (st : List IH) (id k : Nat) (s : St) (v : List AV) : Out := .err
abbrev orc43m (call : Call) (fu : Nat) (id : Nat) (v : List AV) (s : St) : Out := .err
def lv43 (id i : Nat) : Option (List Tmp) := bif Nat.beq id 1 && Nat.beq i 6 then some [4, 3, 5, 11, 14] else
    bif Nat.beq id 2 && Nat.beq i 0 then some [4, 3, 5, 15] else
    bif Nat.beq id 3 && Nat.beq i 0 then some [4, 3, 5] else
    none
/- 45 -/
def J45_0 (call : Call) (fu : Nat) (s : St) (t1 t6 : AV) : Out :=
    binK .mul t1 (.int .i64 (.ofNat 8)) fun v0 =>
    binK .add (.int .i64 (.ofNat 16)) v0 fun v1 =>
    callVK call (.func 122 [t6] []) [v1, (.int .i64 (.ofNat 8))] s fun v2 s3 =>
    .ret (.tup [v2, (.int .i64 (.ofNat 0))]) s3

def J45_1 (call : Call) (fu : Nat) (s : St) (t1 t6 t18 : AV) : Out :=
    condK t18 (.ret (.tup [(.int .i64 (.ofNat 0)), (.int .i64 (.ofNat 11))]) s)
    (J45_0 call fu s t1 t6)

def J45_2 (call : Call) (fu : Nat) (s : St) (t1 t6 t21 t23 : AV) : Out :=
    pickK t21 (.bool true) t23 fun v4 =>
    J45_1 call fu s t1 t6 v4

def F45 (call : Call) (fu : Nat) (args : List AV) (s : St) : Out := match args with
  | [t0, t1] =>
    outK (call 121 [t0] s) fun v5 s6 =>
    extractK v5 0 fun v7 =>
    extractK v5 1 fun v8 =>
    binK .neq v8 (.int .i64 (.ofNat 0)) fun v9 =>
    condK v9 (.ret (.tup [(.int .i64 (.ofNat 0)), v8]) s6)
    (binK .lss t1 (.int .i64 (.ofNat 0)) fun v10 =>
    guardK false v10 (J45_2 call fu s6 t1 v7 v10 (.tup [])) <|
    binK .geq t1 (.int .i64 (.ofNat 60)) fun v11 =>
    J45_2 call fu s6 t1 v7 v10 v11)
  | _ => .err

abbrev orc45c (call : Call) (fu : Nat) (st : List IH) (id i : Nat) (s : St) (v : List AV) : Out := ch (Nat.beq id 4 && Nat.beq i 5) (J45_2 call fu s (nthL v 0) (nthL v 1) (nthL v 2) (nthL v 3)) (
    ch (Nat.beq id 5 && Nat.beq i 0) (J45_1 call fu s (nthL v 0) (nthL v 1) (nthL v 2)) (
    ch (Nat.beq id 6 && Nat.beq i 0) (J45_0 call fu s (nthL v 0) (nthL v 1)) (
    .err)))
abbrev orc45b (call : Call) (fu : Nat) (st : List IH) (id : Nat) (ih : IH) (s : St) (v : List AV) : Out := .err
abbrev orc45p (call : Call) (fu : Nat) (st : List IH) (id k : Nat) (s : St) (v : List AV) : Out := .err
abbrev orc45m (call : Call) (fu : Nat) (id : Nat) (v : List AV) (s : St) : Out := .err
def lv45 (id i : Nat) : Option (List Tmp) := bif Nat.beq id 4 && Nat.beq i 5 then some [1, 6, 21, 23] else
    bif Nat.beq id 5 && Nat.beq i 0 then some [1, 6, 18] else
    bif Nat.beq id 6 && Nat.beq i 0 then some [1, 6] else
    none
/- 46 -/
def J46_0 (call : Call) (fu : Nat) (s : St) (t4 t0 : AV) : Out :=
    fillK (.cells [.nilv, (.int .i64 (.ofNat 0))]) [(0, 1, t0), (1, 1, t4)] fun v0 =>
    boxK s 221 2 v0 fun v1 s2 =>
    fillK (.cells [(.bool false), (.int .i64 (.ofNat 0)), .nils]) [(0, 1, (.bool true))] fun v3 =>
    outK (call 124 [v1, t4, v3] s2) fun v4 s5 =>
    .ret (.tup [v1, v4]) s5

def F46 (call : Call) (fu : Nat) (args : List AV) (s : St) : Out := match args with
  | [t0] =>
    outK (call 123 [t0] s) fun v6 s7 =>
    extractK v6 0 fun v8 =>
    extractK v6 1 fun v9 =>
    binK .neq v9 (.int .i64 (.ofNat 0)) fun v10 =>
    condK v10 (.ret (.tup [.nilv, v9]) s7)
    (J46_0 call fu s7 v8 t0)
  | _ => .err

abbrev orc46c (call : Call) (fu : Nat) (st : List IH) (id i : Nat) (s : St) (v : List AV) : Out := ch (Nat.beq id 4 && Nat.beq i 0) (J46_0 call fu s (nthL v 0) (nthL v 1)) (
    .err)
abbrev orc46b (call : Call) (fu : Nat) (st : List IH) (id : Nat) (ih : IH) (s : St) (v : List AV) : Out := .err
abbrev orc46p (call : Call) (fu : Nat) (st : List IH) (id k : Nat) (s : St) (v : List AV) : Out := .err
abbrev orc46m (call : Call) (fu : Nat) (id : Nat) (v : List AV) (s : St) : Out := .err
def lv46 (id i : Nat) : Option (List Tmp) := bif Nat.beq id 4 && Nat.beq i 0 then some [4, 0] else
    none
/- 48 -/
def J48_0 (call : Call) (fu : Nat) (s : St) (t0 : AV) : Out :=
    nilK t0 fun v0 =>
    fieldK 1 v0 fun v1 =>
    loadK ⟨1, false⟩ s v1 fun v2 =>
    .ret v2 s

def F48 (call : Call) (fu : Nat) (args : List AV) (s : St) : Out := match args with
  | [t0] =>
    outK (call 112 [t0] s) fun v3 s4 =>
    notK v3 fun v5 =>
    condK v5 (.ret (.int .i64 (.ofNat 0)) s4)
    (J48_0 call fu s4 t0)
  | _ => .err

abbrev orc48c (call : Call) (fu : Nat) (st : List IH) (id i : Nat) (s : St) (v : List AV) : Out := ch (Nat.beq id 3 && Nat.beq i 0) (J48_0 call fu s (nthL v 0)) (
    .err)
abbrev orc48b (call : Call) (fu : Nat) (st : List IH) (id : Nat) (ih : IH) (s : St) (v : List AV) : Out := .err
abbrev orc48p (call : Call) (fu : Nat) (st : List IH) (id k : Nat) (s : St) (v : List AV) : Out := .err
abbrev orc48m (call : Call) (fu : Nat) (id : Nat) (v : List AV) (s : St) : Out := .err
def lv48 (id i : Nat) : Option (List Tmp) := bif Nat.beq id 3 && Nat.beq i 0 then some [0] else
    none
/- 49 -/
def J49_0 (call : Call) (fu : Nat) (s : St) : Out :=
    .ret (.int .i64 (.ofNat 0)) s

def J49_2 (call : Call) (fu : Nat) (ih1 : St → AV → AV → AV → Out) (s : St) (t8 t6 t7 : AV) : Out :=
    binK .add t8 (.int .i64 (.ofNat 1)) fun v0 =>
    ih1 s v0 t6 t7

def J49_3 (call : Call) (fu : Nat) (ih1 : St → AV → AV → AV → Out) (s : St) (t8 t6 t7 : AV) : Out :=
    indexSlK 1 t6 t8 fun v1 =>
    loadK ⟨1, false⟩ s v1 fun v2 =>
    callVK call v2 [] s fun v3 s4 =>
    binK .neq v3 (.int .i64 (.ofNat 0)) fun v5 =>
    condK v5 (.ret v3 s4)
    (J49_2 call fu ih1 s4 t8 t6 t7)

def L49_1b (call : Call) (fu : Nat) (ih1 : St → AV → AV → AV → Out) (s : St) (t8 t6 t7 : AV) : Out :=
    binK .lss t8 t7 fun v6 =>
    condK v6 (J49_3 call fu ih1 s t8 t6 t7)
    (J49_0 call fu s)

def L49_1 (call : Call) (fu : Nat) (n : Nat) : St → AV → AV → AV → Out :=
  Nat.rec (motive := fun _ => St → AV → AV → AV → Out) (fun _ _ _ _ => .err) (fun _ ih => L49_1b call fu ih) n

def F49 (call : Call) (fu : Nat) (args : List AV) (s : St) : Out := match args with
  | [t0] =>
    lenSlK t0 fun v7 =>
    L49_1 call fu fu s (.int .i64 (.ofNat 0)) t0 (goInt v7)
  | _ => .err

abbrev orc49c (call : Call) (fu : Nat) (st : List IH) (id i : Nat) (s : St) (v : List AV) : Out := ch (Nat.beq id 3 && Nat.beq i 0) (J49_3 call fu (fun s x0 x1 x2 => nthI st 0 s [x0, x1, x2]) s (nthL v 0) (nthL v 1) (nthL v 2)) (
    ch (Nat.beq id 7 && Nat.beq i 0) (J49_2 call fu (fun s x0 x1 x2 => nthI st 0 s [x0, x1, x2]) s (nthL v 0) (nthL v 1) (nthL v 2)) (
    ch (Nat.beq id 8 && Nat.beq i 0) (J49_0 call fu s) (
    .err)))
abbrev orc49b (call : Call) (fu : Nat) (st : List IH) (id : Nat) (ih : IH) (s : St) (v : List AV) : Out := ch (Nat.beq id 2) (L49_1b call fu (fun s x0 x1 x2 => ih s [x0, x1, x2]) s (nthL v 0) (nthL v 1) (nthL v 2)) (
    .err)
abbrev orc49p (call : Call) (fu : Nat) (st : List IH) (id k : Nat) (s : St) (v : List AV) : Out := ch (Nat.beq id 2) (L49_1 call fu k s (nthL v 0) (nthL v 1) (nthL v 2)) (
    .err)
abbrev orc49m (call : Call) (fu : Nat) (id : Nat) (v : List AV) (s : St) : Out := .err
def lv49 (id i : Nat) : Option (List Tmp) := bif Nat.beq id 3 && Nat.beq i 0 then some [8, 6, 7] else
    bif Nat.beq id 7 && Nat.beq i 0 then some [8, 6, 7] else
    bif Nat.beq id 2 && Nat.beq i 0 then some [8, 6, 7] else
    bif Nat.beq id 8 && Nat.beq i 0 then some [] else
    none
/- 53 -/
def J53_0 (call : Call) (fu : Nat) (s : St) (t7 t0 t2 t1 : AV) : Out :=
    binK .mul t1 (.int .i64 (.ofNat 8)) fun v0 =>
    binK .add (.int .i64 (.ofNat 16)) v0 fun v1 =>
    callVK call (.func 130 [t7] []) [v1, (.int .i64 (.ofNat 8)), t2] s fun v2 s3 =>
    nilK t0 fun v4 =>
    fieldK 0 v4 fun v5 =>
    loadK ⟨1, false⟩ s3 v5 fun v6 =>
    outK (call 106 [v6, (.int .i64 (.ofNat 1)), t7] s3) fun v7 s8 =>
    .ret v7 s8

def J53_1 (call : Call) (fu : Nat) (s : St) (t7 t0 t2 t1 t19 : AV) : Out :=
    condK t19 (.ret (.int .i64 (.ofNat 11)) s)
    (J53_0 call fu s t7 t0 t2 t1)

def J53_2 (call : Call) (fu : Nat) (s : St) (t7 t0 t2 t1 t22 t24 : AV) : Out :=
    pickK t22 (.bool true) t24 fun v9 =>
    J53_1 call fu s t7 t0 t2 t1 v9

def F53 (call : Call) (fu : Nat) (args : List AV) (s : St) : Out := match args with
  | [t0, t1, t2] =>
    outK (call 121 [t0] s) fun v10 s11 =>
    extractK v10 0 fun v12 =>
    extractK v10 1 fun v13 =>
    binK .neq v13 (.int .i64 (.ofNat 0)) fun v14 =>
    condK v14 (.ret v13 s11)
    (binK .lss t1 (.int .i64 (.ofNat 0)) fun v15 =>
    guardK false v15 (J53_2 call fu s11 v12 t0 t2 t1 v15 (.tup [])) <|
    binK .geq t1 (.int .i64 (.ofNat 60)) fun v16 =>
    J53_2 call fu s11 v12 t0 t2 t1 v15 v16)
  | _ => .err

abbrev orc53c (call : Call) (fu : Nat) (st : List IH) (id i : Nat) (s : St) (v : List AV) : Out := ch (Nat.beq id 4 && Nat.beq i 5) (J53_2 call fu s (nthL v 0) (nthL v 1) (nthL v 2) (nthL v 3) (nthL v 4) (nthL v 5)) (
    ch (Nat.beq id 5 && Nat.beq i 0) (J53_1 call fu s (nthL v 0) (nthL v 1) (nthL v 2) (nthL v 3) (nthL v 4)) (
    ch (Nat.beq id 6 && Nat.beq i 0) (J53_0 call fu s (nthL v 0) (nthL v 1) (nthL v 2) (nthL v 3)) (
    .err)))
abbrev orc53b (call : Call) (fu : Nat) (st : List IH) (id : Nat) (ih : IH) (s : St) (v : List AV) : Out := .err
abbrev orc53p (call : Call) (fu : Nat) (st : List IH) (id k : Nat) (s : St) (v : List AV) : Out := .err
abbrev orc53m (call : Call) (fu : Nat) (id : Nat) (v : List AV) (s : St) : Out := .err
def lv53 (id i : Nat) : Option (List Tmp) := bif Nat.beq id 4 && Nat.beq i 5 then some [7, 0, 2, 1, 22, 24] else
    bif Nat.beq id 5 && Nat.beq i 0 then some [7, 0, 2, 1, 19] else
    bif Nat.beq id 6 && Nat.beq i 0 then some [7, 0, 2, 1] else
    none
/- 55 -/
def J55_0 (call : Call) (fu : Nat) (s : St) (t6 : AV) : Out :=
    .ret (.tup [t6, (.int .i64 (.ofNat 0))]) s

def J55_1 (call : Call) (fu : Nat) (s : St) (t1 t0 : AV) : Out :=
    fillK (.cells [.nilv, (.int .i64 (.ofNat 0))]) [(0, 1, t0), (1, 1, t1)] fun v0 =>
    boxK s 221 2 v0 fun v1 s2 =>
    outK (call 131 [v1, t1] s2) fun v3 s4 =>
    extractK v3 0 fun v5 =>
    extractK v3 1 fun v6 =>
    allocK s4 206 (.cells [(.bool false), (.int .i64 (.ofNat 0)), .nils]) fun v7 s8 =>
    storeK ⟨3, true⟩ s8 v7 v5 fun s9 =>
    binK .neq v6 (.int .i64 (.ofNat 0)) fun v10 =>
    condK v10 (.ret (.tup [.nilv, v6]) s9)
    (J55_0 call fu s9 v1)

def F55 (call : Call) (fu : Nat) (args : List AV) (s : St) : Out := match args with
  | [t0, t1] =>
    outK (call 66 [t0] s) fun v11 s12 =>
    eqK .ptr s12 false v11 .nilv fun v13 =>
    condK v13 (.ret (.tup [.nilv, (.int .i64 (.ofNat 1))]) s12)
    (J55_1 call fu s12 t1 t0)
  | _ => .err

abbrev orc55c (call : Call) (fu : Nat) (st : List IH) (id i : Nat) (s : St) (v : List AV) : Out := ch (Nat.beq id 3 && Nat.beq i 0) (J55_1 call fu s (nthL v 0) (nthL v 1)) (
    ch (Nat.beq id 7 && Nat.beq i 0) (J55_0 call fu s (nthL v 0)) (
    .err))
abbrev orc55b (call : Call) (fu : Nat) (st : List IH) (id : Nat) (ih : IH) (s : St) (v : List AV) : Out := .err
abbrev orc55p (call : Call) (fu : Nat) (st : List IH) (id k : Nat) (s : St) (v : List AV) : Out := .err
abbrev orc55m (call : Call) (fu : Nat) (id : Nat) (v : List AV) (s : St) : Out := .err
def lv55 (id i : Nat) : Option (List Tmp) := bif Nat.beq id 3 && Nat.beq i 0 then some [1, 0] else
    bif Nat.beq id 7 && Nat.beq i 0 then some [6] else
    none
/- 60 -/
def J60_0 (call : Call) (fu : Nat) (s : St) (t6 : AV) : Out :=
    .ret (.tup [t6, (.int .i64 (.ofNat 0))]) s

def J60_2 (call : Call) (fu : Nat) (ih1 : St → AV → AV → AV → AV → Out) (s : St) (t27 t6 t25 t26 : AV) : Out :=
    binK .add t27 (.int .i64 (.ofNat 1)) fun v0 =>
    ih1 s v0 t6 t25 t26

def J60_3 (call : Call) (fu : Nat) (ih1 : St → AV → AV → AV → AV → Out) (s : St) (t27 t9 t6 t25 t26 : AV) : Out :=
    loadK ⟨16, true⟩ s t9 fun v1 =>
    fillK (.cells [(.str 0 0), (.int .i64 (.ofNat 0)), (.int .i64 (.ofNat 0)), .nils, (.int .i64 (.ofNat 0)), (.int .i64 (.ofNat 0)), (.int .i64 (.ofNat 0)), (.int .i64 (.ofNat 0)), (.int .i64 (.ofNat 0)), (.int .i64 (.ofNat 0)), (.int .i64 (.ofNat 0)), (.bool false), (.int .i64 (.ofNat 0)), (.int .i64 (.ofNat 0)), (.int .i64 (.ofNat 0)), (.int .i64 (.ofNat 0))]) [(0, 16, v1)] fun v2 => newK s (.row 38 v2) fun i3 s4 =>
    appK 38 16 s4 t6 (.slice i3 0 1 1 16 false) fun v5 s6 =>
    J60_2 call fu ih1 s6 t27 v5 t25 t26

def J60_4 (call : Call) (fu : Nat) (ih1 : St → AV → AV → AV → AV → Out) (s : St) (t27 t9 t6 t45 t25 t26 : AV) : Out :=
    condK t45 (.ret (.tup [.nils, (.int .i64 (.ofNat 9))]) s)
    (J60_3 call fu ih1 s t27 t9 t6 t25 t26)

def J60_5 (call : Call) (fu : Nat) (ih1 : St → AV → AV → AV → AV → Out) (s : St) (t27 t9 t6 t39 t44 t25 t26 : AV) : Out :=
    pickK t39 (.bool true) t44 fun v7 =>
    J60_4 call fu ih1 s t27 t9 t6 v7 t25 t26

def J60_6 (call : Call) (fu : Nat) (ih1 : St → AV → AV → AV → AV → Out) (s : St) (t27 t6 t25 t26 : AV) : Out :=
    indexSlK 2 t25 t27 fun v8 =>
    loadK ⟨2, true⟩ s v8 fun v9 =>
    allocK s 153 (.cells [(.int .i64 (.ofNat 0)), .nils]) fun v10 s11 =>
    storeK ⟨2, true⟩ s11 v10 v9 fun s12 =>
    fieldK 1 v10 fun v13 =>
    loadK ⟨1, false⟩ s12 v13 fun v14 =>
    outK (call 136 [v14] s12) fun v15 s16 =>
    extractK v15 0 fun v17 =>
    extractK v15 1 fun v18 =>
    allocK s16 38 (.cells [(.str 0 0), (.int .i64 (.ofNat 0)), (.int .i64 (.ofNat 0)), .nils, (.int .i64 (.ofNat 0)), (.int .i64 (.ofNat 0)), (.int .i64 (.ofNat 0)), (.int .i64 (.ofNat 0)), (.int .i64 (.ofNat 0)), (.int .i64 (.ofNat 0)), (.int .i64 (.ofNat 0)), (.bool false), (.int .i64 (.ofNat 0)), (.int .i64 (.ofNat 0)), (.int .i64 (.ofNat 0)), (.int .i64 (.ofNat 0))]) fun v19 s20 =>
    storeK ⟨16, true⟩ s20 v19 v17 fun s21 =>
    binK .neq v18 (.int .i64 (.ofNat 0)) fun v22 =>
    guardK false v22 (J60_5 call fu ih1 s21 t27 v19 t6 v22 (.tup []) t25 t26) <|
    fieldK 4 v19 fun v23 =>
    loadK ⟨1, false⟩ s21 v23 fun v24 =>
    fieldK 0 v10 fun v25 =>
    loadK ⟨1, false⟩ s21 v25 fun v26 =>
    binK .neq v24 v26 fun v27 =>
    J60_5 call fu ih1 s21 t27 v19 t6 v22 v27 t25 t26

def L60_1b (call : Call) (fu : Nat) (ih1 : St → AV → AV → AV → AV → Out) (s : St) (t27 t6 t25 t26 : AV) : Out :=
    binK .lss t27 t26 fun v28 =>
    condK v28 (J60_6 call fu ih1 s t27 t6 t25 t26)
    (J60_0 call fu s t6)

def L60_1 (call : Call) (fu : Nat) (n : Nat) : St → AV → AV → AV → AV → Out :=
  Nat.rec (motive := fun _ => St → AV → AV → AV → AV → Out) (fun _ _ _ _ _ => .err) (fun _ ih => L60_1b call fu ih) n

def J60_7 (call : Call) (fu : Nat) (s : St) (t4 : AV) : Out :=
    lenSlK t4 fun v29 =>
    L60_1 call fu fu s (.int .i64 (.ofNat 0)) .nils t4 (goInt v29)

def J60_8 (call : Call) (fu : Nat) (s : St) (t0 : AV) : Out :=
    nilK t0 fun v30 =>
    fieldK 2 v30 fun v31 =>
    loadK ⟨1, false⟩ s v31 fun v32 =>
    outK (call 101 [v32, (.int .i64 (.ofNat 4000))] s) fun v33 s34 =>
    extractK v33 0 fun v35 =>
    extractK v33 1 fun v36 =>
    binK .neq v36 (.int .i64 (.ofNat 0)) fun v37 =>
    condK v37 (.ret (.tup [.nils, v36]) s34)
    (J60_7 call fu s34 v35)

def F60 (call : Call) (fu : Nat) (args : List AV) (s : St) : Out := match args with
  | [t0] =>
    outK (call 38 [t0] s) fun v38 s39 =>
    notK v38 fun v40 =>
    condK v40 (.ret (.tup [.nils, (.int .i64 (.ofNat 1))]) s39)
    (J60_8 call fu s39 t0)
  | _ => .err

abbrev orc60c (call : Call) (fu : Nat) (st : List IH) (id i : Nat) (s : St) (v : List AV) : Out := ch (Nat.beq id 3 && Nat.beq i 0) (J60_8 call fu s (nthL v 0)) (
    ch (Nat.beq id 6 && Nat.beq i 0) (J60_7 call fu s (nthL v 0)) (
    ch (Nat.beq id 9 && Nat.beq i 0) (J60_6 call fu (fun s x0 x1 x2 x3 => nthI st 0 s [x0, x1, x2, x3]) s (nthL v 0) (nthL v 1) (nthL v 2) (nthL v 3)) (
    ch (Nat.beq id 11 && Nat.beq i 8) (J60_5 call fu (fun s x0 x1 x2 x3 => nthI st 0 s [x0, x1, x2, x3]) s (nthL v 0) (nthL v 1) (nthL v 2) (nthL v 3) (nthL v 4) (nthL v 5) (nthL v 6)) (
    ch (Nat.beq id 12 && Nat.beq i 0) (J60_4 call fu (fun s x0 x1 x2 x3 => nthI st 0 s [x0, x1, x2, x3]) s (nthL v 0) (nthL v 1) (nthL v 2) (nthL v 3) (nthL v 4) (nthL v 5)) (
    ch (Nat.beq id 13 && Nat.beq i 0) (J60_3 call fu (fun s x0 x1 x2 x3 => nthI st 0 s [x0, x1, x2, x3]) s (nthL v 0) (nthL v 1) (nthL v 2) (nthL v 3) (nthL v 4)) (
    ch (Nat.beq id 14 && Nat.beq i 0) (J60_2 call fu (fun s x0 x1 x2 x3 => nthI st 0 s [x0, x1, x2, x3]) s (nthL v 0) (nthL v 1) (nthL v 2) (nthL v 3)) (
    ch (Nat.beq id 15 && Nat.beq i 0) (J60_0 call fu s (nthL v 0)) (
    .err))))))))
abbrev orc60b (call : Call) (fu : Nat) (st : List IH) (id : Nat) (ih : IH) (s : St) (v : List AV) : Out := ch (Nat.beq id 8) (L60_1b call fu (fun s x0 x1 x2 x3 => ih s [x0, x1, x2, x3]) s (nthL v 0) (nthL v 1) (nthL v 2) (nthL v 3)) (
    .err)
abbrev orc60p (call : Call) (fu : Nat) (st : List IH) (id k : Nat) (s : St) (v : List AV) : Out := ch (Nat.beq id 8) (L60_1 call fu k s (nthL v 0) (nthL v 1) (nthL v 2) (nthL v 3)) (
    .err)
abbrev orc60m (call : Call) (fu : Nat) (id : Nat) (v : List AV) (s : St) : Out := .err
def lv60 (id i : Nat) : Option (List Tmp) := bif Nat.beq id 3 && Nat.beq i 0 then some [0] else
    bif Nat.beq id 6 && Nat.beq i 0 then some [4] else
    bif Nat.beq id 9 && Nat.beq i 0 then some [27, 6, 25, 26] else
    bif Nat.beq id 11 && Nat.beq i 8 then some [27, 9, 6, 39, 44, 25, 26] else
    bif Nat.beq id 12 && Nat.beq i 0 then some [27, 9, 6, 45, 25, 26] else
    bif Nat.beq id 13 && Nat.beq i 0 then some [27, 9, 6, 25, 26] else
    bif Nat.beq id 14 && Nat.beq i 0 then some [27, 6, 25, 26] else
    bif Nat.beq id 8 && Nat.beq i 0 then some [27, 6, 25, 26] else
    bif Nat.beq id 15 && Nat.beq i 0 then some [6] else
    none
/- 63 -/
def J63_0 (call : Call) (fu : Nat) (s : St) (t0 : AV) : Out :=
    nilK t0 fun v0 =>
    fieldK 0 v0 fun v1 =>
    loadK ⟨1, false⟩ s v1 fun v2 =>
    .ret v2 s

def F63 (call : Call) (fu : Nat) (args : List AV) (s : St) : Out := match args with
  | [t0] =>
    outK (call 38 [t0] s) fun v3 s4 =>
    notK v3 fun v5 =>
    condK v5 (.ret .nilv s4)
    (J63_0 call fu s4 t0)
  | _ => .err

abbrev orc63c (call : Call) (fu : Nat) (st : List IH) (id i : Nat) (s : St) (v : List AV) : Out := ch (Nat.beq id 3 && Nat.beq i 0) (J63_0 call fu s (nthL v 0)) (
    .err)
abbrev orc63b (call : Call) (fu : Nat) (st : List IH) (id : Nat) (ih : IH) (s : St) (v : List AV) : Out := .err
abbrev orc63p (call : Call) (fu : Nat) (st : List IH) (id k : Nat) (s : St) (v : List AV) : Out := .err
abbrev orc63m (call : Call) (fu : Nat) (id : Nat) (v : List AV) (s : St) : Out := .err
def lv63 (id i : Nat) : Option (List Tmp) := bif Nat.beq id 3 && Nat.beq i 0 then some [0] else
    none
/- 64 -/
def J64_0 (call : Call) (fu : Nat) (s : St) (t4 t8 t6 : AV) : Out :=
    outK (call 101 [t6, t8] s) fun v0 s1 =>
    extractK v0 0 fun v2 =>
    extractK v0 1 fun v3 =>
    fillK (.cells [.nils]) [(0, 1, v2)] fun v4 =>
    storeK ⟨1, true⟩ s1 t4 v4 fun s5 =>
    loadK ⟨1, true⟩ s5 t4 fun v6 =>
    .ret (.tup [v6, v3]) s5

def J64_1 (call : Call) (fu : Nat) (s : St) (t4 t6 : AV) : Out :=
    outK (call 95 [t6] s) fun v7 s8 =>
    extractK v7 0 fun v9 =>
    extractK v7 1 fun v10 =>
    binK .neq v10 (.int .i64 (.ofNat 0)) fun v11 =>
    condK v11 (fillK (.cells [.nils]) [] fun v12 =>
    storeK ⟨1, true⟩ s8 t4 v12 fun s13 =>
    loadK ⟨1, true⟩ s13 t4 fun v14 =>
    .ret (.tup [v14, v10]) s13)
    (J64_0 call fu s8 t4 v9 t6)

def F64 (call : Call) (fu : Nat) (args : List AV) (s : St) : Out := match args with
  | [t0, t1] =>
    allocK s 52 (.cells [.nils]) fun v15 s16 =>
    outK (call 55 [t0, t1] s16) fun v17 s18 =>
    extractK v17 0 fun v19 =>
    extractK v17 1 fun v20 =>
    binK .neq v20 (.int .i64 (.ofNat 0)) fun v21 =>
    condK v21 (fillK (.cells [.nils]) [] fun v22 =>
    storeK ⟨1, true⟩ s18 v15 v22 fun s23 =>
    loadK ⟨1, true⟩ s23 v15 fun v24 =>
    .ret (.tup [v24, v20]) s23)
    (J64_1 call fu s18 v15 v19)
  | _ => .err

abbrev orc64c (call : Call) (fu : Nat) (st : List IH) (id i : Nat) (s : St) (v : List AV) : Out := ch (Nat.beq id 4 && Nat.beq i 0) (J64_1 call fu s (nthL v 0) (nthL v 1)) (
    ch (Nat.beq id 7 && Nat.beq i 0) (J64_0 call fu s (nthL v 0) (nthL v 1) (nthL v 2)) (
    .err))
abbrev orc64b (call : Call) (fu : Nat) (st : List IH) (id : Nat) (ih : IH) (s : St) (v : List AV) : Out := .err
abbrev orc64p (call : Call) (fu : Nat) (st : List IH) (id k : Nat) (s : St) (v : List AV) : Out := .err
abbrev orc64m (call : Call) (fu : Nat) (id : Nat) (v : List AV) (s : St) : Out := .err
def lv64 (id i : Nat) : Option (List Tmp) := bif Nat.beq id 4 && Nat.beq i 0 then some [4, 6] else
    bif Nat.beq id 7 && Nat.beq i 0 then some [4, 8, 6] else
    none
/- 66 -/
def J66_0 (call : Call) (fu : Nat) (s : St) (t0 : AV) : Out :=
    nilK t0 fun v0 =>
    fieldK 0 v0 fun v1 =>
    loadK ⟨1, false⟩ s v1 fun v2 =>
    .ret v2 s

def F66 (call : Call) (fu : Nat) (args : List AV) (s : St) : Out := match args with
  | [t0] =>
    outK (call 138 [t0] s) fun v3 s4 =>
    notK v3 fun v5 =>
    condK v5 (.ret .nilv s4)
    (J66_0 call fu s4 t0)
  | _ => .err

abbrev orc66c (call : Call) (fu : Nat) (st : List IH) (id i : Nat) (s : St) (v : List AV) : Out := ch (Nat.beq id 3 && Nat.beq i 0) (J66_0 call fu s (nthL v 0)) (
    .err)
abbrev orc66b (call : Call) (fu : Nat) (st : List IH) (id : Nat) (ih : IH) (s : St) (v : List AV) : Out := .err
abbrev orc66p (call : Call) (fu : Nat) (st : List IH) (id k : Nat) (s : St) (v : List AV) : Out := .err
abbrev orc66m (call : Call) (fu : Nat) (id : Nat) (v : List AV) (s : St) : Out := .err
def lv66 (id i : Nat) : Option (List Tmp) := bif Nat.beq id 3 && Nat.beq i 0 then some [0] else
    none
/- 67 -/
def J67_0 (call : Call) (fu : Nat) (s : St) (t0 : AV) : Out :=
    fillK (.cells [(.int .i64 (.ofNat 0)), .nils, (.int .i64 (.ofNat 0)), (.bool false), .nilv, .nilv]) [] fun v0 =>
    boxK s 238 6 v0 fun v1 s2 =>
    nilK v1 fun v3 =>
    fieldK 4 v3 fun v4 =>
    storeK ⟨1, false⟩ s2 v4 v1 fun s5 =>
    nilK v1 fun v6 =>
    fieldK 5 v6 fun v7 =>
    storeK ⟨1, false⟩ s5 v7 v1 fun s8 =>
    newK s8 (.map .nil 0) fun i9 s10 =>
    fillK (.cells [(.int .i64 (.ofNat 0)), .nilm, .nilv, (.int .i64 (.ofNat 0)), (.int .i64 (.ofNat 0))]) [(0, 1, t0), (1, 1, (.map i9)), (2, 1, v1)] fun v11 =>
    boxK s10 241 5 v11 fun v12 s13 =>
    .ret v12 s13

def J67_1 (call : Call) (fu : Nat) (s : St) (t0 t9 : AV) : Out :=
    condK t9 (.ret .nilv s)
    (J67_0 call fu s t0)

def J67_2 (call : Call) (fu : Nat) (s : St) (t0 t6 t8 : AV) : Out :=
    pickK t6 (.bool true) t8 fun v14 =>
    J67_1 call fu s t0 v14

def F67 (call : Call) (fu : Nat) (args : List AV) (s : St) : Out := match args with
  | [t0] =>
    binK .lss t0 (.int .i64 (.ofNat 1)) fun v15 =>
    guardK false v15 (J67_2 call fu s t0 v15 (.tup [])) <|
    binK .gtr t0 (.int .i64 (.ofNat 4096)) fun v16 =>
    J67_2 call fu s t0 v15 v16
  | _ => .err

abbrev orc67c (call : Call) (fu : Nat) (st : List IH) (id i : Nat) (s : St) (v : List AV) : Out := ch (Nat.beq id 1 && Nat.beq i 5) (J67_2 call fu s (nthL v 0) (nthL v 1) (nthL v 2)) (
    ch (Nat.beq id 2 && Nat.beq i 0) (J67_1 call fu s (nthL v 0) (nthL v 1)) (
    ch (Nat.beq id 3 && Nat.beq i 0) (J67_0 call fu s (nthL v 0)) (
    .err)))
abbrev orc67b (call : Call) (fu : Nat) (st : List IH) (id : Nat) (ih : IH) (s : St) (v : List AV) : Out := .err
abbrev orc67p (call : Call) (fu : Nat) (st : List IH) (id k : Nat) (s : St) (v : List AV) : Out := .err
abbrev orc67m (call : Call) (fu : Nat) (id : Nat) (v : List AV) (s : St) : Out := .err
def lv67 (id i : Nat) : Option (List Tmp) := bif Nat.beq id 1 && Nat.beq i 5 then some [0, 6, 8] else
    bif Nat.beq id 2 && Nat.beq i 0 then some [0, 9] else
    bif Nat.beq id 3 && Nat.beq i 0 then some [0] else
    none
/- 68 -/
def J68_0 (call : Call) (fu : Nat) (s : St) (t0 : AV) : Out :=
    nilK t0 fun v0 =>
    fieldK 0 v0 fun v1 =>
    loadK ⟨1, false⟩ s v1 fun v2 =>
    .ret v2 s

def F68 (call : Call) (fu : Nat) (args : List AV) (s : St) : Out := match args with
  | [t0] =>
    outK (call 139 [t0] s) fun v3 s4 =>
    notK v3 fun v5 =>
    condK v5 (.ret (.int .i64 (.ofNat 0)) s4)
    (J68_0 call fu s4 t0)
  | _ => .err

abbrev orc68c (call : Call) (fu : Nat) (st : List IH) (id i : Nat) (s : St) (v : List AV) : Out := ch (Nat.beq id 3 && Nat.beq i 0) (J68_0 call fu s (nthL v 0)) (
    .err)
abbrev orc68b (call : Call) (fu : Nat) (st : List IH) (id : Nat) (ih : IH) (s : St) (v : List AV) : Out := .err
abbrev orc68p (call : Call) (fu : Nat) (st : List IH) (id k : Nat) (s : St) (v : List AV) : Out := .err
abbrev orc68m (call : Call) (fu : Nat) (id : Nat) (v : List AV) (s : St) : Out := .err
def lv68 (id i : Nat) : Option (List Tmp) := bif Nat.beq id 3 && Nat.beq i 0 then some [0] else
    none
/- 69 -/
def J69_0 (call : Call) (fu : Nat) (s : St) : Out :=
    .ret (.int .i64 (.ofNat 0)) s

def J69_2 (call : Call) (fu : Nat) (ih1 : St → AV → AV → AV → Out) (s : St) (t8 t6 t7 : AV) : Out :=
    binK .add t8 (.int .i64 (.ofNat 1)) fun v0 =>
    ih1 s v0 t6 t7

def J69_3 (call : Call) (fu : Nat) (ih1 : St → AV → AV → AV → Out) (s : St) (t8 t6 t7 : AV) : Out :=
    indexSlK 1 t6 t8 fun v1 =>
    loadK ⟨1, false⟩ s v1 fun v2 =>
    callVK call v2 [] s fun v3 s4 =>
    binK .neq v3 (.int .i64 (.ofNat 0)) fun v5 =>
    condK v5 (.ret v3 s4)
    (J69_2 call fu ih1 s4 t8 t6 t7)

def L69_1b (call : Call) (fu : Nat) (ih1 : St → AV → AV → AV → Out) (s : St) (t8 t6 t7 : AV) : Out :=
    binK .lss t8 t7 fun v6 =>
    condK v6 (J69_3 call fu ih1 s t8 t6 t7)
    (J69_0 call fu s)

def L69_1 (call : Call) (fu : Nat) (n : Nat) : St → AV → AV → AV → Out :=
  Nat.rec (motive := fun _ => St → AV → AV → AV → Out) (fun _ _ _ _ => .err) (fun _ ih => L69_1b call fu ih) n

def F69 (call : Call) (fu : Nat) (args : List AV) (s : St) : Out := match args with
  | [t0] =>
    lenSlK t0 fun v7 =>
    L69_1 call fu fu s (.int .i64 (.ofNat 0)) t0 (goInt v7)
  | _ => .err

abbrev orc69c (call : Call) (fu : Nat) (st : List IH) (id i : Nat) (s : St) (v : List AV) : Out := ch (Nat.beq id 3 && Nat.beq i 0) (J69_3 call fu (fun s x0 x1 x2 => nthI st 0 s [x0, x1, x2]) s (nthL v 0) (nthL v 1) (nthL v 2)) (
    ch (Nat.beq id 7 && Nat.beq i 0) (J69_2 call fu (fun s x0 x1 x2 => nthI st 0 s [x0, x1, x2]) s (nthL v 0) (nthL v 1) (nthL v 2)) (
    ch (Nat.beq id 8 && Nat.beq i 0) (J69_0 call fu s) (
    .err)))
abbrev orc69b (call : Call) (fu : Nat) (st : List IH) (id : Nat) (ih : IH) (s : St) (v : List AV) : Out := ch (Nat.beq id 2) (L69_1b call fu (fun s x0 x1 x2 => ih s [x0, x1, x2]) s (nthL v 0) (nthL v 1) (nthL v 2)) (
    .err)
abbrev orc69p (call : Call) (fu : Nat) (st : List IH) (id k : Nat) (s : St) (v : List AV) : Out := ch (Nat.beq id 2) (L69_1 call fu k s (nthL v 0) (nthL v 1) (nthL v 2)) (
    .err)
abbrev orc69m (call : Call) (fu : Nat) (id : Nat) (v : List AV) (s : St) : Out := .err
def lv69 (id i : Nat) : Option (List Tmp) := bif Nat.beq id 3 && Nat.beq i 0 then some [8, 6, 7] else
    bif Nat.beq id 7 && Nat.beq i 0 then some [8, 6, 7] else
    bif Nat.beq id 2 && Nat.beq i 0 then some [8, 6, 7] else
    bif Nat.beq id 8 && Nat.beq i 0 then some [] else
    none
/- 70 -/
def J70_0 (call : Call) (fu : Nat) (s : St) (t6 t5 t0 : AV) : Out :=
    lenSlK t6 fun v0 =>
    nilK t0 fun v1 =>
    fieldK 6 v1 fun v2 =>
    storeK ⟨1, false⟩ s v2 (goInt v0) fun s3 =>
    fieldK 1 t5 fun v4 =>
    loadK ⟨1, false⟩ s3 v4 fun v5 =>
    outK (call 144 [t0, v5, t6] s3) fun v6 s7 =>
    .ret v6 s7

def J70_1 (call : Call) (fu : Nat) (s : St) (t0 t3 : AV) : Out :=
    outK (call 143 [t3] s) fun v8 s9 =>
    extractK v8 0 fun v10 =>
    extractK v8 1 fun v11 =>
    extractK v8 2 fun v12 =>
    allocK s9 248 (.cells [(.int .i64 (.ofNat 0)), (.int .i64 (.ofNat 0)), (.int .u64 (.ofNat 0))]) fun v13 s14 =>
    storeK ⟨3, true⟩ s14 v13 v10 fun s15 =>
    binK .neq v12 (.int .i64 (.ofNat 0)) fun v16 =>
    condK v16 (.ret (.int .i64 (.ofNat 9)) s15)
    (J70_0 call fu s15 v11 v13 t0)

def J70_2 (call : Call) (fu : Nat) (s : St) (t4 t0 t3 t26 : AV) : Out :=
    condK t26 (.ret t4 s)
    (J70_1 call fu s t0 t3)

def J70_3 (call : Call) (fu : Nat) (s : St) (t4 t0 t3 t22 t25 : AV) : Out :=
    pickK t22 (.bool true) t25 fun v17 =>
    J70_2 call fu s t4 t0 t3 v17

def F70 (call : Call) (fu : Nat) (args : List AV) (s : St) : Out := match args with
  | [t0] =>
    nilK t0 fun v18 =>
    fieldK 0 v18 fun v19 =>
    loadK ⟨1, false⟩ s v19 fun v20 =>
    nilK t0 fun v21 =>
    fieldK 0 v21 fun v22 =>
    loadK ⟨1, false⟩ s v22 fun v23 =>
    outK (call 141 [v23, (.int .i64 (.ofNat 1))] s) fun v24 s25 =>
    againK ⟨1, false⟩ s25 v19 v20 <|
    outK (call 140 [v20, (.int .i64 (.ofNat 1)), (.int .i64 (.ofNat 0)), v24] s25) fun v26 s27 =>
    extractK v26 0 fun v28 =>
    extractK v26 1 fun v29 =>
    binK .neq v29 (.int .i64 (.ofNat 0)) fun v30 =>
    guardK false v30 (J70_3 call fu s27 v29 t0 v28 v30 (.tup [])) <|
    outK (call 142 [v28] s27) fun v31 s32 =>
    notK v31 fun v33 =>
    J70_3 call fu s32 v29 t0 v28 v30 v33
  | _ => .err

abbrev orc70c (call : Call) (fu : Nat) (st : List IH) (id i : Nat) (s : St) (v : List AV) : Out := ch (Nat.beq id 2 && Nat.beq i 6) (J70_3 call fu s (nthL v 0) (nthL v 1) (nthL v 2) (nthL v 3) (nthL v 4)) (
    ch (Nat.beq id 3 && Nat.beq i 0) (J70_2 call fu s (nthL v 0) (nthL v 1) (nthL v 2) (nthL v 3)) (
    ch (Nat.beq id 4 && Nat.beq i 0) (J70_1 call fu s (nthL v 0) (nthL v 1)) (
    ch (Nat.beq id 7 && Nat.beq i 0) (J70_0 call fu s (nthL v 0) (nthL v 1) (nthL v 2)) (
    .err))))
abbrev orc70b (call : Call) (fu : Nat) (st : List IH) (id : Nat) (ih : IH) (s : St) (v : List AV) : Out := .err
abbrev orc70p (call : Call) (fu : Nat) (st : List IH) (id k : Nat) (s : St) (v : List AV) : Out := .err
abbrev orc70m (call : Call) (fu : Nat) (id : Nat) (v : List AV) (s : St) : Out := .err
def lv70 (id i : Nat) : Option (List Tmp) := bif Nat.beq id 2 && Nat.beq i 6 then some [4, 0, 3, 22, 25] else
    bif Nat.beq id 3 && Nat.beq i 0 then some [4, 0, 3, 26] else
    bif Nat.beq id 4 && Nat.beq i 0 then some [0, 3] else
    bif Nat.beq id 7 && Nat.beq i 0 then some [6, 5, 0] else
    none
/- 71 -/
def J71_0 (call : Call) (fu : Nat) (s : St) (t0 : AV) : Out :=
    nilK t0 fun v0 =>
    fieldK 0 v0 fun v1 =>
    loadK ⟨1, false⟩ s v1 fun v2 =>
    outK (call 145 [v2, (.int .i64 (.ofNat 1)), (.int .i64 (.ofNat 0))] s) fun v3 s4 =>
    .ret v3 s4

def F71 (call : Call) (fu : Nat) (args : List AV) (s : St) : Out := match args with
  | [t0] =>
    nilK t0 fun v5 =>
    fieldK 0 v5 fun v6 =>
    loadK ⟨1, false⟩ s v6 fun v7 =>
    outK (call 141 [v7, (.int .i64 (.ofNat 1))] s) fun v8 s9 =>
    binK .eql v8 (.int .i64 (.ofNat 0)) fun v10 =>
    condK v10 (.ret (.int .i64 (.ofNat 0)) s9)
    (J71_0 call fu s9 t0)
  | _ => .err

abbrev orc71c (call : Call) (fu : Nat) (st : List IH) (id i : Nat) (s : St) (v : List AV) : Out := ch (Nat.beq id 3 && Nat.beq i 0) (J71_0 call fu s (nthL v 0)) (
    .err)
abbrev orc71b (call : Call) (fu : Nat) (st : List IH) (id : Nat) (ih : IH) (s : St) (v : List AV) : Out := .err
abbrev orc71p (call : Call) (fu : Nat) (st : List IH) (id k : Nat) (s : St) (v : List AV) : Out := .err
abbrev orc71m (call : Call) (fu : Nat) (id : Nat) (v : List AV) (s : St) : Out := .err
def lv71 (id i : Nat) : Option (List Tmp) := bif Nat.beq id 3 && Nat.beq i 0 then some [0] else
    none
/- 72 -/
def J72_0 (call : Call) (fu : Nat) (s : St) (t3 t0 : AV) : Out :=
    binK .quo t3 (.int .i64 (.ofNat 4)) fun v0 =>
    nilK t0 fun v1 =>
    fieldK 2 v1 fun v2 =>
    storeK ⟨1, false⟩ s v2 v0 fun s3 =>
    .ret (.int .i64 (.ofNat 0)) s3

def J72_1 (call : Call) (fu : Nat) (s : St) (t3 t0 t16 : AV) : Out :=
    condK t16 (.ret (.int .i64 (.ofNat 9)) s)
    (J72_0 call fu s t3 t0)

def J72_2 (call : Call) (fu : Nat) (s : St) (t3 t0 t12 t15 : AV) : Out :=
    pickK t12 (.bool true) t15 fun v4 =>
    J72_1 call fu s t3 t0 v4

def F72 (call : Call) (fu : Nat) (args : List AV) (s : St) : Out := match args with
  | [t0] =>
    nilK t0 fun v5 =>
    fieldK 0 v5 fun v6 =>
    loadK ⟨1, false⟩ s v6 fun v7 =>
    outK (call 141 [v7, (.int .i64 (.ofNat 0))] s) fun v8 s9 =>
    binK .rem v8 (.int .i64 (.ofNat 4)) fun v10 =>
    binK .neq v10 (.int .i64 (.ofNat 0)) fun v11 =>
    guardK false v11 (J72_2 call fu s9 v8 t0 v11 (.tup [])) <|
    binK .quo v8 (.int .i64 (.ofNat 4)) fun v12 =>
    binK .gtr v12 (.int .i64 (.ofNat 4000)) fun v13 =>
    J72_2 call fu s9 v8 t0 v11 v13
  | _ => .err

abbrev orc72c (call : Call) (fu : Nat) (st : List IH) (id i : Nat) (s : St) (v : List AV) : Out := ch (Nat.beq id 2 && Nat.beq i 7) (J72_2 call fu s (nthL v 0) (nthL v 1) (nthL v 2) (nthL v 3)) (
    ch (Nat.beq id 3 && Nat.beq i 0) (J72_1 call fu s (nthL v 0) (nthL v 1) (nthL v 2)) (
    ch (Nat.beq id 4 && Nat.beq i 0) (J72_0 call fu s (nthL v 0) (nthL v 1)) (
    .err)))
abbrev orc72b (call : Call) (fu : Nat) (st : List IH) (id : Nat) (ih : IH) (s : St) (v : List AV) : Out := .err
abbrev orc72p (call : Call) (fu : Nat) (st : List IH) (id k : Nat) (s : St) (v : List AV) : Out := .err
abbrev orc72m (call : Call) (fu : Nat) (id : Nat) (v : List AV) (s : St) : Out := .err
def lv72 (id i : Nat) : Option (List Tmp) := bif Nat.beq id 2 && Nat.beq i 7 then some [3, 0, 12, 15] else
    bif Nat.beq id 3 && Nat.beq i 0 then some [3, 0, 16] else
    bif Nat.beq id 4 && Nat.beq i 0 then some [3, 0] else
    none
/- 73 -/
def J73_0 (call : Call) (fu : Nat) (s : St) (t0 : AV) : Out :=
    outK (call 36 [t0] s) fun v0 s1 =>
    extractK v0 0 fun v2 =>
    extractK v0 1 fun v3 =>
    .ret (.tup [v2, v3]) s1

def F73 (call : Call) (fu : Nat) (args : List AV) (s : St) : Out := match args with
  | [t0] =>
    outK (call 146 [t0, (.int .i64 (.ofNat 0))] s) fun v4 s5 =>
    binK .neq v4 (.int .i64 (.ofNat 0)) fun v6 =>
    condK v6 (.ret (.tup [.nilv, v4]) s5)
    (J73_0 call fu s5 t0)
  | _ => .err

abbrev orc73c (call : Call) (fu : Nat) (st : List IH) (id i : Nat) (s : St) (v : List AV) : Out := ch (Nat.beq id 4 && Nat.beq i 0) (J73_0 call fu s (nthL v 0)) (
    .err)
abbrev orc73b (call : Call) (fu : Nat) (st : List IH) (id : Nat) (ih : IH) (s : St) (v : List AV) : Out := .err
abbrev orc73p (call : Call) (fu : Nat) (st : List IH) (id k : Nat) (s : St) (v : List AV) : Out := .err
abbrev orc73m (call : Call) (fu : Nat) (id : Nat) (v : List AV) (s : St) : Out := .err
def lv73 (id i : Nat) : Option (List Tmp) := bif Nat.beq id 4 && Nat.beq i 0 then some [0] else
    none
/- 74 -/
def J74_0 (call : Call) (fu : Nat) (s : St) (t3 t6 : AV) : Out :=
    fieldK 0 t3 fun v0 =>
    loadK ⟨1, false⟩ s v0 fun v1 =>
    outK (call 48 [t6] s) fun v2 s3 =>
    againK ⟨1, false⟩ s3 v0 v1 <|
    outK (call 76 [t6, v1] s3) fun v4 s5 =>
    .ret (.tup [v2, v4]) s5

def F74 (call : Call) (fu : Nat) (args : List AV) (s : St) : Out := match args with
  | [t0, t1] =>
    boxK s 52 1 t1 fun v6 s7 =>
    outK (call 46 [t0] s7) fun v8 s9 =>
    extractK v8 0 fun v10 =>
    extractK v8 1 fun v11 =>
    binK .neq v11 (.int .i64 (.ofNat 0)) fun v12 =>
    condK v12 (.ret (.tup [(.int .i64 (.ofNat 0)), v11]) s9)
    (J74_0 call fu s9 v6 v10)
  | _ => .err

abbrev orc74c (call : Call) (fu : Nat) (st : List IH) (id i : Nat) (s : St) (v : List AV) : Out := ch (Nat.beq id 4 && Nat.beq i 0) (J74_0 call fu s (nthL v 0) (nthL v 1)) (
    .err)
abbrev orc74b (call : Call) (fu : Nat) (st : List IH) (id : Nat) (ih : IH) (s : St) (v : List AV) : Out := .err
abbrev orc74p (call : Call) (fu : Nat) (st : List IH) (id k : Nat) (s : St) (v : List AV) : Out := .err
abbrev orc74m (call : Call) (fu : Nat) (id : Nat) (v : List AV) (s : St) : Out := .err
def lv74 (id i : Nat) : Option (List Tmp) := bif Nat.beq id 4 && Nat.beq i 0 then some [3, 6] else
    none
/- 76 -/
def J76_0 (call : Call) (fu : Nat) (s : St) : Out :=
    .ret (.int .i64 (.ofNat 0)) s

def J76_2 (call : Call) (fu : Nat) (ih1 : St → AV → AV → AV → AV → Out) (s : St) (t13 t0 t11 t12 : AV) : Out :=
    binK .add t13 (.int .i64 (.ofNat 1)) fun v0 =>
    ih1 s v0 t0 t11 t12

def J76_3 (call : Call) (fu : Nat) (ih1 : St → AV → AV → AV → AV → Out) (s : St) (t13 t0 t11 t12 : AV) : Out :=
    indexSlK 2 t11 t13 fun v1 =>
    loadK ⟨2, true⟩ s v1 fun v2 =>
    allocK s 153 (.cells [(.int .i64 (.ofNat 0)), .nils]) fun v3 s4 =>
    storeK ⟨2, true⟩ s4 v3 v2 fun s5 =>
    fieldK 0 v3 fun v6 =>
    loadK ⟨1, false⟩ s5 v6 fun v7 =>
    fieldK 1 v3 fun v8 =>
    loadK ⟨1, false⟩ s5 v8 fun v9 =>
    outK (call 43 [t0, v7, v9] s5) fun v10 s11 =>
    binK .neq v10 (.int .i64 (.ofNat 0)) fun v12 =>
    condK v12 (.ret v10 s11)
    (J76_2 call fu ih1 s11 t13 t0 t11 t12)

def L76_1b (call : Call) (fu : Nat) (ih1 : St → AV → AV → AV → AV → Out) (s : St) (t13 t0 t11 t12 : AV) : Out :=
    binK .lss t13 t12 fun v13 =>
    condK v13 (J76_3 call fu ih1 s t13 t0 t11 t12)
    (J76_0 call fu s)

def L76_1 (call : Call) (fu : Nat) (n : Nat) : St → AV → AV → AV → AV → Out :=
  Nat.rec (motive := fun _ => St → AV → AV → AV → AV → Out) (fun _ _ _ _ _ => .err) (fun _ ih => L76_1b call fu ih) n

def J76_4 (call : Call) (fu : Nat) (s : St) (t0 t1 : AV) : Out :=
    lenSlK t1 fun v14 =>
    L76_1 call fu fu s (.int .i64 (.ofNat 0)) t0 t1 (goInt v14)

def F76 (call : Call) (fu : Nat) (args : List AV) (s : St) : Out := match args with
  | [t0, t1] =>
    outK (call 48 [t0] s) fun v15 s16 =>
    binK .eql v15 (.int .i64 (.ofNat 0)) fun v17 =>
    condK v17 (.ret (.int .i64 (.ofNat 1)) s16)
    (J76_4 call fu s16 t0 t1)
  | _ => .err

abbrev orc76c (call : Call) (fu : Nat) (st : List IH) (id i : Nat) (s : St) (v : List AV) : Out := ch (Nat.beq id 3 && Nat.beq i 0) (J76_4 call fu s (nthL v 0) (nthL v 1)) (
    ch (Nat.beq id 5 && Nat.beq i 0) (J76_3 call fu (fun s x0 x1 x2 x3 => nthI st 0 s [x0, x1, x2, x3]) s (nthL v 0) (nthL v 1) (nthL v 2) (nthL v 3)) (
    ch (Nat.beq id 9 && Nat.beq i 0) (J76_2 call fu (fun s x0 x1 x2 x3 => nthI st 0 s [x0, x1, x2, x3]) s (nthL v 0) (nthL v 1) (nthL v 2) (nthL v 3)) (
    ch (Nat.beq id 10 && Nat.beq i 0) (J76_0 call fu s) (
    .err))))
abbrev orc76b (call : Call) (fu : Nat) (st : List IH) (id : Nat) (ih : IH) (s : St) (v : List AV) : Out := ch (Nat.beq id 4) (L76_1b call fu (fun s x0 x1 x2 x3 => ih s [x0, x1, x2, x3]) s (nthL v 0) (nthL v 1) (nthL v 2) (nthL v 3)) (
    .err)
abbrev orc76p (call : Call) (fu : Nat) (st : List IH) (id k : Nat) (s : St) (v : List AV) : Out := ch (Nat.beq id 4) (L76_1 call fu k s (nthL v 0) (nthL v 1) (nthL v 2) (nthL v 3)) (
    .err)
abbrev orc76m (call : Call) (fu : Nat) (id : Nat) (v : List AV) (s : St) : Out := .err
def lv76 (id i : Nat) : Option (List Tmp) := bif Nat.beq id 3 && Nat.beq i 0 then some [0, 1] else
    bif Nat.beq id 5 && Nat.beq i 0 then some [13, 0, 11, 12] else
    bif Nat.beq id 9 && Nat.beq i 0 then some [13, 0, 11, 12] else
    bif Nat.beq id 4 && Nat.beq i 0 then some [13, 0, 11, 12] else
    bif Nat.beq id 10 && Nat.beq i 0 then some [] else
    none
/- 77 -/
def J77_0 (call : Call) (fu : Nat) (s : St) : Out :=
    .ret (.int .i64 (.ofNat 0)) s

def J77_2 (call : Call) (fu : Nat) (ih1 : St → AV → AV → AV → AV → Out) (s : St) (t10 t0 t8 t9 : AV) : Out :=
    binK .add t10 (.int .i64 (.ofNat 1)) fun v0 =>
    ih1 s v0 t0 t8 t9

def J77_3 (call : Call) (fu : Nat) (ih1 : St → AV → AV → AV → AV → Out) (s : St) (t10 t0 t8 t9 : AV) : Out :=
    indexSlK 1 t8 t10 fun v1 =>
    loadK ⟨1, false⟩ s v1 fun v2 =>
    outK (call 53 [t0, t10, v2] s) fun v3 s4 =>
    binK .neq v3 (.int .i64 (.ofNat 0)) fun v5 =>
    condK v5 (.ret v3 s4)
    (J77_2 call fu ih1 s4 t10 t0 t8 t9)

def L77_1b (call : Call) (fu : Nat) (ih1 : St → AV → AV → AV → AV → Out) (s : St) (t10 t0 t8 t9 : AV) : Out :=
    binK .lss t10 t9 fun v6 =>
    condK v6 (J77_3 call fu ih1 s t10 t0 t8 t9)
    (J77_0 call fu s)

def L77_1 (call : Call) (fu : Nat) (n : Nat) : St → AV → AV → AV → AV → Out :=
  Nat.rec (motive := fun _ => St → AV → AV → AV → AV → Out) (fun _ _ _ _ _ => .err) (fun _ ih => L77_1b call fu ih) n

def F77 (call : Call) (fu : Nat) (args : List AV) (s : St) : Out := match args with
  | [t0, t1] =>
    lenSlK t1 fun v7 =>
    L77_1 call fu fu s (.int .i64 (.ofNat 0)) t0 t1 (goInt v7)
  | _ => .err

abbrev orc77c (call : Call) (fu : Nat) (st : List IH) (id i : Nat) (s : St) (v : List AV) : Out := ch (Nat.beq id 3 && Nat.beq i 0) (J77_3 call fu (fun s x0 x1 x2 x3 => nthI st 0 s [x0, x1, x2, x3]) s (nthL v 0) (nthL v 1) (nthL v 2) (nthL v 3)) (
    ch (Nat.beq id 7 && Nat.beq i 0) (J77_2 call fu (fun s x0 x1 x2 x3 => nthI st 0 s [x0, x1, x2, x3]) s (nthL v 0) (nthL v 1) (nthL v 2) (nthL v 3)) (
    ch (Nat.beq id 8 && Nat.beq i 0) (J77_0 call fu s) (
    .err)))
abbrev orc77b (call : Call) (fu : Nat) (st : List IH) (id : Nat) (ih : IH) (s : St) (v : List AV) : Out := ch (Nat.beq id 2) (L77_1b call fu (fun s x0 x1 x2 x3 => ih s [x0, x1, x2, x3]) s (nthL v 0) (nthL v 1) (nthL v 2) (nthL v 3)) (
    .err)
abbrev orc77p (call : Call) (fu : Nat) (st : List IH) (id k : Nat) (s : St) (v : List AV) : Out := ch (Nat.beq id 2) (L77_1 call fu k s (nthL v 0) (nthL v 1) (nthL v 2) (nthL v 3)) (
    .err)
abbrev orc77m (call : Call) (fu : Nat) (id : Nat) (v : List AV) (s : St) : Out := .err
def lv77 (id i : Nat) : Option (List Tmp) := bif Nat.beq id 3 && Nat.beq i 0 then some [10, 0, 8, 9] else
    bif Nat.beq id 7 && Nat.beq i 0 then some [10, 0, 8, 9] else
    bif Nat.beq id 2 && Nat.beq i 0 then some [10, 0, 8, 9] else
    bif Nat.beq id 8 && Nat.beq i 0 then some [] else
    none
/- 78 -/
def J78_0 (call : Call) (fu : Nat) (s : St) (t4 : AV) : Out :=
    .ret (.tup [t4, (.int .i64 (.ofNat 0))]) s

def J78_1 (call : Call) (fu : Nat) (s : St) (t5 t4 : AV) : Out :=
    binK .neq t5 (.int .i64 (.ofNat 0)) fun v0 =>
    condK v0 (.ret (.tup [.nilv, t5]) s)
    (J78_0 call fu s t4)

def J78_2 (call : Call) (fu : Nat) (s : St) (t4 t5 t42 : AV) : Out :=
    condK t42 (J78_1 call fu s (.int .i64 (.ofNat 9)) t4)
    (J78_1 call fu s t5 t4)

def J78_3 (call : Call) (fu : Nat) (s : St) (t4 t5 t39 t41 : AV) : Out :=
    pickK t39 t41 (.bool false) fun v1 =>
    J78_2 call fu s t4 t5 v1

def J78_4 (call : Call) (fu : Nat) (s : St) (t4 t0 : AV) : Out :=
    outK (call 45 [t0, (.int .i64 (.ofNat 2))] s) fun v2 s3 =>
    extractK v2 0 fun v4 =>
    extractK v2 1 fun v5 =>
    binK .eql v5 (.int .i64 (.ofNat 0)) fun v6 =>
    guardK true v6 (J78_3 call fu s3 t4 v5 v6 (.tup [])) <|
    binK .lss v4 (.int .i64 (.ofNat 1)) fun v7 =>
    J78_3 call fu s3 t4 v5 v6 v7

def J78_5 (call : Call) (fu : Nat) (s : St) (t4 t0 : AV) : Out :=
    outK (call 147 [t0, (.int .i64 (.ofNat 1))] s) fun v8 s9 =>
    extractK v8 0 fun v10 =>
    extractK v8 1 fun v11 =>
    nilK t4 fun v12 =>
    fieldK 2 v12 fun v13 =>
    storeK ⟨1, false⟩ s9 v13 v10 fun s14 =>
    binK .neq v11 (.int .i64 (.ofNat 0)) fun v15 =>
    condK v15 (.ret (.tup [.nilv, v11]) s14)
    (J78_4 call fu s14 t4 t0)

def F78 (call : Call) (fu : Nat) (args : List AV) (s : St) : Out := match args with
  | [t0] =>
    fillK (.cells [.nilv, .nilv, .nilv]) [(0, 1, t0)] fun v16 =>
    boxK s 49 3 v16 fun v17 s18 =>
    outK (call 147 [t0, (.int .i64 (.ofNat 0))] s18) fun v19 s20 =>
    extractK v19 0 fun v21 =>
    extractK v19 1 fun v22 =>
    nilK v17 fun v23 =>
    fieldK 1 v23 fun v24 =>
    storeK ⟨1, false⟩ s20 v24 v21 fun s25 =>
    binK .neq v22 (.int .i64 (.ofNat 0)) fun v26 =>
    condK v26 (.ret (.tup [.nilv, v22]) s25)
    (J78_5 call fu s25 v17 t0)
  | _ => .err

abbrev orc78c (call : Call) (fu : Nat) (st : List IH) (id i : Nat) (s : St) (v : List AV) : Out := ch (Nat.beq id 6 && Nat.beq i 0) (J78_5 call fu s (nthL v 0) (nthL v 1)) (
    ch (Nat.beq id 9 && Nat.beq i 0) (J78_4 call fu s (nthL v 0) (nthL v 1)) (
    ch (Nat.beq id 10 && Nat.beq i 5) (J78_3 call fu s (nthL v 0) (nthL v 1) (nthL v 2) (nthL v 3)) (
    ch (Nat.beq id 11 && Nat.beq i 0) (J78_2 call fu s (nthL v 0) (nthL v 1) (nthL v 2)) (
    ch (Nat.beq id 12 && Nat.beq i 0) (J78_1 call fu s (nthL v 0) (nthL v 1)) (
    ch (Nat.beq id 14 && Nat.beq i 0) (J78_0 call fu s (nthL v 0)) (
    .err))))))
abbrev orc78b (call : Call) (fu : Nat) (st : List IH) (id : Nat) (ih : IH) (s : St) (v : List AV) : Out := .err
abbrev orc78p (call : Call) (fu : Nat) (st : List IH) (id k : Nat) (s : St) (v : List AV) : Out := .err
abbrev orc78m (call : Call) (fu : Nat) (id : Nat) (v : List AV) (s : St) : Out := .err
def lv78 (id i : Nat) : Option (List Tmp) := bif Nat.beq id 6 && Nat.beq i 0 then some [4, 0] else
    bif Nat.beq id 9 && Nat.beq i 0 then some [4, 0] else
    bif Nat.beq id 10 && Nat.beq i 5 then some [4, 5, 39, 41] else
    bif Nat.beq id 11 && Nat.beq i 0 then some [4, 5, 42] else
    bif Nat.beq id 12 && Nat.beq i 0 then some [5, 4] else
    bif Nat.beq id 14 && Nat.beq i 0 then some [4] else
    none
/- 79 -/
def F79 (call : Call) (fu : Nat) (args : List AV) (s : St) : Out := match args with
  | [t0, t1] =>
    boxK s 52 1 t0 fun v0 s1 =>
    boxK s1 52 1 t1 fun v2 s3 =>
    fieldK 0 v0 fun v4 =>
    loadK ⟨1, false⟩ s3 v4 fun v5 =>
    fieldK 0 v2 fun v6 =>
    loadK ⟨1, false⟩ s3 v6 fun v7 =>
    outK (call 148 [v5, v7, (.func 149 [] [])] s3) fun v8 s9 =>
    .ret v8 s9
  | _ => .err

abbrev orc79c (call : Call) (fu : Nat) (st : List IH) (id i : Nat) (s : St) (v : List AV) : Out := .err
abbrev orc79b (call : Call) (fu : Nat) (st : List IH) (id : Nat) (ih : IH) (s : St) (v : List AV) : Out := .err
abbrev orc79p (call : Call) (fu : Nat) (st : List IH) (id k : Nat) (s : St) (v : List AV) : Out := .err
abbrev orc79m (call : Call) (fu : Nat) (id : Nat) (v : List AV) (s : St) : Out := .err
def lv79 (id i : Nat) : Option (List Tmp) := none
/- 80 -/
def J80_0 (call : Call) (fu : Nat) (s : St) : Out :=
    .ret (.bool true) s

def J80_2 (call : Call) (fu : Nat) (ih1 : St → AV → AV → AV → AV → AV → Out) (s : St) (t17 t2 t1 t15 t16 : AV) : Out :=
    binK .add t17 (.int .i64 (.ofNat 1)) fun v0 =>
    ih1 s v0 t2 t1 t15 t16

def J80_3 (call : Call) (fu : Nat) (ih1 : St → AV → AV → AV → AV → AV → Out) (s : St) (t17 t2 t1 t15 t16 : AV) : Out :=
    indexSlK 20 t15 t17 fun v1 =>
    loadK ⟨20, true⟩ s v1 fun v2 =>
    allocK s 134 (.cells [(.str 0 0), (.int .i64 (.ofNat 0)), (.int .i64 (.ofNat 0)), .nils, (.int .i64 (.ofNat 0)), (.int .i64 (.ofNat 0)), (.int .i64 (.ofNat 0)), (.int .i64 (.ofNat 0)), (.int .i64 (.ofNat 0)), (.int .i64 (.ofNat 0)), (.int .i64 (.ofNat 0)), (.bool false), (.int .i64 (.ofNat 0)), (.int .i64 (.ofNat 0)), (.int .i64 (.ofNat 0)), (.int .i64 (.ofNat 0)), .nils, .nils, .nils, .nils]) fun v3 s4 =>
    storeK ⟨20, true⟩ s4 v3 v2 fun s5 =>
    indexSlK 20 t1 t17 fun v6 =>
    loadK ⟨20, true⟩ s5 v6 fun v7 =>
    allocK s5 134 (.cells [(.str 0 0), (.int .i64 (.ofNat 0)), (.int .i64 (.ofNat 0)), .nils, (.int .i64 (.ofNat 0)), (.int .i64 (.ofNat 0)), (.int .i64 (.ofNat 0)), (.int .i64 (.ofNat 0)), (.int .i64 (.ofNat 0)), (.int .i64 (.ofNat 0)), (.int .i64 (.ofNat 0)), (.bool false), (.int .i64 (.ofNat 0)), (.int .i64 (.ofNat 0)), (.int .i64 (.ofNat 0)), (.int .i64 (.ofNat 0)), .nils, .nils, .nils, .nils]) fun v8 s9 =>
    storeK ⟨20, true⟩ s9 v8 v7 fun s10 =>
    loadK ⟨20, true⟩ s10 v3 fun v11 =>
    loadK ⟨20, true⟩ s10 v8 fun v12 =>
    callVK call t2 [v11, v12] s10 fun v13 s14 =>
    notK v13 fun v15 =>
    condK v15 (.ret (.bool false) s14)
    (J80_2 call fu ih1 s14 t17 t2 t1 t15 t16)

def L80_1b (call : Call) (fu : Nat) (ih1 : St → AV → AV → AV → AV → AV → Out) (s : St) (t17 t2 t1 t15 t16 : AV) : Out :=
    binK .lss t17 t16 fun v16 =>
    condK v16 (J80_3 call fu ih1 s t17 t2 t1 t15 t16)
    (J80_0 call fu s)

def L80_1 (call : Call) (fu : Nat) (n : Nat) : St → AV → AV → AV → AV → AV → Out :=
  Nat.rec (motive := fun _ => St → AV → AV → AV → AV → AV → Out) (fun _ _ _ _ _ _ => .err) (fun _ ih => L80_1b call fu ih) n

def J80_4 (call : Call) (fu : Nat) (s : St) (t2 t1 t0 : AV) : Out :=
    lenSlK t0 fun v17 =>
    L80_1 call fu fu s (.int .i64 (.ofNat 0)) t2 t1 t0 (goInt v17)

def F80 (call : Call) (fu : Nat) (args : List AV) (s : St) : Out := match args with
  | [t0, t1, t2] =>
    lenSlK t0 fun v18 =>
    lenSlK t1 fun v19 =>
    binK .neq (goInt v18) (goInt v19) fun v20 =>
    condK v20 (.ret (.bool false) s)
    (J80_4 call fu s t2 t1 t0)
  | _ => .err

abbrev orc80c (call : Call) (fu : Nat) (st : List IH) (id i : Nat) (s : St) (v : List AV) : Out := ch (Nat.beq id 3 && Nat.beq i 0) (J80_4 call fu s (nthL v 0) (nthL v 1) (nthL v 2)) (
    ch (Nat.beq id 5 && Nat.beq i 0) (J80_3 call fu (fun s x0 x1 x2 x3 x4 => nthI st 0 s [x0, x1, x2, x3, x4]) s (nthL v 0) (nthL v 1) (nthL v 2) (nthL v 3) (nthL v 4)) (
    ch (Nat.beq id 9 && Nat.beq i 0) (J80_2 call fu (fun s x0 x1 x2 x3 x4 => nthI st 0 s [x0, x1, x2, x3, x4]) s (nthL v 0) (nthL v 1) (nthL v 2) (nthL v 3) (nthL v 4)) (
    ch (Nat.beq id 10 && Nat.beq i 0) (J80_0 call fu s) (
    .err))))
abbrev orc80b (call : Call) (fu : Nat) (st : List IH) (id : Nat) (ih : IH) (s : St) (v : List AV) : Out := ch (Nat.beq id 4) (L80_1b call fu (fun s x0 x1 x2 x3 x4 => ih s [x0, x1, x2, x3, x4]) s (nthL v 0) (nthL v 1) (nthL v 2) (nthL v 3) (nthL v 4)) (
    .err)
abbrev orc80p (call : Call) (fu : Nat) (st : List IH) (id k : Nat) (s : St) (v : List AV) : Out := ch (Nat.beq id 4) (L80_1 call fu k s (nthL v 0) (nthL v 1) (nthL v 2) (nthL v 3) (nthL v 4)) (
    .err)
abbrev orc80m (call : Call) (fu : Nat) (id : Nat) (v : List AV) (s : St) : Out := .err
def lv80 (id i : Nat) : Option (List Tmp) := bif Nat.beq id 3 && Nat.beq i 0 then some [2, 1, 0] else
    bif Nat.beq id 5 && Nat.beq i 0 then some [17, 2, 1, 15, 16] else
    bif Nat.beq id 9 && Nat.beq i 0 then some [17, 2, 1, 15, 16] else
    bif Nat.beq id 4 && Nat.beq i 0 then some [17, 2, 1, 15, 16] else
    bif Nat.beq id 10 && Nat.beq i 0 then some [] else
    none
/- 82 -/
def J82_0 (call : Call) (fu : Nat) (s : St) (t5 : AV) : Out :=
    .ret t5 s

def J82_1 (call : Call) (fu : Nat) (s : St) (t5 t40 : AV) : Out :=
    condK t40 (.ret .nilv s)
    (J82_0 call fu s t5)

def J82_2 (call : Call) (fu : Nat) (s : St) (t5 t35 t39 : AV) : Out :=
    pickK t35 (.bool true) t39 fun v0 =>
    J82_1 call fu s t5 v0

def J82_3 (call : Call) (fu : Nat) (s : St) (t5 t31 t33 : AV) : Out :=
    pickK t31 (.bool true) t33 fun v1 =>
    guardK false v1 (J82_2 call fu s t5 v1 (.tup [])) <|
    fillK (.cells [(.int .i64 (.ofNat 0)), (.str 0 0)]) [(1, 1, (.str 1 115))] fun v2 =>
    outK (call 7 [t5, v2] s) fun v3 s4 =>
    binK .neq v3 (.int .i64 (.ofNat 0)) fun v5 =>
    J82_2 call fu s4 t5 v1 v5

def J82_4 (call : Call) (fu : Nat) (s : St) (t1 : AV) : Out :=
    outK (call 36 [t1] s) fun v6 s7 =>
    extractK v6 0 fun v8 =>
    extractK v6 1 fun v9 =>
    outK (call 37 [v8] s7) fun v10 s11 =>
    extractK v10 0 fun v12 =>
    extractK v10 1 fun v13 =>
    binK .neq v9 (.int .i64 (.ofNat 0)) fun v14 =>
    guardK false v14 (J82_3 call fu s11 v12 v14 (.tup [])) <|
    binK .neq v13 (.int .i64 (.ofNat 0)) fun v15 =>
    J82_3 call fu s11 v12 v14 v15

def J82_5 (call : Call) (fu : Nat) (s : St) (t1 t18 : AV) : Out :=
    condK t18 (.ret .nilv s)
    (J82_4 call fu s t1)

def J82_6 (call : Call) (fu : Nat) (s : St) (t1 t14 t17 : AV) : Out :=
    pickK t14 (.bool true) t17 fun v16 =>
    J82_5 call fu s t1 v16

def F82 (call : Call) (fu : Nat) (args : List AV) (s : St) : Out := match args with
  | [] =>
    outK (call 16 [(.int .i64 (.ofNat 32768))] s) fun v17 s18 =>
    outK (call 15 [v17, (.int .i64 (.ofNat 16))] s18) fun v19 s20 =>
    extractK v19 0 fun v21 =>
    extractK v19 1 fun v22 =>
    binK .neq v22 (.int .i64 (.ofNat 0)) fun v23 =>
    guardK false v23 (J82_6 call fu s20 v21 v23 (.tup [])) <|
    outK (call 35 [v21] s20) fun v24 s25 =>
    binK .neq v24 (.int .i64 (.ofNat 0)) fun v26 =>
    J82_6 call fu s25 v21 v23 v26
  | _ => .err

abbrev orc82c (call : Call) (fu : Nat) (st : List IH) (id i : Nat) (s : St) (v : List AV) : Out := ch (Nat.beq id 2 && Nat.beq i 6) (J82_6 call fu s (nthL v 0) (nthL v 1) (nthL v 2)) (
    ch (Nat.beq id 3 && Nat.beq i 0) (J82_5 call fu s (nthL v 0) (nthL v 1)) (
    ch (Nat.beq id 4 && Nat.beq i 0) (J82_4 call fu s (nthL v 0)) (
    ch (Nat.beq id 6 && Nat.beq i 5) (J82_3 call fu s (nthL v 0) (nthL v 1) (nthL v 2)) (
    ch (Nat.beq id 6 && Nat.beq i 11) (J82_2 call fu s (nthL v 0) (nthL v 1) (nthL v 2)) (
    ch (Nat.beq id 7 && Nat.beq i 0) (J82_1 call fu s (nthL v 0) (nthL v 1)) (
    ch (Nat.beq id 8 && Nat.beq i 0) (J82_0 call fu s (nthL v 0)) (
    .err)))))))
abbrev orc82b (call : Call) (fu : Nat) (st : List IH) (id : Nat) (ih : IH) (s : St) (v : List AV) : Out := .err
abbrev orc82p (call : Call) (fu : Nat) (st : List IH) (id k : Nat) (s : St) (v : List AV) : Out := .err
abbrev orc82m (call : Call) (fu : Nat) (id : Nat) (v : List AV) (s : St) : Out := .err
def lv82 (id i : Nat) : Option (List Tmp) := bif Nat.beq id 2 && Nat.beq i 6 then some [1, 14, 17] else
    bif Nat.beq id 3 && Nat.beq i 0 then some [1, 18] else
    bif Nat.beq id 4 && Nat.beq i 0 then some [1] else
    bif Nat.beq id 6 && Nat.beq i 5 then some [5, 31, 33] else
    bif Nat.beq id 6 && Nat.beq i 11 then some [5, 35, 39] else
    bif Nat.beq id 7 && Nat.beq i 0 then some [5, 40] else
    bif Nat.beq id 8 && Nat.beq i 0 then some [5] else
    none
/- 83 -/
def J83_0 (call : Call) (fu : Nat) (s : St) (t8 t7 : AV) : Out :=
    .ret (.tup [t7, t8, (.int .i64 (.ofNat 0))]) s

def J83_2 (call : Call) (fu : Nat) (ih1 : St → AV → AV → AV → AV → AV → Out) (s : St) (t21 t7 t8 t19 t20 : AV) : Out :=
    binK .add t21 (.int .i64 (.ofNat 1)) fun v0 =>
    ih1 s v0 t7 t8 t19 t20

def J83_3 (call : Call) (fu : Nat) (ih1 : St → AV → AV → AV → AV → AV → Out) (s : St) (t21 t7 t8 t19 t20 : AV) : Out :=
    indexSlK 1 t19 t21 fun v1 =>
    loadK ⟨1, false⟩ s v1 fun v2 =>
    binK .eql v2 (.int .i64 (.ofNat 3)) fun v3 =>
    condK v3 (binK .add t7 (.int .i64 (.ofNat 1)) fun v4 =>
    J83_2 call fu ih1 s t21 v4 t8 t19 t20)
    (binK .eql v2 (.int .i64 (.ofNat 2)) fun v5 =>
    condK v5 (binK .add t8 (.int .i64 (.ofNat 1)) fun v6 =>
    J83_2 call fu ih1 s t21 t7 v6 t19 t20)
    (J83_2 call fu ih1 s t21 t7 t8 t19 t20))

def L83_1b (call : Call) (fu : Nat) (ih1 : St → AV → AV → AV → AV → AV → Out) (s : St) (t21 t7 t8 t19 t20 : AV) : Out :=
    binK .lss t21 t20 fun v7 =>
    condK v7 (J83_3 call fu ih1 s t21 t7 t8 t19 t20)
    (J83_0 call fu s t8 t7)

def L83_1 (call : Call) (fu : Nat) (n : Nat) : St → AV → AV → AV → AV → AV → Out :=
  Nat.rec (motive := fun _ => St → AV → AV → AV → AV → AV → Out) (fun _ _ _ _ _ _ => .err) (fun _ ih => L83_1b call fu ih) n

def J83_4 (call : Call) (fu : Nat) (s : St) (t5 : AV) : Out :=
    lenSlK t5 fun v8 =>
    L83_1 call fu fu s (.int .i64 (.ofNat 0)) (.int .i64 (.ofNat 0)) (.int .i64 (.ofNat 0)) t5 (goInt v8)

def F83 (call : Call) (fu : Nat) (args : List AV) (s : St) : Out := match args with
  | [t0] =>
    outK (call 152 [t0] s) fun v9 s10 =>
    extractK v9 0 fun v11 =>
    extractK v9 1 fun v12 =>
    binK .neq v12 (.int .i64 (.ofNat 0)) fun v13 =>
    condK v13 (.ret (.tup [(.int .i64 (.ofNat 0)), (.int .i64 (.ofNat 0)), v12]) s10)
    (J83_4 call fu s10 v11)
  | _ => .err

abbrev orc83c (call : Call) (fu : Nat) (st : List IH) (id i : Nat) (s : St) (v : List AV) : Out := ch (Nat.beq id 4 && Nat.beq i 0) (J83_4 call fu s (nthL v 0)) (
    ch (Nat.beq id 7 && Nat.beq i 0) (J83_3 call fu (fun s x0 x1 x2 x3 x4 => nthI st 0 s [x0, x1, x2, x3, x4]) s (nthL v 0) (nthL v 1) (nthL v 2) (nthL v 3) (nthL v 4)) (
    ch (Nat.beq id 13 && Nat.beq i 0) (J83_2 call fu (fun s x0 x1 x2 x3 x4 => nthI st 0 s [x0, x1, x2, x3, x4]) s (nthL v 0) (nthL v 1) (nthL v 2) (nthL v 3) (nthL v 4)) (
    ch (Nat.beq id 14 && Nat.beq i 0) (J83_0 call fu s (nthL v 0) (nthL v 1)) (
    .err))))
abbrev orc83b (call : Call) (fu : Nat) (st : List IH) (id : Nat) (ih : IH) (s : St) (v : List AV) : Out := ch (Nat.beq id 6) (L83_1b call fu (fun s x0 x1 x2 x3 x4 => ih s [x0, x1, x2, x3, x4]) s (nthL v 0) (nthL v 1) (nthL v 2) (nthL v 3) (nthL v 4)) (
    .err)
abbrev orc83p (call : Call) (fu : Nat) (st : List IH) (id k : Nat) (s : St) (v : List AV) : Out := ch (Nat.beq id 6) (L83_1 call fu k s (nthL v 0) (nthL v 1) (nthL v 2) (nthL v 3) (nthL v 4)) (
    .err)
abbrev orc83m (call : Call) (fu : Nat) (id : Nat) (v : List AV) (s : St) : Out := .err
def lv83 (id i : Nat) : Option (List Tmp) := bif Nat.beq id 4 && Nat.beq i 0 then some [5] else
    bif Nat.beq id 7 && Nat.beq i 0 then some [21, 7, 8, 19, 20] else
    bif Nat.beq id 13 && Nat.beq i 0 then some [21, 7, 8, 19, 20] else
    bif Nat.beq id 6 && Nat.beq i 0 then some [21, 7, 8, 19, 20] else
    bif Nat.beq id 14 && Nat.beq i 0 then some [8, 7] else
    none
/- 93 -/
def F93 (call : Call) (fu : Nat) (args : List AV) (s : St) : Out := match args with
  | [t0] =>
    lenSlK t0 fun v0 =>
    convK .u64 (goInt v0) fun v1 =>
    outK (call 165 [v1] s) fun v2 s3 =>
    outK (call 164 [t0, (.int .i64 (.ofNat 0)), (goInt v0), v2] s3) fun v4 s5 =>
    .ret (.tup []) s5
  | _ => .err

abbrev orc93c (call : Call) (fu : Nat) (st : List IH) (id i : Nat) (s : St) (v : List AV) : Out := .err
abbrev orc93b (call : Call) (fu : Nat) (st : List IH) (id : Nat) (ih : IH) (s : St) (v : List AV) : Out := .err
abbrev orc93p (call : Call) (fu : Nat) (st : List IH) (id k : Nat) (s : St) (v : List AV) : Out := .err
abbrev orc93m (call : Call) (fu : Nat) (id : Nat) (v : List AV) (s : St) : Out := .err
def lv93 (id i : Nat) : Option (List Tmp) := none
/- 95 -/
def J95_0 (call : Call) (fu : Nat) (s : St) (t4 : AV) : Out :=
    loadK ⟨1, false⟩ s t4 fun v0 =>
    .ret (.tup [v0, (.int .i64 (.ofNat 0))]) s

def J95_1 (call : Call) (fu : Nat) (s : St) (t0 : AV) : Out :=
    allocK s 3 (.cells [(.int .i64 (.ofNat 0))]) fun v1 s2 =>
    storeK ⟨1, false⟩ s2 v1 (.int .i64 (.ofNat 0)) fun s3 =>
    nilK t0 fun v4 =>
    fieldK 1 v4 fun v5 =>
    loadK ⟨1, false⟩ s3 v5 fun v6 =>
    outK (call 168 [t0, v6, (.int .i64 (.ofNat 1)), (.func 169 [] [v1])] s3) fun v7 s8 =>
    binK .neq v7 (.int .i64 (.ofNat 0)) fun v9 =>
    condK v9 (.ret (.tup [(.int .i64 (.ofNat 0)), v7]) s8)
    (J95_0 call fu s8 v1)

def F95 (call : Call) (fu : Nat) (args : List AV) (s : St) : Out := match args with
  | [t0] =>
    outK (call 112 [t0] s) fun v10 s11 =>
    notK v10 fun v12 =>
    condK v12 (.ret (.tup [(.int .i64 (.ofNat 0)), (.int .i64 (.ofNat 1))]) s11)
    (J95_1 call fu s11 t0)
  | _ => .err

abbrev orc95c (call : Call) (fu : Nat) (st : List IH) (id i : Nat) (s : St) (v : List AV) : Out := ch (Nat.beq id 3 && Nat.beq i 0) (J95_1 call fu s (nthL v 0)) (
    ch (Nat.beq id 7 && Nat.beq i 0) (J95_0 call fu s (nthL v 0)) (
    .err))
abbrev orc95b (call : Call) (fu : Nat) (st : List IH) (id : Nat) (ih : IH) (s : St) (v : List AV) : Out := .err
abbrev orc95p (call : Call) (fu : Nat) (st : List IH) (id k : Nat) (s : St) (v : List AV) : Out := .err
abbrev orc95m (call : Call) (fu : Nat) (id : Nat) (v : List AV) (s : St) : Out := .err
def lv95 (id i : Nat) : Option (List Tmp) := bif Nat.beq id 3 && Nat.beq i 0 then some [0] else
    bif Nat.beq id 7 && Nat.beq i 0 then some [4] else
    none
/- 96 -/
def J96_0 (call : Call) (fu : Nat) (s : St) (t0 : AV) : Out :=
    outK (call 133 [t0] s) fun v0 s1 =>
    extractK v0 0 fun v2 =>
    extractK v0 1 fun v3 =>
    outK (call 93 [v2] s1) fun v4 s5 =>
    .ret (.tup [v2, v3]) s5

def F96 (call : Call) (fu : Nat) (args : List AV) (s : St) : Out := match args with
  | [t0] =>
    outK (call 112 [t0] s) fun v6 s7 =>
    notK v6 fun v8 =>
    condK v8 (.ret (.tup [.nils, (.int .i64 (.ofNat 1))]) s7)
    (J96_0 call fu s7 t0)
  | _ => .err

abbrev orc96c (call : Call) (fu : Nat) (st : List IH) (id i : Nat) (s : St) (v : List AV) : Out := ch (Nat.beq id 3 && Nat.beq i 0) (J96_0 call fu s (nthL v 0)) (
    .err)
abbrev orc96b (call : Call) (fu : Nat) (st : List IH) (id : Nat) (ih : IH) (s : St) (v : List AV) : Out := .err
abbrev orc96p (call : Call) (fu : Nat) (st : List IH) (id k : Nat) (s : St) (v : List AV) : Out := .err
abbrev orc96m (call : Call) (fu : Nat) (id : Nat) (v : List AV) (s : St) : Out := .err
def lv96 (id i : Nat) : Option (List Tmp) := bif Nat.beq id 3 && Nat.beq i 0 then some [0] else
    none
/- 101 -/
def J101_0 (call : Call) (fu : Nat) (s : St) (t7 : AV) : Out :=
    .ret (.tup [t7, (.int .i64 (.ofNat 0))]) s

def J101_1 (call : Call) (fu : Nat) (s : St) (t9 t7 : AV) : Out :=
    binK .neq t9 (.int .i64 (.ofNat 0)) fun v0 =>
    condK v0 (.ret (.tup [.nils, t9]) s)
    (J101_0 call fu s t7)

def J101_3 (call : Call) (fu : Nat) (ih2 : St → AV → AV → AV → AV → AV → Out) (s : St) (t6 t7 t1 : AV) : Out :=
    outK (call 179 [t6] s) fun v1 s2 =>
    extractK v1 0 fun v3 =>
    extractK v1 1 fun v4 =>
    ih2 s2 t6 t7 v4 t1 v3

def J101_4 (call : Call) (fu : Nat) (ih2 : St → AV → AV → AV → AV → AV → Out) (s : St) (t6 t12 t10 t7 t1 : AV) : Out :=
    fillK (.cells [(.int .i64 (.ofNat 0)), .nils]) [(0, 1, t10), (1, 1, t12)] fun v5 =>
    fillK (.cells [(.int .i64 (.ofNat 0)), .nils]) [(0, 2, v5)] fun v6 => newK s (.row 153 v6) fun i7 s8 =>
    appK 153 2 s8 t7 (.slice i7 0 1 1 2 false) fun v9 s10 =>
    J101_3 call fu ih2 s10 t6 v9 t1

def J101_5 (call : Call) (fu : Nat) (ih2 : St → AV → AV → AV → AV → AV → Out) (s : St) (t6 t7 t1 : AV) : Out :=
    outK (call 180 [t6] s) fun v11 s12 =>
    extractK v11 0 fun v13 =>
    extractK v11 1 fun v14 =>
    outK (call 181 [t6] s12) fun v15 s16 =>
    extractK v15 0 fun v17 =>
    extractK v15 1 fun v18 =>
    binK .neq v18 (.int .i64 (.ofNat 0)) fun v19 =>
    condK v19 (.ret (.tup [.nils, v18]) s16)
    (J101_4 call fu ih2 s16 t6 v17 v13 t7 t1)

def J101_6 (call : Call) (fu : Nat) (ih2 : St → AV → AV → AV → AV → AV → Out) (s : St) (t6 t7 t9 t26 t30 t1 : AV) : Out :=
    pickK t26 t30 (.bool false) fun v20 =>
    condK v20 (J101_5 call fu ih2 s t6 t7 t1)
    (J101_1 call fu s t9 t7)

def J101_7 (call : Call) (fu : Nat) (ih2 : St → AV → AV → AV → AV → AV → Out) (s : St) (t6 t7 t9 t1 t22 t24 : AV) : Out :=
    pickK t22 t24 (.bool false) fun v21 =>
    guardK true v21 (J101_6 call fu ih2 s t6 t7 t9 v21 (.tup []) t1) <|
    lenSlK t7 fun v22 =>
    binK .lss (goInt v22) t1 fun v23 =>
    J101_6 call fu ih2 s t6 t7 t9 v21 v23 t1

def L101_2b (call : Call) (fu : Nat) (ih2 : St → AV → AV → AV → AV → AV → Out) (s : St) (t6 t7 t9 t1 t8 : AV) : Out :=
    guardK true t8 (J101_7 call fu ih2 s t6 t7 t9 t1 t8 (.tup [])) <|
    binK .eql t9 (.int .i64 (.ofNat 0)) fun v24 =>
    J101_7 call fu ih2 s t6 t7 t9 t1 t8 v24

def L101_2 (call : Call) (fu : Nat) (n : Nat) : St → AV → AV → AV → AV → AV → Out :=
  Nat.rec (motive := fun _ => St → AV → AV → AV → AV → AV → Out) (fun _ _ _ _ _ _ => .err) (fun _ ih => L101_2b call fu ih) n

def F101 (call : Call) (fu : Nat) (args : List AV) (s : St) : Out := match args with
  | [t0, t1] =>
    outK (call 177 [t0] s) fun v25 s26 =>
    outK (call 178 [v25] s26) fun v27 s28 =>
    extractK v27 0 fun v29 =>
    extractK v27 1 fun v30 =>
    L101_2 call fu fu s28 v25 .nils v30 t1 v29
  | _ => .err

abbrev orc101c (call : Call) (fu : Nat) (st : List IH) (id i : Nat) (s : St) (v : List AV) : Out := ch (Nat.beq id 4 && Nat.beq i 4) (J101_7 call fu (fun s x0 x1 x2 x3 x4 => nthI st 0 s [x0, x1, x2, x3, x4]) s (nthL v 0) (nthL v 1) (nthL v 2) (nthL v 3) (nthL v 4) (nthL v 5)) (
    ch (Nat.beq id 4 && Nat.beq i 10) (J101_6 call fu (fun s x0 x1 x2 x3 x4 => nthI st 0 s [x0, x1, x2, x3, x4]) s (nthL v 0) (nthL v 1) (nthL v 2) (nthL v 3) (nthL v 4) (nthL v 5)) (
    ch (Nat.beq id 6 && Nat.beq i 0) (J101_5 call fu (fun s x0 x1 x2 x3 x4 => nthI st 0 s [x0, x1, x2, x3, x4]) s (nthL v 0) (nthL v 1) (nthL v 2)) (
    ch (Nat.beq id 10 && Nat.beq i 0) (J101_4 call fu (fun s x0 x1 x2 x3 x4 => nthI st 0 s [x0, x1, x2, x3, x4]) s (nthL v 0) (nthL v 1) (nthL v 2) (nthL v 3) (nthL v 4)) (
    ch (Nat.beq id 5 && Nat.beq i 0) (J101_3 call fu (fun s x0 x1 x2 x3 x4 => nthI st 0 s [x0, x1, x2, x3, x4]) s (nthL v 0) (nthL v 1) (nthL v 2)) (
    ch (Nat.beq id 11 && Nat.beq i 0) (J101_1 call fu s (nthL v 0) (nthL v 1)) (
    ch (Nat.beq id 13 && Nat.beq i 0) (J101_0 call fu s (nthL v 0)) (
    .err)))))))
abbrev orc101b (call : Call) (fu : Nat) (st : List IH) (id : Nat) (ih : IH) (s : St) (v : List AV) : Out := ch (Nat.beq id 4) (L101_2b call fu (fun s x0 x1 x2 x3 x4 => ih s [x0, x1, x2, x3, x4]) s (nthL v 0) (nthL v 1) (nthL v 2) (nthL v 3) (nthL v 4)) (
    .err)
abbrev orc101p (call : Call) (fu : Nat) (st : List IH) (id k : Nat) (s : St) (v : List AV) : Out := ch (Nat.beq id 4) (L101_2 call fu k s (nthL v 0) (nthL v 1) (nthL v 2) (nthL v 3) (nthL v 4)) (
    .err)
abbrev orc101m (call : Call) (fu : Nat) (id : Nat) (v : List AV) (s : St) : Out := .err
def lv101 (id i : Nat) : Option (List Tmp) := bif Nat.beq id 4 && Nat.beq i 4 then some [6, 7, 9, 1, 22, 24] else
    bif Nat.beq id 4 && Nat.beq i 10 then some [6, 7, 9, 26, 30, 1] else
    bif Nat.beq id 6 && Nat.beq i 0 then some [6, 7, 1] else
    bif Nat.beq id 10 && Nat.beq i 0 then some [6, 12, 10, 7, 1] else
    bif Nat.beq id 5 && Nat.beq i 0 then some [6, 7, 1] else
    bif Nat.beq id 4 && Nat.beq i 0 then some [6, 7, 9, 1, 8] else
    bif Nat.beq id 11 && Nat.beq i 0 then some [9, 7] else
    bif Nat.beq id 13 && Nat.beq i 0 then some [7] else
    none
/- 103 -/
def J103_0 (call : Call) (fu : Nat) (s : St) : Out :=
    .ret (.int .i64 (.ofNat 0)) s

def F103 (call : Call) (fu : Nat) (args : List AV) (s : St) : Out := match args with
  | [t0] =>
    outK (call 182 [t0] s) fun v0 s1 =>
    notK v0 fun v2 =>
    condK v2 (.ret (.int .i64 (.ofNat 1)) s1)
    (nilK t0 fun v3 =>
    fieldK 4 v3 fun v4 =>
    loadK ⟨1, false⟩ s1 v4 fun v5 =>
    condK v5 (.ret (.int .i64 (.ofNat 4)) s1)
    (J103_0 call fu s1))
  | _ => .err

abbrev orc103c (call : Call) (fu : Nat) (st : List IH) (id i : Nat) (s : St) (v : List AV) : Out := ch (Nat.beq id 5 && Nat.beq i 0) (J103_0 call fu s) (
    .err)
abbrev orc103b (call : Call) (fu : Nat) (st : List IH) (id : Nat) (ih : IH) (s : St) (v : List AV) : Out := .err
abbrev orc103p (call : Call) (fu : Nat) (st : List IH) (id k : Nat) (s : St) (v : List AV) : Out := .err
abbrev orc103m (call : Call) (fu : Nat) (id : Nat) (v : List AV) (s : St) : Out := .err
def lv103 (id i : Nat) : Option (List Tmp) := bif Nat.beq id 5 && Nat.beq i 0 then some [] else
    none
/- 104 -/
def J104_0 (call : Call) (fu : Nat) (s : St) (t0 : AV) : Out :=
    nilK t0 fun v0 =>
    fieldK 2 v0 fun v1 =>
    loadK ⟨1, false⟩ s v1 fun v2 =>
    .ret v2 s

def F104 (call : Call) (fu : Nat) (args : List AV) (s : St) : Out := match args with
  | [t0] =>
    outK (call 183 [t0] s) fun v3 s4 =>
    notK v3 fun v5 =>
    condK v5 (.ret (.int .i64 (.ofNat 0)) s4)
    (nilK t0 fun v6 =>
    fieldK 3 v6 fun v7 =>
    loadK ⟨1, false⟩ s4 v7 fun v8 =>
    eqK .ptr s4 true v8 .nilv fun v9 =>
    condK v9 (nilK t0 fun v10 =>
    fieldK 3 v10 fun v11 =>
    loadK ⟨1, false⟩ s4 v11 fun v12 =>
    nilK v12 fun v13 =>
    fieldK 0 v13 fun v14 =>
    loadK ⟨1, false⟩ s4 v14 fun v15 =>
    .ret v15 s4)
    (J104_0 call fu s4 t0))
  | _ => .err

abbrev orc104c (call : Call) (fu : Nat) (st : List IH) (id i : Nat) (s : St) (v : List AV) : Out := ch (Nat.beq id 5 && Nat.beq i 0) (J104_0 call fu s (nthL v 0)) (
    .err)
abbrev orc104b (call : Call) (fu : Nat) (st : List IH) (id : Nat) (ih : IH) (s : St) (v : List AV) : Out := .err
abbrev orc104p (call : Call) (fu : Nat) (st : List IH) (id k : Nat) (s : St) (v : List AV) : Out := .err
abbrev orc104m (call : Call) (fu : Nat) (id : Nat) (v : List AV) (s : St) : Out := .err
def lv104 (id i : Nat) : Option (List Tmp) := bif Nat.beq id 5 && Nat.beq i 0 then some [0] else
    none
/- 105 -/
def J105_0 (call : Call) (fu : Nat) (s : St) (t0 : AV) : Out :=
    nilK t0 fun v0 =>
    fieldK 3 v0 fun v1 =>
    loadK ⟨1, false⟩ s v1 fun v2 =>
    nilK v2 fun v3 =>
    fieldK 0 v3 fun v4 =>
    loadK ⟨1, false⟩ s v4 fun v5 =>
    binK .add v5 (.int .i64 (.ofNat 1)) fun v6 =>
    nilK v2 fun v7 =>
    fieldK 0 v7 fun v8 =>
    storeK ⟨1, false⟩ s v8 v6 fun s9 =>
    nilK t0 fun v10 =>
    fieldK 3 v10 fun v11 =>
    loadK ⟨1, false⟩ s9 v11 fun v12 =>
    nilK v12 fun v13 =>
    fieldK 1 v13 fun v14 =>
    loadK ⟨1, false⟩ s9 v14 fun v15 =>
    nilK t0 fun v16 =>
    fieldK 3 v16 fun v17 =>
    loadK ⟨1, false⟩ s9 v17 fun v18 =>
    nilK v18 fun v19 =>
    fieldK 0 v19 fun v20 =>
    loadK ⟨1, false⟩ s9 v20 fun v21 =>
    makeSliceK 5 1 (.int .u8 (.ofNat 0)) s9 (.int .i64 (.ofNat 512)) (.int .i64 (.ofNat 512)) fun v22 s23 =>
    updateK .map s23 v15 v21 v22 fun s24 =>
    nilK t0 fun v25 =>
    fieldK 3 v25 fun v26 =>
    loadK ⟨1, false⟩ s24 v26 fun v27 =>
    nilK v27 fun v28 =>
    fieldK 0 v28 fun v29 =>
    loadK ⟨1, false⟩ s24 v29 fun v30 =>
    .ret (.tup [v30, (.int .i64 (.ofNat 0))]) s24

def F105 (call : Call) (fu : Nat) (args : List AV) (s : St) : Out := match args with
  | [t0] =>
    outK (call 184 [t0] s) fun v31 s32 =>
    binK .neq v31 (.int .i64 (.ofNat 0)) fun v33 =>
    condK v33 (.ret (.tup [(.int .i64 (.ofNat 0)), v31]) s32)
    (nilK t0 fun v34 =>
    fieldK 3 v34 fun v35 =>
    loadK ⟨1, false⟩ s32 v35 fun v36 =>
    nilK v36 fun v37 =>
    fieldK 0 v37 fun v38 =>
    loadK ⟨1, false⟩ s32 v38 fun v39 =>
    binK .eql v39 (.int .i64 (.ofNat 4000)) fun v40 =>
    condK v40 (.ret (.tup [(.int .i64 (.ofNat 0)), (.int .i64 (.ofNat 3))]) s32)
    (J105_0 call fu s32 t0))
  | _ => .err

abbrev orc105c (call : Call) (fu : Nat) (st : List IH) (id i : Nat) (s : St) (v : List AV) : Out := ch (Nat.beq id 6 && Nat.beq i 0) (J105_0 call fu s (nthL v 0)) (
    .err)
abbrev orc105b (call : Call) (fu : Nat) (st : List IH) (id : Nat) (ih : IH) (s : St) (v : List AV) : Out := .err
abbrev orc105p (call : Call) (fu : Nat) (st : List IH) (id k : Nat) (s : St) (v : List AV) : Out := .err
abbrev orc105m (call : Call) (fu : Nat) (id : Nat) (v : List AV) (s : St) : Out := .err
def lv105 (id i : Nat) : Option (List Tmp) := bif Nat.beq id 6 && Nat.beq i 0 then some [0] else
    none
/- 106 -/
def J106_0 (call : Call) (fu : Nat) (s : St) (t2 t1 t0 : AV) : Out :=
    nilK t0 fun v0 =>
    fieldK 3 v0 fun v1 =>
    loadK ⟨1, false⟩ s v1 fun v2 =>
    nilK v2 fun v3 =>
    fieldK 1 v3 fun v4 =>
    loadK ⟨1, false⟩ s v4 fun v5 =>
    outK (call 185 [t2] s) fun v6 s7 =>
    againK ⟨1, false⟩ s7 v4 v5 <|
    againK ⟨1, false⟩ s7 v1 v2 <|
    updateK .map s7 v5 t1 v6 fun s8 =>
    .ret (.int .i64 (.ofNat 0)) s8

def J106_1 (call : Call) (fu : Nat) (s : St) (t2 t1 t0 t14 : AV) : Out :=
    condK t14 (.ret (.int .i64 (.ofNat 11)) s)
    (lenSlK t2 fun v9 =>
    binK .neq (goInt v9) (.int .i64 (.ofNat 512)) fun v10 =>
    condK v10 (.ret (.int .i64 (.ofNat 2)) s)
    (J106_0 call fu s t2 t1 t0))

def J106_2 (call : Call) (fu : Nat) (s : St) (t2 t1 t0 t17 t26 : AV) : Out :=
    pickK t17 (.bool true) t26 fun v11 =>
    J106_1 call fu s t2 t1 t0 v11

def F106 (call : Call) (fu : Nat) (args : List AV) (s : St) : Out := match args with
  | [t0, t1, t2] =>
    outK (call 184 [t0] s) fun v12 s13 =>
    binK .neq v12 (.int .i64 (.ofNat 0)) fun v14 =>
    condK v14 (.ret v12 s13)
    (binK .lss t1 (.int .i64 (.ofNat 1)) fun v15 =>
    guardK false v15 (J106_2 call fu s13 t2 t1 t0 v15 (.tup [])) <|
    nilK t0 fun v16 =>
    fieldK 3 v16 fun v17 =>
    loadK ⟨1, false⟩ s13 v17 fun v18 =>
    nilK v18 fun v19 =>
    fieldK 0 v19 fun v20 =>
    loadK ⟨1, false⟩ s13 v20 fun v21 =>
    binK .gtr t1 v21 fun v22 =>
    J106_2 call fu s13 t2 t1 t0 v15 v22)
  | _ => .err

abbrev orc106c (call : Call) (fu : Nat) (st : List IH) (id i : Nat) (s : St) (v : List AV) : Out := ch (Nat.beq id 4 && Nat.beq i 12) (J106_2 call fu s (nthL v 0) (nthL v 1) (nthL v 2) (nthL v 3) (nthL v 4)) (
    ch (Nat.beq id 5 && Nat.beq i 0) (J106_1 call fu s (nthL v 0) (nthL v 1) (nthL v 2) (nthL v 3)) (
    ch (Nat.beq id 8 && Nat.beq i 0) (J106_0 call fu s (nthL v 0) (nthL v 1) (nthL v 2)) (
    .err)))
abbrev orc106b (call : Call) (fu : Nat) (st : List IH) (id : Nat) (ih : IH) (s : St) (v : List AV) : Out := .err
abbrev orc106p (call : Call) (fu : Nat) (st : List IH) (id k : Nat) (s : St) (v : List AV) : Out := .err
abbrev orc106m (call : Call) (fu : Nat) (id : Nat) (v : List AV) (s : St) : Out := .err
def lv106 (id i : Nat) : Option (List Tmp) := bif Nat.beq id 4 && Nat.beq i 12 then some [2, 1, 0, 17, 26] else
    bif Nat.beq id 5 && Nat.beq i 0 then some [2, 1, 0, 14] else
    bif Nat.beq id 8 && Nat.beq i 0 then some [2, 1, 0] else
    none
/- 107 -/
def F107 (call : Call) (fu : Nat) (args : List AV) (s : St) : Out := match args with
  | [t0, t1, t2] =>
    boxK s 199 1 t0 fun v0 s1 =>
    boxK s1 3 1 t1 fun v2 s3 =>
    .ret (.func 108 [] [t2, v0, v2]) s3
  | _ => .err

abbrev orc107c (call : Call) (fu : Nat) (st : List IH) (id i : Nat) (s : St) (v : List AV) : Out := .err
abbrev orc107b (call : Call) (fu : Nat) (st : List IH) (id : Nat) (ih : IH) (s : St) (v : List AV) : Out := .err
abbrev orc107p (call : Call) (fu : Nat) (st : List IH) (id k : Nat) (s : St) (v : List AV) : Out := .err
abbrev orc107m (call : Call) (fu : Nat) (id : Nat) (v : List AV) (s : St) : Out := .err
def lv107 (id i : Nat) : Option (List Tmp) := none
/- 108 -/
def J108_0 (call : Call) (fu : Nat) (s : St) (t4 t2 t0 t1 : AV) : Out :=
    loadK ⟨1, false⟩ s t1 fun v0 =>
    nilK v0 fun v1 =>
    storeK ⟨1, false⟩ s v1 t4 fun s2 =>
    loadK ⟨1, false⟩ s2 t0 fun v3 =>
    loadK ⟨1, false⟩ s2 t2 fun v4 =>
    outK (call 48 [t4] s2) fun v5 s6 =>
    againK ⟨1, false⟩ s6 t2 v4 <|
    againK ⟨1, false⟩ s6 t0 v3 <|
    outK (call 53 [v3, v4, v5] s6) fun v7 s8 =>
    .ret v7 s8

def F108 (call : Call) (fu : Nat) (args : List AV) (s : St) : Out := match args with
  | [t0, t1, t2] =>
    loadK ⟨1, false⟩ s t0 fun v9 =>
    outK (call 46 [v9] s) fun v10 s11 =>
    extractK v10 0 fun v12 =>
    extractK v10 1 fun v13 =>
    binK .neq v13 (.int .i64 (.ofNat 0)) fun v14 =>
    condK v14 (.ret v13 s11)
    (J108_0 call fu s11 v12 t2 t0 t1)
  | _ => .err

abbrev orc108c (call : Call) (fu : Nat) (st : List IH) (id i : Nat) (s : St) (v : List AV) : Out := ch (Nat.beq id 4 && Nat.beq i 0) (J108_0 call fu s (nthL v 0) (nthL v 1) (nthL v 2) (nthL v 3)) (
    .err)
abbrev orc108b (call : Call) (fu : Nat) (st : List IH) (id : Nat) (ih : IH) (s : St) (v : List AV) : Out := .err
abbrev orc108p (call : Call) (fu : Nat) (st : List IH) (id k : Nat) (s : St) (v : List AV) : Out := .err
abbrev orc108m (call : Call) (fu : Nat) (id : Nat) (v : List AV) (s : St) : Out := .err
def lv108 (id i : Nat) : Option (List Tmp) := bif Nat.beq id 4 && Nat.beq i 0 then some [4, 2, 0, 1] else
    none
/- 109 -/
def F109 (call : Call) (fu : Nat) (args : List AV) (s : St) : Out := match args with
  | [t0] =>
    loadK ⟨1, false⟩ s t0 fun v0 =>
    outK (call 53 [v0, (.int .i64 (.ofNat 2)), (.int .i64 (.ofNat 1))] s) fun v1 s2 =>
    .ret v1 s2
  | _ => .err

abbrev orc109c (call : Call) (fu : Nat) (st : List IH) (id i : Nat) (s : St) (v : List AV) : Out := .err
abbrev orc109b (call : Call) (fu : Nat) (st : List IH) (id : Nat) (ih : IH) (s : St) (v : List AV) : Out := .err
abbrev orc109p (call : Call) (fu : Nat) (st : List IH) (id k : Nat) (s : St) (v : List AV) : Out := .err
abbrev orc109m (call : Call) (fu : Nat) (id : Nat) (v : List AV) (s : St) : Out := .err
def lv109 (id i : Nat) : Option (List Tmp) := none
/- 110 -/
def J110_0 (call : Call) (fu : Nat) (s : St) (t35 t38 : AV) : Out :=
    pickK t35 t38 (.bool false) fun v0 =>
    .ret v0 s

def J110_1 (call : Call) (fu : Nat) (s : St) (t0 : AV) : Out :=
    eqK .str s true t0 (.str 0 0) fun v1 =>
    guardK true v1 (J110_0 call fu s v1 (.tup [])) <|
    lenStrK t0 fun v2 =>
    binK .leq (goInt v2) (.int .i64 (.ofNat 12)) fun v3 =>
    J110_0 call fu s v1 v3

def J110_3 (call : Call) (fu : Nat) (ih2 : St → AV → AV → Out) (s : St) (t18 t0 t6 : AV) : Out :=
    condK t18 (ih2 s t0 t6)
    (.ret (.bool false) s)

def J110_4 (call : Call) (fu : Nat) (ih2 : St → AV → AV → Out) (s : St) (t21 t31 t0 t6 : AV) : Out :=
    pickK t21 t31 (.bool false) fun v4 =>
    J110_3 call fu ih2 s v4 t0 t6

def J110_5 (call : Call) (fu : Nat) (ih2 : St → AV → AV → Out) (s : St) (t21 t24 t30 t0 t6 : AV) : Out :=
    guardK true t21 (J110_4 call fu ih2 s t21 (.tup []) t0 t6) <|
    pickK t24 (.bool true) t30 fun v5 =>
    J110_4 call fu ih2 s t21 v5 t0 t6

def J110_6 (call : Call) (fu : Nat) (ih2 : St → AV → AV → Out) (s : St) (t21 t24 t27 t29 t0 t6 : AV) : Out :=
    guardK false t24 (J110_5 call fu ih2 s t21 t24 (.tup []) t0 t6) <|
    pickK t27 t29 (.bool false) fun v6 =>
    J110_5 call fu ih2 s t21 t24 v6 t0 t6

def J110_7 (call : Call) (fu : Nat) (ih2 : St → AV → AV → Out) (s : St) (t21 t24 t27 t4 t0 t6 : AV) : Out :=
    guardK true t27 (J110_6 call fu ih2 s t21 t24 t27 (.tup []) t0 t6) <|
    binK .leq t4 (.int .i32 (.ofNat 57)) fun v7 =>
    J110_6 call fu ih2 s t21 t24 t27 v7 t0 t6

def J110_8 (call : Call) (fu : Nat) (ih2 : St → AV → AV → Out) (s : St) (t21 t24 t4 t0 t6 : AV) : Out :=
    guardK false t24 (J110_7 call fu ih2 s t21 t24 (.tup []) t4 t0 t6) <|
    binK .geq t4 (.int .i32 (.ofNat 48)) fun v8 =>
    J110_7 call fu ih2 s t21 t24 v8 t4 t0 t6

def J110_9 (call : Call) (fu : Nat) (ih2 : St → AV → AV → Out) (s : St) (t4 t3 t11 t0 t6 : AV) : Out :=
    condK t11 (ih2 s t0 t6)
    (binK .gtr t3 (.int .i64 (.ofNat 0)) fun v9 =>
    guardK true v9 (J110_8 call fu ih2 s v9 (.tup []) t4 t0 t6) <|
    binK .eql t4 (.int .i32 (.ofNat 95)) fun v10 =>
    J110_8 call fu ih2 s v9 v10 t4 t0 t6)

def J110_10 (call : Call) (fu : Nat) (ih2 : St → AV → AV → Out) (s : St) (t4 t3 t14 t16 t0 t6 : AV) : Out :=
    pickK t14 t16 (.bool false) fun v11 =>
    J110_9 call fu ih2 s t4 t3 v11 t0 t6

def J110_11 (call : Call) (fu : Nat) (ih2 : St → AV → AV → Out) (s : St) (t7 t0 t6 : AV) : Out :=
    extractK t7 1 fun v12 =>
    extractK t7 2 fun v13 =>
    binK .geq v13 (.int .i32 (.ofNat 97)) fun v14 =>
    guardK true v14 (J110_10 call fu ih2 s v13 v12 v14 (.tup []) t0 t6) <|
    binK .leq v13 (.int .i32 (.ofNat 122)) fun v15 =>
    J110_10 call fu ih2 s v13 v12 v14 v15 t0 t6

def L110_2b (call : Call) (fu : Nat) (ih2 : St → AV → AV → Out) (s : St) (t0 t6 : AV) : Out :=
    nextStrK s t6 fun v16 s17 =>
    extractK v16 0 fun v18 =>
    condK v18 (J110_11 call fu ih2 s17 v16 t0 t6)
    (J110_1 call fu s17 t0)

def L110_2 (call : Call) (fu : Nat) (n : Nat) : St → AV → AV → Out :=
  Nat.rec (motive := fun _ => St → AV → AV → Out) (fun _ _ _ => .err) (fun _ ih => L110_2b call fu ih) n

def F110 (call : Call) (fu : Nat) (args : List AV) (s : St) : Out := match args with
  | [t0] =>
    rangeStrK s t0 fun v19 s20 =>
    L110_2 call fu fu s20 t0 v19
  | _ => .err

abbrev orc110c (call : Call) (fu : Nat) (st : List IH) (id i : Nat) (s : St) (v : List AV) : Out := ch (Nat.beq id 3 && Nat.beq i 0) (J110_11 call fu (fun s x0 x1 => nthI st 0 s [x0, x1]) s (nthL v 0) (nthL v 1) (nthL v 2)) (
    ch (Nat.beq id 5 && Nat.beq i 5) (J110_10 call fu (fun s x0 x1 => nthI st 0 s [x0, x1]) s (nthL v 0) (nthL v 1) (nthL v 2) (nthL v 3) (nthL v 4) (nthL v 5)) (
    ch (Nat.beq id 6 && Nat.beq i 0) (J110_9 call fu (fun s x0 x1 => nthI st 0 s [x0, x1]) s (nthL v 0) (nthL v 1) (nthL v 2) (nthL v 3) (nthL v 4)) (
    ch (Nat.beq id 6 && Nat.beq i 6) (J110_8 call fu (fun s x0 x1 => nthI st 0 s [x0, x1]) s (nthL v 0) (nthL v 1) (nthL v 2) (nthL v 3) (nthL v 4)) (
    ch (Nat.beq id 6 && Nat.beq i 9) (J110_7 call fu (fun s x0 x1 => nthI st 0 s [x0, x1]) s (nthL v 0) (nthL v 1) (nthL v 2) (nthL v 3) (nthL v 4) (nthL v 5)) (
    ch (Nat.beq id 6 && Nat.beq i 11) (J110_6 call fu (fun s x0 x1 => nthI st 0 s [x0, x1]) s (nthL v 0) (nthL v 1) (nthL v 2) (nthL v 3) (nthL v 4) (nthL v 5)) (
    ch (Nat.beq id 6 && Nat.beq i 12) (J110_5 call fu (fun s x0 x1 => nthI st 0 s [x0, x1]) s (nthL v 0) (nthL v 1) (nthL v 2) (nthL v 3) (nthL v 4)) (
    ch (Nat.beq id 6 && Nat.beq i 13) (J110_4 call fu (fun s x0 x1 => nthI st 0 s [x0, x1]) s (nthL v 0) (nthL v 1) (nthL v 2) (nthL v 3)) (
    ch (Nat.beq id 4 && Nat.beq i 0) (J110_3 call fu (fun s x0 x1 => nthI st 0 s [x0, x1]) s (nthL v 0) (nthL v 1) (nthL v 2)) (
    ch (Nat.beq id 7 && Nat.beq i 0) (J110_1 call fu s (nthL v 0)) (
    ch (Nat.beq id 7 && Nat.beq i 6) (J110_0 call fu s (nthL v 0) (nthL v 1)) (
    .err)))))))))))
abbrev orc110b (call : Call) (fu : Nat) (st : List IH) (id : Nat) (ih : IH) (s : St) (v : List AV) : Out := ch (Nat.beq id 2) (L110_2b call fu (fun s x0 x1 => ih s [x0, x1]) s (nthL v 0) (nthL v 1)) (
    .err)
abbrev orc110p (call : Call) (fu : Nat) (st : List IH) (id k : Nat) (s : St) (v : List AV) : Out := ch (Nat.beq id 2) (L110_2 call fu k s (nthL v 0) (nthL v 1)) (
    .err)
abbrev orc110m (call : Call) (fu : Nat) (id : Nat) (v : List AV) (s : St) : Out := .err
def lv110 (id i : Nat) : Option (List Tmp) := bif Nat.beq id 3 && Nat.beq i 0 then some [7, 0, 6] else
    bif Nat.beq id 5 && Nat.beq i 5 then some [4, 3, 14, 16, 0, 6] else
    bif Nat.beq id 6 && Nat.beq i 0 then some [4, 3, 11, 0, 6] else
    bif Nat.beq id 6 && Nat.beq i 6 then some [21, 24, 4, 0, 6] else
    bif Nat.beq id 6 && Nat.beq i 9 then some [21, 24, 27, 4, 0, 6] else
    bif Nat.beq id 6 && Nat.beq i 11 then some [21, 24, 27, 29, 0, 6] else
    bif Nat.beq id 6 && Nat.beq i 12 then some [21, 24, 30, 0, 6] else
    bif Nat.beq id 6 && Nat.beq i 13 then some [21, 31, 0, 6] else
    bif Nat.beq id 4 && Nat.beq i 0 then some [18, 0, 6] else
    bif Nat.beq id 2 && Nat.beq i 0 then some [0, 6] else
    bif Nat.beq id 7 && Nat.beq i 0 then some [0] else
    bif Nat.beq id 7 && Nat.beq i 6 then some [35, 38] else
    none
/- 111 -/
def J111_0 (call : Call) (fu : Nat) (s : St) : Out :=
    .ret (.int .i64 (.negSucc 0)) s

def J111_2 (call : Call) (fu : Nat) (ih1 : St → AV → AV → AV → AV → Out) (s : St) (t8 t0 t1 t7 : AV) : Out :=
    binK .add t8 (.int .i64 (.ofNat 1)) fun v0 =>
    ih1 s v0 t0 t1 t7

def J111_3 (call : Call) (fu : Nat) (ih1 : St → AV → AV → AV → AV → Out) (s : St) (t8 t0 t1 t7 : AV) : Out :=
    indexSlK 2 t0 t8 fun v1 =>
    loadK ⟨2, true⟩ s v1 fun v2 =>
    callVK call t1 [v2] s fun v3 s4 =>
    condK v3 (.ret t8 s4)
    (J111_2 call fu ih1 s4 t8 t0 t1 t7)

def L111_1b (call : Call) (fu : Nat) (ih1 : St → AV → AV → AV → AV → Out) (s : St) (t8 t0 t1 t7 : AV) : Out :=
    binK .lss t8 t7 fun v5 =>
    condK v5 (J111_3 call fu ih1 s t8 t0 t1 t7)
    (J111_0 call fu s)

def L111_1 (call : Call) (fu : Nat) (n : Nat) : St → AV → AV → AV → AV → Out :=
  Nat.rec (motive := fun _ => St → AV → AV → AV → AV → Out) (fun _ _ _ _ _ => .err) (fun _ ih => L111_1b call fu ih) n

def F111 (call : Call) (fu : Nat) (args : List AV) (s : St) : Out := match args with
  | [t0, t1] =>
    lenSlK t0 fun v6 =>
    L111_1 call fu fu s (.int .i64 (.ofNat 0)) t0 t1 (goInt v6)
  | _ => .err

abbrev orc111c (call : Call) (fu : Nat) (st : List IH) (id i : Nat) (s : St) (v : List AV) : Out := ch (Nat.beq id 3 && Nat.beq i 0) (J111_3 call fu (fun s x0 x1 x2 x3 => nthI st 0 s [x0, x1, x2, x3]) s (nthL v 0) (nthL v 1) (nthL v 2) (nthL v 3)) (
    ch (Nat.beq id 6 && Nat.beq i 0) (J111_2 call fu (fun s x0 x1 x2 x3 => nthI st 0 s [x0, x1, x2, x3]) s (nthL v 0) (nthL v 1) (nthL v 2) (nthL v 3)) (
    ch (Nat.beq id 7 && Nat.beq i 0) (J111_0 call fu s) (
    .err)))
abbrev orc111b (call : Call) (fu : Nat) (st : List IH) (id : Nat) (ih : IH) (s : St) (v : List AV) : Out := ch (Nat.beq id 2) (L111_1b call fu (fun s x0 x1 x2 x3 => ih s [x0, x1, x2, x3]) s (nthL v 0) (nthL v 1) (nthL v 2) (nthL v 3)) (
    .err)
abbrev orc111p (call : Call) (fu : Nat) (st : List IH) (id k : Nat) (s : St) (v : List AV) : Out := ch (Nat.beq id 2) (L111_1 call fu k s (nthL v 0) (nthL v 1) (nthL v 2) (nthL v 3)) (
    .err)
abbrev orc111m (call : Call) (fu : Nat) (id : Nat) (v : List AV) (s : St) : Out := .err
def lv111 (id i : Nat) : Option (List Tmp) := bif Nat.beq id 3 && Nat.beq i 0 then some [8, 0, 1, 7] else
    bif Nat.beq id 6 && Nat.beq i 0 then some [8, 0, 1, 7] else
    bif Nat.beq id 2 && Nat.beq i 0 then some [8, 0, 1, 7] else
    bif Nat.beq id 7 && Nat.beq i 0 then some [] else
    none
/- 112 -/
def J112_0 (call : Call) (fu : Nat) (s : St) (t5 t10 : AV) : Out :=
    pickK t5 t10 (.bool false) fun v0 =>
    .ret v0 s

def F112 (call : Call) (fu : Nat) (args : List AV) (s : St) : Out := match args with
  | [t0] =>
    eqK .ptr s true t0 .nilv fun v1 =>
    guardK true v1 (J112_0 call fu s v1 (.tup [])) <|
    nilK t0 fun v2 =>
    fieldK 0 v2 fun v3 =>
    loadK ⟨1, false⟩ s v3 fun v4 =>
    eqK .ptr s true v4 .nilv fun v5 =>
    J112_0 call fu s v1 v5
  | _ => .err

abbrev orc112c (call : Call) (fu : Nat) (st : List IH) (id i : Nat) (s : St) (v : List AV) : Out := ch (Nat.beq id 1 && Nat.beq i 8) (J112_0 call fu s (nthL v 0) (nthL v 1)) (
    .err)
abbrev orc112b (call : Call) (fu : Nat) (st : List IH) (id : Nat) (ih : IH) (s : St) (v : List AV) : Out := .err
abbrev orc112p (call : Call) (fu : Nat) (st : List IH) (id k : Nat) (s : St) (v : List AV) : Out := .err
abbrev orc112m (call : Call) (fu : Nat) (id : Nat) (v : List AV) (s : St) : Out := .err
def lv112 (id i : Nat) : Option (List Tmp) := bif Nat.beq id 1 && Nat.beq i 8 then some [5, 10] else
    none
/- 113 -/
def J113_0 (call : Call) (fu : Nat) (s : St) (t8 t0 : AV) : Out :=
    outK (call 187 [t0, t8] s) fun v0 s1 =>
    binK .eql v0 (.int .i64 (.ofNat 0)) fun v2 =>
    .ret (.tup [v2, v0]) s1

def J113_1 (call : Call) (fu : Nat) (s : St) (t10 t8 t0 t31 : AV) : Out :=
    condK t31 (.ret (.tup [(.bool false), t10]) s)
    (J113_0 call fu s t8 t0)

def J113_2 (call : Call) (fu : Nat) (s : St) (t10 t8 t0 t28 t30 : AV) : Out :=
    pickK t28 (.bool true) t30 fun v3 =>
    J113_1 call fu s t10 t8 t0 v3

def J113_3 (call : Call) (fu : Nat) (s : St) (t0 t2 t1 : AV) : Out :=
    nilK t0 fun v4 =>
    fieldK 1 v4 fun v5 =>
    loadK ⟨1, false⟩ s v5 fun v6 =>
    outK (call 186 [t0, v6, t1, (.int .i64 (.ofNat 1)), t2] s) fun v7 s8 =>
    extractK v7 0 fun v9 =>
    extractK v7 1 fun v10 =>
    extractK v7 2 fun v11 =>
    binK .neq v11 (.int .i64 (.ofNat 0)) fun v12 =>
    guardK false v12 (J113_2 call fu s8 v11 v9 t0 v12 (.tup [])) <|
    notK v10 fun v13 =>
    J113_2 call fu s8 v11 v9 t0 v12 v13

def F113 (call : Call) (fu : Nat) (args : List AV) (s : St) : Out := match args with
  | [t0, t1, t2] =>
    outK (call 112 [t0] s) fun v14 s15 =>
    notK v14 fun v16 =>
    condK v16 (.ret (.tup [(.bool false), (.int .i64 (.ofNat 1))]) s15)
    (J113_3 call fu s15 t0 t2 t1)
  | _ => .err

abbrev orc113c (call : Call) (fu : Nat) (st : List IH) (id i : Nat) (s : St) (v : List AV) : Out := ch (Nat.beq id 3 && Nat.beq i 0) (J113_3 call fu s (nthL v 0) (nthL v 1) (nthL v 2)) (
    ch (Nat.beq id 4 && Nat.beq i 5) (J113_2 call fu s (nthL v 0) (nthL v 1) (nthL v 2) (nthL v 3) (nthL v 4)) (
    ch (Nat.beq id 5 && Nat.beq i 0) (J113_1 call fu s (nthL v 0) (nthL v 1) (nthL v 2) (nthL v 3)) (
    ch (Nat.beq id 6 && Nat.beq i 0) (J113_0 call fu s (nthL v 0) (nthL v 1)) (
    .err))))
abbrev orc113b (call : Call) (fu : Nat) (st : List IH) (id : Nat) (ih : IH) (s : St) (v : List AV) : Out := .err
abbrev orc113p (call : Call) (fu : Nat) (st : List IH) (id k : Nat) (s : St) (v : List AV) : Out := .err
abbrev orc113m (call : Call) (fu : Nat) (id : Nat) (v : List AV) (s : St) : Out := .err
def lv113 (id i : Nat) : Option (List Tmp) := bif Nat.beq id 3 && Nat.beq i 0 then some [0, 2, 1] else
    bif Nat.beq id 4 && Nat.beq i 5 then some [10, 8, 0, 28, 30] else
    bif Nat.beq id 5 && Nat.beq i 0 then some [10, 8, 0, 31] else
    bif Nat.beq id 6 && Nat.beq i 0 then some [8, 0] else
    none
/- 114 -/
def J114_0 (call : Call) (fu : Nat) (s : St) (t10 t4 t8 t3 t1 t2 : AV) : Out :=
    loadK ⟨1, false⟩ s t2 fun v0 =>
    loadK ⟨1, false⟩ s t1 fun v1 =>
    loadK ⟨1, false⟩ s t3 fun v2 =>
    outK (call 117 [v0, v1, v2] s) fun v3 s4 =>
    extractK v3 0 fun v5 =>
    extractK v3 1 fun v6 =>
    allocK s4 211 (.cells [(.int .i64 (.ofNat 0)), (.int .i64 (.ofNat 0)), (.int .i64 (.ofNat 0)), .nils, (.int .i64 (.ofNat 0))]) fun v7 s8 =>
    storeK ⟨5, true⟩ s8 v7 v5 fun s9 =>
    fieldK 2 t4 fun v10 =>
    loadK ⟨1, false⟩ s9 v10 fun v11 =>
    sliceSlK 5 none (some t8) none v11 fun v12 =>
    loadK ⟨5, true⟩ s9 v7 fun v13 =>
    fillK (.cells [(.int .i64 (.ofNat 0)), (.int .i64 (.ofNat 0)), (.int .i64 (.ofNat 0)), .nils, (.int .i64 (.ofNat 0))]) [(0, 5, v13)] fun v14 => newK s9 (.row 211 v14) fun i15 s16 =>
    fieldK 2 t4 fun v17 =>
    loadK ⟨1, false⟩ s16 v17 fun v18 =>
    sliceSlK 5 (some t10) none none v18 fun v19 =>
    fillK (.cells [.nils, .nils, .nils]) [(0, 1, v12), (1, 1, (.slice i15 0 1 1 5 false)), (2, 1, v19)] fun v20 => newK s16 (.row 204 v20) fun i21 s22 =>
    outK (call 118 [(.slice i21 0 3 3 1 false)] s22) fun v23 s24 =>
    .ret (.tup [v23, (.bool true), v6]) s24

def F114 (call : Call) (fu : Nat) (args : List AV) (s : St) : Out := match args with
  | [t0, t1, t2, t3] =>
    boxK s 206 3 t0 fun v25 s26 =>
    loadK ⟨3, true⟩ s26 v25 fun v27 =>
    loadK ⟨1, false⟩ s26 t1 fun v28 =>
    outK (call 115 [v27, v28] s26) fun v29 s30 =>
    extractK v29 0 fun v31 =>
    extractK v29 1 fun v32 =>
    condK v32 (binK .add v31 (.int .i64 (.ofNat 1)) fun v33 =>
    loadK ⟨1, false⟩ s30 t2 fun v34 =>
    fieldK 2 v25 fun v35 =>
    loadK ⟨1, false⟩ s30 v35 fun v36 =>
    indexSlK 5 v36 v31 fun v37 =>
    loadK ⟨5, true⟩ s30 v37 fun v38 =>
    outK (call 116 [v34, v38] s30) fun v39 s40 =>
    binK .neq v39 (.int .i64 (.ofNat 0)) fun v41 =>
    condK v41 (.ret (.tup [.nils, (.bool false), v39]) s40)
    (J114_0 call fu s40 v33 v25 v31 t3 t1 t2))
    (J114_0 call fu s30 v31 v25 v31 t3 t1 t2)
  | _ => .err

abbrev orc114c (call : Call) (fu : Nat) (st : List IH) (id i : Nat) (s : St) (v : List AV) : Out := ch (Nat.beq id 8 && Nat.beq i 0) (J114_0 call fu s (nthL v 0) (nthL v 1) (nthL v 2) (nthL v 3) (nthL v 4) (nthL v 5)) (
    .err)
abbrev orc114b (call : Call) (fu : Nat) (st : List IH) (id : Nat) (ih : IH) (s : St) (v : List AV) : Out := .err
abbrev orc114p (call : Call) (fu : Nat) (st : List IH) (id k : Nat) (s : St) (v : List AV) : Out := .err
abbrev orc114m (call : Call) (fu : Nat) (id : Nat) (v : List AV) (s : St) : Out := .err
def lv114 (id i : Nat) : Option (List Tmp) := bif Nat.beq id 8 && Nat.beq i 0 then some [10, 4, 8, 3, 1, 2] else
    none
/- 115 -/
def F115 (call : Call) (fu : Nat) (args : List AV) (s : St) : Out := match args with
  | [t0, t1] =>
    boxK s 206 3 t0 fun v0 s1 =>
    fieldK 2 v0 fun v2 =>
    loadK ⟨1, false⟩ s1 v2 fun v3 =>
    outK (call 188 [v3, t1, (.func 189 [] [])] s1) fun v4 s5 =>
    extractK v4 0 fun v6 =>
    extractK v4 1 fun v7 =>
    .ret (.tup [v6, v7]) s5
  | _ => .err

abbrev orc115c (call : Call) (fu : Nat) (st : List IH) (id i : Nat) (s : St) (v : List AV) : Out := .err
abbrev orc115b (call : Call) (fu : Nat) (st : List IH) (id : Nat) (ih : IH) (s : St) (v : List AV) : Out := .err
abbrev orc115p (call : Call) (fu : Nat) (st : List IH) (id k : Nat) (s : St) (v : List AV) : Out := .err
abbrev orc115m (call : Call) (fu : Nat) (id : Nat) (v : List AV) (s : St) : Out := .err
def lv115 (id i : Nat) : Option (List Tmp) := none
/- 117 -/
def J117_0 (call : Call) (fu : Nat) (s : St) (t6 t9 t8 t2 t0 : AV) : Out :=
    nilK t0 fun v0 =>
    fieldK 0 v0 fun v1 =>
    loadK ⟨1, false⟩ s v1 fun v2 =>
    sliceSlK 1 (some t8) none none t2 fun v3 =>
    outK (call 192 [v2, v3] s) fun v4 s5 =>
    extractK v4 0 fun v6 =>
    extractK v4 1 fun v7 =>
    fieldK 4 t9 fun v8 =>
    storeK ⟨1, false⟩ s5 v8 v6 fun s9 =>
    loadK ⟨5, true⟩ s9 t9 fun v10 =>
    storeK ⟨5, true⟩ s9 t6 v10 fun s11 =>
    loadK ⟨5, true⟩ s11 t6 fun v12 =>
    .ret (.tup [v12, v7]) s11

def F117 (call : Call) (fu : Nat) (args : List AV) (s : St) : Out := match args with
  | [t0, t1, t2] =>
    allocK s 211 (.cells [(.int .i64 (.ofNat 0)), (.int .i64 (.ofNat 0)), (.int .i64 (.ofNat 0)), .nils, (.int .i64 (.ofNat 0))]) fun v13 s14 =>
    lenSlK t2 fun v15 =>
    outK (call 191 [(goInt v15)] s14) fun v16 s17 =>
    lenSlK t2 fun v18 =>
    sliceSlK 1 none (some v16) none t2 fun v19 =>
    outK (call 185 [v19] s17) fun v20 s21 =>
    fillK (.cells [(.int .i64 (.ofNat 0)), (.int .i64 (.ofNat 0)), (.int .i64 (.ofNat 0)), .nils, (.int .i64 (.ofNat 0))]) [(0, 1, t1), (2, 1, (goInt v18)), (3, 1, v20)] fun v22 =>
    allocK s21 211 (.cells [(.int .i64 (.ofNat 0)), (.int .i64 (.ofNat 0)), (.int .i64 (.ofNat 0)), .nils, (.int .i64 (.ofNat 0))]) fun v23 s24 =>
    storeK ⟨5, true⟩ s24 v23 v22 fun s25 =>
    lenSlK t2 fun v26 =>
    binK .eql v16 (goInt v26) fun v27 =>
    condK v27 (loadK ⟨5, true⟩ s25 v23 fun v28 =>
    storeK ⟨5, true⟩ s25 v13 v28 fun s29 =>
    loadK ⟨5, true⟩ s29 v13 fun v30 =>
    .ret (.tup [v30, (.int .i64 (.ofNat 0))]) s29)
    (J117_0 call fu s25 v13 v23 v16 t2 t0)
  | _ => .err

abbrev orc117c (call : Call) (fu : Nat) (st : List IH) (id i : Nat) (s : St) (v : List AV) : Out := ch (Nat.beq id 5 && Nat.beq i 0) (J117_0 call fu s (nthL v 0) (nthL v 1) (nthL v 2) (nthL v 3) (nthL v 4)) (
    .err)
abbrev orc117b (call : Call) (fu : Nat) (st : List IH) (id : Nat) (ih : IH) (s : St) (v : List AV) : Out := .err
abbrev orc117p (call : Call) (fu : Nat) (st : List IH) (id k : Nat) (s : St) (v : List AV) : Out := .err
abbrev orc117m (call : Call) (fu : Nat) (id : Nat) (v : List AV) (s : St) : Out := .err
def lv117 (id i : Nat) : Option (List Tmp) := bif Nat.beq id 5 && Nat.beq i 0 then some [6, 9, 8, 2, 0] else
    none
/- 118 -/
def J118_0 (call : Call) (fu : Nat) (s : St) (t6 : AV) : Out :=
    .ret t6 s

def J118_2 (call : Call) (fu : Nat) (ih1 : St → AV → AV → AV → AV → Out) (s : St) (t27 t6 t25 t26 : AV) : Out :=
    binK .add t27 (.int .i64 (.ofNat 1)) fun v0 =>
    ih1 s v0 t6 t25 t26

def J118_3 (call : Call) (fu : Nat) (ih1 : St → AV → AV → AV → AV → Out) (s : St) (t27 t6 t25 t26 : AV) : Out :=
    indexSlK 1 t25 t27 fun v1 =>
    loadK ⟨1, false⟩ s v1 fun v2 =>
    appK 211 5 s t6 v2 fun v3 s4 =>
    J118_2 call fu ih1 s4 t27 v3 t25 t26

def L118_1b (call : Call) (fu : Nat) (ih1 : St → AV → AV → AV → AV → Out) (s : St) (t27 t6 t25 t26 : AV) : Out :=
    binK .lss t27 t26 fun v5 =>
    condK v5 (J118_3 call fu ih1 s t27 t6 t25 t26)
    (J118_0 call fu s t6)

def L118_1 (call : Call) (fu : Nat) (n : Nat) : St → AV → AV → AV → AV → Out :=
  Nat.rec (motive := fun _ => St → AV → AV → AV → AV → Out) (fun _ _ _ _ _ => .err) (fun _ ih => L118_1b call fu ih) n

def J118_4 (call : Call) (fu : Nat) (s : St) (t0 t3 : AV) : Out :=
    outK (call 193 [.nils, t3] s) fun v6 s7 =>
    lenSlK t0 fun v8 =>
    L118_1 call fu fu s7 (.int .i64 (.ofNat 0)) v6 t0 (goInt v8)

def J118_6 (call : Call) (fu : Nat) (ih5 : St → AV → AV → AV → AV → AV → Out) (s : St) (t11 t3 t9 t0 t10 : AV) : Out :=
    binK .add t11 (.int .i64 (.ofNat 1)) fun v9 =>
    ih5 s v9 t3 t9 t0 t10

def J118_7 (call : Call) (fu : Nat) (ih5 : St → AV → AV → AV → AV → AV → Out) (s : St) (t11 t3 t9 t0 t10 : AV) : Out :=
    indexSlK 1 t9 t11 fun v10 =>
    loadK ⟨1, false⟩ s v10 fun v11 =>
    lenSlK v11 fun v12 =>
    binK .add t3 (goInt v12) fun v13 =>
    binK .lss v13 (.int .i64 (.ofNat 0)) fun v14 =>
    condK v14 (.err)
    (J118_6 call fu ih5 s t11 v13 t9 t0 t10)

def L118_5b (call : Call) (fu : Nat) (ih5 : St → AV → AV → AV → AV → AV → Out) (s : St) (t11 t3 t9 t0 t10 : AV) : Out :=
    binK .lss t11 t10 fun v15 =>
    condK v15 (J118_7 call fu ih5 s t11 t3 t9 t0 t10)
    (J118_4 call fu s t0 t3)

def L118_5 (call : Call) (fu : Nat) (n : Nat) : St → AV → AV → AV → AV → AV → Out :=
  Nat.rec (motive := fun _ => St → AV → AV → AV → AV → AV → Out) (fun _ _ _ _ _ _ => .err) (fun _ ih => L118_5b call fu ih) n

def F118 (call : Call) (fu : Nat) (args : List AV) (s : St) : Out := match args with
  | [t0] =>
    lenSlK t0 fun v16 =>
    L118_5 call fu fu s (.int .i64 (.ofNat 0)) (.int .i64 (.ofNat 0)) t0 t0 (goInt v16)
  | _ => .err

abbrev orc118c (call : Call) (fu : Nat) (st : List IH) (id i : Nat) (s : St) (v : List AV) : Out := ch (Nat.beq id 4 && Nat.beq i 0) (J118_7 call fu (fun s x0 x1 x2 x3 x4 => nthI st 0 s [x0, x1, x2, x3, x4]) s (nthL v 0) (nthL v 1) (nthL v 2) (nthL v 3) (nthL v 4)) (
    ch (Nat.beq id 8 && Nat.beq i 0) (J118_6 call fu (fun s x0 x1 x2 x3 x4 => nthI st 0 s [x0, x1, x2, x3, x4]) s (nthL v 0) (nthL v 1) (nthL v 2) (nthL v 3) (nthL v 4)) (
    ch (Nat.beq id 9 && Nat.beq i 0) (J118_4 call fu s (nthL v 0) (nthL v 1)) (
    ch (Nat.beq id 12 && Nat.beq i 0) (J118_3 call fu (fun s x0 x1 x2 x3 => nthI st 0 s [x0, x1, x2, x3]) s (nthL v 0) (nthL v 1) (nthL v 2) (nthL v 3)) (
    ch (Nat.beq id 14 && Nat.beq i 0) (J118_2 call fu (fun s x0 x1 x2 x3 => nthI st 0 s [x0, x1, x2, x3]) s (nthL v 0) (nthL v 1) (nthL v 2) (nthL v 3)) (
    ch (Nat.beq id 15 && Nat.beq i 0) (J118_0 call fu s (nthL v 0)) (
    .err))))))
abbrev orc118b (call : Call) (fu : Nat) (st : List IH) (id : Nat) (ih : IH) (s : St) (v : List AV) : Out := ch (Nat.beq id 3) (L118_5b call fu (fun s x0 x1 x2 x3 x4 => ih s [x0, x1, x2, x3, x4]) s (nthL v 0) (nthL v 1) (nthL v 2) (nthL v 3) (nthL v 4)) (
    ch (Nat.beq id 11) (L118_1b call fu (fun s x0 x1 x2 x3 => ih s [x0, x1, x2, x3]) s (nthL v 0) (nthL v 1) (nthL v 2) (nthL v 3)) (
    .err))
abbrev orc118p (call : Call) (fu : Nat) (st : List IH) (id k : Nat) (s : St) (v : List AV) : Out := ch (Nat.beq id 3) (L118_5 call fu k s (nthL v 0) (nthL v 1) (nthL v 2) (nthL v 3) (nthL v 4)) (
    ch (Nat.beq id 11) (L118_1 call fu k s (nthL v 0) (nthL v 1) (nthL v 2) (nthL v 3)) (
    .err))
abbrev orc118m (call : Call) (fu : Nat) (id : Nat) (v : List AV) (s : St) : Out := .err
def lv118 (id i : Nat) : Option (List Tmp) := bif Nat.beq id 4 && Nat.beq i 0 then some [11, 3, 9, 0, 10] else
    bif Nat.beq id 8 && Nat.beq i 0 then some [11, 3, 9, 0, 10] else
    bif Nat.beq id 3 && Nat.beq i 0 then some [11, 3, 9, 0, 10] else
    bif Nat.beq id 9 && Nat.beq i 0 then some [0, 3] else
    bif Nat.beq id 12 && Nat.beq i 0 then some [27, 6, 25, 26] else
    bif Nat.beq id 14 && Nat.beq i 0 then some [27, 6, 25, 26] else
    bif Nat.beq id 11 && Nat.beq i 0 then some [27, 6, 25, 26] else
    bif Nat.beq id 15 && Nat.beq i 0 then some [6] else
    none
/- 121 -/
def J121_0 (call : Call) (fu : Nat) (s : St) (t0 : AV) : Out :=
    nilK t0 fun v0 =>
    fieldK 0 v0 fun v1 =>
    loadK ⟨1, false⟩ s v1 fun v2 =>
    outK (call 196 [v2, (.int .i64 (.ofNat 1))] s) fun v3 s4 =>
    extractK v3 0 fun v5 =>
    extractK v3 1 fun v6 =>
    .ret (.tup [v5, v6]) s4

def F121 (call : Call) (fu : Nat) (args : List AV) (s : St) : Out := match args with
  | [t0] =>
    outK (call 138 [t0] s) fun v7 s8 =>
    notK v7 fun v9 =>
    condK v9 (.ret (.tup [.nils, (.int .i64 (.ofNat 1))]) s8)
    (J121_0 call fu s8 t0)
  | _ => .err

abbrev orc121c (call : Call) (fu : Nat) (st : List IH) (id i : Nat) (s : St) (v : List AV) : Out := ch (Nat.beq id 3 && Nat.beq i 0) (J121_0 call fu s (nthL v 0)) (
    .err)
abbrev orc121b (call : Call) (fu : Nat) (st : List IH) (id : Nat) (ih : IH) (s : St) (v : List AV) : Out := .err
abbrev orc121p (call : Call) (fu : Nat) (st : List IH) (id k : Nat) (s : St) (v : List AV) : Out := .err
abbrev orc121m (call : Call) (fu : Nat) (id : Nat) (v : List AV) (s : St) : Out := .err
def lv121 (id i : Nat) : Option (List Tmp) := bif Nat.beq id 3 && Nat.beq i 0 then some [0] else
    none
/- 122 -/
def F122 (call : Call) (fu : Nat) (args : List AV) (s : St) : Out := match args with
  | [t0, t1, t2] =>
    sliceSlK 1 (some t1) none none t0 fun v0 =>
    outK (call 155 [v0, t2, (.bool false)] s) fun v1 s2 =>
    extractK v1 0 fun v3 =>
    extractK v1 1 fun v4 =>
    convK .i64 v3 fun v5 =>
    .ret v5 s2
  | _ => .err

abbrev orc122c (call : Call) (fu : Nat) (st : List IH) (id i : Nat) (s : St) (v : List AV) : Out := .err
abbrev orc122b (call : Call) (fu : Nat) (st : List IH) (id : Nat) (ih : IH) (s : St) (v : List AV) : Out := .err
abbrev orc122p (call : Call) (fu : Nat) (st : List IH) (id k : Nat) (s : St) (v : List AV) : Out := .err
abbrev orc122m (call : Call) (fu : Nat) (id : Nat) (v : List AV) (s : St) : Out := .err
def lv122 (id i : Nat) : Option (List Tmp) := none
/- 123 -/
def J123_0 (call : Call) (fu : Nat) (s : St) (t9 t4 t0 t6 : AV) : Out :=
    binK .sub t6 (.int .i64 (.ofNat 1)) fun v0 =>
    outK (call 130 [t4, (.int .i64 (.ofNat 12)), (.int .i64 (.ofNat 4)), v0] s) fun v1 s2 =>
    makeSliceK 5 1 (.int .u8 (.ofNat 0)) s2 (.int .i64 (.ofNat 512)) (.int .i64 (.ofNat 512)) fun v3 s4 =>
    outK (call 198 [t0, (.int .i64 (.ofNat 1)), t4, t9, v3] s4) fun v5 s6 =>
    .ret (.tup [t9, v5]) s6

def J123_1 (call : Call) (fu : Nat) (s : St) (t5 t9 t4 t0 t6 : AV) : Out :=
    binK .neq t5 (.int .i64 (.ofNat 0)) fun v7 =>
    condK v7 (.ret (.tup [(.int .i64 (.ofNat 0)), t5]) s)
    (J123_0 call fu s t9 t4 t0 t6)

def J123_2 (call : Call) (fu : Nat) (s : St) (t9 t4 t0 t6 t8 t7 t10 : AV) : Out :=
    binK .sub t10 (.int .i64 (.ofNat 1)) fun v8 =>
    outK (call 130 [t8, (.int .i64 (.ofNat 4)), (.int .i64 (.ofNat 4)), v8] s) fun v9 s10 =>
    binK .sub t10 (.int .i64 (.ofNat 1)) fun v11 =>
    binK .mul v11 (.int .i64 (.ofNat 4)) fun v12 =>
    binK .add (.int .i64 (.ofNat 8)) v12 fun v13 =>
    outK (call 130 [t8, v13, (.int .i64 (.ofNat 4)), (.int .i64 (.ofNat 0))] s10) fun v14 s15 =>
    nilK t0 fun v16 =>
    fieldK 0 v16 fun v17 =>
    loadK ⟨1, false⟩ s15 v17 fun v18 =>
    outK (call 106 [v18, t7, t8] s15) fun v19 s20 =>
    J123_1 call fu s20 v19 t9 t4 t0 t6

def J123_3 (call : Call) (fu : Nat) (s : St) (t9 t4 t0 t6 t8 t7 t10 t62 : AV) : Out :=
    condK t62 (.ret (.tup [(.int .i64 (.ofNat 0)), (.int .i64 (.ofNat 9))]) s)
    (J123_2 call fu s t9 t4 t0 t6 t8 t7 t10)

def J123_4 (call : Call) (fu : Nat) (s : St) (t9 t4 t0 t6 t8 t7 t10 t54 t61 : AV) : Out :=
    pickK t54 (.bool true) t61 fun v21 =>
    J123_3 call fu s t9 t4 t0 t6 t8 t7 t10 v21

def J123_5 (call : Call) (fu : Nat) (s : St) (t4 t0 t6 t8 t7 t5 : AV) : Out :=
    outK (call 122 [t8, (.int .i64 (.ofNat 4)), (.int .i64 (.ofNat 4))] s) fun v22 s23 =>
    binK .gtr v22 (.int .i64 (.ofNat 0)) fun v24 =>
    condK v24 (binK .sub v22 (.int .i64 (.ofNat 1)) fun v25 =>
    binK .mul v25 (.int .i64 (.ofNat 4)) fun v26 =>
    binK .add (.int .i64 (.ofNat 8)) v26 fun v27 =>
    outK (call 122 [t8, v27, (.int .i64 (.ofNat 4))] s23) fun v28 s29 =>
    binK .leq v28 (.int .i64 (.ofNat 1)) fun v30 =>
    guardK false v30 (J123_4 call fu s29 v28 t4 t0 t6 t8 t7 v22 v30 (.tup [])) <|
    nilK t0 fun v31 =>
    fieldK 0 v31 fun v32 =>
    loadK ⟨1, false⟩ s29 v32 fun v33 =>
    outK (call 104 [v33] s29) fun v34 s35 =>
    binK .gtr v28 v34 fun v36 =>
    J123_4 call fu s35 v28 t4 t0 t6 t8 t7 v22 v30 v36)
    (outK (call 122 [t8, (.int .i64 (.ofNat 0)), (.int .i64 (.ofNat 4))] s23) fun v37 s38 =>
    outK (call 130 [t4, (.int .i64 (.ofNat 8)), (.int .i64 (.ofNat 4)), v37] s38) fun v39 s40 =>
    J123_1 call fu s40 t5 t7 t4 t0 t6)

def J123_6 (call : Call) (fu : Nat) (s : St) (t4 t0 t6 t7 : AV) : Out :=
    outK (call 197 [t0, t7] s) fun v41 s42 =>
    extractK v41 0 fun v43 =>
    extractK v41 1 fun v44 =>
    binK .neq v44 (.int .i64 (.ofNat 0)) fun v45 =>
    condK v45 (.ret (.tup [(.int .i64 (.ofNat 0)), v44]) s42)
    (J123_5 call fu s42 t4 t0 t6 v43 t7 v44)

def J123_7 (call : Call) (fu : Nat) (s : St) (t0 t4 : AV) : Out :=
    outK (call 122 [t4, (.int .i64 (.ofNat 12)), (.int .i64 (.ofNat 4))] s) fun v46 s47 =>
    outK (call 122 [t4, (.int .i64 (.ofNat 8)), (.int .i64 (.ofNat 4))] s47) fun v48 s49 =>
    binK .eql v46 (.int .i64 (.ofNat 0)) fun v50 =>
    condK v50 (nilK t0 fun v51 =>
    fieldK 0 v51 fun v52 =>
    loadK ⟨1, false⟩ s49 v52 fun v53 =>
    outK (call 105 [v53] s49) fun v54 s55 =>
    extractK v54 0 fun v56 =>
    extractK v54 1 fun v57 =>
    .ret (.tup [v56, v57]) s55)
    (J123_6 call fu s49 t4 t0 v46 v48)

def F123 (call : Call) (fu : Nat) (args : List AV) (s : St) : Out := match args with
  | [t0] =>
    outK (call 121 [t0] s) fun v58 s59 =>
    extractK v58 0 fun v60 =>
    extractK v58 1 fun v61 =>
    binK .neq v61 (.int .i64 (.ofNat 0)) fun v62 =>
    condK v62 (.ret (.tup [(.int .i64 (.ofNat 0)), v61]) s59)
    (J123_7 call fu s59 t0 v60)
  | _ => .err

abbrev orc123c (call : Call) (fu : Nat) (st : List IH) (id i : Nat) (s : St) (v : List AV) : Out := ch (Nat.beq id 4 && Nat.beq i 0) (J123_7 call fu s (nthL v 0) (nthL v 1)) (
    ch (Nat.beq id 7 && Nat.beq i 0) (J123_6 call fu s (nthL v 0) (nthL v 1) (nthL v 2) (nthL v 3)) (
    ch (Nat.beq id 10 && Nat.beq i 0) (J123_5 call fu s (nthL v 0) (nthL v 1) (nthL v 2) (nthL v 3) (nthL v 4) (nthL v 5)) (
    ch (Nat.beq id 14 && Nat.beq i 10) (J123_4 call fu s (nthL v 0) (nthL v 1) (nthL v 2) (nthL v 3) (nthL v 4) (nthL v 5) (nthL v 6) (nthL v 7) (nthL v 8)) (
    ch (Nat.beq id 15 && Nat.beq i 0) (J123_3 call fu s (nthL v 0) (nthL v 1) (nthL v 2) (nthL v 3) (nthL v 4) (nthL v 5) (nthL v 6) (nthL v 7)) (
    ch (Nat.beq id 16 && Nat.beq i 0) (J123_2 call fu s (nthL v 0) (nthL v 1) (nthL v 2) (nthL v 3) (nthL v 4) (nthL v 5) (nthL v 6)) (
    ch (Nat.beq id 20 && Nat.beq i 0) (J123_1 call fu s (nthL v 0) (nthL v 1) (nthL v 2) (nthL v 3) (nthL v 4)) (
    ch (Nat.beq id 22 && Nat.beq i 0) (J123_0 call fu s (nthL v 0) (nthL v 1) (nthL v 2) (nthL v 3)) (
    .err))))))))
abbrev orc123b (call : Call) (fu : Nat) (st : List IH) (id : Nat) (ih : IH) (s : St) (v : List AV) : Out := .err
abbrev orc123p (call : Call) (fu : Nat) (st : List IH) (id k : Nat) (s : St) (v : List AV) : Out := .err
abbrev orc123m (call : Call) (fu : Nat) (id : Nat) (v : List AV) (s : St) : Out := .err
def lv123 (id i : Nat) : Option (List Tmp) := bif Nat.beq id 4 && Nat.beq i 0 then some [0, 4] else
    bif Nat.beq id 7 && Nat.beq i 0 then some [4, 0, 6, 7] else
    bif Nat.beq id 10 && Nat.beq i 0 then some [4, 0, 6, 8, 7, 5] else
    bif Nat.beq id 14 && Nat.beq i 10 then some [9, 4, 0, 6, 8, 7, 10, 54, 61] else
    bif Nat.beq id 15 && Nat.beq i 0 then some [9, 4, 0, 6, 8, 7, 10, 62] else
    bif Nat.beq id 16 && Nat.beq i 0 then some [9, 4, 0, 6, 8, 7, 10] else
    bif Nat.beq id 20 && Nat.beq i 0 then some [5, 9, 4, 0, 6] else
    bif Nat.beq id 22 && Nat.beq i 0 then some [9, 4, 0, 6] else
    none
/- 124 -/
def J124_0 (call : Call) (fu : Nat) (s : St) (t7 t1 t0 : AV) : Out :=
    nilK t0 fun v0 =>
    fieldK 0 v0 fun v1 =>
    loadK ⟨1, false⟩ s v1 fun v2 =>
    outK (call 66 [v2] s) fun v3 s4 =>
    outK (call 106 [v3, t1, t7] s4) fun v5 s6 =>
    .ret v5 s6

def F124 (call : Call) (fu : Nat) (args : List AV) (s : St) : Out := match args with
  | [t0, t1, t2] =>
    boxK s 206 3 t2 fun v7 s8 =>
    loadK ⟨3, true⟩ s8 v7 fun v9 =>
    outK (call 199 [v9] s8) fun v10 s11 =>
    eqK .slice s11 false v10 .nils fun v12 =>
    condK v12 (.ret (.int .i64 (.ofNat 9)) s11)
    (J124_0 call fu s11 v10 t1 t0)
  | _ => .err

abbrev orc124c (call : Call) (fu : Nat) (st : List IH) (id i : Nat) (s : St) (v : List AV) : Out := ch (Nat.beq id 4 && Nat.beq i 0) (J124_0 call fu s (nthL v 0) (nthL v 1) (nthL v 2)) (
    .err)
abbrev orc124b (call : Call) (fu : Nat) (st : List IH) (id : Nat) (ih : IH) (s : St) (v : List AV) : Out := .err
abbrev orc124p (call : Call) (fu : Nat) (st : List IH) (id k : Nat) (s : St) (v : List AV) : Out := .err
abbrev orc124m (call : Call) (fu : Nat) (id : Nat) (v : List AV) (s : St) : Out := .err
def lv124 (id i : Nat) : Option (List Tmp) := bif Nat.beq id 4 && Nat.beq i 0 then some [7, 1, 0] else
    none
/- 130 -/
def F130 (call : Call) (fu : Nat) (args : List AV) (s : St) : Out := match args with
  | [t0, t1, t2, t3] =>
    sliceSlK 1 (some t1) none none t0 fun v0 =>
    convK .u64 t3 fun v1 =>
    outK (call 200 [.nils, v1, t2, (.bool false)] s) fun v2 s3 =>
    copyK 1 s3 v0 v2 fun v4 s5 =>
    .ret (.tup []) s5
  | _ => .err

abbrev orc130c (call : Call) (fu : Nat) (st : List IH) (id i : Nat) (s : St) (v : List AV) : Out := .err
abbrev orc130b (call : Call) (fu : Nat) (st : List IH) (id : Nat) (ih : IH) (s : St) (v : List AV) : Out := .err
abbrev orc130p (call : Call) (fu : Nat) (st : List IH) (id k : Nat) (s : St) (v : List AV) : Out := .err
abbrev orc130m (call : Call) (fu : Nat) (id : Nat) (v : List AV) (s : St) : Out := .err
def lv130 (id i : Nat) : Option (List Tmp) := none
/- 131 -/
def J131_0 (call : Call) (fu : Nat) (s : St) (t4 t6 : AV) : Out :=
    outK (call 203 [t6] s) fun v0 s1 =>
    extractK v0 0 fun v2 =>
    extractK v0 1 fun v3 =>
    storeK ⟨3, true⟩ s1 t4 v2 fun s4 =>
    loadK ⟨3, true⟩ s4 t4 fun v5 =>
    .ret (.tup [v5, v3]) s4

def J131_1 (call : Call) (fu : Nat) (s : St) (t4 t1 t0 : AV) : Out :=
    nilK t0 fun v6 =>
    fieldK 0 v6 fun v7 =>
    loadK ⟨1, false⟩ s v7 fun v8 =>
    outK (call 66 [v8] s) fun v9 s10 =>
    outK (call 196 [v9, t1] s10) fun v11 s12 =>
    extractK v11 0 fun v13 =>
    extractK v11 1 fun v14 =>
    binK .neq v14 (.int .i64 (.ofNat 0)) fun v15 =>
    condK v15 (fillK (.cells [(.bool false), (.int .i64 (.ofNat 0)), .nils]) [] fun v16 =>
    storeK ⟨3, true⟩ s12 t4 v16 fun s17 =>
    loadK ⟨3, true⟩ s17 t4 fun v18 =>
    .ret (.tup [v18, v14]) s17)
    (J131_0 call fu s12 t4 v13)

def J131_2 (call : Call) (fu : Nat) (s : St) (t4 t1 t0 t19 : AV) : Out :=
    condK t19 (fillK (.cells [(.bool false), (.int .i64 (.ofNat 0)), .nils]) [] fun v19 =>
    storeK ⟨3, true⟩ s t4 v19 fun s20 =>
    loadK ⟨3, true⟩ s20 t4 fun v21 =>
    .ret (.tup [v21, (.int .i64 (.ofNat 9))]) s20)
    (J131_1 call fu s t4 t1 t0)

def J131_3 (call : Call) (fu : Nat) (s : St) (t4 t1 t0 t10 t18 : AV) : Out :=
    pickK t10 (.bool true) t18 fun v22 =>
    J131_2 call fu s t4 t1 t0 v22

def F131 (call : Call) (fu : Nat) (args : List AV) (s : St) : Out := match args with
  | [t0, t1] =>
    allocK s 206 (.cells [(.bool false), (.int .i64 (.ofNat 0)), .nils]) fun v23 s24 =>
    binK .leq t1 (.int .i64 (.ofNat 1)) fun v25 =>
    guardK false v25 (J131_3 call fu s24 v23 t1 t0 v25 (.tup [])) <|
    nilK t0 fun v26 =>
    fieldK 0 v26 fun v27 =>
    loadK ⟨1, false⟩ s24 v27 fun v28 =>
    outK (call 66 [v28] s24) fun v29 s30 =>
    outK (call 104 [v29] s30) fun v31 s32 =>
    binK .gtr t1 v31 fun v33 =>
    J131_3 call fu s32 v23 t1 t0 v25 v33
  | _ => .err

abbrev orc131c (call : Call) (fu : Nat) (st : List IH) (id i : Nat) (s : St) (v : List AV) : Out := ch (Nat.beq id 1 && Nat.beq i 11) (J131_3 call fu s (nthL v 0) (nthL v 1) (nthL v 2) (nthL v 3) (nthL v 4)) (
    ch (Nat.beq id 2 && Nat.beq i 0) (J131_2 call fu s (nthL v 0) (nthL v 1) (nthL v 2) (nthL v 3)) (
    ch (Nat.beq id 3 && Nat.beq i 0) (J131_1 call fu s (nthL v 0) (nthL v 1) (nthL v 2)) (
    ch (Nat.beq id 6 && Nat.beq i 0) (J131_0 call fu s (nthL v 0) (nthL v 1)) (
    .err))))
abbrev orc131b (call : Call) (fu : Nat) (st : List IH) (id : Nat) (ih : IH) (s : St) (v : List AV) : Out := .err
abbrev orc131p (call : Call) (fu : Nat) (st : List IH) (id k : Nat) (s : St) (v : List AV) : Out := .err
abbrev orc131m (call : Call) (fu : Nat) (id : Nat) (v : List AV) (s : St) : Out := .err
def lv131 (id i : Nat) : Option (List Tmp) := bif Nat.beq id 1 && Nat.beq i 11 then some [4, 1, 0, 10, 18] else
    bif Nat.beq id 2 && Nat.beq i 0 then some [4, 1, 0, 19] else
    bif Nat.beq id 3 && Nat.beq i 0 then some [4, 1, 0] else
    bif Nat.beq id 6 && Nat.beq i 0 then some [4, 6] else
    none
/- 133 -/
def J133_0 (call : Call) (fu : Nat) (s : St) (t4 : AV) : Out :=
    loadK ⟨1, false⟩ s t4 fun v0 =>
    .ret (.tup [v0, (.int .i64 (.ofNat 0))]) s

def F133 (call : Call) (fu : Nat) (args : List AV) (s : St) : Out := match args with
  | [t0] =>
    boxK s 47 1 t0 fun v1 s2 =>
    allocK s2 86 (.cells [.nils]) fun v3 s4 =>
    loadK ⟨1, false⟩ s4 v1 fun v5 =>
    loadK ⟨1, false⟩ s4 v1 fun v6 =>
    nilK v6 fun v7 =>
    fieldK 1 v7 fun v8 =>
    loadK ⟨1, false⟩ s4 v8 fun v9 =>
    outK (call 168 [v5, v9, (.int .i64 (.ofNat 1)), (.func 204 [] [v3, v1])] s4) fun v10 s11 =>
    binK .neq v10 (.int .i64 (.ofNat 0)) fun v12 =>
    condK v12 (.ret (.tup [.nils, v10]) s11)
    (J133_0 call fu s11 v3)
  | _ => .err

abbrev orc133c (call : Call) (fu : Nat) (st : List IH) (id i : Nat) (s : St) (v : List AV) : Out := ch (Nat.beq id 5 && Nat.beq i 0) (J133_0 call fu s (nthL v 0)) (
    .err)
abbrev orc133b (call : Call) (fu : Nat) (st : List IH) (id : Nat) (ih : IH) (s : St) (v : List AV) : Out := .err
abbrev orc133p (call : Call) (fu : Nat) (st : List IH) (id k : Nat) (s : St) (v : List AV) : Out := .err
abbrev orc133m (call : Call) (fu : Nat) (id : Nat) (v : List AV) (s : St) : Out := .err
def lv133 (id i : Nat) : Option (List Tmp) := bif Nat.beq id 5 && Nat.beq i 0 then some [4] else
    none
/- 135 -/
def J135_0 (call : Call) (fu : Nat) (s : St) (t9 t7 t0 : AV) : Out :=
    fieldK 2 t7 fun v0 =>
    loadK ⟨1, false⟩ s v0 fun v1 =>
    indexSlK 5 v1 t9 fun v2 =>
    loadK ⟨5, true⟩ s v2 fun v3 =>
    outK (call 207 [t0, v3] s) fun v4 s5 =>
    extractK v4 0 fun v6 =>
    extractK v4 1 fun v7 =>
    binK .eql v7 (.int .i64 (.ofNat 0)) fun v8 =>
    .ret (.tup [v6, v8, v7]) s5

def J135_1 (call : Call) (fu : Nat) (s : St) (t7 t0 t1 : AV) : Out :=
    loadK ⟨3, true⟩ s t7 fun v9 =>
    outK (call 115 [v9, t1] s) fun v10 s11 =>
    extractK v10 0 fun v12 =>
    extractK v10 1 fun v13 =>
    notK v13 fun v14 =>
    condK v14 (.ret (.tup [.nils, (.bool false), (.int .i64 (.ofNat 0))]) s11)
    (J135_0 call fu s11 v12 t7 t0)

def J135_2 (call : Call) (fu : Nat) (s : St) (t0 t1 : AV) : Out :=
    outK (call 206 [t0, t1] s) fun v15 s16 =>
    extractK v15 0 fun v17 =>
    extractK v15 1 fun v18 =>
    allocK s16 206 (.cells [(.bool false), (.int .i64 (.ofNat 0)), .nils]) fun v19 s20 =>
    storeK ⟨3, true⟩ s20 v19 v17 fun s21 =>
    binK .neq v18 (.int .i64 (.ofNat 0)) fun v22 =>
    condK v22 (.ret (.tup [.nils, (.bool false), v18]) s21)
    (J135_1 call fu s21 v19 t0 t1)

def F135 (call : Call) (fu : Nat) (args : List AV) (s : St) : Out := match args with
  | [t0, t1] =>
    outK (call 112 [t0] s) fun v23 s24 =>
    notK v23 fun v25 =>
    condK v25 (.ret (.tup [.nils, (.bool false), (.int .i64 (.ofNat 1))]) s24)
    (J135_2 call fu s24 t0 t1)
  | _ => .err

abbrev orc135c (call : Call) (fu : Nat) (st : List IH) (id i : Nat) (s : St) (v : List AV) : Out := ch (Nat.beq id 3 && Nat.beq i 0) (J135_2 call fu s (nthL v 0) (nthL v 1)) (
    ch (Nat.beq id 6 && Nat.beq i 0) (J135_1 call fu s (nthL v 0) (nthL v 1) (nthL v 2)) (
    ch (Nat.beq id 9 && Nat.beq i 0) (J135_0 call fu s (nthL v 0) (nthL v 1) (nthL v 2)) (
    .err)))
abbrev orc135b (call : Call) (fu : Nat) (st : List IH) (id : Nat) (ih : IH) (s : St) (v : List AV) : Out := .err
abbrev orc135p (call : Call) (fu : Nat) (st : List IH) (id k : Nat) (s : St) (v : List AV) : Out := .err
abbrev orc135m (call : Call) (fu : Nat) (id : Nat) (v : List AV) (s : St) : Out := .err
def lv135 (id i : Nat) : Option (List Tmp) := bif Nat.beq id 3 && Nat.beq i 0 then some [0, 1] else
    bif Nat.beq id 6 && Nat.beq i 0 then some [7, 0, 1] else
    bif Nat.beq id 9 && Nat.beq i 0 then some [9, 7, 0] else
    none
/- 138 -/
def J138_0 (call : Call) (fu : Nat) (s : St) (t5 t10 : AV) : Out :=
    pickK t5 t10 (.bool false) fun v0 =>
    .ret v0 s

def F138 (call : Call) (fu : Nat) (args : List AV) (s : St) : Out := match args with
  | [t0] =>
    eqK .ptr s true t0 .nilv fun v1 =>
    guardK true v1 (J138_0 call fu s v1 (.tup [])) <|
    nilK t0 fun v2 =>
    fieldK 0 v2 fun v3 =>
    loadK ⟨1, false⟩ s v3 fun v4 =>
    eqK .ptr s true v4 .nilv fun v5 =>
    J138_0 call fu s v1 v5
  | _ => .err

abbrev orc138c (call : Call) (fu : Nat) (st : List IH) (id i : Nat) (s : St) (v : List AV) : Out := ch (Nat.beq id 1 && Nat.beq i 8) (J138_0 call fu s (nthL v 0) (nthL v 1)) (
    .err)
abbrev orc138b (call : Call) (fu : Nat) (st : List IH) (id : Nat) (ih : IH) (s : St) (v : List AV) : Out := .err
abbrev orc138p (call : Call) (fu : Nat) (st : List IH) (id k : Nat) (s : St) (v : List AV) : Out := .err
abbrev orc138m (call : Call) (fu : Nat) (id : Nat) (v : List AV) (s : St) : Out := .err
def lv138 (id i : Nat) : Option (List Tmp) := bif Nat.beq id 1 && Nat.beq i 8 then some [5, 10] else
    none
/- 139 -/
def J139_0 (call : Call) (fu : Nat) (s : St) (t5 t10 : AV) : Out :=
    pickK t5 t10 (.bool false) fun v0 =>
    .ret v0 s

def F139 (call : Call) (fu : Nat) (args : List AV) (s : St) : Out := match args with
  | [t0] =>
    eqK .ptr s true t0 .nilv fun v1 =>
    guardK true v1 (J139_0 call fu s v1 (.tup [])) <|
    nilK t0 fun v2 =>
    fieldK 0 v2 fun v3 =>
    loadK ⟨1, false⟩ s v3 fun v4 =>
    binK .gtr v4 (.int .i64 (.ofNat 0)) fun v5 =>
    J139_0 call fu s v1 v5
  | _ => .err

abbrev orc139c (call : Call) (fu : Nat) (st : List IH) (id i : Nat) (s : St) (v : List AV) : Out := ch (Nat.beq id 1 && Nat.beq i 8) (J139_0 call fu s (nthL v 0) (nthL v 1)) (
    .err)
abbrev orc139b (call : Call) (fu : Nat) (st : List IH) (id : Nat) (ih : IH) (s : St) (v : List AV) : Out := .err
abbrev orc139p (call : Call) (fu : Nat) (st : List IH) (id k : Nat) (s : St) (v : List AV) : Out := .err
abbrev orc139m (call : Call) (fu : Nat) (id : Nat) (v : List AV) (s : St) : Out := .err
def lv139 (id i : Nat) : Option (List Tmp) := bif Nat.beq id 1 && Nat.beq i 8 then some [5, 10] else
    none
/- 140 -/
def J140_0 (call : Call) (fu : Nat) (s : St) (t12 : AV) : Out :=
    .ret (.tup [t12, (.int .i64 (.ofNat 0))]) s

def J140_2 (call : Call) (fu : Nat) (ih1 : St → AV → AV → AV → AV → Out) (s : St) (t62 t12 t60 t61 : AV) : Out :=
    binK .add t62 (.int .i64 (.ofNat 1)) fun v0 =>
    ih1 s v0 t12 t60 t61

def J140_3 (call : Call) (fu : Nat) (ih1 : St → AV → AV → AV → AV → Out) (s : St) (t62 t12 t60 t61 : AV) : Out :=
    indexSlK 128 t60 t62 fun v1 =>
    loadK ⟨128, true⟩ s v1 fun v2 =>
    allocK s 323 (.bytes 128 0) fun v3 s4 =>
    storeK ⟨128, true⟩ s4 v3 v2 fun s5 =>
    sliceArrK 128 1 none none none v3 fun v6 =>
    appK 5 1 s5 t12 v6 fun v7 s8 =>
    J140_2 call fu ih1 s8 t62 v7 t60 t61

def L140_1b (call : Call) (fu : Nat) (ih1 : St → AV → AV → AV → AV → Out) (s : St) (t62 t12 t60 t61 : AV) : Out :=
    binK .lss t62 t61 fun v9 =>
    condK v9 (J140_3 call fu ih1 s t62 t12 t60 t61)
    (J140_0 call fu s t12)

def L140_1 (call : Call) (fu : Nat) (n : Nat) : St → AV → AV → AV → AV → Out :=
  Nat.rec (motive := fun _ => St → AV → AV → AV → AV → Out) (fun _ _ _ _ _ => .err) (fun _ ih => L140_1b call fu ih) n

def J140_4 (call : Call) (fu : Nat) (s : St) (t3 t2 t10 : AV) : Out :=
    nilK t10 fun v10 =>
    fieldK 0 v10 fun v11 =>
    loadK ⟨1, false⟩ s v11 fun v12 =>
    binK .add t2 t3 fun v13 =>
    sliceSlK 128 (some t2) (some v13) none v12 fun v14 =>
    lenSlK v14 fun v15 =>
    L140_1 call fu fu s (.int .i64 (.ofNat 0)) .nils v14 (goInt v15)

def J140_5 (call : Call) (fu : Nat) (s : St) (t3 t2 t10 t25 : AV) : Out :=
    condK t25 (.ret (.tup [.nils, (.int .i64 (.ofNat 11))]) s)
    (J140_4 call fu s t3 t2 t10)

def J140_6 (call : Call) (fu : Nat) (s : St) (t3 t2 t10 t41 t50 : AV) : Out :=
    pickK t41 (.bool true) t50 fun v16 =>
    J140_5 call fu s t3 t2 t10 v16

def J140_7 (call : Call) (fu : Nat) (s : St) (t3 t2 t10 t32 t39 : AV) : Out :=
    pickK t32 (.bool true) t39 fun v17 =>
    guardK false v17 (J140_6 call fu s t3 t2 t10 v17 (.tup [])) <|
    nilK t10 fun v18 =>
    fieldK 0 v18 fun v19 =>
    loadK ⟨1, false⟩ s v19 fun v20 =>
    lenSlK v20 fun v21 =>
    binK .sub (goInt v21) t2 fun v22 =>
    binK .gtr t3 v22 fun v23 =>
    J140_6 call fu s t3 t2 t10 v17 v23

def J140_8 (call : Call) (fu : Nat) (s : St) (t3 t2 t10 t28 t30 : AV) : Out :=
    pickK t28 (.bool true) t30 fun v24 =>
    guardK false v24 (J140_7 call fu s t3 t2 t10 v24 (.tup [])) <|
    nilK t10 fun v25 =>
    fieldK 0 v25 fun v26 =>
    loadK ⟨1, false⟩ s v26 fun v27 =>
    lenSlK v27 fun v28 =>
    binK .gtr t2 (goInt v28) fun v29 =>
    J140_7 call fu s t3 t2 t10 v24 v29

def F140 (call : Call) (fu : Nat) (args : List AV) (s : St) : Out := match args with
  | [t0, t1, t2, t3] =>
    outK (call 217 [t0, t1] s) fun v30 s31 =>
    extractK v30 0 fun v32 =>
    extractK v30 1 fun v33 =>
    binK .neq v33 (.int .i64 (.ofNat 0)) fun v34 =>
    condK v34 (.ret (.tup [.nils, v33]) s31)
    (binK .lss t2 (.int .i64 (.ofNat 0)) fun v35 =>
    guardK false v35 (J140_8 call fu s31 t3 t2 v32 v35 (.tup [])) <|
    binK .lss t3 (.int .i64 (.ofNat 0)) fun v36 =>
    J140_8 call fu s31 t3 t2 v32 v35 v36)
  | _ => .err

abbrev orc140c (call : Call) (fu : Nat) (st : List IH) (id i : Nat) (s : St) (v : List AV) : Out := ch (Nat.beq id 4 && Nat.beq i 5) (J140_8 call fu s (nthL v 0) (nthL v 1) (nthL v 2) (nthL v 3) (nthL v 4)) (
    ch (Nat.beq id 4 && Nat.beq i 14) (J140_7 call fu s (nthL v 0) (nthL v 1) (nthL v 2) (nthL v 3) (nthL v 4)) (
    ch (Nat.beq id 4 && Nat.beq i 25) (J140_6 call fu s (nthL v 0) (nthL v 1) (nthL v 2) (nthL v 3) (nthL v 4)) (
    ch (Nat.beq id 5 && Nat.beq i 0) (J140_5 call fu s (nthL v 0) (nthL v 1) (nthL v 2) (nthL v 3)) (
    ch (Nat.beq id 6 && Nat.beq i 0) (J140_4 call fu s (nthL v 0) (nthL v 1) (nthL v 2)) (
    ch (Nat.beq id 9 && Nat.beq i 0) (J140_3 call fu (fun s x0 x1 x2 x3 => nthI st 0 s [x0, x1, x2, x3]) s (nthL v 0) (nthL v 1) (nthL v 2) (nthL v 3)) (
    ch (Nat.beq id 11 && Nat.beq i 0) (J140_2 call fu (fun s x0 x1 x2 x3 => nthI st 0 s [x0, x1, x2, x3]) s (nthL v 0) (nthL v 1) (nthL v 2) (nthL v 3)) (
    ch (Nat.beq id 12 && Nat.beq i 0) (J140_0 call fu s (nthL v 0)) (
    .err))))))))
abbrev orc140b (call : Call) (fu : Nat) (st : List IH) (id : Nat) (ih : IH) (s : St) (v : List AV) : Out := ch (Nat.beq id 8) (L140_1b call fu (fun s x0 x1 x2 x3 => ih s [x0, x1, x2, x3]) s (nthL v 0) (nthL v 1) (nthL v 2) (nthL v 3)) (
    .err)
abbrev orc140p (call : Call) (fu : Nat) (st : List IH) (id k : Nat) (s : St) (v : List AV) : Out := ch (Nat.beq id 8) (L140_1 call fu k s (nthL v 0) (nthL v 1) (nthL v 2) (nthL v 3)) (
    .err)
abbrev orc140m (call : Call) (fu : Nat) (id : Nat) (v : List AV) (s : St) : Out := .err
def lv140 (id i : Nat) : Option (List Tmp) := bif Nat.beq id 4 && Nat.beq i 5 then some [3, 2, 10, 28, 30] else
    bif Nat.beq id 4 && Nat.beq i 14 then some [3, 2, 10, 32, 39] else
    bif Nat.beq id 4 && Nat.beq i 25 then some [3, 2, 10, 41, 50] else
    bif Nat.beq id 5 && Nat.beq i 0 then some [3, 2, 10, 25] else
    bif Nat.beq id 6 && Nat.beq i 0 then some [3, 2, 10] else
    bif Nat.beq id 9 && Nat.beq i 0 then some [62, 12, 60, 61] else
    bif Nat.beq id 11 && Nat.beq i 0 then some [62, 12, 60, 61] else
    bif Nat.beq id 8 && Nat.beq i 0 then some [62, 12, 60, 61] else
    bif Nat.beq id 12 && Nat.beq i 0 then some [12] else
    none
/- 141 -/
def J141_0 (call : Call) (fu : Nat) (s : St) : Out :=
    .ret (.int .i64 (.ofNat 0)) s

def F141 (call : Call) (fu : Nat) (args : List AV) (s : St) : Out := match args with
  | [t0, t1] =>
    outK (call 218 [t0, t1] s) fun v0 s1 =>
    eqK .ptr s1 true v0 .nilv fun v2 =>
    condK v2 (nilK v0 fun v3 =>
    fieldK 0 v3 fun v4 =>
    loadK ⟨1, false⟩ s1 v4 fun v5 =>
    lenSlK v5 fun v6 =>
    .ret (goInt v6) s1)
    (J141_0 call fu s1)
  | _ => .err

abbrev orc141c (call : Call) (fu : Nat) (st : List IH) (id i : Nat) (s : St) (v : List AV) : Out := ch (Nat.beq id 4 && Nat.beq i 0) (J141_0 call fu s) (
    .err)
abbrev orc141b (call : Call) (fu : Nat) (st : List IH) (id : Nat) (ih : IH) (s : St) (v : List AV) : Out := .err
abbrev orc141p (call : Call) (fu : Nat) (st : List IH) (id k : Nat) (s : St) (v : List AV) : Out := .err
abbrev orc141m (call : Call) (fu : Nat) (id : Nat) (v : List AV) (s : St) : Out := .err
def lv141 (id i : Nat) : Option (List Tmp) := bif Nat.beq id 4 && Nat.beq i 0 then some [] else
    none
/- 142 -/
def F142 (call : Call) (fu : Nat) (args : List AV) (s : St) : Out := match args with
  | [t0] =>
    outK (call 219 [t0] s) fun v0 s1 =>
    extractK v0 0 fun v2 =>
    extractK v0 1 fun v3 =>
    allocK s1 248 (.cells [(.int .i64 (.ofNat 0)), (.int .i64 (.ofNat 0)), (.int .u64 (.ofNat 0))]) fun v4 s5 =>
    storeK ⟨3, true⟩ s5 v4 v2 fun s6 =>
    binK .eql v3 (.int .i64 (.ofNat 0)) fun v7 =>
    .ret v7 s6
  | _ => .err

abbrev orc142c (call : Call) (fu : Nat) (st : List IH) (id i : Nat) (s : St) (v : List AV) : Out := .err
abbrev orc142b (call : Call) (fu : Nat) (st : List IH) (id : Nat) (ih : IH) (s : St) (v : List AV) : Out := .err
abbrev orc142p (call : Call) (fu : Nat) (st : List IH) (id k : Nat) (s : St) (v : List AV) : Out := .err
abbrev orc142m (call : Call) (fu : Nat) (id : Nat) (v : List AV) (s : St) : Out := .err
def lv142 (id i : Nat) : Option (List Tmp) := none
/- 146 -/
def J146_0 (call : Call) (fu : Nat) (s : St) (t3 t0 : AV) : Out :=
    nilK t0 fun v0 =>
    fieldK 3 v0 fun v1 =>
    loadK ⟨1, false⟩ s v1 fun v2 =>
    loadK ⟨1, false⟩ s t3 fun v3 =>
    nilK v2 fun v4 =>
    fieldK 0 v4 fun v5 =>
    storeK ⟨1, false⟩ s v5 v3 fun s6 =>
    nilK t0 fun v7 =>
    fieldK 3 v7 fun v8 =>
    loadK ⟨1, false⟩ s6 v8 fun v9 =>
    nilK v9 fun v10 =>
    fieldK 1 v10 fun v11 =>
    loadK ⟨1, false⟩ s6 v11 fun v12 =>
    outK (call 234 [v12, (.func 235 [] [t3])] s6) fun v13 s14 =>
    .ret (.int .i64 (.ofNat 0)) s14

def J146_1 (call : Call) (fu : Nat) (s : St) (t3 t0 t12 : AV) : Out :=
    condK t12 (.ret (.int .i64 (.ofNat 11)) s)
    (J146_0 call fu s t3 t0)

def J146_2 (call : Call) (fu : Nat) (s : St) (t3 t0 t15 t24 : AV) : Out :=
    pickK t15 (.bool true) t24 fun v15 =>
    J146_1 call fu s t3 t0 v15

def F146 (call : Call) (fu : Nat) (args : List AV) (s : St) : Out := match args with
  | [t0, t1] =>
    boxK s 3 1 t1 fun v16 s17 =>
    outK (call 184 [t0] s17) fun v18 s19 =>
    binK .neq v18 (.int .i64 (.ofNat 0)) fun v20 =>
    condK v20 (.ret v18 s19)
    (loadK ⟨1, false⟩ s19 v16 fun v21 =>
    binK .lss v21 (.int .i64 (.ofNat 0)) fun v22 =>
    guardK false v22 (J146_2 call fu s19 v16 t0 v22 (.tup [])) <|
    loadK ⟨1, false⟩ s19 v16 fun v23 =>
    nilK t0 fun v24 =>
    fieldK 3 v24 fun v25 =>
    loadK ⟨1, false⟩ s19 v25 fun v26 =>
    nilK v26 fun v27 =>
    fieldK 0 v27 fun v28 =>
    loadK ⟨1, false⟩ s19 v28 fun v29 =>
    binK .gtr v23 v29 fun v30 =>
    J146_2 call fu s19 v16 t0 v22 v30)
  | _ => .err

abbrev orc146c (call : Call) (fu : Nat) (st : List IH) (id i : Nat) (s : St) (v : List AV) : Out := ch (Nat.beq id 4 && Nat.beq i 1012) (J146_2 call fu s (nthL v 0) (nthL v 1) (nthL v 2) (nthL v 3)) (
    ch (Nat.beq id 5 && Nat.beq i 0) (J146_1 call fu s (nthL v 0) (nthL v 1) (nthL v 2)) (
    ch (Nat.beq id 6 && Nat.beq i 0) (J146_0 call fu s (nthL v 0) (nthL v 1)) (
    .err)))
abbrev orc146b (call : Call) (fu : Nat) (st : List IH) (id : Nat) (ih : IH) (s : St) (v : List AV) : Out := .err
abbrev orc146p (call : Call) (fu : Nat) (st : List IH) (id k : Nat) (s : St) (v : List AV) : Out := .err
abbrev orc146m (call : Call) (fu : Nat) (id : Nat) (v : List AV) (s : St) : Out := .err
def lv146 (id i : Nat) : Option (List Tmp) := bif Nat.beq id 4 && Nat.beq i 1012 then some [3, 0, 15, 24] else
    bif Nat.beq id 5 && Nat.beq i 0 then some [3, 0, 12] else
    bif Nat.beq id 6 && Nat.beq i 0 then some [3, 0] else
    none
/- 147 -/
def J147_0 (call : Call) (fu : Nat) (s : St) (t6 t0 : AV) : Out :=
    outK (call 55 [t0, t6] s) fun v0 s1 =>
    extractK v0 0 fun v2 =>
    extractK v0 1 fun v3 =>
    .ret (.tup [v2, v3]) s1

def F147 (call : Call) (fu : Nat) (args : List AV) (s : St) : Out := match args with
  | [t0, t1] =>
    outK (call 45 [t0, t1] s) fun v4 s5 =>
    extractK v4 0 fun v6 =>
    extractK v4 1 fun v7 =>
    binK .neq v7 (.int .i64 (.ofNat 0)) fun v8 =>
    condK v8 (.ret (.tup [.nilv, v7]) s5)
    (J147_0 call fu s5 v6 t0)
  | _ => .err

abbrev orc147c (call : Call) (fu : Nat) (st : List IH) (id i : Nat) (s : St) (v : List AV) : Out := ch (Nat.beq id 4 && Nat.beq i 0) (J147_0 call fu s (nthL v 0) (nthL v 1)) (
    .err)
abbrev orc147b (call : Call) (fu : Nat) (st : List IH) (id : Nat) (ih : IH) (s : St) (v : List AV) : Out := .err
abbrev orc147p (call : Call) (fu : Nat) (st : List IH) (id k : Nat) (s : St) (v : List AV) : Out := .err
abbrev orc147m (call : Call) (fu : Nat) (id : Nat) (v : List AV) (s : St) : Out := .err
def lv147 (id i : Nat) : Option (List Tmp) := bif Nat.beq id 4 && Nat.beq i 0 then some [6, 0] else
    none
/- 148 -/
def J148_0 (call : Call) (fu : Nat) (s : St) : Out :=
    .ret (.bool true) s

def J148_2 (call : Call) (fu : Nat) (ih1 : St → AV → AV → AV → AV → AV → Out) (s : St) (t17 t2 t1 t15 t16 : AV) : Out :=
    binK .add t17 (.int .i64 (.ofNat 1)) fun v0 =>
    ih1 s v0 t2 t1 t15 t16

def J148_3 (call : Call) (fu : Nat) (ih1 : St → AV → AV → AV → AV → AV → Out) (s : St) (t17 t2 t1 t15 t16 : AV) : Out :=
    indexSlK 2 t15 t17 fun v1 =>
    loadK ⟨2, true⟩ s v1 fun v2 =>
    allocK s 153 (.cells [(.int .i64 (.ofNat 0)), .nils]) fun v3 s4 =>
    storeK ⟨2, true⟩ s4 v3 v2 fun s5 =>
    indexSlK 2 t1 t17 fun v6 =>
    loadK ⟨2, true⟩ s5 v6 fun v7 =>
    allocK s5 153 (.cells [(.int .i64 (.ofNat 0)), .nils]) fun v8 s9 =>
    storeK ⟨2, true⟩ s9 v8 v7 fun s10 =>
    loadK ⟨2, true⟩ s10 v3 fun v11 =>
    loadK ⟨2, true⟩ s10 v8 fun v12 =>
    callVK call t2 [v11, v12] s10 fun v13 s14 =>
    notK v13 fun v15 =>
    condK v15 (.ret (.bool false) s14)
    (J148_2 call fu ih1 s14 t17 t2 t1 t15 t16)

def L148_1b (call : Call) (fu : Nat) (ih1 : St → AV → AV → AV → AV → AV → Out) (s : St) (t17 t2 t1 t15 t16 : AV) : Out :=
    binK .lss t17 t16 fun v16 =>
    condK v16 (J148_3 call fu ih1 s t17 t2 t1 t15 t16)
    (J148_0 call fu s)

def L148_1 (call : Call) (fu : Nat) (n : Nat) : St → AV → AV → AV → AV → AV → Out :=
  Nat.rec (motive := fun _ => St → AV → AV → AV → AV → AV → Out) (fun _ _ _ _ _ _ => .err) (fun _ ih => L148_1b call fu ih) n

def J148_4 (call : Call) (fu : Nat) (s : St) (t2 t1 t0 : AV) : Out :=
    lenSlK t0 fun v17 =>
    L148_1 call fu fu s (.int .i64 (.ofNat 0)) t2 t1 t0 (goInt v17)

def F148 (call : Call) (fu : Nat) (args : List AV) (s : St) : Out := match args with
  | [t0, t1, t2] =>
    lenSlK t0 fun v18 =>
    lenSlK t1 fun v19 =>
    binK .neq (goInt v18) (goInt v19) fun v20 =>
    condK v20 (.ret (.bool false) s)
    (J148_4 call fu s t2 t1 t0)
  | _ => .err

abbrev orc148c (call : Call) (fu : Nat) (st : List IH) (id i : Nat) (s : St) (v : List AV) : Out := ch (Nat.beq id 3 && Nat.beq i 0) (J148_4 call fu s (nthL v 0) (nthL v 1) (nthL v 2)) (
    ch (Nat.beq id 5 && Nat.beq i 0) (J148_3 call fu (fun s x0 x1 x2 x3 x4 => nthI st 0 s [x0, x1, x2, x3, x4]) s (nthL v 0) (nthL v 1) (nthL v 2) (nthL v 3) (nthL v 4)) (
    ch (Nat.beq id 9 && Nat.beq i 0) (J148_2 call fu (fun s x0 x1 x2 x3 x4 => nthI st 0 s [x0, x1, x2, x3, x4]) s (nthL v 0) (nthL v 1) (nthL v 2) (nthL v 3) (nthL v 4)) (
    ch (Nat.beq id 10 && Nat.beq i 0) (J148_0 call fu s) (
    .err))))
abbrev orc148b (call : Call) (fu : Nat) (st : List IH) (id : Nat) (ih : IH) (s : St) (v : List AV) : Out := ch (Nat.beq id 4) (L148_1b call fu (fun s x0 x1 x2 x3 x4 => ih s [x0, x1, x2, x3, x4]) s (nthL v 0) (nthL v 1) (nthL v 2) (nthL v 3) (nthL v 4)) (
    .err)
abbrev orc148p (call : Call) (fu : Nat) (st : List IH) (id k : Nat) (s : St) (v : List AV) : Out := ch (Nat.beq id 4) (L148_1 call fu k s (nthL v 0) (nthL v 1) (nthL v 2) (nthL v 3) (nthL v 4)) (
    .err)
abbrev orc148m (call : Call) (fu : Nat) (id : Nat) (v : List AV) (s : St) : Out := .err
def lv148 (id i : Nat) : Option (List Tmp) := bif Nat.beq id 3 && Nat.beq i 0 then some [2, 1, 0] else
    bif Nat.beq id 5 && Nat.beq i 0 then some [17, 2, 1, 15, 16] else
    bif Nat.beq id 9 && Nat.beq i 0 then some [17, 2, 1, 15, 16] else
    bif Nat.beq id 4 && Nat.beq i 0 then some [17, 2, 1, 15, 16] else
    bif Nat.beq id 10 && Nat.beq i 0 then some [] else
    none
/- 152 -/
def J152_0 (call : Call) (fu : Nat) (s : St) (t5 t7 t4 : AV) : Out :=
    outK (call 66 [t4] s) fun v0 s1 =>
    outK (call 104 [v0] s1) fun v2 s3 =>
    makeSliceK 3 1 (.int .i64 (.ofNat 0)) s3 v2 v2 fun v4 s5 =>
    allocK s5 86 (.cells [.nils]) fun v6 s7 =>
    storeK ⟨1, false⟩ s7 v6 v4 fun s8 =>
    fillK (.cells [(.int .i64 (.ofNat 0))]) [(0, 1, (.int .i64 (.ofNat 1)))] fun v9 => newK s8 (.row 3 v9) fun i10 s11 =>
    callVK call (.func 238 [] [v6]) [(.int .i64 (.ofNat 1)), (.slice i10 0 1 1 1 false)] s11 fun v12 s13 =>
    callVK call (.func 238 [] [v6]) [(.int .i64 (.ofNat 2)), t7] s13 fun v14 s15 =>
    callVK call (.func 238 [] [v6]) [(.int .i64 (.ofNat 3)), t5] s15 fun v16 s17 =>
    loadK ⟨1, false⟩ s17 v6 fun v18 =>
    .ret (.tup [v18, (.int .i64 (.ofNat 0))]) s17

def J152_1 (call : Call) (fu : Nat) (s : St) (t5 t4 : AV) : Out :=
    outK (call 237 [t4] s) fun v19 s20 =>
    extractK v19 0 fun v21 =>
    extractK v19 1 fun v22 =>
    binK .neq v22 (.int .i64 (.ofNat 0)) fun v23 =>
    condK v23 (.ret (.tup [.nils, v22]) s20)
    (J152_0 call fu s20 t5 v21 t4)

def J152_2 (call : Call) (fu : Nat) (s : St) (t4 t0 : AV) : Out :=
    outK (call 236 [t0] s) fun v24 s25 =>
    extractK v24 0 fun v26 =>
    extractK v24 1 fun v27 =>
    binK .neq v27 (.int .i64 (.ofNat 0)) fun v28 =>
    condK v28 (.ret (.tup [.nils, v27]) s25)
    (J152_1 call fu s25 v26 t4)

def F152 (call : Call) (fu : Nat) (args : List AV) (s : St) : Out := match args with
  | [t0] =>
    outK (call 63 [t0] s) fun v29 s30 =>
    eqK .ptr s30 false v29 .nilv fun v31 =>
    condK v31 (.ret (.tup [.nils, (.int .i64 (.ofNat 1))]) s30)
    (J152_2 call fu s30 v29 t0)
  | _ => .err

abbrev orc152c (call : Call) (fu : Nat) (st : List IH) (id i : Nat) (s : St) (v : List AV) : Out := ch (Nat.beq id 4 && Nat.beq i 0) (J152_2 call fu s (nthL v 0) (nthL v 1)) (
    ch (Nat.beq id 7 && Nat.beq i 0) (J152_1 call fu s (nthL v 0) (nthL v 1)) (
    ch (Nat.beq id 10 && Nat.beq i 0) (J152_0 call fu s (nthL v 0) (nthL v 1) (nthL v 2)) (
    .err)))
abbrev orc152b (call : Call) (fu : Nat) (st : List IH) (id : Nat) (ih : IH) (s : St) (v : List AV) : Out := .err
abbrev orc152p (call : Call) (fu : Nat) (st : List IH) (id k : Nat) (s : St) (v : List AV) : Out := .err
abbrev orc152m (call : Call) (fu : Nat) (id : Nat) (v : List AV) (s : St) : Out := .err
def lv152 (id i : Nat) : Option (List Tmp) := bif Nat.beq id 4 && Nat.beq i 0 then some [4, 0] else
    bif Nat.beq id 7 && Nat.beq i 0 then some [5, 4] else
    bif Nat.beq id 10 && Nat.beq i 0 then some [5, 7, 4] else
    none
/- 155 -/
def J155_0 (call : Call) (fu : Nat) (s : St) (t8 : AV) : Out :=
    .ret (.tup [t8, (.bool true)]) s

def J155_2 (call : Call) (fu : Nat) (ih1 : St → AV → AV → AV → AV → AV → AV → Out) (s : St) (t24 t0 t8 t1 t2 t23 : AV) : Out :=
    binK .add t24 (.int .i64 (.ofNat 1)) fun v0 =>
    ih1 s v0 t0 t8 t1 t2 t23

def J155_3 (call : Call) (fu : Nat) (ih1 : St → AV → AV → AV → AV → AV → AV → Out) (s : St) (t24 t10 t0 t8 t1 t2 t23 : AV) : Out :=
    binK .shl t8 (.int .u64 (.ofNat 8)) fun v1 =>
    indexSlK 1 t0 t10 fun v2 =>
    loadK ⟨1, false⟩ s v2 fun v3 =>
    convK .u64 v3 fun v4 =>
    binK .or v1 v4 fun v5 =>
    J155_2 call fu ih1 s t24 t0 v5 t1 t2 t23

def J155_4 (call : Call) (fu : Nat) (ih1 : St → AV → AV → AV → AV → AV → AV → Out) (s : St) (t24 t0 t8 t1 t2 t23 : AV) : Out :=
    condK t2 (binK .sub t1 (.int .i64 (.ofNat 1)) fun v6 =>
    binK .sub v6 t24 fun v7 =>
    J155_3 call fu ih1 s t24 v7 t0 t8 t1 t2 t23)
    (J155_3 call fu ih1 s t24 t24 t0 t8 t1 t2 t23)

def L155_1b (call : Call) (fu : Nat) (ih1 : St → AV → AV → AV → AV → AV → AV → Out) (s : St) (t24 t0 t8 t1 t2 t23 : AV) : Out :=
    binK .lss t24 t23 fun v8 =>
    condK v8 (J155_4 call fu ih1 s t24 t0 t8 t1 t2 t23)
    (J155_0 call fu s t8)

def L155_1 (call : Call) (fu : Nat) (n : Nat) : St → AV → AV → AV → AV → AV → AV → Out :=
  Nat.rec (motive := fun _ => St → AV → AV → AV → AV → AV → AV → Out) (fun _ _ _ _ _ _ _ => .err) (fun _ ih => L155_1b call fu ih) n

def J155_5 (call : Call) (fu : Nat) (s : St) (t0 t1 t2 : AV) : Out :=
    L155_1 call fu fu s (.int .i64 (.ofNat 0)) t0 (.int .u64 (.ofNat 0)) t1 t2 t1

def J155_6 (call : Call) (fu : Nat) (s : St) (t0 t1 t2 t22 : AV) : Out :=
    condK t22 (.ret (.tup [(.int .u64 (.ofNat 0)), (.bool false)]) s)
    (J155_5 call fu s t0 t1 t2)

def J155_7 (call : Call) (fu : Nat) (s : St) (t0 t1 t2 t17 t21 : AV) : Out :=
    pickK t17 (.bool true) t21 fun v9 =>
    J155_6 call fu s t0 t1 t2 v9

def J155_8 (call : Call) (fu : Nat) (s : St) (t0 t1 t2 t13 t15 : AV) : Out :=
    pickK t13 (.bool true) t15 fun v10 =>
    guardK false v10 (J155_7 call fu s t0 t1 t2 v10 (.tup [])) <|
    lenSlK t0 fun v11 =>
    binK .lss (goInt v11) t1 fun v12 =>
    J155_7 call fu s t0 t1 t2 v10 v12

def F155 (call : Call) (fu : Nat) (args : List AV) (s : St) : Out := match args with
  | [t0, t1, t2] =>
    binK .lss t1 (.int .i64 (.ofNat 1)) fun v13 =>
    guardK false v13 (J155_8 call fu s t0 t1 t2 v13 (.tup [])) <|
    binK .gtr t1 (.int .i64 (.ofNat 8)) fun v14 =>
    J155_8 call fu s t0 t1 t2 v13 v14
  | _ => .err

abbrev orc155c (call : Call) (fu : Nat) (st : List IH) (id i : Nat) (s : St) (v : List AV) : Out := ch (Nat.beq id 1 && Nat.beq i 5) (J155_8 call fu s (nthL v 0) (nthL v 1) (nthL v 2) (nthL v 3) (nthL v 4)) (
    ch (Nat.beq id 1 && Nat.beq i 11) (J155_7 call fu s (nthL v 0) (nthL v 1) (nthL v 2) (nthL v 3) (nthL v 4)) (
    ch (Nat.beq id 2 && Nat.beq i 0) (J155_6 call fu s (nthL v 0) (nthL v 1) (nthL v 2) (nthL v 3)) (
    ch (Nat.beq id 3 && Nat.beq i 0) (J155_5 call fu s (nthL v 0) (nthL v 1) (nthL v 2)) (
    ch (Nat.beq id 6 && Nat.beq i 0) (J155_4 call fu (fun s x0 x1 x2 x3 x4 x5 => nthI st 0 s [x0, x1, x2, x3, x4, x5]) s (nthL v 0) (nthL v 1) (nthL v 2) (nthL v 3) (nthL v 4) (nthL v 5)) (
    ch (Nat.beq id 10 && Nat.beq i 0) (J155_3 call fu (fun s x0 x1 x2 x3 x4 x5 => nthI st 0 s [x0, x1, x2, x3, x4, x5]) s (nthL v 0) (nthL v 1) (nthL v 2) (nthL v 3) (nthL v 4) (nthL v 5) (nthL v 6)) (
    ch (Nat.beq id 11 && Nat.beq i 0) (J155_2 call fu (fun s x0 x1 x2 x3 x4 x5 => nthI st 0 s [x0, x1, x2, x3, x4, x5]) s (nthL v 0) (nthL v 1) (nthL v 2) (nthL v 3) (nthL v 4) (nthL v 5)) (
    ch (Nat.beq id 12 && Nat.beq i 0) (J155_0 call fu s (nthL v 0)) (
    .err))))))))
abbrev orc155b (call : Call) (fu : Nat) (st : List IH) (id : Nat) (ih : IH) (s : St) (v : List AV) : Out := ch (Nat.beq id 5) (L155_1b call fu (fun s x0 x1 x2 x3 x4 x5 => ih s [x0, x1, x2, x3, x4, x5]) s (nthL v 0) (nthL v 1) (nthL v 2) (nthL v 3) (nthL v 4) (nthL v 5)) (
    .err)
abbrev orc155p (call : Call) (fu : Nat) (st : List IH) (id k : Nat) (s : St) (v : List AV) : Out := ch (Nat.beq id 5) (L155_1 call fu k s (nthL v 0) (nthL v 1) (nthL v 2) (nthL v 3) (nthL v 4) (nthL v 5)) (
    .err)
abbrev orc155m (call : Call) (fu : Nat) (id : Nat) (v : List AV) (s : St) : Out := .err
def lv155 (id i : Nat) : Option (List Tmp) := bif Nat.beq id 1 && Nat.beq i 5 then some [0, 1, 2, 13, 15] else
    bif Nat.beq id 1 && Nat.beq i 11 then some [0, 1, 2, 17, 21] else
    bif Nat.beq id 2 && Nat.beq i 0 then some [0, 1, 2, 22] else
    bif Nat.beq id 3 && Nat.beq i 0 then some [0, 1, 2] else
    bif Nat.beq id 6 && Nat.beq i 0 then some [24, 0, 8, 1, 2, 23] else
    bif Nat.beq id 10 && Nat.beq i 0 then some [24, 10, 0, 8, 1, 2, 23] else
    bif Nat.beq id 11 && Nat.beq i 0 then some [24, 0, 8, 1, 2, 23] else
    bif Nat.beq id 5 && Nat.beq i 0 then some [24, 0, 8, 1, 2, 23] else
    bif Nat.beq id 12 && Nat.beq i 0 then some [8] else
    none
/- 164 -/
def J164_1 (call : Call) (fu : Nat) (ih0 : St → AV → AV → AV → AV → AV → AV → Out) (s : St) (t3 t1 t0 t2 t10 t11 : AV) : Out :=
    outK (call 249 [t0, t1, t2, t11] s) fun v0 s1 =>
    extractK v0 0 fun v2 =>
    extractK v0 1 fun v3 =>
    binK .sub v2 t1 fun v4 =>
    binK .sub t2 v2 fun v5 =>
    binK .quo t10 (.int .i64 (.ofNat 8)) fun v6 =>
    binK .lss v4 v5 fun v7 =>
    condK v7 (binK .geq v4 v6 fun v8 =>
    outK (call 164 [t0, t1, v2, t3] s1) fun v9 s10 =>
    binK .add v2 (.int .i64 (.ofNat 1)) fun v11 =>
    ih0 s10 t2 v11 t0 v3 v8 t3)
    (binK .geq v5 v6 fun v12 =>
    binK .add v2 (.int .i64 (.ofNat 1)) fun v13 =>
    outK (call 164 [t0, v13, t2, t3] s1) fun v14 s15 =>
    ih0 s15 v2 t1 t0 v3 v12 t3)

def J164_2 (call : Call) (fu : Nat) (ih0 : St → AV → AV → AV → AV → AV → AV → Out) (s : St) (t11 t2 t1 t0 t3 t10 t87 t9 t8 : AV) : Out :=
    condK t87 (outK (call 248 [t0, t1, t2, t11] s) fun v16 s17 =>
    ih0 s17 t2 v16 t0 t9 t8 t3)
    (J164_1 call fu ih0 s t3 t1 t0 t2 t10 t11)

def J164_3 (call : Call) (fu : Nat) (ih0 : St → AV → AV → AV → AV → AV → AV → Out) (s : St) (t11 t2 t1 t0 t3 t10 t75 t86 t9 t8 : AV) : Out :=
    pickK t75 t86 (.bool false) fun v18 =>
    J164_2 call fu ih0 s t11 t2 t1 t0 t3 t10 v18 t9 t8

def J164_4 (call : Call) (fu : Nat) (ih0 : St → AV → AV → AV → AV → AV → AV → Out) (s : St) (t11 t2 t1 t0 t3 t10 t9 t8 : AV) : Out :=
    binK .gtr t1 (.int .i64 (.ofNat 0)) fun v19 =>
    guardK true v19 (J164_3 call fu ih0 s t11 t2 t1 t0 t3 t10 v19 (.tup []) t9 t8) <|
    binK .sub t1 (.int .i64 (.ofNat 1)) fun v20 =>
    indexSlK 1 t0 v20 fun v21 =>
    loadK ⟨1, false⟩ s v21 fun v22 =>
    indexSlK 1 t0 t11 fun v23 =>
    loadK ⟨1, false⟩ s v23 fun v24 =>
    outK (call 247 [v22, v24] s) fun v25 s26 =>
    notK v25 fun v27 =>
    J164_3 call fu ih0 s26 t11 t2 t1 t0 t3 t10 v19 v27 t9 t8

def J164_5 (call : Call) (fu : Nat) (ih0 : St → AV → AV → AV → AV → AV → AV → Out) (s : St) (t11 t2 t1 t0 t3 t10 t68 t9 t8 : AV) : Out :=
    condK t68 (outK (call 246 [t0, t1, t2] s) fun v28 s29 =>
    condK v28 (.ret (.tup []) s29)
    (J164_4 call fu ih0 s29 t11 t2 t1 t0 t3 t10 t9 t8))
    (J164_4 call fu ih0 s t11 t2 t1 t0 t3 t10 t9 t8)

def J164_6 (call : Call) (fu : Nat) (ih0 : St → AV → AV → AV → AV → AV → AV → Out) (s : St) (t11 t2 t1 t0 t3 t10 t65 t67 t9 t8 : AV) : Out :=
    pickK t65 t67 (.bool false) fun v30 =>
    J164_5 call fu ih0 s t11 t2 t1 t0 t3 t10 v30 t9 t8

def J164_7 (call : Call) (fu : Nat) (ih0 : St → AV → AV → AV → AV → AV → AV → Out) (s : St) (t11 t2 t1 t0 t3 t10 t12 t62 t63 t9 t8 : AV) : Out :=
    pickK t62 t63 (.bool false) fun v31 =>
    guardK true v31 (J164_6 call fu ih0 s t11 t2 t1 t0 t3 t10 v31 (.tup []) t9 t8) <|
    binK .eql t12 (.int .i64 (.ofNat 1)) fun v32 =>
    J164_6 call fu ih0 s t11 t2 t1 t0 t3 t10 v31 v32 t9 t8

def J164_8 (call : Call) (fu : Nat) (ih0 : St → AV → AV → AV → AV → AV → AV → Out) (s : St) (t11 t2 t1 t0 t3 t10 t12 t9 t8 : AV) : Out :=
    guardK true t8 (J164_7 call fu ih0 s t11 t2 t1 t0 t3 t10 t12 t8 (.tup []) t9 t8) <|
    J164_7 call fu ih0 s t11 t2 t1 t0 t3 t10 t12 t8 t9 t9 t8

def J164_9 (call : Call) (fu : Nat) (ih0 : St → AV → AV → AV → AV → AV → AV → Out) (s : St) (t2 t1 t0 t3 t10 t9 t8 : AV) : Out :=
    outK (call 244 [t0, t1, t2] s) fun v33 s34 =>
    extractK v33 0 fun v35 =>
    extractK v33 1 fun v36 =>
    binK .eql v36 (.int .i64 (.ofNat 2)) fun v37 =>
    condK v37 (outK (call 245 [t0, t1, t2] s34) fun v38 s39 =>
    binK .sub t2 (.int .i64 (.ofNat 1)) fun v40 =>
    binK .sub v35 t1 fun v41 =>
    binK .sub v40 v41 fun v42 =>
    J164_8 call fu ih0 s39 v42 t2 t1 t0 t3 t10 (.int .i64 (.ofNat 1)) t9 t8)
    (J164_8 call fu ih0 s34 v35 t2 t1 t0 t3 t10 v36 t9 t8)

def J164_10 (call : Call) (fu : Nat) (ih0 : St → AV → AV → AV → AV → AV → AV → Out) (s : St) (t2 t1 t0 t10 t9 t8 t3 : AV) : Out :=
    notK t8 fun v43 =>
    condK v43 (outK (call 243 [t0, t1, t2] s) fun v44 s45 =>
    binK .sub t3 (.int .i64 (.ofNat 1)) fun v46 =>
    J164_9 call fu ih0 s45 t2 t1 t0 v46 t10 t9 t8)
    (J164_9 call fu ih0 s t2 t1 t0 t3 t10 t9 t8)

def J164_11 (call : Call) (fu : Nat) (ih0 : St → AV → AV → AV → AV → AV → AV → Out) (s : St) (t2 t1 t0 t10 t9 t8 t3 : AV) : Out :=
    binK .eql t3 (.int .i64 (.ofNat 0)) fun v47 =>
    condK v47 (outK (call 242 [t0, t1, t2] s) fun v48 s49 =>
    .ret (.tup []) s49)
    (J164_10 call fu ih0 s t2 t1 t0 t10 t9 t8 t3)

def L164_0b (call : Call) (fu : Nat) (ih0 : St → AV → AV → AV → AV → AV → AV → Out) (s : St) (t2 t1 t0 t9 t8 t3 : AV) : Out :=
    binK .sub t2 t1 fun v50 =>
    binK .leq v50 (.int .i64 (.ofNat 12)) fun v51 =>
    condK v51 (outK (call 241 [t0, t1, t2] s) fun v52 s53 =>
    .ret (.tup []) s53)
    (J164_11 call fu ih0 s t2 t1 t0 v50 t9 t8 t3)

def L164_0 (call : Call) (fu : Nat) (n : Nat) : St → AV → AV → AV → AV → AV → AV → Out :=
  Nat.rec (motive := fun _ => St → AV → AV → AV → AV → AV → AV → Out) (fun _ _ _ _ _ _ _ => .err) (fun _ ih => L164_0b call fu ih) n

def F164 (call : Call) (fu : Nat) (args : List AV) (s : St) : Out := match args with
  | [t0, t1, t2, t3] =>
    L164_0 call fu fu s t2 t1 t0 (.bool true) (.bool true) t3
  | _ => .err

abbrev orc164c (call : Call) (fu : Nat) (st : List IH) (id i : Nat) (s : St) (v : List AV) : Out := ch (Nat.beq id 5 && Nat.beq i 0) (J164_11 call fu (fun s x0 x1 x2 x3 x4 x5 => nthI st 0 s [x0, x1, x2, x3, x4, x5]) s (nthL v 0) (nthL v 1) (nthL v 2) (nthL v 3) (nthL v 4) (nthL v 5) (nthL v 6)) (
    ch (Nat.beq id 7 && Nat.beq i 0) (J164_10 call fu (fun s x0 x1 x2 x3 x4 x5 => nthI st 0 s [x0, x1, x2, x3, x4, x5]) s (nthL v 0) (nthL v 1) (nthL v 2) (nthL v 3) (nthL v 4) (nthL v 5) (nthL v 6)) (
    ch (Nat.beq id 10 && Nat.beq i 0) (J164_9 call fu (fun s x0 x1 x2 x3 x4 x5 => nthI st 0 s [x0, x1, x2, x3, x4, x5]) s (nthL v 0) (nthL v 1) (nthL v 2) (nthL v 3) (nthL v 4) (nthL v 5) (nthL v 6)) (
    ch (Nat.beq id 15 && Nat.beq i 0) (J164_8 call fu (fun s x0 x1 x2 x3 x4 x5 => nthI st 0 s [x0, x1, x2, x3, x4, x5]) s (nthL v 0) (nthL v 1) (nthL v 2) (nthL v 3) (nthL v 4) (nthL v 5) (nthL v 6) (nthL v 7) (nthL v 8)) (
    ch (Nat.beq id 15 && Nat.beq i 3) (J164_7 call fu (fun s x0 x1 x2 x3 x4 x5 => nthI st 0 s [x0, x1, x2, x3, x4, x5]) s (nthL v 0) (nthL v 1) (nthL v 2) (nthL v 3) (nthL v 4) (nthL v 5) (nthL v 6) (nthL v 7) (nthL v 8) (nthL v 9) (nthL v 10)) (
    ch (Nat.beq id 15 && Nat.beq i 7) (J164_6 call fu (fun s x0 x1 x2 x3 x4 x5 => nthI st 0 s [x0, x1, x2, x3, x4, x5]) s (nthL v 0) (nthL v 1) (nthL v 2) (nthL v 3) (nthL v 4) (nthL v 5) (nthL v 6) (nthL v 7) (nthL v 8) (nthL v 9)) (
    ch (Nat.beq id 16 && Nat.beq i 0) (J164_5 call fu (fun s x0 x1 x2 x3 x4 x5 => nthI st 0 s [x0, x1, x2, x3, x4, x5]) s (nthL v 0) (nthL v 1) (nthL v 2) (nthL v 3) (nthL v 4) (nthL v 5) (nthL v 6) (nthL v 7) (nthL v 8)) (
    ch (Nat.beq id 17 && Nat.beq i 0) (J164_4 call fu (fun s x0 x1 x2 x3 x4 x5 => nthI st 0 s [x0, x1, x2, x3, x4, x5]) s (nthL v 0) (nthL v 1) (nthL v 2) (nthL v 3) (nthL v 4) (nthL v 5) (nthL v 6) (nthL v 7)) (
    ch (Nat.beq id 17 && Nat.beq i 1014) (J164_3 call fu (fun s x0 x1 x2 x3 x4 x5 => nthI st 0 s [x0, x1, x2, x3, x4, x5]) s (nthL v 0) (nthL v 1) (nthL v 2) (nthL v 3) (nthL v 4) (nthL v 5) (nthL v 6) (nthL v 7) (nthL v 8) (nthL v 9)) (
    ch (Nat.beq id 18 && Nat.beq i 0) (J164_2 call fu (fun s x0 x1 x2 x3 x4 x5 => nthI st 0 s [x0, x1, x2, x3, x4, x5]) s (nthL v 0) (nthL v 1) (nthL v 2) (nthL v 3) (nthL v 4) (nthL v 5) (nthL v 6) (nthL v 7) (nthL v 8)) (
    ch (Nat.beq id 20 && Nat.beq i 0) (J164_1 call fu (fun s x0 x1 x2 x3 x4 x5 => nthI st 0 s [x0, x1, x2, x3, x4, x5]) s (nthL v 0) (nthL v 1) (nthL v 2) (nthL v 3) (nthL v 4) (nthL v 5)) (
    .err)))))))))))
abbrev orc164b (call : Call) (fu : Nat) (st : List IH) (id : Nat) (ih : IH) (s : St) (v : List AV) : Out := ch (Nat.beq id 2) (L164_0b call fu (fun s x0 x1 x2 x3 x4 x5 => ih s [x0, x1, x2, x3, x4, x5]) s (nthL v 0) (nthL v 1) (nthL v 2) (nthL v 3) (nthL v 4) (nthL v 5)) (
    .err)
abbrev orc164p (call : Call) (fu : Nat) (st : List IH) (id k : Nat) (s : St) (v : List AV) : Out := ch (Nat.beq id 2) (L164_0 call fu k s (nthL v 0) (nthL v 1) (nthL v 2) (nthL v 3) (nthL v 4) (nthL v 5)) (
    .err)
abbrev orc164m (call : Call) (fu : Nat) (id : Nat) (v : List AV) (s : St) : Out := .err
def lv164 (id i : Nat) : Option (List Tmp) := bif Nat.beq id 5 && Nat.beq i 0 then some [2, 1, 0, 10, 9, 8, 3] else
    bif Nat.beq id 7 && Nat.beq i 0 then some [2, 1, 0, 10, 9, 8, 3] else
    bif Nat.beq id 10 && Nat.beq i 0 then some [2, 1, 0, 3, 10, 9, 8] else
    bif Nat.beq id 15 && Nat.beq i 0 then some [11, 2, 1, 0, 3, 10, 12, 9, 8] else
    bif Nat.beq id 15 && Nat.beq i 3 then some [11, 2, 1, 0, 3, 10, 12, 62, 63, 9, 8] else
    bif Nat.beq id 15 && Nat.beq i 7 then some [11, 2, 1, 0, 3, 10, 65, 67, 9, 8] else
    bif Nat.beq id 16 && Nat.beq i 0 then some [11, 2, 1, 0, 3, 10, 68, 9, 8] else
    bif Nat.beq id 17 && Nat.beq i 0 then some [11, 2, 1, 0, 3, 10, 9, 8] else
    bif Nat.beq id 17 && Nat.beq i 1014 then some [11, 2, 1, 0, 3, 10, 75, 86, 9, 8] else
    bif Nat.beq id 18 && Nat.beq i 0 then some [11, 2, 1, 0, 3, 10, 87, 9, 8] else
    bif Nat.beq id 20 && Nat.beq i 0 then some [3, 1, 0, 2, 10, 11] else
    bif Nat.beq id 2 && Nat.beq i 0 then some [2, 1, 0, 9, 8, 3] else
    none
/- 165 -/
def J165_0 (call : Call) (fu : Nat) (s : St) (t0 : AV) : Out :=
    outK (call 251 [t0] s) fun v0 s1 =>
    .ret v0 s1

def F165 (call : Call) (fu : Nat) (args : List AV) (s : St) : Out := match args with
  | [t0] =>
    condK (.bool false) (convK .u32 t0 fun v2 =>
    outK (call 250 [v2] s) fun v3 s4 =>
    .ret v3 s4)
    (J165_0 call fu s t0)
  | _ => .err

abbrev orc165c (call : Call) (fu : Nat) (st : List IH) (id i : Nat) (s : St) (v : List AV) : Out := ch (Nat.beq id 2 && Nat.beq i 0) (J165_0 call fu s (nthL v 0)) (
    .err)
abbrev orc165b (call : Call) (fu : Nat) (st : List IH) (id : Nat) (ih : IH) (s : St) (v : List AV) : Out := .err
abbrev orc165p (call : Call) (fu : Nat) (st : List IH) (id k : Nat) (s : St) (v : List AV) : Out := .err
abbrev orc165m (call : Call) (fu : Nat) (id : Nat) (v : List AV) (s : St) : Out := .err
def lv165 (id i : Nat) : Option (List Tmp) := bif Nat.beq id 2 && Nat.beq i 0 then some [0] else
    none
/- 168 -/
def J168_0 (call : Call) (fu : Nat) (s : St) (t10 : AV) : Out :=
    .ret t10 s

def J168_2 (call : Call) (fu : Nat) (ih1 : St → AV → AV → AV → AV → AV → AV → AV → Out) (s : St) (t40 t3 t2 t0 t38 t10 t39 : AV) : Out :=
    binK .add t40 (.int .i64 (.ofNat 1)) fun v0 =>
    ih1 s v0 t3 t2 t0 t38 t10 t39

def J168_3 (call : Call) (fu : Nat) (ih1 : St → AV → AV → AV → AV → AV → AV → AV → Out) (s : St) (t40 t3 t2 t0 t38 t39 : AV) : Out :=
    indexSlK 1 t38 t40 fun v1 =>
    loadK ⟨1, false⟩ s v1 fun v2 =>
    binK .add t2 (.int .i64 (.ofNat 1)) fun v3 =>
    outK (call 168 [t0, v2, v3, t3] s) fun v4 s5 =>
    binK .neq v4 (.int .i64 (.ofNat 0)) fun v6 =>
    condK v6 (J168_0 call fu s5 v4)
    (J168_2 call fu ih1 s5 t40 t3 t2 t0 t38 v4 t39)

def L168_1b (call : Call) (fu : Nat) (ih1 : St → AV → AV → AV → AV → AV → AV → AV → Out) (s : St) (t40 t3 t2 t0 t38 t10 t39 : AV) : Out :=
    binK .lss t40 t39 fun v7 =>
    condK v7 (J168_3 call fu ih1 s t40 t3 t2 t0 t38 t39)
    (J168_0 call fu s t10)

def L168_1 (call : Call) (fu : Nat) (n : Nat) : St → AV → AV → AV → AV → AV → AV → AV → Out :=
  Nat.rec (motive := fun _ => St → AV → AV → AV → AV → AV → AV → AV → Out) (fun _ _ _ _ _ _ _ _ => .err) (fun _ ih => L168_1b call fu ih) n

def J168_4 (call : Call) (fu : Nat) (s : St) (t3 t2 t0 t10 t9 : AV) : Out :=
    loadK ⟨3, true⟩ s t9 fun v8 =>
    outK (call 252 [v8] s) fun v9 s10 =>
    partK ⟨1, false⟩ v9 0 fun v11 =>
    lenSlK v11 fun v12 =>
    L168_1 call fu fu s10 (.int .i64 (.ofNat 0)) t3 t2 t0 v11 t10 (goInt v12)

def J168_5 (call : Call) (fu : Nat) (s : St) (t10 t3 t2 t0 t9 t34 : AV) : Out :=
    condK t34 (.ret t10 s)
    (J168_4 call fu s t3 t2 t0 t10 t9)

def J168_6 (call : Call) (fu : Nat) (s : St) (t10 t3 t2 t0 t9 t31 t33 : AV) : Out :=
    pickK t31 (.bool true) t33 fun v13 =>
    J168_5 call fu s t10 t3 t2 t0 t9 v13

def J168_7 (call : Call) (fu : Nat) (s : St) (t3 t2 t0 t9 t1 : AV) : Out :=
    loadK ⟨3, true⟩ s t9 fun v14 =>
    callVK call t3 [t1, t2, v14] s fun v15 s16 =>
    binK .neq v15 (.int .i64 (.ofNat 0)) fun v17 =>
    guardK false v17 (J168_6 call fu s16 v15 t3 t2 t0 t9 v17 (.tup [])) <|
    fieldK 0 t9 fun v18 =>
    loadK ⟨1, false⟩ s16 v18 fun v19 =>
    J168_6 call fu s16 v15 t3 t2 t0 t9 v17 v19

def J168_8 (call : Call) (fu : Nat) (s : St) (t3 t2 t0 t1 : AV) : Out :=
    outK (call 131 [t0, t1] s) fun v20 s21 =>
    extractK v20 0 fun v22 =>
    extractK v20 1 fun v23 =>
    allocK s21 206 (.cells [(.bool false), (.int .i64 (.ofNat 0)), .nils]) fun v24 s25 =>
    storeK ⟨3, true⟩ s25 v24 v22 fun s26 =>
    binK .neq v23 (.int .i64 (.ofNat 0)) fun v27 =>
    condK v27 (.ret v23 s26)
    (J168_7 call fu s26 t3 t2 t0 v24 t1)

def F168 (call : Call) (fu : Nat) (args : List AV) (s : St) : Out := match args with
  | [t0, t1, t2, t3] =>
    binK .gtr t2 (.int .i64 (.ofNat 20)) fun v28 =>
    condK v28 (.ret (.int .i64 (.ofNat 9)) s)
    (J168_8 call fu s t3 t2 t0 t1)
  | _ => .err

abbrev orc168c (call : Call) (fu : Nat) (st : List IH) (id i : Nat) (s : St) (v : List AV) : Out := ch (Nat.beq id 3 && Nat.beq i 0) (J168_8 call fu s (nthL v 0) (nthL v 1) (nthL v 2) (nthL v 3)) (
    ch (Nat.beq id 6 && Nat.beq i 0) (J168_7 call fu s (nthL v 0) (nthL v 1) (nthL v 2) (nthL v 3) (nthL v 4)) (
    ch (Nat.beq id 7 && Nat.beq i 5) (J168_6 call fu s (nthL v 0) (nthL v 1) (nthL v 2) (nthL v 3) (nthL v 4) (nthL v 5) (nthL v 6)) (
    ch (Nat.beq id 8 && Nat.beq i 0) (J168_5 call fu s (nthL v 0) (nthL v 1) (nthL v 2) (nthL v 3) (nthL v 4) (nthL v 5)) (
    ch (Nat.beq id 9 && Nat.beq i 0) (J168_4 call fu s (nthL v 0) (nthL v 1) (nthL v 2) (nthL v 3) (nthL v 4)) (
    ch (Nat.beq id 11 && Nat.beq i 0) (J168_3 call fu (fun s x0 x1 x2 x3 x4 x5 x6 => nthI st 0 s [x0, x1, x2, x3, x4, x5, x6]) s (nthL v 0) (nthL v 1) (nthL v 2) (nthL v 3) (nthL v 4) (nthL v 5)) (
    ch (Nat.beq id 14 && Nat.beq i 0) (J168_2 call fu (fun s x0 x1 x2 x3 x4 x5 x6 => nthI st 0 s [x0, x1, x2, x3, x4, x5, x6]) s (nthL v 0) (nthL v 1) (nthL v 2) (nthL v 3) (nthL v 4) (nthL v 5) (nthL v 6)) (
    ch (Nat.beq id 15 && Nat.beq i 0) (J168_0 call fu s (nthL v 0)) (
    .err))))))))
abbrev orc168b (call : Call) (fu : Nat) (st : List IH) (id : Nat) (ih : IH) (s : St) (v : List AV) : Out := ch (Nat.beq id 10) (L168_1b call fu (fun s x0 x1 x2 x3 x4 x5 x6 => ih s [x0, x1, x2, x3, x4, x5, x6]) s (nthL v 0) (nthL v 1) (nthL v 2) (nthL v 3) (nthL v 4) (nthL v 5) (nthL v 6)) (
    .err)
abbrev orc168p (call : Call) (fu : Nat) (st : List IH) (id k : Nat) (s : St) (v : List AV) : Out := ch (Nat.beq id 10) (L168_1 call fu k s (nthL v 0) (nthL v 1) (nthL v 2) (nthL v 3) (nthL v 4) (nthL v 5) (nthL v 6)) (
    .err)
abbrev orc168m (call : Call) (fu : Nat) (id : Nat) (v : List AV) (s : St) : Out := .err
def lv168 (id i : Nat) : Option (List Tmp) := bif Nat.beq id 3 && Nat.beq i 0 then some [3, 2, 0, 1] else
    bif Nat.beq id 6 && Nat.beq i 0 then some [3, 2, 0, 9, 1] else
    bif Nat.beq id 7 && Nat.beq i 5 then some [10, 3, 2, 0, 9, 31, 33] else
    bif Nat.beq id 8 && Nat.beq i 0 then some [10, 3, 2, 0, 9, 34] else
    bif Nat.beq id 9 && Nat.beq i 0 then some [3, 2, 0, 10, 9] else
    bif Nat.beq id 11 && Nat.beq i 0 then some [40, 3, 2, 0, 38, 39] else
    bif Nat.beq id 14 && Nat.beq i 0 then some [40, 3, 2, 0, 38, 10, 39] else
    bif Nat.beq id 10 && Nat.beq i 0 then some [40, 3, 2, 0, 38, 10, 39] else
    bif Nat.beq id 15 && Nat.beq i 0 then some [10] else
    none
/- 169 -/
def J169_0 (call : Call) (fu : Nat) (s : St) : Out :=
    .ret (.int .i64 (.ofNat 0)) s

def F169 (call : Call) (fu : Nat) (args : List AV) (s : St) : Out := match args with
  | [t0, t1, t2, t3] =>
    boxK s 206 3 t2 fun v0 s1 =>
    fieldK 0 v0 fun v2 =>
    loadK ⟨1, false⟩ s1 v2 fun v3 =>
    condK v3 (loadK ⟨1, false⟩ s1 t3 fun v4 =>
    fieldK 2 v0 fun v5 =>
    loadK ⟨1, false⟩ s1 v5 fun v6 =>
    lenSlK v6 fun v7 =>
    binK .add v4 (goInt v7) fun v8 =>
    storeK ⟨1, false⟩ s1 t3 v8 fun s9 =>
    J169_0 call fu s9)
    (J169_0 call fu s1)
  | _ => .err

abbrev orc169c (call : Call) (fu : Nat) (st : List IH) (id i : Nat) (s : St) (v : List AV) : Out := ch (Nat.beq id 3 && Nat.beq i 0) (J169_0 call fu s) (
    .err)
abbrev orc169b (call : Call) (fu : Nat) (st : List IH) (id : Nat) (ih : IH) (s : St) (v : List AV) : Out := .err
abbrev orc169p (call : Call) (fu : Nat) (st : List IH) (id k : Nat) (s : St) (v : List AV) : Out := .err
abbrev orc169m (call : Call) (fu : Nat) (id : Nat) (v : List AV) (s : St) : Out := .err
def lv169 (id i : Nat) : Option (List Tmp) := bif Nat.beq id 3 && Nat.beq i 0 then some [] else
    none
/- 177 -/
def J177_0 (call : Call) (fu : Nat) (s : St) (t0 : AV) : Out :=
    fillK (.cells [.nilv, (.int .i64 (.ofNat 0)), (.bool false)]) [(0, 1, t0)] fun v0 =>
    boxK s 364 3 v0 fun v1 s2 =>
    .ret v1 s2

def F177 (call : Call) (fu : Nat) (args : List AV) (s : St) : Out := match args with
  | [t0] =>
    outK (call 48 [t0] s) fun v3 s4 =>
    binK .eql v3 (.int .i64 (.ofNat 0)) fun v5 =>
    condK v5 (.ret .nilv s4)
    (J177_0 call fu s4 t0)
  | _ => .err

abbrev orc177c (call : Call) (fu : Nat) (st : List IH) (id i : Nat) (s : St) (v : List AV) : Out := ch (Nat.beq id 3 && Nat.beq i 0) (J177_0 call fu s (nthL v 0)) (
    .err)
abbrev orc177b (call : Call) (fu : Nat) (st : List IH) (id : Nat) (ih : IH) (s : St) (v : List AV) : Out := .err
abbrev orc177p (call : Call) (fu : Nat) (st : List IH) (id k : Nat) (s : St) (v : List AV) : Out := .err
abbrev orc177m (call : Call) (fu : Nat) (id : Nat) (v : List AV) (s : St) : Out := .err
def lv177 (id i : Nat) : Option (List Tmp) := bif Nat.beq id 3 && Nat.beq i 0 then some [0] else
    none
/- 178 -/
def F178 (call : Call) (fu : Nat) (args : List AV) (s : St) : Out := match args with
  | [t0] =>
    outK (call 259 [t0, (.func 260 [] []), (.int .i64 (.negSucc 9223372036854775807))] s) fun v0 s1 =>
    extractK v0 0 fun v2 =>
    extractK v0 1 fun v3 =>
    .ret (.tup [v2, v3]) s1
  | _ => .err

abbrev orc178c (call : Call) (fu : Nat) (st : List IH) (id i : Nat) (s : St) (v : List AV) : Out := .err
abbrev orc178b (call : Call) (fu : Nat) (st : List IH) (id : Nat) (ih : IH) (s : St) (v : List AV) : Out := .err
abbrev orc178p (call : Call) (fu : Nat) (st : List IH) (id k : Nat) (s : St) (v : List AV) : Out := .err
abbrev orc178m (call : Call) (fu : Nat) (id : Nat) (v : List AV) (s : St) : Out := .err
def lv178 (id i : Nat) : Option (List Tmp) := none
/- 179 -/
def F179 (call : Call) (fu : Nat) (args : List AV) (s : St) : Out := match args with
  | [t0] =>
    outK (call 261 [t0, (.func 260 [] [])] s) fun v0 s1 =>
    extractK v0 0 fun v2 =>
    extractK v0 1 fun v3 =>
    .ret (.tup [v2, v3]) s1
  | _ => .err

abbrev orc179c (call : Call) (fu : Nat) (st : List IH) (id i : Nat) (s : St) (v : List AV) : Out := .err
abbrev orc179b (call : Call) (fu : Nat) (st : List IH) (id : Nat) (ih : IH) (s : St) (v : List AV) : Out := .err
abbrev orc179p (call : Call) (fu : Nat) (st : List IH) (id k : Nat) (s : St) (v : List AV) : Out := .err
abbrev orc179m (call : Call) (fu : Nat) (id : Nat) (v : List AV) (s : St) : Out := .err
def lv179 (id i : Nat) : Option (List Tmp) := none
/- 180 -/
def J180_0 (call : Call) (fu : Nat) (s : St) (t0 : AV) : Out :=
    nilK t0 fun v0 =>
    fieldK 1 v0 fun v1 =>
    loadK ⟨1, false⟩ s v1 fun v2 =>
    .ret (.tup [v2, (.bool true)]) s

def J180_1 (call : Call) (fu : Nat) (s : St) (t0 t13 : AV) : Out :=
    condK t13 (.ret (.tup [(.int .i64 (.ofNat 0)), (.bool false)]) s)
    (J180_0 call fu s t0)

def J180_2 (call : Call) (fu : Nat) (s : St) (t0 t7 t12 : AV) : Out :=
    pickK t7 (.bool true) t12 fun v3 =>
    J180_1 call fu s t0 v3

def F180 (call : Call) (fu : Nat) (args : List AV) (s : St) : Out := match args with
  | [t0] =>
    outK (call 262 [t0] s) fun v4 s5 =>
    notK v4 fun v6 =>
    guardK false v6 (J180_2 call fu s5 t0 v6 (.tup [])) <|
    nilK t0 fun v7 =>
    fieldK 2 v7 fun v8 =>
    loadK ⟨1, false⟩ s5 v8 fun v9 =>
    notK v9 fun v10 =>
    J180_2 call fu s5 t0 v6 v10
  | _ => .err

abbrev orc180c (call : Call) (fu : Nat) (st : List IH) (id i : Nat) (s : St) (v : List AV) : Out := ch (Nat.beq id 1 && Nat.beq i 9) (J180_2 call fu s (nthL v 0) (nthL v 1) (nthL v 2)) (
    ch (Nat.beq id 2 && Nat.beq i 0) (J180_1 call fu s (nthL v 0) (nthL v 1)) (
    ch (Nat.beq id 3 && Nat.beq i 0) (J180_0 call fu s (nthL v 0)) (
    .err)))
abbrev orc180b (call : Call) (fu : Nat) (st : List IH) (id : Nat) (ih : IH) (s : St) (v : List AV) : Out := .err
abbrev orc180p (call : Call) (fu : Nat) (st : List IH) (id k : Nat) (s : St) (v : List AV) : Out := .err
abbrev orc180m (call : Call) (fu : Nat) (id : Nat) (v : List AV) (s : St) : Out := .err
def lv180 (id i : Nat) : Option (List Tmp) := bif Nat.beq id 1 && Nat.beq i 9 then some [0, 7, 12] else
    bif Nat.beq id 2 && Nat.beq i 0 then some [0, 13] else
    bif Nat.beq id 3 && Nat.beq i 0 then some [0] else
    none
/- 181 -/
def J181_0 (call : Call) (fu : Nat) (s : St) (t7 t5 : AV) : Out :=
    .ret (.tup [t5, t7]) s

def J181_1 (call : Call) (fu : Nat) (s : St) (t5 t7 t31 : AV) : Out :=
    condK t31 (J181_0 call fu s (.int .i64 (.ofNat 5)) t5)
    (J181_0 call fu s t7 t5)

def J181_2 (call : Call) (fu : Nat) (s : St) (t5 t7 t28 t30 : AV) : Out :=
    pickK t28 t30 (.bool false) fun v0 =>
    J181_1 call fu s t5 t7 v0

def J181_3 (call : Call) (fu : Nat) (s : St) (t0 : AV) : Out :=
    nilK t0 fun v1 =>
    fieldK 0 v1 fun v2 =>
    loadK ⟨1, false⟩ s v2 fun v3 =>
    nilK t0 fun v4 =>
    fieldK 1 v4 fun v5 =>
    loadK ⟨1, false⟩ s v5 fun v6 =>
    outK (call 135 [v3, v6] s) fun v7 s8 =>
    extractK v7 0 fun v9 =>
    extractK v7 1 fun v10 =>
    extractK v7 2 fun v11 =>
    binK .eql v11 (.int .i64 (.ofNat 0)) fun v12 =>
    guardK true v12 (J181_2 call fu s8 v9 v11 v12 (.tup [])) <|
    notK v10 fun v13 =>
    J181_2 call fu s8 v9 v11 v12 v13

def F181 (call : Call) (fu : Nat) (args : List AV) (s : St) : Out := match args with
  | [t0] =>
    outK (call 263 [t0] s) fun v14 s15 =>
    binK .neq v14 (.int .i64 (.ofNat 0)) fun v16 =>
    condK v16 (.ret (.tup [.nils, v14]) s15)
    (J181_3 call fu s15 t0)
  | _ => .err

abbrev orc181c (call : Call) (fu : Nat) (st : List IH) (id i : Nat) (s : St) (v : List AV) : Out := ch (Nat.beq id 4 && Nat.beq i 0) (J181_3 call fu s (nthL v 0)) (
    ch (Nat.beq id 5 && Nat.beq i 5) (J181_2 call fu s (nthL v 0) (nthL v 1) (nthL v 2) (nthL v 3)) (
    ch (Nat.beq id 6 && Nat.beq i 0) (J181_1 call fu s (nthL v 0) (nthL v 1) (nthL v 2)) (
    ch (Nat.beq id 7 && Nat.beq i 0) (J181_0 call fu s (nthL v 0) (nthL v 1)) (
    .err))))
abbrev orc181b (call : Call) (fu : Nat) (st : List IH) (id : Nat) (ih : IH) (s : St) (v : List AV) : Out := .err
abbrev orc181p (call : Call) (fu : Nat) (st : List IH) (id k : Nat) (s : St) (v : List AV) : Out := .err
abbrev orc181m (call : Call) (fu : Nat) (id : Nat) (v : List AV) (s : St) : Out := .err
def lv181 (id i : Nat) : Option (List Tmp) := bif Nat.beq id 4 && Nat.beq i 0 then some [0] else
    bif Nat.beq id 5 && Nat.beq i 5 then some [5, 7, 28, 30] else
    bif Nat.beq id 6 && Nat.beq i 0 then some [5, 7, 31] else
    bif Nat.beq id 7 && Nat.beq i 0 then some [7, 5] else
    none
/- 182 -/
def J182_0 (call : Call) (fu : Nat) (s : St) (t5 t10 : AV) : Out :=
    pickK t5 t10 (.bool false) fun v0 =>
    .ret v0 s

def F182 (call : Call) (fu : Nat) (args : List AV) (s : St) : Out := match args with
  | [t0] =>
    eqK .ptr s true t0 .nilv fun v1 =>
    guardK true v1 (J182_0 call fu s v1 (.tup [])) <|
    nilK t0 fun v2 =>
    fieldK 0 v2 fun v3 =>
    loadK ⟨1, false⟩ s v3 fun v4 =>
    eqK .ptr s true v4 .nilv fun v5 =>
    J182_0 call fu s v1 v5
  | _ => .err

abbrev orc182c (call : Call) (fu : Nat) (st : List IH) (id i : Nat) (s : St) (v : List AV) : Out := ch (Nat.beq id 1 && Nat.beq i 8) (J182_0 call fu s (nthL v 0) (nthL v 1)) (
    .err)
abbrev orc182b (call : Call) (fu : Nat) (st : List IH) (id : Nat) (ih : IH) (s : St) (v : List AV) : Out := .err
abbrev orc182p (call : Call) (fu : Nat) (st : List IH) (id k : Nat) (s : St) (v : List AV) : Out := .err
abbrev orc182m (call : Call) (fu : Nat) (id : Nat) (v : List AV) (s : St) : Out := .err
def lv182 (id i : Nat) : Option (List Tmp) := bif Nat.beq id 1 && Nat.beq i 8 then some [5, 10] else
    none
/- 183 -/
def J183_0 (call : Call) (fu : Nat) (s : St) (t5 t10 : AV) : Out :=
    pickK t5 t10 (.bool false) fun v0 =>
    .ret v0 s

def F183 (call : Call) (fu : Nat) (args : List AV) (s : St) : Out := match args with
  | [t0] =>
    outK (call 182 [t0] s) fun v1 s2 =>
    guardK true v1 (J183_0 call fu s2 v1 (.tup [])) <|
    nilK t0 fun v3 =>
    fieldK 4 v3 fun v4 =>
    loadK ⟨1, false⟩ s2 v4 fun v5 =>
    notK v5 fun v6 =>
    J183_0 call fu s2 v1 v6
  | _ => .err

abbrev orc183c (call : Call) (fu : Nat) (st : List IH) (id i : Nat) (s : St) (v : List AV) : Out := ch (Nat.beq id 1 && Nat.beq i 8) (J183_0 call fu s (nthL v 0) (nthL v 1)) (
    .err)
abbrev orc183b (call : Call) (fu : Nat) (st : List IH) (id : Nat) (ih : IH) (s : St) (v : List AV) : Out := .err
abbrev orc183p (call : Call) (fu : Nat) (st : List IH) (id k : Nat) (s : St) (v : List AV) : Out := .err
abbrev orc183m (call : Call) (fu : Nat) (id : Nat) (v : List AV) (s : St) : Out := .err
def lv183 (id i : Nat) : Option (List Tmp) := bif Nat.beq id 1 && Nat.beq i 8 then some [5, 10] else
    none
/- 184 -/
def J184_0 (call : Call) (fu : Nat) (s : St) (t3 : AV) : Out :=
    .ret t3 s

def J184_1 (call : Call) (fu : Nat) (s : St) (t3 t14 : AV) : Out :=
    condK t14 (J184_0 call fu s (.int .i64 (.ofNat 6)))
    (J184_0 call fu s t3)

def J184_2 (call : Call) (fu : Nat) (s : St) (t3 t8 t13 : AV) : Out :=
    pickK t8 t13 (.bool false) fun v0 =>
    J184_1 call fu s t3 v0

def F184 (call : Call) (fu : Nat) (args : List AV) (s : St) : Out := match args with
  | [t0] =>
    outK (call 103 [t0] s) fun v1 s2 =>
    binK .eql v1 (.int .i64 (.ofNat 0)) fun v3 =>
    guardK true v3 (J184_2 call fu s2 v1 v3 (.tup [])) <|
    nilK t0 fun v4 =>
    fieldK 3 v4 fun v5 =>
    loadK ⟨1, false⟩ s2 v5 fun v6 =>
    eqK .ptr s2 false v6 .nilv fun v7 =>
    J184_2 call fu s2 v1 v3 v7
  | _ => .err

abbrev orc184c (call : Call) (fu : Nat) (st : List IH) (id i : Nat) (s : St) (v : List AV) : Out := ch (Nat.beq id 2 && Nat.beq i 8) (J184_2 call fu s (nthL v 0) (nthL v 1) (nthL v 2)) (
    ch (Nat.beq id 3 && Nat.beq i 0) (J184_1 call fu s (nthL v 0) (nthL v 1)) (
    ch (Nat.beq id 4 && Nat.beq i 0) (J184_0 call fu s (nthL v 0)) (
    .err)))
abbrev orc184b (call : Call) (fu : Nat) (st : List IH) (id : Nat) (ih : IH) (s : St) (v : List AV) : Out := .err
abbrev orc184p (call : Call) (fu : Nat) (st : List IH) (id k : Nat) (s : St) (v : List AV) : Out := .err
abbrev orc184m (call : Call) (fu : Nat) (id : Nat) (v : List AV) (s : St) : Out := .err
def lv184 (id i : Nat) : Option (List Tmp) := bif Nat.beq id 2 && Nat.beq i 8 then some [3, 8, 13] else
    bif Nat.beq id 3 && Nat.beq i 0 then some [3, 14] else
    bif Nat.beq id 4 && Nat.beq i 0 then some [3] else
    none
/- 185 -/
def J185_0 (call : Call) (fu : Nat) (s : St) (t0 : AV) : Out :=
    fillK (.bytes 0 0) [] fun v0 => newK s (.row 5 v0) fun i1 s2 =>
    appK 5 1 s2 (.slice i1 0 0 0 1 false) t0 fun v3 s4 =>
    .ret v3 s4

def F185 (call : Call) (fu : Nat) (args : List AV) (s : St) : Out := match args with
  | [t0] =>
    eqK .slice s false t0 .nils fun v5 =>
    condK v5 (.ret .nils s)
    (J185_0 call fu s t0)
  | _ => .err

abbrev orc185c (call : Call) (fu : Nat) (st : List IH) (id i : Nat) (s : St) (v : List AV) : Out := ch (Nat.beq id 3 && Nat.beq i 0) (J185_0 call fu s (nthL v 0)) (
    .err)
abbrev orc185b (call : Call) (fu : Nat) (st : List IH) (id : Nat) (ih : IH) (s : St) (v : List AV) : Out := .err
abbrev orc185p (call : Call) (fu : Nat) (st : List IH) (id k : Nat) (s : St) (v : List AV) : Out := .err
abbrev orc185m (call : Call) (fu : Nat) (id : Nat) (v : List AV) (s : St) : Out := .err
def lv185 (id i : Nat) : Option (List Tmp) := bif Nat.beq id 3 && Nat.beq i 0 then some [0] else
    none
/- 186 -/
def J186_0 (call : Call) (fu : Nat) (s : St) (t22 : AV) : Out :=
    loadK ⟨2, true⟩ s t22 fun v0 =>
    outK (call 267 [v0] s) fun v1 s2 =>
    fillK (.cells [(.bool false), (.int .i64 (.ofNat 0)), .nils, (.int .i64 (.ofNat 0))]) [(0, 3, v1)] fun v3 =>
    outK (call 264 [v3] s2) fun v4 s5 =>
    .ret (.tup [v4, (.bool true), (.int .i64 (.ofNat 0))]) s5

def J186_1 (call : Call) (fu : Nat) (s : St) (t20 t18 t13 t0 : AV) : Out :=
    loadK ⟨3, true⟩ s t13 fun v6 =>
    outK (call 252 [v6] s) fun v7 s8 =>
    outK (call 266 [t0, v7, t18, t20] s8) fun v9 s10 =>
    extractK v9 0 fun v11 =>
    extractK v9 1 fun v12 =>
    allocK s10 355 (.cells [.nils, .nils]) fun v13 s14 =>
    storeK ⟨2, true⟩ s14 v13 v11 fun s15 =>
    binK .neq v12 (.int .i64 (.ofNat 0)) fun v16 =>
    condK v16 (.ret (.tup [.nils, (.bool false), v12]) s15)
    (J186_0 call fu s15 v13)

def J186_2 (call : Call) (fu : Nat) (s : St) (t14 t20 t18 t13 t0 t76 : AV) : Out :=
    condK t76 (.ret (.tup [.nils, (.bool false), t14]) s)
    (J186_1 call fu s t20 t18 t13 t0)

def J186_3 (call : Call) (fu : Nat) (s : St) (t14 t20 t18 t13 t0 t73 t75 : AV) : Out :=
    pickK t73 (.bool true) t75 fun v17 =>
    J186_2 call fu s t14 t20 t18 t13 t0 v17

def J186_4 (call : Call) (fu : Nat) (s : St) (t13 t0 t4 t3 t2 : AV) : Out :=
    loadK ⟨3, true⟩ s t13 fun v18 =>
    outK (call 265 [v18, t2] s) fun v19 s20 =>
    extractK v19 0 fun v21 =>
    extractK v19 1 fun v22 =>
    binK .add t3 (.int .i64 (.ofNat 1)) fun v23 =>
    outK (call 186 [t0, v22, t2, v23, t4] s20) fun v24 s25 =>
    extractK v24 0 fun v26 =>
    extractK v24 1 fun v27 =>
    extractK v24 2 fun v28 =>
    binK .neq v28 (.int .i64 (.ofNat 0)) fun v29 =>
    guardK false v29 (J186_3 call fu s25 v28 v26 v21 t13 t0 v29 (.tup [])) <|
    notK v27 fun v30 =>
    J186_3 call fu s25 v28 v26 v21 t13 t0 v29 v30

def J186_5 (call : Call) (fu : Nat) (s : St) (t15 : AV) : Out :=
    fillK (.cells [(.bool false), (.int .i64 (.ofNat 0)), .nils]) [(0, 1, (.bool true)), (2, 1, t15)] fun v31 =>
    fillK (.cells [(.bool false), (.int .i64 (.ofNat 0)), .nils, (.int .i64 (.ofNat 0))]) [(0, 3, v31)] fun v32 =>
    outK (call 264 [v32] s) fun v33 s34 =>
    .ret (.tup [v33, (.bool true), (.int .i64 (.ofNat 0))]) s34

def J186_6 (call : Call) (fu : Nat) (s : St) (t17 t15 t48 : AV) : Out :=
    condK t48 (.ret (.tup [.nils, (.bool false), t17]) s)
    (J186_5 call fu s t15)

def J186_7 (call : Call) (fu : Nat) (s : St) (t17 t15 t45 t47 : AV) : Out :=
    pickK t45 (.bool true) t47 fun v35 =>
    J186_6 call fu s t17 t15 v35

def J186_8 (call : Call) (fu : Nat) (s : St) (t13 t4 t0 t3 t2 : AV) : Out :=
    fieldK 0 t13 fun v36 =>
    loadK ⟨1, false⟩ s v36 fun v37 =>
    condK v37 (loadK ⟨3, true⟩ s t13 fun v38 =>
    callVK call t4 [v38] s fun v39 s40 =>
    extractK v39 0 fun v41 =>
    extractK v39 1 fun v42 =>
    extractK v39 2 fun v43 =>
    binK .neq v43 (.int .i64 (.ofNat 0)) fun v44 =>
    guardK false v44 (J186_7 call fu s40 v43 v41 v44 (.tup [])) <|
    notK v42 fun v45 =>
    J186_7 call fu s40 v43 v41 v44 v45)
    (J186_4 call fu s t13 t0 t4 t3 t2)

def J186_9 (call : Call) (fu : Nat) (s : St) (t4 t0 t3 t2 t1 : AV) : Out :=
    outK (call 131 [t0, t1] s) fun v46 s47 =>
    extractK v46 0 fun v48 =>
    extractK v46 1 fun v49 =>
    allocK s47 206 (.cells [(.bool false), (.int .i64 (.ofNat 0)), .nils]) fun v50 s51 =>
    storeK ⟨3, true⟩ s51 v50 v48 fun s52 =>
    binK .neq v49 (.int .i64 (.ofNat 0)) fun v53 =>
    condK v53 (.ret (.tup [.nils, (.bool false), v49]) s52)
    (J186_8 call fu s52 v50 t4 t0 t3 t2)

def F186 (call : Call) (fu : Nat) (args : List AV) (s : St) : Out := match args with
  | [t0, t1, t2, t3, t4] =>
    binK .gtr t3 (.int .i64 (.ofNat 20)) fun v54 =>
    condK v54 (.ret (.tup [.nils, (.bool false), (.int .i64 (.ofNat 9))]) s)
    (J186_9 call fu s t4 t0 t3 t2 t1)
  | _ => .err

abbrev orc186c (call : Call) (fu : Nat) (st : List IH) (id i : Nat) (s : St) (v : List AV) : Out := ch (Nat.beq id 3 && Nat.beq i 0) (J186_9 call fu s (nthL v 0) (nthL v 1) (nthL v 2) (nthL v 3) (nthL v 4)) (
    ch (Nat.beq id 6 && Nat.beq i 0) (J186_8 call fu s (nthL v 0) (nthL v 1) (nthL v 2) (nthL v 3) (nthL v 4)) (
    ch (Nat.beq id 8 && Nat.beq i 5) (J186_7 call fu s (nthL v 0) (nthL v 1) (nthL v 2) (nthL v 3)) (
    ch (Nat.beq id 9 && Nat.beq i 0) (J186_6 call fu s (nthL v 0) (nthL v 1) (nthL v 2)) (
    ch (Nat.beq id 10 && Nat.beq i 0) (J186_5 call fu s (nthL v 0)) (
    ch (Nat.beq id 11 && Nat.beq i 0) (J186_4 call fu s (nthL v 0) (nthL v 1) (nthL v 2) (nthL v 3) (nthL v 4)) (
    ch (Nat.beq id 13 && Nat.beq i 5) (J186_3 call fu s (nthL v 0) (nthL v 1) (nthL v 2) (nthL v 3) (nthL v 4) (nthL v 5) (nthL v 6)) (
    ch (Nat.beq id 14 && Nat.beq i 0) (J186_2 call fu s (nthL v 0) (nthL v 1) (nthL v 2) (nthL v 3) (nthL v 4) (nthL v 5)) (
    ch (Nat.beq id 15 && Nat.beq i 0) (J186_1 call fu s (nthL v 0) (nthL v 1) (nthL v 2) (nthL v 3)) (
    ch (Nat.beq id 18 && Nat.beq i 0) (J186_0 call fu s (nthL v 0)) (
    .err))))))))))
abbrev orc186b (call : Call) (fu : Nat) (st : List IH) (id : Nat) (ih : IH) (s : St) (v : List AV) : Out := .err
abbrev orc186p (call : Call) (fu : Nat) (st : List IH) (id k : Nat) (s : St) (v : List AV) : Out := .err
abbrev orc186m (call : Call) (fu : Nat) (id : Nat) (v : List AV) (s : St) : Out := .err
def lv186 (id i : Nat) : Option (List Tmp) := bif Nat.beq id 3 && Nat.beq i 0 then some [4, 0, 3, 2, 1] else
    bif Nat.beq id 6 && Nat.beq i 0 then some [13, 4, 0, 3, 2] else
    bif Nat.beq id 8 && Nat.beq i 5 then some [17, 15, 45, 47] else
    bif Nat.beq id 9 && Nat.beq i 0 then some [17, 15, 48] else
    bif Nat.beq id 10 && Nat.beq i 0 then some [15] else
    bif Nat.beq id 11 && Nat.beq i 0 then some [13, 0, 4, 3, 2] else
    bif Nat.beq id 13 && Nat.beq i 5 then some [14, 20, 18, 13, 0, 73, 75] else
    bif Nat.beq id 14 && Nat.beq i 0 then some [14, 20, 18, 13, 0, 76] else
    bif Nat.beq id 15 && Nat.beq i 0 then some [20, 18, 13, 0] else
    bif Nat.beq id 18 && Nat.beq i 0 then some [22] else
    none
/- 187 -/
def J187_0 (call : Call) (fu : Nat) (s : St) (t10 t0 : AV) : Out :=
    nilK t0 fun v0 =>
    fieldK 1 v0 fun v1 =>
    loadK ⟨1, false⟩ s v1 fun v2 =>
    loadK ⟨3, true⟩ s t10 fun v3 =>
    outK (call 124 [t0, v2, v3] s) fun v4 s5 =>
    .ret v4 s5

def J187_2 (call : Call) (fu : Nat) (ih1 : St → AV → AV → Out) (s : St) (t11 t0 t10 : AV) : Out :=
    nilK t0 fun v6 =>
    fieldK 0 v6 fun v7 =>
    loadK ⟨1, false⟩ s v7 fun v8 =>
    outK (call 134 [v8, t11] s) fun v9 s10 =>
    binK .neq v9 (.int .i64 (.ofNat 0)) fun v11 =>
    condK v11 (.ret v9 s10)
    (ih1 s10 t0 t10)

def J187_3 (call : Call) (fu : Nat) (ih1 : St → AV → AV → Out) (s : St) (t0 t10 : AV) : Out :=
    fieldK 1 t10 fun v12 =>
    loadK ⟨1, false⟩ s v12 fun v13 =>
    outK (call 131 [t0, v13] s) fun v14 s15 =>
    extractK v14 0 fun v16 =>
    extractK v14 1 fun v17 =>
    storeK ⟨3, true⟩ s15 t10 v16 fun s18 =>
    binK .neq v17 (.int .i64 (.ofNat 0)) fun v19 =>
    condK v19 (.ret v17 s18)
    (J187_2 call fu ih1 s18 v13 t0 t10)

def J187_4 (call : Call) (fu : Nat) (ih1 : St → AV → AV → Out) (s : St) (t0 t10 t50 t54 : AV) : Out :=
    pickK t50 t54 (.bool false) fun v20 =>
    condK v20 (J187_3 call fu ih1 s t0 t10)
    (J187_0 call fu s t10 t0)

def L187_1b (call : Call) (fu : Nat) (ih1 : St → AV → AV → Out) (s : St) (t0 t10 : AV) : Out :=
    fieldK 0 t10 fun v21 =>
    loadK ⟨1, false⟩ s v21 fun v22 =>
    notK v22 fun v23 =>
    guardK true v23 (J187_4 call fu ih1 s t0 t10 v23 (.tup [])) <|
    fieldK 2 t10 fun v24 =>
    loadK ⟨1, false⟩ s v24 fun v25 =>
    lenSlK v25 fun v26 =>
    binK .eql (goInt v26) (.int .i64 (.ofNat 0)) fun v27 =>
    J187_4 call fu ih1 s t0 t10 v23 v27

def L187_1 (call : Call) (fu : Nat) (n : Nat) : St → AV → AV → Out :=
  Nat.rec (motive := fun _ => St → AV → AV → Out) (fun _ _ _ => .err) (fun _ ih => L187_1b call fu ih) n

def J187_5 (call : Call) (fu : Nat) (s : St) (t0 t1 : AV) : Out :=
    indexSlK 4 t1 (.int .i64 (.ofNat 0)) fun v28 =>
    fieldK 0 v28 fun v29 =>
    loadK ⟨3, true⟩ s v29 fun v30 =>
    allocK s 206 (.cells [(.bool false), (.int .i64 (.ofNat 0)), .nils]) fun v31 s32 =>
    storeK ⟨3, true⟩ s32 v31 v30 fun s33 =>
    L187_1 call fu fu s33 t0 v31

def J187_7 (call : Call) (fu : Nat) (ih6 : St → AV → AV → Out) (s : St) (t7 t5 t0 : AV) : Out :=
    fillK (.cells [.nils, .nils]) [(0, 1, t5), (1, 1, t7)] fun v34 =>
    outK (call 267 [v34] s) fun v35 s36 =>
    fillK (.cells [(.bool false), (.int .i64 (.ofNat 0)), .nils, (.int .i64 (.ofNat 0))]) [(0, 3, v35)] fun v37 =>
    outK (call 264 [v37] s36) fun v38 s39 =>
    ih6 s39 v38 t0

def J187_9 (call : Call) (fu : Nat) (ih6 : St → AV → AV → Out) (ih8 : St → AV → AV → AV → AV → AV → AV → Out) (s : St) (t27 t7 t25 t5 t26 t0 : AV) : Out :=
    binK .add t27 (.int .i64 (.ofNat 1)) fun v40 =>
    ih8 s v40 t7 t25 t5 t26 t0

def J187_10 (call : Call) (fu : Nat) (ih6 : St → AV → AV → Out) (ih8 : St → AV → AV → AV → AV → AV → AV → Out) (s : St) (t27 t7 t25 t5 t26 t0 : AV) : Out :=
    indexSlK 4 t25 t27 fun v41 =>
    loadK ⟨4, true⟩ s v41 fun v42 =>
    allocK s 372 (.cells [(.bool false), (.int .i64 (.ofNat 0)), .nils, (.int .i64 (.ofNat 0))]) fun v43 s44 =>
    storeK ⟨4, true⟩ s44 v43 v42 fun s45 =>
    fieldK 3 v43 fun v46 =>
    loadK ⟨1, false⟩ s45 v46 fun v47 =>
    fillK (.cells [(.int .i64 (.ofNat 0))]) [(0, 1, v47)] fun v48 => newK s45 (.row 3 v48) fun i49 s50 =>
    appK 3 1 s50 t7 (.slice i49 0 1 1 1 false) fun v51 s52 =>
    J187_9 call fu ih6 ih8 s52 t27 v51 t25 t5 t26 t0

def L187_8b (call : Call) (fu : Nat) (ih6 : St → AV → AV → Out) (ih8 : St → AV → AV → AV → AV → AV → AV → Out) (s : St) (t27 t7 t25 t5 t26 t0 : AV) : Out :=
    binK .lss t27 t26 fun v53 =>
    condK v53 (J187_10 call fu ih6 ih8 s t27 t7 t25 t5 t26 t0)
    (J187_7 call fu ih6 s t7 t5 t0)

def L187_8 (call : Call) (fu : Nat) (ih6 : St → AV → AV → Out) (n : Nat) : St → AV → AV → AV → AV → AV → AV → Out :=
  Nat.rec (motive := fun _ => St → AV → AV → AV → AV → AV → AV → Out) (fun _ _ _ _ _ _ _ => .err) (fun _ ih => L187_8b call fu ih6 ih) n

def J187_11 (call : Call) (fu : Nat) (ih6 : St → AV → AV → Out) (s : St) (t5 t1 t0 : AV) : Out :=
    lenSlK t1 fun v54 =>
    L187_8 call fu ih6 fu s (.int .i64 (.ofNat 0)) .nils t1 t5 (goInt v54) t0

def J187_12 (call : Call) (fu : Nat) (ih6 : St → AV → AV → Out) (s : St) (t1 t0 : AV) : Out :=
    outK (call 268 [t0, .nils, t1] s) fun v55 s56 =>
    extractK v55 0 fun v57 =>
    extractK v55 1 fun v58 =>
    binK .neq v58 (.int .i64 (.ofNat 0)) fun v59 =>
    condK v59 (.ret v58 s56)
    (J187_11 call fu ih6 s56 v57 t1 t0)

def L187_6b (call : Call) (fu : Nat) (ih6 : St → AV → AV → Out) (s : St) (t1 t0 : AV) : Out :=
    lenSlK t1 fun v60 =>
    binK .gtr (goInt v60) (.int .i64 (.ofNat 1)) fun v61 =>
    condK v61 (J187_12 call fu ih6 s t1 t0)
    (J187_5 call fu s t0 t1)

def L187_6 (call : Call) (fu : Nat) (n : Nat) : St → AV → AV → Out :=
  Nat.rec (motive := fun _ => St → AV → AV → Out) (fun _ _ _ => .err) (fun _ ih => L187_6b call fu ih) n

def F187 (call : Call) (fu : Nat) (args : List AV) (s : St) : Out := match args with
  | [t0, t1] =>
    L187_6 call fu fu s t1 t0
  | _ => .err

abbrev orc187c (call : Call) (fu : Nat) (st : List IH) (id i : Nat) (s : St) (v : List AV) : Out := ch (Nat.beq id 2 && Nat.beq i 0) (J187_12 call fu (fun s x0 x1 => nthI st 0 s [x0, x1]) s (nthL v 0) (nthL v 1)) (
    ch (Nat.beq id 5 && Nat.beq i 0) (J187_11 call fu (fun s x0 x1 => nthI st 0 s [x0, x1]) s (nthL v 0) (nthL v 1) (nthL v 2)) (
    ch (Nat.beq id 8 && Nat.beq i 0) (J187_10 call fu (fun s x0 x1 => nthI st 1 s [x0, x1]) (fun s x0 x1 x2 x3 x4 x5 => nthI st 0 s [x0, x1, x2, x3, x4, x5]) s (nthL v 0) (nthL v 1) (nthL v 2) (nthL v 3) (nthL v 4) (nthL v 5)) (
    ch (Nat.beq id 10 && Nat.beq i 0) (J187_9 call fu (fun s x0 x1 => nthI st 1 s [x0, x1]) (fun s x0 x1 x2 x3 x4 x5 => nthI st 0 s [x0, x1, x2, x3, x4, x5]) s (nthL v 0) (nthL v 1) (nthL v 2) (nthL v 3) (nthL v 4) (nthL v 5)) (
    ch (Nat.beq id 11 && Nat.beq i 0) (J187_7 call fu (fun s x0 x1 => nthI st 0 s [x0, x1]) s (nthL v 0) (nthL v 1) (nthL v 2)) (
    ch (Nat.beq id 12 && Nat.beq i 0) (J187_5 call fu s (nthL v 0) (nthL v 1)) (
    ch (Nat.beq id 13 && Nat.beq i 8) (J187_4 call fu (fun s x0 x1 => nthI st 0 s [x0, x1]) s (nthL v 0) (nthL v 1) (nthL v 2) (nthL v 3)) (
    ch (Nat.beq id 14 && Nat.beq i 0) (J187_3 call fu (fun s x0 x1 => nthI st 0 s [x0, x1]) s (nthL v 0) (nthL v 1)) (
    ch (Nat.beq id 19 && Nat.beq i 0) (J187_2 call fu (fun s x0 x1 => nthI st 0 s [x0, x1]) s (nthL v 0) (nthL v 1) (nthL v 2)) (
    ch (Nat.beq id 22 && Nat.beq i 0) (J187_0 call fu s (nthL v 0) (nthL v 1)) (
    .err))))))))))
abbrev orc187b (call : Call) (fu : Nat) (st : List IH) (id : Nat) (ih : IH) (s : St) (v : List AV) : Out := ch (Nat.beq id 7) (L187_8b call fu (fun s x0 x1 => nthI st 0 s [x0, x1]) (fun s x0 x1 x2 x3 x4 x5 => ih s [x0, x1, x2, x3, x4, x5]) s (nthL v 0) (nthL v 1) (nthL v 2) (nthL v 3) (nthL v 4) (nthL v 5)) (
    ch (Nat.beq id 1) (L187_6b call fu (fun s x0 x1 => ih s [x0, x1]) s (nthL v 0) (nthL v 1)) (
    ch (Nat.beq id 13) (L187_1b call fu (fun s x0 x1 => ih s [x0, x1]) s (nthL v 0) (nthL v 1)) (
    .err)))
abbrev orc187p (call : Call) (fu : Nat) (st : List IH) (id k : Nat) (s : St) (v : List AV) : Out := ch (Nat.beq id 7) (L187_8 call fu (fun s x0 x1 => nthI st 0 s [x0, x1]) k s (nthL v 0) (nthL v 1) (nthL v 2) (nthL v 3) (nthL v 4) (nthL v 5)) (
    ch (Nat.beq id 1) (L187_6 call fu k s (nthL v 0) (nthL v 1)) (
    ch (Nat.beq id 13) (L187_1 call fu k s (nthL v 0) (nthL v 1)) (
    .err)))
abbrev orc187m (call : Call) (fu : Nat) (id : Nat) (v : List AV) (s : St) : Out := .err
def lv187 (id i : Nat) : Option (List Tmp) := bif Nat.beq id 2 && Nat.beq i 0 then some [1, 0] else
    bif Nat.beq id 5 && Nat.beq i 0 then some [5, 1, 0] else
    bif Nat.beq id 8 && Nat.beq i 0 then some [27, 7, 25, 5, 26, 0] else
    bif Nat.beq id 10 && Nat.beq i 0 then some [27, 7, 25, 5, 26, 0] else
    bif Nat.beq id 7 && Nat.beq i 0 then some [27, 7, 25, 5, 26, 0] else
    bif Nat.beq id 11 && Nat.beq i 0 then some [7, 5, 0] else
    bif Nat.beq id 1 && Nat.beq i 0 then some [1, 0] else
    bif Nat.beq id 12 && Nat.beq i 0 then some [0, 1] else
    bif Nat.beq id 13 && Nat.beq i 8 then some [0, 10, 50, 54] else
    bif Nat.beq id 14 && Nat.beq i 0 then some [0, 10] else
    bif Nat.beq id 19 && Nat.beq i 0 then some [11, 0, 10] else
    bif Nat.beq id 13 && Nat.beq i 0 then some [0, 10] else
    bif Nat.beq id 22 && Nat.beq i 0 then some [10, 0] else
    none
/- 188 -/
def J188_0 (call : Call) (fu : Nat) (s : St) (t35 t39 t47 : AV) : Out :=
    pickK t39 t47 (.bool false) fun v0 =>
    .ret (.tup [t35, v0]) s

def J188_1 (call : Call) (fu : Nat) (s : St) (t1 t9 t0 t2 t8 : AV) : Out :=
    binK .lss t9 t8 fun v1 =>
    guardK true v1 (J188_0 call fu s t9 v1 (.tup [])) <|
    indexSlK 5 t0 t9 fun v2 =>
    loadK ⟨5, true⟩ s v2 fun v3 =>
    callVK call t2 [v3, t1] s fun v4 s5 =>
    binK .eql v4 (.int .i64 (.ofNat 0)) fun v6 =>
    J188_0 call fu s5 t9 v1 v6

def J188_3 (call : Call) (fu : Nat) (ih2 : St → AV → AV → AV → AV → AV → AV → Out) (s : St) (t1 t0 t2 t10 t9 t8 : AV) : Out :=
    binK .add t9 t10 fun v7 =>
    convK .u64 v7 fun v8 =>
    binK .shr v8 (.int .u64 (.ofNat 1)) fun v9 =>
    convK .i64 v9 fun v10 =>
    indexSlK 5 t0 v10 fun v11 =>
    loadK ⟨5, true⟩ s v11 fun v12 =>
    callVK call t2 [v12, t1] s fun v13 s14 =>
    binK .lss v13 (.int .i64 (.ofNat 0)) fun v15 =>
    condK v15 (binK .add v10 (.int .i64 (.ofNat 1)) fun v16 =>
    ih2 s14 t1 t0 t2 t10 v16 t8)
    (ih2 s14 t1 t0 t2 v10 t9 t8)

def L188_2b (call : Call) (fu : Nat) (ih2 : St → AV → AV → AV → AV → AV → AV → Out) (s : St) (t1 t0 t2 t10 t9 t8 : AV) : Out :=
    binK .lss t9 t10 fun v17 =>
    condK v17 (J188_3 call fu ih2 s t1 t0 t2 t10 t9 t8)
    (J188_1 call fu s t1 t9 t0 t2 t8)

def L188_2 (call : Call) (fu : Nat) (n : Nat) : St → AV → AV → AV → AV → AV → AV → Out :=
  Nat.rec (motive := fun _ => St → AV → AV → AV → AV → AV → AV → Out) (fun _ _ _ _ _ _ _ => .err) (fun _ ih => L188_2b call fu ih) n

def F188 (call : Call) (fu : Nat) (args : List AV) (s : St) : Out := match args with
  | [t0, t1, t2] =>
    lenSlK t0 fun v18 =>
    L188_2 call fu fu s t1 t0 t2 (goInt v18) (.int .i64 (.ofNat 0)) (goInt v18)
  | _ => .err

abbrev orc188c (call : Call) (fu : Nat) (st : List IH) (id i : Nat) (s : St) (v : List AV) : Out := ch (Nat.beq id 4 && Nat.beq i 0) (J188_3 call fu (fun s x0 x1 x2 x3 x4 x5 => nthI st 0 s [x0, x1, x2, x3, x4, x5]) s (nthL v 0) (nthL v 1) (nthL v 2) (nthL v 3) (nthL v 4) (nthL v 5)) (
    ch (Nat.beq id 8 && Nat.beq i 0) (J188_1 call fu s (nthL v 0) (nthL v 1) (nthL v 2) (nthL v 3) (nthL v 4)) (
    ch (Nat.beq id 8 && Nat.beq i 13) (J188_0 call fu s (nthL v 0) (nthL v 1) (nthL v 2)) (
    .err)))
abbrev orc188b (call : Call) (fu : Nat) (st : List IH) (id : Nat) (ih : IH) (s : St) (v : List AV) : Out := ch (Nat.beq id 3) (L188_2b call fu (fun s x0 x1 x2 x3 x4 x5 => ih s [x0, x1, x2, x3, x4, x5]) s (nthL v 0) (nthL v 1) (nthL v 2) (nthL v 3) (nthL v 4) (nthL v 5)) (
    .err)
abbrev orc188p (call : Call) (fu : Nat) (st : List IH) (id k : Nat) (s : St) (v : List AV) : Out := ch (Nat.beq id 3) (L188_2 call fu k s (nthL v 0) (nthL v 1) (nthL v 2) (nthL v 3) (nthL v 4) (nthL v 5)) (
    .err)
abbrev orc188m (call : Call) (fu : Nat) (id : Nat) (v : List AV) (s : St) : Out := .err
def lv188 (id i : Nat) : Option (List Tmp) := bif Nat.beq id 4 && Nat.beq i 0 then some [1, 0, 2, 10, 9, 8] else
    bif Nat.beq id 3 && Nat.beq i 0 then some [1, 0, 2, 10, 9, 8] else
    bif Nat.beq id 8 && Nat.beq i 0 then some [1, 9, 0, 2, 8] else
    bif Nat.beq id 8 && Nat.beq i 13 then some [35, 39, 47] else
    none
/- 189 -/
def J189_0 (call : Call) (fu : Nat) (s : St) : Out :=
    .ret (.int .i64 (.ofNat 0)) s

def F189 (call : Call) (fu : Nat) (args : List AV) (s : St) : Out := match args with
  | [t0, t1] =>
    boxK s 211 5 t0 fun v0 s1 =>
    fieldK 0 v0 fun v2 =>
    loadK ⟨1, false⟩ s1 v2 fun v3 =>
    binK .lss v3 t1 fun v4 =>
    condK v4 (.ret (.int .i64 (.negSucc 0)) s1)
    (fieldK 0 v0 fun v5 =>
    loadK ⟨1, false⟩ s1 v5 fun v6 =>
    binK .gtr v6 t1 fun v7 =>
    condK v7 (.ret (.int .i64 (.ofNat 1)) s1)
    (J189_0 call fu s1))
  | _ => .err

abbrev orc189c (call : Call) (fu : Nat) (st : List IH) (id i : Nat) (s : St) (v : List AV) : Out := ch (Nat.beq id 5 && Nat.beq i 0) (J189_0 call fu s) (
    .err)
abbrev orc189b (call : Call) (fu : Nat) (st : List IH) (id : Nat) (ih : IH) (s : St) (v : List AV) : Out := .err
abbrev orc189p (call : Call) (fu : Nat) (st : List IH) (id k : Nat) (s : St) (v : List AV) : Out := .err
abbrev orc189m (call : Call) (fu : Nat) (id : Nat) (v : List AV) (s : St) : Out := .err
def lv189 (id i : Nat) : Option (List Tmp) := bif Nat.beq id 5 && Nat.beq i 0 then some [] else
    none
/- 191 -/
def J191_0 (call : Call) (fu : Nat) (s : St) (t0 : AV) : Out :=
    .ret t0 s

def J191_1 (call : Call) (fu : Nat) (s : St) (t0 t3 : AV) : Out :=
    condK t3 (.ret (.int .i64 (.ofNat 0)) s)
    (binK .gtr t0 (.int .i64 (.ofNat 96)) fun v0 =>
    condK v0 (.ret (.int .i64 (.ofNat 32)) s)
    (J191_0 call fu s t0))

def J191_2 (call : Call) (fu : Nat) (s : St) (t0 t6 t8 : AV) : Out :=
    pickK t6 (.bool true) t8 fun v1 =>
    J191_1 call fu s t0 v1

def F191 (call : Call) (fu : Nat) (args : List AV) (s : St) : Out := match args with
  | [t0] =>
    binK .lss t0 (.int .i64 (.ofNat 0)) fun v2 =>
    guardK false v2 (J191_2 call fu s t0 v2 (.tup [])) <|
    binK .gtr t0 (.int .i64 (.ofNat 20000)) fun v3 =>
    J191_2 call fu s t0 v2 v3
  | _ => .err

abbrev orc191c (call : Call) (fu : Nat) (st : List IH) (id i : Nat) (s : St) (v : List AV) : Out := ch (Nat.beq id 1 && Nat.beq i 5) (J191_2 call fu s (nthL v 0) (nthL v 1) (nthL v 2)) (
    ch (Nat.beq id 2 && Nat.beq i 0) (J191_1 call fu s (nthL v 0) (nthL v 1)) (
    ch (Nat.beq id 5 && Nat.beq i 0) (J191_0 call fu s (nthL v 0)) (
    .err)))
abbrev orc191b (call : Call) (fu : Nat) (st : List IH) (id : Nat) (ih : IH) (s : St) (v : List AV) : Out := .err
abbrev orc191p (call : Call) (fu : Nat) (st : List IH) (id k : Nat) (s : St) (v : List AV) : Out := .err
abbrev orc191m (call : Call) (fu : Nat) (id : Nat) (v : List AV) (s : St) : Out := .err
def lv191 (id i : Nat) : Option (List Tmp) := bif Nat.beq id 1 && Nat.beq i 5 then some [0, 6, 8] else
    bif Nat.beq id 2 && Nat.beq i 0 then some [0, 3] else
    bif Nat.beq id 5 && Nat.beq i 0 then some [0] else
    none
/- 193 -/
def J193_0 (call : Call) (fu : Nat) (s : St) (t0 : AV) : Out :=
    .ret t0 s

def J193_1 (call : Call) (fu : Nat) (s : St) (t0 t1 : AV) : Out :=
    capK t0 fun v0 =>
    lenSlK t0 fun v1 =>
    binK .sub v0 (goInt v1) fun v2 =>
    binK .sub t1 v2 fun v3 =>
    binK .gtr v3 (.int .i64 (.ofNat 0)) fun v4 =>
    condK v4 (capK t0 fun v5 =>
    sliceSlK 5 none (some v5) none t0 fun v6 =>
    appZK 211 5 (.cells [(.int .i64 (.ofNat 0)), (.int .i64 (.ofNat 0)), (.int .i64 (.ofNat 0)), .nils, (.int .i64 (.ofNat 0))]) s v6 v3 fun v7 s8 =>
    lenSlK t0 fun v9 =>
    sliceSlK 5 none (some (goInt v9)) none v7 fun v10 =>
    J193_0 call fu s8 v10)
    (J193_0 call fu s t0)

def F193 (call : Call) (fu : Nat) (args : List AV) (s : St) : Out := match args with
  | [t0, t1] =>
    binK .lss t1 (.int .i64 (.ofNat 0)) fun v11 =>
    condK v11 (.err)
    (J193_1 call fu s t0 t1)
  | _ => .err

abbrev orc193c (call : Call) (fu : Nat) (st : List IH) (id i : Nat) (s : St) (v : List AV) : Out := ch (Nat.beq id 3 && Nat.beq i 0) (J193_1 call fu s (nthL v 0) (nthL v 1)) (
    ch (Nat.beq id 6 && Nat.beq i 0) (J193_0 call fu s (nthL v 0)) (
    .err))
abbrev orc193b (call : Call) (fu : Nat) (st : List IH) (id : Nat) (ih : IH) (s : St) (v : List AV) : Out := .err
abbrev orc193p (call : Call) (fu : Nat) (st : List IH) (id k : Nat) (s : St) (v : List AV) : Out := .err
abbrev orc193m (call : Call) (fu : Nat) (id : Nat) (v : List AV) (s : St) : Out := .err
def lv193 (id i : Nat) : Option (List Tmp) := bif Nat.beq id 3 && Nat.beq i 0 then some [0, 1] else
    bif Nat.beq id 6 && Nat.beq i 0 then some [0] else
    none
/- 196 -/
def J196_0 (call : Call) (fu : Nat) (s : St) (t1 t0 : AV) : Out :=
    outK (call 273 [t0, t1] s) fun v0 s1 =>
    extractK v0 0 fun v2 =>
    extractK v0 1 fun v3 =>
    .ret (.tup [v2, v3]) s1

def J196_1 (call : Call) (fu : Nat) (s : St) (t1 t0 : AV) : Out :=
    nilK t0 fun v4 =>
    fieldK 3 v4 fun v5 =>
    loadK ⟨1, false⟩ s v5 fun v6 =>
    eqK .ptr s true v6 .nilv fun v7 =>
    condK v7 (nilK t0 fun v8 =>
    fieldK 3 v8 fun v9 =>
    loadK ⟨1, false⟩ s v9 fun v10 =>
    nilK v10 fun v11 =>
    fieldK 1 v11 fun v12 =>
    loadK ⟨1, false⟩ s v12 fun v13 =>
    lookupK .map .nils true s v13 t1 fun v14 =>
    extractK v14 0 fun v15 =>
    extractK v14 1 fun v16 =>
    condK v16 (outK (call 185 [v15] s) fun v17 s18 =>
    .ret (.tup [v17, (.int .i64 (.ofNat 0))]) s18)
    (J196_0 call fu s t1 t0))
    (J196_0 call fu s t1 t0)

def J196_2 (call : Call) (fu : Nat) (s : St) (t1 t0 t21 : AV) : Out :=
    condK t21 (.ret (.tup [.nils, (.int .i64 (.ofNat 11))]) s)
    (J196_1 call fu s t1 t0)

def J196_3 (call : Call) (fu : Nat) (s : St) (t1 t0 t16 t20 : AV) : Out :=
    pickK t16 (.bool true) t20 fun v19 =>
    J196_2 call fu s t1 t0 v19

def J196_4 (call : Call) (fu : Nat) (s : St) (t1 t0 : AV) : Out :=
    binK .lss t1 (.int .i64 (.ofNat 1)) fun v20 =>
    guardK false v20 (J196_3 call fu s t1 t0 v20 (.tup [])) <|
    outK (call 104 [t0] s) fun v21 s22 =>
    binK .gtr t1 v21 fun v23 =>
    J196_3 call fu s22 t1 t0 v20 v23

def F196 (call : Call) (fu : Nat) (args : List AV) (s : St) : Out := match args with
  | [t0, t1] =>
    outK (call 103 [t0] s) fun v24 s25 =>
    binK .neq v24 (.int .i64 (.ofNat 0)) fun v26 =>
    condK v26 (.ret (.tup [.nils, v24]) s25)
    (J196_4 call fu s25 t1 t0)
  | _ => .err

abbrev orc196c (call : Call) (fu : Nat) (st : List IH) (id i : Nat) (s : St) (v : List AV) : Out := ch (Nat.beq id 4 && Nat.beq i 0) (J196_4 call fu s (nthL v 0) (nthL v 1)) (
    ch (Nat.beq id 4 && Nat.beq i 7) (J196_3 call fu s (nthL v 0) (nthL v 1) (nthL v 2) (nthL v 3)) (
    ch (Nat.beq id 5 && Nat.beq i 0) (J196_2 call fu s (nthL v 0) (nthL v 1) (nthL v 2)) (
    ch (Nat.beq id 6 && Nat.beq i 0) (J196_1 call fu s (nthL v 0) (nthL v 1)) (
    ch (Nat.beq id 10 && Nat.beq i 0) (J196_0 call fu s (nthL v 0) (nthL v 1)) (
    .err)))))
abbrev orc196b (call : Call) (fu : Nat) (st : List IH) (id : Nat) (ih : IH) (s : St) (v : List AV) : Out := .err
abbrev orc196p (call : Call) (fu : Nat) (st : List IH) (id k : Nat) (s : St) (v : List AV) : Out := .err
abbrev orc196m (call : Call) (fu : Nat) (id : Nat) (v : List AV) (s : St) : Out := .err
def lv196 (id i : Nat) : Option (List Tmp) := bif Nat.beq id 4 && Nat.beq i 0 then some [1, 0] else
    bif Nat.beq id 4 && Nat.beq i 7 then some [1, 0, 16, 20] else
    bif Nat.beq id 5 && Nat.beq i 0 then some [1, 0, 21] else
    bif Nat.beq id 6 && Nat.beq i 0 then some [1, 0] else
    bif Nat.beq id 10 && Nat.beq i 0 then some [1, 0] else
    none
/- 199 -/
def J199_0 (call : Call) (fu : Nat) (s : St) (t4 : AV) : Out :=
    lenSlK t4 fun v0 =>
    binK .sub (.int .i64 (.ofNat 512)) (goInt v0) fun v1 =>
    appZK 5 1 (.int .u8 (.ofNat 0)) s t4 v1 fun v2 s3 =>
    .ret v2 s3

def J199_2 (call : Call) (fu : Nat) (ih1 : St → AV → AV → AV → AV → AV → Out) (s : St) (t32 t1 t4 t30 t31 : AV) : Out :=
    binK .add t32 (.int .i64 (.ofNat 1)) fun v4 =>
    ih1 s v4 t1 t4 t30 t31

def J199_3 (call : Call) (fu : Nat) (ih1 : St → AV → AV → AV → AV → AV → Out) (s : St) (t32 t1 t4 t30 t31 : AV) : Out :=
    indexSlK 5 t30 t32 fun v5 =>
    loadK ⟨5, true⟩ s v5 fun v6 =>
    allocK s 211 (.cells [(.int .i64 (.ofNat 0)), (.int .i64 (.ofNat 0)), (.int .i64 (.ofNat 0)), .nils, (.int .i64 (.ofNat 0))]) fun v7 s8 =>
    storeK ⟨5, true⟩ s8 v7 v6 fun s9 =>
    loadK ⟨5, true⟩ s9 v7 fun v10 =>
    fieldK 0 t1 fun v11 =>
    loadK ⟨1, false⟩ s9 v11 fun v12 =>
    outK (call 276 [v10, v12] s9) fun v13 s14 =>
    appK 5 1 s14 t4 v13 fun v15 s16 =>
    J199_2 call fu ih1 s16 t32 t1 v15 t30 t31

def L199_1b (call : Call) (fu : Nat) (ih1 : St → AV → AV → AV → AV → AV → Out) (s : St) (t32 t1 t4 t30 t31 : AV) : Out :=
    binK .lss t32 t31 fun v17 =>
    condK v17 (J199_3 call fu ih1 s t32 t1 t4 t30 t31)
    (J199_0 call fu s t4)

def L199_1 (call : Call) (fu : Nat) (n : Nat) : St → AV → AV → AV → AV → AV → Out :=
  Nat.rec (motive := fun _ => St → AV → AV → AV → AV → AV → Out) (fun _ _ _ _ _ _ => .err) (fun _ ih => L199_1b call fu ih) n

def J199_4 (call : Call) (fu : Nat) (s : St) (t1 t3 : AV) : Out :=
    fillK (.bytes 1 0) [(0, 1, t3)] fun v18 => newK s (.row 5 v18) fun i19 s20 =>
    fieldK 2 t1 fun v21 =>
    loadK ⟨1, false⟩ s20 v21 fun v22 =>
    lenSlK v22 fun v23 =>
    convK .u64 (goInt v23) fun v24 =>
    outK (call 200 [(.slice i19 0 1 1 1 false), v24, (.int .i64 (.ofNat 2)), (.bool false)] s20) fun v25 s26 =>
    fieldK 1 t1 fun v27 =>
    loadK ⟨1, false⟩ s26 v27 fun v28 =>
    convK .u64 v28 fun v29 =>
    outK (call 200 [v25, v29, (.int .i64 (.ofNat 4)), (.bool false)] s26) fun v30 s31 =>
    fieldK 2 t1 fun v32 =>
    loadK ⟨1, false⟩ s31 v32 fun v33 =>
    lenSlK v33 fun v34 =>
    L199_1 call fu fu s31 (.int .i64 (.ofNat 0)) t1 v30 v33 (goInt v34)

def J199_5 (call : Call) (fu : Nat) (s : St) (t1 : AV) : Out :=
    fieldK 0 t1 fun v35 =>
    loadK ⟨1, false⟩ s v35 fun v36 =>
    condK v36 (J199_4 call fu s t1 (.int .u8 (.ofNat 1)))
    (J199_4 call fu s t1 (.int .u8 (.ofNat 2)))

def J199_6 (call : Call) (fu : Nat) (s : St) (t1 t14 : AV) : Out :=
    condK t14 (.ret .nils s)
    (J199_5 call fu s t1)

def J199_7 (call : Call) (fu : Nat) (s : St) (t1 t10 t13 : AV) : Out :=
    pickK t10 (.bool true) t13 fun v37 =>
    J199_6 call fu s t1 v37

def F199 (call : Call) (fu : Nat) (args : List AV) (s : St) : Out := match args with
  | [t0] =>
    boxK s 206 3 t0 fun v38 s39 =>
    loadK ⟨3, true⟩ s39 v38 fun v40 =>
    outK (call 274 [v40] s39) fun v41 s42 =>
    notK v41 fun v43 =>
    guardK false v43 (J199_7 call fu s42 v38 v43 (.tup [])) <|
    loadK ⟨3, true⟩ s42 v38 fun v44 =>
    outK (call 275 [v44] s42) fun v45 s46 =>
    notK v45 fun v47 =>
    J199_7 call fu s46 v38 v43 v47
  | _ => .err

abbrev orc199c (call : Call) (fu : Nat) (st : List IH) (id i : Nat) (s : St) (v : List AV) : Out := ch (Nat.beq id 1 && Nat.beq i 7) (J199_7 call fu s (nthL v 0) (nthL v 1) (nthL v 2)) (
    ch (Nat.beq id 2 && Nat.beq i 0) (J199_6 call fu s (nthL v 0) (nthL v 1)) (
    ch (Nat.beq id 3 && Nat.beq i 0) (J199_5 call fu s (nthL v 0)) (
    ch (Nat.beq id 6 && Nat.beq i 0) (J199_4 call fu s (nthL v 0) (nthL v 1)) (
    ch (Nat.beq id 10 && Nat.beq i 0) (J199_3 call fu (fun s x0 x1 x2 x3 x4 => nthI st 0 s [x0, x1, x2, x3, x4]) s (nthL v 0) (nthL v 1) (nthL v 2) (nthL v 3) (nthL v 4)) (
    ch (Nat.beq id 12 && Nat.beq i 0) (J199_2 call fu (fun s x0 x1 x2 x3 x4 => nthI st 0 s [x0, x1, x2, x3, x4]) s (nthL v 0) (nthL v 1) (nthL v 2) (nthL v 3) (nthL v 4)) (
    ch (Nat.beq id 13 && Nat.beq i 0) (J199_0 call fu s (nthL v 0)) (
    .err)))))))
abbrev orc199b (call : Call) (fu : Nat) (st : List IH) (id : Nat) (ih : IH) (s : St) (v : List AV) : Out := ch (Nat.beq id 9) (L199_1b call fu (fun s x0 x1 x2 x3 x4 => ih s [x0, x1, x2, x3, x4]) s (nthL v 0) (nthL v 1) (nthL v 2) (nthL v 3) (nthL v 4)) (
    .err)
abbrev orc199p (call : Call) (fu : Nat) (st : List IH) (id k : Nat) (s : St) (v : List AV) : Out := ch (Nat.beq id 9) (L199_1 call fu k s (nthL v 0) (nthL v 1) (nthL v 2) (nthL v 3) (nthL v 4)) (
    .err)
abbrev orc199m (call : Call) (fu : Nat) (id : Nat) (v : List AV) (s : St) : Out := .err
def lv199 (id i : Nat) : Option (List Tmp) := bif Nat.beq id 1 && Nat.beq i 7 then some [1, 10, 13] else
    bif Nat.beq id 2 && Nat.beq i 0 then some [1, 14] else
    bif Nat.beq id 3 && Nat.beq i 0 then some [1] else
    bif Nat.beq id 6 && Nat.beq i 0 then some [1, 3] else
    bif Nat.beq id 10 && Nat.beq i 0 then some [32, 1, 4, 30, 31] else
    bif Nat.beq id 12 && Nat.beq i 0 then some [32, 1, 4, 30, 31] else
    bif Nat.beq id 9 && Nat.beq i 0 then some [32, 1, 4, 30, 31] else
    bif Nat.beq id 13 && Nat.beq i 0 then some [4] else
    none
end
end Go.Ev.V
